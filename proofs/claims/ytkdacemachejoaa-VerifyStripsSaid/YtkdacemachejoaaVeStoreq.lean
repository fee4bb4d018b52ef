/- A store into a frame's slots. -/
import Derived.Test.YtkdacemachejoaaMacA
import Derived.Deep.DeepCutAuto
import Derived.Deep.CutBlock
namespace Go.Proofs.Ytkdacemachejoaa.Vm
open Go.RowKit Go.Shelf Object
set_option linter.unusedVariables false
set_option maxRecDepth 100000
theorem row_ne {w : World} {base e size n : Nat} {v : Value} {rows : List (List Value)} (h : OwnR e size w base v n rows) (g : Nat) {t : TypeId} {cs : Array Value} (hb : Blk w g t cs) (ht : t ≠ e) : g ∉ ownL v := by
  intro hg
  obtain ⟨_, h0⟩ := h.own
  rcases h0 with ⟨rfl, _⟩ | ⟨g', cap, cur, rfl, _, hh, _⟩
  · simp [ownL, Value.ownBlock] at hg
  · simp [ownL, Value.ownBlock] at hg
    subst hg
    exact Blk.ne_ (t := e) hh hb (fun h => ht h.symm) rfl
theorem wrap_le {z : Int} (h0 : 0 ≤ z) (h1 : z ≤ 1000000) : wrap64 z = z := by unfold wrap64; omega
theorem irows_set (l : List Int) (k : Nat) (v : Int) : irows (l.set k v) = (irows l).set k [iv v] := by unfold irows; rw [List.map_set]
theorem irows_rep (l : List Int) (m : Nat) : irows (l ++ List.replicate m 0) = irows l ++ List.replicate m [iv 0] := by unfold irows; rw [List.map_append, List.map_replicate]
/-- what a store leaves: the frame, its new slots -/
def StoreO (w : World) (base fb : Nat) (sv : Value) (f : Fr) (k : Nat) (v : Int) (y : Ending) (w' : World) : Prop :=
  y = .returned (.tuple #[]) ∧ ∃ sv', FIn w' base fb sv' { f with sl := storeL f.sl k v } ∧ Only (fb :: ownL sv) w w' ∧ FreshV w sv sv'
theorem store_low {base fb g c : Nat} {f : Fr} {k : Nat} {v : Int} {w : World} (hok : f.ok) (hb : Blk w fb 55 (f.row (.slice (some ⟨g, 0, none⟩) f.sl.length c))) (hown : OwnR 2 1 w base (.slice (some ⟨g, 0, none⟩) f.sl.length c) f.sl.length (irows f.sl)) (hbase : base ≤ fb) (hk : k < f.sl.length) :
    FIn (w.setCell ⟨g, k, none⟩ (.int .i64 v)) base fb (.slice (some ⟨g, 0, none⟩) f.sl.length c) { f with sl := f.sl.set k v } := by
  have hne : fb ≠ g := fun h => row_ne hown fb hb (by decide) (by simp [ownL, Value.ownBlock, h])
  refine ⟨hok, hb.far (p := ⟨g, k, none⟩) hne _, ?_, hbase⟩
  have h := hown.put1 hk (.int .i64 v)
  rw [show (irows f.sl).set k [.int .i64 v] = irows (f.sl.set k v) from (irows_set f.sl k v).symm] at h
  simpa using h
set_option maxHeartbeats 400000 in
theorem store_any (base fb : Nat) (sv : Value) (f : Fr) (k : Nat) (v : Int) (w : World) (h : FIn w base fb sv f) (hk : k < 16384) (hl : f.sl.length ≤ 16384) (hbase : base ≤ w.heap.size) :
    Calls Try.prog 44 #[.pointer (some ⟨fb, 0, none⟩), .int .i64 (k : Int), .int .i64 v] w (StoreO w base fb sv f k v) := by
  obtain ⟨hok, hb, hown, hbf⟩ := h
  obtain ⟨n, hn⟩ : ∃ n, f.sl.length = n := ⟨_, rfl⟩
  obtain ⟨A, c, rfl, _, _, hr, hsh⟩ := hown.shape (by decide)
  by_cases hlt : k < n
  · have hst : storeL f.sl k v = f.sl.set k v := by unfold storeL; rw [show k + 1 - f.sl.length = 0 by omega]; simp
    unfold StoreO
    rw [hst]
    rcases hsh with ⟨rfl, rfl⟩ | ⟨g, rfl, hg1, hg2⟩
    · have := (hr.at_ 0 (show k < f.sl.length by omega))
      obtain ⟨_, _, h0, _⟩ := this
      cases h0
    · have p8 : w.cell? ⟨fb, 8, none⟩ = some (.slice (some ⟨g, 0, none⟩) n c) := by rw [hb.cell 8, Fr.at_s hok, hn]
      have q : w.cell? ⟨g, k, none⟩ = some (.int .i64 (f.sl.getD k 0)) := by
        have hkl : k < f.sl.length := by omega
        have := hown.cellOf (i := k) (j := 0) hkl (by decide)
        rw [Nat.mul_one, Nat.add_zero] at this
        rw [this]
        unfold irows
        rw [List.getD_eq_getElem?_getD, List.getElem?_map, List.getD_eq_getElem?_getD, List.getElem?_eq_getElem hkl]
        rfl
      have z := hown.frozenOf k
      have hkl : k < f.sl.length := by omega
      have HF := Lib.hid (And.intro (store_low (v := v) hok hb hown hbf hkl) (((Only.refl (fb :: ownL (.slice (some ⟨g, 0, none⟩) f.sl.length c)) w).setCell (p := ⟨g, k, none⟩) (.inl (by simp [ownL, Value.ownBlock])) (.int .i64 v))))
      have d1 : decide ((0 : Int) < (k : Int) + 1 - (n : Int)) = false := decide_eq_false (by omega)
      have d2 : decide ((n : Int) < (k : Int) + 1) = false := decide_eq_false (by omega)
      have hw1 : wrap64 ((k : Int) + 1) = (k : Int) + 1 := by unfold wrap64; omega
      have hw2 : wrap64 ((k : Int) + 1 - (n : Int)) = (k : Int) + 1 - (n : Int) := by unfold wrap64; omega
      clear hb hown hr hok
      rw [hn] at HF ⊢
      go_enter Try.func44, Try.ntmps44
      go_wp2_with fail
      go_end0
      exact ⟨rfl, _, HF.out.1, HF.out.2, FreshV.refl _ _⟩
  · obtain ⟨m, hm⟩ : ∃ m : Nat, k + 1 - n = m := ⟨_, rfl⟩
    have hm0 : 0 < m := by omega
    have em : (k : Int) + 1 - (n : Int) = (m : Int) := by omega
    have hkn : k < n + m := by omega
    have d1 : decide ((0 : Int) < (m : Int)) = true := decide_eq_true (by omega)
    have hw : wrap64 ((k : Int) + 1) = (k : Int) + 1 ∧ wrap64 ((k : Int) + 1 - (n : Int)) = (m : Int) := ⟨wrap_le (by omega) (by omega), by rw [em]; exact wrap_le (by omega) (by omega)⟩
    have HW := Lib.hid (And.intro hkn (And.intro d1 hw))
    clear em d1 hw hkn
    have hst : storeL f.sl k v = (f.sl ++ List.replicate m 0).set k v := by unfold storeL; rw [hn, hm]
    unfold StoreO
    rw [hst]
    obtain ⟨ti, hti, htz, hi2, hi3⟩ := info_parts int64_info
    rw [hn] at hown
    obtain ⟨v', w2, hrun, hE⟩ := run_append_zerosR (P := Try.prog) w base 28 3 28 2 ti _ .i64 .i64 Try.underlying28 Try.underlying3 hti htz rfl rfl hi2 hi3 hown m hm0 (by unfold maxLen; omega) (by omega) hbase
    have hfb := row_ne hown fb hb (by decide)
    have hb2 := hb.only hE.only hfb
    have hnm : n + m = k + 1 := by omega
    have hown2 := hE.own
    rw [show irows f.sl ++ List.replicate m [.int .i64 0] = irows (f.sl ++ List.replicate m 0) from (irows_rep f.sl m).symm] at hown2
    obtain ⟨A2, c2, rfl, _, _, hr2, hsh2⟩ := hown2.shape (by decide)
    rcases hsh2 with ⟨rfl, rfl⟩ | ⟨g2, rfl, hg1, hg2⟩
    · obtain ⟨_, _, h0, _⟩ := hr2.at_ 0 (show 0 < n + m by omega)
      cases h0
    obtain ⟨f1, hf1⟩ : ∃ f1 : Fr, f1 = { f with sl := f.sl ++ List.replicate m 0 } := ⟨_, rfl⟩
    have hl1 : f1.sl.length = n + m := by rw [hf1]; simp only [List.length_append, List.length_replicate, hn]
    have hok1 : f1.ok := by rw [hf1]; exact hok
    obtain ⟨w3, hw3⟩ : ∃ w3, w2.setCell ⟨fb, 8, none⟩ (.slice (some ⟨g2, 0, none⟩) (n + m) c2) = w3 := ⟨_, rfl⟩
    have hb3 : Blk w3 fb 55 (f1.row (.slice (some ⟨g2, 0, none⟩) f1.sl.length c2)) := by
      rw [← hw3, hl1]
      have h := hb2.set_ 8 (.slice (some ⟨g2, 0, none⟩) (n + m) c2)
      rw [Fr.set_s hok] at h
      rw [hf1]
      exact h
    have ho3 : Only [fb] w2 w3 := by rw [← hw3]; exact (Only.refl [fb] w2).setCell (.inl (by simp)) _
    have hfb2 := row_ne hown2 fb hb2 (by decide)
    have hown3 : OwnR 2 1 w3 base (.slice (some ⟨g2, 0, none⟩) f1.sl.length c2) f1.sl.length (irows f1.sl) := by
      rw [hl1, hf1]
      exact hown2.only ho3 (fun x hx hm => hfb2 (by rw [← List.mem_singleton.1 hm]; exact hx))
    have hkl : k < f1.sl.length := by omega
    have hF := store_low (v := v) hok1 hb3 hown3 hbf hkl
    have q : w3.cell? ⟨g2, k, none⟩ = some (.int .i64 (f1.sl.getD k 0)) := by
      have := hown3.cellOf (i := k) (j := 0) hkl (by decide)
      rw [Nat.mul_one, Nat.add_zero] at this
      rw [this]
      unfold irows
      rw [List.getD_eq_getElem?_getD, List.getElem?_map, List.getD_eq_getElem?_getD, List.getElem?_eq_getElem hkl]
      rfl
    have z := hown3.frozenOf k
    have p8 : w.cell? ⟨fb, 8, none⟩ = some (.slice A n c) := by rw [hb.cell 8, Fr.at_s hok, hn]
    have x8 : w2.cell? ⟨fb, 8, none⟩ = some (.slice A n c) := by rw [hb2.cell 8, Fr.at_s hok, hn]
    have z8 := hb2.frozen 8
    have r8 : w3.cell? ⟨fb, 8, none⟩ = some (.slice (some ⟨g2, 0, none⟩) (n + m) c2) := by rw [hb3.cell 8, Fr.at_s hok1, hl1]
    have HE := Lib.hid hE
    have HO : Hid (Only (fb :: ownL (.slice A n c)) w (w3.setCell ⟨g2, k, none⟩ (.int .i64 v))) := Lib.hid (((hE.only.mono (fun x hx => .inl (List.mem_cons_of_mem _ hx))).trans ho3 (fun x hx => .inl (by rw [List.mem_singleton.1 hx]; simp))).setCell (by
      rcases hE.fresh g2 (by simp [ownL, Value.ownBlock]) with h | h
      · exact .inl (List.mem_cons_of_mem _ h)
      · exact .inr h) _)
    have HF : Hid (FIn (w3.setCell ⟨g2, k, none⟩ (.int .i64 v)) base fb (.slice (some ⟨g2, 0, none⟩) (n + m) c2) { f with sl := (f.sl ++ List.replicate m 0).set k v }) := Lib.hid (by rw [hl1, hf1] at hF; exact hF)
    have HRUN := Lib.hid hrun
    clear hfb hfb2 hE hrun hF hb hb2 hb3 hown hown2 hown3
    rw [hn]
    obtain ⟨_, d1, hw1, hw2⟩ := HW.out
    clear hl hbase hbf hg1 hg2 hk
    clear hr hr2 hok hok1 hf1 ho3 hnm hm hst hl1 hkl hlt hsh hn
    go_enter Try.func44, Try.ntmps44
    go_upto_region 2 with fail
    rw [hw2]
    have hkn := HW.out.1
    clear d1 hw1 hw2
    go_wp2_with (at_builtin; refine Lib.wpList_append_run w rfl (.tmp 21) (.tmp 22) 28 3 rfl _ _ rfl rfl _ _ HRUN.out ?_)
    go_end0
    exact ⟨rfl, _, HF.out, HO.out, HE.out.fresh⟩
end Go.Proofs.Ytkdacemachejoaa.Vm
