/- graph.paths, walked. -/
import Derived.Test.YtdfiibnpckahnaaGTake
namespace Go.Proofs.Ytdfiibnpckahnaa.Graph
open Go.RowKit Go.Shelf Go.Maps
set_option linter.unusedVariables false
set_option maxRecDepth 100000
theorem zeroNd (w : World) : (zeroValue 43).run Try.prog w = .ok (.agg #[.string ⟨#[]⟩, .slice none 0 0]) w := by kernel_rfl
/-- a node's value -/
def ND.val (y : ND) : Value := .agg #[.string (str y.path), .slice y.IA y.imps.length y.Ic]
/-- the map of all paths -/
def IsPM (F : Lit → Option Value) (ps : List Path) : Prop := ∀ p : Path, (p ∉ ps → F (.string p) = none) ∧ (p ∈ ps → ∃ y : ND, F (.string p) = some y.val)
theorem IsPM.snoc {F : Lit → Option Value} {ps : List Path} (h : IsPM F ps) (x : ND) : IsPM (upd F (.string x.path) (some x.val)) (ps ++ [x.path]) := by
  intro p
  by_cases e : p = x.path
  · subst e
    exact ⟨fun hn => absurd (by simp) hn, fun _ => ⟨x, upd_same _ _ _⟩⟩
  · have hne : (Lit.string p) ≠ .string x.path := fun h => e (by injection h)
    refine ⟨fun hn => ?_, fun hm => ?_⟩
    · rw [upd_other _ _ hne]
      exact (h p).1 (fun hm => hn (List.mem_append_left _ hm))
    · rw [upd_other _ _ hne]
      rcases List.mem_append.1 hm with hm | hm
      · exact (h p).2 hm
      · exact absurd (List.mem_singleton.1 hm) e
/-- a look at the map of all paths -/
theorem look_pm {w : World} {b n : Nat} {F : Lit → Option Value} {ps : List Path} (hv : VM Try.prog 9 w b n F) (hF : IsPM F ps) (p : Path) (hp : p.length ≤ 300) :
    ∃ (s : ByteArray) (A : Option Addr) (n c : Nat), (Instr.lookup 44 (.map (some b)) (.string (str p)) true).run Try.prog w = .ok (.tuple #[.agg #[.string s, .slice A n c], .bool (decide (p ∈ ps))]) w := by
  have h1 := hv.run_look lawS Try.underlying44 (zeroNd w) (keyS (k := p) (by unfold maxLen; omega))
  by_cases h : p ∈ ps
  · obtain ⟨y, hy⟩ := (hF p).2 h
    rw [hy] at h1
    exact ⟨_, _, _, _, by rw [h1, decide_eq_true h]; rfl⟩
  · rw [(hF p).1 h] at h1
    exact ⟨_, _, _, _, by rw [h1, decide_eq_false h]; rfl⟩
theorem dup_at {l : List ND} {k : Nat} {x : ND} (hk : l[k]? = some x) (h : x.path ∈ (l.take k).map (·.path)) : ¬ (l.map (·.path)).Nodup := by
  intro hn
  rw [← List.take_append_drop k l, List.map_append, List.nodup_append] at hn
  obtain ⟨h1, h2⟩ := List.getElem?_eq_some_iff.1 hk
  refine hn.2.2 _ h x.path ?_ rfl
  rw [List.drop_eq_getElem_cons h1, h2]
  simp
theorem take_path {l : List ND} {k : Nat} {x : ND} (hk : l[k]? = some x) : (l.take (k + 1)).map (·.path) = (l.take k).map (·.path) ++ [x.path] := by
  obtain ⟨h1, h2⟩ := List.getElem?_eq_some_iff.1 hk
  rw [List.take_succ_eq_append_getElem h1, h2, List.map_append]
  rfl
theorem nodup_snoc {ps : List Path} {p : Path} (h : ps.Nodup) (hp : p ∉ ps) : (ps ++ [p]).Nodup := by
  rw [List.nodup_append]
  exact ⟨h, by simp, fun a ha b hb e => hp (by rw [← List.mem_singleton.1 hb, ← e]; exact ha)⟩
/-- what paths leaves -/
def PathsO (w : World) (l : List ND) (y : Ending) (w' : World) : Prop := Only [] w w' ∧ ((¬ (l.map (·.path)).Nodup ∧ y = .returned (.tuple #[.map none, .bool false])) ∨ ((l.map (·.path)).Nodup ∧ ∃ b n F, y = .returned (.tuple #[.map (some b), .bool true]) ∧ VM Try.prog 9 w' b n F ∧ IsPM F (l.map (·.path)) ∧ w.heap.size ≤ b))
set_option maxHeartbeats 8000000 in
theorem paths_any (A : Option Addr) (m c0 : Nat) (l : List ND) (w : World) (hr : Recs w w.heap.size 2 A m (l.map ND.row)) (hin : ∀ x ∈ l, x.in_ w w.heap.size) (hm : m ≤ 60) :
    Calls Try.prog 19 #[.slice A m c0] w fun y w' => PathsO w l y w' := by
  have HR := Lib.hid hr
  have HIN := Lib.hid hin
  have HL := Lib.hid (show l.length = m by have := hr.1; rwa [List.length_map] at this)
  have hmm := @run_makeMap Try.prog
  have HV0 := Lib.hid (VM.made w Try.prog 9)
  have HO0 := Lib.hid ((Only.refl [] w).alloc (.map #[] 0))
  clear hr hin
  go_enter Try.func19, Try.ntmps19
  go_upto_region 2 with fail
  generalize w.alloc (.map #[] 0) = w1 at *
  obtain ⟨mb, hmb⟩ : ∃ mb, w.heap.size = mb := ⟨_, rfl⟩
  rw [hmb] at HV0 ⊢
  have HMB := Lib.hid hmb
  clear hmb hmm
  go_wp2_with fail
  go_loopw [12] (fun i wr => ∃ (k : Nat) (F : Lit → Option Value), i = .int .i64 k ∧ k ≤ m ∧ VM Try.prog 9 wr mb k F ∧ IsPM F ((l.take k).map (·.path)) ∧ ((l.take k).map (·.path)).Nodup ∧ Only [] w wr) (fun i _ => m - (intOf i).toNat)
  case atStart => exact ⟨0, _, rfl, by omega, HV0.out, fun p => ⟨fun _ => rfl, fun h => absurd h (by simp)⟩, by simp, HO0.out⟩
  case round =>
    obtain ⟨k, F, rfl, hkm, hv, hF, hnd, ho⟩ := hrel
    have HV := Lib.hid hv
    have HF := Lib.hid hF
    have HND := Lib.hid hnd
    have HO := Lib.hid ho
    clear HV0 HO0 hv hF hnd ho
    by_cases hlt : k < m
    · have d1 : decide ((k : Int) < (m : Int)) = true := decide_eq_true (by omega)
      have d1' : decide (k < m) = true := decide_eq_true hlt
      obtain ⟨b, off, hA, hbl, x, hx, hxk, c0', c1'⟩ := nd_at HR.out k hlt
      subst hA
      have y0 := HO.out.cell c0' (by simp)
      have y1 := HO.out.cell c1' (by simp)
      unfold sv at y0
      have hp300 := (HIN.out x hx).c.2.1
      have HXK := Lib.hid hxk
      obtain ⟨wn, hwn⟩ : ∃ wn, wr.alloc (.cells #[.string (str x.path), .slice x.IA x.imps.length x.Ic] 43) = wn := ⟨_, rfl⟩
      have hon : Only [] wr wn := by rw [← hwn]; exact (Only.refl [] wr).alloc _
      have hbn : Blk wn wr.heap.size 43 #[.string (str x.path), .slice x.IA x.imps.length x.Ic] := by rw [← hwn]; exact Blk.new wr _ _
      have HBN := Lib.hid hbn
      have HON := Lib.hid (HO.out.trans hon (by simp))
      have HVN := Lib.hid (HV.out.only hon (by simp))
      obtain ⟨s2, A2, n2, k2, hlk⟩ := look_pm HVN.out HF.out x.path hp300
      obtain ⟨wq, hwq⟩ : ∃ wq, wn.alloc (.cells #[.string s2, .slice A2 n2 k2] 43) = wq := ⟨_, rfl⟩
      have hoq : Only [] wn wq := by rw [← hwq]; exact (Only.refl [] wn).alloc _
      have z0 := hbn.cell 0
      have HOQ := Lib.hid (HON.out.trans hoq (by simp))
      have HVQ := Lib.hid (HVN.out.only hoq (by simp))
      have q0 := hoq.cell z0 (by simp)
      have q1 := hoq.cell (hbn.cell 1) (by simp)
      clear hon hbn hoq c0' c1' hxk hx
      by_cases hth : x.path ∈ (l.take k).map (·.path)
      · rw [decide_eq_true hth] at hlk
        have HD := Lib.hid (dup_at HXK.out hth)
        clear hth
        go_upto_region 5 with fail
        try rw [hwn]
        clear hwn
        go_upto_region 6 with fail
        try rw [hwq]
        go_wp2_with fail
        go_ret2
        exact ⟨HOQ.out, .inl ⟨HD.out, rfl⟩⟩
      · rw [decide_eq_false hth] at hlk
        have HNI := Lib.hid hth
        clear hth
        go_upto_region 5 with fail
        try rw [hwn]
        clear hwn
        go_upto_region 6 with fail
        try rw [hwq]
        clear hwq
        go_upto_region 9 with (at_mapUpdate; refine wpList_put (f := F) (n := k) (val := .agg #[.string (str x.path), .slice x.IA x.imps.length x.Ic]) rfl (.tmp 24) (.tmp 26) (.tmp 27) 44 rfl 9 43 lawS Try.underlying44 rfl HVQ.out (by unfold maxLen; omega) rfl rfl (keyS (k := x.path) (by unfold maxLen; omega)) ?_; intro w7 hv7 ho7; have HV7 := Lib.hid hv7; have HO7 := Lib.hid ho7; clear hv7 ho7)
        have HFIN : Hid (IsPM (upd F (.string x.path) (some (.agg #[.string (str x.path), .slice x.IA x.imps.length x.Ic]))) ((l.take (k + 1)).map (·.path)) ∧ ((l.take (k + 1)).map (·.path)).Nodup) := Lib.hid (by
          rw [take_path HXK.out]
          exact ⟨HF.out.snoc x, nodup_snoc HND.out HNI.out⟩)
        have HOF := Lib.hid (HOQ.out.trans HO7.out (fun q hq => .inr (by rw [List.mem_singleton.1 hq, HMB.out]; exact Nat.le_refl _)))
        go_wp2_with fail
        go_roundw
        case measure => simp [intOf]; omega
        case rel => exact ⟨k + 1, _, by go_num, by omega, HV7.out, HFIN.out.1, HFIN.out.2, HOF.out⟩
    · obtain rfl : k = m := by omega
      have d1 : decide ((k : Int) < (k : Int)) = false := decide_eq_false (by omega)
      have hF := HF.out
      have hN := HND.out
      rw [List.take_of_length_le (by rw [HL.out]; exact Nat.le_refl _)] at hF hN
      have HF2 := Lib.hid hF
      have HN2 := Lib.hid hN
      clear hF hN
      go_wp2_with fail
      go_ret2
      exact ⟨HO.out, .inr ⟨HN2.out, mb, k, F, rfl, HV.out, HF2.out, by rw [HMB.out]; exact Nat.le_refl _⟩⟩
end Go.Proofs.Ytdfiibnpckahnaa.Graph
