/- (*mover).free and (*mover).cycle walk. -/
import Derived.Test.YthaifmfioabmkaaMovesDo
import Derived.Deep.LoopGhost
namespace Go.Proofs.Ythaifmfioabmkaa.Moves
open Go.RowKit Go.Maps
set_option linter.unusedVariables false
set_option maxRecDepth 100000
def AllOk (S : List Mv) : Prop := ∀ x ∈ S, x.ok
theorem AllOk.dropD {S : List Mv} (h : AllOk S) (p : Int) : AllOk (dropD S p) := fun x hx => h x (mem_dropD.1 hx).1
theorem AllOk.fro {S : List Mv} (h : AllOk S) {p s : Int} (hf : Moves.fro S p = some s) : in64 s := (h _ (fro_mem hf)).2
/-- moves into places that nobody asks for any more -/
def free : Nat → List Mv → List Mv → Int → List Mv × List Mv
  | 0, S, O, _ => (S, O)
  | n + 1, S, O, p => match fro S p with
    | none => (S, O)
    | some s => if 0 < ask S p then (S, O) else free n (dropD S p) (O ++ [⟨p, s⟩]) s
def fre (S O : List Mv) (p : Int) : List Mv × List Mv := free (S.length + 1) S O p
/-- what the mover's calls turn -/
def Turn (w w' : World) (p b1 b2 : Nat) (v v' : Value) : Prop := Only (mvBlocks p b1 b2 v) w w' ∧ FreshV w v v'
theorem Turn.refl (w : World) (p b1 b2 : Nat) (v : Value) : Turn w w p b1 b2 v v := ⟨Only.refl _ _, FreshV.refl _ _⟩
theorem Turn.trans {w w' w'' : World} {p b1 b2 : Nat} {v v' v'' : Value} (h : Turn w w' p b1 b2 v v') (k : Turn w' w'' p b1 b2 v' v'') : Turn w w'' p b1 b2 v v'' := by
  refine ⟨h.1.trans k.1 ?_, h.2.trans k.2 h.1⟩
  intro g hg
  simp only [mvBlocks, List.mem_cons] at hg ⊢
  rcases hg with rfl | rfl | rfl | hg
  · exact .inl (.inl rfl)
  · exact .inl (.inr (.inl rfl))
  · exact .inl (.inr (.inr (.inl rfl)))
  · rcases h.2 g hg with h1 | h1
    · exact .inl (.inr (.inr (.inr h1)))
    · exact .inr h1
set_option maxHeartbeats 1000000 in
theorem free_any (p b1 b2 : Nat) (v : Value) (base N : Nat) (S O : List Mv) (d : Int) (w : World) (h : MW w p b1 b2 v base N S [] O) (ha : AllOk S) (hd : in64 d) (hN : N ≤ 1000) (hb : base ≤ w.heap.size) :
    Calls Try.prog 18 #[.pointer (some ⟨p, 0, none⟩), .int .i64 d] w fun x w' => ∃ v', x = .returned (.tuple #[]) ∧ MW w' p b1 b2 v' base N (fre S O d).1 [] (fre S O d).2 ∧ Turn w w' p b1 b2 v v' := by
  have H := Lib.hid h
  have HA := Lib.hid ha
  have HD := Lib.hid hd
  obtain ⟨r, hr⟩ : ∃ r, fre S O d = r := ⟨_, rfl⟩
  rw [hr]
  have HR := Lib.hid hr
  clear h ha hd hr
  go_enter Try.func18, Try.ntmps18
  go_wp2_with fail
  go_loopg [1] (S.length + 1) (fun gk i wr => ∃ (q : Int) (v1 : Value) (S1 O1 : List Mv), i = .int .i64 q ∧ in64 q ∧ AllOk S1 ∧ S1.length < gk ∧ free gk S1 O1 q = r ∧ MW wr p b1 b2 v1 base N S1 [] O1 ∧ Turn w wr p b1 b2 v v1)
  case atStart => exact ⟨d, v, S, O, rfl, HD.out, HA.out, by omega, HR.out, H.out, Turn.refl _ _ _ _ _⟩
  case round =>
    clear H HA HR HD
    obtain ⟨q, v1, S1, O1, rfl, hq, ha, hlt, hfr, h, ht⟩ := hrel
    obtain ⟨g', rfl⟩ : ∃ g', gk = g' + 1 := ⟨gk - 1, by omega⟩
    obtain ⟨⟨c0, c1, c2⟩, hpv, hp1, hp2⟩ := blk_step h
    obtain ⟨n1, hn1, hvm1⟩ := h.frm
    obtain ⟨n2, f, hn2, hvm2, haf⟩ := h.asked
    have hlk := VM.run_look hvm1 lawI Try.underlying38 (zeroI wr) (keyI hq)
    have hlk2 := VM.run_look1 hvm2 lawI Try.underlying38 (zeroI wr) (keyI hq)
    rw [haf q, List.append_nil] at hlk2
    rw [fromF_ik] at hlk
    have hak := ask_le S1 q
    have hlenN := h.len
    rw [free] at hfr
    have H := Lib.hid h
    have HA := Lib.hid ha
    have HT := Lib.hid ht
    have HQ := Lib.hid hq
    have hbr : base ≤ wr.heap.size := Nat.le_trans hb ht.1.size
    clear h ha ht hvm1 hvm2 haf hq
    cases hf : fro S1 q with
    | none =>
      rw [hf] at hlk hfr
      simp only [Option.map_none, Option.getD_none, Option.isSome_none] at hlk hfr
      go_wp2_with fail
      refine bodyPost_ret (results_none rfl _ _ _) rfl ?_
      subst hfr
      exact ⟨v1, rfl, H.out, HT.out⟩
    | some s =>
      rw [hf] at hlk hfr
      simp only [Option.map_some, Option.getD_some, Option.isSome_some] at hlk hfr
      by_cases hk : 0 < ask S1 q
      · rw [if_pos hk] at hfr
        have e1 : decide ((0 : Int) < (ask S1 q : Int)) = true := decide_eq_true (by omega)
        go_wp2_with fail
        refine bodyPost_ret (results_none rfl _ _ _) rfl ?_
        subst hfr
        exact ⟨v1, rfl, H.out, HT.out⟩
      · rw [if_neg hk] at hfr
        have e1 : decide ((0 : Int) < (ask S1 q : Int)) = false := decide_eq_false (by omega)
        have HF := Lib.hid hf
        have HFR := Lib.hid hfr
        clear hf hfr
        go_wp2_with (go_at_call 23; refine (do_any p b1 b2 v1 base N S1 [] O1 q s wr H.out HF.out HQ.out (HA.out.fro HF.out) hN hbr).mono ?_; rintro x w2 ⟨v2, rfl, h2, ht2⟩)
        go_roundg g'
        case measure => omega
        case rel =>
          have := len_dropD H.out.uniq HF.out
          exact ⟨s, v2, _, _, rfl, HA.out.fro HF.out, HA.out.dropD q, by omega, HFR.out, h2, HT.out.trans ht2⟩
end Go.Proofs.Ythaifmfioabmkaa.Moves
