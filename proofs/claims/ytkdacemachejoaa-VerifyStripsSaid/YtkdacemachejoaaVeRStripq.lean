/- The document's Strip. -/
import Derived.Test.YtkdacemachejoaaVeRReachq
namespace Go.Proofs.Ytkdacemachejoaa.Vm
open Go.RowKit Go.Shelf Go.Maps Object
set_option linter.unusedVariables false
set_option maxRecDepth 100000
set_option maxHeartbeats 8000000 in
theorem rstrip_any (A : Option Addr) (n cc : Nat) (cs : List Cd) (w : World) (hr : Recs w w.heap.size 5 A n (cs.map Cd.row)) (hR : vmRight cs = true) :
    Calls Try.prog 8 #[.slice A n cc] w (StripO cs w) := by
  have hl : cs.length = n := by have := hr.1; simpa using this
  have hlen := (right_len hR).2.1
  have HG := Lib.hid (rreach_any A n cc cs w hr hR)
  have HR := Lib.hid (And.intro hr hR)
  have HL := Lib.hid (And.intro hl hlen)
  clear hr hR hl hlen
  go_enter Try.func8, Try.ntmps8
  go_wp2_with (go_at_call 19; refine HG.out.mono ?_; rintro y w1 ⟨g, rfl, hbl, ho1⟩; have HBL := Lib.hid hbl; have HO1 := Lib.hid ho1; clear hbl ho1)
  go_loopw [4, 5] (fun v i wr => ∃ k : Nat, i = .int .i64 (k : Int) ∧ k ≤ n ∧ OwnR 27 5 wr w1.heap.size v k (((stripL cs).take k).map Cd.row) ∧ Only [] w1 wr) (fun _ i _ => n - (intOf i).toNat)
  case atStart => exact ⟨0, rfl, by omega, OwnR.nil_ _ _ _ _, Only.refl _ _⟩
  case round =>
    obtain ⟨k, rfl, hk, hown, ho⟩ := hrel
    obtain ⟨A3, c3, rfl, hs1, hs2, hs3, hs4⟩ := hown.shape (by decide)
    by_cases hlt : k < n
    · have d1 : decide ((k : Int) < (n : Int)) = true := decide_eq_true (by omega)
      have d1' : decide (k < n) = true := decide_eq_true hlt
      obtain ⟨b, off, x, hA, hx, hcell⟩ := (HBL.out.only0 ho).at_ (j := k) (by rw [reachL_len, HL.out.1]; exact hlt)
      injection hA with hA
      injection hA with hA1 hA2 hA3
      subst hA1
      subst hA2
      rw [Nat.zero_add] at hcell
      obtain ⟨x', hx1, hx2⟩ := reachL_at (cs := cs) (i := k) (by rw [HL.out.1]; exact hlt)
      obtain rfl : x' = x := by rw [hx1] at hx; exact Option.some.inj hx
      have hst := stripL_at (cs := cs) (i := k) (by rw [HL.out.1]; exact hlt)
      have hor : Only [] w wr := HO1.out.trans ho (by simp)
      obtain ⟨cb, co, rfl, hcb, c, _, hc, q0, q1, q2, q3, q4⟩ := cd_at (HR.out.1.only hor (by simp)) k hlt
      have HK := Lib.hid hlt
      have HOWX := Lib.hid hown
      have HLEX : Hid (w1.heap.size ≤ wr.heap.size) := Lib.hid ho.size
      have HOX := Lib.hid ho
      have HC3 : Hid (k + 1 ≤ 65536) := Lib.hid (by have := HL.out; omega)
      have hw : wrap64 ((k : Int) + 1) = ((k + 1 : Nat) : Int) := by have := HL.out; rw [wrap_le (by omega) (by omega)]; omega
      have HW := Lib.hid hw
      have hkn : k < n := hlt
      cases x' with
      | false =>
        have hx3 := hst.2 (fun h => by have := hx2.2 h; cases this)
        have HST := Lib.hid hx3
        clear hk hlt hown ho hx hx1 hx2 hst hor hcb hc q0 q1 q2 q3 q4 hs1 hs2 hs3 hs4 hx3 hw
        go_wp2_with (at_builtin; refine wpList_append1 (w := wr) rfl (.tmp 25) (.tmp 27) 22 rfl Try.underlying22 code_info rfl (by decide) rfl HOWX.out rfl rfl (row := haltC.row) rfl rfl (row_cells _) (by have := HC3.out; omega) (by have := HC3.out; unfold maxLen; omega) (Nat.le_succ_of_le HLEX.out) ?_; intro v' w5 hE; obtain ⟨A5, c5, e5, _⟩ := hE.own.shape (by decide); subst e5; have HE := Lib.hid hE; clear hE)
        have HO5 := Lib.hid (HOX.out.trans HE.out.only (fun q hq => .inr (HOWX.out.lt q hq).1))
        go_roundw
        case measure => rw [HW.out]; simp [intOf]; omega
        case rel =>
          refine ⟨k + 1, by rw [HW.out], HK.out, ?_, HO5.out⟩
          rw [take_snoc HST.out, List.map_append]
          exact HE.out.own
      | true =>
        have hx3 := hst.1 (hx2.1 rfl)
        rw [hc] at hx3
        have HST := Lib.hid hx3
        clear hk hlt hown ho hx hx1 hx2 hst hor hcb hc hs1 hs2 hs3 hs4 hx3 hw
        go_wp2_with (at_builtin; refine wpList_append1 (w := wr) rfl (.tmp 18) (.tmp 23) 22 rfl Try.underlying22 code_info rfl (by decide) rfl HOWX.out rfl rfl (row := c.row) rfl rfl (row_cells _) (by have := HC3.out; omega) (by have := HC3.out; unfold maxLen; omega) (Nat.le_succ_of_le HLEX.out) ?_; intro v' w5 hE; obtain ⟨A5, c5, e5, _⟩ := hE.own.shape (by decide); subst e5; have HE := Lib.hid hE; clear hE)
        have HO5 := Lib.hid (HOX.out.trans HE.out.only (fun q hq => .inr (HOWX.out.lt q hq).1))
        go_roundw
        case measure => rw [HW.out]; simp [intOf]; omega
        case rel =>
          refine ⟨k + 1, by rw [HW.out], HK.out, ?_, HO5.out⟩
          rw [take_snoc HST.out, List.map_append]
          exact HE.out.own
    · obtain rfl : k = n := by omega
      have d1 : decide ((k : Int) < (k : Int)) = false := decide_eq_false (by omega)
      rw [List.take_of_length_le (by rw [stripL_len, HL.out.1]; exact Nat.le_refl _)] at hown
      have HF := Lib.hid (And.intro hown ho)
      clear hown ho hk hlt hs1 hs2 hs3 hs4
      go_wp2_with fail
      go_ret
      exact ⟨_, rfl, by rw [HL.out.1]; exact HF.out.1.mono HO1.out.size, HO1.out.trans HF.out.2 (by simp)⟩
end Go.Proofs.Ytkdacemachejoaa.Vm
