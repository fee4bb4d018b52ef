/- The document's machine: what code may be. -/
import Derived.Test.YtkdacemachejoaaObjRoneq
namespace Go.Proofs.Ytkdacemachejoaa.Object
open Go.RowKit
set_option linter.unusedVariables false
set_option maxRecDepth 100000
theorem opmem (op : Int) : decide (op ∈ [(16 : Int), 19, 21]) = (op == 16 || op == 19 || op == 21) := by
  rw [Bool.eq_iff_iff]
  simp [or_assoc]
set_option maxHeartbeats 2000000 in
theorem rvmright_any (A : Option Addr) (m cp : Nat) (cs : List Cd) (w : World) (hr : Recs w w.heap.size 5 A m (cs.map Cd.row)) (hm : m ≤ 9000000000000000000) :
    Calls Try.prog 5 #[.slice A m cp] w fun x w' => x = .returned (.bool (vmRight cs)) ∧ Only [] w w' := by
  have hl : cs.length = m := by have := hr.1; simpa using this
  obtain ⟨bb, hbb⟩ : ∃ b, vmRight cs = b := ⟨_, rfl⟩
  rw [hbb]
  have hbb' : (decide (1 ≤ m) && decide (m ≤ 65536) && cs.all (codeOk (m : Int)) && decide (opLast cs ∈ [(16 : Int), 19, 21])) = bb := by rw [← hbb]; unfold vmRight; rw [hl]
  rw [opmem] at hbb'
  have HB := Lib.hid hbb'
  have HL := Lib.hid hl
  have HR := Lib.hid hr
  clear hbb hbb' hl hr
  by_cases hsm : 1 ≤ m ∧ m ≤ 65536
  · obtain ⟨h1, h2⟩ := hsm
    have d1 : decide ((m : Int) < 1) = false := decide_eq_false (by omega)
    have d2 : decide ((65536 : Int) < (m : Int)) = false := decide_eq_false (by omega)
    go_enter Try.func5, Try.ntmps5
    go_wp2_with fail
    go_loopw [3] (fun i wr => ∃ k : Nat, k ≤ m ∧ i = .int .i64 k ∧ Only [] w wr ∧ (cs.take k).all (codeOk (m : Int)) = true) (fun i _ => m - (intOf i).toNat)
    case atStart => exact ⟨0, by omega, rfl, Only.refl _ _, by simp⟩
    case round =>
      obtain ⟨k, hk, rfl, ho, hall⟩ := hrel
      have HALL := Lib.hid hall
      have HO := Lib.hid ho
      clear hall ho
      by_cases hlt : k < m
      · have e1 : decide ((k : Int) < (m : Int)) = true := decide_eq_true (by omega)
        obtain ⟨b, off, rfl, hb, c, hmem, hck, c0, c1, c2, c3, c4⟩ := cd_at HR.out k hlt
        have x0 := HO.out.cell c0 (by simp)
        have x1 := HO.out.cell c1 (by simp)
        have x2 := HO.out.cell c2 (by simp)
        have x3 := HO.out.cell c3 (by simp)
        have x4 := HO.out.cell c4 (by simp)
        have hsn := all_snoc (codeOk (m : Int)) cs k c hck
        have hno := all_no (codeOk (m : Int)) cs c hmem
        have HSN := Lib.hid hsn
        have HNO := Lib.hid hno
        have hON := rone_is c (m : Int) wr
        clear c0 c1 c2 c3 c4 hsn hno hmem hck
        unfold Cd.val at hON
        generalize codeOk (m : Int) c = ok at *
        obtain ⟨op, ca, cb, cc, cn⟩ := c
        simp only at x0 x1 x2 x3 x4 hON
        have HN := Lib.hid hON
        clear hON
        cases ok
        · have HF := Lib.hid (HNO.out rfl)
          go_wp2_with (go_at_call 24; refine HN.out.mono ?_; rintro x w2 ⟨rfl, ho2⟩)
          go_ret
          exact ⟨by rw [← HB.out, HF.out]; simp, HO.out.trans ho2 (by simp)⟩
        · have HF := Lib.hid (HSN.out.trans (by rw [HALL.out, Bool.and_self]))
          go_wp2_with (go_at_call 24; refine HN.out.mono ?_; rintro x w2 ⟨rfl, ho2⟩)
          go_roundw
          case rel => exact ⟨k + 1, by omega, by go_num, HO.out.trans ho2 (by simp), HF.out⟩
          case measure => simp [intOf]; omega
      · obtain rfl : k = m := by omega
        have e1 : decide ((k : Int) < (k : Int)) = false := decide_eq_false (by omega)
        rw [take_all _ _ HL.out] at HALL
        have hk1 : k - 1 < k := by omega
        obtain ⟨b, off, rfl, hb, c, hmem, hck, c0, _⟩ := cd_at HR.out (k - 1) hk1
        have x0 := HO.out.cell c0 (by simp)
        have hlast := last_at cs k c HL.out hck
        have hko : (k : Int) - 1 = ((k - 1 : Nat) : Int) := by omega
        have hlo : (opLast cs == 16 || opLast cs == 19 || opLast cs == 21) = bb := by
          rw [← HB.out, HALL.out, decide_eq_true h1, decide_eq_true h2]
          rfl
        rw [hlast] at hlo
        have HLO := Lib.hid hlo
        clear hlast hlo hck hmem c0 HALL
        have hk64 : IntKind.i64.wrap ((k : Int) - 1) = ((k - 1 : Nat) : Int) := by rw [hko]; exact IntWalk.i64_in _ (by omega)
        generalize c.op = op at *
        clear hko
        go_wp2_with fail
        all_goals
          go_ret
          refine ⟨congrArg (fun b => Ending.returned (Value.bool b)) ?_, HO.out⟩
          have := HLO.out
          simp_all
  · have hF : bb = false := by
      rw [← HB.out]
      have : (decide (1 ≤ m) && decide (m ≤ 65536)) = false := by rw [Bool.and_eq_false_iff, decide_eq_false_iff_not, decide_eq_false_iff_not]; omega
      rw [this]
      rfl
    subst hF
    by_cases h1 : 1 ≤ m
    · have d1 : decide ((m : Int) < 1) = false := decide_eq_false (by omega)
      have d2 : decide ((65536 : Int) < (m : Int)) = true := decide_eq_true (by omega)
      go_enter Try.func5, Try.ntmps5
      go_wp2_with fail
      go_ret
      exact ⟨rfl, Only.refl _ _⟩
    · obtain rfl : m = 0 := by omega
      go_enter Try.func5, Try.ntmps5
      go_wp2_with fail
      go_ret
      exact ⟨rfl, Only.refl _ _⟩
end Go.Proofs.Ytkdacemachejoaa.Object
