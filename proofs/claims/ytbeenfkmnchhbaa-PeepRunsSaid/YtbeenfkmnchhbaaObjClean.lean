/- An instruction without what is not used: object.Clean and the document's Clean. PRINTED by wip/gen_clean.py -/
import Derived.Test.YtbeenfkmnchhbaaObjRight1
import Derived.RegionTactic
import Derived.BigRegion
namespace Go.Proofs.Ytbeenfkmnchhbaa.Object
open Go.RowKit
set_option linter.unusedVariables false
set_option maxRecDepth 100000
def clean (c : Cd) : Cd :=
  if c.op = 1 ∨ c.op = 14 ∨ c.op = 15 ∨ c.op = 17 ∨ c.op = 22 ∨ c.op = 23 then ⟨c.op, c.a, 0, 0, c.n⟩ else
  if c.op = 18 then ⟨c.op, if -1 ≤ c.a then c.a else -1, 0, 0, c.n⟩ else
  if c.op = 19 then ⟨c.op, if -1 ≤ c.a then c.a else -1, 0, 0, 0⟩ else
  if c.op = 16 then ⟨c.op, 0, 0, 0, c.n⟩ else
  if c.op = 20 then ⟨c.op, c.a, 0, 0, 0⟩ else
  if c.op = 2 ∨ c.op = 3 ∨ c.op = 4 then ⟨c.op, c.a, c.b, 0, 0⟩ else
  if 5 ≤ c.op ∧ c.op ≤ 13 then ⟨c.op, c.a, c.b, c.c, 0⟩ else ⟨c.op, 0, 0, 0, 0⟩
theorem three_is (op : Int) (w : World) (b : Bool) (hb : (decide (5 ≤ op) && decide (op ≤ 13)) = b) : Calls Try.prog 100 #[.int .i64 op] w fun x w' => x = .returned (.bool b) ∧ w = w' := by
  subst hb
  go_enter Try.func100, Try.ntmps100
  go_wp2_with fail
  all_goals
    go_ret
    refine ⟨congrArg (fun b => Ending.returned (Value.bool b)) ?_, rfl⟩
    (rw [Bool.eq_iff_iff]) <;> simp <;> try omega
set_option maxHeartbeats 2000000 in
theorem clean_1 (a b c n : Int) (w : World) : Calls Try.prog 45 #[Cd.val ⟨1, a, b, c, n⟩] w fun x w' => x = .returned (Cd.val ⟨1, a, 0, 0, n⟩) ∧ Only [] w w' := by
  unfold Cd.val
  simp only
  go_enter Try.func45, Try.ntmps45
  go_wp2_with fail
  all_goals (try go_region)
  all_goals go_wp2_with fail
  all_goals (try go_region)
  all_goals go_wp2_with fail
  all_goals
    exact bodyPost_ret (v := .agg #[.int .i64 1, .int .i64 a, .int .i64 0, .int .i64 0, .int .i64 n]) (by simp [results, Try.results45, go_sem]) rfl ⟨rfl, by repeat (first | exact Only.refl _ _ | refine Only.alloc ?_ _ | refine Only.drew ?_ | refine Only.drewN ?_ _ | refine Only.setCell ?_ (.inr (by simp; omega)) _)⟩
set_option maxHeartbeats 2000000 in
theorem clean_14 (a b c n : Int) (w : World) : Calls Try.prog 45 #[Cd.val ⟨14, a, b, c, n⟩] w fun x w' => x = .returned (Cd.val ⟨14, a, 0, 0, n⟩) ∧ Only [] w w' := by
  unfold Cd.val
  simp only
  go_enter Try.func45, Try.ntmps45
  go_wp2_with fail
  all_goals (try go_region)
  all_goals go_wp2_with fail
  all_goals (try go_region)
  all_goals go_wp2_with fail
  all_goals
    exact bodyPost_ret (v := .agg #[.int .i64 14, .int .i64 a, .int .i64 0, .int .i64 0, .int .i64 n]) (by simp [results, Try.results45, go_sem]) rfl ⟨rfl, by repeat (first | exact Only.refl _ _ | refine Only.alloc ?_ _ | refine Only.drew ?_ | refine Only.drewN ?_ _ | refine Only.setCell ?_ (.inr (by simp; omega)) _)⟩
set_option maxHeartbeats 2000000 in
theorem clean_15 (a b c n : Int) (w : World) : Calls Try.prog 45 #[Cd.val ⟨15, a, b, c, n⟩] w fun x w' => x = .returned (Cd.val ⟨15, a, 0, 0, n⟩) ∧ Only [] w w' := by
  unfold Cd.val
  simp only
  go_enter Try.func45, Try.ntmps45
  go_wp2_with fail
  all_goals (try go_region)
  all_goals go_wp2_with fail
  all_goals (try go_region)
  all_goals go_wp2_with fail
  all_goals
    exact bodyPost_ret (v := .agg #[.int .i64 15, .int .i64 a, .int .i64 0, .int .i64 0, .int .i64 n]) (by simp [results, Try.results45, go_sem]) rfl ⟨rfl, by repeat (first | exact Only.refl _ _ | refine Only.alloc ?_ _ | refine Only.drew ?_ | refine Only.drewN ?_ _ | refine Only.setCell ?_ (.inr (by simp; omega)) _)⟩
set_option maxHeartbeats 2000000 in
theorem clean_17 (a b c n : Int) (w : World) : Calls Try.prog 45 #[Cd.val ⟨17, a, b, c, n⟩] w fun x w' => x = .returned (Cd.val ⟨17, a, 0, 0, n⟩) ∧ Only [] w w' := by
  unfold Cd.val
  simp only
  go_enter Try.func45, Try.ntmps45
  go_wp2_with fail
  all_goals (try go_region)
  all_goals go_wp2_with fail
  all_goals (try go_region)
  all_goals go_wp2_with fail
  all_goals
    exact bodyPost_ret (v := .agg #[.int .i64 17, .int .i64 a, .int .i64 0, .int .i64 0, .int .i64 n]) (by simp [results, Try.results45, go_sem]) rfl ⟨rfl, by repeat (first | exact Only.refl _ _ | refine Only.alloc ?_ _ | refine Only.drew ?_ | refine Only.drewN ?_ _ | refine Only.setCell ?_ (.inr (by simp; omega)) _)⟩
set_option maxHeartbeats 2000000 in
theorem clean_22 (a b c n : Int) (w : World) : Calls Try.prog 45 #[Cd.val ⟨22, a, b, c, n⟩] w fun x w' => x = .returned (Cd.val ⟨22, a, 0, 0, n⟩) ∧ Only [] w w' := by
  unfold Cd.val
  simp only
  go_enter Try.func45, Try.ntmps45
  go_wp2_with fail
  all_goals (try go_region)
  all_goals go_wp2_with fail
  all_goals (try go_region)
  all_goals go_wp2_with fail
  all_goals
    exact bodyPost_ret (v := .agg #[.int .i64 22, .int .i64 a, .int .i64 0, .int .i64 0, .int .i64 n]) (by simp [results, Try.results45, go_sem]) rfl ⟨rfl, by repeat (first | exact Only.refl _ _ | refine Only.alloc ?_ _ | refine Only.drew ?_ | refine Only.drewN ?_ _ | refine Only.setCell ?_ (.inr (by simp; omega)) _)⟩
set_option maxHeartbeats 2000000 in
theorem clean_23 (a b c n : Int) (w : World) : Calls Try.prog 45 #[Cd.val ⟨23, a, b, c, n⟩] w fun x w' => x = .returned (Cd.val ⟨23, a, 0, 0, n⟩) ∧ Only [] w w' := by
  unfold Cd.val
  simp only
  go_enter Try.func45, Try.ntmps45
  go_wp2_with fail
  all_goals (try go_region)
  all_goals go_wp2_with fail
  all_goals (try go_region)
  all_goals go_wp2_with fail
  all_goals
    exact bodyPost_ret (v := .agg #[.int .i64 23, .int .i64 a, .int .i64 0, .int .i64 0, .int .i64 n]) (by simp [results, Try.results45, go_sem]) rfl ⟨rfl, by repeat (first | exact Only.refl _ _ | refine Only.alloc ?_ _ | refine Only.drew ?_ | refine Only.drewN ?_ _ | refine Only.setCell ?_ (.inr (by simp; omega)) _)⟩
set_option maxHeartbeats 2000000 in
theorem clean_18h (a b c n : Int) (w : World) (h : -1 < a) : Calls Try.prog 45 #[Cd.val ⟨18, a, b, c, n⟩] w fun x w' => x = .returned (Cd.val ⟨18, a, 0, 0, n⟩) ∧ Only [] w w' := by
  unfold Cd.val
  simp only
  go_enter Try.func45, Try.ntmps45
  go_wp2_with fail
  all_goals (try go_region)
  all_goals go_wp2_with fail
  all_goals (try go_region)
  all_goals go_wp2_with fail
  all_goals
    exact bodyPost_ret (v := .agg #[.int .i64 18, .int .i64 a, .int .i64 0, .int .i64 0, .int .i64 n]) (by simp [results, Try.results45, go_sem]) rfl ⟨rfl, by repeat (first | exact Only.refl _ _ | refine Only.alloc ?_ _ | refine Only.drew ?_ | refine Only.drewN ?_ _ | refine Only.setCell ?_ (.inr (by simp; omega)) _)⟩
set_option maxHeartbeats 2000000 in
theorem clean_18l (a b c n : Int) (w : World) (h : a < -1) : Calls Try.prog 45 #[Cd.val ⟨18, a, b, c, n⟩] w fun x w' => x = .returned (Cd.val ⟨18, -1, 0, 0, n⟩) ∧ Only [] w w' := by
  unfold Cd.val
  simp only
  go_enter Try.func45, Try.ntmps45
  go_wp2_with fail
  all_goals (try go_region)
  all_goals go_wp2_with fail
  all_goals (try go_region)
  all_goals go_wp2_with fail
  all_goals
    exact bodyPost_ret (v := .agg #[.int .i64 18, .int .i64 (-1), .int .i64 0, .int .i64 0, .int .i64 n]) (by simp [results, Try.results45, go_sem]) rfl ⟨rfl, by repeat (first | exact Only.refl _ _ | refine Only.alloc ?_ _ | refine Only.drew ?_ | refine Only.drewN ?_ _ | refine Only.setCell ?_ (.inr (by simp; omega)) _)⟩
set_option maxHeartbeats 2000000 in
theorem clean_18e (b c n : Int) (w : World) : Calls Try.prog 45 #[Cd.val ⟨18, -1, b, c, n⟩] w fun x w' => x = .returned (Cd.val ⟨18, -1, 0, 0, n⟩) ∧ Only [] w w' := by
  unfold Cd.val
  simp only
  go_enter Try.func45, Try.ntmps45
  go_wp2_with fail
  all_goals (try go_region)
  all_goals go_wp2_with fail
  all_goals (try go_region)
  all_goals go_wp2_with fail
  all_goals
    exact bodyPost_ret (v := .agg #[.int .i64 18, .int .i64 (-1), .int .i64 0, .int .i64 0, .int .i64 n]) (by simp [results, Try.results45, go_sem]) rfl ⟨rfl, by repeat (first | exact Only.refl _ _ | refine Only.alloc ?_ _ | refine Only.drew ?_ | refine Only.drewN ?_ _ | refine Only.setCell ?_ (.inr (by simp; omega)) _)⟩
set_option maxHeartbeats 2000000 in
theorem clean_19h (a b c n : Int) (w : World) (h : -1 < a) : Calls Try.prog 45 #[Cd.val ⟨19, a, b, c, n⟩] w fun x w' => x = .returned (Cd.val ⟨19, a, 0, 0, 0⟩) ∧ Only [] w w' := by
  unfold Cd.val
  simp only
  go_enter Try.func45, Try.ntmps45
  go_wp2_with fail
  all_goals (try go_region)
  all_goals go_wp2_with fail
  all_goals (try go_region)
  all_goals go_wp2_with fail
  all_goals
    exact bodyPost_ret (v := .agg #[.int .i64 19, .int .i64 a, .int .i64 0, .int .i64 0, .int .i64 0]) (by simp [results, Try.results45, go_sem]) rfl ⟨rfl, by repeat (first | exact Only.refl _ _ | refine Only.alloc ?_ _ | refine Only.drew ?_ | refine Only.drewN ?_ _ | refine Only.setCell ?_ (.inr (by simp; omega)) _)⟩
set_option maxHeartbeats 2000000 in
theorem clean_19l (a b c n : Int) (w : World) (h : a < -1) : Calls Try.prog 45 #[Cd.val ⟨19, a, b, c, n⟩] w fun x w' => x = .returned (Cd.val ⟨19, -1, 0, 0, 0⟩) ∧ Only [] w w' := by
  unfold Cd.val
  simp only
  go_enter Try.func45, Try.ntmps45
  go_wp2_with fail
  all_goals (try go_region)
  all_goals go_wp2_with fail
  all_goals (try go_region)
  all_goals go_wp2_with fail
  all_goals
    exact bodyPost_ret (v := .agg #[.int .i64 19, .int .i64 (-1), .int .i64 0, .int .i64 0, .int .i64 0]) (by simp [results, Try.results45, go_sem]) rfl ⟨rfl, by repeat (first | exact Only.refl _ _ | refine Only.alloc ?_ _ | refine Only.drew ?_ | refine Only.drewN ?_ _ | refine Only.setCell ?_ (.inr (by simp; omega)) _)⟩
set_option maxHeartbeats 2000000 in
theorem clean_19e (b c n : Int) (w : World) : Calls Try.prog 45 #[Cd.val ⟨19, -1, b, c, n⟩] w fun x w' => x = .returned (Cd.val ⟨19, -1, 0, 0, 0⟩) ∧ Only [] w w' := by
  unfold Cd.val
  simp only
  go_enter Try.func45, Try.ntmps45
  go_wp2_with fail
  all_goals (try go_region)
  all_goals go_wp2_with fail
  all_goals (try go_region)
  all_goals go_wp2_with fail
  all_goals
    exact bodyPost_ret (v := .agg #[.int .i64 19, .int .i64 (-1), .int .i64 0, .int .i64 0, .int .i64 0]) (by simp [results, Try.results45, go_sem]) rfl ⟨rfl, by repeat (first | exact Only.refl _ _ | refine Only.alloc ?_ _ | refine Only.drew ?_ | refine Only.drewN ?_ _ | refine Only.setCell ?_ (.inr (by simp; omega)) _)⟩
set_option maxHeartbeats 2000000 in
theorem clean_16 (a b c n : Int) (w : World) : Calls Try.prog 45 #[Cd.val ⟨16, a, b, c, n⟩] w fun x w' => x = .returned (Cd.val ⟨16, 0, 0, 0, n⟩) ∧ Only [] w w' := by
  unfold Cd.val
  simp only
  go_enter Try.func45, Try.ntmps45
  go_wp2_with fail
  all_goals (try go_region)
  all_goals go_wp2_with fail
  all_goals (try go_region)
  all_goals go_wp2_with fail
  all_goals
    exact bodyPost_ret (v := .agg #[.int .i64 16, .int .i64 0, .int .i64 0, .int .i64 0, .int .i64 n]) (by simp [results, Try.results45, go_sem]) rfl ⟨rfl, by repeat (first | exact Only.refl _ _ | refine Only.alloc ?_ _ | refine Only.drew ?_ | refine Only.drewN ?_ _ | refine Only.setCell ?_ (.inr (by simp; omega)) _)⟩
set_option maxHeartbeats 2000000 in
theorem clean_20 (a b c n : Int) (w : World) : Calls Try.prog 45 #[Cd.val ⟨20, a, b, c, n⟩] w fun x w' => x = .returned (Cd.val ⟨20, a, 0, 0, 0⟩) ∧ Only [] w w' := by
  unfold Cd.val
  simp only
  go_enter Try.func45, Try.ntmps45
  go_wp2_with fail
  all_goals (try go_region)
  all_goals go_wp2_with fail
  all_goals (try go_region)
  all_goals go_wp2_with fail
  all_goals
    exact bodyPost_ret (v := .agg #[.int .i64 20, .int .i64 a, .int .i64 0, .int .i64 0, .int .i64 0]) (by simp [results, Try.results45, go_sem]) rfl ⟨rfl, by repeat (first | exact Only.refl _ _ | refine Only.alloc ?_ _ | refine Only.drew ?_ | refine Only.drewN ?_ _ | refine Only.setCell ?_ (.inr (by simp; omega)) _)⟩
set_option maxHeartbeats 2000000 in
theorem clean_2 (a b c n : Int) (w : World) : Calls Try.prog 45 #[Cd.val ⟨2, a, b, c, n⟩] w fun x w' => x = .returned (Cd.val ⟨2, a, b, 0, 0⟩) ∧ Only [] w w' := by
  unfold Cd.val
  simp only
  go_enter Try.func45, Try.ntmps45
  go_wp2_with fail
  all_goals (try go_region)
  all_goals go_wp2_with fail
  all_goals (try go_region)
  all_goals go_wp2_with fail
  all_goals
    exact bodyPost_ret (v := .agg #[.int .i64 2, .int .i64 a, .int .i64 b, .int .i64 0, .int .i64 0]) (by simp [results, Try.results45, go_sem]) rfl ⟨rfl, by repeat (first | exact Only.refl _ _ | refine Only.alloc ?_ _ | refine Only.drew ?_ | refine Only.drewN ?_ _ | refine Only.setCell ?_ (.inr (by simp; omega)) _)⟩
set_option maxHeartbeats 2000000 in
theorem clean_3 (a b c n : Int) (w : World) : Calls Try.prog 45 #[Cd.val ⟨3, a, b, c, n⟩] w fun x w' => x = .returned (Cd.val ⟨3, a, b, 0, 0⟩) ∧ Only [] w w' := by
  unfold Cd.val
  simp only
  go_enter Try.func45, Try.ntmps45
  go_wp2_with fail
  all_goals (try go_region)
  all_goals go_wp2_with fail
  all_goals (try go_region)
  all_goals go_wp2_with fail
  all_goals
    exact bodyPost_ret (v := .agg #[.int .i64 3, .int .i64 a, .int .i64 b, .int .i64 0, .int .i64 0]) (by simp [results, Try.results45, go_sem]) rfl ⟨rfl, by repeat (first | exact Only.refl _ _ | refine Only.alloc ?_ _ | refine Only.drew ?_ | refine Only.drewN ?_ _ | refine Only.setCell ?_ (.inr (by simp; omega)) _)⟩
set_option maxHeartbeats 2000000 in
theorem clean_4 (a b c n : Int) (w : World) : Calls Try.prog 45 #[Cd.val ⟨4, a, b, c, n⟩] w fun x w' => x = .returned (Cd.val ⟨4, a, b, 0, 0⟩) ∧ Only [] w w' := by
  unfold Cd.val
  simp only
  go_enter Try.func45, Try.ntmps45
  go_wp2_with fail
  all_goals (try go_region)
  all_goals go_wp2_with fail
  all_goals (try go_region)
  all_goals go_wp2_with fail
  all_goals
    exact bodyPost_ret (v := .agg #[.int .i64 4, .int .i64 a, .int .i64 b, .int .i64 0, .int .i64 0]) (by simp [results, Try.results45, go_sem]) rfl ⟨rfl, by repeat (first | exact Only.refl _ _ | refine Only.alloc ?_ _ | refine Only.drew ?_ | refine Only.drewN ?_ _ | refine Only.setCell ?_ (.inr (by simp; omega)) _)⟩
set_option maxHeartbeats 2000000 in
theorem clean_mul (op a b c n : Int) (w : World) (h5 : 5 ≤ op) (h13 : op ≤ 13) : Calls Try.prog 45 #[Cd.val ⟨op, a, b, c, n⟩] w fun x w' => x = .returned (Cd.val ⟨op, a, b, c, 0⟩) ∧ Only [] w w' := by
  unfold Cd.val
  simp only
  have e1 : (op == 1) = false := beq_false_of_ne (by omega)
  have e14 : (op == 14) = false := beq_false_of_ne (by omega)
  have e15 : (op == 15) = false := beq_false_of_ne (by omega)
  have e17 : (op == 17) = false := beq_false_of_ne (by omega)
  have e22 : (op == 22) = false := beq_false_of_ne (by omega)
  have e23 : (op == 23) = false := beq_false_of_ne (by omega)
  have e18 : (op == 18) = false := beq_false_of_ne (by omega)
  have e19 : (op == 19) = false := beq_false_of_ne (by omega)
  have e16 : (op == 16) = false := beq_false_of_ne (by omega)
  have e20 : (op == 20) = false := beq_false_of_ne (by omega)
  have e2 : (op == 2) = false := beq_false_of_ne (by omega)
  have e3 : (op == 3) = false := beq_false_of_ne (by omega)
  have e4 : (op == 4) = false := beq_false_of_ne (by omega)
  have d1 : decide (5 ≤ op) = true := decide_eq_true h5
  have d2 : decide (op ≤ 13) = true := decide_eq_true h13
  have HT := Lib.hid (fun w => three_is op w true (by rw [d1, d2]; rfl))
  go_enter Try.func45, Try.ntmps45
  go_wp2_with (go_at_call 100; refine (HT.out _).mono ?_; rintro x w2 ⟨rfl, rfl⟩)
  all_goals (try go_region)
  all_goals go_wp2_with (go_at_call 100; refine (HT.out _).mono ?_; rintro x w2 ⟨rfl, rfl⟩)
  all_goals (try go_region)
  all_goals go_wp2_with (go_at_call 100; refine (HT.out _).mono ?_; rintro x w2 ⟨rfl, rfl⟩)
  all_goals
    exact bodyPost_ret (v := .agg #[.int .i64 op, .int .i64 a, .int .i64 b, .int .i64 c, .int .i64 0]) (by simp [results, Try.results45, go_sem]) rfl ⟨rfl, by repeat (first | exact Only.refl _ _ | refine Only.alloc ?_ _ | refine Only.drew ?_ | refine Only.drewN ?_ _ | refine Only.setCell ?_ (.inr (by simp; omega)) _)⟩
set_option maxHeartbeats 2000000 in
theorem clean_nolo (op a b c n : Int) (w : World) (h5 : op < 5) (hn : ∀ k ∈ [(1 : Int), 14, 15, 17, 22, 23, 18, 19, 16, 20, 2, 3, 4], op ≠ k) : Calls Try.prog 45 #[Cd.val ⟨op, a, b, c, n⟩] w fun x w' => x = .returned (Cd.val ⟨op, 0, 0, 0, 0⟩) ∧ Only [] w w' := by
  unfold Cd.val
  simp only
  have e1 : (op == 1) = false := beq_false_of_ne (hn 1 (by decide))
  have e14 : (op == 14) = false := beq_false_of_ne (hn 14 (by decide))
  have e15 : (op == 15) = false := beq_false_of_ne (hn 15 (by decide))
  have e17 : (op == 17) = false := beq_false_of_ne (hn 17 (by decide))
  have e22 : (op == 22) = false := beq_false_of_ne (hn 22 (by decide))
  have e23 : (op == 23) = false := beq_false_of_ne (hn 23 (by decide))
  have e18 : (op == 18) = false := beq_false_of_ne (hn 18 (by decide))
  have e19 : (op == 19) = false := beq_false_of_ne (hn 19 (by decide))
  have e16 : (op == 16) = false := beq_false_of_ne (hn 16 (by decide))
  have e20 : (op == 20) = false := beq_false_of_ne (hn 20 (by decide))
  have e2 : (op == 2) = false := beq_false_of_ne (hn 2 (by decide))
  have e3 : (op == 3) = false := beq_false_of_ne (hn 3 (by decide))
  have e4 : (op == 4) = false := beq_false_of_ne (hn 4 (by decide))
  have HT := Lib.hid (fun w => three_is op w false (by rw [Bool.and_eq_false_iff, decide_eq_false_iff_not, decide_eq_false_iff_not]; omega))
  clear hn
  have d1 : decide (5 ≤ op) = false := decide_eq_false (by omega)
  clear h5
  go_enter Try.func45, Try.ntmps45
  go_wp2_with (go_at_call 100; refine (HT.out _).mono ?_; rintro x w2 ⟨rfl, rfl⟩)
  all_goals (try go_region)
  all_goals go_wp2_with (go_at_call 100; refine (HT.out _).mono ?_; rintro x w2 ⟨rfl, rfl⟩)
  all_goals (try go_region)
  all_goals go_wp2_with (go_at_call 100; refine (HT.out _).mono ?_; rintro x w2 ⟨rfl, rfl⟩)
  all_goals
    exact bodyPost_ret (v := .agg #[.int .i64 op, .int .i64 0, .int .i64 0, .int .i64 0, .int .i64 0]) (by simp [results, Try.results45, go_sem]) rfl ⟨rfl, by repeat (first | exact Only.refl _ _ | refine Only.alloc ?_ _ | refine Only.drew ?_ | refine Only.drewN ?_ _ | refine Only.setCell ?_ (.inr (by simp; omega)) _)⟩
set_option maxHeartbeats 2000000 in
theorem clean_nohi (op a b c n : Int) (w : World) (h5 : 13 < op) (hn : ∀ k ∈ [(1 : Int), 14, 15, 17, 22, 23, 18, 19, 16, 20, 2, 3, 4], op ≠ k) : Calls Try.prog 45 #[Cd.val ⟨op, a, b, c, n⟩] w fun x w' => x = .returned (Cd.val ⟨op, 0, 0, 0, 0⟩) ∧ Only [] w w' := by
  unfold Cd.val
  simp only
  have e1 : (op == 1) = false := beq_false_of_ne (hn 1 (by decide))
  have e14 : (op == 14) = false := beq_false_of_ne (hn 14 (by decide))
  have e15 : (op == 15) = false := beq_false_of_ne (hn 15 (by decide))
  have e17 : (op == 17) = false := beq_false_of_ne (hn 17 (by decide))
  have e22 : (op == 22) = false := beq_false_of_ne (hn 22 (by decide))
  have e23 : (op == 23) = false := beq_false_of_ne (hn 23 (by decide))
  have e18 : (op == 18) = false := beq_false_of_ne (hn 18 (by decide))
  have e19 : (op == 19) = false := beq_false_of_ne (hn 19 (by decide))
  have e16 : (op == 16) = false := beq_false_of_ne (hn 16 (by decide))
  have e20 : (op == 20) = false := beq_false_of_ne (hn 20 (by decide))
  have e2 : (op == 2) = false := beq_false_of_ne (hn 2 (by decide))
  have e3 : (op == 3) = false := beq_false_of_ne (hn 3 (by decide))
  have e4 : (op == 4) = false := beq_false_of_ne (hn 4 (by decide))
  have HT := Lib.hid (fun w => three_is op w false (by rw [Bool.and_eq_false_iff, decide_eq_false_iff_not, decide_eq_false_iff_not]; omega))
  clear hn
  have d1 : decide (5 ≤ op) = true := decide_eq_true (by omega)
  have d2 : decide (op ≤ 13) = false := decide_eq_false (by omega)
  clear h5
  go_enter Try.func45, Try.ntmps45
  go_wp2_with (go_at_call 100; refine (HT.out _).mono ?_; rintro x w2 ⟨rfl, rfl⟩)
  all_goals (try go_region)
  all_goals go_wp2_with (go_at_call 100; refine (HT.out _).mono ?_; rintro x w2 ⟨rfl, rfl⟩)
  all_goals (try go_region)
  all_goals go_wp2_with (go_at_call 100; refine (HT.out _).mono ?_; rintro x w2 ⟨rfl, rfl⟩)
  all_goals
    exact bodyPost_ret (v := .agg #[.int .i64 op, .int .i64 0, .int .i64 0, .int .i64 0, .int .i64 0]) (by simp [results, Try.results45, go_sem]) rfl ⟨rfl, by repeat (first | exact Only.refl _ _ | refine Only.alloc ?_ _ | refine Only.drew ?_ | refine Only.drewN ?_ _ | refine Only.setCell ?_ (.inr (by simp; omega)) _)⟩
theorem clean_is (c : Cd) (w : World) : Calls Try.prog 45 #[c.val] w fun x w' => x = .returned (clean c).val ∧ Only [] w w' := by
  obtain ⟨op, a, b, c, n⟩ := c
  by_cases hx : op ∈ [(1 : Int), 14, 15, 17, 22, 23, 18, 19, 16, 20, 2, 3, 4]
  · simp only [List.mem_cons, List.mem_nil_iff, or_false] at hx
    rcases hx with rfl | rfl | rfl | rfl | rfl | rfl | rfl | rfl | rfl | rfl | rfl | rfl | rfl
    · exact clean_1 a b c n w
    · exact clean_14 a b c n w
    · exact clean_15 a b c n w
    · exact clean_17 a b c n w
    · exact clean_22 a b c n w
    · exact clean_23 a b c n w
    · rcases Int.lt_trichotomy a (-1) with h | rfl | h
      · have e : clean ⟨18, a, b, c, n⟩ = ⟨18, -1, 0, 0, n⟩ := by unfold clean; simp; omega
        rw [e]; exact clean_18l a b c n w h
      · exact clean_18e b c n w
      · have e : clean ⟨18, a, b, c, n⟩ = ⟨18, a, 0, 0, n⟩ := by unfold clean; simp; omega
        rw [e]; exact clean_18h a b c n w h
    · rcases Int.lt_trichotomy a (-1) with h | rfl | h
      · have e : clean ⟨19, a, b, c, n⟩ = ⟨19, -1, 0, 0, 0⟩ := by unfold clean; simp; omega
        rw [e]; exact clean_19l a b c n w h
      · exact clean_19e b c n w
      · have e : clean ⟨19, a, b, c, n⟩ = ⟨19, a, 0, 0, 0⟩ := by unfold clean; simp; omega
        rw [e]; exact clean_19h a b c n w h
    · exact clean_16 a b c n w
    · exact clean_20 a b c n w
    · exact clean_2 a b c n w
    · exact clean_3 a b c n w
    · exact clean_4 a b c n w
  · have hn : ∀ k ∈ [(1 : Int), 14, 15, 17, 22, 23, 18, 19, 16, 20, 2, 3, 4], op ≠ k := fun k hk h => hx (h ▸ hk)
    simp only [List.mem_cons, List.mem_nil_iff, or_false, not_or] at hx
    by_cases h5 : 5 ≤ op ∧ op ≤ 13
    · have e : clean ⟨op, a, b, c, n⟩ = ⟨op, a, b, c, 0⟩ := by unfold clean; simp [hx, h5]
      rw [e]; exact clean_mul op a b c n w h5.1 h5.2
    · have e : clean ⟨op, a, b, c, n⟩ = ⟨op, 0, 0, 0, 0⟩ := by unfold clean; simp only [hx, h5, or_self, if_false]
      rw [e]
      by_cases hlo : op < 5
      · exact clean_nolo op a b c n w hlo hn
      · exact clean_nohi op a b c n w (by omega) hn
set_option maxHeartbeats 2000000 in
theorem rclean_1 (a b c n : Int) (w : World) : Calls Try.prog 46 #[Cd.val ⟨1, a, b, c, n⟩] w fun x w' => x = .returned (Cd.val ⟨1, a, 0, 0, n⟩) ∧ Only [] w w' := by
  unfold Cd.val
  simp only
  go_enter Try.func46, Try.ntmps46
  go_wp2_with fail
  all_goals (try go_region)
  all_goals go_wp2_with fail
  all_goals (try go_region)
  all_goals go_wp2_with fail
  all_goals
    exact bodyPost_ret (v := .agg #[.int .i64 1, .int .i64 a, .int .i64 0, .int .i64 0, .int .i64 n]) (by simp [results, Try.results46, go_sem]) rfl ⟨rfl, by repeat (first | exact Only.refl _ _ | refine Only.alloc ?_ _ | refine Only.drew ?_ | refine Only.drewN ?_ _ | refine Only.setCell ?_ (.inr (by simp; omega)) _)⟩
set_option maxHeartbeats 2000000 in
theorem rclean_14 (a b c n : Int) (w : World) : Calls Try.prog 46 #[Cd.val ⟨14, a, b, c, n⟩] w fun x w' => x = .returned (Cd.val ⟨14, a, 0, 0, n⟩) ∧ Only [] w w' := by
  unfold Cd.val
  simp only
  go_enter Try.func46, Try.ntmps46
  go_wp2_with fail
  all_goals (try go_region)
  all_goals go_wp2_with fail
  all_goals (try go_region)
  all_goals go_wp2_with fail
  all_goals
    exact bodyPost_ret (v := .agg #[.int .i64 14, .int .i64 a, .int .i64 0, .int .i64 0, .int .i64 n]) (by simp [results, Try.results46, go_sem]) rfl ⟨rfl, by repeat (first | exact Only.refl _ _ | refine Only.alloc ?_ _ | refine Only.drew ?_ | refine Only.drewN ?_ _ | refine Only.setCell ?_ (.inr (by simp; omega)) _)⟩
set_option maxHeartbeats 2000000 in
theorem rclean_15 (a b c n : Int) (w : World) : Calls Try.prog 46 #[Cd.val ⟨15, a, b, c, n⟩] w fun x w' => x = .returned (Cd.val ⟨15, a, 0, 0, n⟩) ∧ Only [] w w' := by
  unfold Cd.val
  simp only
  go_enter Try.func46, Try.ntmps46
  go_wp2_with fail
  all_goals (try go_region)
  all_goals go_wp2_with fail
  all_goals (try go_region)
  all_goals go_wp2_with fail
  all_goals
    exact bodyPost_ret (v := .agg #[.int .i64 15, .int .i64 a, .int .i64 0, .int .i64 0, .int .i64 n]) (by simp [results, Try.results46, go_sem]) rfl ⟨rfl, by repeat (first | exact Only.refl _ _ | refine Only.alloc ?_ _ | refine Only.drew ?_ | refine Only.drewN ?_ _ | refine Only.setCell ?_ (.inr (by simp; omega)) _)⟩
set_option maxHeartbeats 2000000 in
theorem rclean_17 (a b c n : Int) (w : World) : Calls Try.prog 46 #[Cd.val ⟨17, a, b, c, n⟩] w fun x w' => x = .returned (Cd.val ⟨17, a, 0, 0, n⟩) ∧ Only [] w w' := by
  unfold Cd.val
  simp only
  go_enter Try.func46, Try.ntmps46
  go_wp2_with fail
  all_goals (try go_region)
  all_goals go_wp2_with fail
  all_goals (try go_region)
  all_goals go_wp2_with fail
  all_goals
    exact bodyPost_ret (v := .agg #[.int .i64 17, .int .i64 a, .int .i64 0, .int .i64 0, .int .i64 n]) (by simp [results, Try.results46, go_sem]) rfl ⟨rfl, by repeat (first | exact Only.refl _ _ | refine Only.alloc ?_ _ | refine Only.drew ?_ | refine Only.drewN ?_ _ | refine Only.setCell ?_ (.inr (by simp; omega)) _)⟩
set_option maxHeartbeats 2000000 in
theorem rclean_22 (a b c n : Int) (w : World) : Calls Try.prog 46 #[Cd.val ⟨22, a, b, c, n⟩] w fun x w' => x = .returned (Cd.val ⟨22, a, 0, 0, n⟩) ∧ Only [] w w' := by
  unfold Cd.val
  simp only
  go_enter Try.func46, Try.ntmps46
  go_wp2_with fail
  all_goals (try go_region)
  all_goals go_wp2_with fail
  all_goals (try go_region)
  all_goals go_wp2_with fail
  all_goals
    exact bodyPost_ret (v := .agg #[.int .i64 22, .int .i64 a, .int .i64 0, .int .i64 0, .int .i64 n]) (by simp [results, Try.results46, go_sem]) rfl ⟨rfl, by repeat (first | exact Only.refl _ _ | refine Only.alloc ?_ _ | refine Only.drew ?_ | refine Only.drewN ?_ _ | refine Only.setCell ?_ (.inr (by simp; omega)) _)⟩
set_option maxHeartbeats 2000000 in
theorem rclean_23 (a b c n : Int) (w : World) : Calls Try.prog 46 #[Cd.val ⟨23, a, b, c, n⟩] w fun x w' => x = .returned (Cd.val ⟨23, a, 0, 0, n⟩) ∧ Only [] w w' := by
  unfold Cd.val
  simp only
  go_enter Try.func46, Try.ntmps46
  go_wp2_with fail
  all_goals (try go_region)
  all_goals go_wp2_with fail
  all_goals (try go_region)
  all_goals go_wp2_with fail
  all_goals
    exact bodyPost_ret (v := .agg #[.int .i64 23, .int .i64 a, .int .i64 0, .int .i64 0, .int .i64 n]) (by simp [results, Try.results46, go_sem]) rfl ⟨rfl, by repeat (first | exact Only.refl _ _ | refine Only.alloc ?_ _ | refine Only.drew ?_ | refine Only.drewN ?_ _ | refine Only.setCell ?_ (.inr (by simp; omega)) _)⟩
set_option maxHeartbeats 2000000 in
theorem rclean_18h (a b c n : Int) (w : World) (h : -1 < a) : Calls Try.prog 46 #[Cd.val ⟨18, a, b, c, n⟩] w fun x w' => x = .returned (Cd.val ⟨18, a, 0, 0, n⟩) ∧ Only [] w w' := by
  unfold Cd.val
  simp only
  go_enter Try.func46, Try.ntmps46
  go_wp2_with fail
  all_goals (try go_region)
  all_goals go_wp2_with fail
  all_goals (try go_region)
  all_goals go_wp2_with fail
  all_goals
    exact bodyPost_ret (v := .agg #[.int .i64 18, .int .i64 a, .int .i64 0, .int .i64 0, .int .i64 n]) (by simp [results, Try.results46, go_sem]) rfl ⟨rfl, by repeat (first | exact Only.refl _ _ | refine Only.alloc ?_ _ | refine Only.drew ?_ | refine Only.drewN ?_ _ | refine Only.setCell ?_ (.inr (by simp; omega)) _)⟩
set_option maxHeartbeats 2000000 in
theorem rclean_18l (a b c n : Int) (w : World) (h : a < -1) : Calls Try.prog 46 #[Cd.val ⟨18, a, b, c, n⟩] w fun x w' => x = .returned (Cd.val ⟨18, -1, 0, 0, n⟩) ∧ Only [] w w' := by
  unfold Cd.val
  simp only
  go_enter Try.func46, Try.ntmps46
  go_wp2_with fail
  all_goals (try go_region)
  all_goals go_wp2_with fail
  all_goals (try go_region)
  all_goals go_wp2_with fail
  all_goals
    exact bodyPost_ret (v := .agg #[.int .i64 18, .int .i64 (-1), .int .i64 0, .int .i64 0, .int .i64 n]) (by simp [results, Try.results46, go_sem]) rfl ⟨rfl, by repeat (first | exact Only.refl _ _ | refine Only.alloc ?_ _ | refine Only.drew ?_ | refine Only.drewN ?_ _ | refine Only.setCell ?_ (.inr (by simp; omega)) _)⟩
set_option maxHeartbeats 2000000 in
theorem rclean_18e (b c n : Int) (w : World) : Calls Try.prog 46 #[Cd.val ⟨18, -1, b, c, n⟩] w fun x w' => x = .returned (Cd.val ⟨18, -1, 0, 0, n⟩) ∧ Only [] w w' := by
  unfold Cd.val
  simp only
  go_enter Try.func46, Try.ntmps46
  go_wp2_with fail
  all_goals (try go_region)
  all_goals go_wp2_with fail
  all_goals (try go_region)
  all_goals go_wp2_with fail
  all_goals
    exact bodyPost_ret (v := .agg #[.int .i64 18, .int .i64 (-1), .int .i64 0, .int .i64 0, .int .i64 n]) (by simp [results, Try.results46, go_sem]) rfl ⟨rfl, by repeat (first | exact Only.refl _ _ | refine Only.alloc ?_ _ | refine Only.drew ?_ | refine Only.drewN ?_ _ | refine Only.setCell ?_ (.inr (by simp; omega)) _)⟩
set_option maxHeartbeats 2000000 in
theorem rclean_19h (a b c n : Int) (w : World) (h : -1 < a) : Calls Try.prog 46 #[Cd.val ⟨19, a, b, c, n⟩] w fun x w' => x = .returned (Cd.val ⟨19, a, 0, 0, 0⟩) ∧ Only [] w w' := by
  unfold Cd.val
  simp only
  go_enter Try.func46, Try.ntmps46
  go_wp2_with fail
  all_goals (try go_region)
  all_goals go_wp2_with fail
  all_goals (try go_region)
  all_goals go_wp2_with fail
  all_goals
    exact bodyPost_ret (v := .agg #[.int .i64 19, .int .i64 a, .int .i64 0, .int .i64 0, .int .i64 0]) (by simp [results, Try.results46, go_sem]) rfl ⟨rfl, by repeat (first | exact Only.refl _ _ | refine Only.alloc ?_ _ | refine Only.drew ?_ | refine Only.drewN ?_ _ | refine Only.setCell ?_ (.inr (by simp; omega)) _)⟩
set_option maxHeartbeats 2000000 in
theorem rclean_19l (a b c n : Int) (w : World) (h : a < -1) : Calls Try.prog 46 #[Cd.val ⟨19, a, b, c, n⟩] w fun x w' => x = .returned (Cd.val ⟨19, -1, 0, 0, 0⟩) ∧ Only [] w w' := by
  unfold Cd.val
  simp only
  go_enter Try.func46, Try.ntmps46
  go_wp2_with fail
  all_goals (try go_region)
  all_goals go_wp2_with fail
  all_goals (try go_region)
  all_goals go_wp2_with fail
  all_goals
    exact bodyPost_ret (v := .agg #[.int .i64 19, .int .i64 (-1), .int .i64 0, .int .i64 0, .int .i64 0]) (by simp [results, Try.results46, go_sem]) rfl ⟨rfl, by repeat (first | exact Only.refl _ _ | refine Only.alloc ?_ _ | refine Only.drew ?_ | refine Only.drewN ?_ _ | refine Only.setCell ?_ (.inr (by simp; omega)) _)⟩
set_option maxHeartbeats 2000000 in
theorem rclean_19e (b c n : Int) (w : World) : Calls Try.prog 46 #[Cd.val ⟨19, -1, b, c, n⟩] w fun x w' => x = .returned (Cd.val ⟨19, -1, 0, 0, 0⟩) ∧ Only [] w w' := by
  unfold Cd.val
  simp only
  go_enter Try.func46, Try.ntmps46
  go_wp2_with fail
  all_goals (try go_region)
  all_goals go_wp2_with fail
  all_goals (try go_region)
  all_goals go_wp2_with fail
  all_goals
    exact bodyPost_ret (v := .agg #[.int .i64 19, .int .i64 (-1), .int .i64 0, .int .i64 0, .int .i64 0]) (by simp [results, Try.results46, go_sem]) rfl ⟨rfl, by repeat (first | exact Only.refl _ _ | refine Only.alloc ?_ _ | refine Only.drew ?_ | refine Only.drewN ?_ _ | refine Only.setCell ?_ (.inr (by simp; omega)) _)⟩
set_option maxHeartbeats 2000000 in
theorem rclean_16 (a b c n : Int) (w : World) : Calls Try.prog 46 #[Cd.val ⟨16, a, b, c, n⟩] w fun x w' => x = .returned (Cd.val ⟨16, 0, 0, 0, n⟩) ∧ Only [] w w' := by
  unfold Cd.val
  simp only
  go_enter Try.func46, Try.ntmps46
  go_wp2_with fail
  all_goals (try go_region)
  all_goals go_wp2_with fail
  all_goals (try go_region)
  all_goals go_wp2_with fail
  all_goals
    exact bodyPost_ret (v := .agg #[.int .i64 16, .int .i64 0, .int .i64 0, .int .i64 0, .int .i64 n]) (by simp [results, Try.results46, go_sem]) rfl ⟨rfl, by repeat (first | exact Only.refl _ _ | refine Only.alloc ?_ _ | refine Only.drew ?_ | refine Only.drewN ?_ _ | refine Only.setCell ?_ (.inr (by simp; omega)) _)⟩
set_option maxHeartbeats 2000000 in
theorem rclean_20 (a b c n : Int) (w : World) : Calls Try.prog 46 #[Cd.val ⟨20, a, b, c, n⟩] w fun x w' => x = .returned (Cd.val ⟨20, a, 0, 0, 0⟩) ∧ Only [] w w' := by
  unfold Cd.val
  simp only
  go_enter Try.func46, Try.ntmps46
  go_wp2_with fail
  all_goals (try go_region)
  all_goals go_wp2_with fail
  all_goals (try go_region)
  all_goals go_wp2_with fail
  all_goals
    exact bodyPost_ret (v := .agg #[.int .i64 20, .int .i64 a, .int .i64 0, .int .i64 0, .int .i64 0]) (by simp [results, Try.results46, go_sem]) rfl ⟨rfl, by repeat (first | exact Only.refl _ _ | refine Only.alloc ?_ _ | refine Only.drew ?_ | refine Only.drewN ?_ _ | refine Only.setCell ?_ (.inr (by simp; omega)) _)⟩
set_option maxHeartbeats 2000000 in
theorem rclean_2 (a b c n : Int) (w : World) : Calls Try.prog 46 #[Cd.val ⟨2, a, b, c, n⟩] w fun x w' => x = .returned (Cd.val ⟨2, a, b, 0, 0⟩) ∧ Only [] w w' := by
  unfold Cd.val
  simp only
  go_enter Try.func46, Try.ntmps46
  go_wp2_with fail
  all_goals (try go_region)
  all_goals go_wp2_with fail
  all_goals (try go_region)
  all_goals go_wp2_with fail
  all_goals
    exact bodyPost_ret (v := .agg #[.int .i64 2, .int .i64 a, .int .i64 b, .int .i64 0, .int .i64 0]) (by simp [results, Try.results46, go_sem]) rfl ⟨rfl, by repeat (first | exact Only.refl _ _ | refine Only.alloc ?_ _ | refine Only.drew ?_ | refine Only.drewN ?_ _ | refine Only.setCell ?_ (.inr (by simp; omega)) _)⟩
set_option maxHeartbeats 2000000 in
theorem rclean_3 (a b c n : Int) (w : World) : Calls Try.prog 46 #[Cd.val ⟨3, a, b, c, n⟩] w fun x w' => x = .returned (Cd.val ⟨3, a, b, 0, 0⟩) ∧ Only [] w w' := by
  unfold Cd.val
  simp only
  go_enter Try.func46, Try.ntmps46
  go_wp2_with fail
  all_goals (try go_region)
  all_goals go_wp2_with fail
  all_goals (try go_region)
  all_goals go_wp2_with fail
  all_goals
    exact bodyPost_ret (v := .agg #[.int .i64 3, .int .i64 a, .int .i64 b, .int .i64 0, .int .i64 0]) (by simp [results, Try.results46, go_sem]) rfl ⟨rfl, by repeat (first | exact Only.refl _ _ | refine Only.alloc ?_ _ | refine Only.drew ?_ | refine Only.drewN ?_ _ | refine Only.setCell ?_ (.inr (by simp; omega)) _)⟩
set_option maxHeartbeats 2000000 in
theorem rclean_4 (a b c n : Int) (w : World) : Calls Try.prog 46 #[Cd.val ⟨4, a, b, c, n⟩] w fun x w' => x = .returned (Cd.val ⟨4, a, b, 0, 0⟩) ∧ Only [] w w' := by
  unfold Cd.val
  simp only
  go_enter Try.func46, Try.ntmps46
  go_wp2_with fail
  all_goals (try go_region)
  all_goals go_wp2_with fail
  all_goals (try go_region)
  all_goals go_wp2_with fail
  all_goals
    exact bodyPost_ret (v := .agg #[.int .i64 4, .int .i64 a, .int .i64 b, .int .i64 0, .int .i64 0]) (by simp [results, Try.results46, go_sem]) rfl ⟨rfl, by repeat (first | exact Only.refl _ _ | refine Only.alloc ?_ _ | refine Only.drew ?_ | refine Only.drewN ?_ _ | refine Only.setCell ?_ (.inr (by simp; omega)) _)⟩
set_option maxHeartbeats 2000000 in
theorem rclean_mul (op a b c n : Int) (w : World) (h5 : 5 ≤ op) (h13 : op ≤ 13) : Calls Try.prog 46 #[Cd.val ⟨op, a, b, c, n⟩] w fun x w' => x = .returned (Cd.val ⟨op, a, b, c, 0⟩) ∧ Only [] w w' := by
  unfold Cd.val
  simp only
  have e1 : (op == 1) = false := beq_false_of_ne (by omega)
  have e14 : (op == 14) = false := beq_false_of_ne (by omega)
  have e15 : (op == 15) = false := beq_false_of_ne (by omega)
  have e17 : (op == 17) = false := beq_false_of_ne (by omega)
  have e22 : (op == 22) = false := beq_false_of_ne (by omega)
  have e23 : (op == 23) = false := beq_false_of_ne (by omega)
  have e18 : (op == 18) = false := beq_false_of_ne (by omega)
  have e19 : (op == 19) = false := beq_false_of_ne (by omega)
  have e16 : (op == 16) = false := beq_false_of_ne (by omega)
  have e20 : (op == 20) = false := beq_false_of_ne (by omega)
  have e2 : (op == 2) = false := beq_false_of_ne (by omega)
  have e3 : (op == 3) = false := beq_false_of_ne (by omega)
  have e4 : (op == 4) = false := beq_false_of_ne (by omega)
  have d1 : decide (5 ≤ op) = true := decide_eq_true h5
  have d2 : decide (op ≤ 13) = true := decide_eq_true h13
  go_enter Try.func46, Try.ntmps46
  go_wp2_with fail
  all_goals (try go_region)
  all_goals go_wp2_with fail
  all_goals (try go_region)
  all_goals go_wp2_with fail
  all_goals
    exact bodyPost_ret (v := .agg #[.int .i64 op, .int .i64 a, .int .i64 b, .int .i64 c, .int .i64 0]) (by simp [results, Try.results46, go_sem]) rfl ⟨rfl, by repeat (first | exact Only.refl _ _ | refine Only.alloc ?_ _ | refine Only.drew ?_ | refine Only.drewN ?_ _ | refine Only.setCell ?_ (.inr (by simp; omega)) _)⟩
set_option maxHeartbeats 2000000 in
theorem rclean_nolo (op a b c n : Int) (w : World) (h5 : op < 5) (hn : ∀ k ∈ [(1 : Int), 14, 15, 17, 22, 23, 18, 19, 16, 20, 2, 3, 4], op ≠ k) : Calls Try.prog 46 #[Cd.val ⟨op, a, b, c, n⟩] w fun x w' => x = .returned (Cd.val ⟨op, 0, 0, 0, 0⟩) ∧ Only [] w w' := by
  unfold Cd.val
  simp only
  have e1 : (op == 1) = false := beq_false_of_ne (hn 1 (by decide))
  have e14 : (op == 14) = false := beq_false_of_ne (hn 14 (by decide))
  have e15 : (op == 15) = false := beq_false_of_ne (hn 15 (by decide))
  have e17 : (op == 17) = false := beq_false_of_ne (hn 17 (by decide))
  have e22 : (op == 22) = false := beq_false_of_ne (hn 22 (by decide))
  have e23 : (op == 23) = false := beq_false_of_ne (hn 23 (by decide))
  have e18 : (op == 18) = false := beq_false_of_ne (hn 18 (by decide))
  have e19 : (op == 19) = false := beq_false_of_ne (hn 19 (by decide))
  have e16 : (op == 16) = false := beq_false_of_ne (hn 16 (by decide))
  have e20 : (op == 20) = false := beq_false_of_ne (hn 20 (by decide))
  have e2 : (op == 2) = false := beq_false_of_ne (hn 2 (by decide))
  have e3 : (op == 3) = false := beq_false_of_ne (hn 3 (by decide))
  have e4 : (op == 4) = false := beq_false_of_ne (hn 4 (by decide))
  clear hn
  have d1 : decide (5 ≤ op) = false := decide_eq_false (by omega)
  clear h5
  go_enter Try.func46, Try.ntmps46
  go_wp2_with fail
  all_goals (try go_region)
  all_goals go_wp2_with fail
  all_goals (try go_region)
  all_goals go_wp2_with fail
  all_goals
    exact bodyPost_ret (v := .agg #[.int .i64 op, .int .i64 0, .int .i64 0, .int .i64 0, .int .i64 0]) (by simp [results, Try.results46, go_sem]) rfl ⟨rfl, by repeat (first | exact Only.refl _ _ | refine Only.alloc ?_ _ | refine Only.drew ?_ | refine Only.drewN ?_ _ | refine Only.setCell ?_ (.inr (by simp; omega)) _)⟩
set_option maxHeartbeats 2000000 in
theorem rclean_nohi (op a b c n : Int) (w : World) (h5 : 13 < op) (hn : ∀ k ∈ [(1 : Int), 14, 15, 17, 22, 23, 18, 19, 16, 20, 2, 3, 4], op ≠ k) : Calls Try.prog 46 #[Cd.val ⟨op, a, b, c, n⟩] w fun x w' => x = .returned (Cd.val ⟨op, 0, 0, 0, 0⟩) ∧ Only [] w w' := by
  unfold Cd.val
  simp only
  have e1 : (op == 1) = false := beq_false_of_ne (hn 1 (by decide))
  have e14 : (op == 14) = false := beq_false_of_ne (hn 14 (by decide))
  have e15 : (op == 15) = false := beq_false_of_ne (hn 15 (by decide))
  have e17 : (op == 17) = false := beq_false_of_ne (hn 17 (by decide))
  have e22 : (op == 22) = false := beq_false_of_ne (hn 22 (by decide))
  have e23 : (op == 23) = false := beq_false_of_ne (hn 23 (by decide))
  have e18 : (op == 18) = false := beq_false_of_ne (hn 18 (by decide))
  have e19 : (op == 19) = false := beq_false_of_ne (hn 19 (by decide))
  have e16 : (op == 16) = false := beq_false_of_ne (hn 16 (by decide))
  have e20 : (op == 20) = false := beq_false_of_ne (hn 20 (by decide))
  have e2 : (op == 2) = false := beq_false_of_ne (hn 2 (by decide))
  have e3 : (op == 3) = false := beq_false_of_ne (hn 3 (by decide))
  have e4 : (op == 4) = false := beq_false_of_ne (hn 4 (by decide))
  clear hn
  have d1 : decide (5 ≤ op) = true := decide_eq_true (by omega)
  have d2 : decide (op ≤ 13) = false := decide_eq_false (by omega)
  clear h5
  go_enter Try.func46, Try.ntmps46
  go_wp2_with fail
  all_goals (try go_region)
  all_goals go_wp2_with fail
  all_goals (try go_region)
  all_goals go_wp2_with fail
  all_goals
    exact bodyPost_ret (v := .agg #[.int .i64 op, .int .i64 0, .int .i64 0, .int .i64 0, .int .i64 0]) (by simp [results, Try.results46, go_sem]) rfl ⟨rfl, by repeat (first | exact Only.refl _ _ | refine Only.alloc ?_ _ | refine Only.drew ?_ | refine Only.drewN ?_ _ | refine Only.setCell ?_ (.inr (by simp; omega)) _)⟩
theorem rclean_is (c : Cd) (w : World) : Calls Try.prog 46 #[c.val] w fun x w' => x = .returned (clean c).val ∧ Only [] w w' := by
  obtain ⟨op, a, b, c, n⟩ := c
  by_cases hx : op ∈ [(1 : Int), 14, 15, 17, 22, 23, 18, 19, 16, 20, 2, 3, 4]
  · simp only [List.mem_cons, List.mem_nil_iff, or_false] at hx
    rcases hx with rfl | rfl | rfl | rfl | rfl | rfl | rfl | rfl | rfl | rfl | rfl | rfl | rfl
    · exact rclean_1 a b c n w
    · exact rclean_14 a b c n w
    · exact rclean_15 a b c n w
    · exact rclean_17 a b c n w
    · exact rclean_22 a b c n w
    · exact rclean_23 a b c n w
    · rcases Int.lt_trichotomy a (-1) with h | rfl | h
      · have e : clean ⟨18, a, b, c, n⟩ = ⟨18, -1, 0, 0, n⟩ := by unfold clean; simp; omega
        rw [e]; exact rclean_18l a b c n w h
      · exact rclean_18e b c n w
      · have e : clean ⟨18, a, b, c, n⟩ = ⟨18, a, 0, 0, n⟩ := by unfold clean; simp; omega
        rw [e]; exact rclean_18h a b c n w h
    · rcases Int.lt_trichotomy a (-1) with h | rfl | h
      · have e : clean ⟨19, a, b, c, n⟩ = ⟨19, -1, 0, 0, 0⟩ := by unfold clean; simp; omega
        rw [e]; exact rclean_19l a b c n w h
      · exact rclean_19e b c n w
      · have e : clean ⟨19, a, b, c, n⟩ = ⟨19, a, 0, 0, 0⟩ := by unfold clean; simp; omega
        rw [e]; exact rclean_19h a b c n w h
    · exact rclean_16 a b c n w
    · exact rclean_20 a b c n w
    · exact rclean_2 a b c n w
    · exact rclean_3 a b c n w
    · exact rclean_4 a b c n w
  · have hn : ∀ k ∈ [(1 : Int), 14, 15, 17, 22, 23, 18, 19, 16, 20, 2, 3, 4], op ≠ k := fun k hk h => hx (h ▸ hk)
    simp only [List.mem_cons, List.mem_nil_iff, or_false, not_or] at hx
    by_cases h5 : 5 ≤ op ∧ op ≤ 13
    · have e : clean ⟨op, a, b, c, n⟩ = ⟨op, a, b, c, 0⟩ := by unfold clean; simp [hx, h5]
      rw [e]; exact rclean_mul op a b c n w h5.1 h5.2
    · have e : clean ⟨op, a, b, c, n⟩ = ⟨op, 0, 0, 0, 0⟩ := by unfold clean; simp only [hx, h5, or_self, if_false]
      rw [e]
      by_cases hlo : op < 5
      · exact rclean_nolo op a b c n w hlo hn
      · exact rclean_nohi op a b c n w (by omega) hn
end Go.Proofs.Ytbeenfkmnchhbaa.Object
