/- The document's rightOne: what vm.Right asks of an instruction. PRINTED by wip/gen_rone.py -/
import Derived.Test.YtkdacemachejoaaObjA
namespace Go.Proofs.Ytkdacemachejoaa.Object
open Go.RowKit
set_option linter.unusedVariables false
set_option maxRecDepth 100000
theorem reg_r (z : Int) (w : World) : Calls Try.prog 38 #[.int .i64 z] w fun x w' => x = .returned (.bool (regOk z)) ∧ w = w' := by
  unfold regOk
  go_enter Try.func38, Try.ntmps38
  go_wp2_with fail
  all_goals
    go_ret
    refine ⟨congrArg (fun b => Ending.returned (Value.bool b)) ?_, rfl⟩
    (rw [Bool.eq_iff_iff]) <;> simp <;> try omega
theorem ok_1 (a b c n m : Int) : codeOk m ⟨1, a, b, c, n⟩ = (regOk a) := by
  simp [codeOk, wordOk, partsOf, partOk]
set_option maxHeartbeats 1000000 in
theorem rone_1 (a b c n m : Int) (w : World) : Calls Try.prog 24 #[Cd.val ⟨1, a, b, c, n⟩, .int .i64 m] w fun x w' => x = .returned (.bool (codeOk m ⟨1, a, b, c, n⟩)) ∧ Only [] w w' := by
  rw [ok_1]
  unfold Cd.val
  simp only
  have HR := Lib.hid reg_r
  cases ha : regOk a
  all_goals
    go_enter Try.func24, Try.ntmps24
    go_wp2_with (go_at_call 38; refine (HR.out _ _).mono ?_; rintro x w2 ⟨rfl, rfl⟩)
  all_goals
    go_ret
    refine ⟨congrArg (fun b => Ending.returned (Value.bool b)) ?_, (Only.refl _ _).alloc _⟩
    first | rfl | (simp_all; done) | (rw [Bool.eq_iff_iff]; simp; omega) | (rw [Bool.eq_iff_iff]; simp_all; omega)
theorem ok_2 (a b c n m : Int) : codeOk m ⟨2, a, b, c, n⟩ = (regOk a && regOk b) := by
  simp [codeOk, wordOk, partsOf, partOk]
set_option maxHeartbeats 1000000 in
theorem rone_2 (a b c n m : Int) (w : World) : Calls Try.prog 24 #[Cd.val ⟨2, a, b, c, n⟩, .int .i64 m] w fun x w' => x = .returned (.bool (codeOk m ⟨2, a, b, c, n⟩)) ∧ Only [] w w' := by
  rw [ok_2]
  unfold Cd.val
  simp only
  have HR := Lib.hid reg_r
  cases ha : regOk a
  all_goals cases hb : regOk b
  all_goals
    go_enter Try.func24, Try.ntmps24
    go_wp2_with (go_at_call 38; refine (HR.out _ _).mono ?_; rintro x w2 ⟨rfl, rfl⟩)
  all_goals
    go_ret
    refine ⟨congrArg (fun b => Ending.returned (Value.bool b)) ?_, (Only.refl _ _).alloc _⟩
    first | rfl | (simp_all; done) | (rw [Bool.eq_iff_iff]; simp; omega) | (rw [Bool.eq_iff_iff]; simp_all; omega)
theorem ok_3 (a b c n m : Int) : codeOk m ⟨3, a, b, c, n⟩ = (regOk a && regOk b) := by
  simp [codeOk, wordOk, partsOf, partOk]
set_option maxHeartbeats 1000000 in
theorem rone_3 (a b c n m : Int) (w : World) : Calls Try.prog 24 #[Cd.val ⟨3, a, b, c, n⟩, .int .i64 m] w fun x w' => x = .returned (.bool (codeOk m ⟨3, a, b, c, n⟩)) ∧ Only [] w w' := by
  rw [ok_3]
  unfold Cd.val
  simp only
  have HR := Lib.hid reg_r
  cases ha : regOk a
  all_goals cases hb : regOk b
  all_goals
    go_enter Try.func24, Try.ntmps24
    go_wp2_with (go_at_call 38; refine (HR.out _ _).mono ?_; rintro x w2 ⟨rfl, rfl⟩)
  all_goals
    go_ret
    refine ⟨congrArg (fun b => Ending.returned (Value.bool b)) ?_, (Only.refl _ _).alloc _⟩
    first | rfl | (simp_all; done) | (rw [Bool.eq_iff_iff]; simp; omega) | (rw [Bool.eq_iff_iff]; simp_all; omega)
theorem ok_4 (a b c n m : Int) : codeOk m ⟨4, a, b, c, n⟩ = (regOk a && regOk b) := by
  simp [codeOk, wordOk, partsOf, partOk]
set_option maxHeartbeats 1000000 in
theorem rone_4 (a b c n m : Int) (w : World) : Calls Try.prog 24 #[Cd.val ⟨4, a, b, c, n⟩, .int .i64 m] w fun x w' => x = .returned (.bool (codeOk m ⟨4, a, b, c, n⟩)) ∧ Only [] w w' := by
  rw [ok_4]
  unfold Cd.val
  simp only
  have HR := Lib.hid reg_r
  cases ha : regOk a
  all_goals cases hb : regOk b
  all_goals
    go_enter Try.func24, Try.ntmps24
    go_wp2_with (go_at_call 38; refine (HR.out _ _).mono ?_; rintro x w2 ⟨rfl, rfl⟩)
  all_goals
    go_ret
    refine ⟨congrArg (fun b => Ending.returned (Value.bool b)) ?_, (Only.refl _ _).alloc _⟩
    first | rfl | (simp_all; done) | (rw [Bool.eq_iff_iff]; simp; omega) | (rw [Bool.eq_iff_iff]; simp_all; omega)
theorem ok_14 (a b c n m : Int) : codeOk m ⟨14, a, b, c, n⟩ = (regOk a && belowOk n 16384) := by
  simp [codeOk, wordOk, partsOf, partOk]
set_option maxHeartbeats 1000000 in
theorem rone_14 (a b c n m : Int) (w : World) : Calls Try.prog 24 #[Cd.val ⟨14, a, b, c, n⟩, .int .i64 m] w fun x w' => x = .returned (.bool (codeOk m ⟨14, a, b, c, n⟩)) ∧ Only [] w w' := by
  rw [ok_14]
  unfold Cd.val
  unfold belowOk
  simp only
  have HR := Lib.hid reg_r
  cases ha : regOk a
  all_goals
    go_enter Try.func24, Try.ntmps24
    go_wp2_with (go_at_call 38; refine (HR.out _ _).mono ?_; rintro x w2 ⟨rfl, rfl⟩)
  all_goals
    go_ret
    refine ⟨congrArg (fun b => Ending.returned (Value.bool b)) ?_, (Only.refl _ _).alloc _⟩
    first | rfl | (simp_all; done) | (rw [Bool.eq_iff_iff]; simp; omega) | (rw [Bool.eq_iff_iff]; simp_all; omega)
theorem ok_15 (a b c n m : Int) : codeOk m ⟨15, a, b, c, n⟩ = (belowOk n 16384 && regOk a) := by
  simp [codeOk, wordOk, partsOf, partOk]
set_option maxHeartbeats 1000000 in
theorem rone_15 (a b c n m : Int) (w : World) : Calls Try.prog 24 #[Cd.val ⟨15, a, b, c, n⟩, .int .i64 m] w fun x w' => x = .returned (.bool (codeOk m ⟨15, a, b, c, n⟩)) ∧ Only [] w w' := by
  rw [ok_15]
  unfold Cd.val
  unfold belowOk
  simp only
  have HR := Lib.hid reg_r
  cases ha : regOk a
  all_goals
    go_enter Try.func24, Try.ntmps24
    go_wp2_with (go_at_call 38; refine (HR.out _ _).mono ?_; rintro x w2 ⟨rfl, rfl⟩)
  all_goals
    go_ret
    refine ⟨congrArg (fun b => Ending.returned (Value.bool b)) ?_, (Only.refl _ _).alloc _⟩
    first | rfl | (simp_all; done) | (rw [Bool.eq_iff_iff]; simp; omega) | (rw [Bool.eq_iff_iff]; simp_all; omega)
theorem ok_16 (a b c n m : Int) : codeOk m ⟨16, a, b, c, n⟩ = (belowOk n m) := by
  simp [codeOk, wordOk, partsOf, partOk]
set_option maxHeartbeats 1000000 in
theorem rone_16 (a b c n m : Int) (w : World) : Calls Try.prog 24 #[Cd.val ⟨16, a, b, c, n⟩, .int .i64 m] w fun x w' => x = .returned (.bool (codeOk m ⟨16, a, b, c, n⟩)) ∧ Only [] w w' := by
  rw [ok_16]
  unfold Cd.val
  unfold belowOk
  simp only
  have HR := Lib.hid reg_r
  all_goals
    go_enter Try.func24, Try.ntmps24
    go_wp2_with fail
  all_goals
    go_ret
    refine ⟨congrArg (fun b => Ending.returned (Value.bool b)) ?_, (Only.refl _ _).alloc _⟩
    first | rfl | (simp_all; done) | (rw [Bool.eq_iff_iff]; simp; omega) | (rw [Bool.eq_iff_iff]; simp_all; omega)
theorem ok_17 (a b c n m : Int) : codeOk m ⟨17, a, b, c, n⟩ = (regOk a && belowOk n m) := by
  simp [codeOk, wordOk, partsOf, partOk]
set_option maxHeartbeats 1000000 in
theorem rone_17 (a b c n m : Int) (w : World) : Calls Try.prog 24 #[Cd.val ⟨17, a, b, c, n⟩, .int .i64 m] w fun x w' => x = .returned (.bool (codeOk m ⟨17, a, b, c, n⟩)) ∧ Only [] w w' := by
  rw [ok_17]
  unfold Cd.val
  unfold belowOk
  simp only
  have HR := Lib.hid reg_r
  cases ha : regOk a
  all_goals
    go_enter Try.func24, Try.ntmps24
    go_wp2_with (go_at_call 38; refine (HR.out _ _).mono ?_; rintro x w2 ⟨rfl, rfl⟩)
  all_goals
    go_ret
    refine ⟨congrArg (fun b => Ending.returned (Value.bool b)) ?_, (Only.refl _ _).alloc _⟩
    first | rfl | (simp_all; done) | (rw [Bool.eq_iff_iff]; simp; omega) | (rw [Bool.eq_iff_iff]; simp_all; omega)
theorem ok_18 (a b c n m : Int) : codeOk m ⟨18, a, b, c, n⟩ = (decide (a < 8) && belowOk n m) := by
  simp [codeOk, wordOk, partsOf, partOk]
set_option maxHeartbeats 1000000 in
theorem rone_18 (a b c n m : Int) (w : World) : Calls Try.prog 24 #[Cd.val ⟨18, a, b, c, n⟩, .int .i64 m] w fun x w' => x = .returned (.bool (codeOk m ⟨18, a, b, c, n⟩)) ∧ Only [] w w' := by
  rw [ok_18]
  unfold Cd.val
  unfold belowOk
  simp only
  have HR := Lib.hid reg_r
  all_goals
    go_enter Try.func24, Try.ntmps24
    go_wp2_with fail
  all_goals
    go_ret
    refine ⟨congrArg (fun b => Ending.returned (Value.bool b)) ?_, (Only.refl _ _).alloc _⟩
    first | rfl | (simp_all; done) | (rw [Bool.eq_iff_iff]; simp; omega) | (rw [Bool.eq_iff_iff]; simp_all; omega)
theorem ok_19 (a b c n m : Int) : codeOk m ⟨19, a, b, c, n⟩ = (decide (a < 8)) := by
  simp [codeOk, wordOk, partsOf, partOk]
set_option maxHeartbeats 1000000 in
theorem rone_19 (a b c n m : Int) (w : World) : Calls Try.prog 24 #[Cd.val ⟨19, a, b, c, n⟩, .int .i64 m] w fun x w' => x = .returned (.bool (codeOk m ⟨19, a, b, c, n⟩)) ∧ Only [] w w' := by
  rw [ok_19]
  unfold Cd.val
  simp only
  have HR := Lib.hid reg_r
  all_goals
    go_enter Try.func24, Try.ntmps24
    go_wp2_with fail
  all_goals
    go_ret
    refine ⟨congrArg (fun b => Ending.returned (Value.bool b)) ?_, (Only.refl _ _).alloc _⟩
    first | rfl | (simp_all; done) | (rw [Bool.eq_iff_iff]; simp; omega) | (rw [Bool.eq_iff_iff]; simp_all; omega)
theorem ok_20 (a b c n m : Int) : codeOk m ⟨20, a, b, c, n⟩ = (regOk a) := by
  simp [codeOk, wordOk, partsOf, partOk]
set_option maxHeartbeats 1000000 in
theorem rone_20 (a b c n m : Int) (w : World) : Calls Try.prog 24 #[Cd.val ⟨20, a, b, c, n⟩, .int .i64 m] w fun x w' => x = .returned (.bool (codeOk m ⟨20, a, b, c, n⟩)) ∧ Only [] w w' := by
  rw [ok_20]
  unfold Cd.val
  simp only
  have HR := Lib.hid reg_r
  cases ha : regOk a
  all_goals
    go_enter Try.func24, Try.ntmps24
    go_wp2_with (go_at_call 38; refine (HR.out _ _).mono ?_; rintro x w2 ⟨rfl, rfl⟩)
  all_goals
    go_ret
    refine ⟨congrArg (fun b => Ending.returned (Value.bool b)) ?_, (Only.refl _ _).alloc _⟩
    first | rfl | (simp_all; done) | (rw [Bool.eq_iff_iff]; simp; omega) | (rw [Bool.eq_iff_iff]; simp_all; omega)
theorem ok_21 (a b c n m : Int) : codeOk m ⟨21, a, b, c, n⟩ = (true) := by
  simp [codeOk, wordOk, partsOf, partOk]
set_option maxHeartbeats 1000000 in
theorem rone_21 (a b c n m : Int) (w : World) : Calls Try.prog 24 #[Cd.val ⟨21, a, b, c, n⟩, .int .i64 m] w fun x w' => x = .returned (.bool (codeOk m ⟨21, a, b, c, n⟩)) ∧ Only [] w w' := by
  rw [ok_21]
  unfold Cd.val
  simp only
  have HR := Lib.hid reg_r
  all_goals
    go_enter Try.func24, Try.ntmps24
    go_wp2_with fail
  all_goals
    go_ret
    refine ⟨congrArg (fun b => Ending.returned (Value.bool b)) ?_, (Only.refl _ _).alloc _⟩
    first | rfl | (simp_all; done) | (rw [Bool.eq_iff_iff]; simp; omega) | (rw [Bool.eq_iff_iff]; simp_all; omega)
theorem ok_22 (a b c n m : Int) : codeOk m ⟨22, a, b, c, n⟩ = (belowOk n 4 && regOk a) := by
  simp [codeOk, wordOk, partsOf, partOk]
set_option maxHeartbeats 1000000 in
theorem rone_22 (a b c n m : Int) (w : World) : Calls Try.prog 24 #[Cd.val ⟨22, a, b, c, n⟩, .int .i64 m] w fun x w' => x = .returned (.bool (codeOk m ⟨22, a, b, c, n⟩)) ∧ Only [] w w' := by
  rw [ok_22]
  unfold Cd.val
  unfold belowOk
  simp only
  have HR := Lib.hid reg_r
  cases ha : regOk a
  all_goals
    go_enter Try.func24, Try.ntmps24
    go_wp2_with (go_at_call 38; refine (HR.out _ _).mono ?_; rintro x w2 ⟨rfl, rfl⟩)
  all_goals
    go_ret
    refine ⟨congrArg (fun b => Ending.returned (Value.bool b)) ?_, (Only.refl _ _).alloc _⟩
    first | rfl | (simp_all; done) | (rw [Bool.eq_iff_iff]; simp; omega) | (rw [Bool.eq_iff_iff]; simp_all; omega)
theorem ok_23 (a b c n m : Int) : codeOk m ⟨23, a, b, c, n⟩ = (regOk a && belowOk n 4) := by
  simp [codeOk, wordOk, partsOf, partOk]
set_option maxHeartbeats 1000000 in
theorem rone_23 (a b c n m : Int) (w : World) : Calls Try.prog 24 #[Cd.val ⟨23, a, b, c, n⟩, .int .i64 m] w fun x w' => x = .returned (.bool (codeOk m ⟨23, a, b, c, n⟩)) ∧ Only [] w w' := by
  rw [ok_23]
  unfold Cd.val
  unfold belowOk
  simp only
  have HR := Lib.hid reg_r
  cases ha : regOk a
  all_goals
    go_enter Try.func24, Try.ntmps24
    go_wp2_with (go_at_call 38; refine (HR.out _ _).mono ?_; rintro x w2 ⟨rfl, rfl⟩)
  all_goals
    go_ret
    refine ⟨congrArg (fun b => Ending.returned (Value.bool b)) ?_, (Only.refl _ _).alloc _⟩
    first | rfl | (simp_all; done) | (rw [Bool.eq_iff_iff]; simp; omega) | (rw [Bool.eq_iff_iff]; simp_all; omega)
theorem ok_mul (op a b c n m : Int) (h5 : 5 ≤ op) (h13 : op ≤ 13) : codeOk m ⟨op, a, b, c, n⟩ = (regOk a && regOk b && regOk c) := by
  have hp : partsOf op = [65, 66, 67] := by
    unfold partsOf
    rw [if_neg (by omega), if_neg (by omega), if_neg (by omega), if_neg (by omega), if_neg (by omega), if_neg (by omega), if_neg (by omega), if_neg (by omega), if_neg (by omega), if_neg (by omega), if_neg (by omega), if_neg (by omega)]
  have hw : wordOk op = true := by unfold wordOk; rw [decide_eq_true (by omega), decide_eq_true (by omega)]; rfl
  unfold codeOk
  simp only [hp, hw]
  simp [partOk, Bool.and_assoc]
set_option maxHeartbeats 2000000 in
theorem rone_mul (op a b c n m : Int) (w : World) (h5 : 5 ≤ op) (h13 : op ≤ 13) : Calls Try.prog 24 #[Cd.val ⟨op, a, b, c, n⟩, .int .i64 m] w fun x w' => x = .returned (.bool (regOk a && regOk b && regOk c)) ∧ Only [] w w' := by
  unfold Cd.val
  simp only
  have e1 : (op == 1) = false := beq_false_of_ne (by omega)
  have e2 : (op == 2) = false := beq_false_of_ne (by omega)
  have e3 : (op == 3) = false := beq_false_of_ne (by omega)
  have e4 : (op == 4) = false := beq_false_of_ne (by omega)
  have e14 : (op == 14) = false := beq_false_of_ne (by omega)
  have e15 : (op == 15) = false := beq_false_of_ne (by omega)
  have e16 : (op == 16) = false := beq_false_of_ne (by omega)
  have e17 : (op == 17) = false := beq_false_of_ne (by omega)
  have e18 : (op == 18) = false := beq_false_of_ne (by omega)
  have e19 : (op == 19) = false := beq_false_of_ne (by omega)
  have e20 : (op == 20) = false := beq_false_of_ne (by omega)
  have e21 : (op == 21) = false := beq_false_of_ne (by omega)
  have e22 : (op == 22) = false := beq_false_of_ne (by omega)
  have e23 : (op == 23) = false := beq_false_of_ne (by omega)
  have d1 : decide (5 ≤ op) = true := decide_eq_true h5
  have d2 : decide (op ≤ 13) = true := decide_eq_true h13
  have HR := Lib.hid reg_r
  cases ha : regOk a
  all_goals cases hb : regOk b
  all_goals cases hc : regOk c
  all_goals
    go_enter Try.func24, Try.ntmps24
    go_wp2_with (go_at_call 38; refine (HR.out _ _).mono ?_; rintro x w2 ⟨rfl, rfl⟩)
  all_goals
    go_ret
    exact ⟨rfl, (Only.refl _ _).alloc _⟩
set_option maxHeartbeats 2000000 in
theorem rone_nolo (op a b c n m : Int) (w : World) (h5 : op < 5) (hn : ∀ k ∈ [(1 : Int), 2, 3, 4, 14, 15, 16, 17, 18, 19, 20, 21, 22, 23], op ≠ k) : Calls Try.prog 24 #[Cd.val ⟨op, a, b, c, n⟩, .int .i64 m] w fun x w' => x = .returned (.bool (false)) ∧ Only [] w w' := by
  unfold Cd.val
  simp only
  have e1 : (op == 1) = false := beq_false_of_ne (hn 1 (by decide))
  have e2 : (op == 2) = false := beq_false_of_ne (hn 2 (by decide))
  have e3 : (op == 3) = false := beq_false_of_ne (hn 3 (by decide))
  have e4 : (op == 4) = false := beq_false_of_ne (hn 4 (by decide))
  have e14 : (op == 14) = false := beq_false_of_ne (hn 14 (by decide))
  have e15 : (op == 15) = false := beq_false_of_ne (hn 15 (by decide))
  have e16 : (op == 16) = false := beq_false_of_ne (hn 16 (by decide))
  have e17 : (op == 17) = false := beq_false_of_ne (hn 17 (by decide))
  have e18 : (op == 18) = false := beq_false_of_ne (hn 18 (by decide))
  have e19 : (op == 19) = false := beq_false_of_ne (hn 19 (by decide))
  have e20 : (op == 20) = false := beq_false_of_ne (hn 20 (by decide))
  have e21 : (op == 21) = false := beq_false_of_ne (hn 21 (by decide))
  have e22 : (op == 22) = false := beq_false_of_ne (hn 22 (by decide))
  have e23 : (op == 23) = false := beq_false_of_ne (hn 23 (by decide))
  have d1 : decide (5 ≤ op) = false := decide_eq_false (by omega)
  clear hn h5
  all_goals
    go_enter Try.func24, Try.ntmps24
    go_wp2_with fail
  all_goals
    go_ret
    exact ⟨rfl, (Only.refl _ _).alloc _⟩
set_option maxHeartbeats 2000000 in
theorem rone_nohi (op a b c n m : Int) (w : World) (h5 : 13 < op) (hn : ∀ k ∈ [(1 : Int), 2, 3, 4, 14, 15, 16, 17, 18, 19, 20, 21, 22, 23], op ≠ k) : Calls Try.prog 24 #[Cd.val ⟨op, a, b, c, n⟩, .int .i64 m] w fun x w' => x = .returned (.bool (false)) ∧ Only [] w w' := by
  unfold Cd.val
  simp only
  have e1 : (op == 1) = false := beq_false_of_ne (hn 1 (by decide))
  have e2 : (op == 2) = false := beq_false_of_ne (hn 2 (by decide))
  have e3 : (op == 3) = false := beq_false_of_ne (hn 3 (by decide))
  have e4 : (op == 4) = false := beq_false_of_ne (hn 4 (by decide))
  have e14 : (op == 14) = false := beq_false_of_ne (hn 14 (by decide))
  have e15 : (op == 15) = false := beq_false_of_ne (hn 15 (by decide))
  have e16 : (op == 16) = false := beq_false_of_ne (hn 16 (by decide))
  have e17 : (op == 17) = false := beq_false_of_ne (hn 17 (by decide))
  have e18 : (op == 18) = false := beq_false_of_ne (hn 18 (by decide))
  have e19 : (op == 19) = false := beq_false_of_ne (hn 19 (by decide))
  have e20 : (op == 20) = false := beq_false_of_ne (hn 20 (by decide))
  have e21 : (op == 21) = false := beq_false_of_ne (hn 21 (by decide))
  have e22 : (op == 22) = false := beq_false_of_ne (hn 22 (by decide))
  have e23 : (op == 23) = false := beq_false_of_ne (hn 23 (by decide))
  have d1 : decide (5 ≤ op) = true := decide_eq_true (by omega)
  have d2 : decide (op ≤ 13) = false := decide_eq_false (by omega)
  clear hn h5
  all_goals
    go_enter Try.func24, Try.ntmps24
    go_wp2_with fail
  all_goals
    go_ret
    exact ⟨rfl, (Only.refl _ _).alloc _⟩
theorem rone_is (c : Cd) (m : Int) (w : World) : Calls Try.prog 24 #[c.val, .int .i64 m] w fun x w' => x = .returned (.bool (codeOk m c)) ∧ Only [] w w' := by
  obtain ⟨op, a, b, c, n⟩ := c
  by_cases hx : op ∈ [(1 : Int), 2, 3, 4, 14, 15, 16, 17, 18, 19, 20, 21, 22, 23]
  · simp only [List.mem_cons, List.mem_nil_iff, or_false] at hx
    rcases hx with rfl | rfl | rfl | rfl | rfl | rfl | rfl | rfl | rfl | rfl | rfl | rfl | rfl | rfl
    · exact rone_1 a b c n m w
    · exact rone_2 a b c n m w
    · exact rone_3 a b c n m w
    · exact rone_4 a b c n m w
    · exact rone_14 a b c n m w
    · exact rone_15 a b c n m w
    · exact rone_16 a b c n m w
    · exact rone_17 a b c n m w
    · exact rone_18 a b c n m w
    · exact rone_19 a b c n m w
    · exact rone_20 a b c n m w
    · exact rone_21 a b c n m w
    · exact rone_22 a b c n m w
    · exact rone_23 a b c n m w
  · have hn : ∀ k ∈ [(1 : Int), 2, 3, 4, 14, 15, 16, 17, 18, 19, 20, 21, 22, 23], op ≠ k := fun k hk h => hx (h ▸ hk)
    simp only [List.mem_cons, List.mem_nil_iff, or_false, not_or] at hx
    by_cases h5 : 5 ≤ op ∧ op ≤ 13
    · rw [ok_mul op a b c n m h5.1 h5.2]; exact rone_mul op a b c n m w h5.1 h5.2
    · have e : codeOk m ⟨op, a, b, c, n⟩ = false := by
        have hw : wordOk op = false := by unfold wordOk; rw [Bool.and_eq_false_iff, decide_eq_false_iff_not, decide_eq_false_iff_not]; omega
        unfold codeOk
        simp only [hw, Bool.false_and]
      rw [e]
      by_cases hlo : op < 5
      · exact rone_nolo op a b c n m w hlo hn
      · exact rone_nohi op a b c n m w (by omega) hn
end Go.Proofs.Ytkdacemachejoaa.Object
