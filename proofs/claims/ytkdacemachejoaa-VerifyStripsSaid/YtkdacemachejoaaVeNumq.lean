/- Numbers of the machine: num.One, num.Two. -/
import Derived.Test.YtkdacemachejoaaObjA
import Derived.Test.YtkdacemachejoaaRanges
namespace Go.Proofs.Ytkdacemachejoaa.Vm
open Go.RowKit Go.Shelf
set_option linter.unusedVariables false
set_option maxRecDepth 100000
def truthP (b : Bool) : Int × Bool := if b = true then (1, true) else (0, true)
def partP (op a b : Int) : Int × Bool :=
  if b = 0 then (0, false) else if b = -1 ∧ op = 6 then (wrap64 (-a), true) else if b = -1 then (0, true) else if op = 6 then (wrap64 (a.tdiv b), true) else (a.tmod b, true)
def NumO (p : Int × Bool) (w : World) (y : Ending) (w' : World) : Prop := y = .returned (.tuple #[.int .i64 p.1, .bool p.2]) ∧ w' = w
theorem truth_is (b : Bool) (w : World) : Calls Try.prog 93 #[.bool b] w (NumO (truthP b) w) := by
  cases b
  · go_enter Try.func93, Try.ntmps93
    go_wp2_with fail
    go_ret2
    exact ⟨rfl, rfl⟩
  · go_enter Try.func93, Try.ntmps93
    go_wp2_with fail
    go_ret2
    exact ⟨rfl, rfl⟩
theorem part_is (op a b : Int) (w : World) : Calls Try.prog 94 #[.int .i64 op, .int .i64 a, .int .i64 b] w (NumO (partP op a b) w) := by
  unfold partP
  by_cases h0 : b = 0
  · rw [if_pos h0]
    go_enter Try.func94, Try.ntmps94
    go_wp2_with fail
    go_ret2
    exact ⟨rfl, rfl⟩
  rw [if_neg h0]
  by_cases h1 : b = -1
  · subst h1
    by_cases h6 : op = 6
    · rw [if_pos ⟨rfl, h6⟩]
      go_enter Try.func94, Try.ntmps94
      go_wp2_with fail
      go_ret2
      exact ⟨rfl, rfl⟩
    · rw [if_neg (fun h => h6 h.2), if_pos rfl]
      go_enter Try.func94, Try.ntmps94
      go_wp2_with fail
      go_ret2
      exact ⟨rfl, rfl⟩
  · rw [if_neg (fun h => h1 h.1), if_neg h1]
    by_cases h6 : op = 6
    · rw [if_pos h6]
      go_enter Try.func94, Try.ntmps94
      go_wp2_with fail
      go_ret2
      exact ⟨rfl, rfl⟩
    · rw [if_neg h6]
      go_enter Try.func94, Try.ntmps94
      go_wp2_with fail
      go_ret2
      exact ⟨rfl, rfl⟩
def twoP (op : Int) (a b : Int) : Int × Bool :=
  if op = 5 then (wrap64 (a * b), true) else if op = 6 then partP 6 a b else if op = 7 then partP 7 a b else if op = 8 then (wrap64 (a + b), true) else if op = 9 then (wrap64 (a + wrap64 (-b)), true) else if op = 10 then truthP (decide (a = b)) else if op = 11 then truthP (!decide (a = b)) else if op = 12 then truthP (decide (a < b)) else if op = 13 then truthP (decide (a ≤ b)) else (0, false)
def oneP (op : Int) (a : Int) : Int × Bool :=
  if op = 2 then (a, true) else if op = 3 then (wrap64 (-a), true) else if op = 4 then truthP (decide (a = 0)) else (0, false)
theorem two_5 (a b : Int) (w : World) : Calls Try.prog 70 #[.int .i64 5, .int .i64 a, .int .i64 b] w (NumO ((wrap64 (a * b), true)) w) := by
  go_enter Try.func70, Try.ntmps70
  go_wp2_with fail
  go_ret2
  exact ⟨rfl, rfl⟩
theorem two_6 (a b : Int) (w : World) : Calls Try.prog 70 #[.int .i64 6, .int .i64 a, .int .i64 b] w (NumO (partP 6 a b) w) := by
  have HC := Lib.hid (part_is 6 a b w)
  go_enter Try.func70, Try.ntmps70
  go_wp2_with fail
  refine HC.out.mono ?_
  rintro e w2 ⟨rfl, h2⟩
  have h2 := h2.symm
  subst h2
  go_wp2_with fail
  go_ret2
  exact ⟨rfl, rfl⟩
theorem two_7 (a b : Int) (w : World) : Calls Try.prog 70 #[.int .i64 7, .int .i64 a, .int .i64 b] w (NumO (partP 7 a b) w) := by
  have HC := Lib.hid (part_is 7 a b w)
  go_enter Try.func70, Try.ntmps70
  go_wp2_with fail
  refine HC.out.mono ?_
  rintro e w2 ⟨rfl, h2⟩
  have h2 := h2.symm
  subst h2
  go_wp2_with fail
  go_ret2
  exact ⟨rfl, rfl⟩
theorem two_8 (a b : Int) (w : World) : Calls Try.prog 70 #[.int .i64 8, .int .i64 a, .int .i64 b] w (NumO ((wrap64 (a + b), true)) w) := by
  go_enter Try.func70, Try.ntmps70
  go_wp2_with fail
  go_ret2
  exact ⟨rfl, rfl⟩
theorem two_9 (a b : Int) (w : World) : Calls Try.prog 70 #[.int .i64 9, .int .i64 a, .int .i64 b] w (NumO ((wrap64 (a + wrap64 (-b)), true)) w) := by
  go_enter Try.func70, Try.ntmps70
  go_wp2_with fail
  go_ret2
  exact ⟨rfl, rfl⟩
theorem two_10 (a b : Int) (w : World) : Calls Try.prog 70 #[.int .i64 10, .int .i64 a, .int .i64 b] w (NumO (truthP (decide (a = b))) w) := by
  have HC := Lib.hid (truth_is (decide (a = b)) w)
  go_enter Try.func70, Try.ntmps70
  go_wp2_with fail
  refine HC.out.mono ?_
  rintro e w2 ⟨rfl, h2⟩
  have h2 := h2.symm
  subst h2
  go_wp2_with fail
  go_ret2
  exact ⟨rfl, rfl⟩
theorem two_11 (a b : Int) (w : World) : Calls Try.prog 70 #[.int .i64 11, .int .i64 a, .int .i64 b] w (NumO (truthP (!decide (a = b))) w) := by
  have HC := Lib.hid (truth_is (!decide (a = b)) w)
  go_enter Try.func70, Try.ntmps70
  go_wp2_with fail
  refine HC.out.mono ?_
  rintro e w2 ⟨rfl, h2⟩
  have h2 := h2.symm
  subst h2
  go_wp2_with fail
  go_ret2
  exact ⟨rfl, rfl⟩
theorem two_12 (a b : Int) (w : World) : Calls Try.prog 70 #[.int .i64 12, .int .i64 a, .int .i64 b] w (NumO (truthP (decide (a < b))) w) := by
  have HC := Lib.hid (truth_is (decide (a < b)) w)
  go_enter Try.func70, Try.ntmps70
  go_wp2_with fail
  refine HC.out.mono ?_
  rintro e w2 ⟨rfl, h2⟩
  have h2 := h2.symm
  subst h2
  go_wp2_with fail
  go_ret2
  exact ⟨rfl, rfl⟩
theorem two_13 (a b : Int) (w : World) : Calls Try.prog 70 #[.int .i64 13, .int .i64 a, .int .i64 b] w (NumO (truthP (decide (a ≤ b))) w) := by
  have HC := Lib.hid (truth_is (decide (a ≤ b)) w)
  go_enter Try.func70, Try.ntmps70
  go_wp2_with fail
  refine HC.out.mono ?_
  rintro e w2 ⟨rfl, h2⟩
  have h2 := h2.symm
  subst h2
  go_wp2_with fail
  go_ret2
  exact ⟨rfl, rfl⟩
theorem one_2 (a : Int) (w : World) : Calls Try.prog 69 #[.int .i64 2, .int .i64 a] w (NumO ((a, true)) w) := by
  go_enter Try.func69, Try.ntmps69
  go_wp2_with fail
  go_ret2
  exact ⟨rfl, rfl⟩
theorem one_3 (a : Int) (w : World) : Calls Try.prog 69 #[.int .i64 3, .int .i64 a] w (NumO ((wrap64 (-a), true)) w) := by
  go_enter Try.func69, Try.ntmps69
  go_wp2_with fail
  go_ret2
  exact ⟨rfl, rfl⟩
theorem one_4 (a : Int) (w : World) : Calls Try.prog 69 #[.int .i64 4, .int .i64 a] w (NumO (truthP (decide (a = 0))) w) := by
  have HC := Lib.hid (truth_is (decide (a = 0)) w)
  go_enter Try.func69, Try.ntmps69
  go_wp2_with fail
  refine HC.out.mono ?_
  rintro e w2 ⟨rfl, h2⟩
  have h2 := h2.symm
  subst h2
  go_wp2_with fail
  go_ret2
  exact ⟨rfl, rfl⟩
end Go.Proofs.Ytkdacemachejoaa.Vm
