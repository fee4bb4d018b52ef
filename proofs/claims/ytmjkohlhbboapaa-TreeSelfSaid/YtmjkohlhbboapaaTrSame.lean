/- SameExpr, none, has; statements, functions and files that are the same as themselves. -/
import Derived.Test.YtmjkohlhbboapaaTrEq
import Derived.Test.YtmjkohlhbboapaaTrEqS
import Derived.Test.YtmjkohlhbboapaaTrEqF
namespace Go.Proofs.Ytmjkohlhbboapaa.Tree
open Go.RowKit Go.Shelf
set_option linter.unusedVariables false
set_option maxRecDepth 100000
section
variable {w w' : World} {B d d2 : Nat}
set_option maxHeartbeats 8000000 in
theorem sameExpr_any : ∀ (d : Nat) (x y : XT) (d2 : Nat) (w : World), XT.In w w.heap.size d x → XT.In w w.heap.size d2 y →
    Calls Try.prog 7 #[x.val, y.val] w fun e w' => e = .returned (.bool (sameX d x y)) ∧ Only [] w w' := by
  intro d
  induction d with
  | zero => intro x y d2 w hx _; exact hx.elim
  | succ d ih =>
    intro x y d2 w hx hy
    obtain ⟨d2, rfl⟩ : ∃ k, d2 = k + 1 := by
      cases d2 with
      | zero => exact hy.elim
      | succ k => exact ⟨k, rfl⟩
    obtain ⟨w1, hw1⟩ : ∃ w1, w.alloc (.cells #[.int .i64 x.op, .int .i64 x.n, .string x.s, .string x.q, .slice x.A x.X.length x.c] 28) = w1 := ⟨_, rfl⟩
    have b1 : Blk w1 w.heap.size 28 #[.int .i64 x.op, .int .i64 x.n, .string x.s, .string x.q, .slice x.A x.X.length x.c] := by rw [← hw1]; exact Blk.new w _ _
    have o1 : Only [] w w1 := by rw [← hw1]; exact (Only.refl [] w).alloc _
    obtain ⟨w2, hw2⟩ : ∃ w2, w1.alloc (.cells #[.int .i64 y.op, .int .i64 y.n, .string y.s, .string y.q, .slice y.A y.X.length y.c] 28) = w2 := ⟨_, rfl⟩
    have b2 : Blk w2 w1.heap.size 28 #[.int .i64 y.op, .int .i64 y.n, .string y.s, .string y.q, .slice y.A y.X.length y.c] := by rw [← hw2]; exact Blk.new w1 _ _
    have o2 : Only [] w1 w2 := by rw [← hw2]; exact (Only.refl [] w1).alloc _
    replace b1 := b1.only o2 (by simp)
    have ho := o1.trans o2 (by simp)
    have p0 := b1.cell 0
    have p1 := b1.cell 1
    have p2 := b1.cell 2
    have p3 := b1.cell 3
    have p4 := b1.cell 4
    have q0 := b2.cell 0
    have q1 := b2.cell 1
    have q2 := b2.cell 2
    have q3 := b2.cell 3
    have q4 := b2.cell 4
    have HEQ := Lib.hid (eqX_any x.A y.A x.X.length y.X.length x.c y.c w.heap.size w.heap.size x.X y.X (sameX d) w2 (hx.1.only ho (by simp)) (hy.1.only ho (by simp)) hx.2.1
      (fun wr hor x' hx' y' hy' _ => ih x' y' d2 wr ((hx.2.2 x' hx').only (ho.trans hor (by simp)) (ho.trans hor (by simp)).size) ((hy.2.2 y' hy').only (ho.trans hor (by simp)) (ho.trans hor (by simp)).size)))
    have HO := Lib.hid ho
    have HS : Hid (sameX (d + 1) x y = ((x.op == y.op) && ((x.n == y.n) && ((x.s.toList == y.s.toList) && ((x.q.toList == y.q.toList) && sameL (sameX d) x.X y.X))))) := Lib.hid rfl
    obtain ⟨f1, hf1⟩ : ∃ f, (x.op == y.op) = f := ⟨_, rfl⟩
    obtain ⟨f2, hf2⟩ : ∃ f, (x.n == y.n) = f := ⟨_, rfl⟩
    obtain ⟨f3, hf3⟩ : ∃ f, (x.s.toList == y.s.toList) = f := ⟨_, rfl⟩
    obtain ⟨f4, hf4⟩ : ∃ f, (x.q.toList == y.q.toList) = f := ⟨_, rfl⟩
    rw [hf1, hf2, hf3, hf4] at HS
    obtain ⟨r, hr⟩ : ∃ r, sameX (d + 1) x y = r := ⟨_, rfl⟩
    rw [hr] at HS ⊢
    unfold XT.val
    clear hx hy ih b1 b2 o1 o2 ho hr
    go_enter Try.func7, Try.ntmps7
    cases f1
    · go_wp2_with fail
      go_ret
      exact ⟨by rw [HS.out]; rfl, HO.out⟩
    · cases f2
      · go_wp2_with fail
        go_ret
        exact ⟨by rw [HS.out]; rfl, HO.out⟩
      · cases f3
        · go_wp2_with fail
          go_ret
          exact ⟨by rw [HS.out]; rfl, HO.out⟩
        · cases f4
          · go_wp2_with fail
            go_ret
            exact ⟨by rw [HS.out]; rfl, HO.out⟩
          · go_wp2_with fail
            refine HEQ.out.mono ?_
            rintro e w3 ⟨rfl, ho3⟩
            have HO3 := Lib.hid (HO.out.trans ho3 (by simp))
            clear ho3
            go_wp2_with fail
            go_ret
            exact ⟨by rw [HS.out]; rfl, HO3.out⟩
/-- the zero expression -/
def zeroX : XT := .mk 0 0 ⟨#[]⟩ ⟨#[]⟩ none 0 []
theorem zeroX_in (w : World) (B : Nat) : XT.In w B 1 zeroX := ⟨Recs.nil_, by simp [zeroX, XT.X, maxLen], fun y hy => by cases hy⟩
set_option maxHeartbeats 4000000 in
theorem none_any {x : XT} (hx : XT.In w w.heap.size d x) : Calls Try.prog 54 #[x.val] w fun e w' => e = .returned (.bool (sameX d x zeroX)) ∧ Only [] w w' := by
  have HC := Lib.hid (fun (wx : World) (ho : Only [] w wx) => sameExpr_any d x zeroX 1 wx (hx.only ho ho.size) (zeroX_in _ _))
  obtain ⟨r, hr⟩ : ∃ r, sameX d x zeroX = r := ⟨_, rfl⟩
  rw [hr] at HC ⊢
  obtain ⟨w1, hw1⟩ : ∃ w1, w.alloc (.cells #[.int .i64 x.op, .int .i64 x.n, .string x.s, .string x.q, .slice x.A x.X.length x.c] 28) = w1 := ⟨_, rfl⟩
  have b1 : Blk w1 w.heap.size 28 #[.int .i64 x.op, .int .i64 x.n, .string x.s, .string x.q, .slice x.A x.X.length x.c] := by rw [← hw1]; exact Blk.new w _ _
  have o1 : Only [] w w1 := by rw [← hw1]; exact (Only.refl [] w).alloc _
  have p0 := b1.cell 0
  have p1 := b1.cell 1
  have p2 := b1.cell 2
  have p3 := b1.cell 3
  have p4 := b1.cell 4
  have HC1 := HC.out w1 o1
  unfold XT.val zeroX at HC1
  simp only [XT.op, XT.n, XT.s, XT.q, XT.A, XT.X, XT.c, List.length_nil] at HC1
  have HC2 := Lib.hid HC1
  have HO := Lib.hid o1
  unfold XT.val
  clear hx hr b1 o1 HC HC1
  go_enter Try.func54, Try.ntmps54
  go_wp2_with fail
  refine HC2.out.mono ?_
  rintro e w3 ⟨rfl, ho3⟩
  have HO3 := Lib.hid (HO.out.trans ho3 (by simp))
  clear ho3
  go_wp2_with fail
  go_ret
  exact ⟨rfl, HO3.out⟩
end
end Go.Proofs.Ytmjkohlhbboapaa.Tree
