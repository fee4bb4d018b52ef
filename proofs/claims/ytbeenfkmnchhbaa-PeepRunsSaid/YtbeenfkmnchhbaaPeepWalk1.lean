/- peep's jumps, idle and Target walk. -/
import Derived.Test.YtbeenfkmnchhbaaPeepMath4
import Derived.Test.YtbeenfkmnchhbaaVMap
import Derived.Deep.LoopGhost
namespace Go.Proofs.Ytbeenfkmnchhbaa.Peep
open Go.RowKit Go.Maps Object
set_option linter.unusedVariables false
set_option maxRecDepth 100000
theorem jumps_any (op a b c n : Int) (w : World) : Calls Try.prog 136 #[.agg #[.int .i64 op, .int .i64 a, .int .i64 b, .int .i64 c, .int .i64 n]] w fun x w' => x = .returned (.bool (jmp ⟨op, a, b, c, n⟩)) ∧ Only [] w w' := by
  have HO := Lib.hid ((Only.refl [] w).alloc (.cells #[.int .i64 op, .int .i64 a, .int .i64 b, .int .i64 c, .int .i64 n] 59))
  unfold jmp
  simp only
  by_cases h1 : op = 16
  · subst h1
    go_enter Try.func136, Try.ntmps136
    go_wp2_with fail
    go_ret
    exact ⟨rfl, HO.out⟩
  · have e1 : (op == 16) = false := by simp [h1]
    rw [e1]
    clear h1
    obtain ⟨q, hq⟩ : ∃ q, (op == 17) = q := ⟨_, rfl⟩
    rw [hq]
    go_enter Try.func136, Try.ntmps136
    go_wp2_with fail
    go_ret
    exact ⟨by simp, HO.out⟩
set_option maxHeartbeats 1000000 in
theorem idle_any (A : Option Addr) (m c B i : Nat) (cs : List Cd) (x : Cd) (w : World) (hr : Recs w B 5 A m (cs.map Cd.row)) (hm : m ≤ 1000000) (hx : cs[i]? = some x) :
    Calls Try.prog 138 #[.slice A m c, .int .i64 (i : Nat)] w fun e w' => e = .returned (.bool (idleB x i)) ∧ Only [] w w' := by
  have hl : cs.length = m := by simpa using hr.1
  have hi : i < m := by rw [← hl]; exact (List.getElem?_eq_some_iff.1 hx).1
  obtain ⟨b, off, hA, hb, y, hmem, hsk, c0, c1, c2, c3, c4⟩ := cd_at hr i hi
  subst hA
  obtain rfl : y = x := by rw [hx] at hsk; injection hsk with hsk; exact hsk.symm
  have HO := Lib.hid ((Only.refl [] w).alloc (.cells #[.int .i64 y.op, .int .i64 y.a, .int .i64 y.b, .int .i64 y.c, .int .i64 y.n] 59))
  have hB := Blk.new w 59 #[.int .i64 y.op, .int .i64 y.a, .int .i64 y.b, .int .i64 y.c, .int .i64 y.n]
  have HJ := Lib.hid (jumps_any y.op y.a y.b y.c y.n (w.alloc (.cells #[.int .i64 y.op, .int .i64 y.a, .int .i64 y.b, .int .i64 y.c, .int .i64 y.n] 59)))
  have hwr : IntKind.i64.wrap ((i : Int) + 1) = (i : Int) + 1 := IntWalk.i64_in _ (by omega)
  have HBL := Lib.hid hB
  obtain ⟨op, ya, yb, yc, n⟩ := y
  simp only at c0 c1 c2 c3 c4 HO HJ HBL
  unfold idleB
  simp only
  obtain ⟨j, hj⟩ : ∃ j, jmp ⟨op, ya, yb, yc, n⟩ = j := ⟨_, rfl⟩
  rw [hj] at HJ ⊢
  obtain ⟨q, hq⟩ : ∃ q, (n == (i : Int) + 1) = q := ⟨_, rfl⟩
  rw [hq]
  have HQ := Lib.hid hq
  clear hr hsk hmem hx hj hB hq
  by_cases h2 : op = 2 ∧ ya = yb
  · obtain ⟨rfl, rfl⟩ := h2
    have e1 : (ya == ya) = true := by simp
    go_enter Try.func138, Try.ntmps138
    go_wp2_with fail
    go_ret
    exact ⟨by simp, HO.out⟩
  · have e0 : ((op == 2) && (ya == yb)) = false := by rw [Bool.and_eq_false_iff]; simp; omega
    rw [e0]
    have hcase : (op == 2) = false ∨ ((op == 2) = true ∧ (ya == yb) = false) := by
      simp at e0 ⊢
      omega
    clear h2 e0
    rcases hcase with e1 | ⟨e1, e2⟩
    all_goals
      cases j
      all_goals
        go_enter Try.func138, Try.ntmps138
        go_wp2_with (go_at_call 136; refine HJ.out.mono ?_; rintro x w2 ⟨rfl, ho2⟩; have u0 := (HBL.out.only ho2 (by simp)).cell 4; have hq := HQ.out)
        go_ret
        exact ⟨by simp, HO.out.trans ho2 (by simp)⟩
end Go.Proofs.Ytbeenfkmnchhbaa.Peep
