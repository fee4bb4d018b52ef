/- slices.EqualFunc over expressions. PRINTED by wip/gen_treq.py. -/
import Derived.Test.YtmjkohlhbboapaaTrDat
import Derived.Test.YtmjkohlhbboapaaChecked
namespace Go.Proofs.Ytmjkohlhbboapaa.Tree
open Go.RowKit Go.Shelf
set_option linter.unusedVariables false
set_option maxRecDepth 100000
section
variable {w w' : World} {B d d2 : Nat}
set_option maxHeartbeats 8000000 in
theorem eqX_any (A A2 : Option Addr) (n m c c2 B B2 : Nat) (xs ys : List XT) (f : XT → XT → Bool) (w : World) (h1 : Recs w B 5 A n (xs.map XT.row)) (h2 : Recs w B2 5 A2 m (ys.map XT.row)) (hn : n ≤ maxLen)
    (HP : ∀ wr, Only [] w wr → ∀ x ∈ xs, ∀ y ∈ ys, (∃ k : Nat, xs[k]? = some x ∧ ys[k]? = some y) → Calls Try.prog 7 #[x.val, y.val] wr fun e w' => e = .returned (.bool (f x y)) ∧ Only [] wr w') :
    Calls Try.prog 18 #[.slice A n c, .slice A2 m c2, .func (.func 7) #[] #[]] w fun e w' => e = .returned (.bool (sameL f xs ys)) ∧ Only [] w w' := by
  have hl1 : xs.length = n := by have := h1.1; rwa [List.length_map] at this
  have hl2 : ys.length = m := by have := h2.1; rwa [List.length_map] at this
  have H1 := Lib.hid h1
  have H2 := Lib.hid h2
  have HPC := Lib.hid HP
  have HL := Lib.hid (And.intro hl1 hl2)
  clear h1 h2 HP hl1 hl2
  unfold maxLen at hn
  go_enter Try.func18, Try.ntmps18
  by_cases hnm : n = m
  · subst hnm
    have hne : ((n : Int) != (n : Int)) = false := by simp
    go_wp2_with fail
    go_loopw [17] (fun iv wr => ∃ k : Nat, iv = .int .i64 k ∧ k ≤ n ∧ (∀ (i : Nat) (x y : XT), i < k → xs[i]? = some x → ys[i]? = some y → f x y = true) ∧ Only [] w wr) (fun iv _ => n - (intOf iv).toNat)
    case atStart => exact ⟨0, rfl, by omega, fun i x y hi => by omega, Only.refl _ _⟩
    case round =>
      obtain ⟨k, rfl, hk, hall, ho⟩ := hrel
      have HO := Lib.hid ho
      have HALL := Lib.hid hall
      clear hall
      by_cases hlt : k < n
      · have d1 : decide ((k : Int) < (n : Int)) = true := decide_eq_true (by omega)
        obtain ⟨b, off, x, rfl, _, hx, hxk, p0, p1, p2, p3, p4⟩ := x_at H1.out hlt
        obtain ⟨b2, off2, y, rfl, _, hy, hyk, q0, q1, q2, q3, q4⟩ := x_at H2.out hlt
        obtain ⟨w1, hw1⟩ : ∃ w1, wr.alloc (.cells #[.int .i64 x.op, .int .i64 x.n, .string x.s, .string x.q, .slice x.A x.X.length x.c] 28) = w1 := ⟨_, rfl⟩
        have b1 : Blk w1 wr.heap.size 28 #[.int .i64 x.op, .int .i64 x.n, .string x.s, .string x.q, .slice x.A x.X.length x.c] := by rw [← hw1]; exact Blk.new wr _ _
        have o1 : Only [] wr w1 := by rw [← hw1]; exact (Only.refl [] wr).alloc _
        obtain ⟨w2, hw2⟩ : ∃ w2, w1.alloc (.cells #[.int .i64 y.op, .int .i64 y.n, .string y.s, .string y.q, .slice y.A y.X.length y.c] 28) = w2 := ⟨_, rfl⟩
        have b2_ : Blk w2 w1.heap.size 28 #[.int .i64 y.op, .int .i64 y.n, .string y.s, .string y.q, .slice y.A y.X.length y.c] := by rw [← hw2]; exact Blk.new w1 _ _
        have o2 : Only [] w1 w2 := by rw [← hw2]; exact (Only.refl [] w1).alloc _
        replace b1 := b1.only o2 (by simp)
        have HO1 := Lib.hid (ho.trans o1 (by simp))
        have HO2 := Lib.hid (HO1.out.trans o2 (by simp))
        replace p0 := ho.cell p0 (by simp)
        replace p1 := ho.cell p1 (by simp)
        replace p2 := ho.cell p2 (by simp)
        replace p3 := ho.cell p3 (by simp)
        replace p4 := ho.cell p4 (by simp)
        replace q0 := HO1.out.cell q0 (by simp)
        replace q1 := HO1.out.cell q1 (by simp)
        replace q2 := HO1.out.cell q2 (by simp)
        replace q3 := HO1.out.cell q3 (by simp)
        replace q4 := HO1.out.cell q4 (by simp)
        have g0 := b1.cell 0
        have g1 := b1.cell 1
        have g2 := b1.cell 2
        have g3 := b1.cell 3
        have g4 := b1.cell 4
        have e0 := b2_.cell 0
        have e1 := b2_.cell 1
        have e2 := b2_.cell 2
        have e3 := b2_.cell 3
        have e4 := b2_.cell 4
        have HC := HPC.out w2 HO2.out x hx y hy ⟨k, hxk, hyk⟩
        unfold XT.val at HC
        obtain ⟨bb, hbb⟩ : ∃ bb, f x y = bb := ⟨_, rfl⟩
        rw [hbb] at HC
        have HCH := Lib.hid HC
        have HB := Lib.hid hbb
        have HXK := Lib.hid (And.intro hxk hyk)
        clear hx hy hxk hyk ho hbb b1 b2_ o1 o2 HC
        cases bb
        · have HF := Lib.hid (sameL_false HXK.out.1 HXK.out.2 HB.out)
          go_wp2_with (go_at_call 7; refine HCH.out.mono ?_; rintro e w3 ⟨rfl, ho3⟩; have HO3 := Lib.hid (HO2.out.trans ho3 (by simp)); clear ho3)
          go_ret
          exact ⟨by rw [HF.out]; rfl, HO3.out⟩
        · have HNX : Hid (∀ (i : Nat) (x y : XT), i < k + 1 → xs[i]? = some x → ys[i]? = some y → f x y = true) := Lib.hid (fun i x' y' hi hx hy => by
            rcases Nat.lt_or_ge i k with h | h
            · exact HALL.out i x' y' h hx hy
            · obtain rfl : i = k := by omega
              rw [HXK.out.1] at hx
              rw [HXK.out.2] at hy
              injection hx with hx
              injection hy with hy
              rw [← hx, ← hy]
              exact HB.out)
          go_wp2_with (go_at_call 7; refine HCH.out.mono ?_; rintro e w3 ⟨rfl, ho3⟩; have HO3 := Lib.hid (HO2.out.trans ho3 (by simp)); clear ho3)
          go_roundw
          case measure => simp [intOf]; omega
          case rel => exact ⟨k + 1, by go_num, by omega, HNX.out, HO3.out⟩
      · obtain rfl : k = n := by omega
        have d1 : decide ((k : Int) < (k : Int)) = false := decide_eq_false (by omega)
        have HF : Hid (sameL f xs ys = true) := Lib.hid (sameL_true (by rw [HL.out.1, HL.out.2]) (fun i x y hx hy => HALL.out i x y (by
          rcases Nat.lt_or_ge i k with h | h
          · exact h
          · rw [List.getElem?_eq_none (by rw [HL.out.1]; exact h)] at hx; cases hx) hx hy))
        go_wp2_with fail
        go_ret
        exact ⟨by rw [HF.out]; rfl, HO.out⟩
  · have hne : ((n : Int) != (m : Int)) = true := by simp; omega
    have HF : Hid (sameL f xs ys = false) := Lib.hid (sameL_len (by rw [HL.out.1, HL.out.2]; exact hnm))
    go_wp2_with fail
    go_ret
    exact ⟨by rw [HF.out]; rfl, Only.refl _ _⟩
end
end Go.Proofs.Ytmjkohlhbboapaa.Tree
