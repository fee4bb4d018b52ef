/- FrameMarks, walked. -/
import Derived.Test.YtbeenfkmnchhbaaFrameLaw
namespace Go.Proofs.Ytbeenfkmnchhbaa.Frame
open Go.RowKit Codec
set_option linter.unusedVariables false
set_option maxRecDepth 100000
theorem val_cases (m : Mark) : ∃ k g s n, m.val = .agg #[.int .i64 k, .int .i64 g, .int .i64 s, .int .i64 n] := ⟨_, _, _, _, rfl⟩
set_option maxHeartbeats 4000000 in
theorem marks_any (m : Mark) (A : Option Addr) (n c : Nat) (l : List UInt8) (w : World) (hr : Bytes w w.heap.size A n l) (hnc : n ≤ c) (hcm : c ≤ maxLen) :
    Calls Try.prog 3 #[m.val, .slice A n c] w fun x w' => x = .returned (.bool true) ∧ Only [] w w' := by
  have HK := Lib.hid knows_any
  have hb := Blk.new w 23 m.cells
  have ho : Only [] w (w.alloc (.cells m.cells 23)) := (Only.refl _ _).alloc _
  have hr1 := hr.only ho (by simp)
  have hB1 := ho.size
  have hP := fun w => put_any m w
  have hQ := fun w => rput_any m w
  generalize putB m = P at *
  obtain ⟨k, g, s, nn⟩ := m
  unfold Mark.val at *
  unfold Mark.cells at *
  simp only at *
  by_cases h200 : 200 < n
  · have d1 : decide ((200 : Int) < (n : Int)) = true := decide_eq_true (by omega)
    go_enter Try.func3, Try.ntmps3
    go_wp2_with (go_at_call 11; refine (HK.out _).mono ?_; rintro x wk ⟨rfl, hok⟩)
    go_ret
    exact ⟨rfl, ho.trans hok (by simp)⟩
  · have d1 : decide ((200 : Int) < (n : Int)) = false := decide_eq_false (by omega)
    obtain ⟨w1, hw1⟩ : ∃ w1, w.alloc (.cells #[.int .i64 k, .int .i64 g, .int .i64 s, .int .i64 nn] 23) = w1 := ⟨_, rfl⟩
    rw [hw1] at hb ho hr1 hB1
    have HW1 := Lib.hid hw1
    clear hw1
    have hG := fun w' h => get_any A n c w.heap.size l w' h
    have hH := fun w' h => rget_any A n c w.heap.size l w' h
    have hgv : ∃ (x y z u : Int) (b : Bool), (getR l).1.val = .agg #[.int .i64 x, .int .i64 y, .int .i64 z, .int .i64 u] ∧ (getR l).2 = b := ⟨_, _, _, _, _, rfl, rfl⟩
    obtain ⟨x, y, z, u, b, hv1, hv2⟩ := hgv
    rw [hv1, hv2] at hG hH
    clear hv1 hv2 h200
    go_enter Try.func3, Try.ntmps3
    go_wp2_with fail
    rw [HW1.out]
    clear HW1
    refine (hG w1 hr1 hB1 hnc hcm).mono ?_
    rintro _ w2 ⟨rfl, ho2⟩
    have hoz : Only [] w2 (w2.alloc (.cells #[.int .i64 x, .int .i64 y, .int .i64 z, .int .i64 u] 26)) := (Only.refl _ _).alloc _
    have hb3 := (hb.only ho2 (by simp)).only hoz (by simp)
    have hr3 := (hr1.only ho2 (by simp)).only hoz (by simp)
    have hm3 := Blk.new w2 26 #[.int .i64 x, .int .i64 y, .int .i64 z, .int .i64 u]
    have ho3 := (ho.trans ho2 (by simp)).trans hoz (by simp)
    have hB3 := ho3.size
    clear hb hr1 ho ho2 hoz hr hB1 hG
    go_wp2_with fail
    obtain ⟨w3, hw3⟩ : ∃ w3, w2.alloc (.cells #[.int .i64 x, .int .i64 y, .int .i64 z, .int .i64 u] 26) = w3 := ⟨_, rfl⟩
    rw [hw3] at hb3 hr3 hm3 ho3 hB3 ⊢
    clear hw3
    generalize w2.heap.size = q1 at *
    refine (hH w3 hr3 hB3 hnc hcm).mono ?_
    rintro _ w4 ⟨rfl, ho4⟩
    have hoz : Only [] w4 (w4.alloc (.cells #[.int .i64 x, .int .i64 y, .int .i64 z, .int .i64 u] 23)) := (Only.refl _ _).alloc _
    have hb5 := (hb3.only ho4 (by simp)).only hoz (by simp)
    have hm5 := (hm3.only ho4 (by simp)).only hoz (by simp)
    have hq5 := Blk.new w4 23 #[.int .i64 x, .int .i64 y, .int .i64 z, .int .i64 u]
    have ho5 := (ho3.trans ho4 (by simp)).trans hoz (by simp)
    have hws : World.setCell (World.setCell w4 ⟨0, 0, none⟩ undef) ⟨0, 0, none⟩ undef = World.setCell (World.setCell w4 ⟨0, 0, none⟩ undef) ⟨0, 0, none⟩ undef := rfl
    clear hb3 hr3 hm3 ho3 ho4 hoz hH hws
    go_wp2_with fail
    obtain ⟨w5, hw5⟩ : ∃ w5, w4.alloc (.cells #[.int .i64 x, .int .i64 y, .int .i64 z, .int .i64 u] 23) = w5 := ⟨_, rfl⟩
    rw [hw5] at hb5 hm5 hq5 ho5
    rw [hw5]
    clear hw5
    generalize w4.heap.size = q2 at *
    have hc : ∀ w', Only [] w5 w' → Only [] w w' ∧ (w'.cell? ⟨w.heap.size, 0, none⟩ = some (.int .i64 k) ∧ w'.cell? ⟨w.heap.size, 1, none⟩ = some (.int .i64 g) ∧ w'.cell? ⟨w.heap.size, 2, none⟩ = some (.int .i64 s) ∧ w'.cell? ⟨w.heap.size, 3, none⟩ = some (.int .i64 nn)) ∧
        (w'.cell? ⟨q1, 0, none⟩ = some (.int .i64 x) ∧ w'.cell? ⟨q1, 1, none⟩ = some (.int .i64 y) ∧ w'.cell? ⟨q1, 2, none⟩ = some (.int .i64 z) ∧ w'.cell? ⟨q1, 3, none⟩ = some (.int .i64 u)) ∧
        (w'.cell? ⟨q2, 0, none⟩ = some (.int .i64 x) ∧ w'.cell? ⟨q2, 1, none⟩ = some (.int .i64 y) ∧ w'.cell? ⟨q2, 2, none⟩ = some (.int .i64 z) ∧ w'.cell? ⟨q2, 3, none⟩ = some (.int .i64 u)) := fun w' h =>
      ⟨ho5.trans h (by simp), ⟨(hb5.only h (by simp)).cell 0, (hb5.only h (by simp)).cell 1, (hb5.only h (by simp)).cell 2, (hb5.only h (by simp)).cell 3⟩,
        ⟨(hm5.only h (by simp)).cell 0, (hm5.only h (by simp)).cell 1, (hm5.only h (by simp)).cell 2, (hm5.only h (by simp)).cell 3⟩,
        ⟨(hq5.only h (by simp)).cell 0, (hq5.only h (by simp)).cell 1, (hq5.only h (by simp)).cell 2, (hq5.only h (by simp)).cell 3⟩⟩
    have HC := Lib.hid hc
    clear hc hb5 hm5 hq5 ho5
    obtain ⟨o5, ⟨a0, a1, a2, a3⟩, ⟨b0, b1, b2, b3⟩, ⟨c0, c1, c2, c3⟩⟩ := HC.out w5 (Only.refl _ _)
    have HOD : Hid (Only [] w5 w5.drew) := (Only.refl _ _).drew
    have HP := Lib.hid hP
    have HQ := Lib.hid hQ
    clear hP hQ
    go_region_held (fun w' => w'.cell? ⟨w.heap.size, 0, none⟩ = some (.int .i64 k) ∧ w'.cell? ⟨w.heap.size, 1, none⟩ = some (.int .i64 g) ∧ w'.cell? ⟨w.heap.size, 2, none⟩ = some (.int .i64 s) ∧ w'.cell? ⟨w.heap.size, 3, none⟩ = some (.int .i64 nn) ∧ w'.cell? ⟨q1, 0, none⟩ = some (.int .i64 x) ∧ w'.cell? ⟨q1, 1, none⟩ = some (.int .i64 y) ∧ w'.cell? ⟨q1, 2, none⟩ = some (.int .i64 z) ∧ w'.cell? ⟨q1, 3, none⟩ = some (.int .i64 u) ∧ w'.cell? ⟨q2, 0, none⟩ = some (.int .i64 x) ∧ w'.cell? ⟨q2, 1, none⟩ = some (.int .i64 y) ∧ w'.cell? ⟨q2, 2, none⟩ = some (.int .i64 z) ∧ w'.cell? ⟨q2, 3, none⟩ = some (.int .i64 u)) (first | go_keep | (refine ⟨?_, ?_, ?_, ?_, ?_, ?_, ?_, ?_, ?_, ?_, ?_, ?_⟩ <;> assumption)) ((first
      | (go_at_call 11; refine (HK.out wb).mono ?_; rintro _ wk ⟨rfl, hok⟩; obtain ⟨okk, ⟨j0, j1, j2, j3⟩, ⟨l0, l1, l2, l3⟩, ⟨m0, m1, m2, m3⟩⟩ := HC.out wk (hob5.trans hok (by simp)))
      | (go_at_call 15; refine (HQ.out wa).mono ?_; rintro _ wb ⟨vb, rfl, hvb, hob⟩; obtain ⟨Ab, capb, rfl, _, _, hrb, _⟩ := hvb.shape; have hob5 := hoa5.trans hob (by simp); obtain ⟨ob, ⟨g0, g1, g2, g3⟩, ⟨h0, h1, h2, h3⟩, ⟨i0, i1, i2, i3⟩⟩ := HC.out wb hob5; have hsb := run_str hrb capb; have hsa2 := run_str (hra.only hob (by simp)) capa)
      | (go_at_call 14; refine (HP.out w5.drew).mono ?_; rintro _ wa ⟨va, rfl, hva, hoa⟩; obtain ⟨Aa, capa, rfl, _, _, hra, _⟩ := hva.shape; have hoa5 := HOD.out.trans hoa (by simp); obtain ⟨oa, ⟨d0, d1, d2, d3⟩, ⟨e0, e1, e2, e3⟩, ⟨f0, f1, f2, f3⟩⟩ := HC.out wa hoa5; have hsa := run_str hra capa)))
    all_goals
      go_wp2_with fail
      go_ret
      exact ⟨by simp, ob.trans hok (by simp)⟩
end Go.Proofs.Ytbeenfkmnchhbaa.Frame
