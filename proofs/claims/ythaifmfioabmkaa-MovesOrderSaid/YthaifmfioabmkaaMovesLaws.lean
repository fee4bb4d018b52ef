/- MovesRight and MovesApart walk. -/
import Derived.Test.YthaifmfioabmkaaMovesLaw
namespace Go.Proofs.Ythaifmfioabmkaa.Moves
open Go.RowKit Go.Maps
set_option linter.unusedVariables false
set_option maxRecDepth 100000
theorem rcyc_is (l : List Mv) (m : Nat) (hm : l.length = m) : Uniq l → (cnt l (m + 1) (frees l (beg l, [])).1 : Int) = (rcyc l : Int) := by
  intro hu
  unfold rcyc
  rw [if_pos hu, ← hm, cycles_sum hu]
/-- moves.Cycles, whatever the moves are -/
theorem cycles_all (A : Option Addr) (m c : Nat) (l : List Mv) (w : World) (hr : Recs w w.heap.size 2 A m (l.map Mv.row)) (hok : AllOk l) (hm : m ≤ 100) :
    Calls Try.prog 10 #[.slice A m c] w fun x w' => x = .returned (.int .i64 (rcyc l)) ∧ Only [] w w' := by
  by_cases hu : Uniq l
  · have := cycles_any A m c l w hr hok hm hu
    rw [rcyc_is l m (by simpa using hr.1) hu] at this
    exact this
  · have := cycles_no A m c l w hr hok hm hu
    rw [show rcyc l = 0 from if_neg hu]
    exact this
set_option maxHeartbeats 1000000 in
theorem right_law (A : Option Addr) (m c : Nat) (l : List Mv) (sp : Int) (w : World) (hr : Recs w w.heap.size 2 A m (l.map Mv.row)) (hok : AllOk l) (hm : m ≤ maxLen) :
    Calls Try.prog 3 #[.slice A m c, .int .i64 sp] w fun x w' => x = .returned (.bool true) ∧ Only [] w w' := by
  have hl : l.length = m := by simpa using hr.1
  have HK := Lib.hid knows_any
  unfold maxLen at hm
  by_cases h60 : 60 < m
  · have e1 : decide ((60 : Int) < (m : Int)) = true := decide_eq_true (by omega)
    clear hr hl
    go_enter Try.func3, Try.ntmps3
    go_wp2_with (go_at_call 6; refine (HK.out _).mono ?_; rintro x wk ⟨rfl, hok⟩)
    go_ret
    exact ⟨rfl, hok⟩
  · have e1 : decide ((60 : Int) < (m : Int)) = false := decide_eq_false (by omega)
    have HO := Lib.hid (fun w2 (h : Only [] w w2) => own_any A m c l w2 ((hr.only h (by simp)).more h.size) (by omega))
    have HRR := Lib.hid (fun w2 (h : Only [] w w2) => rright_any A m c l sp w2 ((hr.only h (by simp)).more h.size) (by omega))
    have HRC := Lib.hid (fun w2 (h : Only [] w w2) => rcycles_any A m c l w2 ((hr.only h (by simp)).more h.size) (by omega))
    have HL := Lib.hid hl
    have HOK := Lib.hid hok
    obtain ⟨q, hq⟩ : ∃ q, rightB l sp = q := ⟨_, rfl⟩
    rw [hq] at HRR
    have HQ := Lib.hid hq
    have hqq : (q == q) = true := by simp
    clear hr hl hok hq
    go_enter Try.func3, Try.ntmps3
    go_wp2_with fail
    refine (HO.out w (Only.refl _ _)).mono ?_
    rintro x w1 ⟨v1, rfl, hown1, ho1⟩
    obtain ⟨A1, c1, rfl, _, _, hr1, _⟩ := hown1.shape (by decide)
    have hri := right_any A1 m c1 l sp w1 hr1 HOK.out (by omega)
    rw [HQ.out] at hri
    have HRI := Lib.hid hri
    clear hri hr1 hown1
    go_wp2_with (first
      | (go_at_call 7; refine HRI.out.mono ?_; rintro x w2 ⟨rfl, ho2⟩; have ho2' := ho1.trans ho2 (by simp))
      | (go_at_call 9; refine (HRR.out w2 ho2').mono ?_; rintro x w3 ⟨rfl, ho3⟩; have ho3' := ho2'.trans ho3 (by simp))
      | (go_at_call 8; refine (HO.out w3 ho3').mono ?_; rintro x w4 ⟨v4, rfl, hown4, ho4⟩; obtain ⟨A4, c4, rfl, _, _, hr4, _⟩ := hown4.shape (by decide); have HCY := Lib.hid (cycles_all A4 m c4 l w4 hr4 HOK.out (by omega)); have ho4' := ho3'.trans ho4 (by simp))
      | (go_at_call 10; refine HCY.out.mono ?_; rintro x w5 ⟨rfl, ho5⟩; have ho5' := ho4'.trans ho5 (by simp))
      | (go_at_call 11; refine (HRC.out w5 ho5').mono ?_; rintro x w6 ⟨rfl, ho6⟩; have ho6' := ho5'.trans ho6 (by simp))
      | (go_at_call 6; refine (HK.out w6).mono ?_; rintro x w7 ⟨rfl, ho7⟩; have ho7' := ho6'.trans ho7 (by simp)))
    go_ret
    exact ⟨rfl, ho7'⟩
end Go.Proofs.Ythaifmfioabmkaa.Moves
