/- VerifyStrips, walked. -/
import Derived.Test.YtkdacemachejoaaVeRStripq
import Derived.Test.YtkdacemachejoaaVeSameq
namespace Go.Proofs.Ytkdacemachejoaa.Vm
open Go.RowKit Go.Shelf Go.Maps Object
set_option linter.unusedVariables false
set_option maxRecDepth 100000
set_option maxHeartbeats 8000000 in
theorem law_out (A : Option Addr) (n cc : Nat) (cs : List Cd) (fuel : Int) (w : World) (hr : Recs w w.heap.size 5 A n (cs.map Cd.row)) (h : 150 < n ∨ fuel < 0 ∨ 2000 < fuel ∨ vmRight cs = false) :
    Calls Try.prog 3 #[.slice A n cc, .int .i64 fuel] w fun y w' => y = .returned (.bool true) ∧ Only [] w w' := by
  have HRI := Lib.hid (fun (h : n ≤ 150) => rvmright_any A n cc cs w hr (by omega))
  have HK := Lib.hid (fun wx => knows_any wx)
  have hcase : (decide ((150 : Int) < (n : Int)) = true) ∨ (decide ((150 : Int) < (n : Int)) = false ∧ decide (fuel < 0) = true) ∨ (decide ((150 : Int) < (n : Int)) = false ∧ decide (fuel < 0) = false ∧ decide (2000 < fuel) = true) ∨ (decide ((150 : Int) < (n : Int)) = false ∧ decide (fuel < 0) = false ∧ decide (2000 < fuel) = false ∧ vmRight cs = false) := by
    by_cases h1 : 150 < n
    · exact .inl (decide_eq_true (by omega))
    · have e1 : decide ((150 : Int) < (n : Int)) = false := decide_eq_false (by omega)
      by_cases h2 : fuel < 0
      · exact .inr (.inl ⟨e1, decide_eq_true h2⟩)
      · by_cases h3 : 2000 < fuel
        · exact .inr (.inr (.inl ⟨e1, decide_eq_false h2, decide_eq_true h3⟩))
        · refine .inr (.inr (.inr ⟨e1, decide_eq_false h2, decide_eq_false h3, ?_⟩))
          rcases h with h | h | h | h
          · omega
          · omega
          · omega
          · exact h
  clear h hr
  rcases hcase with d1 | ⟨d1, d2⟩ | ⟨d1, d2, d3⟩ | ⟨d1, d2, d3, d4⟩
  · have d1' : decide (150 < n) = true := decide_eq_true (by have := of_decide_eq_true d1; omega)
    go_enter Try.func3, Try.ntmps3
    go_wp2_with (go_at_call 6; refine (HK.out _).mono ?_; rintro y w1 ⟨rfl, ho1⟩; have HO := Lib.hid ho1; clear ho1)
    go_ret
    exact ⟨rfl, HO.out⟩
  · have d1' : decide (150 < n) = false := decide_eq_false (by have := of_decide_eq_false d1; omega)
    go_enter Try.func3, Try.ntmps3
    go_wp2_with (go_at_call 6; refine (HK.out _).mono ?_; rintro y w1 ⟨rfl, ho1⟩; have HO := Lib.hid ho1; clear ho1)
    go_ret
    exact ⟨rfl, HO.out⟩
  · have d1' : decide (150 < n) = false := decide_eq_false (by have := of_decide_eq_false d1; omega)
    go_enter Try.func3, Try.ntmps3
    go_wp2_with (go_at_call 6; refine (HK.out _).mono ?_; rintro y w1 ⟨rfl, ho1⟩; have HO := Lib.hid ho1; clear ho1)
    go_ret
    exact ⟨rfl, HO.out⟩
  · have d1' : decide (150 < n) = false := decide_eq_false (by have := of_decide_eq_false d1; omega)
    have HRJ := Lib.hid (HRI.out (by have := of_decide_eq_false d1; omega))
    rw [d4] at HRJ
    go_enter Try.func3, Try.ntmps3
    go_wp2_with (first
      | (go_at_call 6; refine (HK.out _).mono ?_; rintro y w1 ⟨rfl, ho1⟩; have HO := Lib.hid (HO0.out.trans ho1 (by simp)); clear ho1)
      | (go_at_call 5; refine HRJ.out.mono ?_; rintro y w0 ⟨rfl, ho0⟩; have HO0 := Lib.hid ho0; clear ho0))
    go_ret
    exact ⟨rfl, HO.out⟩
set_option maxHeartbeats 8000000 in
theorem law_in (A : Option Addr) (n cc : Nat) (cs : List Cd) (fuel : Nat) (w : World) (hr : Recs w w.heap.size 5 A n (cs.map Cd.row)) (hR : vmRight cs = true) (hn : n ≤ 150) (hf : fuel ≤ 2000) :
    Calls Try.prog 3 #[.slice A n cc, .int .i64 (fuel : Int)] w fun y w' => y = .returned (.bool true) ∧ Only [] w w' := by
  have hl : cs.length = n := by have := hr.1; simpa using this
  have HRI := Lib.hid (rvmright_any A n cc cs w hr (by omega))
  rw [hR] at HRI
  have HK := Lib.hid (fun wx => knows_any wx)
  have HR := Lib.hid (And.intro hr hR)
  have HL := Lib.hid (And.intro hl (And.intro hn hf))
  have d1 : decide ((150 : Int) < (n : Int)) = false := decide_eq_false (by omega)
  have d1' : decide (150 < n) = false := decide_eq_false (by omega)
  have d2 : decide ((fuel : Int) < 0) = false := decide_eq_false (by omega)
  have d3 : decide ((2000 : Int) < (fuel : Int)) = false := decide_eq_false (by omega)
  have d3' : decide (2000 < fuel) = false := decide_eq_false (by omega)
  have hne : ((n : Int) != (n : Int)) = false := by simp
  clear hl hr hR hn hf
  go_enter Try.func3, Try.ntmps3
  go_wp2_with (first
    | (go_at_call 8; refine HS2.out.mono ?_; rintro y w4 ⟨v4, rfl, hown4, ho4⟩; rw [HL.out.1] at hown4; obtain ⟨A4, c4, rfl, hy1, hy2, hy3, hy4⟩ := hown4.shape (by decide); have H4 := Lib.hid (And.intro hown4 ho4); have H4R := Lib.hid hy3; clear hown4 ho4 hy1 hy2 hy3 hy4)
    | (go_at_call 7; refine HS1.out.mono ?_; rintro y w3 ⟨v3, rfl, hown3, ho3⟩; rw [HL.out.1] at hown3; obtain ⟨A3, c3, rfl, hx1, hx2, hx3, hx4⟩ := hown3.shape (by decide); have H3 := Lib.hid (And.intro hown3 ho3); have H3R := Lib.hid hx3; have HS2 := Lib.hid (rstrip_any A n cc cs w3 ((HR.out.1.only (HO1.out.trans ho3 (by simp)) (by simp)).more (HO1.out.trans ho3 (by simp)).size) HR.out.2); clear hown3 ho3 hx1 hx2 hx3 hx4)
    | (go_at_call 6; refine (HK.out _).mono ?_; rintro y w1 ⟨rfl, ho1⟩; have HO1 := Lib.hid (HO0.out.trans ho1 (by simp)); have HS1 := Lib.hid (strip_any A n cc cs w1 ((HR.out.1.only HO1.out (by simp)).more HO1.out.size) HR.out.2); clear ho1)
    | (go_at_call 5; refine HRI.out.mono ?_; rintro y w0 ⟨rfl, ho0⟩; have HO0 := Lib.hid ho0; clear ho0))
  have HO4 : Hid (Only [] w w4) := Lib.hid ((HO1.out.trans H3.out.2 (by simp)).trans H4.out.2 (by simp))
  have H3R4 : Hid (Recs w4 w4.heap.size 5 A3 n ((stripL cs).map Cd.row)) := Lib.hid ((H3R.out.only H4.out.2 (by simp)).more H4.out.2.size)
  clear d1 d1' d2 d3 d3' hne
  go_loopw [7] (fun i wr => ∃ k : Nat, i = .int .i64 (k : Int) ∧ k ≤ n ∧ Only [] w4 wr) (fun i _ => n - (intOf i).toNat)
  case atStart => exact ⟨0, rfl, by omega, Only.refl _ _⟩
  case round =>
    obtain ⟨k, rfl, hk, ho⟩ := hrel
    have HO5 := Lib.hid ho
    by_cases hlt : k < n
    · have d1 : decide ((k : Int) < (n : Int)) = true := decide_eq_true (by omega)
      have d1' : decide (k < n) = true := decide_eq_true hlt
      obtain ⟨b1, o1, rfl, _, c1, _, hc1, p0, p1, p2, p3, p4⟩ := cd_at (H3R4.out.only ho (by simp)) k hlt
      obtain ⟨b2, o2, rfl, _, c2, _, hc2, q0, q1, q2, q3, q4⟩ := cd_at (H4R.out.only ho (by simp)) k hlt
      obtain rfl : c1 = c2 := by rw [hc1] at hc2; exact Option.some.inj hc2
      have hw : wrap64 ((k : Int) + 1) = ((k + 1 : Nat) : Int) := by have := HL.out; rw [wrap_le (by omega) (by omega)]; omega
      have HW := Lib.hid hw
      obtain ⟨xop, xa, xb, xc, xn⟩ := c1
      simp only at p0 p1 p2 p3 p4 q0 q1 q2 q3 q4
      clear hw hc1 hc2 ho hk
      go_wp2_with fail
      go_region
      go_wp2_with fail
      go_roundw
      case measure => rw [HW.out]; simp [intOf]; omega
      case rel => exact ⟨k + 1, by rw [HW.out], hlt, HO5.out.drew⟩
    · obtain rfl : k = n := by omega
      have d1 : decide ((k : Int) < (k : Int)) = false := decide_eq_false (by omega)
      have hor : Only [] w wr := HO4.out.trans ho (by simp)
      have HR1 := Lib.hid (run_any A k cc cs fuel wr ((HR.out.1.only hor (by simp)).more hor.size) HR.out.2 (by have := HL.out; omega))
      have H3R5 : Hid (Recs wr wr.heap.size 5 A3 k ((stripL cs).map Cd.row)) := Lib.hid ((H3R4.out.only ho (by simp)).more ho.size)
      have HOR := Lib.hid hor
      clear ho hor hk hlt
      obtain ⟨S1, hS1⟩ : ∃ S, runP cs fuel ms0 = S := ⟨_, rfl⟩
      have hS2 : runP (stripL cs) fuel ms0 = S1 := by rw [← hS1]; exact (strip_runs HR.out.2 fuel ms0 inv0).symm
      have HS1' := Lib.hid hS1
      have HS2' := Lib.hid hS2
      unfold RunO at HR1
      rw [hS1] at HR1
      clear hS1 hS2
      have HR2 : Hid (∀ wx, Only [] wr wx → Calls Try.prog 9 #[.slice A3 k c3, .int .i64 (fuel : Int)] wx fun y w' => ∃ ov, y = .returned (.tuple #[.agg #[ov, .int .i64 S1.en], .int .i64 0]) ∧ OwnR 2 1 w' wx.heap.size ov S1.out.length (irows S1.out) ∧ Only [] wx w') := Lib.hid (fun wx hx => by
        have h := run_any A3 k c3 (stripL cs) fuel wx ((H3R5.out.only hx (by simp)).more hx.size) (right_strip HR.out.2) (by have := HL.out; omega)
        unfold RunO at h
        rw [HS2'.out] at h
        exact h)
      obtain ⟨on, hon⟩ : ∃ on, S1.out.length = on := ⟨_, rfl⟩
      rw [hon] at HR1 HR2
      have HON := Lib.hid hon
      clear hon
      go_upto_region 13 with (go_at_call 9; refine HR1.out.mono ?_; rintro y w6 ⟨ov6, rfl, hown6, ho6⟩; obtain ⟨A6, c6, rfl, hil6, hb6⟩ := il_of hown6; have H6 := Lib.hid (And.intro hil6 (And.intro hb6 ho6)); clear hown6 hil6 hb6 ho6; obtain ⟨w7a, hw7a⟩ : ∃ x, w6.alloc (.cells #[.slice none 0 0, .int .i64 0] 30) = x := ⟨_, rfl⟩; have bw7a : Blk w7a w6.heap.size 30 #[.slice none 0 0, .int .i64 0] := (by rw [← hw7a]; exact Blk.new w6 _ _); have ow7a : Only [] w6 w7a := (by rw [← hw7a]; exact (Only.refl [] w6).alloc _); have sw7a0 : w7a.cell? ⟨w6.heap.size, 0, none⟩ = some (.slice none 0 0) := bw7a.cell 0; have sw7a1 : w7a.cell? ⟨w6.heap.size, 1, none⟩ = some (.int .i64 0) := bw7a.cell 1; have zw7a0 := bw7a.frozen 0; have zw7a1 := bw7a.frozen 1; obtain ⟨w7, hw7⟩ : ∃ x, (w7a.setCell ⟨w6.heap.size, 0, none⟩ (.slice A6 on c6)).setCell ⟨w6.heap.size, 1, none⟩ (.int .i64 S1.en) = x := ⟨_, rfl⟩; have Hw7B : Hid (Blk w7 w6.heap.size 30 #[.slice A6 on c6, .int .i64 S1.en]) := Lib.hid (by rw [← hw7]; exact (bw7a.set_ 0 _).set_ 1 _); have Hw7O : Hid (Only [] w6 w7) := Lib.hid (by rw [← hw7]; exact (ow7a.setCell (.inr (Nat.le_refl _)) _).setCell (.inr (Nat.le_refl _)) _); clear bw7a ow7a)
      have HR3 := Lib.hid (HR2.out w7 (H6.out.2.2.trans Hw7O.out (by simp)))
      try rw [hw7]
      clear hw7 hw7a sw7a0 sw7a1 zw7a0 zw7a1
      go_upto_region 14 with (go_at_call 9; refine HR3.out.mono ?_; rintro y w8 ⟨ov8, rfl, hown8, ho8⟩; obtain ⟨A8, c8, rfl, hil8, hb8⟩ := il_of hown8; have H8 := Lib.hid (And.intro hil8 (And.intro hb8 ho8)); clear hown8 hil8 hb8 ho8; obtain ⟨w9a, hw9a⟩ : ∃ x, w8.alloc (.cells #[.slice none 0 0, .int .i64 0] 30) = x := ⟨_, rfl⟩; have bw9a : Blk w9a w8.heap.size 30 #[.slice none 0 0, .int .i64 0] := (by rw [← hw9a]; exact Blk.new w8 _ _); have ow9a : Only [] w8 w9a := (by rw [← hw9a]; exact (Only.refl [] w8).alloc _); have sw9a0 : w9a.cell? ⟨w8.heap.size, 0, none⟩ = some (.slice none 0 0) := bw9a.cell 0; have sw9a1 : w9a.cell? ⟨w8.heap.size, 1, none⟩ = some (.int .i64 0) := bw9a.cell 1; have zw9a0 := bw9a.frozen 0; have zw9a1 := bw9a.frozen 1; obtain ⟨w9, hw9⟩ : ∃ x, (w9a.setCell ⟨w8.heap.size, 0, none⟩ (.slice A8 on c8)).setCell ⟨w8.heap.size, 1, none⟩ (.int .i64 S1.en) = x := ⟨_, rfl⟩; have Hw9B : Hid (Blk w9 w8.heap.size 30 #[.slice A8 on c8, .int .i64 S1.en]) := Lib.hid (by rw [← hw9]; exact (bw9a.set_ 0 _).set_ 1 _); have Hw9O : Hid (Only [] w8 w9) := Lib.hid (by rw [← hw9]; exact (ow9a.setCell (.inr (Nat.le_refl _)) _).setCell (.inr (Nat.le_refl _)) _); clear bw9a ow9a)
      try rw [hw9]
      clear hw9 hw9a sw9a0 sw9a1 zw9a0 zw9a1
      have HO79 : Hid (Only [] w7 w9) := Lib.hid (H8.out.2.2.trans Hw9O.out (by simp))
      have hb7 := Hw7B.out.only HO79.out (by simp)
      have t0 : w9.cell? ⟨w6.heap.size, 0, none⟩ = some (.slice A6 on c6) := hb7.cell 0
      have t1 : w9.cell? ⟨w6.heap.size, 1, none⟩ = some (.int .i64 S1.en) := hb7.cell 1
      have r0 : w9.cell? ⟨w8.heap.size, 0, none⟩ = some (.slice A8 on c8) := Hw9B.out.cell 0
      have r1 : w9.cell? ⟨w8.heap.size, 1, none⟩ = some (.int .i64 S1.en) := Hw9B.out.cell 1
      have hil6 : Il w9 A6 on S1.out := (H6.out.1.only0 Hw7O.out).only0 HO79.out
      have hil8 : Il w9 A8 on S1.out := H8.out.1.only0 Hw9O.out
      have HS := Lib.hid (same_any A6 A8 on c6 c8 S1.en S1.out w9 hil6 hil8 H6.out.2.1.2)
      have HO9 : Hid (Only [] w w9) := Lib.hid (HOR.out.trans ((H6.out.2.2.trans Hw7O.out (by simp)).trans HO79.out (by simp)) (by simp))
      clear hb7 hil6 hil8
      go_wp2_with (first
        | (go_at_call 11; refine HS.out.mono ?_; rintro y w10 ⟨rfl, ho10⟩; have HO10 := Lib.hid (HO9.out.trans ho10 (by simp)); clear ho10)
        | (go_at_call 10; refine (num_any 0 _).mono ?_; rintro y wx ⟨rfl, hwx⟩; have hwx := hwx.symm; subst hwx))
      go_ret
      exact ⟨rfl, HO10.out⟩
/-- whatever comes in -/
theorem law_any (A : Option Addr) (n cc : Nat) (cs : List Cd) (fuel : Int) (w : World) (hr : Recs w w.heap.size 5 A n (cs.map Cd.row)) :
    Calls Try.prog 3 #[.slice A n cc, .int .i64 fuel] w fun y w' => y = .returned (.bool true) ∧ Only [] w w' := by
  by_cases h : 150 < n ∨ fuel < 0 ∨ 2000 < fuel ∨ vmRight cs = false
  · exact law_out A n cc cs fuel w hr h
  · simp only [not_or] at h
    obtain ⟨h1, h2, h3, h4⟩ := h
    obtain ⟨k, rfl⟩ := Int.eq_ofNat_of_zero_le (show 0 ≤ fuel by omega)
    exact law_in A n cc cs k w hr (by simpa using h4) (by omega) (by omega)
end Go.Proofs.Ytkdacemachejoaa.Vm
