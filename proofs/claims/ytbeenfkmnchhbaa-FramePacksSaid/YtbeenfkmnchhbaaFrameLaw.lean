/- The laws of marks: what is put is got; torn sectors. -/
import Derived.Test.YtbeenfkmnchhbaaFrameRefGet
namespace Go.Proofs.Ytbeenfkmnchhbaa.Frame
open Go.RowKit Codec
set_option linter.unusedVariables false
set_option maxRecDepth 100000

def Mark.fits (m : Mark) : Prop := (-9223372036854775808 ≤ m.k ∧ m.k < 9223372036854775808) ∧ (-9223372036854775808 ≤ m.g ∧ m.g < 9223372036854775808) ∧ (-9223372036854775808 ≤ m.s ∧ m.s < 9223372036854775808) ∧ (-9223372036854775808 ≤ m.n ∧ m.n < 9223372036854775808)
theorem read_back (m : Mark) (rest : List UInt8) (hr : m.right) (hf : m.fits) : readM (halfB m ++ rest) = m := by
  obtain ⟨k, g, s, n⟩ := m
  unfold Mark.right at hr
  unfold Mark.fits at hf
  simp only at hr hf
  have hcl : clamp k = k.toNat := by unfold clamp; omega
  have e1 : ((halfB ⟨k, g, s, n⟩ ++ rest).drop 2).take 30 = le k.toNat 2 ++ (le (u64 g) 8 ++ (le (u64 s) 8 ++ (le (u64 n) 8 ++ le (Sums.crc (Sums.nats (headB ⟨k, g, s, n⟩))) 4))) := by
    have e2 : halfB ⟨k, g, s, n⟩ ++ rest = [84, 77] ++ ((le k.toNat 2 ++ (le (u64 g) 8 ++ (le (u64 s) 8 ++ (le (u64 n) 8 ++ le (Sums.crc (Sums.nats (headB ⟨k, g, s, n⟩))) 4)))) ++ rest) := by
      unfold halfB
      generalize le (Sums.crc (Sums.nats (headB ⟨k, g, s, n⟩))) 4 = C
      unfold headB
      simp [smalls, nums, hcl]
    rw [e2, List.drop_left' (by rfl), List.take_left' (by simp [le_len])]
  unfold readM
  rw [e1]
  have b1 := back_two k.toNat (le (u64 g) 8 ++ (le (u64 s) 8 ++ (le (u64 n) 8 ++ le (Sums.crc (Sums.nats (headB ⟨k, g, s, n⟩))) 4))) (by omega)
  have b2 := back_num g (le (u64 s) 8 ++ (le (u64 n) 8 ++ le (Sums.crc (Sums.nats (headB ⟨k, g, s, n⟩))) 4)) hf.2.1.1 hf.2.1.2
  have b3 := back_num s (le (u64 n) 8 ++ le (Sums.crc (Sums.nats (headB ⟨k, g, s, n⟩))) 4) hf.2.2.1.1 hf.2.2.1.2
  have b4 := back_num n (le (Sums.crc (Sums.nats (headB ⟨k, g, s, n⟩))) 4) hf.2.2.2.1 hf.2.2.2.2
  rw [b1.1, b1.2, b2.1, b2.2, b3.1, b3.2, b4.1, Int.toNat_of_nonneg (by omega)]
theorem half_inj (m o : Mark) (hm : m.right) (hfm : m.fits) (ho : o.right) (hfo : o.fits) (h : halfB m = halfB o) : m = o := by
  have h1 := read_back m [] hm hfm
  have h2 := read_back o [] ho hfo
  rw [h] at h1
  rw [h1] at h2
  exact h2
theorem torn (m : Mark) (t : List UInt8) (hm : m.right) (hf : m.fits) (ht : t.length = 32) : getR (halfB m ++ t) = if halfB m = t then (m, true) else (zeroM, false) := by
  have hh := halfB_len m
  unfold getR
  rw [List.take_left' hh, List.drop_left' hh, read_back m t hm hf]
  by_cases h : halfB m = t
  · rw [if_pos ⟨by rw [List.length_append, hh, ht], h, hm, rfl⟩, if_pos h]
  · rw [if_neg (fun h' => h h'.2.1), if_neg h]
theorem got_put (m : Mark) (hm : m.right) (hf : m.fits) : getR (putB m) = (m, true) := by
  have hp : putB m = halfB m ++ halfB m := if_pos hm
  rw [hp, torn m (halfB m) hm hf (halfB_len m), if_pos rfl]
def oneM : Mark := ⟨1, 2, 3, 4⟩
theorem one_right : oneM.right := by unfold Mark.right oneM; simp only; omega
theorem one_fits : oneM.fits := by unfold Mark.fits oneM; simp only; omega
theorem one_six : (putB oneM).take 6 = [84, 77, 1, 0, 2, 0] := by
  have hp : putB oneM = halfB oneM ++ halfB oneM := if_pos one_right
  have hh : halfB oneM = headB oneM ++ le (Sums.crc (Sums.nats (headB oneM))) 4 := rfl
  rw [hp, hh]
  generalize le (Sums.crc (Sums.nats (headB oneM))) 4 = C
  rw [List.append_assoc, List.take_append_of_le_length (by rw [headB_len]; omega)]
  decide
theorem one_len : (putB oneM).length = 64 := by
  have hp : putB oneM = halfB oneM ++ halfB oneM := if_pos one_right
  rw [hp, List.length_append, halfB_len]
theorem need_any (n : Nat) (w : World) (h0 : 0 < n) (hn : n ≤ 140737488355328) : Calls Try.prog 22 #[.int .i64 (n : Int)] w fun x w' => x = .returned (.int .i64 (((n - 1) / 64 + 1 : Nat) : Int)) ∧ w = w' := by
  obtain ⟨k, rfl⟩ : ∃ k, n = k + 1 := ⟨n - 1, by omega⟩
  have d1 : decide (((k + 1 : Nat) : Int) ≤ 0) = false := decide_eq_false (by omega)
  go_enter Try.func22, Try.ntmps22
  go_wp2_with fail
  go_ret
  have e : (((k + 1 - 1) / 64 + 1 : Nat) : Int) = (k : Int) / 64 + 1 := by omega
  rw [e]
  exact ⟨rfl, rfl⟩
theorem knows_any (w : World) : Calls Try.prog 11 #[] w fun x w' => x = .returned (.bool true) ∧ Only [] w w' := by
  have hP := fun w => put_any oneM w
  have hlen := one_len
  have hgot := got_put oneM one_right one_fits
  have hsix := one_six
  rw [hlen] at hP
  generalize putB oneM = P at *
  have hv : oneM.val = .agg #[.int .i64 1, .int .i64 2, .int .i64 3, .int .i64 4] := rfl
  rw [hv] at hP
  have HLEN := Lib.hid hlen
  have HGOT := Lib.hid hgot
  have HSIX := Lib.hid hsix
  clear hlen hgot hsix hv
  go_enter Try.func11, Try.ntmps11
  go_wp2_with fail
  refine (hP w).mono ?_
  rintro x w1 ⟨v, rfl, hv, ho1⟩
  obtain ⟨A, cap, rfl, hc, hm, hr, _⟩ := hv.shape
  go_wp2_with fail
  have hG := get_any A 64 cap _ P w1 hr (Nat.le_refl _) hc hm
  rw [HGOT.out] at hG
  have hv2 : (oneM, true).1.val = .agg #[.int .i64 1, .int .i64 2, .int .i64 3, .int .i64 4] := rfl
  rw [hv2] at hG
  refine hG.mono ?_
  rintro x w2 ⟨rfl, ho2⟩
  have hs := run_str (((hr.only ho2 (by simp)).alloc (by exact ho2.size) (.cells #[.int .i64 1, .int .i64 2, .int .i64 3, .int .i64 4] 26)).head (k := 6) (by omega)) cap
  rw [HSIX.out] at hs
  have hs6 : str [84, 77, 1, 0, 2, 0] = ⟨#[84, 77, 1, 0, 2, 0]⟩ := rfl
  rw [hs6] at hs
  have hN := fun w => need_any 65 w (by decide) (by decide)
  have HN := Lib.hid hN
  clear hG hP hv hr hN
  unfold maxLen at hm
  go_wp2_with (go_at_call 22; refine (HN.out _).mono ?_; rintro x wx ⟨rfl, rfl⟩)
  go_ret
  exact ⟨by simp, (ho1.trans ho2 (by simp)).alloc _⟩
end Go.Proofs.Ytbeenfkmnchhbaa.Frame
