/- FrameLaws: The walks of frame: the mark of a sector, by the document; The laws of marks: what is put is got; torn sectors. -/
import Derived.Test.YthgfmoogagldmaaGreatFrameA
import Derived.Test.YthgfmoogagldmaaGreatFrameC
set_option linter.unusedVariables false
set_option maxRecDepth 100000
namespace Go.Proofs.YthgfmoogagldmaaGreat.Frame
open Go.RowKit Codec

end Go.Proofs.YthgfmoogagldmaaGreat.Frame
namespace Go.Proofs.YthgfmoogagldmaaGreat.Frame
open Go.RowKit Codec

def Mark.fits (m : Mark) : Prop := (-9223372036854775808 ≤ m.k ∧ m.k < 9223372036854775808) ∧ (-9223372036854775808 ≤ m.g ∧ m.g < 9223372036854775808) ∧ (-9223372036854775808 ≤ m.s ∧ m.s < 9223372036854775808) ∧ (-9223372036854775808 ≤ m.n ∧ m.n < 9223372036854775808)
theorem read_back (m : Mark) (rest : List UInt8) (hr : m.right) (hf : m.fits) : readM (halfB m ++ rest) = m := by
  obtain ⟨k, g, s, n⟩ := m
  unfold Mark.right at hr
  unfold Mark.fits at hf
  simp only at hr hf
  have hcl : clamp k = k.toNat := by unfold clamp; omega
  have e1 : ((halfB ⟨k, g, s, n⟩ ++ rest).drop 2).take 30 = le k.toNat 2 ++ (le (u64 g) 8 ++ (le (u64 s) 8 ++ (le (u64 n) 8 ++ le (Sums.crc (Sums.nats (headB ⟨k, g, s, n⟩))) 4))) := by
    have e2 : halfB ⟨k, g, s, n⟩ ++ rest = [84, 77] ++ ((le k.toNat 2 ++ (le (u64 g) 8 ++ (le (u64 s) 8 ++ (le (u64 n) 8 ++ le (Sums.crc (Sums.nats (headB ⟨k, g, s, n⟩))) 4)))) ++ rest) := by
      unfold halfB
      generalize le (Sums.crc (Sums.nats (headB ⟨k, g, s, n⟩))) 4 = C
      unfold headB
      simp [smalls, nums, hcl]
    rw [e2, List.drop_left' (by rfl), List.take_left' (by simp [le_len])]
  unfold readM
  rw [e1]
  have b1 := back_two k.toNat (le (u64 g) 8 ++ (le (u64 s) 8 ++ (le (u64 n) 8 ++ le (Sums.crc (Sums.nats (headB ⟨k, g, s, n⟩))) 4))) (by omega)
  have b2 := back_num g (le (u64 s) 8 ++ (le (u64 n) 8 ++ le (Sums.crc (Sums.nats (headB ⟨k, g, s, n⟩))) 4)) hf.2.1.1 hf.2.1.2
  have b3 := back_num s (le (u64 n) 8 ++ le (Sums.crc (Sums.nats (headB ⟨k, g, s, n⟩))) 4) hf.2.2.1.1 hf.2.2.1.2
  have b4 := back_num n (le (Sums.crc (Sums.nats (headB ⟨k, g, s, n⟩))) 4) hf.2.2.2.1 hf.2.2.2.2
  rw [b1.1, b1.2, b2.1, b2.2, b3.1, b3.2, b4.1, Int.toNat_of_nonneg (by omega)]
theorem torn (m : Mark) (t : List UInt8) (hm : m.right) (hf : m.fits) (ht : t.length = 32) : getR (halfB m ++ t) = if halfB m = t then (m, true) else (zeroM, false) := by
  have hh := halfB_len m
  unfold getR
  rw [List.take_left' hh, List.drop_left' hh, read_back m t hm hf]
  by_cases h : halfB m = t
  · rw [if_pos ⟨by rw [List.length_append, hh, ht], h, hm, rfl⟩, if_pos h]
  · rw [if_neg (fun h' => h h'.2.1), if_neg h]
theorem got_put (m : Mark) (hm : m.right) (hf : m.fits) : getR (putB m) = (m, true) := by
  have hp : putB m = halfB m ++ halfB m := if_pos hm
  rw [hp, torn m (halfB m) hm hf (halfB_len m), if_pos rfl]
def oneM : Mark := ⟨1, 2, 3, 4⟩
end Go.Proofs.YthgfmoogagldmaaGreat.Frame
