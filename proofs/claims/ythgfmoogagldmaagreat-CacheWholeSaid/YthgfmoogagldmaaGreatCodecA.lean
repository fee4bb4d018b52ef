/- CodecA: The walks of the reference of layer 3: bytes laid, bytes read; Plain law: a number, a text that was laid is read as it was. -/
import Derived.Test.YthgfmoogagldmaaGreatCodecB
set_option linter.unusedVariables false
namespace Go.Proofs.YthgfmoogagldmaaGreat.Codec
open Go.RowKit

end Go.Proofs.YthgfmoogagldmaaGreat.Codec
namespace Go.Proofs.YthgfmoogagldmaaGreat.Codec
open Go.RowKit

theorem byteAt_nat (x k : Nat) : (byteAt x k).toNat = x / 2 ^ (8 * k) % 256 := by
  unfold byteAt; rw [UInt8.toNat_ofNat']
theorem le_vle (x k : Nat) : vle (le x k) = x % 2 ^ (8 * k) := by
  induction k with
  | zero => simp [le, vle, Nat.mod_one]
  | succ k ih =>
    rw [le_succ, vle_snoc, le_len, ih, byteAt_nat, show 8 * (k + 1) = 8 * k + 8 by omega, Nat.pow_add, Nat.mod_mul, Nat.mul_comm (2 ^ (8 * k))]
theorem s64_u64 (n : Int) (h0 : -9223372036854775808 ≤ n) (h1 : n < 9223372036854775808) : s64 (u64 n) = n := by
  unfold s64 u64 wrap64
  omega
theorem rget_app (a b : List UInt8) (k : Nat) (h : a.length = k) : rget k (some (a ++ b)) = a := by
  rw [rget_ok (by rw [List.length_append]; omega), ← h, List.take_left']
  rfl
theorem rgot_app (a b : List UInt8) (k : Nat) (h : a.length = k) : rgot k (some (a ++ b)) = some b := by
  rw [rgot_ok (by rw [List.length_append]; omega), ← h, List.drop_left']
  rfl
theorem back_num (n : Int) (b : List UInt8) (h0 : -9223372036854775808 ≤ n) (h1 : n < 9223372036854775808) : s64 (vle (rget 8 (some (le (u64 n) 8 ++ b)))) = n ∧ rgot 8 (some (le (u64 n) 8 ++ b)) = some b := by
  have hl := u64_lt n
  refine ⟨?_, rgot_app _ _ _ (le_len _ _)⟩
  rw [rget_app _ _ _ (le_len _ _), le_vle, Nat.mod_eq_of_lt (by omega), s64_u64 n h0 h1]
theorem back_two (x : Nat) (b : List UInt8) (h : x < 65536) : vle (rget 2 (some (le x 2 ++ b))) = x ∧ rgot 2 (some (le x 2 ++ b)) = some b := by
  refine ⟨?_, rgot_app _ _ _ (le_len _ _)⟩
  rw [rget_app _ _ _ (le_len _ _), le_vle, Nat.mod_eq_of_lt (by omega)]
end Go.Proofs.YthgfmoogagldmaaGreat.Codec
