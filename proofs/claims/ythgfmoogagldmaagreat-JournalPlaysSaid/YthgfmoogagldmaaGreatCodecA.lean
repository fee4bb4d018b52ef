/- CodecA: The walks of the reference of layer 3: bytes laid, bytes read; Plain law: a number, a text that was laid is read as it was. -/
import Derived.Test.YthgfmoogagldmaaGreatCodecB
set_option linter.unusedVariables false
namespace Go.Proofs.YthgfmoogagldmaaGreat.Codec
open Go.RowKit

theorem ref_num (v : Value) (n base : Nat) (l : List UInt8) (z : Int) (w : World) (h : OwnB w base v n l) (hb : base ≤ w.heap.size) (hn : n + 8 ≤ 140737488355328) :
    Calls Tryz.prog 94 #[v, .int .i64 z] w fun e w' => ∃ v', e = .returned v' ∧ Ext w w' base v v' (n + 8) (l ++ le (u64 z) 8) := by
  have hu := u64_wrap z
  generalize u64 z = x at *
  go_enter Tryz.func94, Tryz.ntmps94
  go_wp2_with fail
  go_loopw [0, 5] (fun b i wr => ∃ k : Nat, k ≤ 8 ∧ i = .int .i64 k ∧ Ext w wr base v b (n + k) (l ++ le x k)) (fun _ i _ => 8 - (intOf i).toNat)
  case atStart => exact ⟨0, by omega, rfl, by simpa [le] using Ext.refl h⟩
  case round =>
    rename_i b _ _
    obtain ⟨k, hk, rfl, he⟩ := hrel
    by_cases hlt : k < 8
    · have e1 : IntKind.i64.wrap (8 * (k : Int)) = 8 * (k : Int) := IntWalk.i64_in _ (by omega)
      have e2 : (0 : Int) ≤ 8 * (k : Int) := by omega
      have e3 : (8 * (k : Int)).toNat = 8 * k := by omega
      have e4 : min (8 * k) 64 = 8 * k := Nat.min_eq_left (by omega)
      have e5 := byteAt_wrap x k
      have HLE := Lib.hid (le_succ x k)
      generalize byteAt x k = c at *
      have hB := Bytes.const wr [c] #[.int .u8 (c.toNat : Int)] 5 (0, 0) rfl
      have hO := he.own.alloc (.cells #[.int .u8 (c.toNat : Int)] 5)
      have hsz := he.only.size
      go_wp2_with (at_builtin; refine wpList_append_bytes rfl (.tmp 10) (.tmp 17) rfl rfl hO rfl hB (by show n + k + 1 ≤ _; omega) (by simp; omega) ?_; intro v2 w2 ho2 hon2 hfr2)
      go_roundw
      case rel => exact ⟨k + 1, by omega, by go_num, by rw [HLE.out, ← List.append_assoc]; exact he.trans (Ext.after ((Only.refl [] wr).alloc _) ⟨ho2, hon2, hfr2⟩)⟩
      case measure => simp [intOf]; omega
    · go_wp2_with fail
      obtain rfl : k = 8 := by omega
      go_ret
      exact ⟨_, rfl, he⟩

theorem le_two (x : Nat) : le x 2 = [byteAt x 0, byteAt x 1] := rfl
theorem byte0 (x : Nat) : IntKind.u8.wrap (x : Int) = ((byteAt x 0).toNat : Int) := by
  have := byteAt_wrap x 0
  simpa using this
theorem byte1 (x : Nat) : IntKind.u8.wrap ((x : Int) / 256) = ((byteAt x 1).toNat : Int) := by
  have := byteAt_wrap x 1
  simpa using this
end Go.Proofs.YthgfmoogagldmaaGreat.Codec
namespace Go.Proofs.YthgfmoogagldmaaGreat.Codec
open Go.RowKit

theorem byteAt_nat (x k : Nat) : (byteAt x k).toNat = x / 2 ^ (8 * k) % 256 := by
  unfold byteAt; rw [UInt8.toNat_ofNat']
theorem le_vle (x k : Nat) : vle (le x k) = x % 2 ^ (8 * k) := by
  induction k with
  | zero => simp [le, vle, Nat.mod_one]
  | succ k ih =>
    rw [le_succ, vle_snoc, le_len, ih, byteAt_nat, show 8 * (k + 1) = 8 * k + 8 by omega, Nat.pow_add, Nat.mod_mul, Nat.mul_comm (2 ^ (8 * k))]
theorem s64_u64 (n : Int) (h0 : -9223372036854775808 ≤ n) (h1 : n < 9223372036854775808) : s64 (u64 n) = n := by
  unfold s64 u64 wrap64
  omega
theorem rget_app (a b : List UInt8) (k : Nat) (h : a.length = k) : rget k (some (a ++ b)) = a := by
  rw [rget_ok (by rw [List.length_append]; omega), ← h, List.take_left']
  rfl
theorem rgot_app (a b : List UInt8) (k : Nat) (h : a.length = k) : rgot k (some (a ++ b)) = some b := by
  rw [rgot_ok (by rw [List.length_append]; omega), ← h, List.drop_left']
  rfl
theorem back_num (n : Int) (b : List UInt8) (h0 : -9223372036854775808 ≤ n) (h1 : n < 9223372036854775808) : s64 (vle (rget 8 (some (le (u64 n) 8 ++ b)))) = n ∧ rgot 8 (some (le (u64 n) 8 ++ b)) = some b := by
  have hl := u64_lt n
  refine ⟨?_, rgot_app _ _ _ (le_len _ _)⟩
  rw [rget_app _ _ _ (le_len _ _), le_vle, Nat.mod_eq_of_lt (by omega), s64_u64 n h0 h1]
theorem back_two (x : Nat) (b : List UInt8) (h : x < 65536) : vle (rget 2 (some (le x 2 ++ b))) = x ∧ rgot 2 (some (le x 2 ++ b)) = some b := by
  refine ⟨?_, rgot_app _ _ _ (le_len _ _)⟩
  rw [rget_app _ _ _ (le_len _ _), le_vle, Nat.mod_eq_of_lt (by omega)]
end Go.Proofs.YthgfmoogagldmaaGreat.Codec
