/- The walk of sums.Fnv. -/
import Derived.Test.YthgfmoogagldmaaGreatSums
namespace Go.Proofs.YthgfmoogagldmaaGreat.Sums
open Go.RowKit
def fstep (h c : Nat) : Nat := (h ^^^ c) * 1099511628211 % 18446744073709551616
theorem fstep_lt (h c : Nat) : fstep h c < 18446744073709551616 := by unfold fstep; omega
def ffold (l : List Nat) : Nat := l.foldl fstep 14695981039346656037
theorem foldl_snoc {f : Nat → Nat → Nat} (h : Nat) (l : List Nat) (c : Nat) : (l ++ [c]).foldl f h = f (l.foldl f h) c := by simp
theorem ffold_snoc (l : List Nat) (c : Nat) : ffold (l ++ [c]) = fstep (ffold l) c := foldl_snoc _ l c
theorem foldl_lt {M : Nat} {f : Nat → Nat → Nat} (hs : ∀ h c, f h c < M) (l : List Nat) (h : Nat) (h0 : h < M) : l.foldl f h < M := by
  induction l generalizing h with
  | nil => exact h0
  | cons c l ih => exact ih _ (hs h c)
theorem first_lt : 14695981039346656037 < 18446744073709551616 := by omega
theorem ffold_lt (l : List Nat) : ffold l < 18446744073709551616 := by
  unfold ffold
  exact foldl_lt fstep_lt l _ first_lt
theorem fnv_any (A : Option Addr) (cap : Nat) (l : List UInt8) (B : Nat) (w : World) (n : Nat) (hb : Bytes w B A n l) (hl : n ≤ maxLen) :
    Calls Tryz.prog 148 #[.slice A n cap] w fun e w' => e = .returned (.int .u64 (ffold (nats l) : Nat)) ∧ w = w' := by
  unfold maxLen at hl
  have HL := Lib.hid hb.len
  go_enter Tryz.func148, Tryz.ntmps148
  go_wp2
  go_loop [3, 8] (fun v i => ∃ k : Nat, k ≤ n ∧ i = .int .i64 k ∧ v = .int .u64 (ffold (nats (l.take k)) : Nat)) (fun _ i => n - (intOf i).toNat)
  case atStart => exact ⟨0, by omega, rfl, rfl⟩
  case round =>
    obtain ⟨k, hk, rfl, rfl⟩ := hrel
    have hlf := ffold_lt (nats (l.take k))
    by_cases hlt : k < n
    · obtain ⟨b, off, rfl, hB, hc⟩ := hb.at_ hlt
      have HS : Hid (ffold (nats (l.take (k + 1))) = fstep (ffold (nats (l.take k))) (l.getD k 0).toNat) := by rw [nats_take_succ l k (by rw [HL.out]; exact hlt), ffold_snoc]; rfl
      have hc8 := (l.getD k 0).toNat_lt
      generalize ffold (nats (l.take k)) = x at *
      generalize (l.getD k 0).toNat = c at *
      have hxo := u64_xor_nat x c hlf (by omega)
      have HW : Hid (IntKind.u64.wrap (((x ^^^ c : Nat) : Int) * 1099511628211) = ((fstep x c : Nat) : Int)) := by
        have e : IntKind.u64.wrap (((x ^^^ c : Nat) : Int) * 1099511628211) = ((x ^^^ c : Nat) : Int) * 1099511628211 % 18446744073709551616 := IntKind.wrap_u64 _
        unfold Hid; rw [e]; unfold fstep; omega
      go_wp2
      go_round
      case rel => exact ⟨k + 1, by omega, by go_num, by rw [HS.out, HW.out]⟩
      case measure => simp [intOf]; omega
    · obtain rfl : k = n := by omega
      rw [List.take_of_length_le (by rw [HL.out]; exact Nat.le_refl _)] at *
      generalize hx : ffold (nats l) = x at *
      have HX := Lib.hid hx
      clear hx
      go_wp2
      go_ret
      exact ⟨by rw [HX.out]; rfl, rfl⟩
end Go.Proofs.YthgfmoogagldmaaGreat.Sums
