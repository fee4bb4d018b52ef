/- The walks of the laws of layer 2. -/
import Derived.Test.YtkiefcmebpinkaaSumsWalks
namespace Go.Proofs.Ytkiefcmebpinkaa.Sums
open Go.RowKit

theorem knows_any (w : World) : Calls Try.prog 5 #[] w fun e w' => e = .returned (.bool true) ∧ Below w.heap.size w w' := by
  have kc := fun (w : World) (C : Array Value) (n c : Nat) => Lib.run_convert_bytes_const (P := Try.prog) w 22 5 C n c Try.underlying22 Try.underlying5
  have hk : Hid (((crc (nats [49, 50, 51, 52, 53, 54, 55, 56, 57]) : Nat) : Int) = 3421780262) := by unfold Hid; rw [show crc (nats [49, 50, 51, 52, 53, 54, 55, 56, 57]) = 3421780262 from knows]; rfl
  have hf : Hid (((ffold (nats []) : Nat) : Int) = 14695981039346656037) := rfl
  go_enter Try.func5, Try.ntmps5
  go_wp2_with fail
  refine (crc_any _ 9 _ _ _ _ (Bytes.const w [49, 50, 51, 52, 53, 54, 55, 56, 57] _ _ _ rfl) (by simp [maxLen])).mono ?_
  rintro e w' ⟨rfl, rfl⟩
  rw [hk.out]
  go_wp2_with fail
  refine (fnv_any none 0 [] 0 _ 0 Bytes.nil_ (by simp [maxLen])).mono ?_
  rintro e w' ⟨rfl, rfl⟩
  rw [hf.out]
  go_wp2_with fail
  go_ret
  exact ⟨rfl, (Below.refl _ _).alloc (Nat.le_refl _) _⟩
theorem tell_any (A : Option Addr) (cap : Nat) (l : List UInt8) (w : World) (n : Nat) (hb : Bytes w w.heap.size A n l) (hl : n ≤ maxLen) :
    Calls Try.prog 3 #[.slice A n cap] w fun e w' => e = .returned (.bool true) ∧ Below w.heap.size w w' := by
  unfold maxLen at hl
  by_cases h : 2000 < n
  · go_enter Try.func3, Try.ntmps3
    go_wp2_with (go_at_call 5; refine (knows_any _).mono ?_; rintro e w' ⟨rfl, hb'⟩)
    go_ret
    exact ⟨rfl, hb'⟩
  · have hcc : Hid (rbits 4294967295 (nats l) (8 * n) ^^^ 4294967295 = crc (nats l)) := by
      have := rbits_fold 4294967295 (nats l) (nats_lt l) n (by simp [nats, hb.len])
      unfold Hid; rw [this, List.take_of_length_le (by simp [nats, hb.len])]
      rfl
    go_enter Try.func3, Try.ntmps3
    go_wp2_with fail
    refine (crc_any _ _ _ _ _ _ hb (by simp [maxLen]; omega)).mono ?_
    rintro e w' ⟨rfl, rfl⟩
    go_wp2_with fail
    refine (rcrc_any _ _ _ _ _ _ hb (by simp [maxLen]; omega)).mono ?_
    rintro e w' ⟨rfl, rfl⟩
    rw [hcc.out]
    go_wp2_with fail
    refine (fnv_any _ _ _ _ _ _ hb (by simp [maxLen]; omega)).mono ?_
    rintro e w' ⟨rfl, rfl⟩
    go_wp2_with fail
    refine (rfnv_any _ _ _ _ _ _ hb (by simp [maxLen]; omega)).mono ?_
    rintro e w' ⟨rfl, rfl⟩
    go_wp2_with (go_at_call 5; refine (knows_any _).mono ?_; rintro e w' ⟨rfl, hb'⟩)
    go_ret
    exact ⟨rfl, hb'⟩
end Go.Proofs.Ytkiefcmebpinkaa.Sums
