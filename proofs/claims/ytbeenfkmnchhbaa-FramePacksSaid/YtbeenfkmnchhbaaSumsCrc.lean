/- The walks of package sums and of its reference: what each function computes. -/
import Derived.Test.YtbeenfkmnchhbaaChecked
import Derived.Test.YtbeenfkmnchhbaaKit
import Derived.Test.YtbeenfkmnchhbaaSumsMath
namespace Go.Proofs.Ytbeenfkmnchhbaa.Sums
open Go.RowKit

theorem and1 (x : Nat) (hx : x < 4294967296) : bits .and .u32 (x : Int) 1 = ((x % 2 : Nat) : Int) := by
  have := u32_and_nat x 1 hx (by decide)
  rw [nat_mask1] at this
  exact this
theorem xorP (x : Nat) (hx : x < 4294967296) : bits .xor .u32 (x : Int) 3988292384 = ((x ^^^ 3988292384 : Nat) : Int) :=
  u32_xor_nat x 3988292384 hx (by decide)
theorem T_odd {x : Nat} (h : x % 2 = 1) : T x = (x / 2) ^^^ 3988292384 := by unfold T; rw [if_pos h]; rfl
theorem T_even {x : Nat} (h : x % 2 ≠ 1) : T x = x / 2 := by unfold T; rw [if_neg h]
theorem step_any (r c : Nat) (w : World) (hr : r < 4294967296) (hc : c < 256) :
    Calls Try.prog 154 #[.int .u32 (r : Int), .int .u8 (c : Int)] w fun e w' => e = .returned (.int .u32 (step r c : Nat)) ∧ w = w' := by
  have hx := u32_xor_nat r c hr (by omega)
  have hl : r ^^^ c < 4294967296 := xor_lt hr (by omega)
  go_enter Try.func154, Try.ntmps154
  go_wp2
  go_loop [0, 10] (fun v i => ∃ k : Nat, k ≤ 8 ∧ i = .int .i64 k ∧ v = .int .u32 (It k (r ^^^ c) : Nat)) (fun _ i => 8 - (intOf i).toNat)
  case atStart => exact ⟨0, by omega, rfl, rfl⟩
  case round =>
    obtain ⟨k, hk, rfl, rfl⟩ := hrel
    have hs : It (k + 1) (r ^^^ c) = T (It k (r ^^^ c)) := rfl
    have hlk := It_lt hl k
    by_cases hlt : k < 8
    · generalize It k (r ^^^ c) = x at *
      have ha := and1 x hlk
      have hp : bits .xor .u32 ((x : Int) / 2) 3988292384 = ((x / 2 ^^^ 3988292384 : Nat) : Int) := by
        rw [show ((x : Int) / 2) = ((x / 2 : Nat) : Int) from by omega]; exact xorP (x / 2) (by omega)
      by_cases ho : x % 2 = 1
      · have HS : Hid (It (k + 1) (r ^^^ c) = x / 2 ^^^ 3988292384) := by rw [hs, T_odd ho]; rfl
        clear hs hx
        go_wp2
        go_round
        case rel => exact ⟨k + 1, by omega, by go_num, by rw [HS.out]⟩
        case measure => simp [intOf]; omega
      · have HS : Hid (It (k + 1) (r ^^^ c) = x / 2) := by rw [hs, T_even ho]; rfl
        clear hs hx
        have ho' : x % 2 = 0 := by omega
        clear ho
        go_wp2
        go_round
        case rel => exact ⟨k + 1, by omega, by go_num, by rw [HS.out]; go_num⟩
        case measure => simp [intOf]; omega
    · obtain rfl : k = 8 := by omega
      have h8 : Hid (step r c = It 8 (r ^^^ c)) := rfl
      clear hs hx
      generalize It 8 (r ^^^ c) = x at *
      go_wp2
      go_ret
      exact ⟨by rw [h8.out]; rfl, rfl⟩

def nats (l : List UInt8) : List Nat := l.map UInt8.toNat
theorem nats_lt (l : List UInt8) : ∀ c ∈ nats l, c < 256 := by
  intro c hc
  obtain ⟨u, _, rfl⟩ := List.mem_map.1 hc
  exact u.toNat_lt
theorem nats_take_succ (l : List UInt8) (k : Nat) (h : k < l.length) : nats (l.take (k + 1)) = nats (l.take k) ++ [(l.getD k 0).toNat] := by
  unfold nats
  rw [List.take_succ_eq_append_getElem h, List.map_append, List.getD_eq_getElem?_getD, List.getElem?_eq_getElem h]
  rfl
theorem fold_snoc (r : Nat) (l : List Nat) (c : Nat) : fold r (l ++ [c]) = step (fold r l) c := by rw [fold_append]; rfl

theorem xor1 (s : Nat) (hs : s < 4294967296) : bits .xor .u32 (s : Int) 4294967295 = ((s ^^^ 4294967295 : Nat) : Int) := u32_xor_nat s 4294967295 hs (by decide)
theorem more_any (s : Nat) (A : Option Addr) (cap : Nat) (l : List UInt8) (B : Nat) (w : World) (hs : s < 4294967296) (n : Nat) (hb : Bytes w B A n l) (hl : n ≤ maxLen) :
    Calls Try.prog 141 #[.int .u32 (s : Int), .slice A n cap] w fun e w' => e = .returned (.int .u32 (more s (nats l) : Nat)) ∧ w = w' := by
  unfold maxLen at hl
  have HL := Lib.hid hb.len
  have hx := xor1 s hs
  have hr : s ^^^ 4294967295 < 4294967296 := xor_lt hs (by decide)
  have hm : Hid (more s (nats l) = fold (s ^^^ 4294967295) (nats l) ^^^ 4294967295) := rfl
  generalize s ^^^ 4294967295 = r at *
  go_enter Try.func141, Try.ntmps141
  go_wp2
  clear hx
  go_loop [5, 12] (fun v i => ∃ k : Nat, k ≤ n ∧ i = .int .i64 k ∧ v = .int .u32 (fold r (nats (l.take k)) : Nat)) (fun _ i => n - (intOf i).toNat)
  case atStart => exact ⟨0, by omega, rfl, rfl⟩
  case round =>
    obtain ⟨k, hk, rfl, rfl⟩ := hrel
    have hlf : fold r (nats (l.take k)) < 4294967296 := fold_lt hr _ (nats_lt _)
    by_cases hlt : k < n
    · obtain ⟨b, off, rfl, hB, hc⟩ := hb.at_ hlt
      have HS : Hid (fold r (nats (l.take (k + 1))) = step (fold r (nats (l.take k))) (l.getD k 0).toNat) := by rw [nats_take_succ l k (by rw [HL.out]; exact hlt), fold_snoc]; rfl
      have hc8 := (l.getD k 0).toNat_lt
      generalize fold r (nats (l.take k)) = x at *
      generalize (l.getD k 0).toNat = c at *
      go_wp2_with (go_at_call 154; refine (step_any x c _ hlf hc8).mono ?_; rintro e w' ⟨rfl, rfl⟩)
      go_round
      case rel => exact ⟨k + 1, by omega, by go_num, by rw [HS.out]⟩
      case measure => simp [intOf]; omega
    · obtain rfl : k = n := by omega
      rw [List.take_of_length_le (by rw [HL.out]; exact Nat.le_refl _)] at *
      have h1 := xor1 _ hlf
      generalize fold r (nats l) = x at *
      go_wp2
      go_ret
      exact ⟨by rw [hm.out]; rfl, rfl⟩
theorem crc_any (A : Option Addr) (cap : Nat) (l : List UInt8) (B : Nat) (w : World) (n : Nat) (hb : Bytes w B A n l) (hl : n ≤ maxLen) :
    Calls Try.prog 110 #[.slice A n cap] w fun e w' => e = .returned (.int .u32 (crc (nats l) : Nat)) ∧ w = w' := by
  have hc := more_any 0 A cap l B w (by decide) n hb hl
  go_enter Try.func110, Try.ntmps110
  go_wp2_with (go_at_call 141; refine Calls.mono hc ?_; rintro e w' ⟨rfl, rfl⟩)
  go_ret
  exact ⟨rfl, rfl⟩
/-- Fnv -/
theorem rcrc_any (A : Option Addr) (cap : Nat) (l : List UInt8) (B : Nat) (w : World) (n : Nat) (hb : Bytes w B A n l) (hl : 8 * n ≤ maxLen) :
    Calls Try.prog 115 #[.slice A n cap] w fun e w' => e = .returned (.int .u32 (rbits 4294967295 (nats l) (8 * n) ^^^ 4294967295 : Nat)) ∧ w = w' := by
  unfold maxLen at hl
  have HL := Lib.hid hb.len
  have hr : 4294967295 < 4294967296 := by decide
  have hbl := rbits_lt hr (nats l)
  have HBL := Lib.hid hbl
  clear hbl
  go_enter Try.func115, Try.ntmps115
  go_wp2
  go_loop [3, 4] (fun v i => ∃ k : Nat, k ≤ 8 * n ∧ i = .int .i64 k ∧ v = .int .u32 (rbits 4294967295 (nats l) k : Nat)) (fun _ i => 8 * n - (intOf i).toNat)
  case atStart => exact ⟨0, by omega, rfl, rfl⟩
  case round =>
    obtain ⟨k, hk, rfl, rfl⟩ := hrel
    have hlf := HBL.out k
    by_cases hlt : k < 8 * n
    · obtain ⟨b, off, rfl, hB, hc⟩ := hb.at_ (show k / 8 < n by omega)
      have hb1 : bit (nats l) k = (l.getD (k / 8) 0).toNat / 2 ^ (k % 8) % 2 := by
        unfold bit nats
        rw [List.getD_eq_getElem?_getD, List.getD_eq_getElem?_getD, List.getElem?_map]
        rw [List.getElem?_eq_getElem (by rw [HL.out]; omega)]; rfl
      have HS : rbits 4294967295 (nats l) (k + 1) = T (rbits 4294967295 (nats l) k ^^^ bit (nats l) k) := rfl
      rw [hb1] at HS
      have hc8 := (l.getD (k / 8) 0).toNat_lt
      generalize rbits 4294967295 (nats l) k = x at *
      generalize (l.getD (k / 8) 0).toNat = c at *
      have hsm : c / 2 ^ (k % 8) < 256 := Nat.lt_of_le_of_lt (Nat.div_le_self _ _) hc8
      have e1 : bits .and .u8 ((c : Int) / 2 ^ (k % 8)) 1 = ((c / 2 ^ (k % 8) % 2 : Nat) : Int) := by
        have h := u8_and_nat (c / 2 ^ (k % 8)) 1 hsm (by decide)
        rw [nat_mask1] at h
        rw [← h]; simp
      have hbit : c / 2 ^ (k % 8) % 2 < 2 := Nat.mod_lt _ (by decide)
      generalize c / 2 ^ (k % 8) % 2 = d at *
      have e2 : ((d : Nat) : Int) % 4294967296 = (d : Int) := by omega
      have e3 := u32_xor_nat x d hlf (by omega)
      have hlx : x ^^^ d < 4294967296 := xor_lt hlf (by omega)
      generalize x ^^^ d = y at *
      have e4 := and1 y hlx
      have e5 : bits .xor .u32 ((y : Int) / 2) 3988292384 = ((y / 2 ^^^ 3988292384 : Nat) : Int) := by
        rw [show ((y : Int) / 2) = ((y / 2 : Nat) : Int) from by omega]; exact xorP (y / 2) (by omega)
      clear hb1
      by_cases ho : y % 2 = 1
      · have H2 : Hid (rbits 4294967295 (nats l) (k + 1) = y / 2 ^^^ 3988292384) := by unfold Hid; rw [HS, T_odd ho]
        clear HS
        go_wp2
        go_round
        case rel => exact ⟨k + 1, by omega, by go_num, by rw [H2.out]⟩
        case measure => simp [intOf]; omega
      · have H2 : Hid (rbits 4294967295 (nats l) (k + 1) = y / 2) := by unfold Hid; rw [HS, T_even ho]
        clear HS
        have ho' : y % 2 = 0 := by omega
        clear ho
        go_wp2
        go_round
        case rel => exact ⟨k + 1, by omega, by go_num, by rw [H2.out]; go_num⟩
        case measure => simp [intOf]; omega
    · obtain rfl : k = 8 * n := by omega
      generalize hx : rbits 4294967295 (nats l) (8 * n) = x at *
      have HX := Lib.hid hx
      clear hx
      have e4 := xor1 x hlf
      go_wp2
      go_ret
      exact ⟨by rw [HX.out]; rfl, rfl⟩
end Go.Proofs.Ytbeenfkmnchhbaa.Sums
