/- Sums: Plain law: the bytewise sum and the bitwise sum are one; the sum is one-to-one in its remainder and in each byte; The walks of package sums and of its reference: what each function computes. -/
import Derived.Test.YthgfmoogagldmaaGreatChecked
import Derived.Test.YthgfmoogagldmaaGreatKit
namespace Go.Proofs.YthgfmoogagldmaaGreat.Sums

def P : Nat := 3988292384
def T (r : Nat) : Nat := if r % 2 = 1 then (r / 2) ^^^ P else r / 2
def It : Nat → Nat → Nat
  | 0, r => r
  | j + 1, r => T (It j r)
def step (r c : Nat) : Nat := It 8 (r ^^^ c)
def fold (r : Nat) (l : List Nat) : Nat := l.foldl step r
def more (s : Nat) (l : List Nat) : Nat := fold (s ^^^ 4294967295) l ^^^ 4294967295
def crc (l : List Nat) : Nat := more 0 l

def bit (l : List Nat) (i : Nat) : Nat := (l.getD (i / 8) 0) / 2 ^ (i % 8) % 2
def rbits (r : Nat) (l : List Nat) : Nat → Nat
  | 0 => r
  | i + 1 => T (rbits r l i ^^^ bit l i)

theorem T_lt {x : Nat} (h : x < 4294967296) : T x < 4294967296 := by
  unfold T
  split
  · exact Nat.xor_lt_two_pow (n := 32) (by omega) (by decide)
  · omega

theorem xor_lt {a b : Nat} (ha : a < 4294967296) (hb : b < 4294967296) : a ^^^ b < 4294967296 := Nat.xor_lt_two_pow (n := 32) ha hb

theorem It_lt {x : Nat} (h : x < 4294967296) (j : Nat) : It j x < 4294967296 := by
  induction j with
  | zero => exact h
  | succ j ih => exact T_lt ih

theorem step_lt {r c : Nat} (hr : r < 4294967296) (hc : c < 256) : step r c < 4294967296 := It_lt (xor_lt hr (by omega)) 8

theorem fold_lt {r : Nat} (hr : r < 4294967296) (l : List Nat) (hl : ∀ c ∈ l, c < 256) : fold r l < 4294967296 := by
  induction l generalizing r with
  | nil => exact hr
  | cons c l ih => exact ih (step_lt hr (hl c (by simp))) (fun x hx => hl x (by simp [hx]))

theorem fold_append (r : Nat) (l m : List Nat) : fold r (l ++ m) = fold (fold r l) m := by simp [fold]

theorem more_lt {s : Nat} (hs : s < 4294967296) (l : List Nat) (hl : ∀ c ∈ l, c < 256) : more s l < 4294967296 :=
  xor_lt (fold_lt (xor_lt hs (by decide)) l hl) (by decide)

def fnv (l : List Nat) : Nat := l.foldl (fun h c => (h ^^^ c) * 1099511628211 % 18446744073709551616) 14695981039346656037

theorem knows : crc [49, 50, 51, 52, 53, 54, 55, 56, 57] = 3421780262 := by decide +kernel

end Go.Proofs.YthgfmoogagldmaaGreat.Sums
namespace Go.Proofs.YthgfmoogagldmaaGreat.Sums
open Go.RowKit

theorem and1 (x : Nat) (hx : x < 4294967296) : bits .and .u32 (x : Int) 1 = ((x % 2 : Nat) : Int) := by
  have := u32_and_nat x 1 hx (by decide)
  rw [nat_mask1] at this
  exact this
theorem xorP (x : Nat) (hx : x < 4294967296) : bits .xor .u32 (x : Int) 3988292384 = ((x ^^^ 3988292384 : Nat) : Int) :=
  u32_xor_nat x 3988292384 hx (by decide)
theorem T_odd {x : Nat} (h : x % 2 = 1) : T x = (x / 2) ^^^ 3988292384 := by unfold T; rw [if_pos h]; rfl
theorem T_even {x : Nat} (h : x % 2 ≠ 1) : T x = x / 2 := by unfold T; rw [if_neg h]
theorem step_any (r c : Nat) (w : World) (hr : r < 4294967296) (hc : c < 256) :
    Calls Tryz.prog 157 #[.int .u32 (r : Int), .int .u8 (c : Int)] w fun e w' => e = .returned (.int .u32 (step r c : Nat)) ∧ w = w' := by
  have hx := u32_xor_nat r c hr (by omega)
  have hl : r ^^^ c < 4294967296 := xor_lt hr (by omega)
  go_enter Tryz.func157, Tryz.ntmps157
  go_wp2
  go_loop [0, 10] (fun v i => ∃ k : Nat, k ≤ 8 ∧ i = .int .i64 k ∧ v = .int .u32 (It k (r ^^^ c) : Nat)) (fun _ i => 8 - (intOf i).toNat)
  case atStart => exact ⟨0, by omega, rfl, rfl⟩
  case round =>
    obtain ⟨k, hk, rfl, rfl⟩ := hrel
    have hs : It (k + 1) (r ^^^ c) = T (It k (r ^^^ c)) := rfl
    have hlk := It_lt hl k
    by_cases hlt : k < 8
    · generalize It k (r ^^^ c) = x at *
      have ha := and1 x hlk
      have hp : bits .xor .u32 ((x : Int) / 2) 3988292384 = ((x / 2 ^^^ 3988292384 : Nat) : Int) := by
        rw [show ((x : Int) / 2) = ((x / 2 : Nat) : Int) from by omega]; exact xorP (x / 2) (by omega)
      by_cases ho : x % 2 = 1
      · have HS : Hid (It (k + 1) (r ^^^ c) = x / 2 ^^^ 3988292384) := by rw [hs, T_odd ho]; rfl
        clear hs hx
        go_wp2
        go_round
        case rel => exact ⟨k + 1, by omega, by go_num, by rw [HS.out]⟩
        case measure => simp [intOf]; omega
      · have HS : Hid (It (k + 1) (r ^^^ c) = x / 2) := by rw [hs, T_even ho]; rfl
        clear hs hx
        have ho' : x % 2 = 0 := by omega
        clear ho
        go_wp2
        go_round
        case rel => exact ⟨k + 1, by omega, by go_num, by rw [HS.out]; go_num⟩
        case measure => simp [intOf]; omega
    · obtain rfl : k = 8 := by omega
      have h8 : Hid (step r c = It 8 (r ^^^ c)) := rfl
      clear hs hx
      generalize It 8 (r ^^^ c) = x at *
      go_wp2
      go_ret
      exact ⟨by rw [h8.out]; rfl, rfl⟩

def nats (l : List UInt8) : List Nat := l.map UInt8.toNat
theorem nats_lt (l : List UInt8) : ∀ c ∈ nats l, c < 256 := by
  intro c hc
  obtain ⟨u, _, rfl⟩ := List.mem_map.1 hc
  exact u.toNat_lt
theorem nats_take_succ (l : List UInt8) (k : Nat) (h : k < l.length) : nats (l.take (k + 1)) = nats (l.take k) ++ [(l.getD k 0).toNat] := by
  unfold nats
  rw [List.take_succ_eq_append_getElem h, List.map_append, List.getD_eq_getElem?_getD, List.getElem?_eq_getElem h]
  rfl
theorem fold_snoc (r : Nat) (l : List Nat) (c : Nat) : fold r (l ++ [c]) = step (fold r l) c := by rw [fold_append]; rfl

theorem xor1 (s : Nat) (hs : s < 4294967296) : bits .xor .u32 (s : Int) 4294967295 = ((s ^^^ 4294967295 : Nat) : Int) := u32_xor_nat s 4294967295 hs (by decide)
theorem more_any (s : Nat) (A : Option Addr) (cap : Nat) (l : List UInt8) (B : Nat) (w : World) (hs : s < 4294967296) (n : Nat) (hb : Bytes w B A n l) (hl : n ≤ maxLen) :
    Calls Tryz.prog 142 #[.int .u32 (s : Int), .slice A n cap] w fun e w' => e = .returned (.int .u32 (more s (nats l) : Nat)) ∧ w = w' := by
  unfold maxLen at hl
  have HL := Lib.hid hb.len
  have hx := xor1 s hs
  have hr : s ^^^ 4294967295 < 4294967296 := xor_lt hs (by decide)
  have hm : Hid (more s (nats l) = fold (s ^^^ 4294967295) (nats l) ^^^ 4294967295) := rfl
  generalize s ^^^ 4294967295 = r at *
  go_enter Tryz.func142, Tryz.ntmps142
  go_wp2
  clear hx
  go_loop [5, 12] (fun v i => ∃ k : Nat, k ≤ n ∧ i = .int .i64 k ∧ v = .int .u32 (fold r (nats (l.take k)) : Nat)) (fun _ i => n - (intOf i).toNat)
  case atStart => exact ⟨0, by omega, rfl, rfl⟩
  case round =>
    obtain ⟨k, hk, rfl, rfl⟩ := hrel
    have hlf : fold r (nats (l.take k)) < 4294967296 := fold_lt hr _ (nats_lt _)
    by_cases hlt : k < n
    · obtain ⟨b, off, rfl, hB, hc⟩ := hb.at_ hlt
      have HS : Hid (fold r (nats (l.take (k + 1))) = step (fold r (nats (l.take k))) (l.getD k 0).toNat) := by rw [nats_take_succ l k (by rw [HL.out]; exact hlt), fold_snoc]; rfl
      have hc8 := (l.getD k 0).toNat_lt
      generalize fold r (nats (l.take k)) = x at *
      generalize (l.getD k 0).toNat = c at *
      go_wp2_with (go_at_call 157; refine (step_any x c _ hlf hc8).mono ?_; rintro e w' ⟨rfl, rfl⟩)
      go_round
      case rel => exact ⟨k + 1, by omega, by go_num, by rw [HS.out]⟩
      case measure => simp [intOf]; omega
    · obtain rfl : k = n := by omega
      rw [List.take_of_length_le (by rw [HL.out]; exact Nat.le_refl _)] at *
      have h1 := xor1 _ hlf
      generalize fold r (nats l) = x at *
      go_wp2
      go_ret
      exact ⟨by rw [hm.out]; rfl, rfl⟩
theorem crc_any (A : Option Addr) (cap : Nat) (l : List UInt8) (B : Nat) (w : World) (n : Nat) (hb : Bytes w B A n l) (hl : n ≤ maxLen) :
    Calls Tryz.prog 114 #[.slice A n cap] w fun e w' => e = .returned (.int .u32 (crc (nats l) : Nat)) ∧ w = w' := by
  have hc := more_any 0 A cap l B w (by decide) n hb hl
  go_enter Tryz.func114, Tryz.ntmps114
  go_wp2_with (go_at_call 142; refine Calls.mono hc ?_; rintro e w' ⟨rfl, rfl⟩)
  go_ret
  exact ⟨rfl, rfl⟩
end Go.Proofs.YthgfmoogagldmaaGreat.Sums
