/- The walk of SumsJoin. -/
import Derived.Test.YtkiefcmebpinkaaSumsLaws
import Derived.Test.YtkiefcmebpinkaaBytes
namespace Go.Proofs.Ytkiefcmebpinkaa.Sums
open Go.RowKit
set_option linter.unusedVariables false

theorem join_short (A : Option Addr) (cap n : Nat) (at_ bit : Int) (w : World) (h : 2000 < n ∨ n = 0) (hl : n ≤ maxLen) :
    Calls Try.prog 4 #[.slice A n cap, .int .i64 at_, .int .u8 bit] w fun e w' => e = .returned (.bool true) ∧ Below w.heap.size w w' := by
  unfold maxLen at hl
  rcases h with h | rfl
  · go_enter Try.func4, Try.ntmps4
    go_wp2_with (go_at_call 5; refine (knows_any _).mono ?_; rintro e w' ⟨rfl, hb'⟩)
    go_ret
    exact ⟨rfl, hb'⟩
  · go_enter Try.func4, Try.ntmps4
    go_wp2_with (go_at_call 5; refine (knows_any _).mono ?_; rintro e w' ⟨rfl, hb'⟩)
    go_ret
    exact ⟨rfl, hb'⟩

theorem at_fact (n : Nat) (a : Int) (h1 : 1 ≤ n) (h2 : n ≤ 2147483648) : ∃ k : Nat, k < n ∧ (wrap64 (a.tmod n + n)).tmod n = (k : Int) := by
  have hlt := Int.tmod_lt_of_pos a (b := (n : Int)) (by omega)
  have hgt : -(n : Int) < a.tmod n := by
    have := Int.lt_tmod_of_pos a (b := (n : Int)) (by omega)
    omega
  generalize a.tmod n = r at *
  rw [IntWalk.wrap64_in _ (by omega)]
  refine ⟨((r + n).tmod n).toNat, ?_, ?_⟩
  · rw [Int.tmod_eq_emod_of_nonneg (by omega)]
    have := Int.emod_lt_of_pos (r + n) (b := (n : Int)) (by omega)
    have := Int.emod_nonneg (r + n) (b := (n : Int)) (by omega)
    omega
  · rw [Int.tmod_eq_emod_of_nonneg (by omega)]
    have := Int.emod_nonneg (r + n) (b := (n : Int)) (by omega)
    omega
theorem turned (x : UInt8) (j : Nat) (hj : j < 8) : ∃ y : UInt8, y ≠ x ∧ bits .xor .u8 (x.toNat : Int) (2 ^ j % 256) = (y.toNat : Int) := by
  have hp : 2 ^ j < 256 := Nat.lt_of_lt_of_le (Nat.pow_lt_pow_right (by decide) hj) (by decide)
  have hx := x.toNat_lt
  have h1 := u8_xor_nat x.toNat (2 ^ j) hx hp
  have hlt : x.toNat ^^^ 2 ^ j < 256 := Nat.xor_lt_two_pow (n := 8) hx hp
  refine ⟨UInt8.ofNat (x.toNat ^^^ 2 ^ j), fun he => ?_, ?_⟩
  · have h2 : x.toNat ^^^ 2 ^ j = x.toNat := by
      have := congrArg UInt8.toNat he
      rw [UInt8.toNat_ofNat', Nat.mod_eq_of_lt hlt] at this
      exact this
    have h3 : 2 ^ j = 0 := xor_left (h2.trans (Nat.xor_zero _).symm)
    have := Nat.two_pow_pos j
    omega
  · rw [UInt8.toNat_ofNat', Nat.mod_eq_of_lt hlt, ← h1]
    rw [show ((2 : Int) ^ j % 256) = ((2 ^ j : Nat) : Int) from by
      have e : ((2 ^ j : Nat) : Int) = (2 : Int) ^ j := by norm_cast
      rw [← e]
      exact Int.emod_eq_of_lt (Int.natCast_nonneg _) (Int.ofNat_lt.2 hp)]
theorem join_long (A : Option Addr) (cap n : Nat) (l : List UInt8) (at_ : Int) (bit : Nat) (w : World) (h1 : 1 ≤ n) (h2 : n ≤ 2000) (hcap : n ≤ cap) (hcm : cap ≤ maxLen) (hb : Bytes w w.heap.size A n l)
    (ha : -9223372036854775808 ≤ at_ ∧ at_ < 9223372036854775808) (hbit : bit < 256) :
    Calls Try.prog 4 #[.slice A n cap, .int .i64 at_, .int .u8 (bit : Int)] w fun e w' => e = .returned (.bool true) ∧ Below w.heap.size w w' := by
  unfold maxLen at hcm
  have hne : ((n : Int) == 0) = false := by simp; omega
  have h2' : decide (2000 < (n : Int)) = false := by simp; omega
  obtain ⟨k, hk, hat⟩ := at_fact n at_ h1 (by omega)
  have hbit7 := u8_and_nat bit 7 hbit (by decide)
  rw [nat_mask3] at hbit7
  have hbit8 : bit % 8 < 8 := Nat.mod_lt _ (by decide)
  go_enter Try.func4, Try.ntmps4
  go_wp2_with fail
  refine (knows_any _).mono ?_
  rintro e w1 ⟨rfl, hb1⟩
  have hown0 := OwnB.empty w1 w1.heap.size (Nat.le_refl _)
  have hbA := (hb.below hb1).alloc hb1.size (.cells #[] 5)
  go_wp2_with (at_builtin; go_must (refine wpList_append_bytes rfl (.tmp 31) (.tmp 32) rfl w1.heap.size _ 0 [] rfl hown0 w.heap.size A n cap l rfl hbA (by omega) (by simp) ?_); intro v2 w2 hown2 hg2 hat2; simp only [Nat.zero_add, List.nil_append] at hown2; obtain ⟨g, c2, rfl, hg1, hgl, hc2, _⟩ := hown2.form (by omega); have hcell := hown2.cell hk; have hfr := hown2.frozen k)
  obtain ⟨y, hyx, hy⟩ := turned (l.getD k 0) (bit % 8) hbit8
  rw [List.getD_eq_getElem?_getD] at hy
  rw [hy]
  have hB12 : Below w1.heap.size w1 w2 := ((Below.refl w1.heap.size w1).alloc (Nat.le_refl _) (.cells #[] 5)).grown hg2 (by simp) (by intro q hq; have e : some w1.heap.size = some q := hq; injection e with e; omega)
  have hs1 := hb1.size
  have hB2 : Below w.heap.size w w2 := hb1.trans (hB12.mono hs1)
  have hb3 : Bytes (w2.setCell ⟨g, k, none⟩ (B8 y)) w.heap.size A n l := (hb.below hB2).setCell (p := ⟨g, k, none⟩) (by show w.heap.size ≤ g; omega) _
  have hown3 := hown2.stored (k := k) y
  have hBel : Below w.heap.size w (w2.setCell ⟨g, k, none⟩ (B8 y)) := hB2.setCell (p := ⟨g, k, none⟩) (by show w.heap.size ≤ g; omega) _
  obtain ⟨b, off, rfl, hbB, _⟩ := hb.at_ (k := 0) (by omega)
  have hlen := hb.len
  have ht := hb3.head (k := k) (by omega)
  have hd := hb3.cut (k := k) (cap := cap) (by omega) hcap
  rw [if_neg (by omega)] at hd
  have hset : l.set k y = l.take k ++ y :: l.drop (k + 1) := by rw [List.set_eq_take_append_cons_drop, if_pos (by omega)]
  have hl0 : l = l.take k ++ l.getD k 0 :: l.drop (k + 1) := by
    rw [List.getD_eq_getElem?_getD, List.getElem?_eq_getElem (by omega)]
    simp
  have hne' : crc (nats (l.set k y)) ≠ crc (nats l) := by
    rw [hset]
    conv => rhs; rw [hl0]
    unfold nats
    rw [List.map_append, List.map_cons, List.map_append, List.map_cons]
    exact crc_turned _ _ _ _ (nats_lt _) (nats_lt _) y.toNat_lt (UInt8.toNat_lt _) (fun h => hyx (UInt8.toNat_inj.1 h))
  have hmore : more (crc (nats (l.take k))) (nats (l.drop k)) = crc (nats l) := by
    unfold crc
    rw [more_append]
    congr 1
    unfold nats
    rw [← List.map_append, List.take_append_drop]
  have hltk : crc (nats (l.take k)) < 4294967296 := more_lt (by decide) _ (nats_lt _)
  have hltl : crc (nats l) < 4294967296 := more_lt (by decide) _ (nats_lt _)
  change Code.wp _ _ _ _ (w2.setCell ⟨g, k, none⟩ (B8 y))
  generalize w2.setCell ⟨g, k, none⟩ (B8 y) = w3 at *
  have C1 : ∀ N, Calls Try.prog 6 #[.slice (some ⟨b, off, none⟩) k cap] (w3.drewN N) fun e w' => e = .returned (.int .u32 (crc (nats (l.take k)) : Nat)) ∧ w3.drewN N = w' :=
    fun N => crc_any _ cap _ _ _ _ (ht.drewN N) (by simp only [maxLen]; omega)
  have C2 : ∀ N, Calls Try.prog 10 #[.int .u32 (crc (nats (l.take k)) : Nat), .slice (some ⟨b, off + k, none⟩) (n - k) (cap - k)] (w3.drewN N) fun e w' => e = .returned (.int .u32 (crc (nats l) : Nat)) ∧ w3.drewN N = w' := by
    intro N
    rw [← hmore]
    rw [Option.map_some, Nat.mul_one, add_block] at hd
    exact more_any _ _ _ _ _ _ hltk _ (hd.drewN N) (by simp only [maxLen]; omega)
  have C3 : ∀ N, Calls Try.prog 6 #[.slice (some ⟨b, off, none⟩) n cap] (w3.drewN N) fun e w' => e = .returned (.int .u32 (crc (nats l) : Nat)) ∧ w3.drewN N = w' :=
    fun N => crc_any _ cap _ _ _ _ (hb3.drewN N) (by simp only [maxLen]; omega)
  have C4 : ∀ N, Calls Try.prog 6 #[.slice (some ⟨g, 0, none⟩) n c2] (w3.drewN N) fun e w' => e = .returned (.int .u32 (crc (nats (l.set k y)) : Nat)) ∧ w3.drewN N = w' :=
    fun N => crc_any _ c2 _ _ _ _ (hown3.reads.drewN N) (by simp only [maxLen]; omega)
  have C5 : ∀ N, Calls Try.prog 10 #[.int .u32 (crc (nats l) : Nat), .slice none 0 0] (w3.drewN N) fun e w' => e = .returned (.int .u32 (crc (nats l) : Nat)) ∧ w3.drewN N = w' := by
    intro N
    have h := more_any (crc (nats l)) none 0 [] 0 (w3.drewN N) hltl 0 Bytes.nil_ (by simp [maxLen])
    rw [show nats [] = [] from rfl, more_nil] at h
    exact h
  generalize crc (nats (l.take k)) = X at *
  generalize crc (nats l) = Y at *
  generalize crc (nats (l.set k y)) = Z at *
  have e1 : ((Z : Int) != (Y : Int)) = true := by rw [bne_iff_ne]; omega
  have e2 : ((Z : Int) == (Y : Int)) = false := by rw [beq_eq_false_iff_ne]; omega
  have D1 := Lib.hid C1
  have D2 := Lib.hid C2
  have D3 := Lib.hid C3
  have D4 := Lib.hid C4
  have D5 := Lib.hid C5
  have HB := Lib.hid hBel
  clear C1 C2 C3 C4 C5 hmore hne' hl0 hset ht hd hown3 hb3 hBel hB12 hB2 hb hbA hown0 hcell hfr hown2 hlen hat hbit7 hbit8 hy hyx
  go_quiet (first | ((go_at_call 6; first | (with_reducible exact quiet_left (D1.out _)) | (with_reducible exact quiet_left (D3.out _)) | (with_reducible exact quiet_left (D4.out _)))) | ((go_at_call 10; first | (with_reducible exact quiet_left (D2.out _)) | (with_reducible exact quiet_left (D5.out _)))))
  go_wp2
  go_ret
  exact ⟨rfl, below_drewN HB.out _⟩
theorem join_any (A : Option Addr) (cap n : Nat) (l : List UInt8) (at_ : Int) (bit : Int) (w : World) (hcap : n ≤ cap) (hcm : cap ≤ maxLen) (hb : Bytes w w.heap.size A n l)
    (ha : -9223372036854775808 ≤ at_ ∧ at_ < 9223372036854775808) (hbit : 0 ≤ bit ∧ bit < 256) :
    Calls Try.prog 4 #[.slice A n cap, .int .i64 at_, .int .u8 bit] w fun e w' => e = .returned (.bool true) ∧ Below w.heap.size w w' := by
  obtain ⟨b, rfl⟩ := Int.eq_ofNat_of_zero_le hbit.1
  by_cases h : 2000 < n ∨ n = 0
  · exact join_short A cap n at_ b w h (by omega)
  · exact join_long A cap n l at_ b w (by omega) (by omega) hcap hcm hb ha (by omega)
end Go.Proofs.Ytkiefcmebpinkaa.Sums
