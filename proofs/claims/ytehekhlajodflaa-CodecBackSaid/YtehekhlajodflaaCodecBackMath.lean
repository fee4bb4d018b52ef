/- Plain law: what was laid is read as it was; one byte less, and it is not. -/
import Derived.Test.YtehekhlajodflaaCodecLays
namespace Go.Proofs.Ytehekhlajodflaa.Codec
open Go.RowKit
set_option linter.unusedVariables false

theorem byteAt_nat (x k : Nat) : (byteAt x k).toNat = x / 2 ^ (8 * k) % 256 := by
  unfold byteAt; rw [UInt8.toNat_ofNat']
theorem le_vle (x k : Nat) : vle (le x k) = x % 2 ^ (8 * k) := by
  induction k with
  | zero => simp [le, vle, Nat.mod_one]
  | succ k ih =>
    rw [le_succ, vle_snoc, le_len, ih, byteAt_nat, show 8 * (k + 1) = 8 * k + 8 by omega, Nat.pow_add, Nat.mod_mul, Nat.mul_comm (2 ^ (8 * k))]
theorem s64_u64 (n : Int) (h0 : -9223372036854775808 ≤ n) (h1 : n < 9223372036854775808) : s64 (u64 n) = n := by
  unfold s64 u64 wrap64
  omega
/-- what an item's reading leaves -/
def rst (x : Item) (st : Option (List UInt8)) : Option (List UInt8) :=
  if x.kind = 0 then rgot 8 st else if x.kind = 1 then rgot 2 st else if x.kind = 2 then rtexted 2000 st else st
theorem rget_app (a b : List UInt8) (k : Nat) (h : a.length = k) : rget k (some (a ++ b)) = a := by
  rw [rget_ok (by rw [List.length_append]; omega), ← h, List.take_left']
  rfl
theorem rgot_app (a b : List UInt8) (k : Nat) (h : a.length = k) : rgot k (some (a ++ b)) = some b := by
  rw [rgot_ok (by rw [List.length_append]; omega), ← h, List.drop_left']
  rfl
theorem back_num (n : Int) (b : List UInt8) (h0 : -9223372036854775808 ≤ n) (h1 : n < 9223372036854775808) : s64 (vle (rget 8 (some (le (u64 n) 8 ++ b)))) = n ∧ rgot 8 (some (le (u64 n) 8 ++ b)) = some b := by
  have hl := u64_lt n
  refine ⟨?_, rgot_app _ _ _ (le_len _ _)⟩
  rw [rget_app _ _ _ (le_len _ _), le_vle, Nat.mod_eq_of_lt (by omega), s64_u64 n h0 h1]
theorem back_two (x : Nat) (b : List UInt8) (h : x < 65536) : vle (rget 2 (some (le x 2 ++ b))) = x ∧ rgot 2 (some (le x 2 ++ b)) = some b := by
  refine ⟨?_, rgot_app _ _ _ (le_len _ _)⟩
  rw [rget_app _ _ _ (le_len _ _), le_vle, Nat.mod_eq_of_lt (by omega)]
theorem text_small (s : ByteArray) (h : s.size ≤ 65535) : text s = le s.size 2 ++ s.data.toList := by
  unfold text
  rw [List.take_of_length_le (by rw [Array.length_toList]; exact h), Nat.min_eq_left h]
theorem back_text (s : ByteArray) (b : List UInt8) (m : Int) (h : (s.size : Int) ≤ m) (hm : m ≤ 65535) : rtext m (some (text s ++ b)) = s.data.toList ∧ rtexted m (some (text s ++ b)) = some b := by
  have hb := back_two s.size (s.data.toList ++ b) (by omega)
  have hc : rcount m (some (text s ++ b)) = s.size := by
    unfold rcount
    rw [text_small s (by omega), List.append_assoc, hb.1, if_pos (by omega)]
  have hd : rcounted m (some (text s ++ b)) = some (s.data.toList ++ b) := by
    unfold rcounted
    rw [text_small s (by omega), List.append_assoc, hb.1, if_pos (by omega), hb.2]
  have hl : s.data.toList.length = s.size := Array.length_toList
  unfold rtext rtexted
  rw [hc, hd]
  exact ⟨rget_app _ _ _ hl, rgot_app _ _ _ hl⟩
theorem rst_ok (x : Item) (b : List UInt8) (h : x.s.size ≤ 2000) (hn : -9223372036854775808 ≤ x.n ∧ x.n < 9223372036854775808) : rst x (some (ib x ++ b)) = some b := by
  unfold rst ib
  split
  · exact (back_num x.n b hn.1 hn.2).2
  · split
    · exact (back_two _ b (by have := clamp_le x.n; omega)).2
    · split
      · exact (back_text x.s b 2000 (by omega) (by omega)).2
      · rfl
theorem rgot_none_k (k : Nat) : rgot k none = none := rfl
theorem rst_none (x : Item) : rst x none = none := by
  unfold rst
  split
  · rfl
  · split
    · rfl
    · split
      · rfl
      · rfl
/-- less than an item's bytes -/
theorem rst_less (x : Item) (l b t : List UInt8) (h : x.s.size ≤ 2000) (he : l ++ t = ib x ++ b) (hlt : l.length < (ib x).length) : rst x (some l) = none := by
  unfold rst
  unfold ib at hlt he
  split
  · rename_i hk
    rw [if_pos hk, le_len] at hlt
    exact rgot_bad hlt
  · rename_i hk
    rw [if_neg hk] at hlt he
    split
    · rename_i hk1
      rw [if_pos hk1, le_len] at hlt
      exact rgot_bad hlt
    · rename_i hk1
      rw [if_neg hk1] at hlt he
      split
      · rename_i hk2
        rw [if_pos hk2, text_small x.s (by omega)] at hlt he
        rw [List.length_append, le_len, Array.length_toList] at hlt
        have hlt : l.length < 2 + x.s.size := hlt
        unfold rtexted
        by_cases h2 : l.length < 2
        · have hc : rcounted 2000 (some l) = none := by
            unfold rcounted
            rw [rget_bad h2, rgot_bad h2]
            rfl
          rw [hc]
          rfl
        · have e2 : l.take 2 = le x.s.size 2 := by
            have := congrArg (List.take 2) he
            rw [List.take_append_of_le_length (by omega), List.append_assoc, List.take_append_of_le_length (by rw [le_len]; omega)] at this
            rw [this]
            exact List.take_of_length_le (by rw [le_len]; omega)
          have hv : vle (rget 2 (some l)) = x.s.size := by
            rw [rget_ok h2, e2, le_vle, Nat.mod_eq_of_lt (by omega)]
          have hc : rcounted 2000 (some l) = some (l.drop 2) := by
            unfold rcounted
            rw [hv, if_pos (by omega), rgot_ok h2]
          have hn : rcount 2000 (some l) = x.s.size := by
            unfold rcount
            rw [hv, if_pos (by omega)]
          rw [hc, hn]
          exact rgot_bad (by rw [List.length_drop]; omega)
      · rename_i hk2
        rw [if_neg hk2] at hlt
        simp at hlt
theorem app_split {l t a b : List UInt8} (h : l ++ t = a ++ b) (hl : a.length ≤ l.length) : ∃ l', l = a ++ l' ∧ l' ++ t = b := by
  rcases List.append_eq_append_iff.1 h with ⟨c, h1, h2⟩ | ⟨c, h1, h2⟩
  · have : c = [] := by
      have := congrArg List.length h1
      rw [List.length_append] at this
      exact List.eq_nil_of_length_eq_zero (by omega)
    subst this
    exact ⟨[], by simpa using h1.symm, by simpa using h2⟩
  · exact ⟨c, h1, h2.symm⟩
/-- what is left is less than what is to come, or it is bad -/
def Short (st : Option (List UInt8)) (L : List UInt8) : Prop := st = none ∨ ∃ l t, st = some l ∧ t ≠ [] ∧ l ++ t = L
theorem short_step {st : Option (List UInt8)} {x : Item} {b : List UInt8} (hs : Short st (ib x ++ b)) (h : x.s.size ≤ 2000) (hn : -9223372036854775808 ≤ x.n ∧ x.n < 9223372036854775808) : Short (rst x st) b := by
  rcases hs with rfl | ⟨l, t, rfl, ht, he⟩
  · exact .inl (rst_none x)
  · by_cases hlt : l.length < (ib x).length
    · exact .inl (rst_less x l b t h he hlt)
    · obtain ⟨l', rfl, h2⟩ := app_split he (by omega)
      exact .inr ⟨l', t, rst_ok x l' h hn, ht, h2⟩
theorem short_end {st : Option (List UInt8)} (hs : Short st []) : st = none := by
  rcases hs with h | ⟨l, t, _, ht, he⟩
  · exact h
  · exact absurd (List.append_eq_nil_iff.1 he).2 ht
theorem short_start (L : List UInt8) (h : 0 < L.length) : Short (some (L.take (L.length - 1))) L :=
  .inr ⟨L.take (L.length - 1), L.drop (L.length - 1), rfl, fun e => by have := congrArg List.length e; rw [List.length_drop] at this; simp at this; omega, List.take_append_drop _ _⟩
theorem ibs_drop (its : List Item) (k : Nat) (h : k < its.length) : ibs (its.drop k) = ib (its.getD k dItem) ++ ibs (its.drop (k + 1)) := by
  rw [List.drop_eq_getElem_cons h, List.getD_eq_getElem?_getD, List.getElem?_eq_getElem h]
  rfl
theorem getD_mem {α : Type} (l : List α) (d : α) (k : Nat) (h : k < l.length) : l.getD k d ∈ l := by
  rw [List.getD_eq_getElem?_getD, List.getElem?_eq_getElem h]; exact List.getElem_mem h
end Go.Proofs.Ytehekhlajodflaa.Codec
