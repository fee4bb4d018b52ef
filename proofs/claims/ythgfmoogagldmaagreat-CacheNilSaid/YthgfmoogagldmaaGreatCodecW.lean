/- The walks of codec's Writer. -/
import Derived.Test.YthgfmoogagldmaaGreatBytes
import Derived.Deep.RegionHeld3
import Derived.Deep.RegionLaw
namespace Go.Proofs.YthgfmoogagldmaaGreat.Codec
open Go.RowKit
set_option linter.unusedVariables false

/-- byte i of a number -/
def byteAt (x i : Nat) : UInt8 := UInt8.ofNat (x / 2 ^ (8 * i))
/-- the first 'size' bytes of a number, the lowest first -/
def le (x size : Nat) : List UInt8 := (List.range size).map (byteAt x)
theorem le_len (x size : Nat) : (le x size).length = size := by simp [le]
theorem le_succ (x k : Nat) : le x (k + 1) = le x k ++ [byteAt x k] := by simp [le, List.range_succ]

/-- a Writer behind pointer p: its field is the slice v, which owns the bytes l -/
structure Wr (w : World) (p : Nat) (v : Value) (n : Nat) (l : List UInt8) : Prop where
  blk : Blk w p 151 #[v]
  own : OwnB w 0 v n l
/-- from w to w' only the Writer at p (and what its slice owned) turned -/
structure Turned (w w' : World) (p : Nat) (v v' : Value) : Prop where
  only : Only (p :: ownL v) w w'
  fresh : Fresh w v v'
theorem Turned.refl (w : World) (p : Nat) (v : Value) : Turned w w p v v := ⟨Only.refl _ _, Fresh.refl _ _⟩
theorem Turned.trans {w w' w'' : World} {p : Nat} {v v' v'' : Value} (h : Turned w w' p v v') (k : Turned w' w'' p v' v'') : Turned w w'' p v v'' := by
  refine ⟨h.only.trans k.only ?_, h.fresh.trans k.fresh h.only⟩
  intro g hg
  rcases List.mem_cons.1 hg with rfl | hg
  · exact .inl (by simp)
  · rcases h.fresh g hg with h1 | h1
    · exact .inl (by simp [h1])
    · exact .inr h1
theorem Wr.ne {w : World} {p n : Nat} {v : Value} {l : List UInt8} (h : Wr w p v n l) : p ∉ ownL v := h.own.ne_blk h.blk (by decide)
theorem Wr.only {w w' : World} {p n : Nat} {v : Value} {l : List UInt8} {S : List Nat} (h : Wr w p v n l) (ho : Only S w w') (hp : p ∉ S) (hv : ∀ g ∈ ownL v, g ∉ S) : Wr w' p v n l :=
  ⟨h.blk.only ho hp, h.own.only ho hv⟩

/-- the step 'w.b = append(w.b, ..)': behind some blocks of the call's own (wa), the append (w2), the store -/
theorem wr_blk {w wa w2 : World} {p n : Nat} {v : Value} {l : List UInt8} (h : Wr w p v n l) (ha : Only [] w wa) (hon : Only (ownL v) wa w2) : Blk w2 p 151 #[v] :=
  (h.blk.only ha (by simp)).only hon h.ne
theorem wr_step {w wa w2 : World} {p n n2 : Nat} {v V : Value} {l l2 : List UInt8} (h : Wr w p v n l) (ha : Only [] w wa) (ho2 : OwnB w2 0 V n2 l2) (hon : Only (ownL v) wa w2) (hf : Fresh wa v V) :
    Wr (w2.setCell ⟨p, 0, none⟩ V) p V n2 l2 ∧ Turned w (w2.setCell ⟨p, 0, none⟩ V) p v V := by
  have hb := wr_blk h ha hon
  have hne := ho2.ne_blk hb (by decide)
  refine ⟨⟨?_, ?_⟩, ?_, ?_⟩
  · exact hb.set_ 0 V
  · exact ho2.only ((Only.refl [p] w2).setCell (p := ⟨p, 0, none⟩) (.inl (by simp)) V) (fun g hg hm => by simp at hm; subst hm; exact hne hg)
  · exact (((ha.mono (S' := p :: ownL v) (fun g hg => by cases hg)).trans hon (fun g hg => .inl (by simp [hg])))).setCell (p := ⟨p, 0, none⟩) (.inl (by simp)) V
  · intro g hg
    rcases hf g hg with h1 | h1
    · exact .inl h1
    · exact .inr (Nat.le_trans ha.size h1)

theorem byteAt_wrap (x k : Nat) : IntKind.u8.wrap ((x : Int) / 2 ^ (8 * k)) = ((byteAt x k).toNat : Int) := by
  have e : ((2 ^ (8 * k) : Nat) : Int) = (2 : Int) ^ (8 * k) := by norm_cast
  rw [← e, ← Int.natCast_ediv, IntKind.wrap_u8']
  unfold byteAt
  rw [UInt8.toNat_ofNat']
  omega

theorem lay_any (p n : Nat) (v : Value) (l : List UInt8) (x size : Nat) (w : World) (hx : x < 18446744073709551616) (hs : size ≤ 8) (h : Wr w p v n l) (hn : n + size ≤ 140737488355328) :
    Calls Tryz.prog 128 #[.pointer (some ⟨p, 0, none⟩), .int .u64 (x : Int), .int .i64 (size : Int)] w fun e w' => e = .returned (.tuple #[]) ∧ ∃ v', Wr w' p v' (n + size) (l ++ le x size) ∧ Turned w w' p v v' := by
  go_enter Tryz.func128, Tryz.ntmps128
  go_wp2_with fail
  go_loopw [8] (fun i wr => ∃ k : Nat, k ≤ size ∧ i = .int .i64 k ∧ ∃ v', Wr wr p v' (n + k) (l ++ le x k) ∧ Turned w wr p v v') (fun i _ => size - (intOf i).toNat)
  case atStart => exact ⟨0, by omega, rfl, v, by simpa [le] using h, Turned.refl _ _ _⟩
  case round =>
    obtain ⟨k, hk, rfl, v1, h1, ht⟩ := hrel
    by_cases hlt : k < size
    · have hc' : wr.cell? ⟨p, 0, none⟩ = some v1 := h1.blk.cell 0
      have e1 : IntKind.i64.wrap (8 * (k : Int)) = 8 * (k : Int) := IntWalk.i64_in _ (by omega)
      have e2 : (0 : Int) ≤ 8 * (k : Int) := by omega
      have e3 : (8 * (k : Int)).toNat = 8 * k := by omega
      have e4 : min (8 * k) 64 = 8 * k := Nat.min_eq_left (by omega)
      have e5 := byteAt_wrap x k
      have hle := le_succ x k
      have HLE := Lib.hid hle
      clear hle
      generalize byteAt x k = c at *
      have hB := (Bytes.const wr [c] #[.int .u8 (c.toNat : Int)] 5 (0, 0) rfl).drew
      have hO := (h1.own.alloc (.cells #[.int .u8 (c.toNat : Int)] 5)).drew
      have ha : Only [] wr (wr.alloc (.cells #[.int .u8 (c.toNat : Int)] 5)).drew := ((Only.refl [] wr).alloc _).drew
      have hc2 : (wr.alloc (.cells #[.int .u8 (c.toNat : Int)] 5)).cell? ⟨p, 0, none⟩ = some v1 := (h1.blk.alloc _).cell 0
      go_wp2_with fail
      go_region_law (refine step_append_bytes rfl (.tmp 15) (.tmp 21) rfl (base := 0) rfl hO rfl hB (by show n + k + 1 ≤ _; omega) (Nat.zero_le _) ?_; intro v2 w2 ho2 hon2 hfr2; have hb2 := wr_blk h1 ha hon2; have c2 : w2.cell? ⟨p, 0, none⟩ = some v1 := hb2.cell 0; have f2 := hb2.frozen 0; have hst := wr_step h1 ha ho2 hon2 hfr2; obtain ⟨A2, cap2, rfl, _, _, _, _⟩ := ho2.shape)
      all_goals
        go_wp2_with fail
        go_roundw
        case rel => exact ⟨k + 1, by omega, by go_num, _, by rw [HLE.out, ← List.append_assoc]; exact hst.1, ht.trans hst.2⟩
        case measure => simp [intOf]; omega
    · go_wp2_with fail
      go_end0
      obtain rfl : k = size := by omega
      exact ⟨rfl, v1, h1, ht⟩
theorem lay_int (p n : Nat) (v : Value) (l : List UInt8) (x size : Int) (w : World) (h0 : 0 ≤ x) (hx : x < 18446744073709551616) (hs0 : 0 ≤ size) (hs : size ≤ 8) (h : Wr w p v n l) (hn : n + size.toNat ≤ 140737488355328) :
    Calls Tryz.prog 128 #[.pointer (some ⟨p, 0, none⟩), .int .u64 x, .int .i64 size] w fun e w' => e = .returned (.tuple #[]) ∧ ∃ v', Wr w' p v' (n + size.toNat) (l ++ le x.toNat size.toNat) ∧ Turned w w' p v v' := by
  obtain ⟨a, rfl⟩ := Int.eq_ofNat_of_zero_le h0
  obtain ⟨b, rfl⟩ := Int.eq_ofNat_of_zero_le hs0
  exact lay_any p n v l a b w (by omega) (by omega) h hn
/-- a number as uint64 -/
def u64 (z : Int) : Nat := (z % 18446744073709551616).toNat
theorem u64_wrap (z : Int) : IntKind.u64.wrap z = ((u64 z : Nat) : Int) := by rw [IntKind.wrap_u64]; unfold u64; omega
theorem u64_lt (z : Int) : u64 z < 18446744073709551616 := by unfold u64; omega
def nums (zs : List Int) : List UInt8 := zs.flatMap fun z => le (u64 z) 8
theorem nums_len (zs : List Int) : (nums zs).length = 8 * zs.length := by
  induction zs with
  | nil => rfl
  | cons z zs ih => simp only [nums, List.flatMap_cons, List.length_append, le_len, List.length_cons] at ih ⊢; omega
theorem nums_take (zs : List Int) (k : Nat) (h : k < zs.length) : nums (zs.take (k + 1)) = nums (zs.take k) ++ le (u64 (zs.getD k 0)) 8 := flatMap_take_succ _ zs 0 k h

theorem num_any (p n : Nat) (v : Value) (l : List UInt8) (A : Option Addr) (m c B : Nat) (zs : List Int) (w : World) (h : Wr w p v n l) (hz : zs.length = m) (hr : Reads w B 1 A m (zs.map (Value.int .i64)))
    (hA : ∀ g ∈ blkOf A, g ∉ p :: ownL v) (hn : n + 8 * m ≤ 140737488355328) :
    Calls Tryz.prog 92 #[.pointer (some ⟨p, 0, none⟩), .slice A m c] w fun e w' => e = .returned (.tuple #[]) ∧ ∃ v', Wr w' p v' (n + 8 * m) (l ++ nums zs) ∧ Turned w w' p v v' := by
  have HZ := Lib.hid hz
  clear hz
  go_enter Tryz.func92, Tryz.ntmps92
  go_wp2_with fail
  go_loopw [10] (fun i wr => ∃ k : Nat, k ≤ m ∧ i = .int .i64 k ∧ ∃ v', Wr wr p v' (n + 8 * k) (l ++ nums (zs.take k)) ∧ Turned w wr p v v') (fun i _ => m - (intOf i).toNat)
  case atStart => exact ⟨0, by omega, rfl, v, by simpa [nums] using h, Turned.refl _ _ _⟩
  case round =>
    obtain ⟨k, hk, rfl, v1, h1, ht⟩ := hrel
    by_cases hlt : k < m
    · obtain ⟨b, off, rfl, hB, hc⟩ := (hr.only ht.only hA).at1 hlt
      have hkz : k < zs.length := by rw [HZ.out]; exact hlt
      rw [map_get _ _ 0 _ hkz] at hc
      have HS := Lib.hid (nums_take zs k hkz)
      have hu := u64_wrap (zs.getD k 0)
      have hul := u64_lt (zs.getD k 0)
      generalize zs.getD k 0 = z at *
      generalize u64 z = x at *
      have hcall := lay_any p (n + 8 * k) v1 (l ++ nums (zs.take k)) x 8 wr hul (by omega) h1 (by omega)
      have HC := Lib.hid hcall
      clear hcall hkz
      go_wp2_with (go_at_call 128; refine Calls.mono HC.out ?_; rintro e w2 ⟨rfl, v2, h2, ht2⟩)
      go_roundw
      case rel => exact ⟨k + 1, by omega, by go_num, v2, by rw [HS.out, ← List.append_assoc, show n + 8 * (k + 1) = n + 8 * k + 8 by omega]; exact h2, ht.trans ht2⟩
      case measure => simp [intOf]; omega
    · go_wp2_with fail
      go_end0
      obtain rfl : k = m := by omega
      rw [List.take_of_length_le (by rw [HZ.out]; exact Nat.le_refl _)] at h1
      exact ⟨rfl, v1, h1, ht⟩
theorem num_nil (A : Option Addr) (m c : Nat) (w : World) :
    Calls Tryz.prog 92 #[.pointer none, .slice A m c] w fun e w' => e = .returned (.tuple #[]) ∧ w = w' := by
  go_enter Tryz.func92, Tryz.ntmps92
  go_wp2_with fail
  refine bodyPost_ret (results_none rfl _ _ _) rfl ?_
  exact ⟨rfl, rfl⟩
/-- Small: a number, kept between 0 and 65535, in two bytes -/
def clamp (z : Int) : Nat := (min (max z 0) 65535).toNat
theorem clamp_le (z : Int) : clamp z ≤ 65535 := by unfold clamp; omega
theorem clamp_eq (z : Int) : min (max z 0) 65535 = ((clamp z : Nat) : Int) := by unfold clamp; omega
def smalls (zs : List Int) : List UInt8 := zs.flatMap fun z => le (clamp z) 2
theorem smalls_take (zs : List Int) (k : Nat) (h : k < zs.length) : smalls (zs.take (k + 1)) = smalls (zs.take k) ++ le (clamp (zs.getD k 0)) 2 := flatMap_take_succ _ zs 0 k h
theorem small_any (p n : Nat) (v : Value) (l : List UInt8) (A : Option Addr) (m c B : Nat) (zs : List Int) (w : World) (h : Wr w p v n l) (hz : zs.length = m) (hr : Reads w B 1 A m (zs.map (Value.int .i64)))
    (hA : ∀ g ∈ blkOf A, g ∉ p :: ownL v) (hn : n + 2 * m ≤ 140737488355328) :
    Calls Tryz.prog 140 #[.pointer (some ⟨p, 0, none⟩), .slice A m c] w fun e w' => e = .returned (.tuple #[]) ∧ ∃ v', Wr w' p v' (n + 2 * m) (l ++ smalls zs) ∧ Turned w w' p v v' := by
  have HZ := Lib.hid hz
  clear hz
  go_enter Tryz.func140, Tryz.ntmps140
  go_wp2_with fail
  go_loopw [10] (fun i wr => ∃ k : Nat, k ≤ m ∧ i = .int .i64 k ∧ ∃ v', Wr wr p v' (n + 2 * k) (l ++ smalls (zs.take k)) ∧ Turned w wr p v v') (fun i _ => m - (intOf i).toNat)
  case atStart => exact ⟨0, by omega, rfl, v, by simpa [smalls] using h, Turned.refl _ _ _⟩
  case round =>
    obtain ⟨k, hk, rfl, v1, h1, ht⟩ := hrel
    by_cases hlt : k < m
    · obtain ⟨b, off, rfl, hB, hc⟩ := (hr.only ht.only hA).at1 hlt
      have hkz : k < zs.length := by rw [HZ.out]; exact hlt
      rw [map_get _ _ 0 _ hkz] at hc
      have HS := Lib.hid (smalls_take zs k hkz)
      have hcl := clamp_le (zs.getD k 0)
      have hce := clamp_eq (zs.getD k 0)
      generalize zs.getD k 0 = z at *
      have HE := Lib.hid hce
      clear hce hkz
      have hcase : z < 0 ∨ (0 ≤ z ∧ z ≤ 65535) ∨ 65535 < z := by omega
      rcases hcase with hz0 | ⟨hz0, hz1⟩ | hz1
      · go_wp2_with fail
        refine (lay_int p _ v1 _ 0 2 wr (by first | omega | decide) (by first | omega | decide) (by decide) (by decide) h1 (by show n + 2 * k + 2 ≤ _; omega)).mono ?_
        rintro e w2 ⟨rfl, v2, h2, ht2⟩
        have hcz : clamp z = ((0 : Int)).toNat := by have := HE.out; omega
        go_wp2_with fail
        go_roundw
        case rel => exact ⟨k + 1, by omega, by go_num, v2, by rw [HS.out, ← List.append_assoc, show n + 2 * (k + 1) = n + 2 * k + 2 by omega, hcz]; exact h2, ht.trans ht2⟩
        case measure => simp [intOf]; omega
      · go_wp2_with fail
        refine (lay_int p _ v1 _ z 2 wr (by first | omega | decide) (by first | omega | decide) (by decide) (by decide) h1 (by show n + 2 * k + 2 ≤ _; omega)).mono ?_
        rintro e w2 ⟨rfl, v2, h2, ht2⟩
        have hcz : clamp z = (z).toNat := by have := HE.out; omega
        go_wp2_with fail
        go_roundw
        case rel => exact ⟨k + 1, by omega, by go_num, v2, by rw [HS.out, ← List.append_assoc, show n + 2 * (k + 1) = n + 2 * k + 2 by omega, hcz]; exact h2, ht.trans ht2⟩
        case measure => simp [intOf]; omega
      · have hz0 : 0 ≤ z := by omega
        go_wp2_with fail
        refine (lay_int p _ v1 _ 65535 2 wr (by first | omega | decide) (by first | omega | decide) (by decide) (by decide) h1 (by show n + 2 * k + 2 ≤ _; omega)).mono ?_
        rintro e w2 ⟨rfl, v2, h2, ht2⟩
        have hcz : clamp z = ((65535 : Int)).toNat := by have := HE.out; omega
        go_wp2_with fail
        go_roundw
        case rel => exact ⟨k + 1, by omega, by go_num, v2, by rw [HS.out, ← List.append_assoc, show n + 2 * (k + 1) = n + 2 * k + 2 by omega, hcz]; exact h2, ht.trans ht2⟩
        case measure => simp [intOf]; omega
    · go_wp2_with fail
      go_end0
      obtain rfl : k = m := by omega
      rw [List.take_of_length_le (by rw [HZ.out]; exact Nat.le_refl _)] at h1
      exact ⟨rfl, v1, h1, ht⟩
theorem small_nil (A : Option Addr) (m c : Nat) (w : World) :
    Calls Tryz.prog 140 #[.pointer none, .slice A m c] w fun e w' => e = .returned (.tuple #[]) ∧ w = w' := by
  go_enter Tryz.func140, Tryz.ntmps140
  go_wp2_with fail
  refine bodyPost_ret (results_none rfl _ _ _) rfl ?_
  exact ⟨rfl, rfl⟩

/-- Text: its length and bytes -/
def text (s : ByteArray) : List UInt8 := le (min s.size 65535) 2 ++ s.data.toList.take 65535
def texts (ss : List ByteArray) : List UInt8 := ss.flatMap text
theorem text_len (s : ByteArray) : (text s).length = 2 + min s.size 65535 := by
  unfold text; rw [List.length_append, le_len, List.length_take, Array.length_toList]; show 2 + min 65535 s.size = _; omega
theorem texts_take (ss : List ByteArray) (k : Nat) (h : k < ss.length) : texts (ss.take (k + 1)) = texts (ss.take k) ++ text (ss.getD k ByteArray.empty) := flatMap_take_succ _ ss _ k h
theorem turned_alloc (w : World) (o : Obj) (p : Nat) (v : Value) : Turned w (w.alloc o) p v v := ⟨((Only.refl _ w).alloc o), fun _ h => .inl h⟩
/-- bytes.Clone: new memory with the same bytes; nil of nil -/
theorem clone_any (A : Option Addr) (n c B : Nat) (l : List UInt8) (w : World) (hr : Bytes w B A n l) (hn : n ≤ 140737488355328) :
    Calls Tryz.prog 69 #[.slice A n c] w fun e w' => ∃ v', e = .returned v' ∧ OwnB w' w.heap.size v' n l ∧ Only [] w w' := by
  have hnil := fun (w : World) (a : Option Addr) (n c n' c' : Nat) => Lib.run_eql_slice_nil (P := Tryz.prog) w 35 5 a n c n' c' Tryz.underlying35
  cases A with
  | none =>
    have hn0 : n = 0 := by
      rcases Nat.eq_zero_or_pos n with h | h
      · exact h
      · obtain ⟨ad, e, _⟩ := hr.2.2 h
        cases e
    subst hn0
    have hl : l = [] := List.eq_nil_of_length_eq_zero hr.1
    subst hl
    go_enter Tryz.func69, Tryz.ntmps69
    go_wp2_with fail
    go_ret
    exact ⟨_, rfl, OwnB.nil_ _ _, Only.refl _ _⟩
  | some ad =>
    have hown0 := OwnB.empty w w.heap.size (Nat.le_refl _)
    have hr2 := hr.only (w' := w.alloc (.cells #[] 5)) ((Only.refl [] w).alloc _) (by simp)
    go_enter Tryz.func69, Tryz.ntmps69
    go_wp2_with (at_builtin; refine wpList_append_bytes rfl (.tmp 5) (.tmp 6) rfl rfl hown0 rfl hr2 (by omega) (by simp) ?_; intro v2 w2 ho2 hon2 hfr2)
    go_ret
    refine ⟨v2, rfl, by simpa using ho2, ?_⟩
    exact ((Only.refl [] w).alloc (.cells #[] 5)).trans hon2 (fun g hg => .inr (by have e : g ∈ [w.heap.size] := hg; simp at e; omega))
/-- Bytes -/
theorem bytes_any (p n : Nat) (v : Value) (l : List UInt8) (w : World) (h : Wr w p v n l) (hn : n ≤ 140737488355328) :
    Calls Tryz.prog 93 #[.pointer (some ⟨p, 0, none⟩)] w fun e w' => ∃ v', e = .returned v' ∧ OwnB w' w.heap.size v' n l ∧ Only [] w w' := by
  have hc : w.cell? ⟨p, 0, none⟩ = some v := h.blk.cell 0
  obtain ⟨A, cap, rfl, _, _, hr, _⟩ := h.own.shape
  go_enter Tryz.func93, Tryz.ntmps93
  go_wp2_with (go_at_call 69; refine (clone_any A n cap _ l _ hr hn).mono ?_; rintro e w' ⟨v', rfl, ho, hon⟩)
  go_ret
  exact ⟨v', rfl, ho, hon⟩
theorem bytes_nil (w : World) :
    Calls Tryz.prog 93 #[.pointer none] w fun e w' => e = .returned (.slice none 0 0) ∧ w = w' := by
  go_enter Tryz.func93, Tryz.ntmps93
  go_wp2_with fail
  go_ret
  exact ⟨rfl, rfl⟩
end Go.Proofs.YthgfmoogagldmaaGreat.Codec
