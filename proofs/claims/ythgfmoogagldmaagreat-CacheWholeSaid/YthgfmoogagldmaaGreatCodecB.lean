/- CodecB: The walks of codec's Writer; The walks of codec's Reader. -/
import Derived.Test.YthgfmoogagldmaaGreatBytes
import Derived.Deep.RegionHeld3
import Derived.Deep.RegionLaw
set_option linter.unusedVariables false
namespace Go.Proofs.YthgfmoogagldmaaGreat.Codec
open Go.RowKit

def byteAt (x i : Nat) : UInt8 := UInt8.ofNat (x / 2 ^ (8 * i))
def le (x size : Nat) : List UInt8 := (List.range size).map (byteAt x)
theorem le_len (x size : Nat) : (le x size).length = size := by simp [le]
theorem le_succ (x k : Nat) : le x (k + 1) = le x k ++ [byteAt x k] := by simp [le, List.range_succ]

structure Wr (w : World) (p : Nat) (v : Value) (n : Nat) (l : List UInt8) : Prop where
  blk : Blk w p 151 #[v]
  own : OwnB w 0 v n l
structure Turned (w w' : World) (p : Nat) (v v' : Value) : Prop where
  only : Only (p :: ownL v) w w'
  fresh : Fresh w v v'
theorem Turned.refl (w : World) (p : Nat) (v : Value) : Turned w w p v v := ⟨Only.refl _ _, Fresh.refl _ _⟩
theorem Turned.trans {w w' w'' : World} {p : Nat} {v v' v'' : Value} (h : Turned w w' p v v') (k : Turned w' w'' p v' v'') : Turned w w'' p v v'' := by
  refine ⟨h.only.trans k.only ?_, h.fresh.trans k.fresh h.only⟩
  intro g hg
  rcases List.mem_cons.1 hg with rfl | hg
  · exact .inl (by simp)
  · rcases h.fresh g hg with h1 | h1
    · exact .inl (by simp [h1])
    · exact .inr h1
theorem Wr.ne {w : World} {p n : Nat} {v : Value} {l : List UInt8} (h : Wr w p v n l) : p ∉ ownL v := h.own.ne_blk h.blk (by decide)
theorem Wr.only {w w' : World} {p n : Nat} {v : Value} {l : List UInt8} {S : List Nat} (h : Wr w p v n l) (ho : Only S w w') (hp : p ∉ S) (hv : ∀ g ∈ ownL v, g ∉ S) : Wr w' p v n l :=
  ⟨h.blk.only ho hp, h.own.only ho hv⟩

theorem wr_blk {w wa w2 : World} {p n : Nat} {v : Value} {l : List UInt8} (h : Wr w p v n l) (ha : Only [] w wa) (hon : Only (ownL v) wa w2) : Blk w2 p 151 #[v] :=
  (h.blk.only ha (by simp)).only hon h.ne
theorem wr_step {w wa w2 : World} {p n n2 : Nat} {v V : Value} {l l2 : List UInt8} (h : Wr w p v n l) (ha : Only [] w wa) (ho2 : OwnB w2 0 V n2 l2) (hon : Only (ownL v) wa w2) (hf : Fresh wa v V) :
    Wr (w2.setCell ⟨p, 0, none⟩ V) p V n2 l2 ∧ Turned w (w2.setCell ⟨p, 0, none⟩ V) p v V := by
  have hb := wr_blk h ha hon
  have hne := ho2.ne_blk hb (by decide)
  refine ⟨⟨?_, ?_⟩, ?_, ?_⟩
  · exact hb.set_ 0 V
  · exact ho2.only ((Only.refl [p] w2).setCell (p := ⟨p, 0, none⟩) (.inl (by simp)) V) (fun g hg hm => by simp at hm; subst hm; exact hne hg)
  · exact (((ha.mono (S' := p :: ownL v) (fun g hg => by cases hg)).trans hon (fun g hg => .inl (by simp [hg])))).setCell (p := ⟨p, 0, none⟩) (.inl (by simp)) V
  · intro g hg
    rcases hf g hg with h1 | h1
    · exact .inl h1
    · exact .inr (Nat.le_trans ha.size h1)

theorem byteAt_wrap (x k : Nat) : IntKind.u8.wrap ((x : Int) / 2 ^ (8 * k)) = ((byteAt x k).toNat : Int) := by
  have e : ((2 ^ (8 * k) : Nat) : Int) = (2 : Int) ^ (8 * k) := by norm_cast
  rw [← e, ← Int.natCast_ediv, IntKind.wrap_u8']
  unfold byteAt
  rw [UInt8.toNat_ofNat']
  omega

theorem lay_any (p n : Nat) (v : Value) (l : List UInt8) (x size : Nat) (w : World) (hx : x < 18446744073709551616) (hs : size ≤ 8) (h : Wr w p v n l) (hn : n + size ≤ 140737488355328) :
    Calls Tryz.prog 128 #[.pointer (some ⟨p, 0, none⟩), .int .u64 (x : Int), .int .i64 (size : Int)] w fun e w' => e = .returned (.tuple #[]) ∧ ∃ v', Wr w' p v' (n + size) (l ++ le x size) ∧ Turned w w' p v v' := by
  go_enter Tryz.func128, Tryz.ntmps128
  go_wp2_with fail
  go_loopw [8] (fun i wr => ∃ k : Nat, k ≤ size ∧ i = .int .i64 k ∧ ∃ v', Wr wr p v' (n + k) (l ++ le x k) ∧ Turned w wr p v v') (fun i _ => size - (intOf i).toNat)
  case atStart => exact ⟨0, by omega, rfl, v, by simpa [le] using h, Turned.refl _ _ _⟩
  case round =>
    obtain ⟨k, hk, rfl, v1, h1, ht⟩ := hrel
    by_cases hlt : k < size
    · have hc' : wr.cell? ⟨p, 0, none⟩ = some v1 := h1.blk.cell 0
      have e1 : IntKind.i64.wrap (8 * (k : Int)) = 8 * (k : Int) := IntWalk.i64_in _ (by omega)
      have e2 : (0 : Int) ≤ 8 * (k : Int) := by omega
      have e3 : (8 * (k : Int)).toNat = 8 * k := by omega
      have e4 : min (8 * k) 64 = 8 * k := Nat.min_eq_left (by omega)
      have e5 := byteAt_wrap x k
      have hle := le_succ x k
      have HLE := Lib.hid hle
      clear hle
      generalize byteAt x k = c at *
      have hB := (Bytes.const wr [c] #[.int .u8 (c.toNat : Int)] 5 (0, 0) rfl).drew
      have hO := (h1.own.alloc (.cells #[.int .u8 (c.toNat : Int)] 5)).drew
      have ha : Only [] wr (wr.alloc (.cells #[.int .u8 (c.toNat : Int)] 5)).drew := ((Only.refl [] wr).alloc _).drew
      have hc2 : (wr.alloc (.cells #[.int .u8 (c.toNat : Int)] 5)).cell? ⟨p, 0, none⟩ = some v1 := (h1.blk.alloc _).cell 0
      go_wp2_with fail
      go_region_law (refine step_append_bytes rfl (.tmp 15) (.tmp 21) rfl (base := 0) rfl hO rfl hB (by show n + k + 1 ≤ _; omega) (Nat.zero_le _) ?_; intro v2 w2 ho2 hon2 hfr2; have hb2 := wr_blk h1 ha hon2; have c2 : w2.cell? ⟨p, 0, none⟩ = some v1 := hb2.cell 0; have f2 := hb2.frozen 0; have hst := wr_step h1 ha ho2 hon2 hfr2; obtain ⟨A2, cap2, rfl, _, _, _, _⟩ := ho2.shape)
      all_goals
        go_wp2_with fail
        go_roundw
        case rel => exact ⟨k + 1, by omega, by go_num, _, by rw [HLE.out, ← List.append_assoc]; exact hst.1, ht.trans hst.2⟩
        case measure => simp [intOf]; omega
    · go_wp2_with fail
      go_end0
      obtain rfl : k = size := by omega
      exact ⟨rfl, v1, h1, ht⟩
theorem lay_int (p n : Nat) (v : Value) (l : List UInt8) (x size : Int) (w : World) (h0 : 0 ≤ x) (hx : x < 18446744073709551616) (hs0 : 0 ≤ size) (hs : size ≤ 8) (h : Wr w p v n l) (hn : n + size.toNat ≤ 140737488355328) :
    Calls Tryz.prog 128 #[.pointer (some ⟨p, 0, none⟩), .int .u64 x, .int .i64 size] w fun e w' => e = .returned (.tuple #[]) ∧ ∃ v', Wr w' p v' (n + size.toNat) (l ++ le x.toNat size.toNat) ∧ Turned w w' p v v' := by
  obtain ⟨a, rfl⟩ := Int.eq_ofNat_of_zero_le h0
  obtain ⟨b, rfl⟩ := Int.eq_ofNat_of_zero_le hs0
  exact lay_any p n v l a b w (by omega) (by omega) h hn
def u64 (z : Int) : Nat := (z % 18446744073709551616).toNat
theorem u64_wrap (z : Int) : IntKind.u64.wrap z = ((u64 z : Nat) : Int) := by rw [IntKind.wrap_u64]; unfold u64; omega
theorem u64_lt (z : Int) : u64 z < 18446744073709551616 := by unfold u64; omega
def nums (zs : List Int) : List UInt8 := zs.flatMap fun z => le (u64 z) 8
theorem nums_len (zs : List Int) : (nums zs).length = 8 * zs.length := by
  induction zs with
  | nil => rfl
  | cons z zs ih => simp only [nums, List.flatMap_cons, List.length_append, le_len, List.length_cons] at ih ⊢; omega
theorem nums_take (zs : List Int) (k : Nat) (h : k < zs.length) : nums (zs.take (k + 1)) = nums (zs.take k) ++ le (u64 (zs.getD k 0)) 8 := flatMap_take_succ _ zs 0 k h

theorem num_any (p n : Nat) (v : Value) (l : List UInt8) (A : Option Addr) (m c B : Nat) (zs : List Int) (w : World) (h : Wr w p v n l) (hz : zs.length = m) (hr : Reads w B 1 A m (zs.map (Value.int .i64)))
    (hA : ∀ g ∈ blkOf A, g ∉ p :: ownL v) (hn : n + 8 * m ≤ 140737488355328) :
    Calls Tryz.prog 92 #[.pointer (some ⟨p, 0, none⟩), .slice A m c] w fun e w' => e = .returned (.tuple #[]) ∧ ∃ v', Wr w' p v' (n + 8 * m) (l ++ nums zs) ∧ Turned w w' p v v' := by
  have HZ := Lib.hid hz
  clear hz
  go_enter Tryz.func92, Tryz.ntmps92
  go_wp2_with fail
  go_loopw [10] (fun i wr => ∃ k : Nat, k ≤ m ∧ i = .int .i64 k ∧ ∃ v', Wr wr p v' (n + 8 * k) (l ++ nums (zs.take k)) ∧ Turned w wr p v v') (fun i _ => m - (intOf i).toNat)
  case atStart => exact ⟨0, by omega, rfl, v, by simpa [nums] using h, Turned.refl _ _ _⟩
  case round =>
    obtain ⟨k, hk, rfl, v1, h1, ht⟩ := hrel
    by_cases hlt : k < m
    · obtain ⟨b, off, rfl, hB, hc⟩ := (hr.only ht.only hA).at1 hlt
      have hkz : k < zs.length := by rw [HZ.out]; exact hlt
      rw [map_get _ _ 0 _ hkz] at hc
      have HS := Lib.hid (nums_take zs k hkz)
      have hu := u64_wrap (zs.getD k 0)
      have hul := u64_lt (zs.getD k 0)
      generalize zs.getD k 0 = z at *
      generalize u64 z = x at *
      have hcall := lay_any p (n + 8 * k) v1 (l ++ nums (zs.take k)) x 8 wr hul (by omega) h1 (by omega)
      have HC := Lib.hid hcall
      clear hcall hkz
      go_wp2_with (go_at_call 128; refine Calls.mono HC.out ?_; rintro e w2 ⟨rfl, v2, h2, ht2⟩)
      go_roundw
      case rel => exact ⟨k + 1, by omega, by go_num, v2, by rw [HS.out, ← List.append_assoc, show n + 8 * (k + 1) = n + 8 * k + 8 by omega]; exact h2, ht.trans ht2⟩
      case measure => simp [intOf]; omega
    · go_wp2_with fail
      go_end0
      obtain rfl : k = m := by omega
      rw [List.take_of_length_le (by rw [HZ.out]; exact Nat.le_refl _)] at h1
      exact ⟨rfl, v1, h1, ht⟩
def clamp (z : Int) : Nat := (min (max z 0) 65535).toNat
theorem clamp_le (z : Int) : clamp z ≤ 65535 := by unfold clamp; omega
theorem clamp_eq (z : Int) : min (max z 0) 65535 = ((clamp z : Nat) : Int) := by unfold clamp; omega
def smalls (zs : List Int) : List UInt8 := zs.flatMap fun z => le (clamp z) 2
theorem smalls_take (zs : List Int) (k : Nat) (h : k < zs.length) : smalls (zs.take (k + 1)) = smalls (zs.take k) ++ le (clamp (zs.getD k 0)) 2 := flatMap_take_succ _ zs 0 k h
theorem small_any (p n : Nat) (v : Value) (l : List UInt8) (A : Option Addr) (m c B : Nat) (zs : List Int) (w : World) (h : Wr w p v n l) (hz : zs.length = m) (hr : Reads w B 1 A m (zs.map (Value.int .i64)))
    (hA : ∀ g ∈ blkOf A, g ∉ p :: ownL v) (hn : n + 2 * m ≤ 140737488355328) :
    Calls Tryz.prog 140 #[.pointer (some ⟨p, 0, none⟩), .slice A m c] w fun e w' => e = .returned (.tuple #[]) ∧ ∃ v', Wr w' p v' (n + 2 * m) (l ++ smalls zs) ∧ Turned w w' p v v' := by
  have HZ := Lib.hid hz
  clear hz
  go_enter Tryz.func140, Tryz.ntmps140
  go_wp2_with fail
  go_loopw [10] (fun i wr => ∃ k : Nat, k ≤ m ∧ i = .int .i64 k ∧ ∃ v', Wr wr p v' (n + 2 * k) (l ++ smalls (zs.take k)) ∧ Turned w wr p v v') (fun i _ => m - (intOf i).toNat)
  case atStart => exact ⟨0, by omega, rfl, v, by simpa [smalls] using h, Turned.refl _ _ _⟩
  case round =>
    obtain ⟨k, hk, rfl, v1, h1, ht⟩ := hrel
    by_cases hlt : k < m
    · obtain ⟨b, off, rfl, hB, hc⟩ := (hr.only ht.only hA).at1 hlt
      have hkz : k < zs.length := by rw [HZ.out]; exact hlt
      rw [map_get _ _ 0 _ hkz] at hc
      have HS := Lib.hid (smalls_take zs k hkz)
      have hcl := clamp_le (zs.getD k 0)
      have hce := clamp_eq (zs.getD k 0)
      generalize zs.getD k 0 = z at *
      have HE := Lib.hid hce
      clear hce hkz
      have hcase : z < 0 ∨ (0 ≤ z ∧ z ≤ 65535) ∨ 65535 < z := by omega
      rcases hcase with hz0 | ⟨hz0, hz1⟩ | hz1
      · go_wp2_with fail
        refine (lay_int p _ v1 _ 0 2 wr (by first | omega | decide) (by first | omega | decide) (by decide) (by decide) h1 (by show n + 2 * k + 2 ≤ _; omega)).mono ?_
        rintro e w2 ⟨rfl, v2, h2, ht2⟩
        have hcz : clamp z = ((0 : Int)).toNat := by have := HE.out; omega
        go_wp2_with fail
        go_roundw
        case rel => exact ⟨k + 1, by omega, by go_num, v2, by rw [HS.out, ← List.append_assoc, show n + 2 * (k + 1) = n + 2 * k + 2 by omega, hcz]; exact h2, ht.trans ht2⟩
        case measure => simp [intOf]; omega
      · go_wp2_with fail
        refine (lay_int p _ v1 _ z 2 wr (by first | omega | decide) (by first | omega | decide) (by decide) (by decide) h1 (by show n + 2 * k + 2 ≤ _; omega)).mono ?_
        rintro e w2 ⟨rfl, v2, h2, ht2⟩
        have hcz : clamp z = (z).toNat := by have := HE.out; omega
        go_wp2_with fail
        go_roundw
        case rel => exact ⟨k + 1, by omega, by go_num, v2, by rw [HS.out, ← List.append_assoc, show n + 2 * (k + 1) = n + 2 * k + 2 by omega, hcz]; exact h2, ht.trans ht2⟩
        case measure => simp [intOf]; omega
      · have hz0 : 0 ≤ z := by omega
        go_wp2_with fail
        refine (lay_int p _ v1 _ 65535 2 wr (by first | omega | decide) (by first | omega | decide) (by decide) (by decide) h1 (by show n + 2 * k + 2 ≤ _; omega)).mono ?_
        rintro e w2 ⟨rfl, v2, h2, ht2⟩
        have hcz : clamp z = ((65535 : Int)).toNat := by have := HE.out; omega
        go_wp2_with fail
        go_roundw
        case rel => exact ⟨k + 1, by omega, by go_num, v2, by rw [HS.out, ← List.append_assoc, show n + 2 * (k + 1) = n + 2 * k + 2 by omega, hcz]; exact h2, ht.trans ht2⟩
        case measure => simp [intOf]; omega
    · go_wp2_with fail
      go_end0
      obtain rfl : k = m := by omega
      rw [List.take_of_length_le (by rw [HZ.out]; exact Nat.le_refl _)] at h1
      exact ⟨rfl, v1, h1, ht⟩
def text (s : ByteArray) : List UInt8 := le (min s.size 65535) 2 ++ s.data.toList.take 65535
def texts (ss : List ByteArray) : List UInt8 := ss.flatMap text
theorem clone_any (A : Option Addr) (n c B : Nat) (l : List UInt8) (w : World) (hr : Bytes w B A n l) (hn : n ≤ 140737488355328) :
    Calls Tryz.prog 69 #[.slice A n c] w fun e w' => ∃ v', e = .returned v' ∧ OwnB w' w.heap.size v' n l ∧ Only [] w w' := by
  have hnil := fun (w : World) (a : Option Addr) (n c n' c' : Nat) => Lib.run_eql_slice_nil (P := Tryz.prog) w 35 5 a n c n' c' Tryz.underlying35
  cases A with
  | none =>
    have hn0 : n = 0 := by
      rcases Nat.eq_zero_or_pos n with h | h
      · exact h
      · obtain ⟨ad, e, _⟩ := hr.2.2 h
        cases e
    subst hn0
    have hl : l = [] := List.eq_nil_of_length_eq_zero hr.1
    subst hl
    go_enter Tryz.func69, Tryz.ntmps69
    go_wp2_with fail
    go_ret
    exact ⟨_, rfl, OwnB.nil_ _ _, Only.refl _ _⟩
  | some ad =>
    have hown0 := OwnB.empty w w.heap.size (Nat.le_refl _)
    have hr2 := hr.only (w' := w.alloc (.cells #[] 5)) ((Only.refl [] w).alloc _) (by simp)
    go_enter Tryz.func69, Tryz.ntmps69
    go_wp2_with (at_builtin; refine wpList_append_bytes rfl (.tmp 5) (.tmp 6) rfl rfl hown0 rfl hr2 (by omega) (by simp) ?_; intro v2 w2 ho2 hon2 hfr2)
    go_ret
    refine ⟨v2, rfl, by simpa using ho2, ?_⟩
    exact ((Only.refl [] w).alloc (.cells #[] 5)).trans hon2 (fun g hg => .inr (by have e : g ∈ [w.heap.size] := hg; simp at e; omega))
theorem bytes_any (p n : Nat) (v : Value) (l : List UInt8) (w : World) (h : Wr w p v n l) (hn : n ≤ 140737488355328) :
    Calls Tryz.prog 93 #[.pointer (some ⟨p, 0, none⟩)] w fun e w' => ∃ v', e = .returned v' ∧ OwnB w' w.heap.size v' n l ∧ Only [] w w' := by
  have hc : w.cell? ⟨p, 0, none⟩ = some v := h.blk.cell 0
  obtain ⟨A, cap, rfl, _, _, hr, _⟩ := h.own.shape
  go_enter Tryz.func93, Tryz.ntmps93
  go_wp2_with (go_at_call 69; refine (clone_any A n cap _ l _ hr hn).mono ?_; rintro e w' ⟨v', rfl, ho, hon⟩)
  go_ret
  exact ⟨v', rfl, ho, hon⟩
end Go.Proofs.YthgfmoogagldmaaGreat.Codec
namespace Go.Proofs.YthgfmoogagldmaaGreat.Codec
open Go.RowKit

def Rd (w : World) (p : Nat) (st : Option (List UInt8)) : Prop :=
  ∃ A n c, Blk w p 179 #[.slice A n c, .bool st.isNone] ∧ n ≤ c ∧ c ≤ maxLen ∧ Bytes w p A n (st.getD []) ∧ p ∉ blkOf A
theorem Rd.only {w w' : World} {p : Nat} {st : Option (List UInt8)} {S : List Nat} (h : Rd w p st) (ho : Only S w w') (hp : p ∉ S) (hA : ∀ A n c, Blk w p 179 #[.slice A n c, .bool st.isNone] → ∀ g ∈ blkOf A, g ∉ S) : Rd w' p st := by
  obtain ⟨A, n, c, hb, hc, hm, hr, hne⟩ := h
  exact ⟨A, n, c, hb.only ho hp, hc, hm, hr.only ho (hA A n c hb), hne⟩
theorem read_any (A : Option Addr) (n c B : Nat) (l : List UInt8) (w : World) (hr : Bytes w B A n l) (hn : n ≤ 140737488355328) :
    Calls Tryz.prog 87 #[.slice A n c] w fun e w' => ∃ p, e = .returned (.pointer (some ⟨p, 0, none⟩)) ∧ Rd w' p (some l) ∧ Only [] w w' ∧ w.heap.size ≤ p := by
  go_enter Tryz.func87, Tryz.ntmps87
  go_wp2_with (go_at_call 69; refine (clone_any A n c _ l _ hr hn).mono ?_; rintro e w1 ⟨v1, rfl, ho, hon⟩; obtain ⟨A1, cap1, rfl, hc1, hm1, hr1, hb1⟩ := ho.shape)
  go_ret
  refine ⟨w1.heap.size, rfl, ⟨A1, n, cap1, Blk.new _ _ _, hc1, hm1, ?_, ?_⟩, hon.alloc _, hon.size⟩
  · exact hr1.only ((Only.refl [] w1).alloc _) (by simp)
  · rcases hb1 with ⟨rfl, _⟩ | ⟨g, rfl, _, hg⟩
    · simp [blkOf]
    · simp [blkOf]; omega

theorem refuse_any (p : Nat) (is : Bool) (st : Option (List UInt8)) (w : World) (h : Rd w p st) :
    Calls Tryz.prog 147 #[.pointer (some ⟨p, 0, none⟩), .bool is] w fun e w' => e = .returned (.tuple #[]) ∧ Rd w' p (if is then none else st) ∧ Only [p] w w' := by
  obtain ⟨A, n, c, hb, hc, hm, hr, hne⟩ := h
  have c0 : w.cell? ⟨p, 0, none⟩ = some (.slice A n c) := hb.cell 0
  have c1 : w.cell? ⟨p, 1, none⟩ = some (.bool st.isNone) := hb.cell 1
  have f0 := hb.frozen 0
  have f1 := hb.frozen 1
  cases is with
  | false =>
    go_enter Tryz.func147, Tryz.ntmps147
    go_wp2_with fail
    go_end0
    exact ⟨rfl, ⟨A, n, c, hb, hc, hm, hr, hne⟩, Only.refl _ _⟩
  | true =>
    go_enter Tryz.func147, Tryz.ntmps147
    go_wp2_with fail
    go_end0
    refine ⟨rfl, ⟨none, 0, 0, ?_, Nat.le_refl _, by simp [maxLen], Bytes.nil_, by simp [blkOf]⟩, ?_⟩
    · exact (hb.set_ 1 (.bool true)).set_ 0 (.slice none 0 0)
    · exact ((Only.refl [p] w).setCell (p := ⟨p, 1, none⟩) (.inl (by simp)) _).setCell (p := ⟨p, 0, none⟩) (.inl (by simp)) _

def rget (k : Nat) : Option (List UInt8) → List UInt8
  | none => []
  | some l => if l.length < k then [] else l.take k
def rgot (k : Nat) : Option (List UInt8) → Option (List UInt8)
  | none => none
  | some l => if l.length < k then none else some (l.drop k)
theorem rget_bad {k : Nat} {l : List UInt8} (h : l.length < k) : rget k (some l) = [] := if_pos h
theorem rget_ok {k : Nat} {l : List UInt8} (h : ¬ l.length < k) : rget k (some l) = l.take k := if_neg h
theorem rgot_bad {k : Nat} {l : List UInt8} (h : l.length < k) : rgot k (some l) = none := if_pos h
theorem rgot_ok {k : Nat} {l : List UInt8} (h : ¬ l.length < k) : rgot k (some l) = some (l.drop k) := if_neg h
theorem rget_len (k : Nat) (st : Option (List UInt8)) : (rget k st).length = 0 ∨ (rget k st).length = k := by
  cases st with
  | none => exact .inl rfl
  | some l =>
    by_cases h : l.length < k
    · rw [rget_bad h]; exact .inl rfl
    · rw [rget_ok h]; right; rw [List.length_take]; omega

theorem get_any (p k : Nat) (st : Option (List UInt8)) (w : World) (h : Rd w p st) (hk : k ≤ 9223372036854775807) :
    Calls Tryz.prog 126 #[.pointer (some ⟨p, 0, none⟩), .int .i64 (k : Int)] w fun e w' => ∃ A n c, e = .returned (.slice A n c) ∧ n ≤ c ∧ c ≤ maxLen ∧ Bytes w' w'.heap.size A n (rget k st) ∧ Rd w' p (rgot k st) ∧ Only [p] w w' ∧ p ∉ blkOf A := by
  have h' := h
  obtain ⟨A, n, c, hb, hc, hm, hr, hne⟩ := h
  unfold maxLen at hm
  have c0 : w.cell? ⟨p, 0, none⟩ = some (.slice A n c) := hb.cell 0
  have hlen := hr.len
  have HL := Lib.hid hlen
  have R1 := Lib.hid (refuse_any p true st w h')
  have R0 := Lib.hid (refuse_any p false st w h')
  clear h' hlen
  cases st with
  | none =>
    have hn0 : n = 0 := by have := HL.out; simpa using this.symm
    subst hn0
    by_cases hk0 : 0 < k
    · go_enter Tryz.func126, Tryz.ntmps126
      go_wp2_with fail
      refine Calls.mono R1.out ?_
      rintro e w1 ⟨rfl, hR, hO⟩
      obtain ⟨A1, n1, c1, hb1, _⟩ := hR
      have d1 : w1.cell? ⟨p, 1, none⟩ = some (.bool true) := hb1.cell 1
      go_wp2_with fail
      go_ret
      exact ⟨none, 0, 0, rfl, Nat.le_refl _, by simp [maxLen], Bytes.nil_, ⟨A1, n1, c1, hb1, by assumption⟩, hO, by simp [blkOf]⟩
    · have hk0 : k = 0 := by omega
      subst hk0
      go_enter Tryz.func126, Tryz.ntmps126
      go_wp2_with fail
      refine Calls.mono R0.out ?_
      rintro e w1 ⟨rfl, hR, hO⟩
      obtain ⟨A1, n1, c1, hb1, _⟩ := hR
      have d1 : w1.cell? ⟨p, 1, none⟩ = some (.bool true) := hb1.cell 1
      go_wp2_with fail
      go_ret
      exact ⟨none, 0, 0, rfl, Nat.le_refl _, by simp [maxLen], Bytes.nil_, ⟨A1, n1, c1, hb1, by assumption⟩, hO, by simp [blkOf]⟩
  | some l =>
    have hl : Hid (l.length = n) := HL.out
    by_cases hlt : n < k
    · have hg : rget k (some l) = [] := rget_bad (by rw [hl.out]; exact hlt)
      have hg2 : rgot k (some l) = none := rgot_bad (by rw [hl.out]; exact hlt)
      rw [hg, hg2]
      clear hg hg2
      go_enter Tryz.func126, Tryz.ntmps126
      go_wp2_with fail
      refine Calls.mono R1.out ?_
      rintro e w1 ⟨rfl, hR, hO⟩
      obtain ⟨A1, n1, c1, hb1, _⟩ := hR
      have d1 : w1.cell? ⟨p, 1, none⟩ = some (.bool true) := hb1.cell 1
      go_wp2_with fail
      go_ret
      exact ⟨none, 0, 0, rfl, Nat.le_refl _, by simp [maxLen], Bytes.nil_, ⟨A1, n1, c1, hb1, by assumption⟩, hO, by simp [blkOf]⟩
    · have hg : rget k (some l) = l.take k := rget_ok (by rw [hl.out]; exact hlt)
      have hg2 : rgot k (some l) = some (l.drop k) := rgot_ok (by rw [hl.out]; exact hlt)
      rw [hg, hg2]
      clear hg hg2
      go_enter Tryz.func126, Tryz.ntmps126
      go_wp2_with fail
      refine Calls.mono R0.out ?_
      rintro e w1 ⟨rfl, hR, hO⟩
      obtain ⟨A1, n1, c1, hb1, hc1, hm1, hr1, hne1⟩ := hR
      unfold maxLen at hm1
      have hn1 := hr1.len
      have HN : Hid (n1 = n) := hn1.symm.trans hl.out
      obtain rfl : n = n1 := HN.out.symm
      clear hn1 HN
      have d1 : w1.cell? ⟨p, 1, none⟩ = some (.bool false) := hb1.cell 1
      have d0 : w1.cell? ⟨p, 0, none⟩ = some (.slice A1 n c1) := hb1.cell 0
      have f0 := hb1.frozen 0
      have hnl : n = l.length := hl.out.symm
      have hO' := Lib.hid hO
      by_cases hck : c1 = k
      · have hnk : n = k := by omega
        subst hck
        clear hnl
        obtain rfl : n = c1 := hnk
        go_wp2_with fail
        go_ret
        refine ⟨A1, n, n, rfl, Nat.le_refl _, by simp only [maxLen]; omega, ?_, ⟨A1, 0, 0, ?_, Nat.le_refl _, by simp [maxLen], ?_, hne1⟩, ?_, hne1⟩
        · have := hr1.head (k := n) (Nat.le_refl _)
          exact (this.only ((Only.refl [p] w1).setCell (p := ⟨p, 0, none⟩) (.inl (by simp)) _) (fun g hg hm => by simp at hm; subst hm; exact hne1 hg)).more (by have := hb1.lt; simp [World.setCell]; omega)
        · exact hb1.set_ 0 _
        · have : List.drop n l = [] := List.drop_eq_nil_of_le (by rw [hl.out]; exact Nat.le_refl _)
          show Bytes _ _ _ _ (List.drop n l)
          rw [this]
          exact ⟨rfl, rfl, fun h => absurd h (by omega)⟩
        · exact hO.setCell (p := ⟨p, 0, none⟩) (.inl (by simp)) _
      · clear hnl
        go_wp2_with fail
        go_ret
        have hS := (Only.refl [p] w1).setCell (p := ⟨p, 0, none⟩) (.inl (by simp)) (.slice (Option.map (fun x => x.add k) A1) (n - k) (c1 - k))
        refine ⟨A1, k, c1, rfl, by omega, by simp only [maxLen]; omega, ?_, ⟨_, n - k, c1 - k, hb1.set_ 0 _, by omega, by simp only [maxLen]; omega, ?_, by rw [blkOf_map]; exact hne1⟩, ?_, hne1⟩
        · have := hr1.head (k := k) (by omega)
          exact (this.only hS (fun g hg hm => by simp at hm; subst hm; exact hne1 hg)).more (by have := hb1.lt; simp [World.setCell]; omega)
        · have := hr1.rest (k := k) (by omega)
          exact this.only hS (fun g hg hm => by simp at hm; subst hm; rw [blkOf_map] at hg; exact hne1 hg)
        · exact hO.setCell (p := ⟨p, 0, none⟩) (.inl (by simp)) _
def vle : List UInt8 → Nat
  | [] => 0
  | c :: l => c.toNat + 256 * vle l
theorem vle_lt (l : List UInt8) : vle l < 2 ^ (8 * l.length) := by
  induction l with
  | nil => simp [vle]
  | cons c l ih =>
    have hc := c.toNat_lt
    rw [vle, List.length_cons, show 8 * (l.length + 1) = 8 * l.length + 8 by omega, Nat.pow_add]
    omega
theorem vle_snoc (l : List UInt8) (c : UInt8) : vle (l ++ [c]) = vle l + c.toNat * 2 ^ (8 * l.length) := by
  induction l with
  | nil => simp [vle]
  | cons d l ih =>
    rw [List.cons_append, vle, ih, vle, List.length_cons, show 8 * (l.length + 1) = 8 * l.length + 8 by omega, Nat.pow_add]
    have : c.toNat * (2 ^ (8 * l.length) * 2 ^ 8) = 256 * (c.toNat * 2 ^ (8 * l.length)) := by
      rw [show (2 : Nat) ^ 8 = 256 from rfl, Nat.mul_comm (2 ^ (8 * l.length)) 256, Nat.mul_left_comm]
    rw [this]
    omega
theorem vle_take_succ (l : List UInt8) (k : Nat) (h : k < l.length) : vle (l.take (k + 1)) = vle (l.take k) + (l.getD k 0).toNat * 2 ^ (8 * k) := by
  rw [List.take_succ_eq_append_getElem h, vle_snoc, List.length_take, Nat.min_eq_left (by omega), List.getD_eq_getElem?_getD, List.getElem?_eq_getElem h]
  rfl
theorem or_low (x c k : Nat) (hx : x < 2 ^ k) : x ||| c * 2 ^ k = x + c * 2 ^ k := by
  rw [Nat.or_comm, nat_join k (c * 2 ^ k) x (Nat.mul_mod_left _ _) hx]
  omega
theorem value_any (A : Option Addr) (n c B : Nat) (l : List UInt8) (w : World) (hr : Bytes w B A n l) (hn : n ≤ 8) :
    Calls Tryz.prog 125 #[.slice A n c] w fun e w' => e = .returned (.int .u64 (vle l : Nat)) ∧ w = w' := by
  have HL := Lib.hid hr.len
  go_enter Tryz.func125, Tryz.ntmps125
  go_wp2_with fail
  go_loop [3, 8] (fun v i => ∃ k : Nat, k ≤ n ∧ i = .int .i64 k ∧ v = .int .u64 (vle (l.take k) : Nat)) (fun _ i => n - (intOf i).toNat)
  case atStart => exact ⟨0, by omega, rfl, rfl⟩
  case round =>
    obtain ⟨k, hk, rfl, rfl⟩ := hrel
    by_cases hlt : k < n
    · obtain ⟨b, off, rfl, hB, hc⟩ := hr.at_ hlt
      have hkl : k < l.length := by rw [HL.out]; exact hlt
      have HS := Lib.hid (vle_take_succ l k hkl)
      have hx := vle_lt (l.take k)
      rw [List.length_take, Nat.min_eq_left (by omega)] at hx
      have hy := vle_lt (l.take (k + 1))
      rw [HS.out, List.length_take, Nat.min_eq_left (by omega)] at hy
      have hc8 := (l.getD k 0).toNat_lt
      generalize vle (l.take k) = x at *
      generalize (l.getD k 0).toNat = d at *
      have e1 : IntKind.i64.wrap (8 * (k : Int)) = 8 * (k : Int) := IntWalk.i64_in _ (by omega)
      have e2 : (0 : Int) ≤ 8 * (k : Int) := by omega
      have e3 : (8 * (k : Int)).toNat = 8 * k := by omega
      have e4 : min (8 * k) 64 = 8 * k := Nat.min_eq_left (by omega)
      have hp64 : 2 ^ (8 * (k + 1)) ≤ 18446744073709551616 := Nat.le_trans (Nat.pow_le_pow_right (by decide) (show 8 * (k + 1) ≤ 64 by omega)) (by decide)
      have hor := or_low x d (8 * k) hx
      have hb := u64_or_nat x (d * 2 ^ (8 * k)) (by omega) (by omega)
      rw [hor] at hb
      have hw : Hid (bits .or .u64 (x : Int) (IntKind.u64.wrap ((d : Int) * 2 ^ (8 * k))) = ((x + d * 2 ^ (8 * k) : Nat) : Int)) := by
        have e : ((2 ^ (8 * k) : Nat) : Int) = (2 : Int) ^ (8 * k) := by norm_cast
        unfold Hid
        rw [← hb, ← e, ← Int.natCast_mul, IntKind.wrap_u64]
        congr 1
        omega
      clear hb hor hp64 hy hx
      go_wp2_with fail
      go_round
      case rel => exact ⟨k + 1, by omega, by go_num, by rw [HS.out, hw.out]⟩
      case measure => simp [intOf]; omega
    · obtain rfl : k = n := by omega
      have HX := Lib.hid (congrArg vle (List.take_of_length_le (show l.length ≤ k by rw [HL.out]; exact Nat.le_refl _)))
      go_wp2_with fail
      go_ret
      exact ⟨by rw [← HX.out]; rfl, rfl⟩
def s64 (x : Nat) : Int := wrap64 (x : Int)
theorem num_r (p : Nat) (st : Option (List UInt8)) (w : World) (h : Rd w p st) :
    Calls Tryz.prog 88 #[.pointer (some ⟨p, 0, none⟩)] w fun e w' => e = .returned (.int .i64 (s64 (vle (rget 8 st)))) ∧ Rd w' p (rgot 8 st) ∧ Only [p] w w' := by
  have hg := get_any p 8 st w h (by omega)
  rw [show ((8 : Nat) : Int) = 8 from rfl] at hg
  have HG := Lib.hid hg
  clear hg
  have hlen := rget_len 8 st
  go_enter Tryz.func88, Tryz.ntmps88
  go_wp2_with fail
  refine Calls.mono HG.out ?_
  rintro e w1 ⟨A, n, c, rfl, hnc, hm, hr, hR, hO, hne⟩
  have hn : n ≤ 8 := by have := hr.len; omega
  go_wp2_with fail
  refine (value_any A n c _ _ w1 hr hn).mono ?_
  rintro e w2 ⟨rfl, rfl⟩
  generalize hv : vle (rget 8 st) = x
  have HV := Lib.hid hv
  clear hv
  go_wp2_with fail
  go_ret
  exact ⟨by rw [HV.out]; rfl, hR, hO⟩
theorem small_lt (st : Option (List UInt8)) : vle (rget 2 st) < 65536 := by
  have h := vle_lt (rget 2 st)
  rcases rget_len 2 st with e | e <;> rw [e] at h <;> omega
theorem small_r (p : Nat) (st : Option (List UInt8)) (w : World) (h : Rd w p st) :
    Calls Tryz.prog 135 #[.pointer (some ⟨p, 0, none⟩)] w fun e w' => e = .returned (.int .i64 (vle (rget 2 st) : Nat)) ∧ Rd w' p (rgot 2 st) ∧ Only [p] w w' := by
  have hg := get_any p 2 st w h (by omega)
  rw [show ((2 : Nat) : Int) = 2 from rfl] at hg
  have HG := Lib.hid hg
  clear hg
  have hlen := rget_len 2 st
  have hlt := small_lt st
  go_enter Tryz.func135, Tryz.ntmps135
  go_wp2_with fail
  refine Calls.mono HG.out ?_
  rintro e w1 ⟨A, n, c, rfl, hnc, hm, hr, hR, hO, hne⟩
  have hn : n ≤ 8 := by have := hr.len; omega
  go_wp2_with fail
  refine (value_any A n c _ _ w1 hr hn).mono ?_
  rintro e w2 ⟨rfl, rfl⟩
  generalize hv : vle (rget 2 st) = x at *
  have HV := Lib.hid hv
  clear hv
  go_wp2_with fail
  go_ret
  exact ⟨by rw [HV.out]; rfl, hR, hO⟩
theorem good_any (p : Nat) (st : Option (List UInt8)) (w : World) (h : Rd w p st) :
    Calls Tryz.prog 89 #[.pointer (some ⟨p, 0, none⟩)] w fun e w' => e = .returned (.bool st.isSome) ∧ w = w' := by
  obtain ⟨A, n, c, hb, _⟩ := h
  cases st with
  | none =>
    have d1 : w.cell? ⟨p, 1, none⟩ = some (.bool true) := hb.cell 1
    go_enter Tryz.func89, Tryz.ntmps89
    go_wp2_with fail
    go_ret
    exact ⟨rfl, rfl⟩
  | some l =>
    have d1 : w.cell? ⟨p, 1, none⟩ = some (.bool false) := hb.cell 1
    go_enter Tryz.func89, Tryz.ntmps89
    go_wp2_with fail
    go_ret
    exact ⟨rfl, rfl⟩
theorem left_any (p : Nat) (st : Option (List UInt8)) (w : World) (h : Rd w p st) :
    Calls Tryz.prog 90 #[.pointer (some ⟨p, 0, none⟩)] w fun e w' => e = .returned (.int .i64 ((st.getD []).length : Nat)) ∧ w = w' := by
  obtain ⟨A, n, c, hb, hc, hm, hr, hne⟩ := h
  have d0 : w.cell? ⟨p, 0, none⟩ = some (.slice A n c) := hb.cell 0
  have HL := Lib.hid hr.len
  go_enter Tryz.func90, Tryz.ntmps90
  go_wp2_with fail
  go_ret
  exact ⟨by rw [HL.out]; rfl, rfl⟩
def rcount (m : Int) (st : Option (List UInt8)) : Nat := if (vle (rget 2 st) : Int) ≤ m then vle (rget 2 st) else 0
def rcounted (m : Int) (st : Option (List UInt8)) : Option (List UInt8) := if (vle (rget 2 st) : Int) ≤ m then rgot 2 st else none
def rtext (m : Int) (st : Option (List UInt8)) : List UInt8 := rget (rcount m st) (rcounted m st)
def rtexted (m : Int) (st : Option (List UInt8)) : Option (List UInt8) := rgot (rcount m st) (rcounted m st)
end Go.Proofs.YthgfmoogagldmaaGreat.Codec
