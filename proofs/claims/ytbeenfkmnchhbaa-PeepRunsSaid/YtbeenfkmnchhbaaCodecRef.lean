/- The walks of the reference of layer 3: bytes laid, bytes read. -/
import Derived.Test.YtbeenfkmnchhbaaCodecR
namespace Go.Proofs.Ytbeenfkmnchhbaa.Codec
open Go.RowKit
set_option linter.unusedVariables false

theorem ref_num (v : Value) (n base : Nat) (l : List UInt8) (z : Int) (w : World) (h : OwnB w base v n l) (hb : base ≤ w.heap.size) (hn : n + 8 ≤ 140737488355328) :
    Calls Try.prog 114 #[v, .int .i64 z] w fun e w' => ∃ v', e = .returned v' ∧ Ext w w' base v v' (n + 8) (l ++ le (u64 z) 8) := by
  have hu := u64_wrap z
  generalize u64 z = x at *
  go_enter Try.func114, Try.ntmps114
  go_wp2_with fail
  go_loopw [0, 5] (fun b i wr => ∃ k : Nat, k ≤ 8 ∧ i = .int .i64 k ∧ Ext w wr base v b (n + k) (l ++ le x k)) (fun _ i _ => 8 - (intOf i).toNat)
  case atStart => exact ⟨0, by omega, rfl, by simpa [le] using Ext.refl h⟩
  case round =>
    rename_i b _ _
    obtain ⟨k, hk, rfl, he⟩ := hrel
    by_cases hlt : k < 8
    · have e1 : IntKind.i64.wrap (8 * (k : Int)) = 8 * (k : Int) := IntWalk.i64_in _ (by omega)
      have e2 : (0 : Int) ≤ 8 * (k : Int) := by omega
      have e3 : (8 * (k : Int)).toNat = 8 * k := by omega
      have e4 : min (8 * k) 64 = 8 * k := Nat.min_eq_left (by omega)
      have e5 := byteAt_wrap x k
      have HLE := Lib.hid (le_succ x k)
      generalize byteAt x k = c at *
      have hB := Bytes.const wr [c] #[.int .u8 (c.toNat : Int)] 5 (0, 0) rfl
      have hO := he.own.alloc (.cells #[.int .u8 (c.toNat : Int)] 5)
      have hsz := he.only.size
      go_wp2_with (at_builtin; refine wpList_append_bytes rfl (.tmp 10) (.tmp 17) rfl rfl hO rfl hB (by show n + k + 1 ≤ _; omega) (by simp; omega) ?_; intro v2 w2 ho2 hon2 hfr2)
      go_roundw
      case rel => exact ⟨k + 1, by omega, by go_num, by rw [HLE.out, ← List.append_assoc]; exact he.trans (Ext.after ((Only.refl [] wr).alloc _) ⟨ho2, hon2, hfr2⟩)⟩
      case measure => simp [intOf]; omega
    · go_wp2_with fail
      obtain rfl : k = 8 := by omega
      go_ret
      exact ⟨_, rfl, he⟩

theorem le_two (x : Nat) : le x 2 = [byteAt x 0, byteAt x 1] := rfl
theorem byte0 (x : Nat) : IntKind.u8.wrap (x : Int) = ((byteAt x 0).toNat : Int) := by
  have := byteAt_wrap x 0
  simpa using this
theorem byte1 (x : Nat) : IntKind.u8.wrap ((x : Int) / 256) = ((byteAt x 1).toNat : Int) := by
  have := byteAt_wrap x 1
  simpa using this
theorem ref_small_in (v : Value) (n base x : Nat) (l : List UInt8) (z : Int) (w : World) (h : OwnB w base v n l) (hb : base ≤ w.heap.size) (hn : n + 2 ≤ 140737488355328)
    (hz : (z < 0 ∧ x = 0) ∨ (0 ≤ z ∧ z ≤ 65535 ∧ z = (x : Int)) ∨ (65535 < z ∧ x = 65535)) :
    Calls Try.prog 113 #[v, .int .i64 z] w fun e w' => ∃ v', e = .returned v' ∧ Ext w w' base v v' (n + 2) (l ++ le x 2) := by
  have fin : ∀ (c d : UInt8) (v2 : Value) (w2 : World), OwnB w2 base v2 (n + 2) (l ++ [c, d]) → Only (ownL v) (w.alloc (.cells #[.int .u8 (c.toNat : Int), .int .u8 (d.toNat : Int)] 5)) w2 → Fresh (w.alloc (.cells #[.int .u8 (c.toNat : Int), .int .u8 (d.toNat : Int)] 5)) v v2 → Ext w w2 base v v2 (n + 2) (l ++ [c, d]) :=
    fun c d v2 w2 h1 h2 h3 => Ext.after ((Only.refl [] w).alloc _) ⟨h1, h2, h3⟩
  rw [le_two]
  rcases hz with ⟨hz0, rfl⟩ | ⟨hz0, hz1, rfl⟩ | ⟨hz1, rfl⟩
  · have e0 : byteAt 0 0 = 0 := rfl
    have e1 : byteAt 0 1 = 0 := rfl
    rw [e0, e1]
    have hB := Bytes.const w [0, 0] #[.int .u8 0, .int .u8 0] 5 (0, 0) rfl
    have hO := h.alloc (.cells #[.int .u8 0, .int .u8 0] 5)
    go_enter Try.func113, Try.ntmps113
    go_wp2_with (at_builtin; refine wpList_append_bytes rfl (.tmp 8) (.tmp 14) rfl rfl hO rfl hB (by show n + 2 ≤ _; omega) (by simp; omega) ?_; intro v2 w2 ho2 hon2 hfr2)
    go_ret
    exact ⟨_, rfl, fin 0 0 _ _ ho2 hon2 hfr2⟩
  · have e0 := byte0 x
    have e1 := byte1 x
    generalize byteAt x 0 = c at *
    generalize byteAt x 1 = d at *
    have hB := Bytes.const w [c, d] #[.int .u8 (c.toNat : Int), .int .u8 (d.toNat : Int)] 5 (0, 0) rfl
    have hO := h.alloc (.cells #[.int .u8 (c.toNat : Int), .int .u8 (d.toNat : Int)] 5)
    go_enter Try.func113, Try.ntmps113
    go_wp2_with (at_builtin; refine wpList_append_bytes rfl (.tmp 8) (.tmp 14) rfl rfl hO rfl hB (by show n + 2 ≤ _; omega) (by simp; omega) ?_; intro v2 w2 ho2 hon2 hfr2)
    go_ret
    exact ⟨_, rfl, fin c d _ _ ho2 hon2 hfr2⟩
  · have hz0 : 0 ≤ z := by omega
    have e0 : byteAt 65535 0 = 255 := by decide
    have e1 : byteAt 65535 1 = 255 := by decide
    rw [e0, e1]
    have hB := Bytes.const w [255, 255] #[.int .u8 255, .int .u8 255] 5 (0, 0) rfl
    have hO := h.alloc (.cells #[.int .u8 255, .int .u8 255] 5)
    go_enter Try.func113, Try.ntmps113
    go_wp2_with (at_builtin; refine wpList_append_bytes rfl (.tmp 8) (.tmp 14) rfl rfl hO rfl hB (by show n + 2 ≤ _; omega) (by simp; omega) ?_; intro v2 w2 ho2 hon2 hfr2)
    go_ret
    exact ⟨_, rfl, fin 255 255 _ _ ho2 hon2 hfr2⟩
theorem ref_small (v : Value) (n base : Nat) (l : List UInt8) (z : Int) (w : World) (h : OwnB w base v n l) (hb : base ≤ w.heap.size) (hn : n + 2 ≤ 140737488355328) :
    Calls Try.prog 113 #[v, .int .i64 z] w fun e w' => ∃ v', e = .returned v' ∧ Ext w w' base v v' (n + 2) (l ++ le (clamp z) 2) :=
  ref_small_in v n base (clamp z) l z w h hb hn (by have := clamp_eq z; omega)

theorem ref_text (v : Value) (n base : Nat) (l : List UInt8) (s : ByteArray) (w : World) (h : OwnB w base v n l) (hb : base ≤ w.heap.size) (hs : s.size ≤ maxLen) (hn : n + 65537 ≤ 140737488355328) :
    Calls Try.prog 120 #[v, .string s] w fun e w' => ∃ v', e = .returned v' ∧ Ext w w' base v v' (n + (text s).length) (l ++ text s) := by
  unfold maxLen at hs
  have HT := Lib.hid (text_len s)
  by_cases hs1 : s.size ≤ 65535
  · have htx : Hid (text s = le (clamp (s.size : Int)) 2 ++ s.data.toList) := by
      unfold Hid text clamp
      rw [List.take_of_length_le (by rw [Array.length_toList]; exact hs1), show min s.size 65535 = (min (max (s.size : Int) 0) 65535).toNat by omega]
    have hln : Hid (n + (text s).length = n + 2 + s.size) := by unfold Hid; rw [HT.out]; omega
    go_enter Try.func120, Try.ntmps120
    go_wp2_with fail
    refine (ref_small v n base l _ w h hb (by omega)).mono ?_
    rintro e w1 ⟨v1, rfl, he⟩
    have hsz := he.only.size
    go_wp2_with (at_builtin; refine wpList_append_str rfl (.tmp 13) (.tmp 14) rfl rfl he.own rfl (by omega) (by omega) ?_; intro v2 w2 ho2 hon2 hfr2)
    go_ret
    refine ⟨_, rfl, ?_⟩
    rw [hln.out, htx.out, ← List.append_assoc]
    exact he.trans ⟨ho2, hon2, hfr2⟩
  · have hmin : min 65535 s.size = 65535 := by omega
    have htx : Hid (text s = le (clamp 65535) 2 ++ (s.extract 0 65535).data.toList) := by
      unfold Hid text clamp
      rw [show min s.size 65535 = 65535 by omega]
      rw [show (min (max (65535 : Int) 0) 65535).toNat = 65535 by decide]
      simp
    have hts : Hid ((s.extract 0 65535).size = 65535) := by unfold Hid; simp [ByteArray.size_extract]; omega
    have hln : Hid (n + (text s).length = n + 2 + (s.extract 0 65535).size) := by unfold Hid; rw [HT.out, hts.out]; omega
    have hbig : 65535 < s.size := by omega
    go_enter Try.func120, Try.ntmps120
    go_wp2_with fail
    refine (ref_small v n base l _ w h hb (by omega)).mono ?_
    rintro e w1 ⟨v1, rfl, he⟩
    have hsz := he.only.size
    go_wp2_with (at_builtin; refine wpList_append_str rfl (.tmp 13) (.tmp 14) rfl rfl he.own rfl (by have := hts.out; omega) (by omega) ?_; intro v2 w2 ho2 hon2 hfr2)
    go_ret
    refine ⟨_, rfl, ?_⟩
    rw [hln.out, htx.out, ← List.append_assoc]
    exact he.trans ⟨ho2, hon2, hfr2⟩
end Go.Proofs.Ytbeenfkmnchhbaa.Codec
