/- The walks of the reference of layer 3: bytes laid, bytes read. -/
import Derived.Test.YthgfmoogagldmaaGreatCodecR
namespace Go.Proofs.YthgfmoogagldmaaGreat.Codec
open Go.RowKit
set_option linter.unusedVariables false

theorem ref_num (v : Value) (n base : Nat) (l : List UInt8) (z : Int) (w : World) (h : OwnB w base v n l) (hb : base ≤ w.heap.size) (hn : n + 8 ≤ 140737488355328) :
    Calls Tryz.prog 94 #[v, .int .i64 z] w fun e w' => ∃ v', e = .returned v' ∧ Ext w w' base v v' (n + 8) (l ++ le (u64 z) 8) := by
  have hu := u64_wrap z
  generalize u64 z = x at *
  go_enter Tryz.func94, Tryz.ntmps94
  go_wp2_with fail
  go_loopw [0, 5] (fun b i wr => ∃ k : Nat, k ≤ 8 ∧ i = .int .i64 k ∧ Ext w wr base v b (n + k) (l ++ le x k)) (fun _ i _ => 8 - (intOf i).toNat)
  case atStart => exact ⟨0, by omega, rfl, by simpa [le] using Ext.refl h⟩
  case round =>
    rename_i b _ _
    obtain ⟨k, hk, rfl, he⟩ := hrel
    by_cases hlt : k < 8
    · have e1 : IntKind.i64.wrap (8 * (k : Int)) = 8 * (k : Int) := IntWalk.i64_in _ (by omega)
      have e2 : (0 : Int) ≤ 8 * (k : Int) := by omega
      have e3 : (8 * (k : Int)).toNat = 8 * k := by omega
      have e4 : min (8 * k) 64 = 8 * k := Nat.min_eq_left (by omega)
      have e5 := byteAt_wrap x k
      have HLE := Lib.hid (le_succ x k)
      generalize byteAt x k = c at *
      have hB := Bytes.const wr [c] #[.int .u8 (c.toNat : Int)] 5 (0, 0) rfl
      have hO := he.own.alloc (.cells #[.int .u8 (c.toNat : Int)] 5)
      have hsz := he.only.size
      go_wp2_with (at_builtin; refine wpList_append_bytes rfl (.tmp 10) (.tmp 17) rfl rfl hO rfl hB (by show n + k + 1 ≤ _; omega) (by simp; omega) ?_; intro v2 w2 ho2 hon2 hfr2)
      go_roundw
      case rel => exact ⟨k + 1, by omega, by go_num, by rw [HLE.out, ← List.append_assoc]; exact he.trans (Ext.after ((Only.refl [] wr).alloc _) ⟨ho2, hon2, hfr2⟩)⟩
      case measure => simp [intOf]; omega
    · go_wp2_with fail
      obtain rfl : k = 8 := by omega
      go_ret
      exact ⟨_, rfl, he⟩

theorem le_two (x : Nat) : le x 2 = [byteAt x 0, byteAt x 1] := rfl
theorem byte0 (x : Nat) : IntKind.u8.wrap (x : Int) = ((byteAt x 0).toNat : Int) := by
  have := byteAt_wrap x 0
  simpa using this
theorem byte1 (x : Nat) : IntKind.u8.wrap ((x : Int) / 256) = ((byteAt x 1).toNat : Int) := by
  have := byteAt_wrap x 1
  simpa using this
theorem ref_small_in (v : Value) (n base x : Nat) (l : List UInt8) (z : Int) (w : World) (h : OwnB w base v n l) (hb : base ≤ w.heap.size) (hn : n + 2 ≤ 140737488355328)
    (hz : (z < 0 ∧ x = 0) ∨ (0 ≤ z ∧ z ≤ 65535 ∧ z = (x : Int)) ∨ (65535 < z ∧ x = 65535)) :
    Calls Tryz.prog 146 #[v, .int .i64 z] w fun e w' => ∃ v', e = .returned v' ∧ Ext w w' base v v' (n + 2) (l ++ le x 2) := by
  have fin : ∀ (c d : UInt8) (v2 : Value) (w2 : World), OwnB w2 base v2 (n + 2) (l ++ [c, d]) → Only (ownL v) (w.alloc (.cells #[.int .u8 (c.toNat : Int), .int .u8 (d.toNat : Int)] 5)) w2 → Fresh (w.alloc (.cells #[.int .u8 (c.toNat : Int), .int .u8 (d.toNat : Int)] 5)) v v2 → Ext w w2 base v v2 (n + 2) (l ++ [c, d]) :=
    fun c d v2 w2 h1 h2 h3 => Ext.after ((Only.refl [] w).alloc _) ⟨h1, h2, h3⟩
  rw [le_two]
  rcases hz with ⟨hz0, rfl⟩ | ⟨hz0, hz1, rfl⟩ | ⟨hz1, rfl⟩
  · have e0 : byteAt 0 0 = 0 := rfl
    have e1 : byteAt 0 1 = 0 := rfl
    rw [e0, e1]
    have hB := Bytes.const w [0, 0] #[.int .u8 0, .int .u8 0] 5 (0, 0) rfl
    have hO := h.alloc (.cells #[.int .u8 0, .int .u8 0] 5)
    go_enter Tryz.func146, Tryz.ntmps146
    go_wp2_with (at_builtin; refine wpList_append_bytes rfl (.tmp 8) (.tmp 14) rfl rfl hO rfl hB (by show n + 2 ≤ _; omega) (by simp; omega) ?_; intro v2 w2 ho2 hon2 hfr2)
    go_ret
    exact ⟨_, rfl, fin 0 0 _ _ ho2 hon2 hfr2⟩
  · have e0 := byte0 x
    have e1 := byte1 x
    generalize byteAt x 0 = c at *
    generalize byteAt x 1 = d at *
    have hB := Bytes.const w [c, d] #[.int .u8 (c.toNat : Int), .int .u8 (d.toNat : Int)] 5 (0, 0) rfl
    have hO := h.alloc (.cells #[.int .u8 (c.toNat : Int), .int .u8 (d.toNat : Int)] 5)
    go_enter Tryz.func146, Tryz.ntmps146
    go_wp2_with (at_builtin; refine wpList_append_bytes rfl (.tmp 8) (.tmp 14) rfl rfl hO rfl hB (by show n + 2 ≤ _; omega) (by simp; omega) ?_; intro v2 w2 ho2 hon2 hfr2)
    go_ret
    exact ⟨_, rfl, fin c d _ _ ho2 hon2 hfr2⟩
  · have hz0 : 0 ≤ z := by omega
    have e0 : byteAt 65535 0 = 255 := by decide
    have e1 : byteAt 65535 1 = 255 := by decide
    rw [e0, e1]
    have hB := Bytes.const w [255, 255] #[.int .u8 255, .int .u8 255] 5 (0, 0) rfl
    have hO := h.alloc (.cells #[.int .u8 255, .int .u8 255] 5)
    go_enter Tryz.func146, Tryz.ntmps146
    go_wp2_with (at_builtin; refine wpList_append_bytes rfl (.tmp 8) (.tmp 14) rfl rfl hO rfl hB (by show n + 2 ≤ _; omega) (by simp; omega) ?_; intro v2 w2 ho2 hon2 hfr2)
    go_ret
    exact ⟨_, rfl, fin 255 255 _ _ ho2 hon2 hfr2⟩
theorem ref_small (v : Value) (n base : Nat) (l : List UInt8) (z : Int) (w : World) (h : OwnB w base v n l) (hb : base ≤ w.heap.size) (hn : n + 2 ≤ 140737488355328) :
    Calls Tryz.prog 146 #[v, .int .i64 z] w fun e w' => ∃ v', e = .returned v' ∧ Ext w w' base v v' (n + 2) (l ++ le (clamp z) 2) :=
  ref_small_in v n base (clamp z) l z w h hb hn (by have := clamp_eq z; omega)

end Go.Proofs.YthgfmoogagldmaaGreat.Codec
