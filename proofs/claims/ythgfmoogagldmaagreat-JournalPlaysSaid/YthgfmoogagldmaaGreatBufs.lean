/- Bufs: The first append onto the bytes of a constant: there is no room, so a new row is made; Bytes of the call's own, by the document's Num, Small and Text. -/
import Derived.Test.YthgfmoogagldmaaGreatCodecA
import Derived.ArgAppend
import Derived.Lib.SlBytesConst
set_option linter.unusedVariables false
set_option maxRecDepth 100000
namespace Go.Proofs.YthgfmoogagldmaaGreat
open Go.RowKit
theorem run_append_bytes_grow {w : World} {g n : Nat} {l : List UInt8} {B0 : Nat} (hn : 0 < n) (h0 : Bytes w B0 (some ⟨g, 0, none⟩) n l) {B : Nat} {A : Option Addr} {m : Nat} (c : Nat) {l' : List UInt8} (hm : 0 < m) (hr : Bytes w B A m l') (hbytes : n + m ≤ 140737488355328) (ty : TypeId) :
    ∃ v' w', (Builtin.append_ #[35, 35] ty #[.slice (some ⟨g, 0, none⟩) n n, .slice A m c]).run Tryz.prog w = .ok v' w' ∧ OwnB w' w.heap.size v' (n + m) (l ++ l') ∧ Only [] w w' := by
  obtain ⟨i0, hi0, hz0, hz1, hz2⟩ := info_parts byte_info
  obtain ⟨ad, rfl, _, hc⟩ := hr.2.2 hm
  obtain ⟨ad0, e0, _, hc0⟩ := h0.2.2 hn
  injection e0 with e0
  subst e0
  obtain ⟨v', w', h1, h2, h3⟩ := run_append_arg_grows (P := Tryz.prog) (w := w) 35 ty 5 i0 _ 1 1 Tryz.underlying35 hi0 hz0 hz1 hz2 rfl (by omega) ⟨g, 0, none⟩ n n (l.map B8) (by have := h0.len; simp [this]) hc0 ad m c (l'.map B8) (by have := hr.len; simp [this]) hc
    (by omega) (by simp only [maxLen]; omega) (by omega)
  refine ⟨v', w', h1, ?_, Only.of_grown h3⟩
  unfold OwnB
  rw [List.map_append]
  exact h2
section
variable {w : World} {ops : Array Oper} {rest : List Oper} {o : Oper} {a : Act} {Q : Exit → Act → World → Prop}
theorem wpList_append_bytes_grow (hgd : o.guard = none) (s x : Operand) (ho : o.op = .call { callee := .builtin .append, args := #[s, x], argTypes := #[35, 35] })
    {g n : Nat} {l : List UInt8} {B0 : Nat} (hs : a.eval s = .slice (some ⟨g, 0, none⟩) n n) (hn : 0 < n) (h0 : Bytes w B0 (some ⟨g, 0, none⟩) n l)
    {B : Nat} {A : Option Addr} {m c : Nat} {l' : List UInt8} (hx : a.eval x = .slice A m c) (hm : 0 < m) (hr : Bytes w B A m l')
    (hbytes : n + m ≤ 140737488355328)
    (h : ∀ v' w', OwnB w' w.heap.size v' (n + m) (l ++ l') → Only [] w w' → wpList Tryz.prog ops Q rest (a.put o.dst v') w') : wpList Tryz.prog ops Q (o :: rest) a w := by
  obtain ⟨v', w', h1, h2, h3⟩ := run_append_bytes_grow hn h0 c hm hr hbytes o.type
  exact wpList_plain hgd fun _ hK => wp_append_run s x _ _ ho hs hx h1 (hK _ _ (h v' w' h2 h3))
end
namespace Codec
theorem ref_small_grow (g n B0 x : Nat) (l : List UInt8) (w : World) (hn0 : 0 < n) (h : Bytes w B0 (some ⟨g, 0, none⟩) n l) (hB0 : B0 ≤ w.heap.size) (hn : n + 2 ≤ 140737488355328) (hx : x ≤ 65535) :
    Calls Tryz.prog 146 #[.slice (some ⟨g, 0, none⟩) n n, .int .i64 (x : Int)] w fun e w' => ∃ v', e = .returned v' ∧ OwnB w' w.heap.size v' (n + 2) (l ++ le x 2) ∧ Only [] w w' := by
  have fin : ∀ (c d : UInt8) (v2 : Value) (w2 : World), OwnB w2 (w.alloc (.cells #[.int .u8 (c.toNat : Int), .int .u8 (d.toNat : Int)] 5)).heap.size v2 (n + 2) (l ++ [c, d]) → Only [] (w.alloc (.cells #[.int .u8 (c.toNat : Int), .int .u8 (d.toNat : Int)] 5)) w2 → OwnB w2 w.heap.size v2 (n + 2) (l ++ [c, d]) ∧ Only [] w w2 :=
    fun c d v2 w2 h1 h2 => ⟨h1.mono (by simp), ((Only.refl [] w).alloc _).trans h2 (by simp)⟩
  rw [le_two]
  have e0 := byte0 x
  have e1 := byte1 x
  generalize byteAt x 0 = c at *
  generalize byteAt x 1 = d at *
  have hB := Bytes.const w [c, d] #[.int .u8 (c.toNat : Int), .int .u8 (d.toNat : Int)] 5 (0, 0) rfl
  have hO := h.alloc hB0 (.cells #[.int .u8 (c.toNat : Int), .int .u8 (d.toNat : Int)] 5)
  go_enter Tryz.func146, Tryz.ntmps146
  go_wp2_with (at_builtin; refine wpList_append_bytes_grow rfl (.tmp 8) (.tmp 14) rfl rfl hn0 hO rfl (by decide) hB (by show n + 2 ≤ _; omega) ?_; intro v2 w2 ho2 hon2)
  go_ret
  exact ⟨_, rfl, fin c d _ _ ho2 hon2⟩
end Codec
end Go.Proofs.YthgfmoogagldmaaGreat
namespace Go.Proofs.YthgfmoogagldmaaGreat.Codec
open Go.RowKit
def BI (w0 w : World) (v : Value) (N : Nat) (l : List UInt8) : Prop := ∃ n, n ≤ N ∧ OwnB w w0.heap.size v n l ∧ Only [] w0 w
section
variable {w0 w w' : World} {v : Value} {N : Nat} {l : List UInt8}
theorem BI.only0 (h : BI w0 w v N l) : Only [] w0 w := by obtain ⟨n, _, _, h⟩ := h; exact h
theorem BI.only (h : BI w0 w v N l) (ho : Only [] w w') : BI w0 w' v N l := by
  obtain ⟨n, hn, ho', h0⟩ := h
  exact ⟨n, hn, ho'.only ho (by simp), h0.trans ho (by simp)⟩
theorem BI.drew (h : BI w0 w v N l) : BI w0 w.drew v N l := h.only ((Only.refl [] w).drew)
theorem BI.alloc (h : BI w0 w v N l) (o : Obj) : BI w0 (w.alloc o) v N l := h.only ((Only.refl [] w).alloc o)
theorem BI.mono {N' : Nat} (h : BI w0 w v N l) (hN : N ≤ N') : BI w0 w v N' l := by
  obtain ⟨n, hn, h⟩ := h
  exact ⟨n, by omega, h⟩
theorem BI.nil_ (w : World) : BI w w (.slice none 0 0) 0 [] := ⟨0, Nat.le_refl _, OwnB.nil_ _ _, Only.refl _ _⟩
theorem BI.from {wa : World} (h : BI wa w v N l) (ho : Only [] w0 wa) : BI w0 w v N l := by
  obtain ⟨n, hn, h1, h2⟩ := h
  exact ⟨n, hn, h1.mono ho.size, ho.trans h2 (by simp)⟩
theorem BI.of_own {n : Nat} (h : OwnB w w0.heap.size v n l) (ho : Only [] w0 w) : BI w0 w v n l := ⟨n, Nat.le_refl _, h, ho⟩
theorem BI.len (h : BI w0 w v N l) : l.length ≤ N := by obtain ⟨n, hn, h1, _⟩ := h; rw [h1.len]; exact hn
theorem BI.shape (h : BI w0 w v N l) : ∃ A cap, v = .slice A l.length cap ∧ l.length ≤ cap ∧ cap ≤ maxLen ∧ Bytes w w.heap.size A l.length l := by
  obtain ⟨n, hn, h1, _⟩ := h
  obtain ⟨A, cap, hv, hc, hm, hr, _⟩ := h1.shape
  obtain rfl := h1.len
  exact ⟨A, cap, hv, hc, hm, hr⟩
theorem bi_ext {v' : Value} {n n' : Nat} {l' : List UInt8} (h1 : OwnB w w0.heap.size v n l) (h2 : Only [] w0 w) (hE : Ext w w' w0.heap.size v v' n' l') (hn : n' ≤ N) : BI w0 w' v' N l' :=
  ⟨n', hn, hE.own, h2.trans hE.only (fun g hg => .inr (h1.lt g hg).1)⟩
theorem num_bi (h : BI w0 w v N l) (z : Int) (hN : N + 8 ≤ 140737488355328) :
    Calls Tryz.prog 94 #[v, .int .i64 z] w fun e w' => ∃ v', e = .returned v' ∧ BI w0 w' v' (N + 8) (l ++ le (u64 z) 8) := by
  obtain ⟨n, hn, h1, h2⟩ := h
  refine (ref_num v n _ l z w h1 h2.size (by omega)).mono ?_
  rintro e w' ⟨v', rfl, hE⟩
  exact ⟨v', rfl, bi_ext h1 h2 hE (by omega)⟩
end
end Go.Proofs.YthgfmoogagldmaaGreat.Codec
