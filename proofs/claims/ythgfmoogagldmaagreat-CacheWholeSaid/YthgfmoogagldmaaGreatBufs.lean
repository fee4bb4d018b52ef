/- Bufs: The first append onto the bytes of a constant: there is no room, so a new row is made; Bytes of the call's own, by the document's Num, Small and Text. -/
import Derived.Test.YthgfmoogagldmaaGreatCodecA
import Derived.ArgAppend
import Derived.Lib.SlBytesConst
set_option linter.unusedVariables false
set_option maxRecDepth 100000
namespace Go.Proofs.YthgfmoogagldmaaGreat
open Go.RowKit
theorem run_append_bytes_grow {w : World} {g n : Nat} {l : List UInt8} {B0 : Nat} (hn : 0 < n) (h0 : Bytes w B0 (some ⟨g, 0, none⟩) n l) {B : Nat} {A : Option Addr} {m : Nat} (c : Nat) {l' : List UInt8} (hm : 0 < m) (hr : Bytes w B A m l') (hbytes : n + m ≤ 140737488355328) (ty : TypeId) :
    ∃ v' w', (Builtin.append_ #[35, 35] ty #[.slice (some ⟨g, 0, none⟩) n n, .slice A m c]).run Tryz.prog w = .ok v' w' ∧ OwnB w' w.heap.size v' (n + m) (l ++ l') ∧ Only [] w w' := by
  obtain ⟨i0, hi0, hz0, hz1, hz2⟩ := info_parts byte_info
  obtain ⟨ad, rfl, _, hc⟩ := hr.2.2 hm
  obtain ⟨ad0, e0, _, hc0⟩ := h0.2.2 hn
  injection e0 with e0
  subst e0
  obtain ⟨v', w', h1, h2, h3⟩ := run_append_arg_grows (P := Tryz.prog) (w := w) 35 ty 5 i0 _ 1 1 Tryz.underlying35 hi0 hz0 hz1 hz2 rfl (by omega) ⟨g, 0, none⟩ n n (l.map B8) (by have := h0.len; simp [this]) hc0 ad m c (l'.map B8) (by have := hr.len; simp [this]) hc
    (by omega) (by simp only [maxLen]; omega) (by omega)
  refine ⟨v', w', h1, ?_, Only.of_grown h3⟩
  unfold OwnB
  rw [List.map_append]
  exact h2
section
variable {w : World} {ops : Array Oper} {rest : List Oper} {o : Oper} {a : Act} {Q : Exit → Act → World → Prop}
theorem wpList_append_bytes_grow (hgd : o.guard = none) (s x : Operand) (ho : o.op = .call { callee := .builtin .append, args := #[s, x], argTypes := #[35, 35] })
    {g n : Nat} {l : List UInt8} {B0 : Nat} (hs : a.eval s = .slice (some ⟨g, 0, none⟩) n n) (hn : 0 < n) (h0 : Bytes w B0 (some ⟨g, 0, none⟩) n l)
    {B : Nat} {A : Option Addr} {m c : Nat} {l' : List UInt8} (hx : a.eval x = .slice A m c) (hm : 0 < m) (hr : Bytes w B A m l')
    (hbytes : n + m ≤ 140737488355328)
    (h : ∀ v' w', OwnB w' w.heap.size v' (n + m) (l ++ l') → Only [] w w' → wpList Tryz.prog ops Q rest (a.put o.dst v') w') : wpList Tryz.prog ops Q (o :: rest) a w := by
  obtain ⟨v', w', h1, h2, h3⟩ := run_append_bytes_grow hn h0 c hm hr hbytes o.type
  exact wpList_plain hgd fun _ hK => wp_append_run s x _ _ ho hs hx h1 (hK _ _ (h v' w' h2 h3))
end
namespace Codec
end Codec
end Go.Proofs.YthgfmoogagldmaaGreat
namespace Go.Proofs.YthgfmoogagldmaaGreat.Codec
open Go.RowKit
def BI (w0 w : World) (v : Value) (N : Nat) (l : List UInt8) : Prop := ∃ n, n ≤ N ∧ OwnB w w0.heap.size v n l ∧ Only [] w0 w
section
variable {w0 w w' : World} {v : Value} {N : Nat} {l : List UInt8}
theorem BI.only0 (h : BI w0 w v N l) : Only [] w0 w := by obtain ⟨n, _, _, h⟩ := h; exact h
theorem BI.only (h : BI w0 w v N l) (ho : Only [] w w') : BI w0 w' v N l := by
  obtain ⟨n, hn, ho', h0⟩ := h
  exact ⟨n, hn, ho'.only ho (by simp), h0.trans ho (by simp)⟩
theorem BI.drew (h : BI w0 w v N l) : BI w0 w.drew v N l := h.only ((Only.refl [] w).drew)
theorem BI.alloc (h : BI w0 w v N l) (o : Obj) : BI w0 (w.alloc o) v N l := h.only ((Only.refl [] w).alloc o)
theorem BI.mono {N' : Nat} (h : BI w0 w v N l) (hN : N ≤ N') : BI w0 w v N' l := by
  obtain ⟨n, hn, h⟩ := h
  exact ⟨n, by omega, h⟩
theorem BI.nil_ (w : World) : BI w w (.slice none 0 0) 0 [] := ⟨0, Nat.le_refl _, OwnB.nil_ _ _, Only.refl _ _⟩
theorem BI.from {wa : World} (h : BI wa w v N l) (ho : Only [] w0 wa) : BI w0 w v N l := by
  obtain ⟨n, hn, h1, h2⟩ := h
  exact ⟨n, hn, h1.mono ho.size, ho.trans h2 (by simp)⟩
theorem BI.of_own {n : Nat} (h : OwnB w w0.heap.size v n l) (ho : Only [] w0 w) : BI w0 w v n l := ⟨n, Nat.le_refl _, h, ho⟩
theorem BI.len (h : BI w0 w v N l) : l.length ≤ N := by obtain ⟨n, hn, h1, _⟩ := h; rw [h1.len]; exact hn
theorem BI.shape (h : BI w0 w v N l) : ∃ A cap, v = .slice A l.length cap ∧ l.length ≤ cap ∧ cap ≤ maxLen ∧ Bytes w w.heap.size A l.length l := by
  obtain ⟨n, hn, h1, _⟩ := h
  obtain ⟨A, cap, hv, hc, hm, hr, _⟩ := h1.shape
  obtain rfl := h1.len
  exact ⟨A, cap, hv, hc, hm, hr⟩
end
end Go.Proofs.YthgfmoogagldmaaGreat.Codec
