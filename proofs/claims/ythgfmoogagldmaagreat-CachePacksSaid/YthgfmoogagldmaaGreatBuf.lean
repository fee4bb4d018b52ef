/- Bytes of the call's own, by the document's Num, Small and Text. -/
import Derived.Test.YthgfmoogagldmaaGreatCodecRef
namespace Go.Proofs.YthgfmoogagldmaaGreat.Codec
open Go.RowKit
set_option linter.unusedVariables false
/-- v owns the bytes l (at most N), in a row made since world w0 -/
def BI (w0 w : World) (v : Value) (N : Nat) (l : List UInt8) : Prop := ∃ n, n ≤ N ∧ OwnB w w0.heap.size v n l ∧ Only [] w0 w
section
variable {w0 w w' : World} {v : Value} {N : Nat} {l : List UInt8}
theorem BI.only0 (h : BI w0 w v N l) : Only [] w0 w := by obtain ⟨n, _, _, h⟩ := h; exact h
theorem BI.only (h : BI w0 w v N l) (ho : Only [] w w') : BI w0 w' v N l := by
  obtain ⟨n, hn, ho', h0⟩ := h
  exact ⟨n, hn, ho'.only ho (by simp), h0.trans ho (by simp)⟩
theorem BI.drew (h : BI w0 w v N l) : BI w0 w.drew v N l := h.only ((Only.refl [] w).drew)
theorem BI.alloc (h : BI w0 w v N l) (o : Obj) : BI w0 (w.alloc o) v N l := h.only ((Only.refl [] w).alloc o)
theorem BI.mono {N' : Nat} (h : BI w0 w v N l) (hN : N ≤ N') : BI w0 w v N' l := by
  obtain ⟨n, hn, h⟩ := h
  exact ⟨n, by omega, h⟩
theorem BI.nil_ (w : World) : BI w w (.slice none 0 0) 0 [] := ⟨0, Nat.le_refl _, OwnB.nil_ _ _, Only.refl _ _⟩
theorem BI.from {wa : World} (h : BI wa w v N l) (ho : Only [] w0 wa) : BI w0 w v N l := by
  obtain ⟨n, hn, h1, h2⟩ := h
  exact ⟨n, hn, h1.mono ho.size, ho.trans h2 (by simp)⟩
theorem BI.of_own {n : Nat} (h : OwnB w w0.heap.size v n l) (ho : Only [] w0 w) : BI w0 w v n l := ⟨n, Nat.le_refl _, h, ho⟩
theorem BI.len (h : BI w0 w v N l) : l.length ≤ N := by obtain ⟨n, hn, h1, _⟩ := h; rw [h1.len]; exact hn
theorem BI.shape (h : BI w0 w v N l) : ∃ A cap, v = .slice A l.length cap ∧ l.length ≤ cap ∧ cap ≤ maxLen ∧ Bytes w w.heap.size A l.length l := by
  obtain ⟨n, hn, h1, _⟩ := h
  obtain ⟨A, cap, hv, hc, hm, hr, _⟩ := h1.shape
  obtain rfl := h1.len
  exact ⟨A, cap, hv, hc, hm, hr⟩
theorem bi_ext {v' : Value} {n n' : Nat} {l' : List UInt8} (h1 : OwnB w w0.heap.size v n l) (h2 : Only [] w0 w) (hE : Ext w w' w0.heap.size v v' n' l') (hn : n' ≤ N) : BI w0 w' v' N l' :=
  ⟨n', hn, hE.own, h2.trans hE.only (fun g hg => .inr (h1.lt g hg).1)⟩
theorem small_bi (h : BI w0 w v N l) (z : Int) (hN : N + 2 ≤ 140737488355328) :
    Calls Tryz.prog 146 #[v, .int .i64 z] w fun e w' => ∃ v', e = .returned v' ∧ BI w0 w' v' (N + 2) (l ++ le (clamp z) 2) := by
  obtain ⟨n, hn, h1, h2⟩ := h
  refine (ref_small v n _ l z w h1 h2.size (by omega)).mono ?_
  rintro e w' ⟨v', rfl, hE⟩
  exact ⟨v', rfl, bi_ext h1 h2 hE (by omega)⟩
theorem num_bi (h : BI w0 w v N l) (z : Int) (hN : N + 8 ≤ 140737488355328) :
    Calls Tryz.prog 94 #[v, .int .i64 z] w fun e w' => ∃ v', e = .returned v' ∧ BI w0 w' v' (N + 8) (l ++ le (u64 z) 8) := by
  obtain ⟨n, hn, h1, h2⟩ := h
  refine (ref_num v n _ l z w h1 h2.size (by omega)).mono ?_
  rintro e w' ⟨v', rfl, hE⟩
  exact ⟨v', rfl, bi_ext h1 h2 hE (by omega)⟩
end
end Go.Proofs.YthgfmoogagldmaaGreat.Codec
