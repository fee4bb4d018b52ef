/- A Writer that the call itself made: what Small, Text and Num do to it. -/
import Derived.Test.YthgfmoogagldmaaGreatCodecB
set_option linter.unusedVariables false
namespace Go.Proofs.YthgfmoogagldmaaGreat.Codec
open Go.RowKit

def WI (w0 w : World) (p N : Nat) (l : List UInt8) : Prop :=
  ∃ v n, n ≤ N ∧ Wr w p v n l ∧ Only [] w0 w ∧ w0.heap.size ≤ p ∧ ∀ g ∈ ownL v, w0.heap.size ≤ g
section
variable {w0 w w' : World} {p N : Nat} {l : List UInt8}
theorem WI.only0 (h : WI w0 w p N l) : Only [] w0 w := by obtain ⟨v, n, _, _, h, _⟩ := h; exact h
theorem WI.only (h : WI w0 w p N l) (ho : Only [] w w') : WI w0 w' p N l := by
  obtain ⟨v, n, hn, hw, h0, hp, hv⟩ := h
  exact ⟨v, n, hn, hw.only ho (by simp) (by simp), h0.trans ho (by simp), hp, hv⟩
theorem WI.from (h : WI w w' p N l) (ho : Only [] w0 w) : WI w0 w' p N l := by
  obtain ⟨v, n, hn, hw, h0, hp, hv⟩ := h
  exact ⟨v, n, hn, hw, ho.trans h0 (by simp), Nat.le_trans ho.size hp, fun g hg => Nat.le_trans ho.size (hv g hg)⟩
theorem WI.lt (h : WI w0 w p N l) : w0.heap.size ≤ p ∧ p < w.heap.size := by obtain ⟨v, n, _, hw, _, hp, _⟩ := h; exact ⟨hp, hw.blk.lt⟩
theorem WI.drew (h : WI w0 w p N l) : WI w0 w.drew p N l := h.only ((Only.refl [] w).drew)
theorem WI.alloc (h : WI w0 w p N l) (o : Obj) : WI w0 (w.alloc o) p N l := h.only ((Only.refl [] w).alloc o)
theorem WI.mono {N' : Nat} (h : WI w0 w p N l) (hN : N ≤ N') : WI w0 w p N' l := by
  obtain ⟨v, n, hn, h⟩ := h
  exact ⟨v, n, by omega, h⟩
theorem WI.new (w : World) : WI w (w.alloc (.cells #[.slice none 0 0] 151)) w.heap.size 0 [] :=
  ⟨.slice none 0 0, 0, Nat.le_refl _, ⟨Blk.new _ _ _, OwnB.nil_ _ _⟩, (Only.refl [] w).alloc _, Nat.le_refl _, fun g hg => by cases hg⟩
theorem WI.far {g : Nat} (h : WI w0 w p N l) (hg : w.heap.size ≤ g) : ∀ k ∈ blkOf (some ⟨g, 0, none⟩), k ≠ p := by
  intro k hk
  have := h.lt
  simp [blkOf] at hk
  omega
theorem wi_turned {v v' : Value} {n' : Nat} {l' : List UInt8} (h0 : Only [] w0 w) (hp : w0.heap.size ≤ p) (hv : ∀ g ∈ ownL v, w0.heap.size ≤ g) (hw : Wr w' p v' n' l') (hN : n' ≤ N) (ht : Turned w w' p v v') : WI w0 w' p N l' := by
  refine ⟨v', n', hN, hw, h0.trans ht.only ?_, hp, fun g hg => ?_⟩
  · intro g hg
    rcases List.mem_cons.1 hg with rfl | hg
    · exact .inr hp
    · exact .inr (hv g hg)
  · rcases ht.fresh g hg with h1 | h1
    · exact hv g h1
    · exact Nat.le_trans h0.size h1
theorem small_in (h : WI w0 w p N l) (zs : List Int) (C : Array Value) (e : TypeId) (fr : Nat × Nat) (m c g : Nat) (hm : zs.length = m) (hg : w.heap.size = g) (hC : C.toList = zs.map (.int .i64)) (hN : N + 2 * m ≤ 140737488355328) :
    Calls Tryz.prog 140 #[.pointer (some ⟨p, 0, none⟩), .slice (some ⟨g, 0, none⟩) m c] (w.alloc (.cells C e fr)) fun e w' => e = .returned (.tuple #[]) ∧ WI w0 w' p (N + 2 * m) (l ++ smalls zs) := by
  subst hm; subst hg
  obtain ⟨v, n, hn, hw, h0, hp, hv⟩ := h
  have hr := Reads.const w (zs.map (Value.int .i64)) C e fr hC
  rw [List.length_map] at hr
  refine (small_any p n v l _ _ c _ zs _ (hw.only ((Only.refl [] w).alloc _) (by simp) (by simp)) rfl hr ?_ (by omega)).mono ?_
  · intro k hk hm
    simp [blkOf] at hk
    subst hk
    rcases List.mem_cons.1 hm with e | e
    · have := hw.blk.lt; omega
    · have := hw.own.lt _ e; omega
  · rintro x w' ⟨rfl, v', hw', ht⟩
    exact ⟨rfl, wi_turned (h0.alloc _) hp hv hw' (by omega) ht⟩
theorem num_in (h : WI w0 w p N l) (zs : List Int) (C : Array Value) (e : TypeId) (fr : Nat × Nat) (m c g : Nat) (hm : zs.length = m) (hg : w.heap.size = g) (hC : C.toList = zs.map (.int .i64)) (hN : N + 8 * m ≤ 140737488355328) :
    Calls Tryz.prog 92 #[.pointer (some ⟨p, 0, none⟩), .slice (some ⟨g, 0, none⟩) m c] (w.alloc (.cells C e fr)) fun e w' => e = .returned (.tuple #[]) ∧ WI w0 w' p (N + 8 * m) (l ++ nums zs) := by
  subst hm; subst hg
  obtain ⟨v, n, hn, hw, h0, hp, hv⟩ := h
  have hr := Reads.const w (zs.map (Value.int .i64)) C e fr hC
  rw [List.length_map] at hr
  refine (num_any p n v l _ _ c _ zs _ (hw.only ((Only.refl [] w).alloc _) (by simp) (by simp)) rfl hr ?_ (by omega)).mono ?_
  · intro k hk hm
    simp [blkOf] at hk
    subst hk
    rcases List.mem_cons.1 hm with e | e
    · have := hw.blk.lt; omega
    · have := hw.own.lt _ e; omega
  · rintro x w' ⟨rfl, v', hw', ht⟩
    exact ⟨rfl, wi_turned (h0.alloc _) hp hv hw' (by omega) ht⟩
end
end Go.Proofs.YthgfmoogagldmaaGreat.Codec
