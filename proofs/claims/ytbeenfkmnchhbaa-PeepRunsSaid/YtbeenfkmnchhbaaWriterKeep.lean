/- A Writer that the call itself made: blocks that are neither its own nor its bytes' stay. -/
import Derived.Test.YtbeenfkmnchhbaaWriter
namespace Go.Proofs.Ytbeenfkmnchhbaa.Codec
open Go.RowKit
set_option linter.unusedVariables false
/-- blocks that are no Writer and no bytes lie as they lay -/
def Kept (w w' : World) : Prop := ∀ g t cs, Blk w g t cs → t ≠ 5 → t ≠ 99 → Blk w' g t cs
section
variable {w0 w w' w'' : World} {p N : Nat} {l : List UInt8}
theorem Kept.refl (w : World) : Kept w w := fun _ _ _ h _ _ => h
theorem Kept.trans (h : Kept w w') (k : Kept w' w'') : Kept w w'' := fun g t cs hb h1 h2 => k g t cs (h g t cs hb h1 h2) h1 h2
theorem Kept.of_only (h : Only [] w w') : Kept w w' := fun g t cs hb _ _ => hb.only h (by simp)
theorem kept_turned {v v' : Value} {n : Nat} (hw : Wr w p v n l) (ht : Turned w w' p v v') : Kept w w' := by
  intro g t cs hb h1 h2
  refine hb.only ht.only ?_
  intro hm
  rcases List.mem_cons.1 hm with rfl | hm
  · exact Blk.ne_ hb hw.blk h2 rfl
  · obtain ⟨_, h0⟩ := hw.own
    rcases h0 with ⟨rfl, _⟩ | ⟨g', cap, cur, rfl, _, hh, _⟩
    · simp [ownL, Value.ownBlock] at hm
    · simp [ownL, Value.ownBlock] at hm
      subst hm
      exact Blk.ne_ hb hh h1 rfl
theorem small_in_k (h : WI w0 w p N l) (zs : List Int) (C : Array Value) (e : TypeId) (fr : Nat × Nat) (m c g : Nat) (hm : zs.length = m) (hg : w.heap.size = g) (hC : C.toList = zs.map (.int .i64)) (hN : N + 2 * m ≤ 140737488355328) :
    Calls Try.prog 65 #[.pointer (some ⟨p, 0, none⟩), .slice (some ⟨g, 0, none⟩) m c] (w.alloc (.cells C e fr)) fun x w' => x = .returned (.tuple #[]) ∧ WI w0 w' p (N + 2 * m) (l ++ smalls zs) ∧ Kept (w.alloc (.cells C e fr)) w' := by
  subst hm; subst hg
  obtain ⟨v, n, hn, hw, h0, hp, hv⟩ := h
  have hr := Reads.const w (zs.map (Value.int .i64)) C e fr hC
  rw [List.length_map] at hr
  refine (small_any p n v l _ _ c _ zs _ (hw.only ((Only.refl [] w).alloc _) (by simp) (by simp)) rfl hr ?_ (by omega)).mono ?_
  · intro k hk hm
    simp [blkOf] at hk
    subst hk
    rcases List.mem_cons.1 hm with e | e
    · have := hw.blk.lt; omega
    · have := hw.own.lt _ e; omega
  · rintro x w' ⟨rfl, v', hw', ht⟩
    exact ⟨rfl, wi_turned (h0.alloc _) hp hv hw' (by omega) ht, kept_turned (hw.only ((Only.refl [] w).alloc _) (by simp) (by simp)) ht⟩
theorem text_in_k (h : WI w0 w p N l) (ss : List ByteArray) (C : Array Value) (e : TypeId) (fr : Nat × Nat) (m c g : Nat) (hm : ss.length = m) (hg : w.heap.size = g) (hC : C.toList = ss.map .string) (hsz : ∀ s ∈ ss, s.size ≤ maxLen) (hN : N + 65537 * m ≤ 140737488355328) :
    Calls Try.prog 66 #[.pointer (some ⟨p, 0, none⟩), .slice (some ⟨g, 0, none⟩) m c] (w.alloc (.cells C e fr)) fun x w' => x = .returned (.tuple #[]) ∧ WI w0 w' p (N + 65537 * m) (l ++ texts ss) ∧ Kept (w.alloc (.cells C e fr)) w' := by
  subst hm; subst hg
  obtain ⟨v, n, hn, hw, h0, hp, hv⟩ := h
  have hr := Reads.const w (ss.map Value.string) C e fr hC
  rw [List.length_map] at hr
  refine (text_any p n v l _ _ c _ ss _ (hw.only ((Only.refl [] w).alloc _) (by simp) (by simp)) rfl hr ?_ hsz (by omega)).mono ?_
  · intro k hk hm
    simp [blkOf] at hk
    subst hk
    rcases List.mem_cons.1 hm with e | e
    · have := hw.blk.lt; omega
    · have := hw.own.lt _ e; omega
  · rintro x w' ⟨rfl, v', n', hw', ht⟩
    have hl := hw'.own
    exact ⟨rfl, wi_turned (N := N + 65537 * ss.length) (h0.alloc _) hp hv hw' (by
      have h1 := hw.own.len
      have h2 := hw'.own.len
      rw [List.length_append] at h2
      have h3 : (texts ss).length ≤ 65537 * ss.length := by
        clear h2 hw' hl hr hC hsz hN
        induction ss with
        | nil => simp [texts]
        | cons s ss ih =>
          have := text_len s
          show (text s ++ texts ss).length ≤ _
          rw [List.length_append, List.length_cons]
          omega
      omega) ht, kept_turned (hw.only ((Only.refl [] w).alloc _) (by simp) (by simp)) ht⟩
end
end Go.Proofs.Ytbeenfkmnchhbaa.Codec
