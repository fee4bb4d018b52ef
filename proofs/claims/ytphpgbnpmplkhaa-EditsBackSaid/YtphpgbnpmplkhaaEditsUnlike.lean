/- edits.Unlike: the paths whose texts are not one, sorted. -/
import Derived.Test.YtphpgbnpmplkhaaEditsMap
namespace Go.Proofs.Ytphpgbnpmplkhaa.Edits
open Go.RowKit Go.Maps
set_option linter.unusedVariables false
set_option maxRecDepth 100000
theorem own_singles {w : World} {base : Nat} {v : Value} {ss : List (List UInt8)} (h : w.ownsRow base 9 1 v ss.length (ss.map Go.Proofs.encStr)) : OwnR 9 1 w base v ss.length (ss.map fun x => [Go.Proofs.encStr x]) :=
  ⟨by simp, singles_len ss, by rw [singles_flat]; exact h⟩
theorem sorted_bool (b n : Nat) (f : Lit → Option Value) (w : World) (h : VM Try.prog 9 w b n f) (hn : n ≤ 3000000) :
    Calls Try.prog 12 #[.func (.func 18) #[] #[.pointer (some ⟨w.heap.size, 0, none⟩)]] (w.alloc (.cells #[.map (some b)] 44)) fun e w' => ∃ v ss, e = .returned v ∧ KeysL f ss ∧ ss.length ≤ n ∧ (∀ x ∈ ss, x.length ≤ maxLen) ∧ OwnR 9 1 w' w.heap.size v ss.length (ss.map fun x => [Go.Proofs.encStr x]) ∧ Only [] w w' := by
  obtain ⟨D, hD, rfl⟩ := h
  have hs := hD.size_le
  refine ((callsIn_wide (n := 5)).1 (Try.slices_Sorted_keys_12_14 b n D RV w hD (by unfold maxLen; omega) (by omega))).mono ?_
  rintro e w' ⟨v, ss, rfl, hp, hrow, _, hb⟩
  obtain ⟨hk, hl⟩ := keysL_of hD Try.underlying9 hp
  have hbd : ∀ x ∈ ss.mergeSort (fun x y => decide (x ≤ y)), x.length ≤ maxLen := fun x hx => strKeys_le hD Try.underlying9 x (hp.mem_iff.1 ((List.mergeSort_perm ss _).mem_iff.1 hx))
  have he : ss.length = (ss.mergeSort (fun x y => decide (x ≤ y))).length := (List.length_mergeSort ss).symm
  refine ⟨v, _, rfl, hk, by rw [← he]; exact hl, hbd, ?_, (((Only.refl [] w).alloc _).trans (Only.of_below hb) (by simp))⟩
  rw [he] at hrow
  exact OwnR.mono (own_singles hrow) (by rw [World.size_alloc]; omega)
theorem sorted_str (b n : Nat) (f : Lit → Option Value) (w : World) (h : VM Try.prog 9 w b n f) (hn : n ≤ 3000000) :
    Calls Try.prog 12 #[.func (.func 17) #[] #[.pointer (some ⟨w.heap.size, 0, none⟩)]] (w.alloc (.cells #[.map (some b)] 37)) fun e w' => ∃ v ss, e = .returned v ∧ KeysL f ss ∧ ss.length ≤ n ∧ (∀ x ∈ ss, x.length ≤ maxLen) ∧ OwnR 9 1 w' w.heap.size v ss.length (ss.map fun x => [Go.Proofs.encStr x]) ∧ Only [] w w' := by
  obtain ⟨D, hD, rfl⟩ := h
  have hs := hD.size_le
  refine ((callsIn_wide (n := 5)).1 (Try.slices_Sorted_keys_12_13 b n D RV w hD (by unfold maxLen; omega) (by omega))).mono ?_
  rintro e w' ⟨v, ss, rfl, hp, hrow, _, hb⟩
  obtain ⟨hk, hl⟩ := keysL_of hD Try.underlying9 hp
  have hbd : ∀ x ∈ ss.mergeSort (fun x y => decide (x ≤ y)), x.length ≤ maxLen := fun x hx => strKeys_le hD Try.underlying9 x (hp.mem_iff.1 ((List.mergeSort_perm ss _).mem_iff.1 hx))
  have he : ss.length = (ss.mergeSort (fun x y => decide (x ≤ y))).length := (List.length_mergeSort ss).symm
  refine ⟨v, _, rfl, hk, by rw [← he]; exact hl, hbd, ?_, (((Only.refl [] w).alloc _).trans (Only.of_below hb) (by simp))⟩
  rw [he] at hrow
  exact OwnR.mono (own_singles hrow) (by rw [World.size_alloc]; omega)
theorem keysB (b : Nat) (w : World) : Calls Try.prog 14 #[.map (some b)] w fun e w' => e = .returned (.func (.func 18) #[] #[.pointer (some ⟨w.heap.size, 0, none⟩)]) ∧ w' = w.alloc (.cells #[.map (some b)] 44) :=
  (callsIn_wide (n := 5)).1 (Try.maps_Keys_14 (some b) w)
theorem keysT (b : Nat) (w : World) : Calls Try.prog 13 #[.map (some b)] w fun e w' => e = .returned (.func (.func 17) #[] #[.pointer (some ⟨w.heap.size, 0, none⟩)]) ∧ w' = w.alloc (.cells #[.map (some b)] 37) :=
  (callsIn_wide (n := 5)).1 (Try.maps_Keys_13 (some b) w)
section
open Classical
/-- the odd ones of the first map, that are done -/
noncomputable def odd1 (f1 f2 : Lit → Option Value) (left : Lit → Bool) : Lit → Option Value := fun k => if (f1 k).isSome = true ∧ left k = false ∧ f1 k ≠ f2 k then some (.bool true) else none
/-- and those of the second one -/
noncomputable def odd2 (f1 f2 : Lit → Option Value) (left : Lit → Bool) : Lit → Option Value := fun k => if (f2 k).isSome = true ∧ left k = false ∧ f1 k = none then some (.bool true) else odd1 f1 f2 (fun _ => false) k
noncomputable def oddf (f1 f2 : Lit → Option Value) : Lit → Option Value := fun k => if f1 k = f2 k then none else some (.bool true)
theorem odd1_start (f1 f2 : Lit → Option Value) : odd1 f1 f2 (fun k => (f1 k).isSome) = fun _ => none := by
  funext k
  unfold odd1
  rw [if_neg]
  rintro ⟨h1, h2, _⟩
  simp only [h1] at h2
  cases h2
theorem left_minus {left : Lit → Bool} {k0 : Lit} (hk : WideAt.IsKeyLit k0) (k : Lit) : ((left k && !k.sameKey k0) = false) ↔ (left k = false ∨ k = k0) := by
  by_cases e : k = k0
  · subst e
    simp [WideAt.sameKey_self hk]
  · simp [sameKey_ne e, e]
theorem odd1_put {f1 f2 : Lit → Option Value} {left : Lit → Bool} {k0 : Lit} (hk : WideAt.IsKeyLit k0) (h1 : (f1 k0).isSome = true) (hne : f1 k0 ≠ f2 k0) :
    odd1 f1 f2 (fun z => left z && !z.sameKey k0) = upd (odd1 f1 f2 left) k0 (some (.bool true)) := by
  funext k
  by_cases e : k = k0
  · subst e
    rw [upd_same]
    unfold odd1
    rw [if_pos ⟨h1, (left_minus hk k).2 (.inr rfl), hne⟩]
  · rw [upd_other _ _ e]
    unfold odd1
    simp only [left_minus hk, e, or_false]
theorem odd1_skip {f1 f2 : Lit → Option Value} {left : Lit → Bool} {k0 : Lit} (hk : WideAt.IsKeyLit k0) (he : f1 k0 = f2 k0) : odd1 f1 f2 (fun z => left z && !z.sameKey k0) = odd1 f1 f2 left := by
  funext k
  by_cases e : k = k0
  · subst e
    unfold odd1
    rw [if_neg (fun h => h.2.2 he), if_neg (fun h => h.2.2 he)]
  · unfold odd1
    simp only [left_minus hk, e, or_false]
theorem odd2_start {f1 f2 : Lit → Option Value} {left : Lit → Bool} (hl : ∀ k, left k = false) : odd2 f1 f2 (fun k => (f2 k).isSome) = odd1 f1 f2 left := by
  funext k
  have : left = fun _ => false := funext hl
  rw [this]
  unfold odd2
  rw [if_neg]
  rintro ⟨h1, h2, _⟩
  simp only [h1] at h2
  cases h2
theorem odd2_put {f1 f2 : Lit → Option Value} {left : Lit → Bool} {k0 : Lit} (hk : WideAt.IsKeyLit k0) (h1 : (f2 k0).isSome = true) (hn : f1 k0 = none) :
    odd2 f1 f2 (fun z => left z && !z.sameKey k0) = upd (odd2 f1 f2 left) k0 (some (.bool true)) := by
  funext k
  by_cases e : k = k0
  · subst e
    rw [upd_same]
    unfold odd2
    rw [if_pos ⟨h1, (left_minus hk k).2 (.inr rfl), hn⟩]
  · rw [upd_other _ _ e]
    unfold odd2
    simp only [left_minus hk, e, or_false]
theorem odd2_skip {f1 f2 : Lit → Option Value} {left : Lit → Bool} {k0 : Lit} (hk : WideAt.IsKeyLit k0) (he : f1 k0 ≠ none) : odd2 f1 f2 (fun z => left z && !z.sameKey k0) = odd2 f1 f2 left := by
  funext k
  by_cases e : k = k0
  · subst e
    unfold odd2
    rw [if_neg (fun h => he h.2.2), if_neg (fun h => he h.2.2)]
  · unfold odd2
    simp only [left_minus hk, e, or_false]
theorem odd2_end {f1 f2 : Lit → Option Value} {left : Lit → Bool} (hl : ∀ k, left k = false) : odd2 f1 f2 left = oddf f1 f2 := by
  funext k
  unfold odd2 odd1 oddf
  cases h1 : f1 k with
  | none =>
    cases h2 : f2 k with
    | none => simp
    | some v => simp [hl k]
  | some u =>
    by_cases e : (some u : Option Value) = f2 k
    · rw [← e]; simp
    · simp [e, hl k]
end
end Go.Proofs.Ytphpgbnpmplkhaa.Edits
