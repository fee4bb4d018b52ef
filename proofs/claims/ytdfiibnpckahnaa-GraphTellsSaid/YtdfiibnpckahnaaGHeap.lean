/- A heap of paths, with no program in sight. -/
import Derived.Test.YtdfiibnpckahnaaGLaw1
namespace Go.Proofs.Ytdfiibnpckahnaa.Graph
set_option linter.unusedVariables false
def hat (hs : List Path) (i : Nat) : Path := hs.getD i []
def swapL (hs : List Path) (i j : Nat) : List Path := (hs.set i (hat hs j)).set j (hat hs i)
theorem swapL_len (hs : List Path) (i j : Nat) : (swapL hs i j).length = hs.length := by simp [swapL]
theorem hat_eq {hs : List Path} {i : Nat} (h : i < hs.length) : hat hs i = hs[i] := by unfold hat; rw [List.getD_eq_getElem?_getD, List.getElem?_eq_getElem h]; rfl
theorem swap_at {hs : List Path} {i j : Nat} (hi : i < hs.length) (hj : j < hs.length) (k : Nat) : hat (swapL hs i j) k = if k = j then hat hs i else if k = i then hat hs j else hat hs k := by
  unfold swapL
  show (((hs.set i (hat hs j)).set j (hat hs i))[k]?).getD [] = _
  rw [List.getElem?_set]
  by_cases h1 : j = k
  · subst h1
    rw [if_pos rfl, if_pos rfl, if_pos (by rw [List.length_set]; exact hj)]
    rfl
  · rw [if_neg h1, if_neg (fun h => h1 h.symm), List.getElem?_set]
    by_cases h2 : i = k
    · subst h2
      rw [if_pos rfl, if_pos rfl, if_pos hi]
      rfl
    · rw [if_neg h2, if_neg (fun h => h2 h.symm)]
      rfl
theorem swap_perm {hs : List Path} {i j : Nat} (hi : i < hs.length) (hj : j < hs.length) : (swapL hs i j).Perm hs := by
  unfold swapL
  rw [hat_eq hi, hat_eq hj]
  exact List.set_set_perm hi hj
def HeapL (hs : List Path) (n : Nat) : Prop := ∀ i, 0 < i → i < n → hat hs ((i - 1) / 2) ≤ hat hs i
structure UpI (hs : List Path) (j n : Nat) : Prop where
  a : ∀ i, 0 < i → i < n → i ≠ j → hat hs ((i - 1) / 2) ≤ hat hs i
  b : ∀ i, 0 < i → i < n → (i - 1) / 2 = j → 0 < j → hat hs ((j - 1) / 2) ≤ hat hs i
structure DownI (hs : List Path) (i n : Nat) : Prop where
  a : ∀ k, 0 < k → k < n → (k - 1) / 2 ≠ i → hat hs ((k - 1) / 2) ≤ hat hs k
  b : ∀ k, 0 < k → k < n → (k - 1) / 2 = i → 0 < i → hat hs ((i - 1) / 2) ≤ hat hs k
section
variable {hs : List Path} {i j n : Nat}
theorem UpI.done (h : UpI hs j n) (hd : j = 0 ∨ hat hs ((j - 1) / 2) ≤ hat hs j) : HeapL hs n := fun i h0 hi => by
  by_cases e : i = j
  · subst e
    rcases hd with h1 | h1
    · omega
    · exact h1
  · exact h.a i h0 hi e
theorem UpI.step (h : UpI hs j n) (hn : n ≤ hs.length) (hj : j < n) (h0 : 0 < j) (hlt : hat hs j ≤ hat hs ((j - 1) / 2)) : UpI (swapL hs ((j - 1) / 2) j) ((j - 1) / 2) n := by
  obtain ⟨i, hi⟩ : ∃ i, (j - 1) / 2 = i := ⟨_, rfl⟩
  rw [hi] at hlt ⊢
  have hil : i < j := by omega
  have S := fun k => swap_at (hs := hs) (i := i) (j := j) (by omega) (by omega) k
  refine ⟨fun k k0 kn ki => ?_, fun k k0 kn kp i0 => ?_⟩
  · rw [S, S]
    by_cases e1 : k = j
    · subst e1
      rw [if_pos rfl, hi, if_neg (by omega), if_pos rfl]
      exact hlt
    · rw [if_neg e1, if_neg ki]
      by_cases e2 : (k - 1) / 2 = j
      · rw [if_pos e2]
        have := h.b k k0 kn e2 h0
        rw [hi] at this
        exact this
      · rw [if_neg e2]
        by_cases e3 : (k - 1) / 2 = i
        · rw [if_pos e3]
          have := h.a k k0 kn e1
          rw [e3] at this
          exact List.le_trans hlt this
        · rw [if_neg e3]
          exact h.a k k0 kn e1
  · rw [S, S, if_neg (by omega), if_neg (by omega)]
    have hgi := h.a i i0 (by omega) (by omega)
    by_cases e1 : k = j
    · rw [if_pos e1]
      exact hgi
    · rw [if_neg e1, if_neg (by omega)]
      have := h.a k k0 kn e1
      rw [kp] at this
      exact List.le_trans hgi this
theorem DownI.done (h : DownI hs i n) (hd : ∀ k, 0 < k → k < n → (k - 1) / 2 = i → hat hs i ≤ hat hs k) : HeapL hs n := fun k h0 hk => by
  by_cases e : (k - 1) / 2 = i
  · rw [e]; exact hd k h0 hk e
  · exact h.a k h0 hk e
theorem DownI.step (h : DownI hs i n) (hn : n ≤ hs.length) (hj : j < n) (hp : 0 < j ∧ (j - 1) / 2 = i) (hs' : ∀ k, 0 < k → k < n → (k - 1) / 2 = i → hat hs j ≤ hat hs k) (hlt : hat hs j ≤ hat hs i) : DownI (swapL hs i j) j n := by
  have hij : i < j := by omega
  have S := fun k => swap_at (hs := hs) (i := i) (j := j) (by omega) (by omega) k
  refine ⟨fun k k0 kn kp => ?_, fun k k0 kn kp j0 => ?_⟩
  · rw [S, S, if_neg kp]
    by_cases e1 : k = j
    · subst e1
      rw [if_pos rfl, if_pos hp.2]
      exact hlt
    · rw [if_neg e1]
      by_cases e2 : (k - 1) / 2 = i
      · rw [if_pos e2, if_neg (by omega)]
        exact hs' k k0 kn e2
      · rw [if_neg e2]
        by_cases e3 : k = i
        · rw [if_pos e3]
          subst e3
          exact h.b j hp.1 hj hp.2 k0
        · rw [if_neg e3]
          exact h.a k k0 kn e2
  · rw [S, S, hp.2, if_neg (by omega), if_pos rfl, if_neg (by omega), if_neg (by omega)]
    have := h.a k k0 kn (by omega)
    rw [kp] at this
    exact this
theorem HeapL.root (h : HeapL hs n) : ∀ i, i < n → hat hs 0 ≤ hat hs i := by
  intro i
  induction i using Nat.strongRecOn with
  | ind i ih =>
    intro hi
    rcases Nat.eq_zero_or_pos i with rfl | h0
    · exact List.le_refl _
    · exact List.le_trans (ih ((i - 1) / 2) (by omega) (by omega)) (h i h0 hi)
theorem HeapL.up (h : HeapL hs n) (j : Nat) (hj : j < n) : UpI hs j n := ⟨fun i h0 hi _ => h i h0 hi, fun i h0 hi hp hj0 => List.le_trans (h j hj0 hj) (by have := h i h0 hi; rw [hp] at this; exact this)⟩
theorem hat_snoc_lt {s : Path} (h : i < hs.length) : hat (hs ++ [s]) i = hat hs i := by unfold hat; rw [List.getD_eq_getElem?_getD, List.getD_eq_getElem?_getD, List.getElem?_append_left h]
/-- one more at the end: all but the last one is right -/
theorem HeapL.push (h : HeapL hs hs.length) (s : Path) : UpI (hs ++ [s]) hs.length (hs.length + 1) := by
  refine ⟨fun i h0 hi hne => ?_, fun i h0 hi hp _ => by omega⟩
  rw [hat_snoc_lt (by omega), hat_snoc_lt (by omega)]
  exact h i h0 (by omega)
/-- the first one and the last one change places: all but the first one is right, ahead of the last one -/
theorem HeapL.pop (h : HeapL hs (n + 1)) (hl : hs.length = n + 1) : DownI (swapL hs 0 n) 0 n := by
  have S := fun k => swap_at (hs := hs) (i := 0) (j := n) (by omega) (by omega) k
  refine ⟨fun k k0 kn kp => ?_, fun k k0 kn kp j0 => by omega⟩
  rw [S, S, if_neg (by omega), if_neg kp, if_neg (by omega), if_neg (by omega)]
  exact h k k0 (by omega)
theorem HeapL.cut {m : Nat} (h : HeapL hs n) (hm : m ≤ n) : HeapL (hs.take m) m := by
  have T : ∀ k, k < m → hat (hs.take m) k = hat hs k := fun k hk => by unfold hat; rw [List.getD_eq_getElem?_getD, List.getD_eq_getElem?_getD, List.getElem?_take_of_lt hk]
  intro i h0 hi
  rw [T _ (by omega), T _ hi]
  exact h i h0 (by omega)
theorem heap_nil : HeapL [] 0 := fun i _ h => by omega
end
end Go.Proofs.Ytdfiibnpckahnaa.Graph
