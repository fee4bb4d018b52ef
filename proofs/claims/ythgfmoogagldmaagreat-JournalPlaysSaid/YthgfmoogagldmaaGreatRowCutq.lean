/- A row of the call's own, read, stored into, cut, and cleared from somewhere on. -/
import Derived.Test.YthgfmoogagldmaaGreatRows2
import Derived.Lib.SliceRun
set_option linter.unusedVariables false
namespace Go.Proofs.YthgfmoogagldmaaGreat
open Go.RowKit
theorem take_flat {size : Nat} : ∀ {rows : List (List Value)} (i : Nat), (∀ r ∈ rows, r.length = size) → (rows.take i).flatten = rows.flatten.take (i * size)
  | [], i, _ => by simp
  | r :: rows, 0, _ => by simp
  | r :: rows, i + 1, h => by
    have hr := h r (by simp)
    have e : (i + 1) * size = r.length + i * size := by rw [hr, Nat.add_mul]; omega
    rw [List.take_succ_cons, List.flatten_cons, List.flatten_cons, take_flat i (fun x hx => h x (by simp [hx])), e, List.take_length_add_append]
section
variable {P : Program} {w : World}
theorem OwnR.cut {e size base g n cap i : Nat} {rows : List (List Value)} (hown : OwnR e size w base (.slice (some ⟨g, 0, none⟩) n cap) n rows) (hi : i ≤ n) : OwnR e size w base (.slice (some ⟨g, 0, none⟩) i cap) i (rows.take i) := by
  obtain ⟨hl, he, hl2, h0⟩ := hown
  rcases h0 with ⟨hbad, _⟩ | ⟨g', cap', cur, hv', hg, hh, hc, hm, hsz, htk⟩
  · cases hbad
  · injection hv' with e1 e2 e3
    injection e1 with e1
    injection e1 with e1
    subst e1
    subst e3
    have hft : (rows.take i).flatten = rows.flatten.take (i * size) := take_flat i he
    have hin : i * size ≤ n * size := Nat.mul_le_mul_right _ hi
    refine ⟨by rw [List.length_take]; omega, fun r hr => he r (List.mem_of_mem_take hr), ?_, .inr ⟨g, cap, cur, rfl, hg, hh, by omega, hm, hsz, ?_⟩⟩
    · rw [flatten_len (fun r hr => he r (List.mem_of_mem_take hr)), List.length_take]
      congr 1
      omega
    · rw [hft, ← htk, List.take_take, Nat.min_eq_left (by omega)]
theorem OwnR.put {e size base g n cap : Nat} {rows : List (List Value)} (h : OwnR e size w base (.slice (some ⟨g, 0, none⟩) n cap) n rows) {i : Nat} (hi : i < n) {j : Nat} (hj : j < size) (u : Value) :
    OwnR e size (w.setCell ⟨g, i * size + j, none⟩ u) base (.slice (some ⟨g, 0, none⟩) n cap) n (rows.set i ((rows.getD i []).set j u)) := by
  have hl := h.len
  have fs : ∀ {rows : List (List Value)} (i : Nat), (∀ r ∈ rows, r.length = size) → i < rows.length → (rows.set i ((rows.getD i []).set j u)).flatten = rows.flatten.set (i * size + j) u := by
    intro rows
    induction rows with
    | nil => intro i _ hi; simp at hi
    | cons r rows ih =>
      intro i h hi
      have hr := h r (by simp)
      cases i with
      | zero =>
        simp only [List.set_cons_zero, List.getD_cons_zero, List.flatten_cons, Nat.zero_mul, Nat.zero_add]
        rw [List.set_append_left _ _ (by omega)]
      | succ i =>
        have ih := ih i (fun x hx => h x (by simp [hx])) (by simpa using hi)
        simp only [List.set_cons_succ, List.getD_cons_succ, List.flatten_cons]
        rw [ih, List.set_append_right _ _ (by rw [hr, Nat.add_mul]; omega), hr]
        congr 2
        rw [Nat.add_mul]
        omega
  refine ⟨by rw [List.length_set]; exact h.len, ?_, ?_⟩
  · intro r hr
    rcases List.mem_or_eq_of_mem_set hr with hr | rfl
    · exact h.each r hr
    · rw [List.length_set, List.getD_eq_getElem?_getD, List.getElem?_eq_getElem (by omega)]
      exact h.each _ (List.getElem_mem _)
  · rw [fs i h.each (by omega)]
    exact (h.own.stored (i * size + j) u).1
theorem OwnR.cellOf {e size base g n cap : Nat} {rows : List (List Value)} (h : OwnR e size w base (.slice (some ⟨g, 0, none⟩) n cap) n rows) {i j : Nat} (hi : i < n) (hj : j < size) : w.cell? ⟨g, i * size + j, none⟩ = (rows.getD i [])[j]? := by
  rw [h.own.cellAt (i * size + j) (by have := Nat.mul_le_mul_right size (show i + 1 ≤ n from hi); rw [Nat.add_mul] at this; omega), flatten_get h.each i j hj]
theorem OwnR.frozenOf {e size base g n cap : Nat} {rows : List (List Value)} (h : OwnR e size w base (.slice (some ⟨g, 0, none⟩) n cap) n rows) (q : Nat) : w.frozen? ⟨g, q, none⟩ = false := h.own.frozenAt q
theorem OwnR.put1 {e base g n cap : Nat} {w : World} {rows : List (List Value)} (h : OwnR e 1 w base (.slice (some ⟨g, 0, none⟩) n cap) n rows) {i : Nat} (hi : i < n) (u : Value) :
    OwnR e 1 (w.setCell ⟨g, i, none⟩ u) base (.slice (some ⟨g, 0, none⟩) n cap) n (rows.set i [u]) := by
  have hl := h.len
  have h1 := h.put hi (j := 0) (by decide) u
  have h2 : (rows.getD i []).length = 1 := by
    rw [List.getD_eq_getElem?_getD, List.getElem?_eq_getElem (by omega)]
    exact h.each _ (List.getElem_mem _)
  have h3 : (rows.getD i []).set 0 u = [u] := by
    match hr : rows.getD i [], h2 with
    | [x], _ => rfl
  rw [h3] at h1
  simpa using h1
end
end Go.Proofs.YthgfmoogagldmaaGreat
