/- A slice of one-cell elements that came in, opened. -/
import Derived.Test.YtdfiibnpckahnaaOpen
namespace Go.Proofs.Ytdfiibnpckahnaa
open Go.RowKit Go.ChangeShapes Go.WideShapes Go.Deep
set_option linter.unusedVariables false
section
variable {H : Type} {enc : TypeId × Value → H} {P : Program} {w : World} {base : Nat} {spare : Nat → Bool} {held : Bool}
theorem open_one {α : Type} (val : α → Value) (Q : α → Prop) {t e : TypeId} {A : Option Addr} {len cap : Nat} {d : DataW H} {p : List MemPlace} (ht : P.underlying t = some (.slice e)) (hC : P.cellsOf e = 1)
    (h : DataW.Trod enc P w base spare held t (.slice A len cap) d p)
    (hel : ∀ v, (∃ (y : DataW H × List MemPlace) (n : Nat), DataW.trod enc P w base spare held n e [v] = some y) → ∃ x, Q x ∧ val x = v) :
    ∃ l : List α, l.length = len ∧ len ≤ cap ∧ cap ≤ maxLen ∧ Reads w w.heap.size 1 A len (l.map val) ∧ ∀ x ∈ l, Q x := by
  obtain ⟨fuel, hf⟩ := h
  rcases open_slice ht hf with ⟨hcs, _⟩ | ⟨a, l', c', m, n, D, Pl, hcs, _, hl, hm, hmm, _, hi⟩
  · simp [Value.cells] at hcs
    obtain ⟨rfl, rfl, rfl⟩ := hcs
    exact ⟨[], rfl, Nat.le_refl _, by simp [maxLen], ⟨rfl, fun h => absurd h (by simp)⟩, by simp⟩
  · simp [Value.cells] at hcs
    obtain ⟨rfl, rfl, rfl⟩ := hcs
    have hlm : len ≤ m := by rw [hmm]; split <;> omega
    obtain ⟨l, hll, hp⟩ := choose_list len (fun i x => Q x ∧ w.cell? (a.add i) = some (val x)) (fun i hil => by
      obtain ⟨cs', hc, ht'⟩ := hi i (by omega)
      rw [hC] at hc
      obtain ⟨_, hcl, hat⟩ := World.cells?_some hc
      obtain ⟨v, rfl⟩ : ∃ v, cs' = [v] := by
        cases cs' with
        | nil => simp at hcl
        | cons v r =>
          cases r with
          | nil => exact ⟨v, rfl⟩
          | cons _ _ => simp at hcl
      obtain ⟨x, hq, rfl⟩ := hel v ⟨_, _, ht'⟩
      refine ⟨x, hq, ?_⟩
      have := hat 0 (by omega)
      simpa [← Go.Deep.add_add, Addr.add] using this)
    have hget : ∀ i, i < len → ∃ x, l[i]? = some x := fun i hi => ⟨l[i]'(by omega), List.getElem?_eq_getElem _⟩
    refine ⟨l, hll, hl, hm, ⟨by rw [List.length_map, hll, Nat.mul_one], fun hn => ⟨a, rfl, ?_, fun j u hu => ?_⟩⟩, fun x hx => ?_⟩
    · obtain ⟨x, hx⟩ := hget 0 hn
      have := lt_of_cell (hp 0 x hx).2
      rwa [block_of_add] at this
    · rw [List.getElem?_map] at hu
      obtain ⟨x, hx, rfl⟩ := Option.map_eq_some_iff.1 hu
      exact (hp j x hx).2
    · obtain ⟨i, hi, rfl⟩ := List.getElem_of_mem hx
      exact (hp i _ (List.getElem?_eq_getElem hi)).1
end
end Go.Proofs.Ytdfiibnpckahnaa
