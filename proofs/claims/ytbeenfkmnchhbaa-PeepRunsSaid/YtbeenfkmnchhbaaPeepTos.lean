/- Numbers in a block of their own. -/
import Derived.Test.YtbeenfkmnchhbaaPeepThread
import Derived.Test.YtbeenfkmnchhbaaRowOff
namespace Go.Proofs.Ytbeenfkmnchhbaa.Peep
open Go.RowKit Object
set_option linter.unusedVariables false
set_option maxRecDepth 100000
theorem int_info : (Try.prog.info? 3).map (fun i => (i.zero, i.size, i.bytes)) = some (some (.int .i64 0), 1, 8) := by kernel_rfl
/-- numbers, in a block of their own -/
def Tos (w : World) (T n : Nat) (f : Nat → Nat) : Prop := ∃ C : Array Value, Blk w T 3 C ∧ C.size = n ∧ ∀ j, j < n → C[j]? = some (.int .i64 (f j : Nat))
section
variable {w w' : World} {T n : Nat} {f : Nat → Nat} {S : List Nat}
theorem Tos.only (h : Tos w T n f) (ho : Only S w w') (hT : T ∉ S) : Tos w' T n f := by
  obtain ⟨C, h1, h2, h3⟩ := h
  exact ⟨C, h1.only ho hT, h2, h3⟩
theorem Tos.cell (h : Tos w T n f) {j : Nat} (hj : j < n) : w.cell? ⟨T, j, none⟩ = some (.int .i64 (f j : Nat)) := by
  obtain ⟨C, h1, h2, h3⟩ := h
  rw [h1.cell j, h3 j hj]
theorem Tos.frozen (h : Tos w T n f) (j : Nat) : w.frozen? ⟨T, j, none⟩ = false := by
  obtain ⟨C, h1, h2, h3⟩ := h
  exact h1.frozen j
theorem Tos.set (h : Tos w T n f) {j : Nat} (hj : j < n) (z : Nat) : Tos (w.setCell ⟨T, j, none⟩ (.int .i64 (z : Nat))) T n (fun q => if q = j then z else f q) := by
  obtain ⟨C, h1, h2, h3⟩ := h
  refine ⟨_, h1.set_ j _, by simpa using h2, fun q hq => ?_⟩
  by_cases e : q = j
  · subst e
    simp only [if_true]
    rw [Array.getElem?_setIfInBounds_self, if_pos (by omega)]
  · simp only [if_neg e]
    rw [Array.getElem?_setIfInBounds_ne (fun h => e h.symm)]
    exact h3 q hq
theorem Tos.lt (h : Tos w T n f) : T < w.heap.size := by
  obtain ⟨C, h1, _⟩ := h
  exact h1.lt
theorem Tos.congr (h : Tos w T n f) {f' : Nat → Nat} (hf : ∀ j, j < n → f j = f' j) : Tos w T n f' := by
  obtain ⟨C, h1, h2, h3⟩ := h
  exact ⟨C, h1, h2, fun j hj => by rw [h3 j hj, hf j hj]⟩
theorem Tos.off {base e size m : Nat} {v : Value} {rows : List (List Value)} (h : Tos w T n f) (hown : OwnR e size w base v m rows) (he : 3 ≠ e) : T ∉ ownL v := by
  obtain ⟨C, h1, _⟩ := h
  exact off_blk hown h1 he
theorem Tos.made {base n : Nat} (h : w.ownsRow base 3 1 (.slice (some ⟨T, 0, none⟩) n n) n (madeCells (Value.int .i64 0).cells (n * 1)).toList) : Tos w T n (fun _ => 0) := by
  obtain ⟨hl, h0⟩ := h
  rcases h0 with ⟨h0, _⟩ | ⟨g, cap, cur, hv, hb, hg, h1, h2, h3, h4⟩
  · cases h0
  · simp only [Value.slice.injEq, Option.some.injEq, Addr.mk.injEq, and_true, true_and] at hv
    obtain ⟨rfl, rfl⟩ := hv
    rw [Nat.mul_one] at h3 h4
    refine ⟨cur, hg, h3, fun j hj => ?_⟩
    rw [List.take_of_length_le (by rw [Array.length_toList, h3]; exact Nat.le_refl _)] at h4
    rw [← Array.getElem?_toList, h4, show (Value.int .i64 0).cells = #[.int .i64 0] from rfl, toList_madeCells_one, List.getElem?_replicate, if_pos hj]
    rfl
end
end Go.Proofs.Ytbeenfkmnchhbaa.Peep
