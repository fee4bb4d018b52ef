/- Moves as they come in. -/
import Derived.Test.YthaifmfioabmkaaOpen
import Derived.Test.YthaifmfioabmkaaMovesKit
namespace Go.Proofs.Ythaifmfioabmkaa.Moves
open Go.RowKit Go.ChangeShapes Go.WideShapes Go.Deep
set_option linter.unusedVariables false
theorem mv_el {H : Type} {enc : TypeId × Value → H} {w : World} {base : Nat} {spare : Nat → Bool} {held : Bool} (fs : Array Field) (hfs : Try.prog.underlying 35 = some (.struct fs)) (g : Nat → Value)
    (h : ∀ (j : Nat) (f : Field), fs[j]? = some f → ∃ (y : DataW H × List MemPlace) (n : Nat), DataW.trod enc Try.prog w base spare held n f.type [g j] = some y) : ∃ x : Mv, x.ok ∧ ∀ j, j < fs.size → x.row[j]? = some (g j) := by
  rw [Try.underlying35] at hfs
  injection hfs with hfs
  injection hfs with hfs
  subst hfs
  obtain ⟨y0, n0, t0⟩ := h 0 _ rfl
  obtain ⟨y1, n1, t1⟩ := h 1 _ rfl
  obtain ⟨z0, e0, w0⟩ := trod1_int Try.underlying3 t0
  obtain ⟨z1, e1, w1⟩ := trod1_int Try.underlying3 t1
  have b0 := bounds_i64 w0
  have b1 := bounds_i64 w1
  refine ⟨⟨z0, z1⟩, ⟨⟨by show _ ≤ z0; omega, by show z0 ≤ _; omega⟩, ⟨by show _ ≤ z1; omega, by show z1 ≤ _; omega⟩⟩, fun j hj => ?_⟩
  match j, hj with
  | 0, _ => rw [e0]; rfl
  | 1, _ => rw [e1]; rfl
theorem int_el {H : Type} {enc : TypeId × Value → H} {w : World} {base : Nat} {spare : Nat → Bool} {held : Bool} {v : Value} {y : DataW H × List MemPlace} {n : Nat} (h : DataW.trod enc Try.prog w base spare held n 3 [v] = some y) : ∃ z, in64 z ∧ (Value.int .i64 z) = v := by
  obtain ⟨z, e, w0⟩ := trod1_int Try.underlying3 h
  have b0 := bounds_i64 w0
  exact ⟨z, ⟨by omega, by omega⟩, e.symm⟩
end Go.Proofs.Ythaifmfioabmkaa.Moves
