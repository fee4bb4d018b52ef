/- Code as it comes in. -/
import Derived.Test.YtkdacemachejoaaOpen
import Derived.Test.YtkdacemachejoaaObjA
import Derived.WalkKit
import Derived.ShutString
import Derived.ChangeOld
import Derived.Lib.SmallJoins
namespace Go.Proofs.Ytkdacemachejoaa.Vm
open Go.RowKit Go.ChangeShapes Go.WideShapes Go.Deep Go.Joins Object
set_option linter.unusedVariables false
set_option maxRecDepth 100000
theorem code_el {H : Type} {enc : TypeId × Value → H} {w : World} {base : Nat} {spare : Nat → Bool} {held : Bool} (fs : Array Field) (hfs : Try.prog.underlying 27 = some (.struct fs)) (g : Nat → Value)
    (h : ∀ (j : Nat) (f : Field), fs[j]? = some f → ∃ (y : DataW H × List MemPlace) (n : Nat), DataW.trod enc Try.prog w base spare held n f.type [g j] = some y) : ∃ x : Cd, True ∧ ∀ j, j < fs.size → (x.row)[j]? = some (g j) := by
  rw [Try.underlying27] at hfs
  injection hfs with hfs
  injection hfs with hfs
  subst hfs
  obtain ⟨y0, n0, t0⟩ := h 0 _ rfl
  obtain ⟨y1, n1, t1⟩ := h 1 _ rfl
  obtain ⟨y2, n2, t2⟩ := h 2 _ rfl
  obtain ⟨y3, n3, t3⟩ := h 3 _ rfl
  obtain ⟨y4, n4, t4⟩ := h 4 _ rfl
  obtain ⟨z0, e0, w0⟩ := trod1_int Try.underlying3 t0
  obtain ⟨z1, e1, w1⟩ := trod1_int Try.underlying3 t1
  obtain ⟨z2, e2, w2⟩ := trod1_int Try.underlying3 t2
  obtain ⟨z3, e3, w3⟩ := trod1_int Try.underlying3 t3
  obtain ⟨z4, e4, w4⟩ := trod1_int Try.underlying2 t4
  refine ⟨⟨z0, z1, z2, z3, z4⟩, trivial, fun j hj => ?_⟩
  match j, hj with
  | 0, _ => rw [e0]; rfl
  | 1, _ => rw [e1]; rfl
  | 2, _ => rw [e2]; rfl
  | 3, _ => rw [e3]; rfl
  | 4, _ => rw [e4]; rfl
end Go.Proofs.Ytkdacemachejoaa.Vm
