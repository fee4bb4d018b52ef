/- An instruction as it comes in. -/
import Derived.Test.YtbeenfkmnchhbaaOpen5
import Derived.Test.YtbeenfkmnchhbaaObjOpen
namespace Go.Proofs.Ytbeenfkmnchhbaa.Object
open Go.RowKit Go.ChangeShapes Go.WideShapes Go.Deep Go.Joins
set_option maxRecDepth 100000
theorem open_code {H : Type} {enc : TypeId × Value → H} {w : World} {base : Nat} {spare : Nat → Bool} {held : Bool} {r : Reach} {b0 : Nat} {v : Value} {d : DataW H} {p : List MemPlace} (hv : Value.okWide Try.prog w r b0 59 v) (h : DataW.Trod enc Try.prog w base spare held 59 v d p) :
    ∃ z : Cd, v = z.val := by
  obtain ⟨x0, x1, x2, x3, x4, y0, y1, y2, y3, y4, n, rfl, rfl, rfl, t0, t1, t2, t3, t4⟩ := open_agg5 Try.underlying59 (by kernel_rfl) (by kernel_rfl) hv h
  obtain ⟨a0, rfl, _⟩ := trod1_int Try.underlying3 t0
  obtain ⟨a1, rfl, _⟩ := trod1_int Try.underlying3 t1
  obtain ⟨a2, rfl, _⟩ := trod1_int Try.underlying3 t2
  obtain ⟨a3, rfl, _⟩ := trod1_int Try.underlying3 t3
  obtain ⟨a4, rfl, _⟩ := trod1_int Try.underlying2 t4
  exact ⟨⟨a0, a1, a2, a3, a4⟩, rfl⟩
end Go.Proofs.Ytbeenfkmnchhbaa.Object
