/- Layer 3's items as they come in. -/
import Derived.Test.YtehekhlajodflaaOpen
import Derived.Test.YtehekhlajodflaaCodecItems
import Derived.Test.YtehekhlajodflaaRows
namespace Go.Proofs.Ytehekhlajodflaa.Codec
open Go.RowKit Go.ChangeShapes Go.WideShapes Go.Deep
def Item.ok (x : Item) : Prop := x.s.size ≤ maxLen ∧ (-9223372036854775808 ≤ x.kind ∧ x.kind < 9223372036854775808) ∧ (-9223372036854775808 ≤ x.n ∧ x.n < 9223372036854775808)
theorem item_el {H : Type} {enc : TypeId × Value → H} {w : World} {base : Nat} {spare : Nat → Bool} {held : Bool} (fs : Array Field) (hfs : Try.prog.underlying 32 = some (.struct fs)) (g : Nat → Value)
    (h : ∀ (j : Nat) (f : Field), fs[j]? = some f → ∃ (y : DataW H × List MemPlace) (n : Nat), DataW.trod enc Try.prog w base spare held n f.type [g j] = some y) : ∃ x : Item, x.ok ∧ ∀ j, j < fs.size → x.row[j]? = some (g j) := by
  rw [Try.underlying32] at hfs
  injection hfs with hfs
  injection hfs with hfs
  subst hfs
  obtain ⟨y0, n0, t0⟩ := h 0 _ rfl
  obtain ⟨y1, n1, t1⟩ := h 1 _ rfl
  obtain ⟨y2, n2, t2⟩ := h 2 _ rfl
  obtain ⟨z0, e0, w0⟩ := trod1_int Try.underlying3 t0
  obtain ⟨z1, e1, w1⟩ := trod1_int Try.underlying2 t1
  obtain ⟨s, e2, hs⟩ := trod1_string Try.underlying9 t2
  have b0 := bounds_i64 w0
  have b1 := bounds_i64 w1
  refine ⟨⟨z0, z1, s⟩, ⟨hs, ⟨by show _ ≤ z0; omega, by show z0 < _; omega⟩, ⟨by show _ ≤ z1; omega, by show z1 < _; omega⟩⟩, fun j hj => ?_⟩
  match j, hj with
  | 0, _ => rw [e0]; rfl
  | 1, _ => rw [e1]; rfl
  | 2, _ => rw [e2]; rfl
end Go.Proofs.Ytehekhlajodflaa.Codec
