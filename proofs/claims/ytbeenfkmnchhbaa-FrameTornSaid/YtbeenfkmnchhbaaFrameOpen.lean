/- A mark as it comes in. -/
import Derived.Test.YtbeenfkmnchhbaaOpen
import Derived.Test.YtbeenfkmnchhbaaFrameLaw
import Derived.WalkKit
import Derived.ShutString
import Derived.ChangeOld
import Derived.Lib.SmallJoins
namespace Go.Proofs.Ytbeenfkmnchhbaa.Frame
open Go.RowKit Go.ChangeShapes Go.WideShapes Go.Deep Go.Joins
set_option maxRecDepth 100000
theorem fits_of (m : Mark) (h0 : -9223372036854775808 ≤ m.k) (h1 : m.k < 9223372036854775808) (h2 : -9223372036854775808 ≤ m.g) (h3 : m.g < 9223372036854775808) (h4 : -9223372036854775808 ≤ m.s) (h5 : m.s < 9223372036854775808) (h6 : -9223372036854775808 ≤ m.n) (h7 : m.n < 9223372036854775808) : m.fits := ⟨⟨h0, h1⟩, ⟨h2, h3⟩, ⟨h4, h5⟩, ⟨h6, h7⟩⟩
theorem open_mark {H : Type} {enc : TypeId × Value → H} {w : World} {base : Nat} {spare : Nat → Bool} {held : Bool} {r : Reach} {b0 : Nat} {v : Value} {d : DataW H} {p : List MemPlace} (hv : Value.okWide Try.prog w r b0 23 v) (h : DataW.Trod enc Try.prog w base spare held 23 v d p) :
    ∃ m : Mark, v = m.val ∧ m.fits := by
  obtain ⟨x0, x1, x2, x3, y0, y1, y2, y3, n, rfl, rfl, rfl, t0, t1, t2, t3⟩ := open_agg4 Try.underlying23 (by kernel_rfl) (by kernel_rfl) hv h
  obtain ⟨a0, rfl, w0⟩ := trod1_int Try.underlying3 t0
  obtain ⟨a1, rfl, w1⟩ := trod1_int Try.underlying2 t1
  obtain ⟨a2, rfl, w2⟩ := trod1_int Try.underlying2 t2
  obtain ⟨a3, rfl, w3⟩ := trod1_int Try.underlying2 t3
  have b0 := bounds_i64 w0
  have b1 := bounds_i64 w1
  have b2 := bounds_i64 w2
  have b3 := bounds_i64 w3
  have q0 : -9223372036854775808 ≤ a0 ∧ a0 < 9223372036854775808 := by omega
  have q1 : -9223372036854775808 ≤ a1 ∧ a1 < 9223372036854775808 := by omega
  have q2 : -9223372036854775808 ≤ a2 ∧ a2 < 9223372036854775808 := by omega
  have q3 : -9223372036854775808 ≤ a3 ∧ a3 < 9223372036854775808 := by omega
  exact ⟨⟨a0, a1, a2, a3⟩, rfl, fits_of ⟨a0, a1, a2, a3⟩ q0.1 q0.2 q1.1 q1.2 q2.1 q2.2 q3.1 q3.2⟩
end Go.Proofs.Ytbeenfkmnchhbaa.Frame
