/- Acts on a disk as they come in. -/
import Derived.Test.YtgbicimbggdpgaaOpen
import Derived.Test.YtgbicimbggdpgaaOpenOne
import Derived.Test.YtgbicimbggdpgaaDiskSafe
namespace Go.Proofs.Ytgbicimbggdpgaa.Disk
open Go.RowKit Go.ChangeShapes Go.WideShapes Go.Deep
set_option linter.unusedVariables false
def AC.ok (x : AC) : Prop := x.at_ ≤ 9223372036854775807
theorem ac_el {H : Type} {enc : TypeId × Value → H} {w : World} {base : Nat} {spare : Nat → Bool} {held : Bool} (fs : Array Field) (hfs : Try.prog.underlying 32 = some (.struct fs)) (g : Nat → Value)
    (h : ∀ (j : Nat) (f : Field), fs[j]? = some f → ∃ (y : DataW H × List MemPlace) (n : Nat), DataW.trod enc Try.prog w base spare held n f.type [g j] = some y) : ∃ x : AC, x.ok ∧ ∀ j, j < fs.size → x.row[j]? = some (g j) := by
  rw [Try.underlying32] at hfs
  injection hfs with hfs
  injection hfs with hfs
  subst hfs
  obtain ⟨y0, n0, t0⟩ := h 0 _ rfl
  obtain ⟨y1, n1, t1⟩ := h 1 _ rfl
  obtain ⟨y2, n2, t2⟩ := h 2 _ rfl
  obtain ⟨y3, n3, t3⟩ := h 3 _ rfl
  obtain ⟨z0, e0, w0⟩ := trod1_int Try.underlying3 t0
  obtain ⟨z1, e1, w1⟩ := trod1_int Try.underlying3 t1
  obtain ⟨z2, e2, w2⟩ := trod1_int Try.underlying3 t2
  obtain ⟨z3, e3, w3⟩ := trod1_int Try.underlying5 t3
  have b1 := bounds_i64 w1
  have hb := u8_of_wf w3
  refine ⟨⟨z0, z1, z2, UInt8.ofNat z3.toNat, g 4⟩, by show z1 ≤ _; omega, fun j hj => ?_⟩
  match j, hj with
  | 0, _ => rw [e0]; rfl
  | 1, _ => rw [e1]; rfl
  | 2, _ => rw [e2]; rfl
  | 3, _ =>
    rw [e3]
    show some (B8 _) = _
    unfold B8
    rw [← hb]
  | 4, _ => rfl
theorem fate_el {H : Type} {enc : TypeId × Value → H} {w : World} {base : Nat} {spare : Nat → Bool} {held : Bool} {v : Value} {y : DataW H × List MemPlace} {n : Nat} (h : DataW.trod enc Try.prog w base spare held n 3 [v] = some y) : ∃ z : Int, True ∧ (Value.int .i64 z) = v := by
  obtain ⟨z, e, w0⟩ := trod1_int Try.underlying3 h
  exact ⟨z, trivial, e.symm⟩
end Go.Proofs.Ytgbicimbggdpgaa.Disk
