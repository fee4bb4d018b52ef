/- Nodes as they come in. -/
import Derived.Test.YtdfiibnpckahnaaGL1
import Derived.Test.YtdfiibnpckahnaaOpen
import Derived.Test.YtdfiibnpckahnaaOpenOne
namespace Go.Proofs.Ytdfiibnpckahnaa.Graph
open Go.RowKit Go.Shelf Go.ChangeShapes Go.WideShapes Go.Deep
set_option linter.unusedVariables false
set_option maxRecDepth 100000
theorem sv_str (s : ByteArray) : Value.string s = sv s.data.toList := rfl
theorem nd_el {H : Type} {enc : TypeId × Value → H} {w : World} {base : Nat} {spare : Nat → Bool} {held : Bool} (fs : Array Field) (hfs : Try.prog.underlying 32 = some (.struct fs)) (g : Nat → Value)
    (h : ∀ (j : Nat) (f : Field), fs[j]? = some f → ∃ (y : DataW H × List MemPlace) (n : Nat), DataW.trod enc Try.prog w base spare held n f.type [g j] = some y) : ∃ x : ND, x.rd w w.heap.size ∧ ∀ j, j < fs.size → x.row[j]? = some (g j) := by
  rw [Try.underlying32] at hfs
  injection hfs with hfs
  injection hfs with hfs
  subst hfs
  obtain ⟨y0, n0, t0⟩ := h 0 _ rfl
  obtain ⟨y1, n1, t1⟩ := h 1 _ rfl
  obtain ⟨s0, e0, _⟩ := trod1_string Try.underlying9 t0
  obtain ⟨A1, len1, cap1, e1, r1⟩ := trod1_slice Try.underlying25 t1
  rw [e1] at r1
  obtain ⟨zs, hzs, _, _, hr1, _⟩ := open_one sv (fun _ => True) Try.underlying25 (by kernel_rfl) r1 (fun v ⟨y, n, ht⟩ => by
    obtain ⟨s, e, _⟩ := trod1_string Try.underlying9 ht
    exact ⟨s.data.toList, trivial, by rw [e]; rfl⟩)
  subst hzs
  refine ⟨⟨s0.data.toList, A1, cap1, zs⟩, hr1, fun j hj => ?_⟩
  match j, hj with
  | 0, _ => rw [e0]; rfl
  | 1, _ => rw [e1]; rfl
end Go.Proofs.Ytdfiibnpckahnaa.Graph
