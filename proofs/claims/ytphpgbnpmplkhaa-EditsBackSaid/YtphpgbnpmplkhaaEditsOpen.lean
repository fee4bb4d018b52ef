/- A tree of sources as it comes in. -/
import Derived.Test.YtphpgbnpmplkhaaOpen
import Derived.Test.YtphpgbnpmplkhaaEditsMap
import Derived.WalkKit
import Derived.ShutString
import Derived.ChangeOld
import Derived.Lib.SmallJoins
namespace Go.Proofs.Ytphpgbnpmplkhaa.Edits
open Go.RowKit Go.ChangeShapes Go.WideShapes Go.Deep Go.Joins
set_option linter.unusedVariables false
set_option maxRecDepth 100000
theorem src_el {H : Type} {enc : TypeId × Value → H} {w : World} {base : Nat} {spare : Nat → Bool} {held : Bool} (fs : Array Field) (hfs : Try.prog.underlying 30 = some (.struct fs)) (g : Nat → Value)
    (h : ∀ (j : Nat) (f : Field), fs[j]? = some f → ∃ (y : DataW H × List MemPlace) (n : Nat), DataW.trod enc Try.prog w base spare held n f.type [g j] = some y) : ∃ x : Src, True ∧ ∀ j, j < fs.size → (x.row)[j]? = some (g j) := by
  rw [Try.underlying30] at hfs
  injection hfs with hfs
  injection hfs with hfs
  subst hfs
  obtain ⟨y0, n0, t0⟩ := h 0 _ rfl
  obtain ⟨y1, n1, t1⟩ := h 1 _ rfl
  obtain ⟨s0, e0, h0⟩ := trod1_string Try.underlying9 t0
  obtain ⟨s1, e1, h1⟩ := trod1_string Try.underlying9 t1
  refine ⟨⟨s0, s1⟩, trivial, fun j hj => ?_⟩
  match j, hj with
  | 0, _ => rw [e0]; rfl
  | 1, _ => rw [e1]; rfl
theorem open_srcs {H : Type} {enc : TypeId × Value → H} {w : World} {base : Nat} {spare : Nat → Bool} {held : Bool} {A : Option Addr} {len cap : Nat} {d : DataW H} {p : List MemPlace} (h : DataW.Trod enc Try.prog w base spare held 22 (.slice A len cap) d p) :
    ∃ l : List Src, Recs w w.heap.size 2 A len (l.map Src.row) := by
  obtain ⟨cs, hl1, hc1, hm1, hr1, hq1⟩ := open_recs Src.row (fun _ : Src => True) Try.underlying22 Try.underlying30 (by kernel_rfl) (by kernel_rfl) (by decide) h (fun _ => rfl) (fun g hg => src_el _ Try.underlying30 g hg)
  exact ⟨cs, hr1⟩
end Go.Proofs.Ytphpgbnpmplkhaa.Edits
