/- A list of functions as it comes in. -/
import Derived.Test.YtbeenfkmnchhbaaExportRight2
namespace Go.Proofs.Ytbeenfkmnchhbaa.Export
open Go.RowKit Go.ChangeShapes Go.WideShapes Go.Deep
set_option linter.unusedVariables false
theorem sg_el {H : Type} {enc : TypeId × Value → H} {w : World} {base : Nat} {spare : Nat → Bool} {held : Bool} (fs : Array Field) (hfs : Try.prog.underlying 96 = some (.struct fs)) (g : Nat → Value)
    (h : ∀ (j : Nat) (f : Field), fs[j]? = some f → ∃ (y : DataW H × List MemPlace) (n : Nat), DataW.trod enc Try.prog w base spare held n f.type [g j] = some y) :
    ∃ x : Sg, (Bytes w w.heap.size x.A x.n x.ps ∧ x.n ≤ x.c ∧ x.c ≤ maxLen) ∧ ∀ j, j < fs.size → (x.row)[j]? = some (g j) := by
  rw [Try.underlying96] at hfs
  injection hfs with hfs
  injection hfs with hfs
  subst hfs
  obtain ⟨y0, n0, t0⟩ := h 0 _ rfl
  obtain ⟨y1, n1, t1⟩ := h 1 _ rfl
  obtain ⟨y2, n2, t2⟩ := h 2 _ rfl
  obtain ⟨s0, e0, h0⟩ := trod1_string Try.underlying9 t0
  obtain ⟨A, m, c, e1, h1⟩ := trod1_slice Try.underlying93 t1
  rw [e1] at h1
  obtain ⟨l, hl, hm, hb⟩ := open_bytes Try.underlying93 Try.underlying94 (by kernel_rfl) h1
  obtain ⟨z, e2, hz⟩ := trod1_int Try.underlying94 t2
  refine ⟨⟨s0, A, m, c, l, UInt8.ofNat z.toNat⟩, ⟨hb, hl, hm⟩, fun j hj => ?_⟩
  match j, hj with
  | 0, _ => rw [e0]; rfl
  | 1, _ => rw [e1]; rfl
  | 2, _ => rw [e2]; show some (Value.int .u8 ((UInt8.ofNat z.toNat).toNat : Int)) = some (Value.int .u8 z); rw [← u8_of_wf hz]
theorem open_sgs {H : Type} {enc : TypeId × Value → H} {w : World} {base : Nat} {spare : Nat → Bool} {held : Bool} {A : Option Addr} {len cap : Nat} {d : DataW H} {p : List MemPlace}
    (h : DataW.Trod enc Try.prog w base spare held 43 (.slice A len cap) d p) : ∃ ss : List Sg, Sgs w A len ss := by
  obtain ⟨ss, hl, _, _, hr, hq⟩ := open_recs Sg.row (fun x : Sg => Bytes w w.heap.size x.A x.n x.ps ∧ x.n ≤ x.c ∧ x.c ≤ maxLen) Try.underlying43 Try.underlying96 (by kernel_rfl) (by kernel_rfl) (by decide) h (fun _ => rfl) (fun g hg => sg_el _ Try.underlying96 g hg)
  exact ⟨ss, hl, hr, hq⟩
end Go.Proofs.Ytbeenfkmnchhbaa.Export
