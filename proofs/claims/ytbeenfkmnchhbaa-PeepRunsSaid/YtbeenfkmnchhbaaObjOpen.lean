/- An object as it comes in. -/
import Derived.Test.YtbeenfkmnchhbaaOpen
import Derived.Test.YtbeenfkmnchhbaaObjMath
import Derived.WalkKit
import Derived.ShutString
import Derived.ChangeOld
import Derived.Lib.SmallJoins
namespace Go.Proofs.Ytbeenfkmnchhbaa.Object
open Go.RowKit Go.ChangeShapes Go.WideShapes Go.Deep Go.Joins
set_option linter.unusedVariables false
set_option maxRecDepth 100000
theorem cd_el {H : Type} {enc : TypeId × Value → H} {w : World} {base : Nat} {spare : Nat → Bool} {held : Bool} (fs : Array Field) (hfs : Try.prog.underlying 59 = some (.struct fs)) (g : Nat → Value)
    (h : ∀ (j : Nat) (f : Field), fs[j]? = some f → ∃ (y : DataW H × List MemPlace) (n : Nat), DataW.trod enc Try.prog w base spare held n f.type [g j] = some y) : ∃ x : Cd, in64 x.n ∧ ∀ j, j < fs.size → (x.row)[j]? = some (g j) := by
  rw [Try.underlying59] at hfs
  injection hfs with hfs
  injection hfs with hfs
  subst hfs
  obtain ⟨y0, n0, t0⟩ := h 0 _ rfl
  obtain ⟨y1, n1, t1⟩ := h 1 _ rfl
  obtain ⟨y2, n2, t2⟩ := h 2 _ rfl
  obtain ⟨y3, n3, t3⟩ := h 3 _ rfl
  obtain ⟨y4, n4, t4⟩ := h 4 _ rfl
  obtain ⟨z0, e0, w0⟩ := trod1_int Try.underlying3 t0
  obtain ⟨z1, e1, w1⟩ := trod1_int Try.underlying3 t1
  obtain ⟨z2, e2, w2⟩ := trod1_int Try.underlying3 t2
  obtain ⟨z3, e3, w3⟩ := trod1_int Try.underlying3 t3
  obtain ⟨z4, e4, w4⟩ := trod1_int Try.underlying2 t4
  have b := bounds_i64 w4
  refine ⟨⟨z0, z1, z2, z3, z4⟩, ⟨by simp only; omega, by simp only; omega⟩, fun j hj => ?_⟩
  match j, hj with
  | 0, _ => rw [e0]; rfl
  | 1, _ => rw [e1]; rfl
  | 2, _ => rw [e2]; rfl
  | 3, _ => rw [e3]; rfl
  | 4, _ => rw [e4]; rfl
theorem en_el {H : Type} {enc : TypeId × Value → H} {w : World} {base : Nat} {spare : Nat → Bool} {held : Bool} (fs : Array Field) (hfs : Try.prog.underlying 73 = some (.struct fs)) (g : Nat → Value)
    (h : ∀ (j : Nat) (f : Field), fs[j]? = some f → ∃ (y : DataW H × List MemPlace) (n : Nat), DataW.trod enc Try.prog w base spare held n f.type [g j] = some y) : ∃ x : En, in64 x.pos ∧ ∀ j, j < fs.size → (x.row)[j]? = some (g j) := by
  rw [Try.underlying73] at hfs
  injection hfs with hfs
  injection hfs with hfs
  subst hfs
  obtain ⟨y0, n0, t0⟩ := h 0 _ rfl
  obtain ⟨y1, n1, t1⟩ := h 1 _ rfl
  obtain ⟨s0, e0, h0⟩ := trod1_string Try.underlying9 t0
  obtain ⟨z1, e1, w1⟩ := trod1_int Try.underlying3 t1
  have b := bounds_i64 w1
  refine ⟨⟨s0, z1⟩, ⟨by simp only; omega, by simp only; omega⟩, fun j hj => ?_⟩
  match j, hj with
  | 0, _ => rw [e0]; rfl
  | 1, _ => rw [e1]; rfl
theorem cl_el {H : Type} {enc : TypeId × Value → H} {w : World} {base : Nat} {spare : Nat → Bool} {held : Bool} (fs : Array Field) (hfs : Try.prog.underlying 75 = some (.struct fs)) (g : Nat → Value)
    (h : ∀ (j : Nat) (f : Field), fs[j]? = some f → ∃ (y : DataW H × List MemPlace) (n : Nat), DataW.trod enc Try.prog w base spare held n f.type [g j] = some y) : ∃ x : En, in64 x.pos ∧ ∀ j, j < fs.size → (x.rowC)[j]? = some (g j) := by
  rw [Try.underlying75] at hfs
  injection hfs with hfs
  injection hfs with hfs
  subst hfs
  obtain ⟨y0, n0, t0⟩ := h 0 _ rfl
  obtain ⟨y1, n1, t1⟩ := h 1 _ rfl
  obtain ⟨z0, e0, w0⟩ := trod1_int Try.underlying3 t0
  obtain ⟨s1, e1, h1⟩ := trod1_string Try.underlying9 t1
  have b := bounds_i64 w0
  refine ⟨⟨s1, z0⟩, ⟨by simp only; omega, by simp only; omega⟩, fun j hj => ?_⟩
  match j, hj with
  | 0, _ => rw [e0]; rfl
  | 1, _ => rw [e1]; rfl
theorem open_obj {H : Type} {enc : TypeId × Value → H} {w : World} {base : Nat} {spare : Nat → Bool} {held : Bool} {r : Reach} {b0 : Nat} {v : Value} {d : DataW H} {p : List MemPlace} (hv : Value.okWide Try.prog w r b0 57 v) (h : DataW.Trod enc Try.prog w base spare held 57 v d p) :
    ∃ (A1 : Option Addr) (m1 p1 : Nat) (A2 : Option Addr) (m2 p2 : Nat) (A3 : Option Addr) (m3 p3 : Nat) (D : OD), v = .agg #[.slice A1 m1 p1, .slice A2 m2 p2, .slice A3 m3 p3] ∧ IsOb w ⟨A1, m1, p1, A2, m2, p2, A3, m3, p3⟩ D ∧ In64 D := by
  obtain ⟨x0, x1, x2, y0, y1, y2, n, rfl, rfl, rfl, t0, t1, t2⟩ := open_agg3 Try.underlying57 (by kernel_rfl) (by kernel_rfl) hv h
  obtain ⟨A1, m1, p1, rfl, h1⟩ := trod1_slice Try.underlying53 t0
  obtain ⟨A2, m2, p2, rfl, h2⟩ := trod1_slice Try.underlying54 t1
  obtain ⟨A3, m3, p3, rfl, h3⟩ := trod1_slice Try.underlying55 t2
  obtain ⟨cs, hl1, hc1, hm1, hr1, hq1⟩ := open_recs Cd.row (fun x : Cd => in64 x.n) Try.underlying53 Try.underlying59 (by kernel_rfl) (by kernel_rfl) (by decide) h1 (fun _ => rfl) (fun g hg => cd_el _ Try.underlying59 g hg)
  obtain ⟨es, hl2, hc2, hm2, hr2, hq2⟩ := open_recs En.row (fun x : En => in64 x.pos) Try.underlying54 Try.underlying73 (by kernel_rfl) (by kernel_rfl) (by decide) h2 (fun _ => rfl) (fun g hg => en_el _ Try.underlying73 g hg)
  obtain ⟨ls, hl3, hc3, hm3, hr3, hq3⟩ := open_recs En.rowC (fun x : En => in64 x.pos) Try.underlying55 Try.underlying75 (by kernel_rfl) (by kernel_rfl) (by decide) h3 (fun _ => rfl) (fun g hg => cl_el _ Try.underlying75 g hg)
  exact ⟨A1, m1, p1, A2, m2, p2, A3, m3, p3, ⟨cs, es, ls⟩, rfl, ⟨hr1, hr2, hr3, ⟨hc1, hm1⟩, ⟨hc2, hm2⟩, ⟨hc3, hm3⟩⟩, ⟨hq1, hq2, hq3⟩⟩
end Go.Proofs.Ytbeenfkmnchhbaa.Object
