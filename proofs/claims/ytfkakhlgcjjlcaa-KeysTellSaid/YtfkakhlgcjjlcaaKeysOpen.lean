/- Parts of a key as they come in. -/
import Derived.Test.YtfkakhlgcjjlcaaOpen
import Derived.Test.YtfkakhlgcjjlcaaKeysApart
import Derived.WalkKit
import Derived.ShutString
import Derived.ChangeOld
import Derived.Lib.SmallJoins
namespace Go.Proofs.Ytfkakhlgcjjlcaa.Keys
open Go.RowKit Go.ChangeShapes Go.WideShapes Go.Deep Go.Joins
def depOk (d : DepT) : Prop := d.1.size ≤ maxLen ∧ d.2.size ≤ maxLen
theorem dep_el {H : Type} {enc : TypeId × Value → H} {w : World} {base : Nat} {spare : Nat → Bool} {held : Bool} (fs : Array Field) (hfs : Try.prog.underlying 62 = some (.struct fs)) (g : Nat → Value)
    (h : ∀ (j : Nat) (f : Field), fs[j]? = some f → ∃ (y : DataW H × List MemPlace) (n : Nat), DataW.trod enc Try.prog w base spare held n f.type [g j] = some y) : ∃ x : DepT, depOk x ∧ ∀ j, j < fs.size → (depRow x)[j]? = some (g j) := by
  rw [Try.underlying62] at hfs
  injection hfs with hfs
  injection hfs with hfs
  subst hfs
  obtain ⟨y0, n0, t0⟩ := h 0 _ rfl
  obtain ⟨y1, n1, t1⟩ := h 1 _ rfl
  obtain ⟨s0, e0, h0⟩ := trod1_string Try.underlying9 t0
  obtain ⟨s1, e1, h1⟩ := trod1_string Try.underlying9 t1
  refine ⟨(s0, s1), ⟨h0, h1⟩, fun j hj => ?_⟩
  match j, hj with
  | 0, _ => rw [e0]; rfl
  | 1, _ => rw [e1]; rfl
theorem open_made {H : Type} {enc : TypeId × Value → H} {w : World} {base : Nat} {spare : Nat → Bool} {held : Bool} {r : Reach} {b0 : Nat} {v : Value} {d : DataW H} {p : List MemPlace} (hv : Value.okWide Try.prog w r b0 38 v) (h : DataW.Trod enc Try.prog w base spare held 38 v d p) :
    ∃ (r : Int) (p t : ByteArray) (A : Option Addr) (m c : Nat) (ds : List DepT), v = .agg #[.int .i64 r, .string p, .string t, .slice A m c] ∧ MadeIn w A m ds ∧ p.size ≤ maxLen ∧ t.size ≤ maxLen ∧ (-9223372036854775808 ≤ r ∧ r < 9223372036854775808) := by
  obtain ⟨x0, x1, x2, x3, y0, y1, y2, y3, n, rfl, rfl, rfl, t0, t1, t2, t3⟩ := open_agg4 Try.underlying38 (by kernel_rfl) (by kernel_rfl) hv h
  obtain ⟨r, rfl, wr⟩ := trod1_int Try.underlying3 t0
  obtain ⟨p, rfl, hp⟩ := trod1_string Try.underlying9 t1
  obtain ⟨t, rfl, ht⟩ := trod1_string Try.underlying9 t2
  obtain ⟨A, m, c, rfl, h3⟩ := trod1_slice Try.underlying36 t3
  obtain ⟨ds, hl, _, _, hr, hq⟩ := open_recs depRow depOk Try.underlying36 Try.underlying62 (by kernel_rfl) (by kernel_rfl) (by decide) h3 (fun _ => rfl) (fun g hg => dep_el _ Try.underlying62 g hg)
  have b := bounds_i64 wr
  exact ⟨r, p, t, A, m, c, ds, rfl, ⟨hl, hr, hq⟩, hp, ht, by omega, by omega⟩
end Go.Proofs.Ytfkakhlgcjjlcaa.Keys
