/- Acts on a journal as they come in, and what else is told of them. -/
import Derived.Test.YthgfmoogagldmaaGreatOpens
import Derived.Test.YthgfmoogagldmaaGreatRJ13q
set_option linter.unusedVariables false
namespace Go.Proofs.YthgfmoogagldmaaGreat.Journal
open Go.RowKit Go.ChangeShapes Go.WideShapes Go.Deep
theorem wf_le {z : Int} (h : (Lit.int .i64 z).wf = true) : z ≤ 9223372036854775807 := by
  have h2 : (decide (-9223372036854775808 ≤ z) && decide (z ≤ 9223372036854775807)) = true := h
  rw [Bool.and_eq_true, decide_eq_true_eq, decide_eq_true_eq] at h2
  exact h2.2
theorem aj_el2 {H : Type} {enc : TypeId × Value → H} {w : World} {base : Nat} {spare : Nat → Bool} {held : Bool} (fs : Array Field) (hfs : Tryz.prog.underlying 37 = some (.struct fs)) (g : Nat → Value)
    (h : ∀ (j : Nat) (f : Field), fs[j]? = some f → ∃ (y : DataW H × List MemPlace) (n : Nat), DataW.trod enc Tryz.prog w base spare held n f.type [g j] = some y) : ∃ x : AJ, (x.in_ w ∧ (x.ss.length ≤ x.Lc ∧ x.Lc ≤ maxLen) ∧ x.n ≤ 9223372036854775807) ∧ ∀ j, j < fs.size → x.row[j]? = some (g j) := by
  rw [Tryz.underlying37] at hfs
  injection hfs with hfs
  injection hfs with hfs
  subst hfs
  obtain ⟨y0, n0, t0⟩ := h 0 _ rfl
  obtain ⟨y1, n1, t1⟩ := h 1 _ rfl
  obtain ⟨y2, n2, t2⟩ := h 2 _ rfl
  obtain ⟨y3, n3, t3⟩ := h 3 _ rfl
  obtain ⟨y4, n4, t4⟩ := h 4 _ rfl
  obtain ⟨z0, e0, w0⟩ := trod1_int Tryz.underlying3 t0
  obtain ⟨z1, e1, w1⟩ := trod1_int Tryz.underlying3 t1
  obtain ⟨A2, len2, cap2, e2, r2⟩ := trod1_slice Tryz.underlying35 t2
  rw [e2] at r2
  obtain ⟨l2, hl2, hm2, hb2⟩ := open_bytes Tryz.underlying35 Tryz.underlying5 (by kernel_rfl) r2
  obtain ⟨A3, len3, cap3, e3, r3⟩ := trod1_slice Tryz.underlying34 t3
  rw [e3] at r3
  obtain ⟨ss, hss, hl3, hm3, hr3, hk3⟩ := open_sls r3
  obtain ⟨A4, len4, cap4, e4, r4⟩ := trod1_slice Tryz.underlying23 t4
  rw [e4] at r4
  obtain ⟨zs, hzs, _, _, hr4, _⟩ := open_one (Value.int .i64) (fun _ => True) Tryz.underlying23 (by kernel_rfl) r4 (fun v ⟨y, n, ht⟩ => fate6_el ht)
  subst hss
  subst hzs
  refine ⟨⟨z0, z1, ⟨A2, len2, cap2, l2⟩, A3, cap3, ss, A4, cap4, zs⟩, ⟨⟨⟨hb2, hl2, hm2⟩, hr3, hk3, hr4⟩, ⟨hl3, hm3⟩, wf_le w1⟩, fun j hj => ?_⟩
  match j, hj with
  | 0, _ => rw [e0]; rfl
  | 1, _ => rw [e1]; rfl
  | 2, _ => rw [e2]; rfl
  | 3, _ => rw [e3]; rfl
  | 4, _ => rw [e4]; rfl
end Go.Proofs.YthgfmoogagldmaaGreat.Journal
