/- A step of the machine. PRINTED by wip/gen_vestep.py. -/
import Derived.Test.YtkdacemachejoaaMsB
import Derived.Deep.DeepCutAuto
import Derived.Deep.CutBlock
namespace Go.Proofs.Ytkdacemachejoaa.Vm
open Go.RowKit Go.Shelf Object
set_option linter.unusedVariables false
set_option maxRecDepth 100000
section
variable {w : World} {base mb cn cc : Nat} {cA : Option Addr} {fv ov : Value} {pre : List FB} {x : FB} {out : List Int} {en : Int}
set_option maxHeartbeats 8000000 in
theorem step_1 (cs : List Cd) (B i : Nat) (ka : Nat) (b c n : Int) (h : MIn w base mb cA cn cc fv ov (pre ++ [x]) (i : Int) out en false) (hr : Recs w B 5 cA cn (cs.map Cd.row)) (hi : i < cn) (hc : cs[i]? = some ⟨1, (ka : Int), b, c, n⟩) (hB : B ≤ base) (hp : pre.length ≤ 201) (hcn : cn ≤ 65536) (hka : ka < 8) :
    Calls Try.prog 26 #[.pointer (some ⟨mb, 0, none⟩)] w (StepO w base mb cA cn cc ⟨pre.map FB.f, { x.f with r := x.f.r.set ka n }, (i : Int) + 1, out, en, false⟩) := by
  obtain ⟨cb, co, rfl, hcb, c', _, hc', p0, p1, p2, p3, p4⟩ := cd_at hr i hi
  obtain rfl : c' = ⟨1, (ka : Int), b, c, n⟩ := by rw [hc] at hc'; exact (Option.some.inj hc').symm
  simp only at p0 p1 p2 p3 p4
  obtain ⟨fA, fc, rfl, hfcap, hfx, hfy, hsh⟩ := h.frs.shape (by decide)
  obtain ⟨m, hm⟩ : ∃ m, pre.length = m := ⟨_, rfl⟩
  obtain ⟨n1, hn1⟩ : ∃ n1, m + 1 = n1 := ⟨_, rfl⟩
  have hl : (pre ++ [x]).length = n1 := by simp [hm, hn1]
  rw [hl] at hfcap
  rcases hsh with ⟨rfl, rfl⟩ | ⟨g, rfl, hgb, hgl⟩
  · omega
  have hmb := h.mbase
  have hbl := h.base_le
  have hfr := h.frs
  rw [hl] at h hfr
  have q0 : w.cell? ⟨g, m, none⟩ = some (.pointer (some ⟨x.fb, 0, none⟩)) := by
    have h1 := hfr.cellOf (i := m) (j := 0) (by omega) (by decide)
    rw [Nat.mul_one, Nat.add_zero] at h1
    rw [h1]
    have e : ((pre ++ [x]).map FB.prow).getD m [] = x.prow := by
      rw [List.getD_eq_getElem?_getD, List.getElem?_map, List.getElem?_append_right (by omega), hm]
      simp
    rw [e]
    rfl
  have b0 : Blk w mb 58 (mcells (some ⟨cb, co, none⟩) cn cc (.slice (some ⟨g, 0, none⟩) n1 fc) (i : Int) ov en false) := h.blk
  have hcm : cb ≠ mb := by omega
  obtain ⟨w2, hw2⟩ : ∃ w2, w.drew.drew.alloc (.cells #[.int .i64 0, .int .i64 0, .int .i64 0, .int .i64 0, .int .i64 0] 27) = w2 := ⟨_, rfl⟩
  have bz2 : Blk w2 w.heap.size 27 #[.int .i64 0, .int .i64 0, .int .i64 0, .int .i64 0, .int .i64 0] := by rw [← hw2]; exact Blk.new w.drew.drew _ _
  have o2 : Only [] w w2 := by rw [← hw2]; exact (Only.refl [] w).drew.drew.alloc _
  obtain ⟨w3, hw3⟩ : ∃ w3, ((((w2.setCell ⟨w.heap.size, 0, none⟩ (.int .i64 1)).setCell ⟨w.heap.size, 1, none⟩ (.int .i64 (ka : Int))).setCell ⟨w.heap.size, 2, none⟩ (.int .i64 b)).setCell ⟨w.heap.size, 3, none⟩ (.int .i64 c)).setCell ⟨w.heap.size, 4, none⟩ (.int .i64 n) = w3 := ⟨_, rfl⟩
  have bz3 : Blk w3 w.heap.size 27 #[.int .i64 1, .int .i64 (ka : Int), .int .i64 b, .int .i64 c, .int .i64 n] := by rw [← hw3]; exact ((((bz2.set_ 0 _).set_ 1 _).set_ 2 _).set_ 3 _).set_ 4 _
  have o3 : Only [] w w3 := by rw [← hw3]; exact ((((o2.setCell (.inr (Nat.le_refl _)) _).setCell (.inr (Nat.le_refl _)) _).setCell (.inr (Nat.le_refl _)) _).setCell (.inr (Nat.le_refl _)) _).setCell (.inr (Nat.le_refl _)) _
  have b3 := b0.only o3 (by simp)
  obtain ⟨w4, hw4⟩ : ∃ w4, w3.setCell ⟨mb, 2, none⟩ (.int .i64 ((i : Int) + 1)) = w4 := ⟨_, rfl⟩
  have b4 : Blk w4 mb 58 (mcells (some ⟨cb, co, none⟩) cn cc (.slice (some ⟨g, 0, none⟩) n1 fc) ((i : Int) + 1) ov en false) := by rw [← hw4]; exact b3.set_ 2 _
  have o4 : Only [mb] w w4 := by rw [← hw4]; exact (o3.mono (S' := [mb]) (by simp)).setCell (.inl (by simp)) _
  have hbm : w.heap.size ≠ mb := by have := b0.lt; omega
  have bz4 : Blk w4 w.heap.size 27 #[.int .i64 1, .int .i64 (ka : Int), .int .i64 b, .int .i64 c, .int .i64 n] := by rw [← hw4]; exact bz3.far (p := ⟨mb, 2, none⟩) hbm _
  have HM := Lib.hid (h.mach b4 o4)
  have HC := Lib.hid bz4
  have HO := Lib.hid (And.intro o4 (o4.to_below hbl (by simpa using hmb)))
  have HBS := Lib.hid (And.intro hmb hbl)
  have hS0 : (fun Y => Y.cell? ⟨mb, 1, none⟩ = some (.slice (some ⟨g, 0, none⟩) n1 fc) ∧ Y.cell? ⟨g, m, none⟩ = some (.pointer (some ⟨x.fb, 0, none⟩))) w.drew := ⟨b0.cell 1, q0⟩
  have HS1 : Hid (∀ Y, Only [] w Y → (fun Y => Y.cell? ⟨mb, 0, none⟩ = some (.slice (some ⟨cb, co, none⟩) cn cc) ∧ Y.cell? ⟨mb, 2, none⟩ = some (.int .i64 (i : Int)) ∧ Y.cell? ⟨cb, co + i * 5, none⟩ = some (.int .i64 1) ∧ Y.cell? ⟨cb, co + i * 5 + 1, none⟩ = some (.int .i64 (ka : Int)) ∧ Y.cell? ⟨cb, co + i * 5 + 2, none⟩ = some (.int .i64 b) ∧ Y.cell? ⟨cb, co + i * 5 + 3, none⟩ = some (.int .i64 c) ∧ Y.cell? ⟨cb, co + i * 5 + 4, none⟩ = some (.int .i64 n)) Y) := Lib.hid (fun Y hY => ⟨(b0.only hY (by simp)).cell 0, (b0.only hY (by simp)).cell 2, hY.cell p0 (by simp), hY.cell p1 (by simp), hY.cell p2 (by simp), hY.cell p3 (by simp), hY.cell p4 (by simp)⟩)
  have hS1 := HS1.out w.drew.drew (Only.refl [] w).drew.drew
  have hS2 := HS1.out w2 o2
  have hS3 := HS1.out w3 o3
  have y0 : w2.cell? ⟨w.heap.size, 0, none⟩ = some (.int .i64 0) := bz2.cell 0
  have y1 : w2.cell? ⟨w.heap.size, 1, none⟩ = some (.int .i64 0) := bz2.cell 1
  have y2 : w2.cell? ⟨w.heap.size, 2, none⟩ = some (.int .i64 0) := bz2.cell 2
  have y3 : w2.cell? ⟨w.heap.size, 3, none⟩ = some (.int .i64 0) := bz2.cell 3
  have y4 : w2.cell? ⟨w.heap.size, 4, none⟩ = some (.int .i64 0) := bz2.cell 4
  have z0 := bz2.frozen 0
  have z1 := bz2.frozen 1
  have z2 := bz2.frozen 2
  have z3 := bz2.frozen 3
  have z4 := bz2.frozen 4
  have p2' : w3.cell? ⟨mb, 2, none⟩ = some (.int .i64 (i : Int)) := b3.cell 2
  have zm2 := b3.frozen 2
  have c0 : w4.cell? ⟨w.heap.size, 0, none⟩ = some (.int .i64 1) := bz4.cell 0
  have HKA := Lib.hid hka
  have HK := Lib.hid hka
  have HI := Lib.hid (And.intro hi (And.intro hcn (And.intro hp (And.intro hm hn1))))
  clear hka h hr hc hc' hfcap hfx hfy hi hcn hp hm hn1 hmb hbl hfr q0 b0 b3 b4 o2 o3 o4 bz2 bz3 bz4 hbm hcm p0 p1 p2 p3 p4 hgb hgl hl hcb hB
  go_enter Try.func26, Try.ntmps26
  go_upto_region 0 with fail
  refine wp_region_hand (S := (fun Y => Y.cell? ⟨mb, 1, none⟩ = some (.slice (some ⟨g, 0, none⟩) n1 fc) ∧ Y.cell? ⟨g, m, none⟩ = some (.pointer (some ⟨x.fb, 0, none⟩)))) (by kernel_rfl) ?_
  refine takeW (i := 0) rfl (by kernel_rfl) (by kernel_rfl) (by kernel_rfl) (fun _ _ _ h => h) rfl (by rfl) (v := .pointer (some ⟨mb, 0, none⟩)) (fun Y hY => by obtain ⟨y0, y1⟩ := hY; go_simp) hS0 ?_
  simp only [List.setIfInBounds_toArray, List.set_cons_zero, List.set_cons_succ]
  refine takeW (i := 1) rfl (by kernel_rfl) (by kernel_rfl) (by kernel_rfl) (fun _ _ _ h => h) rfl (by rfl) (v := .pointer (some ⟨mb, 0, none⟩)) (fun Y hY => by obtain ⟨y0, y1⟩ := hY; go_simp) hS0 ?_
  simp only [List.setIfInBounds_toArray, List.set_cons_zero, List.set_cons_succ]
  refine takeW (i := 2) rfl (by kernel_rfl) (by kernel_rfl) (by kernel_rfl) (fun _ _ _ h => h) rfl (by rfl) (v := .pointer (some ⟨mb, 1, none⟩)) (fun Y hY => by obtain ⟨y0, y1⟩ := hY; go_simp) hS0 ?_
  simp only [List.setIfInBounds_toArray, List.set_cons_zero, List.set_cons_succ]
  refine takeW (i := 3) rfl (by kernel_rfl) (by kernel_rfl) (by kernel_rfl) (fun _ _ _ h => h) rfl (by rfl) (v := .slice (some ⟨g, 0, none⟩) n1 fc) (fun Y hY => by obtain ⟨y0, y1⟩ := hY; go_simp) hS0 ?_
  simp only [List.setIfInBounds_toArray, List.set_cons_zero, List.set_cons_succ]
  refine takeW (i := 4) rfl (by kernel_rfl) (by kernel_rfl) (by kernel_rfl) (fun _ _ _ h => h) rfl (by rfl) (v := .pointer (some ⟨mb, 0, none⟩)) (fun Y hY => by obtain ⟨y0, y1⟩ := hY; go_simp) hS0 ?_
  simp only [List.setIfInBounds_toArray, List.set_cons_zero, List.set_cons_succ]
  refine takeW (i := 5) rfl (by kernel_rfl) (by kernel_rfl) (by kernel_rfl) (fun _ _ _ h => h) rfl (by rfl) (v := .pointer (some ⟨mb, 0, none⟩)) (fun Y hY => by obtain ⟨y0, y1⟩ := hY; go_simp) hS0 ?_
  simp only [List.setIfInBounds_toArray, List.set_cons_zero, List.set_cons_succ]
  refine takeW (i := 6) rfl (by kernel_rfl) (by kernel_rfl) (by kernel_rfl) (fun _ _ _ h => h) rfl (by rfl) (v := .pointer (some ⟨mb, 1, none⟩)) (fun Y hY => by obtain ⟨y0, y1⟩ := hY; go_simp) hS0 ?_
  simp only [List.setIfInBounds_toArray, List.set_cons_zero, List.set_cons_succ]
  refine takeW (i := 7) rfl (by kernel_rfl) (by kernel_rfl) (by kernel_rfl) (fun _ _ _ h => h) rfl (by rfl) (v := .slice (some ⟨g, 0, none⟩) n1 fc) (fun Y hY => by obtain ⟨y0, y1⟩ := hY; go_simp) hS0 ?_
  simp only [List.setIfInBounds_toArray, List.set_cons_zero, List.set_cons_succ]
  refine takeW (i := 8) rfl (by kernel_rfl) (by kernel_rfl) (by kernel_rfl) (fun _ _ _ h => h) rfl (by rfl) (v := .int .i64 n1) (fun Y hY => by obtain ⟨y0, y1⟩ := hY; go_simp) hS0 ?_
  simp only [List.setIfInBounds_toArray, List.set_cons_zero, List.set_cons_succ]
  refine takeW (i := 9) rfl (by kernel_rfl) (by kernel_rfl) (by kernel_rfl) (fun _ _ _ h => h) rfl (by rfl) (v := .int .i64 (m : Int)) (fun Y hY => by obtain ⟨y0, y1⟩ := hY; go_simp; first | (intro h; have h1 := HI.out; have h2 := HK.out; omega) | (rw [IntKind.wrap_i64]; have h1 := HI.out; have h2 := HK.out; omega) | skip) hS0 ?_
  simp only [List.setIfInBounds_toArray, List.set_cons_zero, List.set_cons_succ]
  refine takeW (i := 10) rfl (by kernel_rfl) (by kernel_rfl) (by kernel_rfl) (fun _ _ _ h => h) rfl (by rfl) (v := .pointer (some ⟨g, m, none⟩)) (fun Y hY => by obtain ⟨y0, y1⟩ := hY; go_simp; first | (intro h; have h1 := HI.out; have h2 := HK.out; omega) | (rw [IntKind.wrap_i64]; have h1 := HI.out; have h2 := HK.out; omega) | skip) hS0 ?_
  simp only [List.setIfInBounds_toArray, List.set_cons_zero, List.set_cons_succ]
  refine takeW (i := 11) rfl (by kernel_rfl) (by kernel_rfl) (by kernel_rfl) (fun _ _ _ h => h) rfl (by rfl) (v := .pointer (some ⟨x.fb, 0, none⟩)) (fun Y hY => by obtain ⟨y0, y1⟩ := hY; go_simp) hS0 ?_
  simp only [List.setIfInBounds_toArray, List.set_cons_zero, List.set_cons_succ]
  refine takeW (i := 12) rfl (by kernel_rfl) (by kernel_rfl) (by kernel_rfl) (fun _ _ _ h => h) rfl (by rfl) (v := .pointer (some ⟨x.fb, 0, none⟩)) (fun Y hY => by obtain ⟨y0, y1⟩ := hY; go_simp) hS0 ?_
  simp only [List.setIfInBounds_toArray, List.set_cons_zero, List.set_cons_succ]
  refine wpAnyH_done (by kernel_rfl) ?_ _
  clear hS0
  go_upto_region 1 with fail
  refine wp_region_hand (S := (fun Y => Y.cell? ⟨mb, 0, none⟩ = some (.slice (some ⟨cb, co, none⟩) cn cc) ∧ Y.cell? ⟨mb, 2, none⟩ = some (.int .i64 (i : Int)) ∧ Y.cell? ⟨cb, co + i * 5, none⟩ = some (.int .i64 1) ∧ Y.cell? ⟨cb, co + i * 5 + 1, none⟩ = some (.int .i64 (ka : Int)) ∧ Y.cell? ⟨cb, co + i * 5 + 2, none⟩ = some (.int .i64 b) ∧ Y.cell? ⟨cb, co + i * 5 + 3, none⟩ = some (.int .i64 c) ∧ Y.cell? ⟨cb, co + i * 5 + 4, none⟩ = some (.int .i64 n))) (by kernel_rfl) ?_
  refine takeW (i := 0) rfl (by kernel_rfl) (by kernel_rfl) (by kernel_rfl) (fun _ _ _ h => h) rfl (by rfl) (v := .pointer (some ⟨mb, 0, none⟩)) (fun Y hY => by obtain ⟨y0, y1, y2, y3, y4, y5, y6⟩ := hY; go_simp) hS1 ?_
  simp only [List.setIfInBounds_toArray, List.set_cons_zero, List.set_cons_succ]
  refine takeW (i := 1) rfl (by kernel_rfl) (by kernel_rfl) (by kernel_rfl) (fun _ _ _ h => h) rfl (by rfl) (v := .pointer (some ⟨mb, 0, none⟩)) (fun Y hY => by obtain ⟨y0, y1, y2, y3, y4, y5, y6⟩ := hY; go_simp) hS1 ?_
  simp only [List.setIfInBounds_toArray, List.set_cons_zero, List.set_cons_succ]
  refine takeW (i := 2) rfl (by kernel_rfl) (by kernel_rfl) (by kernel_rfl) (fun _ _ _ h => h) rfl (by rfl) (v := .pointer (some ⟨mb, 0, none⟩)) (fun Y hY => by obtain ⟨y0, y1, y2, y3, y4, y5, y6⟩ := hY; go_simp) hS1 ?_
  simp only [List.setIfInBounds_toArray, List.set_cons_zero, List.set_cons_succ]
  refine takeW (i := 3) rfl (by kernel_rfl) (by kernel_rfl) (by kernel_rfl) (fun _ _ _ h => h) rfl (by rfl) (v := .slice (some ⟨cb, co, none⟩) cn cc) (fun Y hY => by obtain ⟨y0, y1, y2, y3, y4, y5, y6⟩ := hY; go_simp) hS1 ?_
  simp only [List.setIfInBounds_toArray, List.set_cons_zero, List.set_cons_succ]
  refine takeW (i := 4) rfl (by kernel_rfl) (by kernel_rfl) (by kernel_rfl) (fun _ _ _ h => h) rfl (by rfl) (v := .pointer (some ⟨mb, 0, none⟩)) (fun Y hY => by obtain ⟨y0, y1, y2, y3, y4, y5, y6⟩ := hY; go_simp) hS1 ?_
  simp only [List.setIfInBounds_toArray, List.set_cons_zero, List.set_cons_succ]
  refine takeW (i := 5) rfl (by kernel_rfl) (by kernel_rfl) (by kernel_rfl) (fun _ _ _ h => h) rfl (by rfl) (v := .pointer (some ⟨mb, 0, none⟩)) (fun Y hY => by obtain ⟨y0, y1, y2, y3, y4, y5, y6⟩ := hY; go_simp) hS1 ?_
  simp only [List.setIfInBounds_toArray, List.set_cons_zero, List.set_cons_succ]
  refine takeW (i := 6) rfl (by kernel_rfl) (by kernel_rfl) (by kernel_rfl) (fun _ _ _ h => h) rfl (by rfl) (v := .pointer (some ⟨mb, 2, none⟩)) (fun Y hY => by obtain ⟨y0, y1, y2, y3, y4, y5, y6⟩ := hY; go_simp) hS1 ?_
  simp only [List.setIfInBounds_toArray, List.set_cons_zero, List.set_cons_succ]
  refine takeW (i := 7) rfl (by kernel_rfl) (by kernel_rfl) (by kernel_rfl) (fun _ _ _ h => h) rfl (by rfl) (v := .int .i64 (i : Int)) (fun Y hY => by obtain ⟨y0, y1, y2, y3, y4, y5, y6⟩ := hY; go_simp) hS1 ?_
  simp only [List.setIfInBounds_toArray, List.set_cons_zero, List.set_cons_succ]
  refine takeW (i := 8) rfl (by kernel_rfl) (by kernel_rfl) (by kernel_rfl) (fun _ _ _ h => h) rfl (by rfl) (v := .pointer (some ⟨cb, co + i * 5, none⟩)) (fun Y hY => by obtain ⟨y0, y1, y2, y3, y4, y5, y6⟩ := hY; go_simp; first | (intro h; have h1 := HI.out; have h2 := HK.out; omega) | (rw [IntKind.wrap_i64]; have h1 := HI.out; have h2 := HK.out; omega) | skip) hS1 ?_
  simp only [List.setIfInBounds_toArray, List.set_cons_zero, List.set_cons_succ]
  refine takeW (i := 9) rfl (by kernel_rfl) (by kernel_rfl) (by kernel_rfl) (fun _ _ _ h => h) rfl (by rfl) (v := .agg #[.int .i64 1, .int .i64 (ka : Int), .int .i64 b, .int .i64 c, .int .i64 n]) (fun Y hY => by obtain ⟨y0, y1, y2, y3, y4, y5, y6⟩ := hY; go_simp) hS1 ?_
  simp only [List.setIfInBounds_toArray, List.set_cons_zero, List.set_cons_succ]
  refine oneW (i := 10) (v := .pointer (some ⟨w.heap.size, 0, none⟩)) (w' := w2) rfl (by kernel_rfl) rfl (by rfl) (by rw [← hw2]; go_simp) hS2 ?_
  simp only [List.setIfInBounds_toArray, List.set_cons_zero, List.set_cons_succ]
  refine oneS (i := 11) (v := undef) (w' := w3) rfl (by kernel_rfl) rfl (by rfl) (by rw [← hw3]; first | (left; go_simp; done) | (right; go_simp; done)) hS3 ?_
  refine wpAnyH_done (by kernel_rfl) ?_ _
  clear hS1 hS2 hS3 hw2 hw3 y0 y1 y2 y3 y4 z0 z1 z2 z3 z4
  have hwr : wrap64 ((i : Int) + 1) = (i : Int) + 1 := by have := HI.out; exact wrap_le (by omega) (by omega)
  go_upto_region 3 with fail
  try rw [hw4]
  clear hw4 p2' zm2 hwr
  have HNE := Lib.hid (code_ne HM.out HC.out)
  have HX := Lib.hid HM.out.hx
  have hS : (fun Y => Y.cell? ⟨w.heap.size, 1, none⟩ = some (.int .i64 (ka : Int)) ∧ Y.cell? ⟨w.heap.size, 4, none⟩ = some (.int .i64 n)) w4.drew := ⟨HC.out.drew.cell 1, HC.out.drew.cell 4⟩
  have hxd : FIn w4.drew base x.fb x.sv x.f := HX.out.only (Only.refl [] w4).drew (by simp) (by simp)
  have ca := reg_cell hxd HKA.out rfl
  have za := hxd.2.1.frozen ka
  have ho : Only [x.fb] w4 (w4.drew.setCell ⟨x.fb, ka, none⟩ (.int .i64 n)) := (Only.refl [x.fb] w4).drew.setCell (.inl (by simp)) _
  have hS5 : (fun Y => Y.cell? ⟨w.heap.size, 1, none⟩ = some (.int .i64 (ka : Int)) ∧ Y.cell? ⟨w.heap.size, 4, none⟩ = some (.int .i64 n)) (w4.drew.setCell ⟨x.fb, ka, none⟩ (.int .i64 n)) := ⟨(HC.out.only ho (by simpa using HNE.out.2.1)).cell 1, (HC.out.only ho (by simpa using HNE.out.2.1)).cell 4⟩
  have HF := Lib.hid (fin_turn HM.out HO.out.2 (set_in hxd HKA.out n) ho)
  clear hxd ho
  go_upto_region 15 with fail
  refine wp_region_hand (S := (fun Y => Y.cell? ⟨w.heap.size, 1, none⟩ = some (.int .i64 (ka : Int)) ∧ Y.cell? ⟨w.heap.size, 4, none⟩ = some (.int .i64 n))) (by kernel_rfl) ?_
  refine takeW (i := 0) rfl (by kernel_rfl) (by kernel_rfl) (by kernel_rfl) (fun _ _ _ h => h) rfl (by rfl) (v := .pointer (some ⟨x.fb, 0, none⟩)) (fun Y hY => by obtain ⟨y0, y1⟩ := hY; go_simp) hS ?_
  simp only [List.setIfInBounds_toArray, List.set_cons_zero, List.set_cons_succ]
  refine takeW (i := 1) rfl (by kernel_rfl) (by kernel_rfl) (by kernel_rfl) (fun _ _ _ h => h) rfl (by rfl) (v := .pointer (some ⟨w.heap.size, 1, none⟩)) (fun Y hY => by obtain ⟨y0, y1⟩ := hY; go_simp) hS ?_
  simp only [List.setIfInBounds_toArray, List.set_cons_zero, List.set_cons_succ]
  refine takeW (i := 2) rfl (by kernel_rfl) (by kernel_rfl) (by kernel_rfl) (fun _ _ _ h => h) rfl (by rfl) (v := .int .i64 (ka : Int)) (fun Y hY => by obtain ⟨y0, y1⟩ := hY; go_simp) hS ?_
  simp only [List.setIfInBounds_toArray, List.set_cons_zero, List.set_cons_succ]
  refine takeW (i := 3) rfl (by kernel_rfl) (by kernel_rfl) (by kernel_rfl) (fun _ _ _ h => h) rfl (by rfl) (v := .pointer (some ⟨w.heap.size, 4, none⟩)) (fun Y hY => by obtain ⟨y0, y1⟩ := hY; go_simp) hS ?_
  simp only [List.setIfInBounds_toArray, List.set_cons_zero, List.set_cons_succ]
  refine takeW (i := 4) rfl (by kernel_rfl) (by kernel_rfl) (by kernel_rfl) (fun _ _ _ h => h) rfl (by rfl) (v := .int .i64 n) (fun Y hY => by obtain ⟨y0, y1⟩ := hY; go_simp) hS ?_
  simp only [List.setIfInBounds_toArray, List.set_cons_zero, List.set_cons_succ]
  refine takeW (i := 5) rfl (by kernel_rfl) (by kernel_rfl) (by kernel_rfl) (fun _ _ _ h => h) rfl (by rfl) (v := .pointer (some ⟨x.fb, 0, none⟩)) (fun Y hY => by obtain ⟨y0, y1⟩ := hY; go_simp) hS ?_
  simp only [List.setIfInBounds_toArray, List.set_cons_zero, List.set_cons_succ]
  refine takeW (i := 6) rfl (by kernel_rfl) (by kernel_rfl) (by kernel_rfl) (fun _ _ _ h => h) rfl (by rfl) (v := .pointer (some ⟨x.fb, 0, none⟩)) (fun Y hY => by obtain ⟨y0, y1⟩ := hY; go_simp) hS ?_
  simp only [List.setIfInBounds_toArray, List.set_cons_zero, List.set_cons_succ]
  refine takeW (i := 7) rfl (by kernel_rfl) (by kernel_rfl) (by kernel_rfl) (fun _ _ _ h => h) rfl (by rfl) (v := .pointer (some ⟨x.fb, ka, none⟩)) (fun Y hY => by obtain ⟨y0, y1⟩ := hY; go_simp; first | (intro h; have h1 := HI.out; have h2 := HK.out; omega) | (rw [IntKind.wrap_i64]; have h1 := HI.out; have h2 := HK.out; omega) | skip) hS ?_
  simp only [List.setIfInBounds_toArray, List.set_cons_zero, List.set_cons_succ]
  refine oneS (i := 8) (v := undef) (w' := w4.drew.setCell ⟨x.fb, ka, none⟩ (.int .i64 n)) rfl (by kernel_rfl) rfl (by rfl) (by first | (left; go_simp; done) | (right; go_simp; done)) hS5 ?_
  refine wpAnyH_done (by kernel_rfl) ?_ _
  clear hS hS5 c0
  go_wp2_with fail
  go_end0
  exact HF.out
set_option maxHeartbeats 8000000 in
theorem step_14 (cs : List Cd) (B i : Nat) (ka kn : Nat) (b c : Int) (h : MIn w base mb cA cn cc fv ov (pre ++ [x]) (i : Int) out en false) (hr : Recs w B 5 cA cn (cs.map Cd.row)) (hi : i < cn) (hc : cs[i]? = some ⟨14, (ka : Int), b, c, (kn : Int)⟩) (hB : B ≤ base) (hp : pre.length ≤ 201) (hcn : cn ≤ 65536) (hka : ka < 8) (hkn : kn < 16384) :
    Calls Try.prog 26 #[.pointer (some ⟨mb, 0, none⟩)] w (StepO w base mb cA cn cc ⟨pre.map FB.f, { x.f with r := x.f.r.set ka (x.f.sl.getD kn 0) }, (i : Int) + 1, out, en, false⟩) := by
  obtain ⟨v, hv⟩ : ∃ v, x.f.sl.getD kn 0 = v := ⟨_, rfl⟩
  rw [hv]
  have HV0 := Lib.hid hv
  clear hv
  obtain ⟨cb, co, rfl, hcb, c', _, hc', p0, p1, p2, p3, p4⟩ := cd_at hr i hi
  obtain rfl : c' = ⟨14, (ka : Int), b, c, (kn : Int)⟩ := by rw [hc] at hc'; exact (Option.some.inj hc').symm
  simp only at p0 p1 p2 p3 p4
  obtain ⟨fA, fc, rfl, hfcap, hfx, hfy, hsh⟩ := h.frs.shape (by decide)
  obtain ⟨m, hm⟩ : ∃ m, pre.length = m := ⟨_, rfl⟩
  obtain ⟨n1, hn1⟩ : ∃ n1, m + 1 = n1 := ⟨_, rfl⟩
  have hl : (pre ++ [x]).length = n1 := by simp [hm, hn1]
  rw [hl] at hfcap
  rcases hsh with ⟨rfl, rfl⟩ | ⟨g, rfl, hgb, hgl⟩
  · omega
  have hmb := h.mbase
  have hbl := h.base_le
  have hfr := h.frs
  rw [hl] at h hfr
  have q0 : w.cell? ⟨g, m, none⟩ = some (.pointer (some ⟨x.fb, 0, none⟩)) := by
    have h1 := hfr.cellOf (i := m) (j := 0) (by omega) (by decide)
    rw [Nat.mul_one, Nat.add_zero] at h1
    rw [h1]
    have e : ((pre ++ [x]).map FB.prow).getD m [] = x.prow := by
      rw [List.getD_eq_getElem?_getD, List.getElem?_map, List.getElem?_append_right (by omega), hm]
      simp
    rw [e]
    rfl
  have b0 : Blk w mb 58 (mcells (some ⟨cb, co, none⟩) cn cc (.slice (some ⟨g, 0, none⟩) n1 fc) (i : Int) ov en false) := h.blk
  have hcm : cb ≠ mb := by omega
  obtain ⟨w2, hw2⟩ : ∃ w2, w.drew.drew.alloc (.cells #[.int .i64 0, .int .i64 0, .int .i64 0, .int .i64 0, .int .i64 0] 27) = w2 := ⟨_, rfl⟩
  have bz2 : Blk w2 w.heap.size 27 #[.int .i64 0, .int .i64 0, .int .i64 0, .int .i64 0, .int .i64 0] := by rw [← hw2]; exact Blk.new w.drew.drew _ _
  have o2 : Only [] w w2 := by rw [← hw2]; exact (Only.refl [] w).drew.drew.alloc _
  obtain ⟨w3, hw3⟩ : ∃ w3, ((((w2.setCell ⟨w.heap.size, 0, none⟩ (.int .i64 14)).setCell ⟨w.heap.size, 1, none⟩ (.int .i64 (ka : Int))).setCell ⟨w.heap.size, 2, none⟩ (.int .i64 b)).setCell ⟨w.heap.size, 3, none⟩ (.int .i64 c)).setCell ⟨w.heap.size, 4, none⟩ (.int .i64 (kn : Int)) = w3 := ⟨_, rfl⟩
  have bz3 : Blk w3 w.heap.size 27 #[.int .i64 14, .int .i64 (ka : Int), .int .i64 b, .int .i64 c, .int .i64 (kn : Int)] := by rw [← hw3]; exact ((((bz2.set_ 0 _).set_ 1 _).set_ 2 _).set_ 3 _).set_ 4 _
  have o3 : Only [] w w3 := by rw [← hw3]; exact ((((o2.setCell (.inr (Nat.le_refl _)) _).setCell (.inr (Nat.le_refl _)) _).setCell (.inr (Nat.le_refl _)) _).setCell (.inr (Nat.le_refl _)) _).setCell (.inr (Nat.le_refl _)) _
  have b3 := b0.only o3 (by simp)
  obtain ⟨w4, hw4⟩ : ∃ w4, w3.setCell ⟨mb, 2, none⟩ (.int .i64 ((i : Int) + 1)) = w4 := ⟨_, rfl⟩
  have b4 : Blk w4 mb 58 (mcells (some ⟨cb, co, none⟩) cn cc (.slice (some ⟨g, 0, none⟩) n1 fc) ((i : Int) + 1) ov en false) := by rw [← hw4]; exact b3.set_ 2 _
  have o4 : Only [mb] w w4 := by rw [← hw4]; exact (o3.mono (S' := [mb]) (by simp)).setCell (.inl (by simp)) _
  have hbm : w.heap.size ≠ mb := by have := b0.lt; omega
  have bz4 : Blk w4 w.heap.size 27 #[.int .i64 14, .int .i64 (ka : Int), .int .i64 b, .int .i64 c, .int .i64 (kn : Int)] := by rw [← hw4]; exact bz3.far (p := ⟨mb, 2, none⟩) hbm _
  have HM := Lib.hid (h.mach b4 o4)
  have HC := Lib.hid bz4
  have HO := Lib.hid (And.intro o4 (o4.to_below hbl (by simpa using hmb)))
  have HBS := Lib.hid (And.intro hmb hbl)
  have hS0 : (fun Y => Y.cell? ⟨mb, 1, none⟩ = some (.slice (some ⟨g, 0, none⟩) n1 fc) ∧ Y.cell? ⟨g, m, none⟩ = some (.pointer (some ⟨x.fb, 0, none⟩))) w.drew := ⟨b0.cell 1, q0⟩
  have HS1 : Hid (∀ Y, Only [] w Y → (fun Y => Y.cell? ⟨mb, 0, none⟩ = some (.slice (some ⟨cb, co, none⟩) cn cc) ∧ Y.cell? ⟨mb, 2, none⟩ = some (.int .i64 (i : Int)) ∧ Y.cell? ⟨cb, co + i * 5, none⟩ = some (.int .i64 14) ∧ Y.cell? ⟨cb, co + i * 5 + 1, none⟩ = some (.int .i64 (ka : Int)) ∧ Y.cell? ⟨cb, co + i * 5 + 2, none⟩ = some (.int .i64 b) ∧ Y.cell? ⟨cb, co + i * 5 + 3, none⟩ = some (.int .i64 c) ∧ Y.cell? ⟨cb, co + i * 5 + 4, none⟩ = some (.int .i64 (kn : Int))) Y) := Lib.hid (fun Y hY => ⟨(b0.only hY (by simp)).cell 0, (b0.only hY (by simp)).cell 2, hY.cell p0 (by simp), hY.cell p1 (by simp), hY.cell p2 (by simp), hY.cell p3 (by simp), hY.cell p4 (by simp)⟩)
  have hS1 := HS1.out w.drew.drew (Only.refl [] w).drew.drew
  have hS2 := HS1.out w2 o2
  have hS3 := HS1.out w3 o3
  have y0 : w2.cell? ⟨w.heap.size, 0, none⟩ = some (.int .i64 0) := bz2.cell 0
  have y1 : w2.cell? ⟨w.heap.size, 1, none⟩ = some (.int .i64 0) := bz2.cell 1
  have y2 : w2.cell? ⟨w.heap.size, 2, none⟩ = some (.int .i64 0) := bz2.cell 2
  have y3 : w2.cell? ⟨w.heap.size, 3, none⟩ = some (.int .i64 0) := bz2.cell 3
  have y4 : w2.cell? ⟨w.heap.size, 4, none⟩ = some (.int .i64 0) := bz2.cell 4
  have z0 := bz2.frozen 0
  have z1 := bz2.frozen 1
  have z2 := bz2.frozen 2
  have z3 := bz2.frozen 3
  have z4 := bz2.frozen 4
  have p2' : w3.cell? ⟨mb, 2, none⟩ = some (.int .i64 (i : Int)) := b3.cell 2
  have zm2 := b3.frozen 2
  have c0 : w4.cell? ⟨w.heap.size, 0, none⟩ = some (.int .i64 14) := bz4.cell 0
  have HKA := Lib.hid hka
  have HKN := Lib.hid hkn
  have HK := Lib.hid (And.intro hka hkn)
  have HI := Lib.hid (And.intro hi (And.intro hcn (And.intro hp (And.intro hm hn1))))
  clear hka hkn h hr hc hc' hfcap hfx hfy hi hcn hp hm hn1 hmb hbl hfr q0 b0 b3 b4 o2 o3 o4 bz2 bz3 bz4 hbm hcm p0 p1 p2 p3 p4 hgb hgl hl hcb hB
  go_enter Try.func26, Try.ntmps26
  go_upto_region 0 with fail
  refine wp_region_hand (S := (fun Y => Y.cell? ⟨mb, 1, none⟩ = some (.slice (some ⟨g, 0, none⟩) n1 fc) ∧ Y.cell? ⟨g, m, none⟩ = some (.pointer (some ⟨x.fb, 0, none⟩)))) (by kernel_rfl) ?_
  refine takeW (i := 0) rfl (by kernel_rfl) (by kernel_rfl) (by kernel_rfl) (fun _ _ _ h => h) rfl (by rfl) (v := .pointer (some ⟨mb, 0, none⟩)) (fun Y hY => by obtain ⟨y0, y1⟩ := hY; go_simp) hS0 ?_
  simp only [List.setIfInBounds_toArray, List.set_cons_zero, List.set_cons_succ]
  refine takeW (i := 1) rfl (by kernel_rfl) (by kernel_rfl) (by kernel_rfl) (fun _ _ _ h => h) rfl (by rfl) (v := .pointer (some ⟨mb, 0, none⟩)) (fun Y hY => by obtain ⟨y0, y1⟩ := hY; go_simp) hS0 ?_
  simp only [List.setIfInBounds_toArray, List.set_cons_zero, List.set_cons_succ]
  refine takeW (i := 2) rfl (by kernel_rfl) (by kernel_rfl) (by kernel_rfl) (fun _ _ _ h => h) rfl (by rfl) (v := .pointer (some ⟨mb, 1, none⟩)) (fun Y hY => by obtain ⟨y0, y1⟩ := hY; go_simp) hS0 ?_
  simp only [List.setIfInBounds_toArray, List.set_cons_zero, List.set_cons_succ]
  refine takeW (i := 3) rfl (by kernel_rfl) (by kernel_rfl) (by kernel_rfl) (fun _ _ _ h => h) rfl (by rfl) (v := .slice (some ⟨g, 0, none⟩) n1 fc) (fun Y hY => by obtain ⟨y0, y1⟩ := hY; go_simp) hS0 ?_
  simp only [List.setIfInBounds_toArray, List.set_cons_zero, List.set_cons_succ]
  refine takeW (i := 4) rfl (by kernel_rfl) (by kernel_rfl) (by kernel_rfl) (fun _ _ _ h => h) rfl (by rfl) (v := .pointer (some ⟨mb, 0, none⟩)) (fun Y hY => by obtain ⟨y0, y1⟩ := hY; go_simp) hS0 ?_
  simp only [List.setIfInBounds_toArray, List.set_cons_zero, List.set_cons_succ]
  refine takeW (i := 5) rfl (by kernel_rfl) (by kernel_rfl) (by kernel_rfl) (fun _ _ _ h => h) rfl (by rfl) (v := .pointer (some ⟨mb, 0, none⟩)) (fun Y hY => by obtain ⟨y0, y1⟩ := hY; go_simp) hS0 ?_
  simp only [List.setIfInBounds_toArray, List.set_cons_zero, List.set_cons_succ]
  refine takeW (i := 6) rfl (by kernel_rfl) (by kernel_rfl) (by kernel_rfl) (fun _ _ _ h => h) rfl (by rfl) (v := .pointer (some ⟨mb, 1, none⟩)) (fun Y hY => by obtain ⟨y0, y1⟩ := hY; go_simp) hS0 ?_
  simp only [List.setIfInBounds_toArray, List.set_cons_zero, List.set_cons_succ]
  refine takeW (i := 7) rfl (by kernel_rfl) (by kernel_rfl) (by kernel_rfl) (fun _ _ _ h => h) rfl (by rfl) (v := .slice (some ⟨g, 0, none⟩) n1 fc) (fun Y hY => by obtain ⟨y0, y1⟩ := hY; go_simp) hS0 ?_
  simp only [List.setIfInBounds_toArray, List.set_cons_zero, List.set_cons_succ]
  refine takeW (i := 8) rfl (by kernel_rfl) (by kernel_rfl) (by kernel_rfl) (fun _ _ _ h => h) rfl (by rfl) (v := .int .i64 n1) (fun Y hY => by obtain ⟨y0, y1⟩ := hY; go_simp) hS0 ?_
  simp only [List.setIfInBounds_toArray, List.set_cons_zero, List.set_cons_succ]
  refine takeW (i := 9) rfl (by kernel_rfl) (by kernel_rfl) (by kernel_rfl) (fun _ _ _ h => h) rfl (by rfl) (v := .int .i64 (m : Int)) (fun Y hY => by obtain ⟨y0, y1⟩ := hY; go_simp; first | (intro h; have h1 := HI.out; have h2 := HK.out; omega) | (rw [IntKind.wrap_i64]; have h1 := HI.out; have h2 := HK.out; omega) | skip) hS0 ?_
  simp only [List.setIfInBounds_toArray, List.set_cons_zero, List.set_cons_succ]
  refine takeW (i := 10) rfl (by kernel_rfl) (by kernel_rfl) (by kernel_rfl) (fun _ _ _ h => h) rfl (by rfl) (v := .pointer (some ⟨g, m, none⟩)) (fun Y hY => by obtain ⟨y0, y1⟩ := hY; go_simp; first | (intro h; have h1 := HI.out; have h2 := HK.out; omega) | (rw [IntKind.wrap_i64]; have h1 := HI.out; have h2 := HK.out; omega) | skip) hS0 ?_
  simp only [List.setIfInBounds_toArray, List.set_cons_zero, List.set_cons_succ]
  refine takeW (i := 11) rfl (by kernel_rfl) (by kernel_rfl) (by kernel_rfl) (fun _ _ _ h => h) rfl (by rfl) (v := .pointer (some ⟨x.fb, 0, none⟩)) (fun Y hY => by obtain ⟨y0, y1⟩ := hY; go_simp) hS0 ?_
  simp only [List.setIfInBounds_toArray, List.set_cons_zero, List.set_cons_succ]
  refine takeW (i := 12) rfl (by kernel_rfl) (by kernel_rfl) (by kernel_rfl) (fun _ _ _ h => h) rfl (by rfl) (v := .pointer (some ⟨x.fb, 0, none⟩)) (fun Y hY => by obtain ⟨y0, y1⟩ := hY; go_simp) hS0 ?_
  simp only [List.setIfInBounds_toArray, List.set_cons_zero, List.set_cons_succ]
  refine wpAnyH_done (by kernel_rfl) ?_ _
  clear hS0
  go_upto_region 1 with fail
  refine wp_region_hand (S := (fun Y => Y.cell? ⟨mb, 0, none⟩ = some (.slice (some ⟨cb, co, none⟩) cn cc) ∧ Y.cell? ⟨mb, 2, none⟩ = some (.int .i64 (i : Int)) ∧ Y.cell? ⟨cb, co + i * 5, none⟩ = some (.int .i64 14) ∧ Y.cell? ⟨cb, co + i * 5 + 1, none⟩ = some (.int .i64 (ka : Int)) ∧ Y.cell? ⟨cb, co + i * 5 + 2, none⟩ = some (.int .i64 b) ∧ Y.cell? ⟨cb, co + i * 5 + 3, none⟩ = some (.int .i64 c) ∧ Y.cell? ⟨cb, co + i * 5 + 4, none⟩ = some (.int .i64 (kn : Int)))) (by kernel_rfl) ?_
  refine takeW (i := 0) rfl (by kernel_rfl) (by kernel_rfl) (by kernel_rfl) (fun _ _ _ h => h) rfl (by rfl) (v := .pointer (some ⟨mb, 0, none⟩)) (fun Y hY => by obtain ⟨y0, y1, y2, y3, y4, y5, y6⟩ := hY; go_simp) hS1 ?_
  simp only [List.setIfInBounds_toArray, List.set_cons_zero, List.set_cons_succ]
  refine takeW (i := 1) rfl (by kernel_rfl) (by kernel_rfl) (by kernel_rfl) (fun _ _ _ h => h) rfl (by rfl) (v := .pointer (some ⟨mb, 0, none⟩)) (fun Y hY => by obtain ⟨y0, y1, y2, y3, y4, y5, y6⟩ := hY; go_simp) hS1 ?_
  simp only [List.setIfInBounds_toArray, List.set_cons_zero, List.set_cons_succ]
  refine takeW (i := 2) rfl (by kernel_rfl) (by kernel_rfl) (by kernel_rfl) (fun _ _ _ h => h) rfl (by rfl) (v := .pointer (some ⟨mb, 0, none⟩)) (fun Y hY => by obtain ⟨y0, y1, y2, y3, y4, y5, y6⟩ := hY; go_simp) hS1 ?_
  simp only [List.setIfInBounds_toArray, List.set_cons_zero, List.set_cons_succ]
  refine takeW (i := 3) rfl (by kernel_rfl) (by kernel_rfl) (by kernel_rfl) (fun _ _ _ h => h) rfl (by rfl) (v := .slice (some ⟨cb, co, none⟩) cn cc) (fun Y hY => by obtain ⟨y0, y1, y2, y3, y4, y5, y6⟩ := hY; go_simp) hS1 ?_
  simp only [List.setIfInBounds_toArray, List.set_cons_zero, List.set_cons_succ]
  refine takeW (i := 4) rfl (by kernel_rfl) (by kernel_rfl) (by kernel_rfl) (fun _ _ _ h => h) rfl (by rfl) (v := .pointer (some ⟨mb, 0, none⟩)) (fun Y hY => by obtain ⟨y0, y1, y2, y3, y4, y5, y6⟩ := hY; go_simp) hS1 ?_
  simp only [List.setIfInBounds_toArray, List.set_cons_zero, List.set_cons_succ]
  refine takeW (i := 5) rfl (by kernel_rfl) (by kernel_rfl) (by kernel_rfl) (fun _ _ _ h => h) rfl (by rfl) (v := .pointer (some ⟨mb, 0, none⟩)) (fun Y hY => by obtain ⟨y0, y1, y2, y3, y4, y5, y6⟩ := hY; go_simp) hS1 ?_
  simp only [List.setIfInBounds_toArray, List.set_cons_zero, List.set_cons_succ]
  refine takeW (i := 6) rfl (by kernel_rfl) (by kernel_rfl) (by kernel_rfl) (fun _ _ _ h => h) rfl (by rfl) (v := .pointer (some ⟨mb, 2, none⟩)) (fun Y hY => by obtain ⟨y0, y1, y2, y3, y4, y5, y6⟩ := hY; go_simp) hS1 ?_
  simp only [List.setIfInBounds_toArray, List.set_cons_zero, List.set_cons_succ]
  refine takeW (i := 7) rfl (by kernel_rfl) (by kernel_rfl) (by kernel_rfl) (fun _ _ _ h => h) rfl (by rfl) (v := .int .i64 (i : Int)) (fun Y hY => by obtain ⟨y0, y1, y2, y3, y4, y5, y6⟩ := hY; go_simp) hS1 ?_
  simp only [List.setIfInBounds_toArray, List.set_cons_zero, List.set_cons_succ]
  refine takeW (i := 8) rfl (by kernel_rfl) (by kernel_rfl) (by kernel_rfl) (fun _ _ _ h => h) rfl (by rfl) (v := .pointer (some ⟨cb, co + i * 5, none⟩)) (fun Y hY => by obtain ⟨y0, y1, y2, y3, y4, y5, y6⟩ := hY; go_simp; first | (intro h; have h1 := HI.out; have h2 := HK.out; omega) | (rw [IntKind.wrap_i64]; have h1 := HI.out; have h2 := HK.out; omega) | skip) hS1 ?_
  simp only [List.setIfInBounds_toArray, List.set_cons_zero, List.set_cons_succ]
  refine takeW (i := 9) rfl (by kernel_rfl) (by kernel_rfl) (by kernel_rfl) (fun _ _ _ h => h) rfl (by rfl) (v := .agg #[.int .i64 14, .int .i64 (ka : Int), .int .i64 b, .int .i64 c, .int .i64 (kn : Int)]) (fun Y hY => by obtain ⟨y0, y1, y2, y3, y4, y5, y6⟩ := hY; go_simp) hS1 ?_
  simp only [List.setIfInBounds_toArray, List.set_cons_zero, List.set_cons_succ]
  refine oneW (i := 10) (v := .pointer (some ⟨w.heap.size, 0, none⟩)) (w' := w2) rfl (by kernel_rfl) rfl (by rfl) (by rw [← hw2]; go_simp) hS2 ?_
  simp only [List.setIfInBounds_toArray, List.set_cons_zero, List.set_cons_succ]
  refine oneS (i := 11) (v := undef) (w' := w3) rfl (by kernel_rfl) rfl (by rfl) (by rw [← hw3]; first | (left; go_simp; done) | (right; go_simp; done)) hS3 ?_
  refine wpAnyH_done (by kernel_rfl) ?_ _
  clear hS1 hS2 hS3 hw2 hw3 y0 y1 y2 y3 y4 z0 z1 z2 z3 z4
  have hwr : wrap64 ((i : Int) + 1) = (i : Int) + 1 := by have := HI.out; exact wrap_le (by omega) (by omega)
  go_upto_region 3 with fail
  try rw [hw4]
  clear hw4 p2' zm2 hwr
  have HNE := Lib.hid (code_ne HM.out HC.out)
  have HX := Lib.hid HM.out.hx
  have hv := HV0.out
  have hS : (fun Y => Y.cell? ⟨w.heap.size, 1, none⟩ = some (.int .i64 (ka : Int)) ∧ Y.cell? ⟨w.heap.size, 4, none⟩ = some (.int .i64 (kn : Int))) w4.drew := ⟨HC.out.drew.cell 1, HC.out.drew.cell 4⟩
  have hxd : FIn w4.drew base x.fb x.sv x.f := HX.out.only (Only.refl [] w4).drew (by simp) (by simp)
  have HLD := Lib.hid (load_any base x.fb x.sv x.f kn w4.drew hxd HKN.out)
  rw [hv] at HLD
  have HXD := Lib.hid hxd
  clear hxd hv
  go_upto_region 16 with fail
  refine wp_region_hand (S := (fun Y => Y.cell? ⟨w.heap.size, 1, none⟩ = some (.int .i64 (ka : Int)) ∧ Y.cell? ⟨w.heap.size, 4, none⟩ = some (.int .i64 (kn : Int)))) (by kernel_rfl) ?_
  refine takeW (i := 0) rfl (by kernel_rfl) (by kernel_rfl) (by kernel_rfl) (fun _ _ _ h => h) rfl (by rfl) (v := .pointer (some ⟨x.fb, 0, none⟩)) (fun Y hY => by obtain ⟨y0, y1⟩ := hY; go_simp) hS ?_
  simp only [List.setIfInBounds_toArray, List.set_cons_zero, List.set_cons_succ]
  refine takeW (i := 1) rfl (by kernel_rfl) (by kernel_rfl) (by kernel_rfl) (fun _ _ _ h => h) rfl (by rfl) (v := .pointer (some ⟨w.heap.size, 1, none⟩)) (fun Y hY => by obtain ⟨y0, y1⟩ := hY; go_simp) hS ?_
  simp only [List.setIfInBounds_toArray, List.set_cons_zero, List.set_cons_succ]
  refine takeW (i := 2) rfl (by kernel_rfl) (by kernel_rfl) (by kernel_rfl) (fun _ _ _ h => h) rfl (by rfl) (v := .int .i64 (ka : Int)) (fun Y hY => by obtain ⟨y0, y1⟩ := hY; go_simp) hS ?_
  simp only [List.setIfInBounds_toArray, List.set_cons_zero, List.set_cons_succ]
  refine takeW (i := 3) rfl (by kernel_rfl) (by kernel_rfl) (by kernel_rfl) (fun _ _ _ h => h) rfl (by rfl) (v := .pointer (some ⟨x.fb, 0, none⟩)) (fun Y hY => by obtain ⟨y0, y1⟩ := hY; go_simp) hS ?_
  simp only [List.setIfInBounds_toArray, List.set_cons_zero, List.set_cons_succ]
  refine takeW (i := 4) rfl (by kernel_rfl) (by kernel_rfl) (by kernel_rfl) (fun _ _ _ h => h) rfl (by rfl) (v := .pointer (some ⟨w.heap.size, 4, none⟩)) (fun Y hY => by obtain ⟨y0, y1⟩ := hY; go_simp) hS ?_
  simp only [List.setIfInBounds_toArray, List.set_cons_zero, List.set_cons_succ]
  refine takeW (i := 5) rfl (by kernel_rfl) (by kernel_rfl) (by kernel_rfl) (fun _ _ _ h => h) rfl (by rfl) (v := .int .i64 (kn : Int)) (fun Y hY => by obtain ⟨y0, y1⟩ := hY; go_simp) hS ?_
  simp only [List.setIfInBounds_toArray, List.set_cons_zero, List.set_cons_succ]
  refine takeW (i := 7) rfl (by kernel_rfl) (by kernel_rfl) (by kernel_rfl) (fun _ _ _ h => h) rfl (by rfl) (v := .pointer (some ⟨x.fb, 0, none⟩)) (fun Y hY => by obtain ⟨y0, y1⟩ := hY; go_simp) hS ?_
  simp only [List.setIfInBounds_toArray, List.set_cons_zero, List.set_cons_succ]
  refine takeW (i := 8) rfl (by kernel_rfl) (by kernel_rfl) (by kernel_rfl) (fun _ _ _ h => h) rfl (by rfl) (v := .pointer (some ⟨x.fb, 0, none⟩)) (fun Y hY => by obtain ⟨y0, y1⟩ := hY; go_simp) hS ?_
  simp only [List.setIfInBounds_toArray, List.set_cons_zero, List.set_cons_succ]
  refine callW (i := 6) rfl (by kernel_rfl) rfl (by rfl) ?_ (HLD.out) ?_
  · go_simp
  rintro x w5 ⟨rfl, ho5⟩
  have hx5 := HXD.out.only ho5 (by simp) (by simp)
  have ca := reg_cell hx5 HKA.out rfl
  have za := hx5.2.1.frozen ka
  have ho6 : Only [x.fb] w4 (w5.setCell ⟨x.fb, ka, none⟩ (.int .i64 v)) := (((Only.refl [x.fb] w4).drew).trans ho5 (by simp)).setCell (.inl (by simp)) _
  have hS5 : (fun Y => Y.cell? ⟨w.heap.size, 1, none⟩ = some (.int .i64 (ka : Int)) ∧ Y.cell? ⟨w.heap.size, 4, none⟩ = some (.int .i64 (kn : Int))) w5 := ⟨(HC.out.drew.only ho5 (by simp)).cell 1, (HC.out.drew.only ho5 (by simp)).cell 4⟩
  have HS6 : Hid ((fun Y => Y.cell? ⟨w.heap.size, 1, none⟩ = some (.int .i64 (ka : Int)) ∧ Y.cell? ⟨w.heap.size, 4, none⟩ = some (.int .i64 (kn : Int))) (w5.setCell ⟨x.fb, ka, none⟩ (.int .i64 v))) := Lib.hid ⟨(HC.out.only ho6 (by simpa using HNE.out.2.1)).cell 1, (HC.out.only ho6 (by simpa using HNE.out.2.1)).cell 4⟩
  have HF := Lib.hid (fin_turn HM.out HO.out.2 (set_in hx5 HKA.out v) ho6)
  clear hx5 ho6 ho5 hS
  refine ⟨_, rfl, hS5, ?_⟩
  simp only [List.setIfInBounds_toArray, List.set_cons_zero, List.set_cons_succ]
  refine takeW (i := 9) rfl (by kernel_rfl) (by kernel_rfl) (by kernel_rfl) (fun _ _ _ h => h) rfl (by rfl) (v := .pointer (some ⟨x.fb, ka, none⟩)) (fun Y hY => by obtain ⟨y0, y1⟩ := hY; go_simp; first | (intro h; have h1 := HI.out; have h2 := HK.out; omega) | (rw [IntKind.wrap_i64]; have h1 := HI.out; have h2 := HK.out; omega) | skip) hS5 ?_
  simp only [List.setIfInBounds_toArray, List.set_cons_zero, List.set_cons_succ]
  refine oneS (i := 10) (v := undef) (w' := w5.setCell ⟨x.fb, ka, none⟩ (.int .i64 v)) rfl (by kernel_rfl) rfl (by rfl) (by first | (left; go_simp; done) | (right; go_simp; done)) HS6.out ?_
  refine wpAnyH_done (by kernel_rfl) ?_ _
  clear hS5 HS6 c0
  go_wp2_with fail
  go_end0
  exact HF.out
end
end Go.Proofs.Ytkdacemachejoaa.Vm
