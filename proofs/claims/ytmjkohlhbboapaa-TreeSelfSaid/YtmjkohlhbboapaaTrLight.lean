/- The document's Count; the longest name. PRINTED by wip/gen_trlight.py. -/
import Derived.Test.YtmjkohlhbboapaaTrRef
namespace Go.Proofs.Ytmjkohlhbboapaa.Tree
open Go.RowKit Go.Shelf
set_option linter.unusedVariables false
set_option maxRecDepth 100000
section
variable {w w' : World} {B d d2 most : Nat}
set_option maxHeartbeats 16000000 in
theorem rcount_any (d : Nat) (x : DT) (most : Nat) (w : World) (hx : DT.In w w.heap.size d x) (hm : most ≤ 1000000) :
    Calls Try.prog 9 #[x.val, .int .i64 (most : Int)] w fun y w' => y = .returned (.int .i64 ((min (cntD d x) (most + 1) : Nat) : Int)) ∧ Only [] w w' := by
  obtain ⟨nm, iA, ic, imps, fA, fc, fs⟩ := x
  obtain ⟨_, ⟨hr, hlm⟩, hfs⟩ := hx
  simp only at hr hlm hfs
  unfold DT.val
  simp only
  unfold maxLen at hlm
  obtain ⟨w1, hw1⟩ : ∃ w1, w.alloc (.cells #[.string nm, .slice iA imps.length ic, .slice fA fs.length fc] 25) = w1 := ⟨_, rfl⟩
  have b1 : Blk w1 w.heap.size 25 #[.string nm, .slice iA imps.length ic, .slice fA fs.length fc] := by rw [← hw1]; exact Blk.new w _ _
  have o1 : Only [] w w1 := by rw [← hw1]; exact (Only.refl [] w).alloc _
  have p0 := b1.cell 0
  have p1 := b1.cell 1
  have p2 := b1.cell 2
  have HR := Lib.hid hr
  have HFS := Lib.hid hfs
  have HB1 := Lib.hid b1
  have HO1 := Lib.hid o1
  have HCD : Hid (cntD d ⟨nm, iA, ic, imps, fA, fc, fs⟩ = (fs.map (cntF d)).sum) := Lib.hid rfl
  obtain ⟨C, hC⟩ : ∃ C, cntD d ⟨nm, iA, ic, imps, fA, fc, fs⟩ = C := ⟨_, rfl⟩
  rw [hC] at HCD ⊢
  clear hr hfs hC b1 o1
  go_enter Try.func9, Try.ntmps9
  go_wp2_with fail
  go_loopw [5, 6] (fun nv iv wr => ∃ k m : Nat, nv = .int .i64 (m : Int) ∧ m = min ((fs.take k).map (cntF d)).sum (most + 1) ∧ iv = .int .i64 k ∧ k ≤ fs.length ∧ Only [] w1 wr) (fun _ iv _ => fs.length - (intOf iv).toNat)
  case atStart => exact ⟨0, 0, rfl, by simp, rfl, by omega, Only.refl _ _⟩
  case round =>
    obtain ⟨k, m, rfl, hmk, rfl, hk, ho⟩ := hrel
    have HMK := Lib.hid hmk
    have hm1 : m ≤ most + 1 := by omega
    have r2 := (HB1.out.only ho (by simp)).cell 2
    have HO := Lib.hid (HO1.out.trans ho (by simp))
    have HO' := Lib.hid ho
    have END : Hid (¬ (k < fs.length ∧ m ≤ most) → m = min C (most + 1)) := Lib.hid (fun h => by
      have h1 := HMK.out
      have h2 := HCD.out
      by_cases hk2 : k < fs.length
      · have h3 := sum_le (f := cntF d) (List.getElem?_eq_getElem hk2)
        omega
      · rw [List.take_of_length_le (by omega)] at h1
        omega)
    clear hmk
    by_cases hlt : k < fs.length
    · have d1 : decide ((k : Int) < (fs.length : Int)) = true := decide_eq_true (by omega)
      by_cases hle : m ≤ most
      · have d2 : decide ((m : Int) ≤ (most : Int)) = true := decide_eq_true (by omega)
        have d2' : decide (m ≤ most) = true := decide_eq_true hle
        obtain ⟨b, off, y, rfl, _, hy, hyk, q0, q1, q2, q3⟩ := ft_at (HR.out.only HO.out (by simp)) hlt
        have hnx := sum_take (f := cntF d) hyk
        have hyin := (HFS.out y hy).only HO.out (Nat.le_refl _)
        obtain ⟨m1, hm1i, HM1⟩ : ∃ m1 : Nat, (m : Int) + 1 = (m1 : Int) ∧ Hid (m1 = m + 1) := ⟨m + 1, rfl, Lib.hid rfl⟩
        have HB := rcountBody_any d y.body y.bA y.body.length y.bc m1 w.heap.size wr hyin.2.1.1 hyin.2.1.2 hyin.2.2 HO.out.size (by have := HM1.out; omega) hm
        have HNX : Hid (min ((fs.take (k + 1)).map (cntF d)).sum (most + 1) = min (m1 + (y.body.map (cntS d)).sum) (most + 1)) := Lib.hid (by
          have h1 := HM1.out
          have h2 := HMK.out
          have h3 : cntF d y = 1 + (y.body.map (cntS d)).sum := rfl
          rw [hnx, h3]
          omega)
        obtain ⟨q, hq⟩ : ∃ q, min (m1 + (y.body.map (cntS d)).sum) (most + 1) = q := ⟨_, rfl⟩
        rw [hq] at HB HNX
        have HB2 := Lib.hid HB
        clear hy hyk hnx hyin HB hq ho
        go_wp2_with fail
        refine HB2.out.mono ?_
        rintro e w5 ⟨rfl, ho5⟩
        have HO5 := Lib.hid (HO'.out.trans ho5 (by simp))
        clear ho5
        go_wp2_with fail
        go_roundw
        case measure => simp [intOf]; omega
        case rel => exact ⟨k + 1, q, rfl, HNX.out.symm, by go_num, by omega, HO5.out⟩
      · have d2 : decide ((m : Int) ≤ (most : Int)) = false := decide_eq_false (by omega)
        have d2' : decide (m ≤ most) = false := decide_eq_false hle
        have d3 : decide ((most : Int) < (m : Int)) = true := decide_eq_true (by omega)
        have d3' : decide (most < m) = true := decide_eq_true (by omega)
        have HF := Lib.hid (END.out (fun h => hle h.2))
        clear ho
        go_wp2_with fail
        go_ret
        exact ⟨ret_int (by rw [← HF.out]; omega), HO.out⟩
    · obtain rfl : k = fs.length := by omega
      have d1 : decide ((fs.length : Int) < (fs.length : Int)) = false := decide_eq_false (by omega)
      have HF := Lib.hid (END.out (fun h => hlt h.1))
      clear ho
      by_cases hle : m ≤ most
      · have d3 : decide ((most : Int) < (m : Int)) = false := decide_eq_false (by omega)
        have d3' : decide (most < m) = false := decide_eq_false (by omega)
        go_wp2_with fail
        go_ret
        exact ⟨ret_int (by rw [← HF.out]), HO.out⟩
      · have d3 : decide ((most : Int) < (m : Int)) = true := decide_eq_true (by omega)
        have d3' : decide (most < m) = true := decide_eq_true (by omega)
        go_wp2_with fail
        go_ret
        exact ⟨ret_int (by rw [← HF.out]; omega), HO.out⟩
def IntO (w : World) (y : Ending) (w' : World) : Prop := (∃ z : Int, y = .returned (.int .i64 z)) ∧ Only [] w w'
set_option maxHeartbeats 8000000 in
theorem longExpr_any : ∀ (d : Nat) (x : XT) (dp B : Nat) (w : World), XT.In w B d x → B ≤ w.heap.size → dp ≤ 3001 →
    Calls Try.prog 24 #[x.val, .int .i64 (dp : Int)] w fun y w' => IntO w y w' := by
  intro d
  induction d with
  | zero => intro x dp B w hx; exact hx.elim
  | succ d ih =>
    intro x dp B w hx hB hdp
    have hxl := hx.2.1
    obtain ⟨xo, xn, xs, xq, xA, xc, xX⟩ := x
    obtain ⟨hx1, _, hx2⟩ := hx
    simp only [XT.A, XT.X, XT.val, XT.op, XT.n, XT.s, XT.q, XT.c] at hxl hx1 hx2 ⊢
    unfold maxLen at hxl
    obtain ⟨w1, hw1⟩ : ∃ w1, w.alloc (.cells #[.int .i64 xo, .int .i64 xn, .string xs, .string xq, .slice xA xX.length xc] 28) = w1 := ⟨_, rfl⟩
    have b1 : Blk w1 w.heap.size 28 #[.int .i64 xo, .int .i64 xn, .string xs, .string xq, .slice xA xX.length xc] := by rw [← hw1]; exact Blk.new w _ _
    have o1 : Only [] w w1 := by rw [← hw1]; exact (Only.refl [] w).alloc _
    have p0 := b1.cell 0
    have p1 := b1.cell 1
    have p2 := b1.cell 2
    have p3 := b1.cell 3
    have p4 := b1.cell 4
    have HX := Lib.hid (And.intro hx1 hx2)
    have HB1 := Lib.hid b1
    have HO1 := Lib.hid o1
    have HIH := Lib.hid ih
    clear hx1 hx2 b1 o1 ih
    go_enter Try.func24, Try.ntmps24
    by_cases hle : dp ≤ 3000
    · have d0 : decide ((3000 : Int) < (dp : Int)) = false := decide_eq_false (by omega)
      have d0' : decide (3000 < dp) = false := decide_eq_false (by omega)
      by_cases hmx : xs.size < xq.size
      all_goals
        first | (have hmj : ¬ (xs.size : Int) < (xq.size : Int) := (by omega)) | (have hmj : (xs.size : Int) < (xq.size : Int) := (by omega))
        go_wp2_with fail
        go_loopw [5, 6] (fun nv iv wr => ∃ (z : Int) (k : Nat), nv = .int .i64 z ∧ iv = .int .i64 k ∧ k ≤ xX.length ∧ Only [] w1 wr) (fun _ iv _ => xX.length - (intOf iv).toNat)
        case atStart => exact ⟨_, 0, rfl, rfl, by omega, Only.refl _ _⟩
        case round =>
          obtain ⟨z, k, rfl, rfl, hk, ho⟩ := hrel
          have r4 := (HB1.out.only ho (by simp)).cell 4
          have hoo := HO1.out.trans ho (by simp)
          have HOO := Lib.hid hoo
          by_cases hlt : k < xX.length
          · have d1 : decide ((k : Int) < (xX.length : Int)) = true := decide_eq_true (by omega)
            by_cases hz : z ≤ 300
            · have d2 : decide (z ≤ 300) = true := decide_eq_true hz
              obtain ⟨b, off, y, rfl, _, hy, hyk, q0, q1, q2, q3, q4⟩ := x_at (HX.out.1.only hoo (by simp)) hlt
              obtain ⟨dq, hdq, HDQ⟩ : ∃ dq : Nat, (dp : Int) + 1 = (dq : Int) ∧ Hid (dq = dp + 1) := ⟨dp + 1, rfl, Lib.hid rfl⟩
              have HI := HIH.out y dq B wr ((HX.out.2 y hy).only hoo (Nat.le_refl _)) (Nat.le_trans hB hoo.size) (by have := HDQ.out; omega)
              unfold XT.val at HI
              have HI2 := Lib.hid HI
              have HO3 := Lib.hid ho
              clear HI ho hoo hy hyk
              go_wp2_with fail
              refine HI2.out.mono ?_
              rintro y5 w5 ⟨⟨z5, rfl⟩, ho5⟩
              have HO5 := Lib.hid (HO3.out.trans ho5 (by simp))
              clear ho5
              by_cases hmx : z < z5
              all_goals
                go_wp2_with fail
                go_roundw
                case measure => simp [intOf]; omega
                case rel => exact ⟨_, k + 1, rfl, by go_num, by omega, HO5.out⟩
            · have d2 : decide (z ≤ 300) = false := decide_eq_false hz
              clear hoo ho
              go_wp2_with fail
              go_ret
              exact ⟨⟨_, rfl⟩, HOO.out⟩
          · obtain rfl : k = xX.length := by omega
            have d1 : decide ((xX.length : Int) < (xX.length : Int)) = false := decide_eq_false (by omega)
            clear hoo ho
            go_wp2_with fail
            go_ret
            exact ⟨⟨_, rfl⟩, HOO.out⟩
    · have d0 : decide ((3000 : Int) < (dp : Int)) = true := decide_eq_true (by omega)
      have d0' : decide (3000 < dp) = true := decide_eq_true (by omega)
      go_wp2_with fail
      go_ret
      exact ⟨⟨_, rfl⟩, HO1.out⟩
set_option maxHeartbeats 16000000 in
theorem long_any : ∀ (d : Nat) (l : List ST) (A : Option Addr) (len cap B : Nat) (w : World), Recs w B 9 A len (l.map ST.row) → len ≤ maxLen → (∀ y ∈ l, ST.In w B d y) → B ≤ w.heap.size →
    Calls Try.prog 10 #[.slice A len cap] w fun y w' => IntO w y w' := by
  intro d
  induction d using Nat.strongRecOn with
  | ind d ih =>
    intro l A len cap B w hr hlm hin hB
    unfold maxLen at hlm
    have HR := Lib.hid hr
    have HIN := Lib.hid hin
    have HIH := Lib.hid ih
    clear hr hin ih
    go_enter Try.func10, Try.ntmps10
    go_wp2_with fail
    go_loopw [3, 4] (fun nv iv wr => ∃ (z : Int) (k : Nat), nv = .int .i64 z ∧ iv = .int .i64 k ∧ k ≤ len ∧ Only [] w wr) (fun _ iv _ => len - (intOf iv).toNat)
    case atStart => exact ⟨_, 0, rfl, rfl, by omega, Only.refl _ _⟩
    case round =>
      obtain ⟨z, k, rfl, rfl, hk, ho⟩ := hrel
      have HO := Lib.hid ho
      by_cases hlt : k < len
      · have d1 : decide ((k : Int) < (len : Int)) = true := decide_eq_true (by omega)
        obtain ⟨b, off, y, rfl, _, hy, hyk, q0, q1, q2, q3, q4, q5, q6, q7, q8⟩ := st_at (HR.out.only ho (by simp)) hlt
        obtain ⟨d', rfl⟩ : ∃ k, d = k + 1 := by
          have := HIN.out y hy
          cases d with
          | zero => exact this.elim
          | succ k => exact ⟨k, rfl⟩
        have hyin := (HIN.out y hy).only ho (Nat.le_refl B)
        have hsz := ho.size
        have HX1 : Hid (∀ wx, Only [] wr wx → Calls Try.prog 24 #[.agg #[.int .i64 y.e.op, .int .i64 y.e.n, .string y.e.s, .string y.e.q, .slice y.e.A y.e.X.length y.e.c], .int .i64 0] wx fun y w' => IntO wx y w') := Lib.hid (fun wx hox => by
          have hs2 := hox.size
          exact longExpr_any (d' + 1) y.e 0 B wx (hyin.only hox (Nat.le_refl B)).1 (by omega) (by omega))
        have HB1 : Hid (∀ wx, Only [] wr wx → Calls Try.prog 10 #[.slice y.bA y.body.length y.bc] wx fun y w' => IntO wx y w') := Lib.hid (fun wx hox => by
          have hs2 := hox.size
          have hi := hyin.only hox (Nat.le_refl B)
          exact HIH.out d' (by omega) y.body y.bA y.body.length y.bc B wx hi.2.1.1 hi.2.1.2 hi.2.2.2.1 (by omega))
        have HB2 : Hid (∀ wx, Only [] wr wx → Calls Try.prog 10 #[.slice y.eA y.els.length y.ec] wx fun y w' => IntO wx y w') := Lib.hid (fun wx hox => by
          have hs2 := hox.size
          have hi := hyin.only hox (Nat.le_refl B)
          exact HIH.out d' (by omega) y.els y.eA y.els.length y.ec B wx hi.2.2.1.1 hi.2.2.1.2 hi.2.2.2.2 (by omega))
        have KEEP : Hid (∀ wx, Only [] wr wx → wx.cell? ⟨b, off + k * 9, none⟩ = some (.int .i64 y.op) ∧ wx.cell? ⟨b, off + k * 9 + 1, none⟩ = some (.string y.s) ∧ wx.cell? ⟨b, off + k * 9 + 2, none⟩ = some (.int .i64 y.e.op) ∧ wx.cell? ⟨b, off + k * 9 + 3, none⟩ = some (.int .i64 y.e.n) ∧ wx.cell? ⟨b, off + k * 9 + 4, none⟩ = some (.string y.e.s) ∧ wx.cell? ⟨b, off + k * 9 + 5, none⟩ = some (.string y.e.q) ∧ wx.cell? ⟨b, off + k * 9 + 6, none⟩ = some (.slice y.e.A y.e.X.length y.e.c) ∧ wx.cell? ⟨b, off + k * 9 + 7, none⟩ = some (.slice y.bA y.body.length y.bc) ∧ wx.cell? ⟨b, off + k * 9 + 8, none⟩ = some (.slice y.eA y.els.length y.ec)) := Lib.hid (fun wx hox => ⟨hox.cell q0 (by simp), hox.cell q1 (by simp), hox.cell q2 (by simp), hox.cell q3 (by simp), hox.cell q4 (by simp), hox.cell q5 (by simp), hox.cell q6 (by simp), hox.cell q7 (by simp), hox.cell q8 (by simp)⟩)
        clear hy hyk hyin ho
        have hS : ((fun Y => Y.cell? ⟨b, off + k * 9 + 1, none⟩ = some (.string y.s) ∧ Y.cell? ⟨b, off + k * 9 + 2, none⟩ = some (.int .i64 y.e.op) ∧ Y.cell? ⟨b, off + k * 9 + 2 + 1, none⟩ = some (.int .i64 y.e.n) ∧ Y.cell? ⟨b, off + k * 9 + 2 + 2, none⟩ = some (.string y.e.s) ∧ Y.cell? ⟨b, off + k * 9 + 2 + 3, none⟩ = some (.string y.e.q) ∧ Y.cell? ⟨b, off + k * 9 + 2 + 4, none⟩ = some (.slice y.e.A y.e.X.length y.e.c)) : World → Prop) wr.drew := ⟨(KEEP.out wr (Only.refl _ _)).2.1, (KEEP.out wr (Only.refl _ _)).2.2.1, (KEEP.out wr (Only.refl _ _)).2.2.2.1, (KEEP.out wr (Only.refl _ _)).2.2.2.2.1, (KEEP.out wr (Only.refl _ _)).2.2.2.2.2.1, (KEEP.out wr (Only.refl _ _)).2.2.2.2.2.2.1⟩
        go_upto_region 5 with fail
        refine wp_region_hand (S := (fun Y => Y.cell? ⟨b, off + k * 9 + 1, none⟩ = some (.string y.s) ∧ Y.cell? ⟨b, off + k * 9 + 2, none⟩ = some (.int .i64 y.e.op) ∧ Y.cell? ⟨b, off + k * 9 + 2 + 1, none⟩ = some (.int .i64 y.e.n) ∧ Y.cell? ⟨b, off + k * 9 + 2 + 2, none⟩ = some (.string y.e.s) ∧ Y.cell? ⟨b, off + k * 9 + 2 + 3, none⟩ = some (.string y.e.q) ∧ Y.cell? ⟨b, off + k * 9 + 2 + 4, none⟩ = some (.slice y.e.A y.e.X.length y.e.c))) (by kernel_rfl) ?_
        refine takeW (i := 0) rfl (by kernel_rfl) (by kernel_rfl) (by kernel_rfl) (fun _ _ _ h => h) rfl (by rfl) (v := .int .i64 z) (fun Y hY => by obtain ⟨y0, y1, y2, y3, y4, y5⟩ := hY; go_simp) hS ?_
        simp only [List.setIfInBounds_toArray, List.set_cons_zero, List.set_cons_succ]
        refine takeW (i := 1) rfl (by kernel_rfl) (by kernel_rfl) (by kernel_rfl) (fun _ _ _ h => h) rfl (by rfl) (v := .slice (some ⟨b, off, none⟩) len cap) (fun Y hY => by obtain ⟨y0, y1, y2, y3, y4, y5⟩ := hY; go_simp) hS ?_
        simp only [List.setIfInBounds_toArray, List.set_cons_zero, List.set_cons_succ]
        refine takeW (i := 2) rfl (by kernel_rfl) (by kernel_rfl) (by kernel_rfl) (fun _ _ _ h => h) rfl (by rfl) (v := .int .i64 (k : Int)) (fun Y hY => by obtain ⟨y0, y1, y2, y3, y4, y5⟩ := hY; go_simp) hS ?_
        simp only [List.setIfInBounds_toArray, List.set_cons_zero, List.set_cons_succ]
        refine takeW (i := 3) rfl (by kernel_rfl) (by kernel_rfl) (by kernel_rfl) (fun _ _ _ h => h) rfl (by rfl) (v := .pointer (some ⟨b, off + k * 9, none⟩)) (fun Y hY => by obtain ⟨y0, y1, y2, y3, y4, y5⟩ := hY; go_simp) hS ?_
        simp only [List.setIfInBounds_toArray, List.set_cons_zero, List.set_cons_succ]
        refine takeW (i := 4) rfl (by kernel_rfl) (by kernel_rfl) (by kernel_rfl) (fun _ _ _ h => h) rfl (by rfl) (v := .pointer (some ⟨b, off + k * 9 + 1, none⟩)) (fun Y hY => by obtain ⟨y0, y1, y2, y3, y4, y5⟩ := hY; go_simp) hS ?_
        simp only [List.setIfInBounds_toArray, List.set_cons_zero, List.set_cons_succ]
        refine takeW (i := 5) rfl (by kernel_rfl) (by kernel_rfl) (by kernel_rfl) (fun _ _ _ h => h) rfl (by rfl) (v := .string y.s) (fun Y hY => by obtain ⟨y0, y1, y2, y3, y4, y5⟩ := hY; go_simp) hS ?_
        simp only [List.setIfInBounds_toArray, List.set_cons_zero, List.set_cons_succ]
        refine takeW (i := 6) rfl (by kernel_rfl) (by kernel_rfl) (by kernel_rfl) (fun _ _ _ h => h) rfl (by rfl) (v := .int .i64 (y.s.size : Int)) (fun Y hY => by obtain ⟨y0, y1, y2, y3, y4, y5⟩ := hY; go_simp) hS ?_
        simp only [List.setIfInBounds_toArray, List.set_cons_zero, List.set_cons_succ]
        refine takeW (i := 7) rfl (by kernel_rfl) (by kernel_rfl) (by kernel_rfl) (fun _ _ _ h => h) rfl (by rfl) (v := .slice (some ⟨b, off, none⟩) len cap) (fun Y hY => by obtain ⟨y0, y1, y2, y3, y4, y5⟩ := hY; go_simp) hS ?_
        simp only [List.setIfInBounds_toArray, List.set_cons_zero, List.set_cons_succ]
        refine takeW (i := 8) rfl (by kernel_rfl) (by kernel_rfl) (by kernel_rfl) (fun _ _ _ h => h) rfl (by rfl) (v := .int .i64 (k : Int)) (fun Y hY => by obtain ⟨y0, y1, y2, y3, y4, y5⟩ := hY; go_simp) hS ?_
        simp only [List.setIfInBounds_toArray, List.set_cons_zero, List.set_cons_succ]
        refine takeW (i := 9) rfl (by kernel_rfl) (by kernel_rfl) (by kernel_rfl) (fun _ _ _ h => h) rfl (by rfl) (v := .pointer (some ⟨b, off + k * 9, none⟩)) (fun Y hY => by obtain ⟨y0, y1, y2, y3, y4, y5⟩ := hY; go_simp) hS ?_
        simp only [List.setIfInBounds_toArray, List.set_cons_zero, List.set_cons_succ]
        refine takeW (i := 10) rfl (by kernel_rfl) (by kernel_rfl) (by kernel_rfl) (fun _ _ _ h => h) rfl (by rfl) (v := .pointer (some ⟨b, off + k * 9 + 2, none⟩)) (fun Y hY => by obtain ⟨y0, y1, y2, y3, y4, y5⟩ := hY; go_simp) hS ?_
        simp only [List.setIfInBounds_toArray, List.set_cons_zero, List.set_cons_succ]
        refine takeW (i := 11) rfl (by kernel_rfl) (by kernel_rfl) (by kernel_rfl) (fun _ _ _ h => h) rfl (by rfl) (v := .agg #[.int .i64 y.e.op, .int .i64 y.e.n, .string y.e.s, .string y.e.q, .slice y.e.A y.e.X.length y.e.c]) (fun Y hY => by obtain ⟨y0, y1, y2, y3, y4, y5⟩ := hY; go_simp) hS ?_
        simp only [List.setIfInBounds_toArray, List.set_cons_zero, List.set_cons_succ]
        refine callW (i := 12) rfl (by kernel_rfl) rfl (by rfl) ?_ (HX1.out _ ((Only.refl [] wr).drew)) ?_
        · go_simp
        rintro x w5 ⟨⟨z1, rfl⟩, ho5⟩
        have HO5 := Lib.hid (((Only.refl [] wr).drew).trans ho5 (by simp))
        clear ho5
        have hS5 : ((fun Y => Y.cell? ⟨b, off + k * 9 + 1, none⟩ = some (.string y.s) ∧ Y.cell? ⟨b, off + k * 9 + 2, none⟩ = some (.int .i64 y.e.op) ∧ Y.cell? ⟨b, off + k * 9 + 2 + 1, none⟩ = some (.int .i64 y.e.n) ∧ Y.cell? ⟨b, off + k * 9 + 2 + 2, none⟩ = some (.string y.e.s) ∧ Y.cell? ⟨b, off + k * 9 + 2 + 3, none⟩ = some (.string y.e.q) ∧ Y.cell? ⟨b, off + k * 9 + 2 + 4, none⟩ = some (.slice y.e.A y.e.X.length y.e.c)) : World → Prop) w5 := ⟨(KEEP.out w5 HO5.out).2.1, (KEEP.out w5 HO5.out).2.2.1, (KEEP.out w5 HO5.out).2.2.2.1, (KEEP.out w5 HO5.out).2.2.2.2.1, (KEEP.out w5 HO5.out).2.2.2.2.2.1, (KEEP.out w5 HO5.out).2.2.2.2.2.2.1⟩
        refine ⟨_, rfl, hS5, ?_⟩
        simp only [List.setIfInBounds_toArray, List.set_cons_zero, List.set_cons_succ]
        refine takeW (i := 13) rfl (by kernel_rfl) (by kernel_rfl) (by kernel_rfl) (fun _ _ _ h => h) rfl (by rfl) (v := .int .i64 (if (y.s.size : Int) < z1 then z1 else (y.s.size : Int))) (fun Y hY => by obtain ⟨y0, y1, y2, y3, y4, y5⟩ := hY; go_simp) hS5 ?_
        simp only [List.setIfInBounds_toArray, List.set_cons_zero, List.set_cons_succ]
        refine takeW (i := 14) rfl (by kernel_rfl) (by kernel_rfl) (by kernel_rfl) (fun _ _ _ h => h) rfl (by rfl) (v := .int .i64 (if z < (if (y.s.size : Int) < z1 then z1 else (y.s.size : Int)) then (if (y.s.size : Int) < z1 then z1 else (y.s.size : Int)) else z)) (fun Y hY => by obtain ⟨y0, y1, y2, y3, y4, y5⟩ := hY; go_simp) hS5 ?_
        simp only [List.setIfInBounds_toArray, List.set_cons_zero, List.set_cons_succ]
        refine takeW (i := 15) rfl (by kernel_rfl) (by kernel_rfl) (by kernel_rfl) (fun _ _ _ h => h) rfl (by rfl) (v := .int .i64 (if z < (if (y.s.size : Int) < z1 then z1 else (y.s.size : Int)) then (if (y.s.size : Int) < z1 then z1 else (y.s.size : Int)) else z)) (fun Y hY => by obtain ⟨y0, y1, y2, y3, y4, y5⟩ := hY; go_simp) hS5 ?_
        simp only [List.setIfInBounds_toArray, List.set_cons_zero, List.set_cons_succ]
        refine wpAnyH_done (by kernel_rfl) ?_ _
        obtain ⟨za, hza⟩ : ∃ q, (if (y.s.size : Int) < z1 then z1 else (y.s.size : Int)) = q := ⟨_, rfl⟩
        rw [hza]
        obtain ⟨zz, hzz⟩ : ∃ q, (if z < za then za else z) = q := ⟨_, rfl⟩
        rw [hzz]
        clear hza hzz hS hS5
        go_wp2_with fail
        have hS6 : ((fun Y => Y.cell? ⟨b, off + k * 9 + 7, none⟩ = some (.slice y.bA y.body.length y.bc) ∧ Y.cell? ⟨b, off + k * 9 + 8, none⟩ = some (.slice y.eA y.els.length y.ec)) : World → Prop) w5.drew := ⟨(KEEP.out w5 HO5.out).2.2.2.2.2.2.2.1, (KEEP.out w5 HO5.out).2.2.2.2.2.2.2.2⟩
        go_upto_region 6 with fail
        refine wp_region_hand (S := (fun Y => Y.cell? ⟨b, off + k * 9 + 7, none⟩ = some (.slice y.bA y.body.length y.bc) ∧ Y.cell? ⟨b, off + k * 9 + 8, none⟩ = some (.slice y.eA y.els.length y.ec))) (by kernel_rfl) ?_
        refine takeW (i := 0) rfl (by kernel_rfl) (by kernel_rfl) (by kernel_rfl) (fun _ _ _ h => h) rfl (by rfl) (v := .int .i64 zz) (fun Y hY => by obtain ⟨y0, y1⟩ := hY; go_simp) hS6 ?_
        simp only [List.setIfInBounds_toArray, List.set_cons_zero, List.set_cons_succ]
        refine takeW (i := 1) rfl (by kernel_rfl) (by kernel_rfl) (by kernel_rfl) (fun _ _ _ h => h) rfl (by rfl) (v := .slice (some ⟨b, off, none⟩) len cap) (fun Y hY => by obtain ⟨y0, y1⟩ := hY; go_simp) hS6 ?_
        simp only [List.setIfInBounds_toArray, List.set_cons_zero, List.set_cons_succ]
        refine takeW (i := 2) rfl (by kernel_rfl) (by kernel_rfl) (by kernel_rfl) (fun _ _ _ h => h) rfl (by rfl) (v := .int .i64 (k : Int)) (fun Y hY => by obtain ⟨y0, y1⟩ := hY; go_simp) hS6 ?_
        simp only [List.setIfInBounds_toArray, List.set_cons_zero, List.set_cons_succ]
        refine takeW (i := 3) rfl (by kernel_rfl) (by kernel_rfl) (by kernel_rfl) (fun _ _ _ h => h) rfl (by rfl) (v := .pointer (some ⟨b, off + k * 9, none⟩)) (fun Y hY => by obtain ⟨y0, y1⟩ := hY; go_simp) hS6 ?_
        simp only [List.setIfInBounds_toArray, List.set_cons_zero, List.set_cons_succ]
        refine takeW (i := 4) rfl (by kernel_rfl) (by kernel_rfl) (by kernel_rfl) (fun _ _ _ h => h) rfl (by rfl) (v := .pointer (some ⟨b, off + k * 9 + 7, none⟩)) (fun Y hY => by obtain ⟨y0, y1⟩ := hY; go_simp) hS6 ?_
        simp only [List.setIfInBounds_toArray, List.set_cons_zero, List.set_cons_succ]
        refine takeW (i := 5) rfl (by kernel_rfl) (by kernel_rfl) (by kernel_rfl) (fun _ _ _ h => h) rfl (by rfl) (v := .slice y.bA y.body.length y.bc) (fun Y hY => by obtain ⟨y0, y1⟩ := hY; go_simp) hS6 ?_
        simp only [List.setIfInBounds_toArray, List.set_cons_zero, List.set_cons_succ]
        refine takeW (i := 7) rfl (by kernel_rfl) (by kernel_rfl) (by kernel_rfl) (fun _ _ _ h => h) rfl (by rfl) (v := .slice (some ⟨b, off, none⟩) len cap) (fun Y hY => by obtain ⟨y0, y1⟩ := hY; go_simp) hS6 ?_
        simp only [List.setIfInBounds_toArray, List.set_cons_zero, List.set_cons_succ]
        refine takeW (i := 8) rfl (by kernel_rfl) (by kernel_rfl) (by kernel_rfl) (fun _ _ _ h => h) rfl (by rfl) (v := .int .i64 (k : Int)) (fun Y hY => by obtain ⟨y0, y1⟩ := hY; go_simp) hS6 ?_
        simp only [List.setIfInBounds_toArray, List.set_cons_zero, List.set_cons_succ]
        refine takeW (i := 9) rfl (by kernel_rfl) (by kernel_rfl) (by kernel_rfl) (fun _ _ _ h => h) rfl (by rfl) (v := .pointer (some ⟨b, off + k * 9, none⟩)) (fun Y hY => by obtain ⟨y0, y1⟩ := hY; go_simp) hS6 ?_
        simp only [List.setIfInBounds_toArray, List.set_cons_zero, List.set_cons_succ]
        refine takeW (i := 10) rfl (by kernel_rfl) (by kernel_rfl) (by kernel_rfl) (fun _ _ _ h => h) rfl (by rfl) (v := .pointer (some ⟨b, off + k * 9 + 8, none⟩)) (fun Y hY => by obtain ⟨y0, y1⟩ := hY; go_simp) hS6 ?_
        simp only [List.setIfInBounds_toArray, List.set_cons_zero, List.set_cons_succ]
        refine takeW (i := 11) rfl (by kernel_rfl) (by kernel_rfl) (by kernel_rfl) (fun _ _ _ h => h) rfl (by rfl) (v := .slice y.eA y.els.length y.ec) (fun Y hY => by obtain ⟨y0, y1⟩ := hY; go_simp) hS6 ?_
        simp only [List.setIfInBounds_toArray, List.set_cons_zero, List.set_cons_succ]
        refine callW (i := 6) rfl (by kernel_rfl) rfl (by rfl) ?_ (HB1.out _ HO5.out.drew) ?_
        · go_simp
        rintro x w7 ⟨⟨z2, rfl⟩, ho7⟩
        have HO7 := Lib.hid (HO5.out.drew.trans ho7 (by simp))
        clear ho7
        have hS7 : ((fun Y => Y.cell? ⟨b, off + k * 9 + 7, none⟩ = some (.slice y.bA y.body.length y.bc) ∧ Y.cell? ⟨b, off + k * 9 + 8, none⟩ = some (.slice y.eA y.els.length y.ec)) : World → Prop) w7 := ⟨(KEEP.out w7 HO7.out).2.2.2.2.2.2.2.1, (KEEP.out w7 HO7.out).2.2.2.2.2.2.2.2⟩
        refine ⟨_, rfl, hS7, ?_⟩
        simp only [List.setIfInBounds_toArray, List.set_cons_zero, List.set_cons_succ]
        refine callW (i := 12) rfl (by kernel_rfl) rfl (by rfl) ?_ (HB2.out w7 HO7.out) ?_
        · go_simp
        rintro x w9 ⟨⟨z3, rfl⟩, ho9⟩
        have HO9 := Lib.hid (HO7.out.trans ho9 (by simp))
        clear ho9
        have hS9 : ((fun Y => Y.cell? ⟨b, off + k * 9 + 7, none⟩ = some (.slice y.bA y.body.length y.bc) ∧ Y.cell? ⟨b, off + k * 9 + 8, none⟩ = some (.slice y.eA y.els.length y.ec)) : World → Prop) w9 := ⟨(KEEP.out w9 HO9.out).2.2.2.2.2.2.2.1, (KEEP.out w9 HO9.out).2.2.2.2.2.2.2.2⟩
        refine ⟨_, rfl, hS9, ?_⟩
        simp only [List.setIfInBounds_toArray, List.set_cons_zero, List.set_cons_succ]
        refine takeW (i := 13) rfl (by kernel_rfl) (by kernel_rfl) (by kernel_rfl) (fun _ _ _ h => h) rfl (by rfl) (v := .int .i64 (if z2 < z3 then z3 else z2)) (fun Y hY => by obtain ⟨y0, y1⟩ := hY; go_simp) hS9 ?_
        simp only [List.setIfInBounds_toArray, List.set_cons_zero, List.set_cons_succ]
        refine takeW (i := 14) rfl (by kernel_rfl) (by kernel_rfl) (by kernel_rfl) (fun _ _ _ h => h) rfl (by rfl) (v := .int .i64 (if zz < (if z2 < z3 then z3 else z2) then (if z2 < z3 then z3 else z2) else zz)) (fun Y hY => by obtain ⟨y0, y1⟩ := hY; go_simp) hS9 ?_
        simp only [List.setIfInBounds_toArray, List.set_cons_zero, List.set_cons_succ]
        refine takeW (i := 15) rfl (by kernel_rfl) (by kernel_rfl) (by kernel_rfl) (fun _ _ _ h => h) rfl (by rfl) (v := .int .i64 (if zz < (if z2 < z3 then z3 else z2) then (if z2 < z3 then z3 else z2) else zz)) (fun Y hY => by obtain ⟨y0, y1⟩ := hY; go_simp) hS9 ?_
        simp only [List.setIfInBounds_toArray, List.set_cons_zero, List.set_cons_succ]
        refine wpAnyH_done (by kernel_rfl) ?_ _
        obtain ⟨zb, hzb⟩ : ∃ q, (if z2 < z3 then z3 else z2) = q := ⟨_, rfl⟩
        rw [hzb]
        obtain ⟨zf, hzf⟩ : ∃ q, (if zz < zb then zb else zz) = q := ⟨_, rfl⟩
        rw [hzf]
        clear hzb hzf
        go_wp2_with fail
        go_roundw
        case measure => simp [intOf]; omega
        case rel => exact ⟨_, k + 1, rfl, by go_num, by omega, HO.out.trans HO9.out (by simp)⟩
      · obtain rfl : k = len := by omega
        have d1 : decide ((k : Int) < (k : Int)) = false := decide_eq_false (by omega)
        clear ho
        go_wp2_with fail
        go_ret
        exact ⟨⟨_, rfl⟩, HO.out⟩
end
end Go.Proofs.Ytmjkohlhbboapaa.Tree
