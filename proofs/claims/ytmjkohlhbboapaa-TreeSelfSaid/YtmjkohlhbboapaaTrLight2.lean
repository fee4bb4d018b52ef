/- Light. PRINTED by wip/gen_trlight.py. -/
import Derived.Test.YtmjkohlhbboapaaTrLight
namespace Go.Proofs.Ytmjkohlhbboapaa.Tree
open Go.RowKit Go.Shelf
set_option linter.unusedVariables false
set_option maxRecDepth 100000
section
variable {w w' : World} {B d d2 most : Nat}
def LightO (d most : Nat) (x : DT) (w : World) (y : Ending) (w' : World) : Prop := (∃ b : Bool, y = .returned (.bool b) ∧ (b = true → cntD d x ≤ most ∧ x.fs.length ≤ 100)) ∧ Only [] w w'
set_option maxHeartbeats 16000000 in
theorem light_any (d : Nat) (x : DT) (most : Nat) (w : World) (hx : DT.In w w.heap.size d x) (hm : most ≤ 1000000) :
    Calls Try.prog 4 #[x.val, .int .i64 (most : Int)] w fun y w' => LightO d most x w y w' := by
  have HRC := Lib.hid (fun (wx : World) (ho : Only [] w wx) => rcount_any d x most wx (hx.only ho ho.size) hm)
  obtain ⟨C, hC⟩ : ∃ C, cntD d x = C := ⟨_, rfl⟩
  unfold LightO
  rw [hC] at HRC ⊢
  clear hC
  obtain ⟨nm, iA, ic, imps, fA, fc, fs⟩ := x
  obtain ⟨⟨hi, hil⟩, ⟨hr, hlm⟩, hfs⟩ := hx
  simp only at hr hlm hfs hi hil ⊢
  unfold DT.val at HRC ⊢
  simp only at HRC ⊢
  obtain ⟨w1, hw1⟩ : ∃ w1, w.alloc (.cells #[.string nm, .slice iA imps.length ic, .slice fA fs.length fc] 25) = w1 := ⟨_, rfl⟩
  have b1 : Blk w1 w.heap.size 25 #[.string nm, .slice iA imps.length ic, .slice fA fs.length fc] := by rw [← hw1]; exact Blk.new w _ _
  have o1 : Only [] w w1 := by rw [← hw1]; exact (Only.refl [] w).alloc _
  have p0 := b1.cell 0
  have p1 := b1.cell 1
  have p2 := b1.cell 2
  have HR := Lib.hid hr
  have HI := Lib.hid hi
  have HFS := Lib.hid hfs
  have HB1 := Lib.hid b1
  have HO1 := Lib.hid o1
  have HRC1 := Lib.hid (HRC.out w1 o1)
  have NO : Hid (∀ wx, Only [] w1 wx → (∃ b : Bool, Ending.returned (.bool false) = .returned (.bool b) ∧ (b = true → C ≤ most ∧ fs.length ≤ 100)) ∧ Only [] w wx) := Lib.hid (fun wx ho => ⟨⟨false, rfl, fun h => by cases h⟩, HO1.out.trans ho (by simp)⟩)
  clear hr hfs hi b1 o1 HRC hil hlm
  go_enter Try.func4, Try.ntmps4
  by_cases hf : 100 < fs.length
  · have d1 : decide ((100 : Int) < (fs.length : Int)) = true := decide_eq_true (by omega)
    have d1' : decide (100 < fs.length) = true := decide_eq_true hf
    go_wp2_with fail
    go_ret
    exact NO.out _ (Only.refl _ _)
  · have d1 : decide ((100 : Int) < (fs.length : Int)) = false := decide_eq_false (by omega)
    have d1' : decide (100 < fs.length) = false := decide_eq_false hf
    by_cases hi : 100 < imps.length
    · have d2 : decide ((100 : Int) < (imps.length : Int)) = true := decide_eq_true (by omega)
      have d2' : decide (100 < imps.length) = true := decide_eq_true hi
      go_wp2_with fail
      go_ret
      exact NO.out _ (Only.refl _ _)
    · have d2 : decide ((100 : Int) < (imps.length : Int)) = false := decide_eq_false (by omega)
      have d2' : decide (100 < imps.length) = false := decide_eq_false hi
      go_wp2_with fail
      refine HRC1.out.mono ?_
      rintro e w2 ⟨rfl, ho2⟩
      have HO2 := Lib.hid ho2
      obtain ⟨c, hc⟩ : ∃ c, min C (most + 1) = c := ⟨_, rfl⟩
      rw [hc]
      have HC := Lib.hid hc
      have r0 := (HB1.out.only ho2 (by simp)).cell 0
      have r1 := (HB1.out.only ho2 (by simp)).cell 1
      have r2 := (HB1.out.only ho2 (by simp)).cell 2
      clear ho2 hc HRC1
      by_cases hcm : most < c
      · have d3 : decide ((most : Int) < (c : Int)) = true := decide_eq_true (by omega)
        have d3' : decide (most < c) = true := decide_eq_true hcm
        go_wp2_with fail
        go_ret
        exact NO.out _ HO2.out
      · have d3 : decide ((most : Int) < (c : Int)) = false := decide_eq_false (by omega)
        have d3' : decide (most < c) = false := decide_eq_false hcm
        have YES : Hid (∀ (b : Bool) wx, Only [] w1 wx → (∃ b' : Bool, Ending.returned (.bool b) = .returned (.bool b') ∧ (b' = true → C ≤ most ∧ fs.length ≤ 100)) ∧ Only [] w wx) := Lib.hid (fun b wx ho => ⟨⟨b, rfl, fun _ => ⟨by have := HC.out; omega, by omega⟩⟩, HO1.out.trans ho (by simp)⟩)
        go_upto_region 4 with fail
        go_wp2_with fail
        go_loopw [5, 6] (fun nv iv wr => ∃ (z : Int) (k : Nat), nv = .int .i64 z ∧ iv = .int .i64 k ∧ k ≤ imps.length ∧ Only [] w1 wr) (fun _ iv _ => imps.length - (intOf iv).toNat)
        case atStart => exact ⟨_, 0, rfl, rfl, by omega, HO2.out⟩
        case round =>
          obtain ⟨z, k, rfl, rfl, hk, ho⟩ := hrel
          clear r0 r1 r2
          have r0 := (HB1.out.only ho (by simp)).cell 0
          have r1 := (HB1.out.only ho (by simp)).cell 1
          have r2 := (HB1.out.only ho (by simp)).cell 2
          have HO := Lib.hid ho
          by_cases hlt : k < imps.length
          · have d4 : decide ((k : Int) < (imps.length : Int)) = true := decide_eq_true (by omega)
            obtain ⟨b, off, s, rfl, _, _, _, hcs⟩ := recs_row HI.out hlt
            have q0 : w.cell? ⟨b, off + k, none⟩ = some (.string s) := by have := hcs 0 (by decide); rwa [Nat.mul_one, Nat.add_zero] at this
            replace q0 := (HO1.out.trans ho (by simp)).cell q0 (by simp)
            clear hcs ho
            by_cases hmx : z < (s.size : Int)
            all_goals
              go_wp2_with fail
              go_roundw
              case measure => simp [intOf]; omega
              case rel => exact ⟨_, k + 1, rfl, by go_num, by omega, HO.out⟩
          · obtain rfl : k = imps.length := by omega
            have d4 : decide ((imps.length : Int) < (imps.length : Int)) = false := decide_eq_false (by omega)
            clear ho
            go_wp2_with fail
            go_loopw [5, 7] (fun nv iv wr => ∃ (z : Int) (k : Nat), nv = .int .i64 z ∧ iv = .int .i64 k ∧ k ≤ fs.length ∧ Only [] w1 wr) (fun _ iv _ => fs.length - (intOf iv).toNat)
            case atStart => exact ⟨_, 0, rfl, rfl, by omega, HO.out⟩
            case round =>
              clear r0 r1 r2 d4
              obtain ⟨z, k, rfl, rfl, hk, ho⟩ := hrel
              have r0 := (HB1.out.only ho (by simp)).cell 0
              have r1 := (HB1.out.only ho (by simp)).cell 1
              have r2 := (HB1.out.only ho (by simp)).cell 2
              have HO := Lib.hid ho
              have hoo := HO1.out.trans ho (by simp)
              have HOO := Lib.hid hoo
              by_cases hlt : k < fs.length
              · have d4 : decide ((k : Int) < (fs.length : Int)) = true := decide_eq_true (by omega)
                obtain ⟨b, off, y, rfl, _, hy, hyk, q0, q1, q2, q3⟩ := ft_at (HR.out.only hoo (by simp)) hlt
                have hyin := (HFS.out y hy).only hoo (Nat.le_refl _)
                have HY := Lib.hid hyin
                have hpl := hyin.1.2
                unfold maxLen at hpl
                have hsz := hoo.size
                clear hy hyk hyin hoo ho
                go_upto_region 11 with fail
                go_cut [5] (fun s wx => (∃ z : Int, s = .int .i64 z) ∧ wx = wr)
                case first =>
                  by_cases hmx : z < (y.name.size : Int)
                  all_goals
                    go_wp2_with fail
                    go_meet
                    exact ⟨⟨_, rfl⟩, rfl⟩
                case rest =>
                  obtain ⟨⟨z2, rfl⟩, hw⟩ := hcut
                  subst hw
                  by_cases hpp : 100 < y.ps.length
                  · have d5 : decide ((100 : Int) < (y.ps.length : Int)) = true := decide_eq_true (by omega)
                    have d5' : decide (100 < y.ps.length) = true := decide_eq_true hpp
                    go_wp2_with fail
                    go_ret
                    exact NO.out _ HO.out
                  · have d5 : decide ((100 : Int) < (y.ps.length : Int)) = false := decide_eq_false (by omega)
                    have d5' : decide (100 < y.ps.length) = false := decide_eq_false hpp
                    have HLO := Lib.hid (fun (wx : World) (hox : Only [] wc wx) => long_any d y.body y.bA y.body.length y.bc w.heap.size wx (HY.out.only hox (Nat.le_refl _)).2.1.1 (HY.out.only hox (Nat.le_refl _)).2.1.2 (HY.out.only hox (Nat.le_refl _)).2.2 (Nat.le_trans hsz hox.size))
                    have KEEP : Hid (∀ wx, Only [] wc wx → wx.cell? ⟨w.heap.size, 2, none⟩ = some (.slice (some ⟨b, off, none⟩) fs.length fc) ∧ wx.cell? ⟨b, off + k * 4 + 1, none⟩ = some (.slice y.pA y.ps.length y.pc) ∧ wx.cell? ⟨b, off + k * 4 + 3, none⟩ = some (.slice y.bA y.body.length y.bc)) := Lib.hid (fun wx hox => ⟨hox.cell r2 (by simp), hox.cell q1 (by simp), hox.cell q3 (by simp)⟩)
                    have HPS := Lib.hid HY.out.1.1
                    obtain ⟨np, hnp⟩ : ∃ np, y.ps.length = np := ⟨_, rfl⟩
                    obtain ⟨pA, hpA⟩ : ∃ pA, y.pA = pA := ⟨_, rfl⟩
                    rw [hnp, hpA] at HPS KEEP q1
                    rw [hnp] at d5 d5' hpl hpp
                    clear hnp hpA q0 q2 q3 r0 r1
                    go_wp2_with fail
                    go_loopw [5, 8] (fun nv iv wq => ∃ (z : Int) (j : Nat), nv = .int .i64 z ∧ iv = .int .i64 j ∧ j ≤ np ∧ Only [] wc wq) (fun _ iv _ => np - (intOf iv).toNat)
                    case atStart => exact ⟨_, 0, rfl, rfl, by omega, Only.refl _ _⟩
                    case round =>
                      obtain ⟨z3, j, rfl, rfl, hj, ho3⟩ := hrel
                      clear r2 q1
                      obtain ⟨r2, q1, q3⟩ := KEEP.out wr ho3
                      have HO3 := Lib.hid ho3
                      by_cases hlt3 : j < np
                      · have d6 : decide ((j : Int) < (np : Int)) = true := decide_eq_true (by omega)
                        obtain ⟨b2, of2, x, rfl, _, _, _, t0, t1⟩ := pt_at (HPS.out.only ho3 (by simp)) hlt3
                        clear ho3
                        by_cases hmx : z3 < (x.name.size : Int)
                        all_goals
                          go_wp2_with fail
                          go_roundw
                          case measure => simp [intOf]; omega
                          case rel => exact ⟨_, j + 1, rfl, by go_num, by omega, HO3.out⟩
                      · obtain rfl : j = np := by omega
                        have d6 : decide ((j : Int) < (j : Int)) = false := decide_eq_false (by omega)
                        clear ho3
                        go_wp2_with fail
                        refine (HLO.out wr HO3.out).mono ?_
                        rintro y9 w9 ⟨⟨z9, rfl⟩, ho9⟩
                        have HO9 := Lib.hid (HO.out.trans (HO3.out.trans ho9 (by simp)) (by simp))
                        clear ho9
                        by_cases hmx : z3 < z9
                        all_goals
                          go_wp2_with fail
                          go_roundw
                          case measure => simp [intOf]; omega
                          case rel => exact ⟨_, k + 1, rfl, by go_num, by omega, HO9.out⟩
              · obtain rfl : k = fs.length := by omega
                have d4 : decide ((fs.length : Int) < (fs.length : Int)) = false := decide_eq_false (by omega)
                clear hoo ho
                go_wp2_with fail
                go_ret
                exact YES.out _ _ HO.out
end
end Go.Proofs.Ytmjkohlhbboapaa.Tree
