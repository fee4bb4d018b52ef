/- Count. -/
import Derived.Test.YtmjkohlhbboapaaTrBody
namespace Go.Proofs.Ytmjkohlhbboapaa.Tree
open Go.RowKit Go.Shelf
set_option linter.unusedVariables false
set_option maxRecDepth 100000
theorem st_func (P : Program) (w : World) (ad : Addr) (m : Mode) (fn : Fn) (a b : Array Value) : (store ad (.func fn a b) m).run P w = stored P w ad (.func fn a b) m := run_store P w ad _ m rfl
section
variable {w w' : World} {B d d2 nb mb fb n most : Nat}
theorem FT.In.below {x : FT} (h : FT.In w B d x) (ho : Below B w w') : FT.In w' B d x := ⟨⟨h.1.1.below ho, h.1.2⟩, ⟨h.2.1.1.below ho, h.2.1.2⟩, fun y hy => (h.2.2 y hy).below ho⟩
set_option maxHeartbeats 16000000 in
theorem count_any (d : Nat) (x : DT) (most : Nat) (w : World) (hx : DT.In w w.heap.size d x) (hm : most ≤ 1000000) :
    Calls Try.prog 8 #[x.val, .int .i64 (most : Int)] w fun y w' => y = .returned (.int .i64 ((min (cntD d x) (most + 1) : Nat) : Int)) ∧ Only [] w w' := by
  obtain ⟨nm, iA, ic, imps, fA, fc, fs⟩ := x
  obtain ⟨_, ⟨hr, hlm⟩, hfs⟩ := hx
  simp only at hr hlm hfs
  unfold DT.val
  simp only
  unfold maxLen at hlm
  obtain ⟨w1, hw1⟩ : ∃ w1, w.alloc (.cells #[.string nm, .slice iA imps.length ic, .slice fA fs.length fc] 25) = w1 := ⟨_, rfl⟩
  have b1 : Blk w1 w.heap.size 25 #[.string nm, .slice iA imps.length ic, .slice fA fs.length fc] := by rw [← hw1]; exact Blk.new w _ _
  have o1 : Only [] w w1 := by rw [← hw1]; exact (Only.refl [] w).alloc _
  obtain ⟨w2, hw2⟩ : ∃ w2, w1.alloc (.cells #[.int .i64 (most : Int)] 3) = w2 := ⟨_, rfl⟩
  have b2 : Blk w2 w1.heap.size 3 #[.int .i64 (most : Int)] := by rw [← hw2]; exact Blk.new w1 _ _
  have o2 : Only [] w1 w2 := by rw [← hw2]; exact (Only.refl [] w1).alloc _
  have l2 := b1.lt
  have l3 := b2.lt
  have HR := Lib.hid hr
  have HFS := Lib.hid hfs
  have HCD : Hid (cntD d ⟨nm, iA, ic, imps, fA, fc, fs⟩ = (fs.map (cntF d)).sum) := Lib.hid rfl
  obtain ⟨C, hC⟩ : ∃ C, cntD d ⟨nm, iA, ic, imps, fA, fc, fs⟩ = C := ⟨_, rfl⟩
  rw [hC] at HCD ⊢
  clear hr hfs hC
  go_enter Try.func8, Try.ntmps8
  go_upto_region 2 with fail
  obtain ⟨w3, hw3⟩ : ∃ w3, w2.alloc (.cells #[.int .i64 0] 3) = w3 := ⟨_, rfl⟩
  have b3 : Blk w3 w2.heap.size 3 #[.int .i64 0] := by rw [← hw3]; exact Blk.new w2 _ _
  have o3 : Only [] w2 w3 := by rw [← hw3]; exact (Only.refl [] w2).alloc _
  obtain ⟨w4, hw4⟩ : ∃ w4, w3.alloc (.cells #[.func (.func 19) #[] #[.pointer (some ⟨w2.heap.size, 0, none⟩), .pointer (some ⟨w1.heap.size, 0, none⟩)]] 37) = w4 := ⟨_, rfl⟩
  have b4 : Blk w4 w3.heap.size 37 #[.func (.func 19) #[] #[.pointer (some ⟨w2.heap.size, 0, none⟩), .pointer (some ⟨w1.heap.size, 0, none⟩)]] := by rw [← hw4]; exact Blk.new w3 _ _
  have o4 : Only [] w3 w4 := by rw [← hw4]; exact (Only.refl [] w3).alloc _
  have l4 := b3.lt
  have l5 := b4.lt
  have hct : CT w4 w2.heap.size w1.heap.size w3.heap.size 0 most := ⟨b3.only o4 (by simp), (b2.only o3 (by simp)).only o4 (by simp), b4, by omega, by omega⟩
  have o14 := o2.trans (o3.trans o4 (by simp)) (by simp)
  have b1' := b1.only o14 (by simp)
  have p2 := b1'.cell 2
  have hO4 := o1.trans o14 (by simp)
  have hs4 := hO4.size
  have HO4 := Lib.hid hO4
  have HC0 := Lib.hid hct
  clear b1 b2 b3 b4 o1 o2 o3 o4 o14 b1' hct hO4
  have hsf := st_func Try.prog
  go_upto_region 3 with fail
  clear hsf
  try rw [hw4]
  clear hw1 hw2 hw3 hw4
  go_wp2_with fail
  go_loopw [13] (fun iv wr => ∃ k : Nat, iv = .int .i64 k ∧ k ≤ fs.length ∧ ((fs.take k).map (cntF d)).sum ≤ most ∧ CT wr w2.heap.size w1.heap.size w3.heap.size (((fs.take k).map (cntF d)).sum) most ∧ Only [w2.heap.size] w4 wr) (fun iv _ => fs.length - (intOf iv).toNat)
  case atStart => exact ⟨0, rfl, by omega, by simp, by simpa using HC0.out, Only.refl _ _⟩
  case round =>
    obtain ⟨k, rfl, hk, hle, hct, ho⟩ := hrel
    clear HC0
    by_cases hlt : k < fs.length
    · have d1 : decide ((k : Int) < (fs.length : Int)) = true := decide_eq_true (by omega)
      have hbel : Below w.heap.size w wr := HO4.out.below0.trans (ho.to_below (by omega) (by simp; omega))
      obtain ⟨b, off, y, rfl, _, hy, hyk, q0, q1, q2, q3⟩ := ft_at (HR.out.below hbel) hlt
      obtain ⟨w5, hw5⟩ : ∃ w5, wr.alloc (.cells #[.string y.name, .slice y.pA y.ps.length y.pc, .int .u8 y.r, .slice y.bA y.body.length y.bc] 35) = w5 := ⟨_, rfl⟩
      have b5 : Blk w5 wr.heap.size 35 #[.string y.name, .slice y.pA y.ps.length y.pc, .int .u8 y.r, .slice y.bA y.body.length y.bc] := by rw [← hw5]; exact Blk.new wr _ _
      have o5 : Only [] wr w5 := by rw [← hw5]; exact (Only.refl [] wr).alloc _
      have s0 := b5.cell 0
      have s1 := b5.cell 1
      have s2 := b5.cell 2
      have s3 := b5.cell 3
      have HNX := Lib.hid (sum_take (f := cntF d) hyk)
      have HLE := Lib.hid (sum_le (f := cntF d) hyk)
      obtain ⟨m, hm2⟩ : ∃ m, ((fs.take k).map (cntF d)).sum = m := ⟨_, rfl⟩
      rw [hm2] at hle hct
      have HM := Lib.hid hm2
      have hsr := ho.size
      have hbel5 : Below w.heap.size w w5 := hbel.trans (o5.below0.mono (by omega))
      have hyin := (HFS.out y hy).below hbel5
      obtain ⟨SB, hSB⟩ : ∃ c, (y.body.map (cntS d)).sum = c := ⟨_, rfl⟩
      have HYC : Hid (cntF d y = 1 + SB) := Lib.hid (by rw [← hSB]; rfl)
      have hct5 := hct.only o5
      have g0 := hct5.f.cell 0
      have HMO := more_any hct5 hle hm
      obtain ⟨r1, hr1⟩ : ∃ r, decide (m + 1 ≤ most) = r := ⟨_, rfl⟩
      unfold CO at HMO
      rw [hr1] at HMO
      have HMO2 := Lib.hid HMO
      have HR1 := Lib.hid hr1
      have HBO : Hid (∀ m2 wx, Below w.heap.size w5 wx → CT wx w2.heap.size w1.heap.size w3.heap.size m2 most → m2 ≤ most → Calls Try.prog 20 #[.slice y.bA y.body.length y.bc, .func (.func 21) #[] #[.pointer (some ⟨w3.heap.size, 0, none⟩)], .func (.func 22) #[] #[.pointer (some ⟨w3.heap.size, 0, none⟩)]] wx fun y w' => CO wx w2.heap.size w1.heap.size w3.heap.size m2 most SB y w') := Lib.hid (fun m2 wx hb hc hle => by
        have hi := hyin.below hb
        have h := inBody_any d y.body y.bA y.body.length y.bc m2 w.heap.size wx hi.2.1.1 hi.2.1.2 hi.2.2 (by omega) hc hle hm
        rw [hSB] at h
        exact h)
      have HO5 := Lib.hid (ho.trans (o5.mono (S' := [w2.heap.size]) (by simp)) (by simp))
      have hs5 := o5.size
      have HB5 := Lib.hid b5
      have HMOST : Hid (∀ c, most < m + c → c ≤ cntF d y → min C (most + 1) = most + 1) := Lib.hid (fun c h1 h2 => by
        have h3 := HCD.out
        have h4 := HLE.out
        have h5 := HM.out
        omega)
      clear hr1 hct hct5 ho hy hyk hyin HMO hSB hbel hbel5 b5 o5 hm2
      go_wp2_with fail
      refine HMO2.out.mono ?_
      rintro e w6 ⟨rfl, hc6, ho6⟩
      have HO6 := Lib.hid ho6
      have HC6 := Lib.hid hc6
      clear hc6 ho6 HMO2
      cases r1
      · have hc := HC6.out.min_no (of_decide_eq_false HR1.out)
        have x0 := hc.a.cell 0
        have x1 := hc.b.cell 0
        have HF := Lib.hid (HMOST.out 1 (by have := of_decide_eq_false HR1.out; omega) (by rw [HYC.out]; omega))
        have HOF := Lib.hid (HO4.out.trans (HO5.out.trans HO6.out (by simp)) (by simp; omega))
        clear hc
        go_wp2_with fail
        go_ret
        exact ⟨ret_int (by rw [HF.out]; omega), HOF.out⟩
      · have HC7 := Lib.hid (HC6.out.min_yes (of_decide_eq_true HR1.out))
        have t3 := (HB5.out.only HO6.out (by simp; omega)).cell 3
        have HB7 := HBO.out (m + 1) w6 (HO6.out.to_below (by omega) (by simp; omega)) HC7.out (of_decide_eq_true HR1.out)
        obtain ⟨r2, hr2⟩ : ∃ r, decide (m + 1 + SB ≤ most) = r := ⟨_, rfl⟩
        unfold CO at HB7
        rw [hr2] at HB7
        have HB8 := Lib.hid HB7
        have HR2 := Lib.hid hr2
        clear HB7 hr2 HC6
        go_wp2_with fail
        refine HB8.out.mono ?_
        rintro e w7 ⟨rfl, hc7, ho7⟩
        have HO7 := Lib.hid (HO5.out.trans (HO6.out.trans ho7 (by simp)) (by simp))
        have HC8 := Lib.hid hc7
        clear hc7 ho7 HB8
        cases r2
        · have hc := HC8.out.min_no (of_decide_eq_false HR2.out)
          have x0 := hc.a.cell 0
          have x1 := hc.b.cell 0
          have HF := Lib.hid (HMOST.out (1 + SB) (by have := of_decide_eq_false HR2.out; omega) (by rw [HYC.out]; omega))
          have HOF := Lib.hid (HO4.out.trans HO7.out (by simp; omega))
          clear hc
          go_wp2_with fail
          go_ret
          exact ⟨ret_int (by rw [HF.out]; omega), HOF.out⟩
        · have HNW : Hid (((fs.take (k + 1)).map (cntF d)).sum = m + 1 + SB) := Lib.hid (by rw [HNX.out, HYC.out]; have := HM.out; omega)
          have HC9 := Lib.hid (HC8.out.min_yes (of_decide_eq_true HR2.out))
          go_wp2_with fail
          go_roundw
          case measure => simp [intOf]; omega
          case rel => exact ⟨k + 1, by go_num, by omega, by rw [HNW.out]; exact of_decide_eq_true HR2.out, by rw [HNW.out]; exact HC9.out, HO7.out⟩
    · obtain rfl : k = fs.length := by omega
      have d1 : decide ((fs.length : Int) < (fs.length : Int)) = false := decide_eq_false (by omega)
      rw [List.take_length, ← HCD.out] at hle hct
      have x0 := hct.a.cell 0
      have x1 := hct.b.cell 0
      have HOF := Lib.hid (HO4.out.trans ho (by simp; omega))
      clear hct ho
      go_wp2_with fail
      go_ret
      exact ⟨ret_int (by omega), HOF.out⟩
end
end Go.Proofs.Ytmjkohlhbboapaa.Tree
