/- has, inBody, Count. PRINTED by wip/gen_trbody.py. -/
import Derived.Test.YtmjkohlhbboapaaTrCnt
namespace Go.Proofs.Ytmjkohlhbboapaa.Tree
open Go.RowKit Go.Shelf
set_option linter.unusedVariables false
set_option maxRecDepth 100000
section
variable {w w' : World} {B d d2 nb mb fb n most : Nat}
theorem noneX_any {x : XT} (hx : XT.In w B d x) (hB : B ≤ w.heap.size) : Calls Try.prog 54 #[x.val] w fun e w' => e = .returned (.bool (noneX x)) ∧ Only [] w w' := by
  cases d with
  | zero => exact hx.elim
  | succ d => rw [← same_zero d x]; exact none_any (hx.more hB)
set_option maxHeartbeats 4000000 in
theorem has_any {s : ST} (hs : ST.In w B d s) (hB : B ≤ w.heap.size) : Calls Try.prog 40 #[s.val] w fun e w' => e = .returned (.bool (hasS s)) ∧ Only [] w w' := by
  cases d with
  | zero => exact hs.elim
  | succ d =>
    obtain ⟨w1, hw1⟩ : ∃ w1, w.alloc (.cells #[.int .i64 s.op, .string s.s, .int .i64 s.e.op, .int .i64 s.e.n, .string s.e.s, .string s.e.q, .slice s.e.A s.e.X.length s.e.c, .slice s.bA s.body.length s.bc, .slice s.eA s.els.length s.ec] 31) = w1 := ⟨_, rfl⟩
    have b1 : Blk w1 w.heap.size 31 #[.int .i64 s.op, .string s.s, .int .i64 s.e.op, .int .i64 s.e.n, .string s.e.s, .string s.e.q, .slice s.e.A s.e.X.length s.e.c, .slice s.bA s.body.length s.bc, .slice s.eA s.els.length s.ec] := by rw [← hw1]; exact Blk.new w _ _
    have o1 : Only [] w w1 := by rw [← hw1]; exact (Only.refl [] w).alloc _
    have p0 := b1.cell 0
    have p1 := b1.cell 1
    have p2 := b1.cell 2
    have p3 := b1.cell 3
    have p4 := b1.cell 4
    have p5 := b1.cell 5
    have p6 := b1.cell 6
    have p7 := b1.cell 7
    have p8 := b1.cell 8
    have HN := Lib.hid (noneX_any (hs.1.only o1 (Nat.le_refl _)) (Nat.le_trans hB o1.size))
    have HO := Lib.hid o1
    have HS : Hid (hasS s = ((s.op != 8) && ((s.op != 9) && !((s.op == 5) && noneX s.e)))) := Lib.hid rfl
    obtain ⟨f8, hf8⟩ : ∃ f, (s.op != 8) = f := ⟨_, rfl⟩
    obtain ⟨f9, hf9⟩ : ∃ f, (s.op != 9) = f := ⟨_, rfl⟩
    obtain ⟨f5, hf5⟩ : ∃ f, (s.op == 5) = f := ⟨_, rfl⟩
    obtain ⟨fn, hfn⟩ : ∃ f, noneX s.e = f := ⟨_, rfl⟩
    obtain ⟨r, hr⟩ : ∃ r, hasS s = r := ⟨_, rfl⟩
    rw [hf8, hf9, hf5, hfn, hr] at HS
    rw [hfn] at HN
    rw [hr]
    unfold XT.val at HN
    unfold ST.val
    clear hs b1 o1 hfn hr
    go_enter Try.func40, Try.ntmps40
    cases f8
    · go_wp2_with fail
      go_ret
      exact ⟨by rw [HS.out]; rfl, HO.out⟩
    · cases f9
      · go_wp2_with fail
        go_ret
        exact ⟨by rw [HS.out]; rfl, HO.out⟩
      · cases f5
        · go_wp2_with fail
          go_ret
          exact ⟨by rw [HS.out]; rfl, HO.out⟩
        · go_wp2_with fail
          refine HN.out.mono ?_
          rintro e w2 ⟨rfl, ho2⟩
          have HO2 := Lib.hid (HO.out.trans ho2 (by simp))
          clear ho2
          cases fn
          · go_wp2_with fail
            go_ret
            exact ⟨by rw [HS.out]; rfl, HO2.out⟩
          · go_wp2_with fail
            go_ret
            exact ⟨by rw [HS.out]; rfl, HO2.out⟩
theorem CT.min_yes (h : CT w nb mb fb (min n (most + 1)) most) (hn : n ≤ most) : CT w nb mb fb n most := by rwa [show min n (most + 1) = n by omega] at h
theorem CT.min_no (h : CT w nb mb fb (min n (most + 1)) most) (hn : ¬ n ≤ most) : CT w nb mb fb (most + 1) most := by rwa [show min n (most + 1) = most + 1 by omega] at h
set_option maxHeartbeats 16000000 in
theorem inBody_any : ∀ (d : Nat) (l : List ST) (A : Option Addr) (len cap n B : Nat) (w : World), Recs w B 9 A len (l.map ST.row) → len ≤ maxLen → (∀ y ∈ l, ST.In w B d y) → B ≤ nb → CT w nb mb fb n most → n ≤ most → most ≤ 1000000 →
    Calls Try.prog 20 #[.slice A len cap, .func (.func 21) #[] #[.pointer (some ⟨fb, 0, none⟩)], .func (.func 22) #[] #[.pointer (some ⟨fb, 0, none⟩)]] w fun y w' => CO w nb mb fb n most ((l.map (cntS d)).sum) y w' := by
  intro d
  induction d using Nat.strongRecOn with
  | ind d ih =>
    intro l A len cap n B w hr hlm hin hB hct hn hm
    have hnb := hct.a.lt
    have hl : l.length = len := by have := hr.1; rwa [List.length_map] at this
    unfold maxLen at hlm
    have HR := Lib.hid hr
    have HIN := Lib.hid hin
    have HL := Lib.hid hl
    have HIH := Lib.hid ih
    have HC0 := Lib.hid hct
    clear hr hin hl ih hct
    obtain ⟨C, hC⟩ : ∃ C, (l.map (cntS d)).sum = C := ⟨_, rfl⟩
    rw [hC]
    have HC := Lib.hid hC
    clear hC
    go_enter Try.func20, Try.ntmps20
    go_wp2_with fail
    go_loopw [11] (fun iv wr => ∃ k : Nat, iv = .int .i64 k ∧ k ≤ len ∧ n + ((l.take k).map (cntS d)).sum ≤ most ∧ CT wr nb mb fb (n + ((l.take k).map (cntS d)).sum) most ∧ Only [nb] w wr) (fun iv _ => len - (intOf iv).toNat)
    case atStart => exact ⟨0, rfl, by omega, by simpa using hn, by simpa using HC0.out, Only.refl _ _⟩
    case round =>
      obtain ⟨k, rfl, hk, hle, hct, ho⟩ := hrel
      clear HC0
      by_cases hlt : k < len
      · have d1 : decide ((k : Int) < (len : Int)) = true := decide_eq_true (by omega)
        have hbel : Below B w wr := ho.to_below (by omega) (by simp; omega)
        obtain ⟨b, off, y, rfl, _, hy, hyk, q0, q1, q2, q3, q4, q5, q6, q7, q8⟩ := st_at (HR.out.below hbel) hlt
        obtain ⟨d', rfl⟩ : ∃ k, d = k + 1 := by
          have := HIN.out y hy
          cases d with
          | zero => exact this.elim
          | succ k => exact ⟨k, rfl⟩
        obtain ⟨w3, hw3⟩ : ∃ w3, wr.alloc (.cells #[.int .i64 y.op, .string y.s, .int .i64 y.e.op, .int .i64 y.e.n, .string y.e.s, .string y.e.q, .slice y.e.A y.e.X.length y.e.c, .slice y.bA y.body.length y.bc, .slice y.eA y.els.length y.ec] 31) = w3 := ⟨_, rfl⟩
        have b3 : Blk w3 wr.heap.size 31 #[.int .i64 y.op, .string y.s, .int .i64 y.e.op, .int .i64 y.e.n, .string y.e.s, .string y.e.q, .slice y.e.A y.e.X.length y.e.c, .slice y.bA y.body.length y.bc, .slice y.eA y.els.length y.ec] := by rw [← hw3]; exact Blk.new wr _ _
        have o3 : Only [] wr w3 := by rw [← hw3]; exact (Only.refl [] wr).alloc _
        have s0 := b3.cell 0
        have s1 := b3.cell 1
        have s2 := b3.cell 2
        have s3 := b3.cell 3
        have s4 := b3.cell 4
        have s5 := b3.cell 5
        have s6 := b3.cell 6
        have s7 := b3.cell 7
        have s8 := b3.cell 8
        have HNX := Lib.hid (sum_take (f := cntS (d' + 1)) hyk)
        have HLE := Lib.hid (sum_le (f := cntS (d' + 1)) hyk)
        have HYC : Hid (cntS (d' + 1) y = 1 + (if hasS y = true then cntX (d' + 1) y.e else 0) + (y.body.map (cntS d')).sum + (y.els.map (cntS d')).sum) := Lib.hid rfl
        obtain ⟨m, hm2⟩ : ∃ m, n + ((l.take k).map (cntS (d' + 1))).sum = m := ⟨_, rfl⟩
        rw [hm2] at hle hct
        have HM := Lib.hid hm2
        have hyin := ((HIN.out y hy).below hbel).only o3 (Nat.le_refl B)
        have HY := Lib.hid hyin
        have HB3 := Lib.hid b3
        have HO3 := Lib.hid (ho.trans (o3.mono (S' := [nb]) (by simp)) (by simp))
        have hw3 := ho.size
        have hw33 := o3.size
        obtain ⟨EX, hEX⟩ : ∃ c, cntX (d' + 1) y.e = c := ⟨_, rfl⟩
        obtain ⟨SB, hSB⟩ : ∃ c, (y.body.map (cntS d')).sum = c := ⟨_, rfl⟩
        obtain ⟨SE, hSE⟩ : ∃ c, (y.els.map (cntS d')).sum = c := ⟨_, rfl⟩
        obtain ⟨YC, hYC⟩ : ∃ c, cntS (d' + 1) y = c := ⟨_, rfl⟩
        obtain ⟨hsy, hhs⟩ : ∃ h, hasS y = h := ⟨_, rfl⟩
        rw [hEX, hSB, hSE, hYC, hhs] at HYC
        rw [hYC] at HNX HLE
        have HST := stmtF_any (hct.only o3) hle hm y
        obtain ⟨r1, hr1⟩ : ∃ r, decide (m + 1 ≤ most) = r := ⟨_, rfl⟩
        unfold CO at HST
        rw [hr1] at HST
        unfold ST.val at HST
        have HST2 := Lib.hid HST
        have HR1 := Lib.hid hr1
        have HAS : Hid (∀ wx, Below B w3 wx → w3.heap.size ≤ wx.heap.size → Calls Try.prog 40 #[.agg #[.int .i64 y.op, .string y.s, .int .i64 y.e.op, .int .i64 y.e.n, .string y.e.s, .string y.e.q, .slice y.e.A y.e.X.length y.e.c, .slice y.bA y.body.length y.bc, .slice y.eA y.els.length y.ec]] wx fun e w' => e = .returned (.bool hsy) ∧ Only [] wx w') := Lib.hid (fun wx hb hsz => by
          have h := has_any (hyin.below hb) (by omega)
          rw [hhs] at h
          exact h)
        have HEX : Hid (∀ m2 wx, Below B w3 wx → CT wx nb mb fb m2 most → m2 ≤ most → Calls Try.prog 41 #[.agg #[.int .i64 y.e.op, .int .i64 y.e.n, .string y.e.s, .string y.e.q, .slice y.e.A y.e.X.length y.e.c], .func (.func 22) #[] #[.pointer (some ⟨fb, 0, none⟩)]] wx fun y w' => CO wx nb mb fb m2 most EX y w') := Lib.hid (fun m2 wx hb hc hle => by
          have h := inExpr_any (d' + 1) y.e m2 B wx ((hyin.below hb).1) hB hc hle hm
          rw [hEX] at h
          exact h)
        have HBO : Hid (∀ m2 wx, Below B w3 wx → CT wx nb mb fb m2 most → m2 ≤ most → Calls Try.prog 20 #[.slice y.bA y.body.length y.bc, .func (.func 21) #[] #[.pointer (some ⟨fb, 0, none⟩)], .func (.func 22) #[] #[.pointer (some ⟨fb, 0, none⟩)]] wx fun y w' => CO wx nb mb fb m2 most SB y w') := Lib.hid (fun m2 wx hb hc hle => by
          have hi := hyin.below hb
          have h := HIH.out d' (by omega) y.body y.bA y.body.length y.bc m2 B wx hi.2.1.1 hi.2.1.2 hi.2.2.2.1 hB hc hle hm
          rw [hSB] at h
          exact h)
        have HEL : Hid (∀ m2 wx, Below B w3 wx → CT wx nb mb fb m2 most → m2 ≤ most → Calls Try.prog 20 #[.slice y.eA y.els.length y.ec, .func (.func 21) #[] #[.pointer (some ⟨fb, 0, none⟩)], .func (.func 22) #[] #[.pointer (some ⟨fb, 0, none⟩)]] wx fun y w' => CO wx nb mb fb m2 most SE y w') := Lib.hid (fun m2 wx hb hc hle => by
          have hi := hyin.below hb
          have h := HIH.out d' (by omega) y.els y.eA y.els.length y.ec m2 B wx hi.2.2.1.1 hi.2.2.1.2 hi.2.2.2.2 hB hc hle hm
          rw [hSE] at h
          exact h)
        have HCS : Hid (∀ wx c2, CT wx nb mb fb (most + 1) most → Only [nb] w wx → most < m + c2 → c2 ≤ YC → CO w nb mb fb n most C (.returned (.bool false)) wx) := Lib.hid (fun wx c2 hc hox h1 h2 => CO.no (c' := 0) hc hox (by
          have h3 := HC.out
          have h4 := HLE.out
          have h5 := HM.out
          omega))
        have KEEP : Hid (∀ wx, Only [nb] w3 wx → wx.cell? ⟨wr.heap.size, 0, none⟩ = some (.int .i64 y.op) ∧ wx.cell? ⟨wr.heap.size, 1, none⟩ = some (.string y.s) ∧ wx.cell? ⟨wr.heap.size, 2, none⟩ = some (.int .i64 y.e.op) ∧ wx.cell? ⟨wr.heap.size, 3, none⟩ = some (.int .i64 y.e.n) ∧ wx.cell? ⟨wr.heap.size, 4, none⟩ = some (.string y.e.s) ∧ wx.cell? ⟨wr.heap.size, 5, none⟩ = some (.string y.e.q) ∧ wx.cell? ⟨wr.heap.size, 6, none⟩ = some (.slice y.e.A y.e.X.length y.e.c) ∧ wx.cell? ⟨wr.heap.size, 7, none⟩ = some (.slice y.bA y.body.length y.bc) ∧ wx.cell? ⟨wr.heap.size, 8, none⟩ = some (.slice y.eA y.els.length y.ec)) := Lib.hid (fun wx hox => ⟨hox.cell s0 (by simp; omega), hox.cell s1 (by simp; omega), hox.cell s2 (by simp; omega), hox.cell s3 (by simp; omega), hox.cell s4 (by simp; omega), hox.cell s5 (by simp; omega), hox.cell s6 (by simp; omega), hox.cell s7 (by simp; omega), hox.cell s8 (by simp; omega)⟩)
        clear HST hr1 hm2 b3 o3 hct ho hbel hy hyk hyin hEX hSB hSE hYC hhs HB3 HY
        go_wp2_with fail
        refine HST2.out.mono ?_
        rintro e w4 ⟨rfl, hc4, ho4⟩
        have HO4 := Lib.hid ho4
        have HC4 := Lib.hid hc4
        clear hc4 ho4 HST2
        cases r1
        · have HF := Lib.hid (HCS.out w4 1 (HC4.out.min_no (of_decide_eq_false HR1.out)) (HO3.out.trans HO4.out (by simp)) (by have := of_decide_eq_false HR1.out; omega) (by have := HYC.out; omega))
          go_wp2_with fail
          go_ret
          exact HF.out
        · have HC5 := Lib.hid (HC4.out.min_yes (of_decide_eq_true HR1.out))
          obtain ⟨t0, t1, t2, t3, t4, t5, t6, t7, t8⟩ := KEEP.out w4 HO4.out
          have HA4 := Lib.hid (HAS.out w4 (HO4.out.to_below (by omega) (by simp; omega)) HO4.out.size)
          clear HC4
          go_wp2_with fail
          refine HA4.out.mono ?_
          rintro e w5 ⟨rfl, ho5⟩
          have HO5 := Lib.hid (HO4.out.trans (ho5.mono (S' := [nb]) (by simp)) (by simp))
          have HC6 := Lib.hid (HC5.out.only ho5)
          obtain ⟨u_0, u_1, u_2, u_3, u_4, u_5, u_6, u_7, u_8⟩ := KEEP.out w5 HO5.out
          clear ho5 HA4 HC5 t0 t1 t2 t3 t4 t5 t6 t7 t8
          cases hsy
          · have HMA : Hid (m + 1 ≤ most) := Lib.hid (of_decide_eq_true HR1.out)
            obtain ⟨r3, hr3⟩ : ∃ r, decide (m + 1 + SB ≤ most) = r := ⟨_, rfl⟩
            have HB5 := HBO.out (m + 1) w5 (HO5.out.to_below (by omega) (by simp; omega)) HC6.out HMA.out
            unfold CO at HB5
            rw [hr3] at HB5
            have HB6 := Lib.hid HB5
            have HR3 := Lib.hid hr3
            clear HB5 hr3
            go_wp2_with fail
            refine HB6.out.mono ?_
            rintro e w7 ⟨rfl, hc7, ho7⟩
            have HO7 := Lib.hid (HO5.out.trans ho7 (by simp))
            have HC7 := Lib.hid hc7
            clear hc7 ho7 HB6
            cases r3
            · have HF := Lib.hid (HCS.out w7 (m + 1 + SB - m) (HC7.out.min_no (of_decide_eq_false HR3.out)) (HO3.out.trans HO7.out (by simp)) (by have := of_decide_eq_false HR3.out; omega) (by have := HYC.out; simp at this; omega))
              go_wp2_with fail
              go_ret
              exact HF.out
            · have HC8 := Lib.hid (HC7.out.min_yes (of_decide_eq_true HR3.out))
              obtain ⟨v_0, v_1, v_2, v_3, v_4, v_5, v_6, v_7, v_8⟩ := KEEP.out w7 HO7.out
              obtain ⟨r4, hr4⟩ : ∃ r, decide (m + 1 + SB + SE ≤ most) = r := ⟨_, rfl⟩
              have HE5 := HEL.out (m + 1 + SB) w7 (HO7.out.to_below (by omega) (by simp; omega)) HC8.out (of_decide_eq_true HR3.out)
              unfold CO at HE5
              rw [hr4] at HE5
              have HE6 := Lib.hid HE5
              have HR4 := Lib.hid hr4
              clear HE5 hr4 HC7
              go_wp2_with fail
              refine HE6.out.mono ?_
              rintro e w8 ⟨rfl, hc8, ho8⟩
              have HO8 := Lib.hid (HO3.out.trans (HO7.out.trans ho8 (by simp)) (by simp))
              have HC9 := Lib.hid hc8
              clear hc8 ho8 HE6
              cases r4
              · have HF := Lib.hid (HCS.out w8 (m + 1 + SB + SE - m) (HC9.out.min_no (of_decide_eq_false HR4.out)) HO8.out (by have := of_decide_eq_false HR4.out; omega) (by have := HYC.out; simp at this; omega))
                go_wp2_with fail
                go_ret
                exact HF.out
              · have HCA := Lib.hid (HC9.out.min_yes (of_decide_eq_true HR4.out))
                have HNW : Hid (n + ((l.take (k + 1)).map (cntS (d' + 1))).sum = m + 1 + SB + SE) := Lib.hid (by rw [HNX.out]; have := HYC.out; have := HM.out; simp at *; omega)
                go_wp2_with fail
                go_roundw
                case measure => simp [intOf]; omega
                case rel => exact ⟨k + 1, by go_num, by omega, by rw [HNW.out]; exact of_decide_eq_true HR4.out, by rw [HNW.out]; exact HCA.out, HO8.out⟩
          · obtain ⟨r2, hr2⟩ : ∃ r, decide (m + 1 + EX ≤ most) = r := ⟨_, rfl⟩
            have HX5 := HEX.out (m + 1) w5 (HO5.out.to_below (by omega) (by simp; omega)) HC6.out (of_decide_eq_true HR1.out)
            unfold CO at HX5
            rw [hr2] at HX5
            have HX6 := Lib.hid HX5
            have HR2 := Lib.hid hr2
            clear HX5 hr2
            go_wp2_with fail
            refine HX6.out.mono ?_
            rintro e w6 ⟨rfl, hc6, ho6⟩
            have HO6 := Lib.hid (HO5.out.trans ho6 (by simp))
            have HC7x := Lib.hid hc6
            clear hc6 ho6 HX6
            cases r2
            · have HF := Lib.hid (HCS.out w6 (1 + EX) (HC7x.out.min_no (of_decide_eq_false HR2.out)) (HO3.out.trans HO6.out (by simp)) (by have := of_decide_eq_false HR2.out; omega) (by have := HYC.out; simp at this; omega))
              go_wp2_with fail
              go_ret
              exact HF.out
            · have HC8x := Lib.hid (HC7x.out.min_yes (of_decide_eq_true HR2.out))
              have HMA : Hid (m + 1 + EX ≤ most) := Lib.hid (of_decide_eq_true HR2.out)
              obtain ⟨x_0, x_1, x_2, x_3, x_4, x_5, x_6, x_7, x_8⟩ := KEEP.out w6 HO6.out
              clear HC7x HC6
              obtain ⟨r3, hr3⟩ : ∃ r, decide (m + 1 + EX + SB ≤ most) = r := ⟨_, rfl⟩
              have HB5 := HBO.out (m + 1 + EX) w6 (HO6.out.to_below (by omega) (by simp; omega)) HC8x.out HMA.out
              unfold CO at HB5
              rw [hr3] at HB5
              have HB6 := Lib.hid HB5
              have HR3 := Lib.hid hr3
              clear HB5 hr3
              go_wp2_with fail
              refine HB6.out.mono ?_
              rintro e w7 ⟨rfl, hc7, ho7⟩
              have HO7 := Lib.hid (HO6.out.trans ho7 (by simp))
              have HC7 := Lib.hid hc7
              clear hc7 ho7 HB6
              cases r3
              · have HF := Lib.hid (HCS.out w7 (m + 1 + EX + SB - m) (HC7.out.min_no (of_decide_eq_false HR3.out)) (HO3.out.trans HO7.out (by simp)) (by have := of_decide_eq_false HR3.out; omega) (by have := HYC.out; simp at this; omega))
                go_wp2_with fail
                go_ret
                exact HF.out
              · have HC8 := Lib.hid (HC7.out.min_yes (of_decide_eq_true HR3.out))
                obtain ⟨v_0, v_1, v_2, v_3, v_4, v_5, v_6, v_7, v_8⟩ := KEEP.out w7 HO7.out
                obtain ⟨r4, hr4⟩ : ∃ r, decide (m + 1 + EX + SB + SE ≤ most) = r := ⟨_, rfl⟩
                have HE5 := HEL.out (m + 1 + EX + SB) w7 (HO7.out.to_below (by omega) (by simp; omega)) HC8.out (of_decide_eq_true HR3.out)
                unfold CO at HE5
                rw [hr4] at HE5
                have HE6 := Lib.hid HE5
                have HR4 := Lib.hid hr4
                clear HE5 hr4 HC7
                go_wp2_with fail
                refine HE6.out.mono ?_
                rintro e w8 ⟨rfl, hc8, ho8⟩
                have HO8 := Lib.hid (HO3.out.trans (HO7.out.trans ho8 (by simp)) (by simp))
                have HC9 := Lib.hid hc8
                clear hc8 ho8 HE6
                cases r4
                · have HF := Lib.hid (HCS.out w8 (m + 1 + EX + SB + SE - m) (HC9.out.min_no (of_decide_eq_false HR4.out)) HO8.out (by have := of_decide_eq_false HR4.out; omega) (by have := HYC.out; simp at this; omega))
                  go_wp2_with fail
                  go_ret
                  exact HF.out
                · have HCA := Lib.hid (HC9.out.min_yes (of_decide_eq_true HR4.out))
                  have HNW : Hid (n + ((l.take (k + 1)).map (cntS (d' + 1))).sum = m + 1 + EX + SB + SE) := Lib.hid (by rw [HNX.out]; have := HYC.out; have := HM.out; simp at *; omega)
                  go_wp2_with fail
                  go_roundw
                  case measure => simp [intOf]; omega
                  case rel => exact ⟨k + 1, by go_num, by omega, by rw [HNW.out]; exact of_decide_eq_true HR4.out, by rw [HNW.out]; exact HCA.out, HO8.out⟩
      · obtain rfl : k = len := by omega
        have d1 : decide ((k : Int) < (k : Int)) = false := decide_eq_false (by omega)
        rw [List.take_of_length_le (by rw [HL.out]; exact Nat.le_refl _), HC.out] at hle hct
        have HF := Lib.hid (CO.yes (n := n) (c := C) hct ho rfl hle)
        clear hct ho
        go_wp2_with fail
        go_ret
        exact HF.out
end
end Go.Proofs.Ytmjkohlhbboapaa.Tree
