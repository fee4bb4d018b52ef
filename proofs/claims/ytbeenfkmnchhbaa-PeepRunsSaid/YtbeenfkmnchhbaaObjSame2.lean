/- Are two objects the same: object.Same, and the document's. PRINTED by wip/gen_objsame2.py -/
import Derived.Test.YtbeenfkmnchhbaaObjSame
namespace Go.Proofs.Ytbeenfkmnchhbaa.Object
open Go.RowKit
set_option linter.unusedVariables false
set_option maxRecDepth 100000
theorem od_eq (a b : OD) : decide (a = b) = (decide (a.code = b.code) && (decide (a.ents = b.ents) && decide (a.calls = b.calls))) := by
  obtain ⟨a1, a2, a3⟩ := a
  obtain ⟨b1, b2, b3⟩ := b
  rw [Bool.eq_iff_iff]
  simp
set_option maxHeartbeats 2000000 in
theorem same_any (o p : Ob) (d e : OD) (w : World) (h : IsOb w o d) (k : IsOb w p e) (hm : o.m1 ≤ 1000000000000 ∧ o.m2 ≤ 1000000000000 ∧ o.m3 ≤ 1000000000000) (hn : p.m1 ≤ 1000000000000 ∧ p.m2 ≤ 1000000000000 ∧ p.m3 ≤ 1000000000000) :
    Calls Try.prog 44 #[o.val, p.val] w fun x w' => x = .returned (.bool (decide (d = e))) ∧ Only [] w w' := by
  rw [od_eq]
  have hC := fun w' (ho : Only [] w w') => equal_code o.A1 p.A1 o.m1 p.m1 o.p1 p.p1 _ _ d.code e.code w' (h.code.only ho (by simp)) (k.code.only ho (by simp)) (by omega) (by omega)
  have hE := fun w' (ho : Only [] w w') => equal_ent o.A2 p.A2 o.m2 p.m2 o.p2 p.p2 _ _ d.ents e.ents w' (h.ents.only ho (by simp)) (k.ents.only ho (by simp)) (by omega) (by omega)
  have hK := fun w' (ho : Only [] w w') => equal_call o.A3 p.A3 o.m3 p.m3 o.p3 p.p3 _ _ d.calls e.calls w' (h.calls.only ho (by simp)) (k.calls.only ho (by simp)) (by omega) (by omega)
  clear h k
  obtain ⟨A1, m1, p1, A2, m2, p2, A3, m3, p3⟩ := o
  obtain ⟨B1, n1, q1, B2, n2, q2, B3, n3, q3⟩ := p
  unfold Ob.val
  simp only at hC hE hK ⊢
  generalize decide (d.code = e.code) = b1 at *
  generalize decide (d.ents = e.ents) = b2 at *
  generalize decide (d.calls = e.calls) = b3 at *
  have HC := Lib.hid hC
  have HE := Lib.hid hE
  have HK := Lib.hid hK
  have hb0 := Blk.new w 57 #[.slice A1 m1 p1, .slice A2 m2 p2, .slice A3 m3 p3]
  have hb1 := hb0.alloc (.cells #[.slice B1 n1 q1, .slice B2 n2 q2, .slice B3 n3 q3] 57)
  have hc1 := Blk.new (w.alloc (.cells #[.slice A1 m1 p1, .slice A2 m2 p2, .slice A3 m3 p3] 57)) 57 #[.slice B1 n1 q1, .slice B2 n2 q2, .slice B3 n3 q3]
  rw [World.size_alloc] at hc1
  have HB := Lib.hid hb1
  have HQ := Lib.hid hc1
  have HO := Lib.hid (((Only.refl [] w).alloc (.cells #[.slice A1 m1 p1, .slice A2 m2 p2, .slice A3 m3 p3] 57)).alloc (.cells #[.slice B1 n1 q1, .slice B2 n2 q2, .slice B3 n3 q3] 57))
  clear hC hE hK hb0 hb1 hc1
  cases b1 <;> cases b2
  all_goals
    go_enter Try.func44, Try.ntmps44
    go_wp2_with (first
      | (go_at_call 99; refine (HK.out w3 HO3.out).mono ?_; rintro x w4 ⟨rfl, ho4⟩; have HO4 := Lib.hid (HO3.out.trans ho4 (by simp)))
      | (go_at_call 98; refine (HE.out w2 HO2.out).mono ?_; rintro x w3 ⟨rfl, ho3⟩; have HO3 := Lib.hid (HO2.out.trans ho3 (by simp)); have hb3 := HB2.out.only ho3 (by simp); have hq3 := HQ2.out.only ho3 (by simp); have y0 : w3.cell? ⟨w.heap.size, 2, none⟩ = some (.slice A3 m3 p3) := hb3.cell 2; have y1 : w3.cell? ⟨w.heap.size + 1, 2, none⟩ = some (.slice B3 n3 q3) := hq3.cell 2; clear hb3 hq3)
      | (go_at_call 97; refine (HC.out _ HO.out).mono ?_; rintro x w2 ⟨rfl, ho2⟩; have HO2 := Lib.hid (HO.out.trans ho2 (by simp)); have hb2 := HB.out.only ho2 (by simp); have hq2 := HQ.out.only ho2 (by simp); have x0 : w2.cell? ⟨w.heap.size, 1, none⟩ = some (.slice A2 m2 p2) := hb2.cell 1; have x1 : w2.cell? ⟨w.heap.size + 1, 1, none⟩ = some (.slice B2 n2 q2) := hq2.cell 1; have HB2 := Lib.hid hb2; have HQ2 := Lib.hid hq2; clear hb2 hq2))
  all_goals
    go_ret
    first | exact ⟨rfl, HO4.out⟩ | exact ⟨rfl, HO3.out⟩ | exact ⟨rfl, HO2.out⟩
set_option maxHeartbeats 4000000 in
theorem rsame_any (o p : Ob) (d e : OD) (w : World) (h : IsOb w o d) (k : IsOb w p e) (hm : o.m1 ≤ 1000000000000 ∧ o.m2 ≤ 1000000000000 ∧ o.m3 ≤ 1000000000000) :
    Calls Try.prog 87 #[o.val, p.val] w fun x w' => x = .returned (.bool (decide (d = e))) ∧ Only [] w w' := by
  obtain ⟨bb, hbb⟩ : ∃ b, decide (d = e) = b := ⟨_, rfl⟩
  rw [hbb]
  rw [od_eq] at hbb
  have HBB := Lib.hid hbb
  have HH := Lib.hid h
  have HK := Lib.hid k
  have N1 := Lib.hid h.n1
  have N2 := Lib.hid h.n2
  have N3 := Lib.hid h.n3
  have M1 := Lib.hid k.n1
  have M2 := Lib.hid k.n2
  have M3 := Lib.hid k.n3
  clear hbb h k
  obtain ⟨hm1, hm2, hm3⟩ := hm
  obtain ⟨A1, m1, p1, A2, m2, p2, A3, m3, p3⟩ := o
  obtain ⟨B1, n1, q1, B2, n2, q2, B3, n3, q3⟩ := p
  unfold Ob.val
  simp only at N1 N2 N3 M1 M2 M3 hm1 hm2 hm3 ⊢
  have hb0 := Blk.new w 57 #[.slice A1 m1 p1, .slice A2 m2 p2, .slice A3 m3 p3]
  have hb1 := hb0.alloc (.cells #[.slice B1 n1 q1, .slice B2 n2 q2, .slice B3 n3 q3] 57)
  have hc1 := Blk.new (w.alloc (.cells #[.slice A1 m1 p1, .slice A2 m2 p2, .slice A3 m3 p3] 57)) 57 #[.slice B1 n1 q1, .slice B2 n2 q2, .slice B3 n3 q3]
  rw [World.size_alloc] at hc1
  have HB := Lib.hid hb1
  have HQ := Lib.hid hc1
  have HO := Lib.hid (((Only.refl [] w).alloc (.cells #[.slice A1 m1 p1, .slice A2 m2 p2, .slice A3 m3 p3] 57)).alloc (.cells #[.slice B1 n1 q1, .slice B2 n2 q2, .slice B3 n3 q3] 57))
  clear hb0 hb1 hc1
  by_cases hl : m1 = n1 ∧ m2 = n2 ∧ m3 = n3
  · obtain ⟨rfl, rfl, rfl⟩ := hl
    have e1 : ((m1 : Int) != (m1 : Int)) = false := by simp
    have e2 : ((m2 : Int) != (m2 : Int)) = false := by simp
    have e3 : ((m3 : Int) != (m3 : Int)) = false := by simp
    go_enter Try.func87, Try.ntmps87
    go_wp2_with fail
    obtain ⟨W, hW⟩ : ∃ W, (w.alloc (.cells #[.slice A1 m1 p1, .slice A2 m2 p2, .slice A3 m3 p3] 57)).alloc (.cells #[.slice B1 m1 q1, .slice B2 m2 q2, .slice B3 m3 q3] 57) = W := ⟨_, rfl⟩
    rw [hW] at HB HQ HO ⊢
    clear hW
    go_loopw [5] (fun i wr => ∃ k : Nat, k ≤ m1 ∧ i = .int .i64 k ∧ Only [] W wr ∧ d.code.take k = e.code.take k) (fun i _ => m1 - (intOf i).toNat)
    case atStart => exact ⟨0, by omega, rfl, Only.refl _ _, by simp⟩
    case round =>
      obtain ⟨k, hk, rfl, ho, htk⟩ := hrel
      have HW := Lib.hid ho
      have hbw := HB.out.only ho (by simp)
      have hqw := HQ.out.only ho (by simp)
      have a0 : wr.cell? ⟨w.heap.size, 0, none⟩ = some (.slice A1 m1 p1) := hbw.cell 0
      have a1 : wr.cell? ⟨w.heap.size + 1, 0, none⟩ = some (.slice B1 m1 q1) := hqw.cell 0
      have HOW := Lib.hid (HO.out.trans ho (by simp))
      have HTK := Lib.hid htk
      clear ho htk hbw hqw
      by_cases hlt : k < m1
      · have e4 : decide ((k : Int) < (m1 : Int)) = true := decide_eq_true (by omega)
        obtain ⟨b1, o1, h1, _, x, _, hx, x0, x1, x2, x3, x4⟩ := cd_at HH.out.code k hlt
        obtain ⟨b2, o2, h2, _, y, _, hy, y0, y1, y2, y3, y4⟩ := cd_at HK.out.code k hlt
        simp only at h1 h2
        subst h1
        subst h2
        have px0 := HOW.out.cell x0 (by simp)
        have px1 := HOW.out.cell x1 (by simp)
        have px2 := HOW.out.cell x2 (by simp)
        have px3 := HOW.out.cell x3 (by simp)
        have px4 := HOW.out.cell x4 (by simp)
        have py0 := HOW.out.cell y0 (by simp)
        have py1 := HOW.out.cell y1 (by simp)
        have py2 := HOW.out.cell y2 (by simp)
        have py3 := HOW.out.cell y3 (by simp)
        have py4 := HOW.out.cell y4 (by simp)
        have hb1 : (0 : Int) ≤ (k : Int) := by omega
        have HST := Lib.hid (take_eq _ _ k x y hx hy HTK.out)
        have HNE := Lib.hid (get_ne _ _ k x y hx hy)
        have hq := fun w => neq_code x y w
        have hgd := guard_code
        clear hx hy x0 x1 x2 x3 x4 y0 y1 y2 y3 y4
        cases hd : decide (x = y)
        · have HF := Lib.hid (HNE.out (of_decide_eq_false hd))
          rw [hd] at hq
          have hq : ∀ w, (binOp .neq 59 (.agg #[.int .i64 x.op, .int .i64 x.a, .int .i64 x.b, .int .i64 x.c, .int .i64 x.n]) (.agg #[.int .i64 y.op, .int .i64 y.a, .int .i64 y.b, .int .i64 y.c, .int .i64 y.n])).run Try.prog w = .ok (.bool true) w := hq
          clear hd
          go_wp2_with fail
          go_quiet (fail)
          go_wp2_with fail
          go_ret
          exact ⟨congrArg (fun b => Ending.returned (Value.bool b)) (by first | (rw [← HBB.out, decide_eq_false HF.out]; done) | (rw [← HBB.out, decide_eq_false HF.out]; simp; done)), HOW.out.drewN _⟩
        · have HF := Lib.hid (HST.out (of_decide_eq_true hd))
          rw [hd] at hq
          have hq : ∀ w, (binOp .neq 59 (.agg #[.int .i64 x.op, .int .i64 x.a, .int .i64 x.b, .int .i64 x.c, .int .i64 x.n]) (.agg #[.int .i64 y.op, .int .i64 y.a, .int .i64 y.b, .int .i64 y.c, .int .i64 y.n])).run Try.prog w = .ok (.bool false) w := hq
          clear hd
          go_wp2_with fail
          go_quiet (fail)
          go_wp2_with fail
          go_roundw
          case rel => exact ⟨k + 1, by omega, by go_num, HW.out.drewN _, HF.out⟩
          case measure => simp [intOf]; omega
      · obtain rfl : k = m1 := by omega
        have e4 : decide ((k : Int) < (k : Int)) = false := decide_eq_false (by omega)
        rw [take_all _ _ N1.out, take_all _ _ M1.out] at HTK
        have HX1 := Lib.hid (decide_eq_true HTK.out)
        rw [HX1.out, Bool.true_and] at HBB
        go_wp2_with fail
        have HB := Lib.hid (HB.out.only HW.out (by simp))
        have HQ := Lib.hid (HQ.out.only HW.out (by simp))
        have HO := Lib.hid HOW.out
        clear HX1 HTK e4 hlt hk a0 a1
        generalize wr = W at *
        go_loopw [6] (fun i wr => ∃ k : Nat, k ≤ m2 ∧ i = .int .i64 k ∧ Only [] W wr ∧ d.ents.take k = e.ents.take k) (fun i _ => m2 - (intOf i).toNat)
        case atStart => exact ⟨0, by omega, rfl, Only.refl _ _, by simp⟩
        case round =>
          obtain ⟨k, hk, rfl, ho, htk⟩ := hrel
          have HW := Lib.hid ho
          have hbw := HB.out.only ho (by simp)
          have hqw := HQ.out.only ho (by simp)
          have a0 : wr.cell? ⟨w.heap.size, 1, none⟩ = some (.slice A2 m2 p2) := hbw.cell 1
          have a1 : wr.cell? ⟨w.heap.size + 1, 1, none⟩ = some (.slice B2 m2 q2) := hqw.cell 1
          have HOW := Lib.hid (HO.out.trans ho (by simp))
          have HTK := Lib.hid htk
          clear ho htk hbw hqw
          by_cases hlt : k < m2
          · have e4 : decide ((k : Int) < (m2 : Int)) = true := decide_eq_true (by omega)
            obtain ⟨b1, o1, h1, _, x, _, hx, x0, x1⟩ := en_at HH.out.ents k hlt
            obtain ⟨b2, o2, h2, _, y, _, hy, y0, y1⟩ := en_at HK.out.ents k hlt
            simp only at h1 h2
            subst h1
            subst h2
            have px0 := HOW.out.cell x0 (by simp)
            have px1 := HOW.out.cell x1 (by simp)
            have py0 := HOW.out.cell y0 (by simp)
            have py1 := HOW.out.cell y1 (by simp)
            have hb1 : (0 : Int) ≤ (k : Int) := by omega
            have HST := Lib.hid (take_eq _ _ k x y hx hy HTK.out)
            have HNE := Lib.hid (get_ne _ _ k x y hx hy)
            have hq := fun w => neq_ent x y w
            have hgd := guard_ent
            clear hx hy x0 x1 y0 y1
            cases hd : decide (x = y)
            · have HF := Lib.hid (HNE.out (of_decide_eq_false hd))
              rw [hd] at hq
              have hq : ∀ w, (binOp .neq 73 (.agg #[.string x.name, .int .i64 x.pos]) (.agg #[.string y.name, .int .i64 y.pos])).run Try.prog w = .ok (.bool true) w := hq
              clear hd
              go_wp2_with fail
              go_quiet (fail)
              go_wp2_with fail
              go_ret
              exact ⟨congrArg (fun b => Ending.returned (Value.bool b)) (by first | (rw [← HBB.out, decide_eq_false HF.out]; done) | (rw [← HBB.out, decide_eq_false HF.out]; simp; done)), HOW.out.drewN _⟩
            · have HF := Lib.hid (HST.out (of_decide_eq_true hd))
              rw [hd] at hq
              have hq : ∀ w, (binOp .neq 73 (.agg #[.string x.name, .int .i64 x.pos]) (.agg #[.string y.name, .int .i64 y.pos])).run Try.prog w = .ok (.bool false) w := hq
              clear hd
              go_wp2_with fail
              go_quiet (fail)
              go_wp2_with fail
              go_roundw
              case rel => exact ⟨k + 1, by omega, by go_num, HW.out.drewN _, HF.out⟩
              case measure => simp [intOf]; omega
          · obtain rfl : k = m2 := by omega
            have e4 : decide ((k : Int) < (k : Int)) = false := decide_eq_false (by omega)
            rw [take_all _ _ N2.out, take_all _ _ M2.out] at HTK
            have HX2 := Lib.hid (decide_eq_true HTK.out)
            rw [HX2.out, Bool.true_and] at HBB
            go_wp2_with fail
            have HB := Lib.hid (HB.out.only HW.out (by simp))
            have HQ := Lib.hid (HQ.out.only HW.out (by simp))
            have HO := Lib.hid HOW.out
            clear HX2 HTK e4 hlt hk a0 a1
            generalize wr = W at *
            go_loopw [7] (fun i wr => ∃ k : Nat, k ≤ m3 ∧ i = .int .i64 k ∧ Only [] W wr ∧ d.calls.take k = e.calls.take k) (fun i _ => m3 - (intOf i).toNat)
            case atStart => exact ⟨0, by omega, rfl, Only.refl _ _, by simp⟩
            case round =>
              obtain ⟨k, hk, rfl, ho, htk⟩ := hrel
              have HW := Lib.hid ho
              have hbw := HB.out.only ho (by simp)
              have hqw := HQ.out.only ho (by simp)
              have a0 : wr.cell? ⟨w.heap.size, 2, none⟩ = some (.slice A3 m3 p3) := hbw.cell 2
              have a1 : wr.cell? ⟨w.heap.size + 1, 2, none⟩ = some (.slice B3 m3 q3) := hqw.cell 2
              have HOW := Lib.hid (HO.out.trans ho (by simp))
              have HTK := Lib.hid htk
              clear ho htk hbw hqw
              by_cases hlt : k < m3
              · have e4 : decide ((k : Int) < (m3 : Int)) = true := decide_eq_true (by omega)
                obtain ⟨b1, o1, h1, _, x, _, hx, x0, x1⟩ := cl_at HH.out.calls k hlt
                obtain ⟨b2, o2, h2, _, y, _, hy, y0, y1⟩ := cl_at HK.out.calls k hlt
                simp only at h1 h2
                subst h1
                subst h2
                have px0 := HOW.out.cell x0 (by simp)
                have px1 := HOW.out.cell x1 (by simp)
                have py0 := HOW.out.cell y0 (by simp)
                have py1 := HOW.out.cell y1 (by simp)
                have hb1 : (0 : Int) ≤ (k : Int) := by omega
                have HST := Lib.hid (take_eq _ _ k x y hx hy HTK.out)
                have HNE := Lib.hid (get_ne _ _ k x y hx hy)
                have hq := fun w => neq_call x y w
                have hgd := guard_call
                clear hx hy x0 x1 y0 y1
                cases hd : decide (x = y)
                · have HF := Lib.hid (HNE.out (of_decide_eq_false hd))
                  rw [hd] at hq
                  have hq : ∀ w, (binOp .neq 75 (.agg #[.int .i64 x.pos, .string x.name]) (.agg #[.int .i64 y.pos, .string y.name])).run Try.prog w = .ok (.bool true) w := hq
                  clear hd
                  go_wp2_with fail
                  go_quiet (fail)
                  go_wp2_with fail
                  go_ret
                  exact ⟨congrArg (fun b => Ending.returned (Value.bool b)) (by first | (rw [← HBB.out, decide_eq_false HF.out]; done) | (rw [← HBB.out, decide_eq_false HF.out]; simp; done)), HOW.out.drewN _⟩
                · have HF := Lib.hid (HST.out (of_decide_eq_true hd))
                  rw [hd] at hq
                  have hq : ∀ w, (binOp .neq 75 (.agg #[.int .i64 x.pos, .string x.name]) (.agg #[.int .i64 y.pos, .string y.name])).run Try.prog w = .ok (.bool false) w := hq
                  clear hd
                  go_wp2_with fail
                  go_quiet (fail)
                  go_wp2_with fail
                  go_roundw
                  case rel => exact ⟨k + 1, by omega, by go_num, HW.out.drewN _, HF.out⟩
                  case measure => simp [intOf]; omega
              · obtain rfl : k = m3 := by omega
                have e4 : decide ((k : Int) < (k : Int)) = false := decide_eq_false (by omega)
                rw [take_all _ _ N3.out, take_all _ _ M3.out] at HTK
                have HX3 := Lib.hid (decide_eq_true HTK.out)
                go_wp2_with fail
                go_ret
                exact ⟨congrArg (fun b => Ending.returned (Value.bool b)) (by rw [← HBB.out, HX3.out]), HOW.out⟩
  · by_cases h1 : m1 = n1
    · subst h1
      have e1 : ((m1 : Int) != (m1 : Int)) = false := by simp
      by_cases h2 : m2 = n2
      · subst h2
        have e2 : ((m2 : Int) != (m2 : Int)) = false := by simp
        have e3 : ((m3 : Int) != (n3 : Int)) = true := by simp; omega
        have HF := Lib.hid (show ¬ d.calls = e.calls from fun h => by apply hl; refine ⟨rfl, rfl, ?_⟩; rw [← N3.out, ← M3.out, h])
        clear hl
        go_enter Try.func87, Try.ntmps87
        go_wp2_with fail
        go_ret
        exact ⟨congrArg (fun b => Ending.returned (Value.bool b)) (by first | (rw [← HBB.out, decide_eq_false HF.out]; done) | (rw [← HBB.out, decide_eq_false HF.out]; simp; done)), HO.out⟩
      · have e2 : ((m2 : Int) != (n2 : Int)) = true := by simp; omega
        have HF := Lib.hid (show ¬ d.ents = e.ents from fun h => h2 (by rw [← N2.out, ← M2.out, h]))
        clear hl h2
        go_enter Try.func87, Try.ntmps87
        go_wp2_with fail
        go_ret
        exact ⟨congrArg (fun b => Ending.returned (Value.bool b)) (by first | (rw [← HBB.out, decide_eq_false HF.out]; done) | (rw [← HBB.out, decide_eq_false HF.out]; simp; done)), HO.out⟩
    · have e1 : ((m1 : Int) != (n1 : Int)) = true := by simp; omega
      have HF := Lib.hid (show ¬ d.code = e.code from fun h => h1 (by rw [← N1.out, ← M1.out, h]))
      clear hl h1
      go_enter Try.func87, Try.ntmps87
      go_wp2_with fail
      go_ret
      exact ⟨congrArg (fun b => Ending.returned (Value.bool b)) (by first | (rw [← HBB.out, decide_eq_false HF.out]; done) | (rw [← HBB.out, decide_eq_false HF.out]; simp; done)), HO.out⟩
theorem rsame30_any (o p : Ob) (d e : OD) (w : World) (h : IsOb w o d) (k : IsOb w p e) (hm : o.m1 ≤ 1000000000000 ∧ o.m2 ≤ 1000000000000 ∧ o.m3 ≤ 1000000000000) :
    Calls Try.prog 41 #[o.val, p.val] w fun x w' => x = .returned (.bool (decide (d = e))) ∧ Only [] w w' := by
  have HR := Lib.hid (fun w' (ho : Only [] w w') => rsame_any o p d e w' (h.only ho) (k.only ho) hm)
  clear h k hm
  obtain ⟨A1, m1, p1, A2, m2, p2, A3, m3, p3⟩ := o
  obtain ⟨B1, n1, q1, B2, n2, q2, B3, n3, q3⟩ := p
  unfold Ob.val at *
  simp only at HR ⊢
  have HO := Lib.hid (((Only.refl [] w).alloc (.cells #[.slice A1 m1 p1, .slice A2 m2 p2, .slice A3 m3 p3] 57)).alloc (.cells #[.slice B1 n1 q1, .slice B2 n2 q2, .slice B3 n3 q3] 57))
  go_enter Try.func41, Try.ntmps41
  go_wp2_with (go_at_call 87; refine (HR.out _ HO.out).mono ?_; rintro x w2 ⟨rfl, ho2⟩)
  go_ret
  exact ⟨rfl, HO.out.trans ho2 (by simp)⟩
end Go.Proofs.Ytbeenfkmnchhbaa.Object
