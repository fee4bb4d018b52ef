/- What an object may be: the document's Right. PRINTED by wip/gen_orright.py -/
import Derived.Test.YtbeenfkmnchhbaaObjRight
import Derived.Test.YtbeenfkmnchhbaaObjRRight
import Derived.Deep.RegionHeld
namespace Go.Proofs.Ytbeenfkmnchhbaa.Object
open Go.RowKit
set_option linter.unusedVariables false
set_option maxRecDepth 100000
/-- an instruction's cells -/
def CdAt (g : Nat) (c : Cd) (w : World) : Prop := w.cell? ⟨g, 0, none⟩ = some (.int .i64 c.op) ∧ w.cell? ⟨g, 1, none⟩ = some (.int .i64 c.a) ∧ w.cell? ⟨g, 2, none⟩ = some (.int .i64 c.b) ∧ w.cell? ⟨g, 3, none⟩ = some (.int .i64 c.c) ∧ w.cell? ⟨g, 4, none⟩ = some (.int .i64 c.n)
theorem callsOk_call {cs : List Cd} {k : Nat} {c : Cd} (h : cs[k]? = some c) (i : Int) (ls : List En) (j : Nat) (h18 : c.op = 18) :
    (ls.length ≤ j → callsOk i (cs.drop k) (ls.drop j) = false) ∧ (∀ l, ls[j]? = some l → callsOk i (cs.drop k) (ls.drop j) = ((l.pos == i) && (namedB l.name && ((c.n == 0) && callsOk (i + 1) (cs.drop (k + 1)) (ls.drop (j + 1)))))) := by
  rw [callsOk_step h, if_pos h18]
  refine ⟨fun hj => ?_, fun l hl => ?_⟩
  · rw [List.drop_eq_nil_of_le hj]
  · obtain ⟨hk, rfl⟩ := List.getElem?_eq_some_iff.1 hl
    rw [List.drop_eq_getElem_cons hk]
theorem callsOk_n {cs : List Cd} {k : Nat} {c : Cd} (h : cs[k]? = some c) (i : Int) (ls : List En) (h18 : c.op = 18) (hn : ¬ c.n = 0) : callsOk i (cs.drop k) ls = false := by
  rw [callsOk_step h, if_pos h18]
  cases ls with
  | nil => rfl
  | cons l r =>
    simp [hn]
theorem callsOk_end {cs : List Cd} {k : Nat} (h : cs.length ≤ k) (i : Int) (ls : List En) (j : Nat) (hj : j ≤ ls.length) : callsOk i (cs.drop k) (ls.drop j) = ((j : Int) == (ls.length : Int)) := by
  rw [List.drop_eq_nil_of_le h, Bool.eq_iff_iff]
  show (ls.drop j).isEmpty = true ↔ _
  rw [List.isEmpty_iff, List.drop_eq_nil_iff]
  simp
  omega
set_option maxHeartbeats 4000000 in
theorem rright_any (o : Ob) (d : OD) (w : World) (h : IsOb w o d) (hm1 : o.m1 ≤ 1000000000000) (hm2 : o.m2 ≤ 1000000000000) (hm3 : o.m3 ≤ 1000000000000) :
    Calls Try.prog 43 #[o.val] w fun x w' => x = .returned (.bool (objRight d)) ∧ Only [] w w' := by
  obtain ⟨bb, hbb⟩ : ∃ b, objRight d = b := ⟨_, rfl⟩
  rw [hbb]
  unfold objRight at hbb
  rw [h.n1, h.n2, h.n3] at hbb
  have hV := fun w' (ho : Only [] w w') => rvmright_any o.A1 o.m1 o.p1 d.code w' ((h.code.only ho (by simp)).more ho.size) (by omega)
  have HH := Lib.hid h
  have N1 := Lib.hid h.n1
  have N2 := Lib.hid h.n2
  have N3 := Lib.hid h.n3
  clear h
  obtain ⟨A1, m1, p1, A2, m2, p2, A3, m3, p3⟩ := o
  unfold Ob.val
  simp only at hm1 hm2 hm3 hbb hV N1 N2 N3 ⊢
  obtain ⟨b1, hb1⟩ : ∃ b, vmRight d.code = b := ⟨_, rfl⟩
  rw [hb1] at hbb hV
  have HBB := Lib.hid hbb
  have HV := Lib.hid hV
  have HNM := Lib.hid name_is
  have hb := Blk.new w 57 #[.slice A1 m1 p1, .slice A2 m2 p2, .slice A3 m3 p3]
  have HB := Lib.hid hb
  have HO := Lib.hid ((Only.refl [] w).alloc (.cells #[.slice A1 m1 p1, .slice A2 m2 p2, .slice A3 m3 p3] 57))
  clear hbb hV hb hb1
  by_cases h0 : m1 = 0
  · subst h0
    have hz : IntKind.i64.wrap ((m2 : Int) + (m3 : Int)) = (m2 : Int) + (m3 : Int) := IntWalk.i64_in _ (by omega)
    go_enter Try.func43, Try.ntmps43
    go_wp2_with fail
    go_ret
    refine ⟨congrArg (fun b => Ending.returned (Value.bool b)) ?_, HO.out⟩
    have := HBB.out
    simp only [if_true] at this
    rw [← this, Bool.eq_iff_iff]
    simp
    omega
  · rw [if_neg h0] at HBB
    have e0 : ((m1 : Int) == 0) = false := beq_false_of_ne (by omega)
    by_cases h1 : m1 ≤ 32768
    · have d1 : decide ((32768 : Int) < (m1 : Int)) = false := decide_eq_false (by omega)
      rw [decide_eq_true h1, Bool.true_and] at HBB
      by_cases h2 : m2 ≤ 4096
      · have d2 : decide ((4096 : Int) < (m2 : Int)) = false := decide_eq_false (by omega)
        rw [decide_eq_true h2, Bool.true_and] at HBB
        by_cases h3 : m3 ≤ 4096
        · have d3 : decide ((4096 : Int) < (m3 : Int)) = false := decide_eq_false (by omega)
          rw [decide_eq_true h3, Bool.true_and] at HBB
          cases b1
          · rw [Bool.false_and] at HBB
            go_enter Try.func43, Try.ntmps43
            go_wp2_with (go_at_call 95; refine (HV.out _ HO.out).mono ?_; rintro x w2 ⟨rfl, ho2⟩; have HO2 := Lib.hid (HO.out.trans ho2 (by simp)))
            go_ret
            exact ⟨by rw [← HBB.out]; rfl, HO2.out⟩
          · rw [Bool.true_and] at HBB
            go_enter Try.func43, Try.ntmps43
            go_wp2_with (go_at_call 95; refine (HV.out _ HO.out).mono ?_; rintro x w2 ⟨rfl, ho2⟩; have HO2 := Lib.hid (HO.out.trans ho2 (by simp)); have hb2 := HB.out.only ho2 (by simp); have HB2 := Lib.hid hb2; have x1 : w2.cell? ⟨w.heap.size, 1, none⟩ = some (.slice A2 m2 p2) := hb2.cell 1; clear hb2)
            go_loop [4] (fun i => ∃ k : Nat, k ≤ m2 ∧ i = .int .i64 k ∧ (d.ents.take k).all (entOk (m1 : Int)) = true) (fun i => m2 - (intOf i).toNat)
            case atStart => exact ⟨0, by omega, rfl, by simp⟩
            case round =>
              obtain ⟨k, hk, rfl, hall⟩ := hrel
              have HALL := Lib.hid hall
              clear hall
              by_cases hlt : k < m2
              · have e1 : decide ((k : Int) < (m2 : Int)) = true := decide_eq_true (by omega)
                obtain ⟨b, off, hA, hb, c, hmem, hck, c0, c1⟩ := en_at HH.out.ents k hlt
                simp only at hA hmem hck
                subst hA
                have y0 := HO2.out.cell c0 (by simp)
                have y1 := HO2.out.cell c1 (by simp)
                have HSN := Lib.hid (all_snoc (entOk (m1 : Int)) d.ents k c hck)
                have HNO := Lib.hid (all_no (entOk (m1 : Int)) d.ents c hmem)
                clear hmem hck c0 c1
                obtain ⟨nm, pos⟩ := c
                have hen : entOk (m1 : Int) ⟨nm, pos⟩ = (namedB nm && decide (0 ≤ pos) && decide (pos < (m1 : Int))) := rfl
                have HEN := Lib.hid hen
                generalize entOk (m1 : Int) ⟨nm, pos⟩ = ok at *
                simp only at y0 y1
                clear hen
                cases hnm : namedB nm
                · have hok : ok = false := by rw [HEN.out, hnm]; rfl
                  have HF := Lib.hid (HNO.out hok)
                  clear hok
                  rw [HF.out, Bool.false_and] at HBB
                  go_wp2_with (go_at_call 96; refine (HNM.out _ _).mono ?_; rintro x wx ⟨rfl, rfl⟩)
                  go_ret
                  exact ⟨by rw [← HBB.out]; rfl, HO2.out⟩
                · rw [hnm, Bool.true_and] at HEN
                  by_cases hp0 : 0 ≤ pos
                  · have e2 : decide (pos < 0) = false := decide_eq_false (by omega)
                    rw [decide_eq_true hp0, Bool.true_and] at HEN
                    by_cases hpm : pos < (m1 : Int)
                    · have e3 : decide ((m1 : Int) ≤ pos) = false := decide_eq_false (by omega)
                      rw [decide_eq_true hpm] at HEN
                      have HF := Lib.hid (HSN.out.trans (by rw [HALL.out, HEN.out, Bool.and_self]))
                      go_wp2_with (go_at_call 96; refine (HNM.out _ _).mono ?_; rintro x wx ⟨rfl, rfl⟩)
                      go_round
                      case rel => exact ⟨k + 1, by omega, by go_num, HF.out⟩
                      case measure => simp [intOf]; omega
                    · have e3 : decide ((m1 : Int) ≤ pos) = true := decide_eq_true (by omega)
                      rw [decide_eq_false hpm] at HEN
                      have HF := Lib.hid (HNO.out HEN.out)
                      rw [HF.out, Bool.false_and] at HBB
                      go_wp2_with (go_at_call 96; refine (HNM.out _ _).mono ?_; rintro x wx ⟨rfl, rfl⟩)
                      go_ret
                      exact ⟨by rw [← HBB.out]; rfl, HO2.out⟩
                  · have e2 : decide (pos < 0) = true := decide_eq_true (by omega)
                    rw [decide_eq_false hp0, Bool.false_and] at HEN
                    have HF := Lib.hid (HNO.out HEN.out)
                    rw [HF.out, Bool.false_and] at HBB
                    go_wp2_with (go_at_call 96; refine (HNM.out _ _).mono ?_; rintro x wx ⟨rfl, rfl⟩)
                    go_ret
                    exact ⟨by rw [← HBB.out]; rfl, HO2.out⟩
              · obtain rfl : k = m2 := by omega
                have e1 : decide ((k : Int) < (k : Int)) = false := decide_eq_false (by omega)
                rw [take_all _ _ N2.out] at HALL
                rw [HALL.out, Bool.true_and] at HBB
                go_wp2_with fail
                go_loopw [5, 6] (fun kk i wr => ∃ i' k' : Nat, i' ≤ m1 ∧ k' ≤ m3 ∧ i = .int .i64 i' ∧ kk = .int .i64 k' ∧ Only [] w2 wr ∧ (d.code.take i').all cleanB = true ∧ callsOk (i' : Nat) (d.code.drop i') (d.calls.drop k') = calls0 d.code d.calls) (fun _ i _ => m1 - (intOf i).toNat)
                case atStart => exact ⟨0, 0, by omega, by omega, rfl, rfl, Only.refl _ _, by simp, rfl⟩
                case round =>
                  clear hk hlt e1 HALL
                  obtain ⟨i, j, hi, hj, rfl, rfl, ho, hall, hcalls⟩ := hrel
                  have HALL := Lib.hid hall
                  have HCALLS := Lib.hid hcalls
                  have HW := Lib.hid ho
                  have hbw := HB2.out.only ho (by simp)
                  have y0 : wr.cell? ⟨w.heap.size, 0, none⟩ = some (.slice A1 m1 p1) := hbw.cell 0
                  have y2 : wr.cell? ⟨w.heap.size, 2, none⟩ = some (.slice A3 m3 p3) := hbw.cell 2
                  have HBW := Lib.hid hbw
                  have HOW := Lib.hid (HO2.out.trans ho (by simp))
                  clear hall hcalls ho hbw
                  by_cases hlt : i < m1
                  · have e1 : decide ((i : Int) < (m1 : Int)) = true := decide_eq_true (by omega)
                    obtain ⟨b, off, hA, hb, c, hmem, hck, c0, c1, c2, c3, c4⟩ := cd_at HH.out.code i hlt
                    simp only at hA hmem hck
                    subst hA
                    have x0 := HOW.out.cell c0 (by simp)
                    have x1 := HOW.out.cell c1 (by simp)
                    have x2 := HOW.out.cell c2 (by simp)
                    have x3 := HOW.out.cell c3 (by simp)
                    have x4 := HOW.out.cell c4 (by simp)
                    have HSN := Lib.hid (all_snoc cleanB d.code i c hck)
                    have HNO := Lib.hid (all_no cleanB d.code c hmem)
                    have hC := rclean_is c
                    have HCK := Lib.hid hck
                    have hq : ∀ w, (binOp .neq 59 (.agg #[.int .i64 (clean c).op, .int .i64 (clean c).a, .int .i64 (clean c).b, .int .i64 (clean c).c, .int .i64 (clean c).n]) (.agg #[.int .i64 c.op, .int .i64 c.a, .int .i64 c.b, .int .i64 c.c, .int .i64 c.n])).run Try.prog w = .ok (.bool (!cleanB c)) w := fun w => neq_code (clean c) c w
                    have hgd := guard_code
                    unfold Cd.val at hC
                    obtain ⟨c', hc'⟩ : ∃ c', clean c = c' := ⟨_, rfl⟩
                    rw [hc'] at hC hq
                    clear hc' c0 c1 c2 c3 c4 hck hmem
                    generalize cleanB c = cb at *
                    have HC := Lib.hid hC
                    have hbox := Blk.new wr 59 #[.int .i64 c.op, .int .i64 c.a, .int .i64 c.b, .int .i64 c.c, .int .i64 c.n]
                    have HBOX := Lib.hid hbox
                    have HBWA := Lib.hid (HBW.out.alloc (.cells #[.int .i64 c.op, .int .i64 c.a, .int .i64 c.b, .int .i64 c.c, .int .i64 c.n] 59))
                    have HWA := Lib.hid (HW.out.alloc (.cells #[.int .i64 c.op, .int .i64 c.a, .int .i64 c.b, .int .i64 c.c, .int .i64 c.n] 59))
                    clear hC hbox
                    have hbwr : b < wr.heap.size := Nat.lt_of_lt_of_le hb HOW.out.size
                    have HCA : Hid (CdAt wr.heap.size c (wr.alloc (.cells #[.int .i64 c.op, .int .i64 c.a, .int .i64 c.b, .int .i64 c.c, .int .i64 c.n] 59))) := ⟨HBOX.out.cell 0, HBOX.out.cell 1, HBOX.out.cell 2, HBOX.out.cell 3, HBOX.out.cell 4⟩
                    cases cb
                    · have HF := Lib.hid (HNO.out rfl)
                      rw [HF.out, Bool.false_and] at HBB
                      go_wp2_with fail
                      refine wp_region_held_drew (S := CdAt wr.heap.size c) (by kernel_rfl) HCA.out (fun hHeld => ?_)
                      refine wpAnyH_take (i := 0) (oi := ⟨some 85, _, _, _, _, _⟩) (v := ?_) rfl (by kernel_rfl) (by kernel_rfl) (by kernel_rfl) (fun _ _ _ h => h) (Or.inl ⟨by rfl, ?_⟩) (by assumption) ?_
                      rotate_left
                      focus (intro w' hS; obtain ⟨s0, s1, s2, s3, s4⟩ := hS; (try go_simp); (try with_reducible rfl))
                      simp only [Act.put, List.setIfInBounds_toArray, List.set_cons_zero, List.set_cons_succ]
                      refine wpAnyH_take (i := 2) (oi := ⟨some 87, _, _, _, _, _⟩) (v := ?_) rfl (by kernel_rfl) (by kernel_rfl) (by kernel_rfl) (fun _ _ _ h => h) (Or.inl ⟨by rfl, ?_⟩) (by assumption) ?_
                      rotate_left
                      focus (intro w' hS; obtain ⟨s0, s1, s2, s3, s4⟩ := hS; (try go_simp); (try with_reducible rfl))
                      simp only [Act.put, List.setIfInBounds_toArray, List.set_cons_zero, List.set_cons_succ]
                      refine wpAnyH_ready (rs := [1]) (by kernel_rfl) (by simp) ?_
                      refine AllReadyH.cons (o := ⟨some 86, _, _, _, _, _⟩) rfl (fun K hK => ?_) AllReadyH.nil
                      go_simp
                      go_at_call 46
                      refine (HC.out _).mono ?_
                      rintro x w3 ⟨rfl, ho3⟩
                      have hb3 := (Blk.drew HBOX.out).only ho3 (by simp)
                      have hw3 := (Blk.drew HBWA.out).only ho3 (by simp)
                      have hRS2 : CdAt wr.heap.size c w3 := ⟨hb3.cell 0, hb3.cell 1, hb3.cell 2, hb3.cell 3, hb3.cell 4⟩
                      have v2 : w3.cell? ⟨w.heap.size, 2, none⟩ = some (.slice _ _ p3) := hw3.cell 2
                      have HB3 := Lib.hid hb3
                      have HW3 := Lib.hid (HWA.out.drew.trans ho3 (by simp))
                      clear hb3 hw3 ho3
                      go_wp2_with fail
                      refine hK.out _ _ hRS2 (fun hHeld2 => ?_)
                      clear hK K hHeld hRS2
                      try simp only [Act.put, List.setIfInBounds_toArray, List.set_cons_zero, List.set_cons_succ]
                      refine wpAnyH_take (i := 3) (oi := ⟨some 88, _, _, _, _, _⟩) (v := ?_) rfl (by kernel_rfl) (by kernel_rfl) (by kernel_rfl) (fun _ _ _ h => h) (Or.inl ⟨by rfl, ?_⟩) (by assumption) ?_
                      rotate_left
                      focus (intro w' hS; obtain ⟨s0, s1, s2, s3, s4⟩ := hS; (try go_simp); (try with_reducible rfl))
                      simp only [Act.put, List.setIfInBounds_toArray, List.set_cons_zero, List.set_cons_succ]
                      refine wpAnyH_take (i := 4) (oi := ⟨some 89, _, _, _, _, _⟩) (v := ?_) rfl (by kernel_rfl) (by kernel_rfl) (by kernel_rfl) (fun _ _ _ h => h) (Or.inl ⟨by rfl, ?_⟩) (by assumption) ?_
                      rotate_left
                      focus (intro w' hS; obtain ⟨s0, s1, s2, s3, s4⟩ := hS; (try go_simp); (try with_reducible rfl))
                      simp only [Act.put, List.setIfInBounds_toArray, List.set_cons_zero, List.set_cons_succ]
                      refine wpAnyH_take (i := 5) (oi := ⟨some 90, _, _, _, _, _⟩) (v := undef) rfl (by kernel_rfl) (by kernel_rfl) (by kernel_rfl) (fun _ _ _ h => h) (Or.inr ⟨by rfl, rfl⟩) (by assumption) ?_
                      simp only [Act.put, List.setIfInBounds_toArray, List.set_cons_zero, List.set_cons_succ]
                      refine wpAnyH_take (i := 6) (oi := ⟨some 91, _, _, _, _, _⟩) (v := undef) rfl (by kernel_rfl) (by kernel_rfl) (by kernel_rfl) (fun _ _ _ h => h) (Or.inr ⟨by rfl, rfl⟩) (by assumption) ?_
                      simp only [Act.put, List.setIfInBounds_toArray, List.set_cons_zero, List.set_cons_succ]
                      refine wpAnyH_take (i := 7) (oi := ⟨some 92, _, _, _, _, _⟩) (v := undef) rfl (by kernel_rfl) (by kernel_rfl) (by kernel_rfl) (fun _ _ _ h => h) (Or.inr ⟨by rfl, rfl⟩) (by assumption) ?_
                      simp only [Act.put, List.setIfInBounds_toArray, List.set_cons_zero, List.set_cons_succ]
                      refine wpAnyH_take (i := 8) (oi := ⟨some 93, _, _, _, _, _⟩) (v := undef) rfl (by kernel_rfl) (by kernel_rfl) (by kernel_rfl) (fun _ _ _ h => h) (Or.inr ⟨by rfl, rfl⟩) (by assumption) ?_
                      simp only [Act.put, List.setIfInBounds_toArray, List.set_cons_zero, List.set_cons_succ]
                      refine wpAnyH_take (i := 9) (oi := ⟨some 94, _, _, _, _, _⟩) (v := undef) rfl (by kernel_rfl) (by kernel_rfl) (by kernel_rfl) (fun _ _ _ h => h) (Or.inr ⟨by rfl, rfl⟩) (by assumption) ?_
                      simp only [Act.put, List.setIfInBounds_toArray, List.set_cons_zero, List.set_cons_succ]
                      refine wpAnyH_take (i := 10) (oi := ⟨some 95, _, _, _, _, _⟩) (v := undef) rfl (by kernel_rfl) (by kernel_rfl) (by kernel_rfl) (fun _ _ _ h => h) (Or.inr ⟨by rfl, rfl⟩) (by assumption) ?_
                      simp only [Act.put, List.setIfInBounds_toArray, List.set_cons_zero, List.set_cons_succ]
                      refine wpAnyH_take (i := 11) (oi := ⟨some 96, _, _, _, _, _⟩) (v := undef) rfl (by kernel_rfl) (by kernel_rfl) (by kernel_rfl) (fun _ _ _ h => h) (Or.inr ⟨by rfl, rfl⟩) (by assumption) ?_
                      simp only [Act.put, List.setIfInBounds_toArray, List.set_cons_zero, List.set_cons_succ]
                      refine wpAnyH_take (i := 12) (oi := ⟨some 97, _, _, _, _, _⟩) (v := undef) rfl (by kernel_rfl) (by kernel_rfl) (by kernel_rfl) (fun _ _ _ h => h) (Or.inr ⟨by rfl, rfl⟩) (by assumption) ?_
                      simp only [Act.put, List.setIfInBounds_toArray, List.set_cons_zero, List.set_cons_succ]
                      refine wpAnyH_take (i := 13) (oi := ⟨some 98, _, _, _, _, _⟩) (v := ?_) rfl (by kernel_rfl) (by kernel_rfl) (by kernel_rfl) (fun _ _ _ h => h) (Or.inl ⟨by rfl, ?_⟩) (by assumption) ?_
                      rotate_left
                      focus (intro w' hS; obtain ⟨s0, s1, s2, s3, s4⟩ := hS; (try go_simp); (try with_reducible rfl))
                      simp only [Act.put, List.setIfInBounds_toArray, List.set_cons_zero, List.set_cons_succ]
                      refine wpAnyH_done (by kernel_rfl) ?_ _
                      go_wp2_with fail
                      go_ret
                      exact ⟨by rw [← HBB.out]; rfl, HO2.out.trans HW3.out (by simp)⟩
                    · have HSN2 := Lib.hid (HSN.out.trans (by rw [HALL.out, Bool.and_self]))
                      by_cases h18 : c.op = 18
                      · by_cases hn0 : c.n = 0
                        · have e2 : (c.op == 18) = true := by simp [h18]
                          have e3 : (c.n != 0) = false := by simp [hn0]
                          have HCC := Lib.hid (callsOk_call HCK.out (i : Int) d.calls j h18)
                          rw [N3.out] at HCC
                          by_cases hjm : j < m3
                          · have e4 : decide ((m3 : Int) ≤ (j : Int)) = false := decide_eq_false (by omega)
                            obtain ⟨b3, off3, hA3, hb3, l, hml, hll, l0, l1⟩ := cl_at HH.out.calls j hjm
                            simp only at hA3 hml hll
                            subst hA3
                            have HST := Lib.hid (HCC.out.2 l hll)
                            have L0 := Lib.hid (HO2.out.cell l0 (by simp))
                            have L1 := Lib.hid (HO2.out.cell l1 (by simp))
                            clear l0 l1 hml hll HCC
                            obtain ⟨nm, pos⟩ := l
                            simp only at HST L0 L1
                            have hne : (i : Int) + 1 = ((i + 1 : Nat) : Int) := by omega
                            rw [show (c.n == 0) = true by simp [hn0], Bool.true_and, hne] at HST
                            have HHN := Lib.hid hn0
                            have HH18 := Lib.hid h18
                            clear hne hn0 h18
                            by_cases hp : pos = (i : Int)
                            · subst hp
                              have e5 : ((i : Int) != (i : Int)) = false := by simp
                              rw [show ((i : Int) == (i : Int)) = true by simp, Bool.true_and] at HST
                              cases hnm : namedB nm
                              · rw [hnm, Bool.false_and] at HST
                                go_wp2_with fail
                                refine wp_region_held_drew (S := CdAt wr.heap.size c) (by kernel_rfl) HCA.out (fun hHeld => ?_)
                                refine wpAnyH_take (i := 0) (oi := ⟨some 85, _, _, _, _, _⟩) (v := ?_) rfl (by kernel_rfl) (by kernel_rfl) (by kernel_rfl) (fun _ _ _ h => h) (Or.inl ⟨by rfl, ?_⟩) (by assumption) ?_
                                rotate_left
                                focus (intro w' hS; obtain ⟨s0, s1, s2, s3, s4⟩ := hS; (try go_simp); (try with_reducible rfl))
                                simp only [Act.put, List.setIfInBounds_toArray, List.set_cons_zero, List.set_cons_succ]
                                refine wpAnyH_take (i := 2) (oi := ⟨some 87, _, _, _, _, _⟩) (v := ?_) rfl (by kernel_rfl) (by kernel_rfl) (by kernel_rfl) (fun _ _ _ h => h) (Or.inl ⟨by rfl, ?_⟩) (by assumption) ?_
                                rotate_left
                                focus (intro w' hS; obtain ⟨s0, s1, s2, s3, s4⟩ := hS; (try go_simp); (try with_reducible rfl))
                                simp only [Act.put, List.setIfInBounds_toArray, List.set_cons_zero, List.set_cons_succ]
                                refine wpAnyH_ready (rs := [1]) (by kernel_rfl) (by simp) ?_
                                refine AllReadyH.cons (o := ⟨some 86, _, _, _, _, _⟩) rfl (fun K hK => ?_) AllReadyH.nil
                                go_simp
                                go_at_call 46
                                refine (HC.out _).mono ?_
                                rintro x w3 ⟨rfl, ho3⟩
                                have hb3 := (Blk.drew HBOX.out).only ho3 (by simp)
                                have hw3 := (Blk.drew HBWA.out).only ho3 (by simp)
                                have hRS2 : CdAt wr.heap.size c w3 := ⟨hb3.cell 0, hb3.cell 1, hb3.cell 2, hb3.cell 3, hb3.cell 4⟩
                                have v2 : w3.cell? ⟨w.heap.size, 2, none⟩ = some (.slice _ _ p3) := hw3.cell 2
                                have HB3 := Lib.hid hb3
                                have HW3 := Lib.hid (HWA.out.drew.trans ho3 (by simp))
                                clear hb3 hw3 ho3
                                go_wp2_with fail
                                refine hK.out _ _ hRS2 (fun hHeld2 => ?_)
                                clear hK K hHeld hRS2
                                try simp only [Act.put, List.setIfInBounds_toArray, List.set_cons_zero, List.set_cons_succ]
                                refine wpAnyH_take (i := 3) (oi := ⟨some 88, _, _, _, _, _⟩) (v := ?_) rfl (by kernel_rfl) (by kernel_rfl) (by kernel_rfl) (fun _ _ _ h => h) (Or.inl ⟨by rfl, ?_⟩) (by assumption) ?_
                                rotate_left
                                focus (intro w' hS; obtain ⟨s0, s1, s2, s3, s4⟩ := hS; (try go_simp); (try with_reducible rfl))
                                simp only [Act.put, List.setIfInBounds_toArray, List.set_cons_zero, List.set_cons_succ]
                                refine wpAnyH_take (i := 4) (oi := ⟨some 89, _, _, _, _, _⟩) (v := ?_) rfl (by kernel_rfl) (by kernel_rfl) (by kernel_rfl) (fun _ _ _ h => h) (Or.inl ⟨by rfl, ?_⟩) (by assumption) ?_
                                rotate_left
                                focus (intro w' hS; obtain ⟨s0, s1, s2, s3, s4⟩ := hS; (try go_simp); (try with_reducible rfl))
                                simp only [Act.put, List.setIfInBounds_toArray, List.set_cons_zero, List.set_cons_succ]
                                refine wpAnyH_take (i := 5) (oi := ⟨some 90, _, _, _, _, _⟩) (v := ?_) rfl (by kernel_rfl) (by kernel_rfl) (by kernel_rfl) (fun _ _ _ h => h) (Or.inl ⟨by rfl, ?_⟩) (by assumption) ?_
                                rotate_left
                                focus (intro w' hS; obtain ⟨s0, s1, s2, s3, s4⟩ := hS; (try go_simp); (try with_reducible rfl))
                                simp only [Act.put, List.setIfInBounds_toArray, List.set_cons_zero, List.set_cons_succ]
                                refine wpAnyH_take (i := 6) (oi := ⟨some 91, _, _, _, _, _⟩) (v := ?_) rfl (by kernel_rfl) (by kernel_rfl) (by kernel_rfl) (fun _ _ _ h => h) (Or.inl ⟨by rfl, ?_⟩) (by assumption) ?_
                                rotate_left
                                focus (intro w' hS; obtain ⟨s0, s1, s2, s3, s4⟩ := hS; (try go_simp); (try with_reducible rfl))
                                simp only [Act.put, List.setIfInBounds_toArray, List.set_cons_zero, List.set_cons_succ]
                                refine wpAnyH_take (i := 7) (oi := ⟨some 92, _, _, _, _, _⟩) (v := ?_) rfl (by kernel_rfl) (by kernel_rfl) (by kernel_rfl) (fun _ _ _ h => h) (Or.inl ⟨by rfl, ?_⟩) (by assumption) ?_
                                rotate_left
                                focus (intro w' hS; obtain ⟨s0, s1, s2, s3, s4⟩ := hS; (try go_simp); (try with_reducible rfl))
                                simp only [Act.put, List.setIfInBounds_toArray, List.set_cons_zero, List.set_cons_succ]
                                refine wpAnyH_take (i := 8) (oi := ⟨some 93, _, _, _, _, _⟩) (v := ?_) rfl (by kernel_rfl) (by kernel_rfl) (by kernel_rfl) (fun _ _ _ h => h) (Or.inl ⟨by rfl, ?_⟩) (by assumption) ?_
                                rotate_left
                                focus (intro w' hS; obtain ⟨s0, s1, s2, s3, s4⟩ := hS; (try go_simp); (try with_reducible rfl))
                                simp only [Act.put, List.setIfInBounds_toArray, List.set_cons_zero, List.set_cons_succ]
                                refine wpAnyH_take (i := 9) (oi := ⟨some 94, _, _, _, _, _⟩) (v := ?_) rfl (by kernel_rfl) (by kernel_rfl) (by kernel_rfl) (fun _ _ _ h => h) (Or.inl ⟨by rfl, ?_⟩) (by assumption) ?_
                                rotate_left
                                focus (intro w' hS; obtain ⟨s0, s1, s2, s3, s4⟩ := hS; (try go_simp); (try with_reducible rfl))
                                simp only [Act.put, List.setIfInBounds_toArray, List.set_cons_zero, List.set_cons_succ]
                                refine wpAnyH_take (i := 10) (oi := ⟨some 95, _, _, _, _, _⟩) (v := ?_) rfl (by kernel_rfl) (by kernel_rfl) (by kernel_rfl) (fun _ _ _ h => h) (Or.inl ⟨by rfl, ?_⟩) (by assumption) ?_
                                rotate_left
                                focus (intro w' hS; obtain ⟨s0, s1, s2, s3, s4⟩ := hS; (try go_simp); (try with_reducible rfl))
                                simp only [Act.put, List.setIfInBounds_toArray, List.set_cons_zero, List.set_cons_succ]
                                refine wpAnyH_take (i := 11) (oi := ⟨some 96, _, _, _, _, _⟩) (v := ?_) rfl (by kernel_rfl) (by kernel_rfl) (by kernel_rfl) (fun _ _ _ h => h) (Or.inl ⟨by rfl, ?_⟩) (by assumption) ?_
                                rotate_left
                                focus (intro w' hS; obtain ⟨s0, s1, s2, s3, s4⟩ := hS; (try go_simp); (try with_reducible rfl))
                                simp only [Act.put, List.setIfInBounds_toArray, List.set_cons_zero, List.set_cons_succ]
                                refine wpAnyH_take (i := 12) (oi := ⟨some 97, _, _, _, _, _⟩) (v := ?_) rfl (by kernel_rfl) (by kernel_rfl) (by kernel_rfl) (fun _ _ _ h => h) (Or.inl ⟨by rfl, ?_⟩) (by assumption) ?_
                                rotate_left
                                focus (intro w' hS; obtain ⟨s0, s1, s2, s3, s4⟩ := hS; (try go_simp); (try with_reducible rfl))
                                simp only [Act.put, List.setIfInBounds_toArray, List.set_cons_zero, List.set_cons_succ]
                                refine wpAnyH_take (i := 13) (oi := ⟨some 98, _, _, _, _, _⟩) (v := ?_) rfl (by kernel_rfl) (by kernel_rfl) (by kernel_rfl) (fun _ _ _ h => h) (Or.inl ⟨by rfl, ?_⟩) (by assumption) ?_
                                rotate_left
                                focus (intro w' hS; obtain ⟨s0, s1, s2, s3, s4⟩ := hS; (try go_simp); (try with_reducible rfl))
                                simp only [Act.put, List.setIfInBounds_toArray, List.set_cons_zero, List.set_cons_succ]
                                refine wpAnyH_done (by kernel_rfl) ?_ _
                                have q0 : w3.cell? ⟨b3, off3 + j * 2, none⟩ = some (.int .i64 (i : Int)) := HW3.out.cell L0.out (by simp)
                                have q1 : w3.cell? ⟨b3, off3 + j * 2 + 1, none⟩ = some (.string nm) := HW3.out.cell L1.out (by simp)
                                have i0 : w3.cell? ⟨wr.heap.size, 0, none⟩ = some (.int .i64 c.op) := HB3.out.cell 0
                                go_wp2_with (go_at_call 96; refine (HNM.out _ _).mono ?_; rintro x wx ⟨rfl, rfl⟩)
                                go_ret
                                exact ⟨by rw [← HBB.out, ← HCALLS.out, HST.out, Bool.and_false]; rfl, HO2.out.trans HW3.out (by simp)⟩
                              · rw [hnm, Bool.true_and] at HST
                                go_wp2_with fail
                                refine wp_region_held_drew (S := CdAt wr.heap.size c) (by kernel_rfl) HCA.out (fun hHeld => ?_)
                                refine wpAnyH_take (i := 0) (oi := ⟨some 85, _, _, _, _, _⟩) (v := ?_) rfl (by kernel_rfl) (by kernel_rfl) (by kernel_rfl) (fun _ _ _ h => h) (Or.inl ⟨by rfl, ?_⟩) (by assumption) ?_
                                rotate_left
                                focus (intro w' hS; obtain ⟨s0, s1, s2, s3, s4⟩ := hS; (try go_simp); (try with_reducible rfl))
                                simp only [Act.put, List.setIfInBounds_toArray, List.set_cons_zero, List.set_cons_succ]
                                refine wpAnyH_take (i := 2) (oi := ⟨some 87, _, _, _, _, _⟩) (v := ?_) rfl (by kernel_rfl) (by kernel_rfl) (by kernel_rfl) (fun _ _ _ h => h) (Or.inl ⟨by rfl, ?_⟩) (by assumption) ?_
                                rotate_left
                                focus (intro w' hS; obtain ⟨s0, s1, s2, s3, s4⟩ := hS; (try go_simp); (try with_reducible rfl))
                                simp only [Act.put, List.setIfInBounds_toArray, List.set_cons_zero, List.set_cons_succ]
                                refine wpAnyH_ready (rs := [1]) (by kernel_rfl) (by simp) ?_
                                refine AllReadyH.cons (o := ⟨some 86, _, _, _, _, _⟩) rfl (fun K hK => ?_) AllReadyH.nil
                                go_simp
                                go_at_call 46
                                refine (HC.out _).mono ?_
                                rintro x w3 ⟨rfl, ho3⟩
                                have hb3 := (Blk.drew HBOX.out).only ho3 (by simp)
                                have hw3 := (Blk.drew HBWA.out).only ho3 (by simp)
                                have hRS2 : CdAt wr.heap.size c w3 := ⟨hb3.cell 0, hb3.cell 1, hb3.cell 2, hb3.cell 3, hb3.cell 4⟩
                                have v2 : w3.cell? ⟨w.heap.size, 2, none⟩ = some (.slice _ _ p3) := hw3.cell 2
                                have HB3 := Lib.hid hb3
                                have HW3 := Lib.hid (HWA.out.drew.trans ho3 (by simp))
                                clear hb3 hw3 ho3
                                go_wp2_with fail
                                refine hK.out _ _ hRS2 (fun hHeld2 => ?_)
                                clear hK K hHeld hRS2
                                try simp only [Act.put, List.setIfInBounds_toArray, List.set_cons_zero, List.set_cons_succ]
                                refine wpAnyH_take (i := 3) (oi := ⟨some 88, _, _, _, _, _⟩) (v := ?_) rfl (by kernel_rfl) (by kernel_rfl) (by kernel_rfl) (fun _ _ _ h => h) (Or.inl ⟨by rfl, ?_⟩) (by assumption) ?_
                                rotate_left
                                focus (intro w' hS; obtain ⟨s0, s1, s2, s3, s4⟩ := hS; (try go_simp); (try with_reducible rfl))
                                simp only [Act.put, List.setIfInBounds_toArray, List.set_cons_zero, List.set_cons_succ]
                                refine wpAnyH_take (i := 4) (oi := ⟨some 89, _, _, _, _, _⟩) (v := ?_) rfl (by kernel_rfl) (by kernel_rfl) (by kernel_rfl) (fun _ _ _ h => h) (Or.inl ⟨by rfl, ?_⟩) (by assumption) ?_
                                rotate_left
                                focus (intro w' hS; obtain ⟨s0, s1, s2, s3, s4⟩ := hS; (try go_simp); (try with_reducible rfl))
                                simp only [Act.put, List.setIfInBounds_toArray, List.set_cons_zero, List.set_cons_succ]
                                refine wpAnyH_take (i := 5) (oi := ⟨some 90, _, _, _, _, _⟩) (v := ?_) rfl (by kernel_rfl) (by kernel_rfl) (by kernel_rfl) (fun _ _ _ h => h) (Or.inl ⟨by rfl, ?_⟩) (by assumption) ?_
                                rotate_left
                                focus (intro w' hS; obtain ⟨s0, s1, s2, s3, s4⟩ := hS; (try go_simp); (try with_reducible rfl))
                                simp only [Act.put, List.setIfInBounds_toArray, List.set_cons_zero, List.set_cons_succ]
                                refine wpAnyH_take (i := 6) (oi := ⟨some 91, _, _, _, _, _⟩) (v := ?_) rfl (by kernel_rfl) (by kernel_rfl) (by kernel_rfl) (fun _ _ _ h => h) (Or.inl ⟨by rfl, ?_⟩) (by assumption) ?_
                                rotate_left
                                focus (intro w' hS; obtain ⟨s0, s1, s2, s3, s4⟩ := hS; (try go_simp); (try with_reducible rfl))
                                simp only [Act.put, List.setIfInBounds_toArray, List.set_cons_zero, List.set_cons_succ]
                                refine wpAnyH_take (i := 7) (oi := ⟨some 92, _, _, _, _, _⟩) (v := ?_) rfl (by kernel_rfl) (by kernel_rfl) (by kernel_rfl) (fun _ _ _ h => h) (Or.inl ⟨by rfl, ?_⟩) (by assumption) ?_
                                rotate_left
                                focus (intro w' hS; obtain ⟨s0, s1, s2, s3, s4⟩ := hS; (try go_simp); (try with_reducible rfl))
                                simp only [Act.put, List.setIfInBounds_toArray, List.set_cons_zero, List.set_cons_succ]
                                refine wpAnyH_take (i := 8) (oi := ⟨some 93, _, _, _, _, _⟩) (v := ?_) rfl (by kernel_rfl) (by kernel_rfl) (by kernel_rfl) (fun _ _ _ h => h) (Or.inl ⟨by rfl, ?_⟩) (by assumption) ?_
                                rotate_left
                                focus (intro w' hS; obtain ⟨s0, s1, s2, s3, s4⟩ := hS; (try go_simp); (try with_reducible rfl))
                                simp only [Act.put, List.setIfInBounds_toArray, List.set_cons_zero, List.set_cons_succ]
                                refine wpAnyH_take (i := 9) (oi := ⟨some 94, _, _, _, _, _⟩) (v := ?_) rfl (by kernel_rfl) (by kernel_rfl) (by kernel_rfl) (fun _ _ _ h => h) (Or.inl ⟨by rfl, ?_⟩) (by assumption) ?_
                                rotate_left
                                focus (intro w' hS; obtain ⟨s0, s1, s2, s3, s4⟩ := hS; (try go_simp); (try with_reducible rfl))
                                simp only [Act.put, List.setIfInBounds_toArray, List.set_cons_zero, List.set_cons_succ]
                                refine wpAnyH_take (i := 10) (oi := ⟨some 95, _, _, _, _, _⟩) (v := ?_) rfl (by kernel_rfl) (by kernel_rfl) (by kernel_rfl) (fun _ _ _ h => h) (Or.inl ⟨by rfl, ?_⟩) (by assumption) ?_
                                rotate_left
                                focus (intro w' hS; obtain ⟨s0, s1, s2, s3, s4⟩ := hS; (try go_simp); (try with_reducible rfl))
                                simp only [Act.put, List.setIfInBounds_toArray, List.set_cons_zero, List.set_cons_succ]
                                refine wpAnyH_take (i := 11) (oi := ⟨some 96, _, _, _, _, _⟩) (v := ?_) rfl (by kernel_rfl) (by kernel_rfl) (by kernel_rfl) (fun _ _ _ h => h) (Or.inl ⟨by rfl, ?_⟩) (by assumption) ?_
                                rotate_left
                                focus (intro w' hS; obtain ⟨s0, s1, s2, s3, s4⟩ := hS; (try go_simp); (try with_reducible rfl))
                                simp only [Act.put, List.setIfInBounds_toArray, List.set_cons_zero, List.set_cons_succ]
                                refine wpAnyH_take (i := 12) (oi := ⟨some 97, _, _, _, _, _⟩) (v := ?_) rfl (by kernel_rfl) (by kernel_rfl) (by kernel_rfl) (fun _ _ _ h => h) (Or.inl ⟨by rfl, ?_⟩) (by assumption) ?_
                                rotate_left
                                focus (intro w' hS; obtain ⟨s0, s1, s2, s3, s4⟩ := hS; (try go_simp); (try with_reducible rfl))
                                simp only [Act.put, List.setIfInBounds_toArray, List.set_cons_zero, List.set_cons_succ]
                                refine wpAnyH_take (i := 13) (oi := ⟨some 98, _, _, _, _, _⟩) (v := ?_) rfl (by kernel_rfl) (by kernel_rfl) (by kernel_rfl) (fun _ _ _ h => h) (Or.inl ⟨by rfl, ?_⟩) (by assumption) ?_
                                rotate_left
                                focus (intro w' hS; obtain ⟨s0, s1, s2, s3, s4⟩ := hS; (try go_simp); (try with_reducible rfl))
                                simp only [Act.put, List.setIfInBounds_toArray, List.set_cons_zero, List.set_cons_succ]
                                refine wpAnyH_done (by kernel_rfl) ?_ _
                                have q0 : w3.cell? ⟨b3, off3 + j * 2, none⟩ = some (.int .i64 (i : Int)) := HW3.out.cell L0.out (by simp)
                                have q1 : w3.cell? ⟨b3, off3 + j * 2 + 1, none⟩ = some (.string nm) := HW3.out.cell L1.out (by simp)
                                have i0 : w3.cell? ⟨wr.heap.size, 0, none⟩ = some (.int .i64 c.op) := HB3.out.cell 0
                                go_wp2_with (go_at_call 96; refine (HNM.out _ _).mono ?_; rintro x wx ⟨rfl, rfl⟩)
                                go_roundw
                                case rel => exact ⟨i + 1, j + 1, by omega, by omega, by go_num, by go_num, HW3.out, HSN2.out, by rw [← HST.out]; exact HCALLS.out⟩
                                case measure => simp [intOf]; omega
                            · have e5 : (pos != (i : Int)) = true := by simp [hp]
                              rw [show (pos == (i : Int)) = false by simp [hp], Bool.false_and] at HST
                              have HPP := Lib.hid hp
                              clear hp
                              go_wp2_with fail
                              refine wp_region_held_drew (S := CdAt wr.heap.size c) (by kernel_rfl) HCA.out (fun hHeld => ?_)
                              refine wpAnyH_take (i := 0) (oi := ⟨some 85, _, _, _, _, _⟩) (v := ?_) rfl (by kernel_rfl) (by kernel_rfl) (by kernel_rfl) (fun _ _ _ h => h) (Or.inl ⟨by rfl, ?_⟩) (by assumption) ?_
                              rotate_left
                              focus (intro w' hS; obtain ⟨s0, s1, s2, s3, s4⟩ := hS; (try go_simp); (try with_reducible rfl))
                              simp only [Act.put, List.setIfInBounds_toArray, List.set_cons_zero, List.set_cons_succ]
                              refine wpAnyH_take (i := 2) (oi := ⟨some 87, _, _, _, _, _⟩) (v := ?_) rfl (by kernel_rfl) (by kernel_rfl) (by kernel_rfl) (fun _ _ _ h => h) (Or.inl ⟨by rfl, ?_⟩) (by assumption) ?_
                              rotate_left
                              focus (intro w' hS; obtain ⟨s0, s1, s2, s3, s4⟩ := hS; (try go_simp); (try with_reducible rfl))
                              simp only [Act.put, List.setIfInBounds_toArray, List.set_cons_zero, List.set_cons_succ]
                              refine wpAnyH_ready (rs := [1]) (by kernel_rfl) (by simp) ?_
                              refine AllReadyH.cons (o := ⟨some 86, _, _, _, _, _⟩) rfl (fun K hK => ?_) AllReadyH.nil
                              go_simp
                              go_at_call 46
                              refine (HC.out _).mono ?_
                              rintro x w3 ⟨rfl, ho3⟩
                              have hb3 := (Blk.drew HBOX.out).only ho3 (by simp)
                              have hw3 := (Blk.drew HBWA.out).only ho3 (by simp)
                              have hRS2 : CdAt wr.heap.size c w3 := ⟨hb3.cell 0, hb3.cell 1, hb3.cell 2, hb3.cell 3, hb3.cell 4⟩
                              have v2 : w3.cell? ⟨w.heap.size, 2, none⟩ = some (.slice _ _ p3) := hw3.cell 2
                              have HB3 := Lib.hid hb3
                              have HW3 := Lib.hid (HWA.out.drew.trans ho3 (by simp))
                              clear hb3 hw3 ho3
                              go_wp2_with fail
                              refine hK.out _ _ hRS2 (fun hHeld2 => ?_)
                              clear hK K hHeld hRS2
                              try simp only [Act.put, List.setIfInBounds_toArray, List.set_cons_zero, List.set_cons_succ]
                              refine wpAnyH_take (i := 3) (oi := ⟨some 88, _, _, _, _, _⟩) (v := ?_) rfl (by kernel_rfl) (by kernel_rfl) (by kernel_rfl) (fun _ _ _ h => h) (Or.inl ⟨by rfl, ?_⟩) (by assumption) ?_
                              rotate_left
                              focus (intro w' hS; obtain ⟨s0, s1, s2, s3, s4⟩ := hS; (try go_simp); (try with_reducible rfl))
                              simp only [Act.put, List.setIfInBounds_toArray, List.set_cons_zero, List.set_cons_succ]
                              refine wpAnyH_take (i := 4) (oi := ⟨some 89, _, _, _, _, _⟩) (v := ?_) rfl (by kernel_rfl) (by kernel_rfl) (by kernel_rfl) (fun _ _ _ h => h) (Or.inl ⟨by rfl, ?_⟩) (by assumption) ?_
                              rotate_left
                              focus (intro w' hS; obtain ⟨s0, s1, s2, s3, s4⟩ := hS; (try go_simp); (try with_reducible rfl))
                              simp only [Act.put, List.setIfInBounds_toArray, List.set_cons_zero, List.set_cons_succ]
                              refine wpAnyH_take (i := 5) (oi := ⟨some 90, _, _, _, _, _⟩) (v := ?_) rfl (by kernel_rfl) (by kernel_rfl) (by kernel_rfl) (fun _ _ _ h => h) (Or.inl ⟨by rfl, ?_⟩) (by assumption) ?_
                              rotate_left
                              focus (intro w' hS; obtain ⟨s0, s1, s2, s3, s4⟩ := hS; (try go_simp); (try with_reducible rfl))
                              simp only [Act.put, List.setIfInBounds_toArray, List.set_cons_zero, List.set_cons_succ]
                              refine wpAnyH_take (i := 6) (oi := ⟨some 91, _, _, _, _, _⟩) (v := ?_) rfl (by kernel_rfl) (by kernel_rfl) (by kernel_rfl) (fun _ _ _ h => h) (Or.inl ⟨by rfl, ?_⟩) (by assumption) ?_
                              rotate_left
                              focus (intro w' hS; obtain ⟨s0, s1, s2, s3, s4⟩ := hS; (try go_simp); (try with_reducible rfl))
                              simp only [Act.put, List.setIfInBounds_toArray, List.set_cons_zero, List.set_cons_succ]
                              refine wpAnyH_take (i := 7) (oi := ⟨some 92, _, _, _, _, _⟩) (v := ?_) rfl (by kernel_rfl) (by kernel_rfl) (by kernel_rfl) (fun _ _ _ h => h) (Or.inl ⟨by rfl, ?_⟩) (by assumption) ?_
                              rotate_left
                              focus (intro w' hS; obtain ⟨s0, s1, s2, s3, s4⟩ := hS; (try go_simp); (try with_reducible rfl))
                              simp only [Act.put, List.setIfInBounds_toArray, List.set_cons_zero, List.set_cons_succ]
                              refine wpAnyH_take (i := 8) (oi := ⟨some 93, _, _, _, _, _⟩) (v := ?_) rfl (by kernel_rfl) (by kernel_rfl) (by kernel_rfl) (fun _ _ _ h => h) (Or.inl ⟨by rfl, ?_⟩) (by assumption) ?_
                              rotate_left
                              focus (intro w' hS; obtain ⟨s0, s1, s2, s3, s4⟩ := hS; (try go_simp); (try with_reducible rfl))
                              simp only [Act.put, List.setIfInBounds_toArray, List.set_cons_zero, List.set_cons_succ]
                              refine wpAnyH_take (i := 9) (oi := ⟨some 94, _, _, _, _, _⟩) (v := ?_) rfl (by kernel_rfl) (by kernel_rfl) (by kernel_rfl) (fun _ _ _ h => h) (Or.inl ⟨by rfl, ?_⟩) (by assumption) ?_
                              rotate_left
                              focus (intro w' hS; obtain ⟨s0, s1, s2, s3, s4⟩ := hS; (try go_simp); (try with_reducible rfl))
                              simp only [Act.put, List.setIfInBounds_toArray, List.set_cons_zero, List.set_cons_succ]
                              refine wpAnyH_take (i := 10) (oi := ⟨some 95, _, _, _, _, _⟩) (v := ?_) rfl (by kernel_rfl) (by kernel_rfl) (by kernel_rfl) (fun _ _ _ h => h) (Or.inl ⟨by rfl, ?_⟩) (by assumption) ?_
                              rotate_left
                              focus (intro w' hS; obtain ⟨s0, s1, s2, s3, s4⟩ := hS; (try go_simp); (try with_reducible rfl))
                              simp only [Act.put, List.setIfInBounds_toArray, List.set_cons_zero, List.set_cons_succ]
                              refine wpAnyH_take (i := 11) (oi := ⟨some 96, _, _, _, _, _⟩) (v := ?_) rfl (by kernel_rfl) (by kernel_rfl) (by kernel_rfl) (fun _ _ _ h => h) (Or.inl ⟨by rfl, ?_⟩) (by assumption) ?_
                              rotate_left
                              focus (intro w' hS; obtain ⟨s0, s1, s2, s3, s4⟩ := hS; (try go_simp); (try with_reducible rfl))
                              simp only [Act.put, List.setIfInBounds_toArray, List.set_cons_zero, List.set_cons_succ]
                              refine wpAnyH_take (i := 12) (oi := ⟨some 97, _, _, _, _, _⟩) (v := ?_) rfl (by kernel_rfl) (by kernel_rfl) (by kernel_rfl) (fun _ _ _ h => h) (Or.inl ⟨by rfl, ?_⟩) (by assumption) ?_
                              rotate_left
                              focus (intro w' hS; obtain ⟨s0, s1, s2, s3, s4⟩ := hS; (try go_simp); (try with_reducible rfl))
                              simp only [Act.put, List.setIfInBounds_toArray, List.set_cons_zero, List.set_cons_succ]
                              refine wpAnyH_take (i := 13) (oi := ⟨some 98, _, _, _, _, _⟩) (v := ?_) rfl (by kernel_rfl) (by kernel_rfl) (by kernel_rfl) (fun _ _ _ h => h) (Or.inl ⟨by rfl, ?_⟩) (by assumption) ?_
                              rotate_left
                              focus (intro w' hS; obtain ⟨s0, s1, s2, s3, s4⟩ := hS; (try go_simp); (try with_reducible rfl))
                              simp only [Act.put, List.setIfInBounds_toArray, List.set_cons_zero, List.set_cons_succ]
                              refine wpAnyH_done (by kernel_rfl) ?_ _
                              have q0 : w3.cell? ⟨b3, off3 + j * 2, none⟩ = some (.int .i64 pos) := HW3.out.cell L0.out (by simp)
                              have i0 : w3.cell? ⟨wr.heap.size, 0, none⟩ = some (.int .i64 c.op) := HB3.out.cell 0
                              go_wp2_with fail
                              go_ret
                              exact ⟨by rw [← HBB.out, ← HCALLS.out, HST.out, Bool.and_false]; rfl, HO2.out.trans HW3.out (by simp)⟩
                          · have HF := Lib.hid (HCC.out.1 (by omega))
                            have e4 : decide ((m3 : Int) ≤ (m3 : Int)) = true := decide_eq_true (by omega)
                            obtain rfl : j = m3 := by omega
                            clear HCC h18 hn0
                            go_wp2_with fail
                            refine wp_region_held_drew (S := CdAt wr.heap.size c) (by kernel_rfl) HCA.out (fun hHeld => ?_)
                            refine wpAnyH_take (i := 0) (oi := ⟨some 85, _, _, _, _, _⟩) (v := ?_) rfl (by kernel_rfl) (by kernel_rfl) (by kernel_rfl) (fun _ _ _ h => h) (Or.inl ⟨by rfl, ?_⟩) (by assumption) ?_
                            rotate_left
                            focus (intro w' hS; obtain ⟨s0, s1, s2, s3, s4⟩ := hS; (try go_simp); (try with_reducible rfl))
                            simp only [Act.put, List.setIfInBounds_toArray, List.set_cons_zero, List.set_cons_succ]
                            refine wpAnyH_take (i := 2) (oi := ⟨some 87, _, _, _, _, _⟩) (v := ?_) rfl (by kernel_rfl) (by kernel_rfl) (by kernel_rfl) (fun _ _ _ h => h) (Or.inl ⟨by rfl, ?_⟩) (by assumption) ?_
                            rotate_left
                            focus (intro w' hS; obtain ⟨s0, s1, s2, s3, s4⟩ := hS; (try go_simp); (try with_reducible rfl))
                            simp only [Act.put, List.setIfInBounds_toArray, List.set_cons_zero, List.set_cons_succ]
                            refine wpAnyH_ready (rs := [1]) (by kernel_rfl) (by simp) ?_
                            refine AllReadyH.cons (o := ⟨some 86, _, _, _, _, _⟩) rfl (fun K hK => ?_) AllReadyH.nil
                            go_simp
                            go_at_call 46
                            refine (HC.out _).mono ?_
                            rintro x w3 ⟨rfl, ho3⟩
                            have hb3 := (Blk.drew HBOX.out).only ho3 (by simp)
                            have hw3 := (Blk.drew HBWA.out).only ho3 (by simp)
                            have hRS2 : CdAt wr.heap.size c w3 := ⟨hb3.cell 0, hb3.cell 1, hb3.cell 2, hb3.cell 3, hb3.cell 4⟩
                            have v2 : w3.cell? ⟨w.heap.size, 2, none⟩ = some (.slice _ _ p3) := hw3.cell 2
                            have HB3 := Lib.hid hb3
                            have HW3 := Lib.hid (HWA.out.drew.trans ho3 (by simp))
                            clear hb3 hw3 ho3
                            go_wp2_with fail
                            refine hK.out _ _ hRS2 (fun hHeld2 => ?_)
                            clear hK K hHeld hRS2
                            try simp only [Act.put, List.setIfInBounds_toArray, List.set_cons_zero, List.set_cons_succ]
                            refine wpAnyH_take (i := 3) (oi := ⟨some 88, _, _, _, _, _⟩) (v := ?_) rfl (by kernel_rfl) (by kernel_rfl) (by kernel_rfl) (fun _ _ _ h => h) (Or.inl ⟨by rfl, ?_⟩) (by assumption) ?_
                            rotate_left
                            focus (intro w' hS; obtain ⟨s0, s1, s2, s3, s4⟩ := hS; (try go_simp); (try with_reducible rfl))
                            simp only [Act.put, List.setIfInBounds_toArray, List.set_cons_zero, List.set_cons_succ]
                            refine wpAnyH_take (i := 4) (oi := ⟨some 89, _, _, _, _, _⟩) (v := ?_) rfl (by kernel_rfl) (by kernel_rfl) (by kernel_rfl) (fun _ _ _ h => h) (Or.inl ⟨by rfl, ?_⟩) (by assumption) ?_
                            rotate_left
                            focus (intro w' hS; obtain ⟨s0, s1, s2, s3, s4⟩ := hS; (try go_simp); (try with_reducible rfl))
                            simp only [Act.put, List.setIfInBounds_toArray, List.set_cons_zero, List.set_cons_succ]
                            refine wpAnyH_take (i := 5) (oi := ⟨some 90, _, _, _, _, _⟩) (v := ?_) rfl (by kernel_rfl) (by kernel_rfl) (by kernel_rfl) (fun _ _ _ h => h) (Or.inl ⟨by rfl, ?_⟩) (by assumption) ?_
                            rotate_left
                            focus (intro w' hS; obtain ⟨s0, s1, s2, s3, s4⟩ := hS; (try go_simp); (try with_reducible rfl))
                            simp only [Act.put, List.setIfInBounds_toArray, List.set_cons_zero, List.set_cons_succ]
                            refine wpAnyH_take (i := 6) (oi := ⟨some 91, _, _, _, _, _⟩) (v := ?_) rfl (by kernel_rfl) (by kernel_rfl) (by kernel_rfl) (fun _ _ _ h => h) (Or.inl ⟨by rfl, ?_⟩) (by assumption) ?_
                            rotate_left
                            focus (intro w' hS; obtain ⟨s0, s1, s2, s3, s4⟩ := hS; (try go_simp); (try with_reducible rfl))
                            simp only [Act.put, List.setIfInBounds_toArray, List.set_cons_zero, List.set_cons_succ]
                            refine wpAnyH_take (i := 7) (oi := ⟨some 92, _, _, _, _, _⟩) (v := ?_) rfl (by kernel_rfl) (by kernel_rfl) (by kernel_rfl) (fun _ _ _ h => h) (Or.inl ⟨by rfl, ?_⟩) (by assumption) ?_
                            rotate_left
                            focus (intro w' hS; obtain ⟨s0, s1, s2, s3, s4⟩ := hS; (try go_simp); (try with_reducible rfl))
                            simp only [Act.put, List.setIfInBounds_toArray, List.set_cons_zero, List.set_cons_succ]
                            refine wpAnyH_take (i := 8) (oi := ⟨some 93, _, _, _, _, _⟩) (v := ?_) rfl (by kernel_rfl) (by kernel_rfl) (by kernel_rfl) (fun _ _ _ h => h) (Or.inl ⟨by rfl, ?_⟩) (by assumption) ?_
                            rotate_left
                            focus (intro w' hS; obtain ⟨s0, s1, s2, s3, s4⟩ := hS; (try go_simp); (try with_reducible rfl))
                            simp only [Act.put, List.setIfInBounds_toArray, List.set_cons_zero, List.set_cons_succ]
                            refine wpAnyH_take (i := 9) (oi := ⟨some 94, _, _, _, _, _⟩) (v := ?_) rfl (by kernel_rfl) (by kernel_rfl) (by kernel_rfl) (fun _ _ _ h => h) (Or.inl ⟨by rfl, ?_⟩) (by assumption) ?_
                            rotate_left
                            focus (intro w' hS; obtain ⟨s0, s1, s2, s3, s4⟩ := hS; (try go_simp); (try with_reducible rfl))
                            simp only [Act.put, List.setIfInBounds_toArray, List.set_cons_zero, List.set_cons_succ]
                            refine wpAnyH_take (i := 10) (oi := ⟨some 95, _, _, _, _, _⟩) (v := ?_) rfl (by kernel_rfl) (by kernel_rfl) (by kernel_rfl) (fun _ _ _ h => h) (Or.inl ⟨by rfl, ?_⟩) (by assumption) ?_
                            rotate_left
                            focus (intro w' hS; obtain ⟨s0, s1, s2, s3, s4⟩ := hS; (try go_simp); (try with_reducible rfl))
                            simp only [Act.put, List.setIfInBounds_toArray, List.set_cons_zero, List.set_cons_succ]
                            refine wpAnyH_take (i := 11) (oi := ⟨some 96, _, _, _, _, _⟩) (v := ?_) rfl (by kernel_rfl) (by kernel_rfl) (by kernel_rfl) (fun _ _ _ h => h) (Or.inl ⟨by rfl, ?_⟩) (by assumption) ?_
                            rotate_left
                            focus (intro w' hS; obtain ⟨s0, s1, s2, s3, s4⟩ := hS; (try go_simp); (try with_reducible rfl))
                            simp only [Act.put, List.setIfInBounds_toArray, List.set_cons_zero, List.set_cons_succ]
                            refine wpAnyH_take (i := 12) (oi := ⟨some 97, _, _, _, _, _⟩) (v := ?_) rfl (by kernel_rfl) (by kernel_rfl) (by kernel_rfl) (fun _ _ _ h => h) (Or.inl ⟨by rfl, ?_⟩) (by assumption) ?_
                            rotate_left
                            focus (intro w' hS; obtain ⟨s0, s1, s2, s3, s4⟩ := hS; (try go_simp); (try with_reducible rfl))
                            simp only [Act.put, List.setIfInBounds_toArray, List.set_cons_zero, List.set_cons_succ]
                            refine wpAnyH_take (i := 13) (oi := ⟨some 98, _, _, _, _, _⟩) (v := ?_) rfl (by kernel_rfl) (by kernel_rfl) (by kernel_rfl) (fun _ _ _ h => h) (Or.inl ⟨by rfl, ?_⟩) (by assumption) ?_
                            rotate_left
                            focus (intro w' hS; obtain ⟨s0, s1, s2, s3, s4⟩ := hS; (try go_simp); (try with_reducible rfl))
                            simp only [Act.put, List.setIfInBounds_toArray, List.set_cons_zero, List.set_cons_succ]
                            refine wpAnyH_done (by kernel_rfl) ?_ _
                            have i0 : w3.cell? ⟨wr.heap.size, 0, none⟩ = some (.int .i64 c.op) := HB3.out.cell 0
                            go_wp2_with fail
                            go_ret
                            exact ⟨by rw [← HBB.out, ← HCALLS.out, HF.out, Bool.and_false]; rfl, HO2.out.trans HW3.out (by simp)⟩
                        · have e2 : (c.op == 18) = true := by simp [h18]
                          have e3 : (c.n != 0) = true := by simp [hn0]
                          have HF := Lib.hid (callsOk_n HCK.out (i : Int) (d.calls.drop j) h18 hn0)
                          clear h18 hn0
                          go_wp2_with fail
                          refine wp_region_held_drew (S := CdAt wr.heap.size c) (by kernel_rfl) HCA.out (fun hHeld => ?_)
                          refine wpAnyH_take (i := 0) (oi := ⟨some 85, _, _, _, _, _⟩) (v := ?_) rfl (by kernel_rfl) (by kernel_rfl) (by kernel_rfl) (fun _ _ _ h => h) (Or.inl ⟨by rfl, ?_⟩) (by assumption) ?_
                          rotate_left
                          focus (intro w' hS; obtain ⟨s0, s1, s2, s3, s4⟩ := hS; (try go_simp); (try with_reducible rfl))
                          simp only [Act.put, List.setIfInBounds_toArray, List.set_cons_zero, List.set_cons_succ]
                          refine wpAnyH_take (i := 2) (oi := ⟨some 87, _, _, _, _, _⟩) (v := ?_) rfl (by kernel_rfl) (by kernel_rfl) (by kernel_rfl) (fun _ _ _ h => h) (Or.inl ⟨by rfl, ?_⟩) (by assumption) ?_
                          rotate_left
                          focus (intro w' hS; obtain ⟨s0, s1, s2, s3, s4⟩ := hS; (try go_simp); (try with_reducible rfl))
                          simp only [Act.put, List.setIfInBounds_toArray, List.set_cons_zero, List.set_cons_succ]
                          refine wpAnyH_ready (rs := [1]) (by kernel_rfl) (by simp) ?_
                          refine AllReadyH.cons (o := ⟨some 86, _, _, _, _, _⟩) rfl (fun K hK => ?_) AllReadyH.nil
                          go_simp
                          go_at_call 46
                          refine (HC.out _).mono ?_
                          rintro x w3 ⟨rfl, ho3⟩
                          have hb3 := (Blk.drew HBOX.out).only ho3 (by simp)
                          have hw3 := (Blk.drew HBWA.out).only ho3 (by simp)
                          have hRS2 : CdAt wr.heap.size c w3 := ⟨hb3.cell 0, hb3.cell 1, hb3.cell 2, hb3.cell 3, hb3.cell 4⟩
                          have v2 : w3.cell? ⟨w.heap.size, 2, none⟩ = some (.slice _ _ p3) := hw3.cell 2
                          have HB3 := Lib.hid hb3
                          have HW3 := Lib.hid (HWA.out.drew.trans ho3 (by simp))
                          clear hb3 hw3 ho3
                          go_wp2_with fail
                          refine hK.out _ _ hRS2 (fun hHeld2 => ?_)
                          clear hK K hHeld hRS2
                          try simp only [Act.put, List.setIfInBounds_toArray, List.set_cons_zero, List.set_cons_succ]
                          refine wpAnyH_take (i := 3) (oi := ⟨some 88, _, _, _, _, _⟩) (v := ?_) rfl (by kernel_rfl) (by kernel_rfl) (by kernel_rfl) (fun _ _ _ h => h) (Or.inl ⟨by rfl, ?_⟩) (by assumption) ?_
                          rotate_left
                          focus (intro w' hS; obtain ⟨s0, s1, s2, s3, s4⟩ := hS; (try go_simp); (try with_reducible rfl))
                          simp only [Act.put, List.setIfInBounds_toArray, List.set_cons_zero, List.set_cons_succ]
                          refine wpAnyH_take (i := 4) (oi := ⟨some 89, _, _, _, _, _⟩) (v := ?_) rfl (by kernel_rfl) (by kernel_rfl) (by kernel_rfl) (fun _ _ _ h => h) (Or.inl ⟨by rfl, ?_⟩) (by assumption) ?_
                          rotate_left
                          focus (intro w' hS; obtain ⟨s0, s1, s2, s3, s4⟩ := hS; (try go_simp); (try with_reducible rfl))
                          simp only [Act.put, List.setIfInBounds_toArray, List.set_cons_zero, List.set_cons_succ]
                          refine wpAnyH_take (i := 5) (oi := ⟨some 90, _, _, _, _, _⟩) (v := ?_) rfl (by kernel_rfl) (by kernel_rfl) (by kernel_rfl) (fun _ _ _ h => h) (Or.inl ⟨by rfl, ?_⟩) (by assumption) ?_
                          rotate_left
                          focus (intro w' hS; obtain ⟨s0, s1, s2, s3, s4⟩ := hS; (try go_simp); (try with_reducible rfl))
                          simp only [Act.put, List.setIfInBounds_toArray, List.set_cons_zero, List.set_cons_succ]
                          refine wpAnyH_take (i := 6) (oi := ⟨some 91, _, _, _, _, _⟩) (v := ?_) rfl (by kernel_rfl) (by kernel_rfl) (by kernel_rfl) (fun _ _ _ h => h) (Or.inl ⟨by rfl, ?_⟩) (by assumption) ?_
                          rotate_left
                          focus (intro w' hS; obtain ⟨s0, s1, s2, s3, s4⟩ := hS; (try go_simp); (try with_reducible rfl))
                          simp only [Act.put, List.setIfInBounds_toArray, List.set_cons_zero, List.set_cons_succ]
                          refine wpAnyH_take (i := 7) (oi := ⟨some 92, _, _, _, _, _⟩) (v := ?_) rfl (by kernel_rfl) (by kernel_rfl) (by kernel_rfl) (fun _ _ _ h => h) (Or.inl ⟨by rfl, ?_⟩) (by assumption) ?_
                          rotate_left
                          focus (intro w' hS; obtain ⟨s0, s1, s2, s3, s4⟩ := hS; (try go_simp); (try with_reducible rfl))
                          simp only [Act.put, List.setIfInBounds_toArray, List.set_cons_zero, List.set_cons_succ]
                          refine wpAnyH_take (i := 8) (oi := ⟨some 93, _, _, _, _, _⟩) (v := ?_) rfl (by kernel_rfl) (by kernel_rfl) (by kernel_rfl) (fun _ _ _ h => h) (Or.inl ⟨by rfl, ?_⟩) (by assumption) ?_
                          rotate_left
                          focus (intro w' hS; obtain ⟨s0, s1, s2, s3, s4⟩ := hS; (try go_simp); (try with_reducible rfl))
                          simp only [Act.put, List.setIfInBounds_toArray, List.set_cons_zero, List.set_cons_succ]
                          refine wpAnyH_take (i := 9) (oi := ⟨some 94, _, _, _, _, _⟩) (v := ?_) rfl (by kernel_rfl) (by kernel_rfl) (by kernel_rfl) (fun _ _ _ h => h) (Or.inl ⟨by rfl, ?_⟩) (by assumption) ?_
                          rotate_left
                          focus (intro w' hS; obtain ⟨s0, s1, s2, s3, s4⟩ := hS; (try go_simp); (try with_reducible rfl))
                          simp only [Act.put, List.setIfInBounds_toArray, List.set_cons_zero, List.set_cons_succ]
                          refine wpAnyH_take (i := 10) (oi := ⟨some 95, _, _, _, _, _⟩) (v := ?_) rfl (by kernel_rfl) (by kernel_rfl) (by kernel_rfl) (fun _ _ _ h => h) (Or.inl ⟨by rfl, ?_⟩) (by assumption) ?_
                          rotate_left
                          focus (intro w' hS; obtain ⟨s0, s1, s2, s3, s4⟩ := hS; (try go_simp); (try with_reducible rfl))
                          simp only [Act.put, List.setIfInBounds_toArray, List.set_cons_zero, List.set_cons_succ]
                          refine wpAnyH_take (i := 11) (oi := ⟨some 96, _, _, _, _, _⟩) (v := ?_) rfl (by kernel_rfl) (by kernel_rfl) (by kernel_rfl) (fun _ _ _ h => h) (Or.inl ⟨by rfl, ?_⟩) (by assumption) ?_
                          rotate_left
                          focus (intro w' hS; obtain ⟨s0, s1, s2, s3, s4⟩ := hS; (try go_simp); (try with_reducible rfl))
                          simp only [Act.put, List.setIfInBounds_toArray, List.set_cons_zero, List.set_cons_succ]
                          refine wpAnyH_take (i := 12) (oi := ⟨some 97, _, _, _, _, _⟩) (v := ?_) rfl (by kernel_rfl) (by kernel_rfl) (by kernel_rfl) (fun _ _ _ h => h) (Or.inl ⟨by rfl, ?_⟩) (by assumption) ?_
                          rotate_left
                          focus (intro w' hS; obtain ⟨s0, s1, s2, s3, s4⟩ := hS; (try go_simp); (try with_reducible rfl))
                          simp only [Act.put, List.setIfInBounds_toArray, List.set_cons_zero, List.set_cons_succ]
                          refine wpAnyH_take (i := 13) (oi := ⟨some 98, _, _, _, _, _⟩) (v := ?_) rfl (by kernel_rfl) (by kernel_rfl) (by kernel_rfl) (fun _ _ _ h => h) (Or.inl ⟨by rfl, ?_⟩) (by assumption) ?_
                          rotate_left
                          focus (intro w' hS; obtain ⟨s0, s1, s2, s3, s4⟩ := hS; (try go_simp); (try with_reducible rfl))
                          simp only [Act.put, List.setIfInBounds_toArray, List.set_cons_zero, List.set_cons_succ]
                          refine wpAnyH_done (by kernel_rfl) ?_ _
                          go_wp2_with fail
                          go_ret
                          exact ⟨by rw [← HBB.out, ← HCALLS.out, HF.out, Bool.and_false]; rfl, HO2.out.trans HW3.out (by simp)⟩
                      · have e2 : (c.op == 18) = false := by simp [h18]
                        have hst := callsOk_step HCK.out (i : Int) (d.calls.drop j)
                        rw [if_neg h18, show (i : Int) + 1 = ((i + 1 : Nat) : Int) by omega] at hst
                        have HST := Lib.hid hst
                        clear hst h18
                        go_wp2_with fail
                        refine wp_region_held_drew (S := CdAt wr.heap.size c) (by kernel_rfl) HCA.out (fun hHeld => ?_)
                        refine wpAnyH_take (i := 0) (oi := ⟨some 85, _, _, _, _, _⟩) (v := ?_) rfl (by kernel_rfl) (by kernel_rfl) (by kernel_rfl) (fun _ _ _ h => h) (Or.inl ⟨by rfl, ?_⟩) (by assumption) ?_
                        rotate_left
                        focus (intro w' hS; obtain ⟨s0, s1, s2, s3, s4⟩ := hS; (try go_simp); (try with_reducible rfl))
                        simp only [Act.put, List.setIfInBounds_toArray, List.set_cons_zero, List.set_cons_succ]
                        refine wpAnyH_take (i := 2) (oi := ⟨some 87, _, _, _, _, _⟩) (v := ?_) rfl (by kernel_rfl) (by kernel_rfl) (by kernel_rfl) (fun _ _ _ h => h) (Or.inl ⟨by rfl, ?_⟩) (by assumption) ?_
                        rotate_left
                        focus (intro w' hS; obtain ⟨s0, s1, s2, s3, s4⟩ := hS; (try go_simp); (try with_reducible rfl))
                        simp only [Act.put, List.setIfInBounds_toArray, List.set_cons_zero, List.set_cons_succ]
                        refine wpAnyH_ready (rs := [1]) (by kernel_rfl) (by simp) ?_
                        refine AllReadyH.cons (o := ⟨some 86, _, _, _, _, _⟩) rfl (fun K hK => ?_) AllReadyH.nil
                        go_simp
                        go_at_call 46
                        refine (HC.out _).mono ?_
                        rintro x w3 ⟨rfl, ho3⟩
                        have hb3 := (Blk.drew HBOX.out).only ho3 (by simp)
                        have hw3 := (Blk.drew HBWA.out).only ho3 (by simp)
                        have hRS2 : CdAt wr.heap.size c w3 := ⟨hb3.cell 0, hb3.cell 1, hb3.cell 2, hb3.cell 3, hb3.cell 4⟩
                        have v2 : w3.cell? ⟨w.heap.size, 2, none⟩ = some (.slice _ _ p3) := hw3.cell 2
                        have HB3 := Lib.hid hb3
                        have HW3 := Lib.hid (HWA.out.drew.trans ho3 (by simp))
                        clear hb3 hw3 ho3
                        go_wp2_with fail
                        refine hK.out _ _ hRS2 (fun hHeld2 => ?_)
                        clear hK K hHeld hRS2
                        try simp only [Act.put, List.setIfInBounds_toArray, List.set_cons_zero, List.set_cons_succ]
                        refine wpAnyH_take (i := 3) (oi := ⟨some 88, _, _, _, _, _⟩) (v := ?_) rfl (by kernel_rfl) (by kernel_rfl) (by kernel_rfl) (fun _ _ _ h => h) (Or.inl ⟨by rfl, ?_⟩) (by assumption) ?_
                        rotate_left
                        focus (intro w' hS; obtain ⟨s0, s1, s2, s3, s4⟩ := hS; (try go_simp); (try with_reducible rfl))
                        simp only [Act.put, List.setIfInBounds_toArray, List.set_cons_zero, List.set_cons_succ]
                        refine wpAnyH_take (i := 4) (oi := ⟨some 89, _, _, _, _, _⟩) (v := ?_) rfl (by kernel_rfl) (by kernel_rfl) (by kernel_rfl) (fun _ _ _ h => h) (Or.inl ⟨by rfl, ?_⟩) (by assumption) ?_
                        rotate_left
                        focus (intro w' hS; obtain ⟨s0, s1, s2, s3, s4⟩ := hS; (try go_simp); (try with_reducible rfl))
                        simp only [Act.put, List.setIfInBounds_toArray, List.set_cons_zero, List.set_cons_succ]
                        refine wpAnyH_take (i := 5) (oi := ⟨some 90, _, _, _, _, _⟩) (v := ?_) rfl (by kernel_rfl) (by kernel_rfl) (by kernel_rfl) (fun _ _ _ h => h) (Or.inl ⟨by rfl, ?_⟩) (by assumption) ?_
                        rotate_left
                        focus (intro w' hS; obtain ⟨s0, s1, s2, s3, s4⟩ := hS; (try go_simp); (try with_reducible rfl))
                        simp only [Act.put, List.setIfInBounds_toArray, List.set_cons_zero, List.set_cons_succ]
                        refine wpAnyH_take (i := 6) (oi := ⟨some 91, _, _, _, _, _⟩) (v := ?_) rfl (by kernel_rfl) (by kernel_rfl) (by kernel_rfl) (fun _ _ _ h => h) (Or.inl ⟨by rfl, ?_⟩) (by assumption) ?_
                        rotate_left
                        focus (intro w' hS; obtain ⟨s0, s1, s2, s3, s4⟩ := hS; (try go_simp); (try with_reducible rfl))
                        simp only [Act.put, List.setIfInBounds_toArray, List.set_cons_zero, List.set_cons_succ]
                        refine wpAnyH_take (i := 7) (oi := ⟨some 92, _, _, _, _, _⟩) (v := ?_) rfl (by kernel_rfl) (by kernel_rfl) (by kernel_rfl) (fun _ _ _ h => h) (Or.inl ⟨by rfl, ?_⟩) (by assumption) ?_
                        rotate_left
                        focus (intro w' hS; obtain ⟨s0, s1, s2, s3, s4⟩ := hS; (try go_simp); (try with_reducible rfl))
                        simp only [Act.put, List.setIfInBounds_toArray, List.set_cons_zero, List.set_cons_succ]
                        refine wpAnyH_take (i := 8) (oi := ⟨some 93, _, _, _, _, _⟩) (v := ?_) rfl (by kernel_rfl) (by kernel_rfl) (by kernel_rfl) (fun _ _ _ h => h) (Or.inl ⟨by rfl, ?_⟩) (by assumption) ?_
                        rotate_left
                        focus (intro w' hS; obtain ⟨s0, s1, s2, s3, s4⟩ := hS; (try go_simp); (try with_reducible rfl))
                        simp only [Act.put, List.setIfInBounds_toArray, List.set_cons_zero, List.set_cons_succ]
                        refine wpAnyH_take (i := 9) (oi := ⟨some 94, _, _, _, _, _⟩) (v := undef) rfl (by kernel_rfl) (by kernel_rfl) (by kernel_rfl) (fun _ _ _ h => h) (Or.inr ⟨by rfl, rfl⟩) (by assumption) ?_
                        simp only [Act.put, List.setIfInBounds_toArray, List.set_cons_zero, List.set_cons_succ]
                        refine wpAnyH_take (i := 10) (oi := ⟨some 95, _, _, _, _, _⟩) (v := undef) rfl (by kernel_rfl) (by kernel_rfl) (by kernel_rfl) (fun _ _ _ h => h) (Or.inr ⟨by rfl, rfl⟩) (by assumption) ?_
                        simp only [Act.put, List.setIfInBounds_toArray, List.set_cons_zero, List.set_cons_succ]
                        refine wpAnyH_take (i := 11) (oi := ⟨some 96, _, _, _, _, _⟩) (v := undef) rfl (by kernel_rfl) (by kernel_rfl) (by kernel_rfl) (fun _ _ _ h => h) (Or.inr ⟨by rfl, rfl⟩) (by assumption) ?_
                        simp only [Act.put, List.setIfInBounds_toArray, List.set_cons_zero, List.set_cons_succ]
                        refine wpAnyH_take (i := 12) (oi := ⟨some 97, _, _, _, _, _⟩) (v := ?_) rfl (by kernel_rfl) (by kernel_rfl) (by kernel_rfl) (fun _ _ _ h => h) (Or.inl ⟨by rfl, ?_⟩) (by assumption) ?_
                        rotate_left
                        focus (intro w' hS; obtain ⟨s0, s1, s2, s3, s4⟩ := hS; (try go_simp); (try with_reducible rfl))
                        simp only [Act.put, List.setIfInBounds_toArray, List.set_cons_zero, List.set_cons_succ]
                        refine wpAnyH_take (i := 13) (oi := ⟨some 98, _, _, _, _, _⟩) (v := ?_) rfl (by kernel_rfl) (by kernel_rfl) (by kernel_rfl) (fun _ _ _ h => h) (Or.inl ⟨by rfl, ?_⟩) (by assumption) ?_
                        rotate_left
                        focus (intro w' hS; obtain ⟨s0, s1, s2, s3, s4⟩ := hS; (try go_simp); (try with_reducible rfl))
                        simp only [Act.put, List.setIfInBounds_toArray, List.set_cons_zero, List.set_cons_succ]
                        refine wpAnyH_done (by kernel_rfl) ?_ _
                        have i0 : w3.cell? ⟨wr.heap.size, 0, none⟩ = some (.int .i64 c.op) := HB3.out.cell 0
                        go_wp2_with fail
                        go_roundw
                        case rel => exact ⟨i + 1, j, by omega, hj, by go_num, rfl, HW3.out, HSN2.out, by rw [← HST.out]; exact HCALLS.out⟩
                        case measure => simp [intOf]; omega
                  · obtain rfl : i = m1 := by omega
                    have e1 : decide ((i : Int) < (i : Int)) = false := decide_eq_false (by omega)
                    rw [take_all _ _ N1.out] at HALL
                    rw [HALL.out, Bool.true_and] at HBB
                    rw [callsOk_end (by rw [N1.out]; exact Nat.le_refl _) _ _ _ (by rw [N3.out]; exact hj), N3.out] at HCALLS
                    go_wp2_with fail
                    go_ret
                    exact ⟨by rw [← HBB.out, ← HCALLS.out]; rfl, HOW.out⟩
        · have d3 : decide ((4096 : Int) < (m3 : Int)) = true := decide_eq_true (by omega)
          rw [decide_eq_false h3, Bool.false_and] at HBB
          go_enter Try.func43, Try.ntmps43
          go_wp2_with fail
          go_ret
          exact ⟨by rw [← HBB.out]; rfl, HO.out⟩
      · have d2 : decide ((4096 : Int) < (m2 : Int)) = true := decide_eq_true (by omega)
        rw [decide_eq_false h2, Bool.false_and, Bool.false_and] at HBB
        go_enter Try.func43, Try.ntmps43
        go_wp2_with fail
        go_ret
        exact ⟨by rw [← HBB.out]; rfl, HO.out⟩
    · have d1 : decide ((32768 : Int) < (m1 : Int)) = true := decide_eq_true (by omega)
      rw [decide_eq_false h1, Bool.false_and] at HBB
      go_enter Try.func43, Try.ntmps43
      go_wp2_with fail
      go_ret
      exact ⟨by rw [← HBB.out]; rfl, HO.out⟩
end Go.Proofs.Ytbeenfkmnchhbaa.Object
