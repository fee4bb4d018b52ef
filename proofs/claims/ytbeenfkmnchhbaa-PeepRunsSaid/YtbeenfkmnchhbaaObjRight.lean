/- What an object may be: object.Right. -/
import Derived.Test.YtbeenfkmnchhbaaObjCalls
namespace Go.Proofs.Ytbeenfkmnchhbaa.Object
open Go.RowKit
set_option linter.unusedVariables false
set_option maxRecDepth 100000
/-- an object as it lies: its three slices -/
structure Ob where
  A1 : Option Addr
  m1 : Nat
  p1 : Nat
  A2 : Option Addr
  m2 : Nat
  p2 : Nat
  A3 : Option Addr
  m3 : Nat
  p3 : Nat
def Ob.val (o : Ob) : Value := .agg #[.slice o.A1 o.m1 o.p1, .slice o.A2 o.m2 o.p2, .slice o.A3 o.m3 o.p3]
/-- an object as it is meant -/
structure OD where
  code : List Cd
  ents : List En
  calls : List En
deriving DecidableEq
structure IsOb (w : World) (o : Ob) (d : OD) : Prop where
  code : Recs w w.heap.size 5 o.A1 o.m1 (d.code.map Cd.row)
  ents : Recs w w.heap.size 2 o.A2 o.m2 (d.ents.map En.row)
  calls : Recs w w.heap.size 2 o.A3 o.m3 (d.calls.map En.rowC)
  c1 : o.m1 ≤ o.p1 ∧ o.p1 ≤ maxLen
  c2 : o.m2 ≤ o.p2 ∧ o.p2 ≤ maxLen
  c3 : o.m3 ≤ o.p3 ∧ o.p3 ≤ maxLen
section
variable {w w' : World} {o : Ob} {d : OD}
theorem IsOb.only (h : IsOb w o d) (ho : Only [] w w') : IsOb w' o d :=
  ⟨(h.code.only ho (by simp)).more ho.size, (h.ents.only ho (by simp)).more ho.size, (h.calls.only ho (by simp)).more ho.size, h.c1, h.c2, h.c3⟩
theorem IsOb.n1 (h : IsOb w o d) : d.code.length = o.m1 := by have := h.code.1; simpa using this
theorem IsOb.n2 (h : IsOb w o d) : d.ents.length = o.m2 := by have := h.ents.1; simpa using this
theorem IsOb.n3 (h : IsOb w o d) : d.calls.length = o.m3 := by have := h.calls.1; simpa using this
end
def objRight (d : OD) : Bool :=
  if d.code.length = 0 then d.ents.length + d.calls.length == 0
  else decide (d.code.length ≤ 32768) && (decide (d.ents.length ≤ 4096) && decide (d.calls.length ≤ 4096)) && vmRight d.code && (d.ents.all (entOk (d.code.length : Int)) && (d.code.all cleanB && calls0 d.code d.calls))
set_option maxHeartbeats 2000000 in
theorem right_any (o : Ob) (d : OD) (w : World) (h : IsOb w o d) (hm1 : o.m1 ≤ 1000000000000) (hm2 : o.m2 ≤ 1000000000000) (hm3 : o.m3 ≤ 1000000000000) :
    Calls Try.prog 42 #[o.val] w fun x w' => x = .returned (.bool (objRight d)) ∧ Only [] w w' := by
  obtain ⟨bb, hbb⟩ : ∃ b, objRight d = b := ⟨_, rfl⟩
  rw [hbb]
  unfold objRight at hbb
  rw [h.n1, h.n2, h.n3] at hbb
  have hV := fun w' (ho : Only [] w w') => vmright_any o.A1 o.m1 o.p1 d.code w' ((h.code.only ho (by simp)).more ho.size) (by omega)
  have hE := fun w' (ho : Only [] w w') g hg hgl => contains_en o.A2 o.m2 o.p2 g d.ents w' ((h.ents.only ho (by simp)).more ho.size) (by omega) (o.m1 : Int) hg hgl
  have hC := fun w' (ho : Only [] w w') => contains_cd o.A1 o.m1 o.p1 d.code w' ((h.code.only ho (by simp)).more ho.size) (by omega)
  have hK := fun w' (ho : Only [] w w') => calls_any o.A1 o.A2 o.A3 o.m1 o.m2 o.m3 o.p1 o.p2 o.p3 d.code d.calls w' ((h.code.only ho (by simp)).more ho.size) ((h.calls.only ho (by simp)).more ho.size) (by omega) h.c3.1 h.c3.2
  clear h
  obtain ⟨A1, m1, p1, A2, m2, p2, A3, m3, p3⟩ := o
  unfold Ob.val
  simp only at hm1 hm2 hm3 hbb hV hE hC hK ⊢
  generalize vmRight d.code = b1 at *
  generalize d.ents.all (entOk (m1 : Int)) = b2 at *
  generalize d.code.all cleanB = b3 at *
  generalize calls0 d.code d.calls = b4 at *
  have HBB := Lib.hid hbb
  have HV := Lib.hid hV
  have HE := Lib.hid hE
  have HC := Lib.hid hC
  have HK := Lib.hid hK
  have hb := Blk.new w 57 #[.slice A1 m1 p1, .slice A2 m2 p2, .slice A3 m3 p3]
  have hb1 := hb.alloc (.cells #[.int .i64 (m1 : Int)] 3)
  have hn1 := Blk.new (w.alloc (.cells #[.slice A1 m1 p1, .slice A2 m2 p2, .slice A3 m3 p3] 57)) 3 #[.int .i64 (m1 : Int)]
  rw [alloc_size] at hn1
  have HB := Lib.hid hb1
  have HN := Lib.hid hn1
  have HO1 := Lib.hid ((Only.refl [] w).alloc (.cells #[.slice A1 m1 p1, .slice A2 m2 p2, .slice A3 m3 p3] 57))
  have HO := Lib.hid (HO1.out.alloc (.cells #[.int .i64 (m1 : Int)] 3))
  clear hbb hV hE hC hK hb hb1 hn1
  by_cases h0 : m1 = 0
  · subst h0
    have hz : IntKind.i64.wrap ((m2 : Int) + (m3 : Int)) = (m2 : Int) + (m3 : Int) := IntWalk.i64_in _ (by omega)
    go_enter Try.func42, Try.ntmps42
    go_wp2_with fail
    go_ret
    refine ⟨congrArg (fun b => Ending.returned (Value.bool b)) ?_, HO.out⟩
    have := HBB.out
    simp only [if_true] at this
    rw [← this, Bool.eq_iff_iff]
    simp
    omega
  · rw [if_neg h0] at HBB
    have e0 : ((m1 : Int) == 0) = false := beq_false_of_ne (by omega)
    by_cases h1 : m1 ≤ 32768
    · have d1 : decide ((32768 : Int) < (m1 : Int)) = false := decide_eq_false (by omega)
      rw [decide_eq_true h1, Bool.true_and] at HBB
      by_cases h2 : m2 ≤ 4096 ∧ m3 ≤ 4096
      · obtain ⟨h2, h3⟩ := h2
        rw [decide_eq_true h2, decide_eq_true h3, Bool.true_and, Bool.true_and] at HBB
        have hmx : (if m2 < m3 then m3 else m2) ≤ 4096 := by split <;> omega
        by_cases h23 : m2 < m3
        all_goals first | have d2 : decide ((4096 : Int) < (m3 : Int)) = false := decide_eq_false (by omega) | skip
        all_goals have d3 : decide ((4096 : Int) < (m2 : Int)) = false := decide_eq_false (by omega)
        all_goals clear hmx
        all_goals
          cases b1 <;> cases b2 <;> cases b3
        all_goals
          go_enter Try.func42, Try.ntmps42
          go_wp2_with (first
            | (go_at_call 94; refine (HK.out w4 HO4.out).mono ?_; rintro x w5 ⟨rfl, ho5⟩)
            | (go_at_call 93; refine (HC.out w3 HO3.out).mono ?_; rintro x w4 ⟨rfl, ho4⟩; have HO4 := Lib.hid (HO3.out.trans ho4 (by simp)); have hb4 := HB3.out.only ho4 (by simp); have z0 : w4.cell? ⟨w.heap.size, 0, none⟩ = some (.slice A1 m1 p1) := hb4.cell 0; have z1 : w4.cell? ⟨w.heap.size, 1, none⟩ = some (.slice A2 m2 p2) := hb4.cell 1; have z2 : w4.cell? ⟨w.heap.size, 2, none⟩ = some (.slice A3 m3 p3) := hb4.cell 2; clear hb4)
            | (go_at_call 92; refine (HE.out w2 HO2.out (w.heap.size + 1) hn2 hnl2).mono ?_; rintro x w3 ⟨rfl, ho3⟩; have HO3 := Lib.hid (HO2.out.trans ho3 (by simp)); have hb3 := HB2.out.only ho3 (by simp); have y0 : w3.cell? ⟨w.heap.size, 0, none⟩ = some (.slice A1 m1 p1) := hb3.cell 0; have HB3 := Lib.hid hb3; clear hb3)
            | (go_at_call 88; refine (HV.out _ HO.out).mono ?_; rintro x w2 ⟨rfl, ho2⟩; have HO2 := Lib.hid (HO.out.trans ho2 (by simp)); have hb2 := HB.out.only ho2 (by simp); have hn := HN.out.only ho2 (by simp); have x1 : w2.cell? ⟨w.heap.size, 1, none⟩ = some (.slice A2 m2 p2) := hb2.cell 1; have hn2 : w2.cell? ⟨w.heap.size + 1, 0, none⟩ = some (.int .i64 (m1 : Int)) := hn.cell 0; have hnl2 := hn.lt; have HB2 := Lib.hid hb2; clear hb2 hn))
        all_goals
          go_ret
          first
            | exact ⟨by rw [← HBB.out]; rfl, HO4.out.trans ho5 (by simp)⟩
            | exact ⟨by rw [← HBB.out]; rfl, HO4.out⟩
            | exact ⟨by rw [← HBB.out]; rfl, HO3.out⟩
            | exact ⟨by rw [← HBB.out]; rfl, HO2.out⟩
      · have hf : (decide (m2 ≤ 4096) && decide (m3 ≤ 4096)) = false := by rw [Bool.and_eq_false_iff, decide_eq_false_iff_not, decide_eq_false_iff_not]; omega
        rw [hf, Bool.false_and] at HBB
        clear hf
        by_cases h23 : m2 < m3
        · have d2 : decide ((4096 : Int) < (m3 : Int)) = true := decide_eq_true (by omega)
          clear h2
          go_enter Try.func42, Try.ntmps42
          go_wp2_with fail
          go_ret
          exact ⟨by rw [← HBB.out]; rfl, HO.out⟩
        · have d2 : decide ((4096 : Int) < (m2 : Int)) = true := decide_eq_true (by omega)
          clear h2
          go_enter Try.func42, Try.ntmps42
          go_wp2_with fail
          go_ret
          exact ⟨by rw [← HBB.out]; rfl, HO.out⟩
    · have d1 : decide ((32768 : Int) < (m1 : Int)) = true := decide_eq_true (by omega)
      rw [decide_eq_false h1, Bool.false_and] at HBB
      go_enter Try.func42, Try.ntmps42
      go_wp2_with fail
      go_ret
      exact ⟨by rw [← HBB.out]; rfl, HO.out⟩
end Go.Proofs.Ytbeenfkmnchhbaa.Object
