/- A return whose answer goes into a register. PRINTED by wip/gen_veback.py. -/
import Derived.Test.YtkdacemachejoaaMsA
import Derived.Test.YtkdacemachejoaaVeReckq
namespace Go.Proofs.Ytkdacemachejoaa.Vm
open Go.RowKit Go.Shelf Object
set_option linter.unusedVariables false
set_option maxRecDepth 100000
set_option maxHeartbeats 4000000 in
theorem back_zero (base mb g : Nat) (x : FB) (cA : Option Addr) (cn cc n fc : Nat) (at_ : Int) (ov : Value) (en : Int) (op a b c k : Int) (w : World) (hb : Blk w mb 58 (mcells cA cn cc (.slice (some ⟨g, 0, none⟩) (n + 1) fc) at_ ov en false)) (hx : FIn w base x.fb x.sv x.f) (hn0 : 0 < n) (hn : n ≤ 300) (hc : n + 1 ≤ fc) (z : FB) (hz : FIn w base z.fb z.sv z.f) (m ka : Nat) (hm : m + 1 = n) (hp : w.cell? ⟨g, m, none⟩ = some (.pointer (some ⟨z.fb, 0, none⟩))) (hgm : g ≠ mb) (hzx : z.fb ≠ x.fb) (hka : ka < 8) (hans : x.f.ans = (ka : Int)) (ha : a < 0) :
    Calls Try.prog 46 #[.pointer (some ⟨mb, 0, none⟩), .pointer (some ⟨x.fb, 0, none⟩), .agg #[.int .i64 op, .int .i64 a, .int .i64 b, .int .i64 c, .int .i64 k]] w fun y w' => y = .returned (.tuple #[]) ∧ Blk w' mb 58 (mcells cA cn cc (.slice (some ⟨g, 0, none⟩) n fc) x.f.back ov en false) ∧ FIn w' base z.fb z.sv { z.f with r := z.f.r.set ka 0 } ∧ Only [mb, z.fb] w w' := by
  obtain ⟨w1, hw1⟩ : ∃ w1, w.alloc (.cells #[.int .i64 op, .int .i64 a, .int .i64 b, .int .i64 c, .int .i64 k] 27) = w1 := ⟨_, rfl⟩
  have o1 : Only [] w w1 := by rw [← hw1]; exact (Only.refl [] w).alloc _
  have b1 := hb.only o1 (by simp)
  have hx1 := hx.only o1 (by simp) (by simp)
  have bc1 : Blk w1 w.heap.size 27 #[.int .i64 op, .int .i64 a, .int .i64 b, .int .i64 c, .int .i64 k] := by rw [← hw1]; exact Blk.new w _ _
  have hbm : w.heap.size ≠ mb := by have := hb.lt; omega
  have hne : x.fb ≠ mb := Blk.ne_ hx1.2.1 b1 (by decide)
  obtain ⟨w2, hw2⟩ : ∃ w2, w1.setCell ⟨mb, 1, none⟩ (.slice (some ⟨g, 0, none⟩) n fc) = w2 := ⟨_, rfl⟩
  have b2 : Blk w2 mb 58 (mcells cA cn cc (.slice (some ⟨g, 0, none⟩) n fc) at_ ov en false) := by rw [← hw2]; exact b1.set_ 1 _
  have o2 : Only [mb] w1 w2 := by rw [← hw2]; exact (Only.refl [mb] w1).setCell (.inl (by simp)) _
  have f2 := hx1.2.1.only o2 (by simpa using hne)
  obtain ⟨w3, hw3⟩ : ∃ w3, w2.setCell ⟨mb, 2, none⟩ (.int .i64 x.f.back) = w3 := ⟨_, rfl⟩
  have b3 : Blk w3 mb 58 (mcells cA cn cc (.slice (some ⟨g, 0, none⟩) n fc) x.f.back ov en false) := by rw [← hw3]; exact b2.set_ 2 _
  have o3 : Only [mb] w2 w3 := by rw [← hw3]; exact (Only.refl [mb] w2).setCell (.inl (by simp)) _
  have f3 := f2.only o3 (by simpa using hne)
  have p1 : w1.cell? ⟨mb, 1, none⟩ = some (.slice (some ⟨g, 0, none⟩) (n + 1) fc) := b1.cell 1
  have z1 := b1.frozen 1
  have p2 : w2.cell? ⟨mb, 2, none⟩ = some (.int .i64 at_) := b2.cell 2
  have z2 := b2.frozen 2
  have q17 : w2.cell? ⟨x.fb, 17, none⟩ = some (.int .i64 x.f.back) := by rw [f2.cell 17, (Fr.at_end hx.1).1]; rfl
  have q18 : w3.cell? ⟨x.fb, 18, none⟩ = some (.int .i64 x.f.ans) := by rw [f3.cell 18, (Fr.at_end hx.1).2]; rfl
  have HF := Lib.hid (And.intro b3 (((o1.mono (S' := [mb]) (by simp)).trans o2 (fun g hg => .inl hg)).trans o3 (fun g hg => .inl hg)))
  rw [hans] at q18
  have q18' : w3.cell? ⟨x.fb, 18, none⟩ = some (.int .i64 (ka : Int)) := q18
  have o13 : Only [mb] w w3 := ((o1.mono (S' := [mb]) (by simp)).trans o2 (fun g hg => .inl hg)).trans o3 (fun g hg => .inl hg)
  have hzm : z.fb ≠ mb := Blk.ne_ hz.2.1 hb (by decide)
  have hz3 : FIn w3 base z.fb z.sv z.f := hz.only o13 (by simpa using hzm) (fun h hh hm => row_ne hz.2.2.1 mb hb (by decide) (by rw [← List.mem_singleton.1 hm]; exact hh))
  have hg3 : w3.cell? ⟨g, m, none⟩ = some (.pointer (some ⟨z.fb, 0, none⟩)) := o13.cell hp (by simpa using hgm)
  have d1 : decide ((ka : Int) < 0) = false := decide_eq_false (by omega)
  have d2 : decide ((0 : Int) ≤ a) = false := decide_eq_false (by omega)
  have hS7 : ((fun Y => Y.cell? ⟨mb, 1, none⟩ = some (.slice (some ⟨g, 0, none⟩) n fc) ∧ Y.cell? ⟨g, m, none⟩ = some (.pointer (some ⟨z.fb, 0, none⟩)) ∧ Y.cell? ⟨x.fb, 18, none⟩ = some (.int .i64 (ka : Int))) : World → Prop) w3.drew := ⟨b3.cell 1, hg3, q18'⟩
  have cz : w3.drew.cell? ⟨z.fb, ka, none⟩ = some (.int .i64 (z.f.r.getD ka 0)) := by rw [hz3.2.1.drew.cell ka, Fr.at_r hz3.1 hka]; rfl
  have zz := hz3.2.1.drew.frozen ka
  have hzd : FIn w3.drew base z.fb z.sv z.f := hz3.only (Only.refl [] w3).drew (by simp) (by simp)
  have os : Only [z.fb] w3.drew (w3.drew.setCell ⟨z.fb, ka, none⟩ (.int .i64 0)) := (Only.refl [z.fb] _).setCell (.inl (by simp)) _
  have bc : Blk w3 w.heap.size 27 #[.int .i64 op, .int .i64 a, .int .i64 b, .int .i64 c, .int .i64 k] := (bc1.only o2 (by simpa using hbm)).only o3 (by simpa using hbm)
  have qa : (w3.drew.setCell ⟨z.fb, ka, none⟩ (.int .i64 0)).cell? ⟨w.heap.size, 1, none⟩ = some (.int .i64 a) := (bc.drew.only os (by have := hz.2.1.lt; simp; omega)).cell 1
  have qa2 : (w3.setCell ⟨z.fb, ka, none⟩ (.int .i64 0)).cell? ⟨w.heap.size, 1, none⟩ = some (.int .i64 a) := qa
  have HG := Lib.hid (And.intro (b3.drew.only os (by simpa using hzm.symm)) (And.intro (set_in hzd hka 0) ((o13.drew.mono (S' := [mb, z.fb]) (by simp)).trans os (fun g hg => .inl (by simp [List.mem_singleton.1 hg])))))
  have hne0 : ((n : Int) == 0) = false := by rw [beq_eq_false_iff_ne]; omega
  clear hb b1 b2 b3 hx hx1 f2 f3 o1 o2 o3 hne bc1 bc hbm os hzd hz hz3 o13 hzm hp hg3
  go_enter Try.func46, Try.ntmps46
  go_upto_region 7 with fail
  refine wp_region_hand (S := (fun Y => Y.cell? ⟨mb, 1, none⟩ = some (.slice (some ⟨g, 0, none⟩) n fc) ∧ Y.cell? ⟨g, m, none⟩ = some (.pointer (some ⟨z.fb, 0, none⟩)) ∧ Y.cell? ⟨x.fb, 18, none⟩ = some (.int .i64 (ka : Int)))) (by kernel_rfl) ?_
  refine takeW (i := 0) rfl (by kernel_rfl) (by kernel_rfl) (by kernel_rfl) (fun _ _ _ h => h) rfl (by rfl) (v := .pointer (some ⟨mb, 0, none⟩)) (fun Y hY => by obtain ⟨y0, y1, y2⟩ := hY; go_simp) hS7 ?_
  simp only [List.setIfInBounds_toArray, List.set_cons_zero, List.set_cons_succ]
  refine takeW (i := 1) rfl (by kernel_rfl) (by kernel_rfl) (by kernel_rfl) (fun _ _ _ h => h) rfl (by rfl) (v := .pointer (some ⟨mb, 0, none⟩)) (fun Y hY => by obtain ⟨y0, y1, y2⟩ := hY; go_simp) hS7 ?_
  simp only [List.setIfInBounds_toArray, List.set_cons_zero, List.set_cons_succ]
  refine takeW (i := 2) rfl (by kernel_rfl) (by kernel_rfl) (by kernel_rfl) (fun _ _ _ h => h) rfl (by rfl) (v := .pointer (some ⟨mb, 1, none⟩)) (fun Y hY => by obtain ⟨y0, y1, y2⟩ := hY; go_simp) hS7 ?_
  simp only [List.setIfInBounds_toArray, List.set_cons_zero, List.set_cons_succ]
  refine takeW (i := 3) rfl (by kernel_rfl) (by kernel_rfl) (by kernel_rfl) (fun _ _ _ h => h) rfl (by rfl) (v := .slice (some ⟨g, 0, none⟩) n fc) (fun Y hY => by obtain ⟨y0, y1, y2⟩ := hY; go_simp) hS7 ?_
  simp only [List.setIfInBounds_toArray, List.set_cons_zero, List.set_cons_succ]
  refine takeW (i := 4) rfl (by kernel_rfl) (by kernel_rfl) (by kernel_rfl) (fun _ _ _ h => h) rfl (by rfl) (v := .int .i64 (n : Int)) (fun Y hY => by obtain ⟨y0, y1, y2⟩ := hY; go_simp) hS7 ?_
  simp only [List.setIfInBounds_toArray, List.set_cons_zero, List.set_cons_succ]
  refine takeW (i := 5) rfl (by kernel_rfl) (by kernel_rfl) (by kernel_rfl) (fun _ _ _ h => h) rfl (by rfl) (v := .int .i64 (m : Int)) (fun Y hY => by obtain ⟨y0, y1, y2⟩ := hY; go_simp; first | (intro h; omega) | (rw [IntKind.wrap_i64]; omega) | skip) hS7 ?_
  simp only [List.setIfInBounds_toArray, List.set_cons_zero, List.set_cons_succ]
  refine takeW (i := 6) rfl (by kernel_rfl) (by kernel_rfl) (by kernel_rfl) (fun _ _ _ h => h) rfl (by rfl) (v := .pointer (some ⟨g, m, none⟩)) (fun Y hY => by obtain ⟨y0, y1, y2⟩ := hY; go_simp; first | (intro h; omega) | (rw [IntKind.wrap_i64]; omega) | skip) hS7 ?_
  simp only [List.setIfInBounds_toArray, List.set_cons_zero, List.set_cons_succ]
  refine takeW (i := 7) rfl (by kernel_rfl) (by kernel_rfl) (by kernel_rfl) (fun _ _ _ h => h) rfl (by rfl) (v := .pointer (some ⟨z.fb, 0, none⟩)) (fun Y hY => by obtain ⟨y0, y1, y2⟩ := hY; go_simp) hS7 ?_
  simp only [List.setIfInBounds_toArray, List.set_cons_zero, List.set_cons_succ]
  refine takeW (i := 8) rfl (by kernel_rfl) (by kernel_rfl) (by kernel_rfl) (fun _ _ _ h => h) rfl (by rfl) (v := .pointer (some ⟨x.fb, 0, none⟩)) (fun Y hY => by obtain ⟨y0, y1, y2⟩ := hY; go_simp) hS7 ?_
  simp only [List.setIfInBounds_toArray, List.set_cons_zero, List.set_cons_succ]
  refine takeW (i := 9) rfl (by kernel_rfl) (by kernel_rfl) (by kernel_rfl) (fun _ _ _ h => h) rfl (by rfl) (v := .pointer (some ⟨x.fb, 0, none⟩)) (fun Y hY => by obtain ⟨y0, y1, y2⟩ := hY; go_simp) hS7 ?_
  simp only [List.setIfInBounds_toArray, List.set_cons_zero, List.set_cons_succ]
  refine takeW (i := 10) rfl (by kernel_rfl) (by kernel_rfl) (by kernel_rfl) (fun _ _ _ h => h) rfl (by rfl) (v := .pointer (some ⟨x.fb, 18, none⟩)) (fun Y hY => by obtain ⟨y0, y1, y2⟩ := hY; go_simp) hS7 ?_
  simp only [List.setIfInBounds_toArray, List.set_cons_zero, List.set_cons_succ]
  refine takeW (i := 11) rfl (by kernel_rfl) (by kernel_rfl) (by kernel_rfl) (fun _ _ _ h => h) rfl (by rfl) (v := .int .i64 (ka : Int)) (fun Y hY => by obtain ⟨y0, y1, y2⟩ := hY; go_simp) hS7 ?_
  simp only [List.setIfInBounds_toArray, List.set_cons_zero, List.set_cons_succ]
  refine takeW (i := 12) rfl (by kernel_rfl) (by kernel_rfl) (by kernel_rfl) (fun _ _ _ h => h) rfl (by rfl) (v := .pointer (some ⟨z.fb, 0, none⟩)) (fun Y hY => by obtain ⟨y0, y1, y2⟩ := hY; go_simp) hS7 ?_
  simp only [List.setIfInBounds_toArray, List.set_cons_zero, List.set_cons_succ]
  refine takeW (i := 13) rfl (by kernel_rfl) (by kernel_rfl) (by kernel_rfl) (fun _ _ _ h => h) rfl (by rfl) (v := .pointer (some ⟨z.fb, 0, none⟩)) (fun Y hY => by obtain ⟨y0, y1, y2⟩ := hY; go_simp) hS7 ?_
  simp only [List.setIfInBounds_toArray, List.set_cons_zero, List.set_cons_succ]
  refine takeW (i := 14) rfl (by kernel_rfl) (by kernel_rfl) (by kernel_rfl) (fun _ _ _ h => h) rfl (by rfl) (v := .pointer (some ⟨z.fb, ka, none⟩)) (fun Y hY => by obtain ⟨y0, y1, y2⟩ := hY; go_simp; first | (intro h; omega) | (rw [IntKind.wrap_i64]; omega) | skip) hS7 ?_
  simp only [List.setIfInBounds_toArray, List.set_cons_zero, List.set_cons_succ]
  refine takeW (i := 15) rfl (by kernel_rfl) (by kernel_rfl) (by kernel_rfl) (fun _ _ _ h => h) rfl (by rfl) (v := .pointer (some ⟨z.fb, ka, none⟩)) (fun Y hY => by obtain ⟨y0, y1, y2⟩ := hY; go_simp) hS7 ?_
  simp only [List.setIfInBounds_toArray, List.set_cons_zero, List.set_cons_succ]
  refine wpAnyH_done (by kernel_rfl) ?_ _
  clear hS7
  go_wp2_with fail
  go_end0
  exact ⟨rfl, HG.out.1, HG.out.2.1, HG.out.2.2⟩
set_option maxHeartbeats 4000000 in
theorem back_reg (base mb g : Nat) (x : FB) (cA : Option Addr) (cn cc n fc : Nat) (at_ : Int) (ov : Value) (en : Int) (op a b c k : Int) (w : World) (hb : Blk w mb 58 (mcells cA cn cc (.slice (some ⟨g, 0, none⟩) (n + 1) fc) at_ ov en false)) (hx : FIn w base x.fb x.sv x.f) (hn0 : 0 < n) (hn : n ≤ 300) (hc : n + 1 ≤ fc) (z : FB) (hz : FIn w base z.fb z.sv z.f) (m ka : Nat) (hm : m + 1 = n) (hp : w.cell? ⟨g, m, none⟩ = some (.pointer (some ⟨z.fb, 0, none⟩))) (hgm : g ≠ mb) (hzx : z.fb ≠ x.fb) (hka : ka < 8) (hans : x.f.ans = (ka : Int)) (kc : Nat) (hkc : kc < 8) (ha : a = (kc : Int)) :
    Calls Try.prog 46 #[.pointer (some ⟨mb, 0, none⟩), .pointer (some ⟨x.fb, 0, none⟩), .agg #[.int .i64 op, .int .i64 a, .int .i64 b, .int .i64 c, .int .i64 k]] w fun y w' => y = .returned (.tuple #[]) ∧ Blk w' mb 58 (mcells cA cn cc (.slice (some ⟨g, 0, none⟩) n fc) x.f.back ov en false) ∧ FIn w' base z.fb z.sv { z.f with r := z.f.r.set ka (x.f.r.getD kc 0) } ∧ Only [mb, z.fb] w w' := by
  subst ha
  obtain ⟨xv, hxv⟩ : ∃ v, x.f.r.getD kc 0 = v := ⟨_, rfl⟩
  rw [hxv]
  obtain ⟨w1, hw1⟩ : ∃ w1, w.alloc (.cells #[.int .i64 op, .int .i64 (kc : Int), .int .i64 b, .int .i64 c, .int .i64 k] 27) = w1 := ⟨_, rfl⟩
  have o1 : Only [] w w1 := by rw [← hw1]; exact (Only.refl [] w).alloc _
  have b1 := hb.only o1 (by simp)
  have hx1 := hx.only o1 (by simp) (by simp)
  have bc1 : Blk w1 w.heap.size 27 #[.int .i64 op, .int .i64 (kc : Int), .int .i64 b, .int .i64 c, .int .i64 k] := by rw [← hw1]; exact Blk.new w _ _
  have hbm : w.heap.size ≠ mb := by have := hb.lt; omega
  have hne : x.fb ≠ mb := Blk.ne_ hx1.2.1 b1 (by decide)
  obtain ⟨w2, hw2⟩ : ∃ w2, w1.setCell ⟨mb, 1, none⟩ (.slice (some ⟨g, 0, none⟩) n fc) = w2 := ⟨_, rfl⟩
  have b2 : Blk w2 mb 58 (mcells cA cn cc (.slice (some ⟨g, 0, none⟩) n fc) at_ ov en false) := by rw [← hw2]; exact b1.set_ 1 _
  have o2 : Only [mb] w1 w2 := by rw [← hw2]; exact (Only.refl [mb] w1).setCell (.inl (by simp)) _
  have f2 := hx1.2.1.only o2 (by simpa using hne)
  obtain ⟨w3, hw3⟩ : ∃ w3, w2.setCell ⟨mb, 2, none⟩ (.int .i64 x.f.back) = w3 := ⟨_, rfl⟩
  have b3 : Blk w3 mb 58 (mcells cA cn cc (.slice (some ⟨g, 0, none⟩) n fc) x.f.back ov en false) := by rw [← hw3]; exact b2.set_ 2 _
  have o3 : Only [mb] w2 w3 := by rw [← hw3]; exact (Only.refl [mb] w2).setCell (.inl (by simp)) _
  have f3 := f2.only o3 (by simpa using hne)
  have p1 : w1.cell? ⟨mb, 1, none⟩ = some (.slice (some ⟨g, 0, none⟩) (n + 1) fc) := b1.cell 1
  have z1 := b1.frozen 1
  have p2 : w2.cell? ⟨mb, 2, none⟩ = some (.int .i64 at_) := b2.cell 2
  have z2 := b2.frozen 2
  have q17 : w2.cell? ⟨x.fb, 17, none⟩ = some (.int .i64 x.f.back) := by rw [f2.cell 17, (Fr.at_end hx.1).1]; rfl
  have q18 : w3.cell? ⟨x.fb, 18, none⟩ = some (.int .i64 x.f.ans) := by rw [f3.cell 18, (Fr.at_end hx.1).2]; rfl
  have HF := Lib.hid (And.intro b3 (((o1.mono (S' := [mb]) (by simp)).trans o2 (fun g hg => .inl hg)).trans o3 (fun g hg => .inl hg)))
  rw [hans] at q18
  have q18' : w3.cell? ⟨x.fb, 18, none⟩ = some (.int .i64 (ka : Int)) := q18
  have o13 : Only [mb] w w3 := ((o1.mono (S' := [mb]) (by simp)).trans o2 (fun g hg => .inl hg)).trans o3 (fun g hg => .inl hg)
  have hzm : z.fb ≠ mb := Blk.ne_ hz.2.1 hb (by decide)
  have hz3 : FIn w3 base z.fb z.sv z.f := hz.only o13 (by simpa using hzm) (fun h hh hm => row_ne hz.2.2.1 mb hb (by decide) (by rw [← List.mem_singleton.1 hm]; exact hh))
  have hg3 : w3.cell? ⟨g, m, none⟩ = some (.pointer (some ⟨z.fb, 0, none⟩)) := o13.cell hp (by simpa using hgm)
  have d1 : decide ((ka : Int) < 0) = false := decide_eq_false (by omega)
  have d2 : decide ((0 : Int) ≤ (kc : Int)) = true := decide_eq_true (by omega)
  have d3 : decide (0 ≤ kc) = true := decide_eq_true (by omega)
  have hS7 : ((fun Y => Y.cell? ⟨mb, 1, none⟩ = some (.slice (some ⟨g, 0, none⟩) n fc) ∧ Y.cell? ⟨g, m, none⟩ = some (.pointer (some ⟨z.fb, 0, none⟩)) ∧ Y.cell? ⟨x.fb, 18, none⟩ = some (.int .i64 (ka : Int))) : World → Prop) w3.drew := ⟨b3.cell 1, hg3, q18'⟩
  have cz : w3.drew.cell? ⟨z.fb, ka, none⟩ = some (.int .i64 (z.f.r.getD ka 0)) := by rw [hz3.2.1.drew.cell ka, Fr.at_r hz3.1 hka]; rfl
  have zz := hz3.2.1.drew.frozen ka
  have hzd : FIn w3.drew base z.fb z.sv z.f := hz3.only (Only.refl [] w3).drew (by simp) (by simp)
  have os : Only [z.fb] w3.drew (w3.drew.setCell ⟨z.fb, ka, none⟩ (.int .i64 0)) := (Only.refl [z.fb] _).setCell (.inl (by simp)) _
  have bc : Blk w3 w.heap.size 27 #[.int .i64 op, .int .i64 (kc : Int), .int .i64 b, .int .i64 c, .int .i64 k] := (bc1.only o2 (by simpa using hbm)).only o3 (by simpa using hbm)
  have qa : (w3.drew.setCell ⟨z.fb, ka, none⟩ (.int .i64 0)).cell? ⟨w.heap.size, 1, none⟩ = some (.int .i64 (kc : Int)) := (bc.drew.only os (by have := hz.2.1.lt; simp; omega)).cell 1
  have qa2 : (w3.setCell ⟨z.fb, ka, none⟩ (.int .i64 0)).cell? ⟨w.heap.size, 1, none⟩ = some (.int .i64 (kc : Int)) := qa
  have hxz : x.fb ∉ [z.fb] := by simpa using fun h => hzx h.symm
  have qx : (w3.setCell ⟨z.fb, ka, none⟩ (.int .i64 0)).drew.drew.cell? ⟨x.fb, kc, none⟩ = some (.int .i64 xv) := by
    have h := ((f3.drew.only os hxz).drew.cell kc)
    rw [Fr.at_r hx.1 hkc, hxv] at h
    exact h
  have hS10 : ((fun Y => Y.cell? ⟨w.heap.size, 1, none⟩ = some (.int .i64 (kc : Int)) ∧ Y.cell? ⟨x.fb, kc, none⟩ = some (.int .i64 xv)) : World → Prop) (w3.setCell ⟨z.fb, ka, none⟩ (.int .i64 0)).drew.drew := ⟨qa2, qx⟩
  have hz4 : FIn (w3.drew.setCell ⟨z.fb, ka, none⟩ (.int .i64 0)) base z.fb z.sv { z.f with r := z.f.r.set ka 0 } := set_in hzd hka 0
  have hz5 : FIn (w3.setCell ⟨z.fb, ka, none⟩ (.int .i64 0)).drew.drew base z.fb z.sv { z.f with r := z.f.r.set ka 0 } := hz4.only (Only.refl [] (w3.drew.setCell ⟨z.fb, ka, none⟩ (.int .i64 0))).drew (by simp) (by simp)
  have hz6 : FIn ((w3.setCell ⟨z.fb, ka, none⟩ (.int .i64 0)).drew.drew.setCell ⟨z.fb, ka, none⟩ (.int .i64 xv)) base z.fb z.sv { z.f with r := z.f.r.set ka xv } := by
    have h := set_in (x := ⟨z.fb, z.sv, { z.f with r := z.f.r.set ka 0 }⟩) hz5 hka xv
    simpa [List.set_set] using h
  have c5 : (w3.setCell ⟨z.fb, ka, none⟩ (.int .i64 0)).drew.drew.cell? ⟨z.fb, ka, none⟩ = some (.int .i64 0) := by
    rw [hz5.2.1.cell ka, Fr.at_r hz5.1 hka]
    simp [List.getD_eq_getElem?_getD, hz3.1.1, hka, iv]
  have zz5 := hz5.2.1.frozen ka
  have os2 : Only [z.fb] w3.drew ((w3.setCell ⟨z.fb, ka, none⟩ (.int .i64 0)).drew.drew.setCell ⟨z.fb, ka, none⟩ (.int .i64 xv)) := os.drew.setCell (.inl (by simp)) _
  have HS11 : Hid (((fun Y => Y.cell? ⟨w.heap.size, 1, none⟩ = some (.int .i64 (kc : Int)) ∧ Y.cell? ⟨x.fb, kc, none⟩ = some (.int .i64 xv)) : World → Prop) ((w3.setCell ⟨z.fb, ka, none⟩ (.int .i64 0)).drew.drew.setCell ⟨z.fb, ka, none⟩ (.int .i64 xv))) := Lib.hid ⟨(bc.drew.only os2 (by have := hz.2.1.lt; simp; omega)).cell 1, by
    have h := (f3.drew.only os2 hxz).cell kc
    rw [Fr.at_r hx.1 hkc, hxv] at h
    exact h⟩
  have HG := Lib.hid (And.intro (b3.drew.only os2 (by simpa using hzm.symm)) (And.intro hz6 ((o13.drew.mono (S' := [mb, z.fb]) (by simp)).trans os2 (fun g hg => .inl (by simp [List.mem_singleton.1 hg])))))
  have hne0 : ((n : Int) == 0) = false := by rw [beq_eq_false_iff_ne]; omega
  clear hz4 hz5 hz6 qx os2 hxz hxv
  clear hb b1 b2 b3 hx hx1 f2 f3 o1 o2 o3 hne bc1 bc hbm os hzd hz hz3 o13 hzm hp hg3
  go_enter Try.func46, Try.ntmps46
  go_upto_region 7 with fail
  refine wp_region_hand (S := (fun Y => Y.cell? ⟨mb, 1, none⟩ = some (.slice (some ⟨g, 0, none⟩) n fc) ∧ Y.cell? ⟨g, m, none⟩ = some (.pointer (some ⟨z.fb, 0, none⟩)) ∧ Y.cell? ⟨x.fb, 18, none⟩ = some (.int .i64 (ka : Int)))) (by kernel_rfl) ?_
  refine takeW (i := 0) rfl (by kernel_rfl) (by kernel_rfl) (by kernel_rfl) (fun _ _ _ h => h) rfl (by rfl) (v := .pointer (some ⟨mb, 0, none⟩)) (fun Y hY => by obtain ⟨y0, y1, y2⟩ := hY; go_simp) hS7 ?_
  simp only [List.setIfInBounds_toArray, List.set_cons_zero, List.set_cons_succ]
  refine takeW (i := 1) rfl (by kernel_rfl) (by kernel_rfl) (by kernel_rfl) (fun _ _ _ h => h) rfl (by rfl) (v := .pointer (some ⟨mb, 0, none⟩)) (fun Y hY => by obtain ⟨y0, y1, y2⟩ := hY; go_simp) hS7 ?_
  simp only [List.setIfInBounds_toArray, List.set_cons_zero, List.set_cons_succ]
  refine takeW (i := 2) rfl (by kernel_rfl) (by kernel_rfl) (by kernel_rfl) (fun _ _ _ h => h) rfl (by rfl) (v := .pointer (some ⟨mb, 1, none⟩)) (fun Y hY => by obtain ⟨y0, y1, y2⟩ := hY; go_simp) hS7 ?_
  simp only [List.setIfInBounds_toArray, List.set_cons_zero, List.set_cons_succ]
  refine takeW (i := 3) rfl (by kernel_rfl) (by kernel_rfl) (by kernel_rfl) (fun _ _ _ h => h) rfl (by rfl) (v := .slice (some ⟨g, 0, none⟩) n fc) (fun Y hY => by obtain ⟨y0, y1, y2⟩ := hY; go_simp) hS7 ?_
  simp only [List.setIfInBounds_toArray, List.set_cons_zero, List.set_cons_succ]
  refine takeW (i := 4) rfl (by kernel_rfl) (by kernel_rfl) (by kernel_rfl) (fun _ _ _ h => h) rfl (by rfl) (v := .int .i64 (n : Int)) (fun Y hY => by obtain ⟨y0, y1, y2⟩ := hY; go_simp) hS7 ?_
  simp only [List.setIfInBounds_toArray, List.set_cons_zero, List.set_cons_succ]
  refine takeW (i := 5) rfl (by kernel_rfl) (by kernel_rfl) (by kernel_rfl) (fun _ _ _ h => h) rfl (by rfl) (v := .int .i64 (m : Int)) (fun Y hY => by obtain ⟨y0, y1, y2⟩ := hY; go_simp; first | (intro h; omega) | (rw [IntKind.wrap_i64]; omega) | skip) hS7 ?_
  simp only [List.setIfInBounds_toArray, List.set_cons_zero, List.set_cons_succ]
  refine takeW (i := 6) rfl (by kernel_rfl) (by kernel_rfl) (by kernel_rfl) (fun _ _ _ h => h) rfl (by rfl) (v := .pointer (some ⟨g, m, none⟩)) (fun Y hY => by obtain ⟨y0, y1, y2⟩ := hY; go_simp; first | (intro h; omega) | (rw [IntKind.wrap_i64]; omega) | skip) hS7 ?_
  simp only [List.setIfInBounds_toArray, List.set_cons_zero, List.set_cons_succ]
  refine takeW (i := 7) rfl (by kernel_rfl) (by kernel_rfl) (by kernel_rfl) (fun _ _ _ h => h) rfl (by rfl) (v := .pointer (some ⟨z.fb, 0, none⟩)) (fun Y hY => by obtain ⟨y0, y1, y2⟩ := hY; go_simp) hS7 ?_
  simp only [List.setIfInBounds_toArray, List.set_cons_zero, List.set_cons_succ]
  refine takeW (i := 8) rfl (by kernel_rfl) (by kernel_rfl) (by kernel_rfl) (fun _ _ _ h => h) rfl (by rfl) (v := .pointer (some ⟨x.fb, 0, none⟩)) (fun Y hY => by obtain ⟨y0, y1, y2⟩ := hY; go_simp) hS7 ?_
  simp only [List.setIfInBounds_toArray, List.set_cons_zero, List.set_cons_succ]
  refine takeW (i := 9) rfl (by kernel_rfl) (by kernel_rfl) (by kernel_rfl) (fun _ _ _ h => h) rfl (by rfl) (v := .pointer (some ⟨x.fb, 0, none⟩)) (fun Y hY => by obtain ⟨y0, y1, y2⟩ := hY; go_simp) hS7 ?_
  simp only [List.setIfInBounds_toArray, List.set_cons_zero, List.set_cons_succ]
  refine takeW (i := 10) rfl (by kernel_rfl) (by kernel_rfl) (by kernel_rfl) (fun _ _ _ h => h) rfl (by rfl) (v := .pointer (some ⟨x.fb, 18, none⟩)) (fun Y hY => by obtain ⟨y0, y1, y2⟩ := hY; go_simp) hS7 ?_
  simp only [List.setIfInBounds_toArray, List.set_cons_zero, List.set_cons_succ]
  refine takeW (i := 11) rfl (by kernel_rfl) (by kernel_rfl) (by kernel_rfl) (fun _ _ _ h => h) rfl (by rfl) (v := .int .i64 (ka : Int)) (fun Y hY => by obtain ⟨y0, y1, y2⟩ := hY; go_simp) hS7 ?_
  simp only [List.setIfInBounds_toArray, List.set_cons_zero, List.set_cons_succ]
  refine takeW (i := 12) rfl (by kernel_rfl) (by kernel_rfl) (by kernel_rfl) (fun _ _ _ h => h) rfl (by rfl) (v := .pointer (some ⟨z.fb, 0, none⟩)) (fun Y hY => by obtain ⟨y0, y1, y2⟩ := hY; go_simp) hS7 ?_
  simp only [List.setIfInBounds_toArray, List.set_cons_zero, List.set_cons_succ]
  refine takeW (i := 13) rfl (by kernel_rfl) (by kernel_rfl) (by kernel_rfl) (fun _ _ _ h => h) rfl (by rfl) (v := .pointer (some ⟨z.fb, 0, none⟩)) (fun Y hY => by obtain ⟨y0, y1, y2⟩ := hY; go_simp) hS7 ?_
  simp only [List.setIfInBounds_toArray, List.set_cons_zero, List.set_cons_succ]
  refine takeW (i := 14) rfl (by kernel_rfl) (by kernel_rfl) (by kernel_rfl) (fun _ _ _ h => h) rfl (by rfl) (v := .pointer (some ⟨z.fb, ka, none⟩)) (fun Y hY => by obtain ⟨y0, y1, y2⟩ := hY; go_simp; first | (intro h; omega) | (rw [IntKind.wrap_i64]; omega) | skip) hS7 ?_
  simp only [List.setIfInBounds_toArray, List.set_cons_zero, List.set_cons_succ]
  refine takeW (i := 15) rfl (by kernel_rfl) (by kernel_rfl) (by kernel_rfl) (fun _ _ _ h => h) rfl (by rfl) (v := .pointer (some ⟨z.fb, ka, none⟩)) (fun Y hY => by obtain ⟨y0, y1, y2⟩ := hY; go_simp) hS7 ?_
  simp only [List.setIfInBounds_toArray, List.set_cons_zero, List.set_cons_succ]
  refine wpAnyH_done (by kernel_rfl) ?_ _
  clear hS7
  go_upto_region 10 with fail
  refine wp_region_hand (S := (fun Y => Y.cell? ⟨w.heap.size, 1, none⟩ = some (.int .i64 (kc : Int)) ∧ Y.cell? ⟨x.fb, kc, none⟩ = some (.int .i64 xv))) (by kernel_rfl) ?_
  refine takeW (i := 0) rfl (by kernel_rfl) (by kernel_rfl) (by kernel_rfl) (fun _ _ _ h => h) rfl (by rfl) (v := .pointer (some ⟨z.fb, ka, none⟩)) (fun Y hY => by obtain ⟨y0, y1⟩ := hY; go_simp) hS10 ?_
  simp only [List.setIfInBounds_toArray, List.set_cons_zero, List.set_cons_succ]
  refine takeW (i := 1) rfl (by kernel_rfl) (by kernel_rfl) (by kernel_rfl) (fun _ _ _ h => h) rfl (by rfl) (v := .pointer (some ⟨x.fb, 0, none⟩)) (fun Y hY => by obtain ⟨y0, y1⟩ := hY; go_simp) hS10 ?_
  simp only [List.setIfInBounds_toArray, List.set_cons_zero, List.set_cons_succ]
  refine takeW (i := 2) rfl (by kernel_rfl) (by kernel_rfl) (by kernel_rfl) (fun _ _ _ h => h) rfl (by rfl) (v := .pointer (some ⟨w.heap.size, 1, none⟩)) (fun Y hY => by obtain ⟨y0, y1⟩ := hY; go_simp) hS10 ?_
  simp only [List.setIfInBounds_toArray, List.set_cons_zero, List.set_cons_succ]
  refine takeW (i := 3) rfl (by kernel_rfl) (by kernel_rfl) (by kernel_rfl) (fun _ _ _ h => h) rfl (by rfl) (v := .int .i64 (kc : Int)) (fun Y hY => by obtain ⟨y0, y1⟩ := hY; go_simp) hS10 ?_
  simp only [List.setIfInBounds_toArray, List.set_cons_zero, List.set_cons_succ]
  refine takeW (i := 4) rfl (by kernel_rfl) (by kernel_rfl) (by kernel_rfl) (fun _ _ _ h => h) rfl (by rfl) (v := .pointer (some ⟨x.fb, 0, none⟩)) (fun Y hY => by obtain ⟨y0, y1⟩ := hY; go_simp) hS10 ?_
  simp only [List.setIfInBounds_toArray, List.set_cons_zero, List.set_cons_succ]
  refine takeW (i := 5) rfl (by kernel_rfl) (by kernel_rfl) (by kernel_rfl) (fun _ _ _ h => h) rfl (by rfl) (v := .pointer (some ⟨x.fb, 0, none⟩)) (fun Y hY => by obtain ⟨y0, y1⟩ := hY; go_simp) hS10 ?_
  simp only [List.setIfInBounds_toArray, List.set_cons_zero, List.set_cons_succ]
  refine takeW (i := 6) rfl (by kernel_rfl) (by kernel_rfl) (by kernel_rfl) (fun _ _ _ h => h) rfl (by rfl) (v := .pointer (some ⟨x.fb, kc, none⟩)) (fun Y hY => by obtain ⟨y0, y1⟩ := hY; go_simp; first | (intro h; omega) | (rw [IntKind.wrap_i64]; omega) | skip) hS10 ?_
  simp only [List.setIfInBounds_toArray, List.set_cons_zero, List.set_cons_succ]
  refine takeW (i := 7) rfl (by kernel_rfl) (by kernel_rfl) (by kernel_rfl) (fun _ _ _ h => h) rfl (by rfl) (v := .int .i64 xv) (fun Y hY => by obtain ⟨y0, y1⟩ := hY; go_simp) hS10 ?_
  simp only [List.setIfInBounds_toArray, List.set_cons_zero, List.set_cons_succ]
  refine takeW (i := 8) rfl (by kernel_rfl) (by kernel_rfl) (by kernel_rfl) (fun _ _ _ h => h) rfl (by rfl) (v := .pointer (some ⟨z.fb, ka, none⟩)) (fun Y hY => by obtain ⟨y0, y1⟩ := hY; go_simp) hS10 ?_
  simp only [List.setIfInBounds_toArray, List.set_cons_zero, List.set_cons_succ]
  refine oneS (i := 9) (v := undef) (w' := (w3.setCell ⟨z.fb, ka, none⟩ (.int .i64 0)).drew.drew.setCell ⟨z.fb, ka, none⟩ (.int .i64 xv)) rfl (by kernel_rfl) rfl (by rfl) (by first | (left; go_simp; done) | (right; go_simp; done)) HS11.out ?_
  refine wpAnyH_done (by kernel_rfl) ?_ _
  clear hS10
  go_wp2_with fail
  go_end0
  exact ⟨rfl, HG.out.1, HG.out.2.1, HG.out.2.2⟩
end Go.Proofs.Ytkdacemachejoaa.Vm
