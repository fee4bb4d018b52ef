/- rightExpr of the known expressions. PRINTED by wip/gen_trright2.py. -/
import Derived.Test.YtmjkohlhbboapaaTrRight
import Derived.Test.YtmjkohlhbboapaaRegOne
namespace Go.Proofs.Ytmjkohlhbboapaa.Tree
open Go.RowKit Go.Shelf
set_option linter.unusedVariables false
set_option maxRecDepth 100000
def e0 : XT := .mk 4 0 ⟨#[102]⟩ ⟨#[]⟩ none 0 []
def e1 : XT := .mk 4 0 ⟨#[71]⟩ ⟨#[113]⟩ none 0 []
def ex (g : Nat) : XT := .mk 10 0 ⟨#[]⟩ ⟨#[]⟩ (some ⟨g, 0, none⟩) 2 [e0, e1]
theorem parts_ten (w : World) : Calls Try.prog 14 #[.int .i64 10] w fun e w' => e = .returned (.int .i64 2) ∧ w' = w := by
  go_enter Try.func14, Try.ntmps14
  go_wp2_with fail
  go_ret
  exact ⟨rfl, rfl⟩
theorem plain_none (w : World) : Calls Try.prog 48 #[.string ⟨#[]⟩] w fun e w' => e = .returned (.bool false) ∧ w' = w := by
  go_enter Try.func48, Try.ntmps48
  go_wp2_with fail
  go_ret
  exact ⟨rfl, rfl⟩
theorem name_none (w : World) : Calls Try.prog 30 #[.string ⟨#[]⟩] w fun e w' => e = .returned (.bool false) ∧ Only [] w w' := by
  have HC := Lib.hid (plain_none w)
  have HO := Lib.hid (Only.refl [] w)
  go_enter Try.func30, Try.ntmps30
  go_wp2_with fail
  refine HC.out.mono ?_
  rintro e wn ⟨rfl, hwn⟩
  have hwn := hwn.symm
  subst hwn
  go_wp2_with fail
  go_ret
  exact ⟨rfl, HO.out⟩
def noRe : Value := .func (.func 87) #[] #[]
theorem noExp (w : World) : Calls Try.prog 86 #[.slice none 0 0, .func (.func 87) #[] #[]] w fun e w' => e = .returned (.bool false) ∧ Only [] w w' :=
  conX none 0 0 0 [] w Recs.nil_ (by simp [maxLen]) (fun _ _ x hx => by cases hx)
set_option maxHeartbeats 8000000 in
theorem right_e0 (w : World) : Calls Try.prog 83 #[.agg #[.int .i64 4, .int .i64 0, .string ⟨#[102]⟩, .string ⟨#[]⟩, .slice none 0 0]] w fun e w' => e = .returned (.bool true) ∧ Only [] w w' := by
  obtain ⟨w1, hw1⟩ : ∃ w1, w.alloc (.cells #[.int .i64 4, .int .i64 0, .string ⟨#[102]⟩, .string ⟨#[]⟩, .slice none 0 0] 28) = w1 := ⟨_, rfl⟩
  have b1 : Blk w1 w.heap.size 28 #[.int .i64 4, .int .i64 0, .string ⟨#[102]⟩, .string ⟨#[]⟩, .slice none 0 0] := by rw [← hw1]; exact Blk.new w _ _
  have o1 : Only [] w w1 := by rw [← hw1]; exact (Only.refl [] w).alloc _
  have HCO := Lib.hid (noExp w1)
  have p4 := b1.cell 4
  have HB1 := Lib.hid b1
  have HO1 := Lib.hid o1
  clear b1 o1
  go_enter Try.func83, Try.ntmps83
  go_wp2_with fail
  refine HCO.out.mono ?_
  rintro e w2 ⟨rfl, ho2⟩
  have HO2 := Lib.hid (HO1.out.trans ho2 (by simp))
  have HB2 := Lib.hid (HB1.out.only ho2 (by simp))
  clear ho2
  have hS : ((fun Y => Y.cell? ⟨w.heap.size, 0, none⟩ = some (.int .i64 4) ∧ Y.cell? ⟨w.heap.size, 1, none⟩ = some (.int .i64 0) ∧ Y.cell? ⟨w.heap.size, 2, none⟩ = some (.string ⟨#[102]⟩) ∧ Y.cell? ⟨w.heap.size, 3, none⟩ = some (.string ⟨#[]⟩) ∧ Y.cell? ⟨w.heap.size, 4, none⟩ = some (.slice none 0 0)) : World → Prop) w2.drew := ⟨HB2.out.drew.cell 0, HB2.out.drew.cell 1, HB2.out.drew.cell 2, HB2.out.drew.cell 3, HB2.out.drew.cell 4⟩
  go_upto_region 3 with fail
  refine wp_region_hand (S := (fun Y => Y.cell? ⟨w.heap.size, 0, none⟩ = some (.int .i64 4) ∧ Y.cell? ⟨w.heap.size, 1, none⟩ = some (.int .i64 0) ∧ Y.cell? ⟨w.heap.size, 2, none⟩ = some (.string ⟨#[102]⟩) ∧ Y.cell? ⟨w.heap.size, 3, none⟩ = some (.string ⟨#[]⟩) ∧ Y.cell? ⟨w.heap.size, 4, none⟩ = some (.slice none 0 0))) (by kernel_rfl) ?_
  refine takeW (i := 0) rfl (by kernel_rfl) (by kernel_rfl) (by kernel_rfl) (fun _ _ _ h => h) rfl (by rfl) (v := .pointer (some ⟨w.heap.size, 2, none⟩)) (fun Y hY => by obtain ⟨y0, y1, y2, y3, y4⟩ := hY; go_simp) hS ?_
  simp only [List.setIfInBounds_toArray, List.set_cons_zero, List.set_cons_succ]
  refine takeW (i := 1) rfl (by kernel_rfl) (by kernel_rfl) (by kernel_rfl) (fun _ _ _ h => h) rfl (by rfl) (v := .string ⟨#[102]⟩) (fun Y hY => by obtain ⟨y0, y1, y2, y3, y4⟩ := hY; go_simp) hS ?_
  simp only [List.setIfInBounds_toArray, List.set_cons_zero, List.set_cons_succ]
  refine takeW (i := 3) rfl (by kernel_rfl) (by kernel_rfl) (by kernel_rfl) (fun _ _ _ h => h) rfl (by rfl) (v := .pointer (some ⟨w.heap.size, 2, none⟩)) (fun Y hY => by obtain ⟨y0, y1, y2, y3, y4⟩ := hY; go_simp) hS ?_
  simp only [List.setIfInBounds_toArray, List.set_cons_zero, List.set_cons_succ]
  refine takeW (i := 4) rfl (by kernel_rfl) (by kernel_rfl) (by kernel_rfl) (fun _ _ _ h => h) rfl (by rfl) (v := .string ⟨#[102]⟩) (fun Y hY => by obtain ⟨y0, y1, y2, y3, y4⟩ := hY; go_simp) hS ?_
  simp only [List.setIfInBounds_toArray, List.set_cons_zero, List.set_cons_succ]
  refine takeW (i := 5) rfl (by kernel_rfl) (by kernel_rfl) (by kernel_rfl) (fun _ _ _ h => h) rfl (by rfl) (v := .bool false) (fun Y hY => by obtain ⟨y0, y1, y2, y3, y4⟩ := hY; go_simp) hS ?_
  simp only [List.setIfInBounds_toArray, List.set_cons_zero, List.set_cons_succ]
  refine callW (i := 2) rfl (by kernel_rfl) rfl (by rfl) ?_ ((name_102 w2.drew)) ?_
  · go_simp
  rintro x w3 ⟨rfl, ho3⟩
  have HO3 := Lib.hid (HO2.out.drew.trans ho3 (by simp))
  have b3 := (HB2.out.drew).only ho3 (by simp)
  have HB3 := Lib.hid b3
  have hS3 : ((fun Y => Y.cell? ⟨w.heap.size, 0, none⟩ = some (.int .i64 4) ∧ Y.cell? ⟨w.heap.size, 1, none⟩ = some (.int .i64 0) ∧ Y.cell? ⟨w.heap.size, 2, none⟩ = some (.string ⟨#[102]⟩) ∧ Y.cell? ⟨w.heap.size, 3, none⟩ = some (.string ⟨#[]⟩) ∧ Y.cell? ⟨w.heap.size, 4, none⟩ = some (.slice none 0 0)) : World → Prop) w3 := ⟨b3.cell 0, b3.cell 1, b3.cell 2, b3.cell 3, b3.cell 4⟩
  clear ho3
  refine ⟨_, rfl, hS3, ?_⟩
  simp only [List.setIfInBounds_toArray, List.set_cons_zero, List.set_cons_succ]
  refine takeW (i := 6) rfl (by kernel_rfl) (by kernel_rfl) (by kernel_rfl) (fun _ _ _ h => h) rfl (by rfl) (v := .bool false) (fun Y hY => by obtain ⟨y0, y1, y2, y3, y4⟩ := hY; go_simp) hS3 ?_
  simp only [List.setIfInBounds_toArray, List.set_cons_zero, List.set_cons_succ]
  refine passW (i := 7) rfl (by kernel_rfl) (by kernel_rfl) (by kernel_rfl) (fun _ _ _ h => h) rfl (by rfl) hS3 ?_
  simp only [List.setIfInBounds_toArray, List.set_cons_zero, List.set_cons_succ]
  refine passW (i := 8) rfl (by kernel_rfl) (by kernel_rfl) (by kernel_rfl) (fun _ _ _ h => h) rfl (by rfl) hS3 ?_
  simp only [List.setIfInBounds_toArray, List.set_cons_zero, List.set_cons_succ]
  refine passW (i := 9) rfl (by kernel_rfl) (by kernel_rfl) (by kernel_rfl) (fun _ _ _ h => h) rfl (by rfl) hS3 ?_
  simp only [List.setIfInBounds_toArray, List.set_cons_zero, List.set_cons_succ]
  refine takeW (i := 10) rfl (by kernel_rfl) (by kernel_rfl) (by kernel_rfl) (fun _ _ _ h => h) rfl (by rfl) (v := .bool false) (fun Y hY => by obtain ⟨y0, y1, y2, y3, y4⟩ := hY; go_simp) hS3 ?_
  simp only [List.setIfInBounds_toArray, List.set_cons_zero, List.set_cons_succ]
  refine takeW (i := 11) rfl (by kernel_rfl) (by kernel_rfl) (by kernel_rfl) (fun _ _ _ h => h) rfl (by rfl) (v := .bool true) (fun Y hY => by obtain ⟨y0, y1, y2, y3, y4⟩ := hY; go_simp) hS3 ?_
  simp only [List.setIfInBounds_toArray, List.set_cons_zero, List.set_cons_succ]
  refine takeW (i := 12) rfl (by kernel_rfl) (by kernel_rfl) (by kernel_rfl) (fun _ _ _ h => h) rfl (by rfl) (v := .bool false) (fun Y hY => by obtain ⟨y0, y1, y2, y3, y4⟩ := hY; go_simp) hS3 ?_
  simp only [List.setIfInBounds_toArray, List.set_cons_zero, List.set_cons_succ]
  refine wpAnyH_done (by kernel_rfl) ?_ _
  obtain ⟨r0, r1, r2, r3, r4⟩ := hS3
  clear hS
  go_wp2_with fail
  go_ret
  exact ⟨rfl, HO3.out⟩
set_option maxHeartbeats 8000000 in
theorem right_e1 (w : World) : Calls Try.prog 83 #[.agg #[.int .i64 4, .int .i64 0, .string ⟨#[71]⟩, .string ⟨#[113]⟩, .slice none 0 0]] w fun e w' => e = .returned (.bool true) ∧ Only [] w w' := by
  obtain ⟨w1, hw1⟩ : ∃ w1, w.alloc (.cells #[.int .i64 4, .int .i64 0, .string ⟨#[71]⟩, .string ⟨#[113]⟩, .slice none 0 0] 28) = w1 := ⟨_, rfl⟩
  have b1 : Blk w1 w.heap.size 28 #[.int .i64 4, .int .i64 0, .string ⟨#[71]⟩, .string ⟨#[113]⟩, .slice none 0 0] := by rw [← hw1]; exact Blk.new w _ _
  have o1 : Only [] w w1 := by rw [← hw1]; exact (Only.refl [] w).alloc _
  have HCO := Lib.hid (noExp w1)
  have p4 := b1.cell 4
  have HB1 := Lib.hid b1
  have HO1 := Lib.hid o1
  clear b1 o1
  go_enter Try.func83, Try.ntmps83
  go_wp2_with fail
  refine HCO.out.mono ?_
  rintro e w2 ⟨rfl, ho2⟩
  have HO2 := Lib.hid (HO1.out.trans ho2 (by simp))
  have HB2 := Lib.hid (HB1.out.only ho2 (by simp))
  clear ho2
  have hS : ((fun Y => Y.cell? ⟨w.heap.size, 0, none⟩ = some (.int .i64 4) ∧ Y.cell? ⟨w.heap.size, 1, none⟩ = some (.int .i64 0) ∧ Y.cell? ⟨w.heap.size, 2, none⟩ = some (.string ⟨#[71]⟩) ∧ Y.cell? ⟨w.heap.size, 3, none⟩ = some (.string ⟨#[113]⟩) ∧ Y.cell? ⟨w.heap.size, 4, none⟩ = some (.slice none 0 0)) : World → Prop) w2.drew := ⟨HB2.out.drew.cell 0, HB2.out.drew.cell 1, HB2.out.drew.cell 2, HB2.out.drew.cell 3, HB2.out.drew.cell 4⟩
  go_upto_region 3 with fail
  refine wp_region_hand (S := (fun Y => Y.cell? ⟨w.heap.size, 0, none⟩ = some (.int .i64 4) ∧ Y.cell? ⟨w.heap.size, 1, none⟩ = some (.int .i64 0) ∧ Y.cell? ⟨w.heap.size, 2, none⟩ = some (.string ⟨#[71]⟩) ∧ Y.cell? ⟨w.heap.size, 3, none⟩ = some (.string ⟨#[113]⟩) ∧ Y.cell? ⟨w.heap.size, 4, none⟩ = some (.slice none 0 0))) (by kernel_rfl) ?_
  refine takeW (i := 0) rfl (by kernel_rfl) (by kernel_rfl) (by kernel_rfl) (fun _ _ _ h => h) rfl (by rfl) (v := .pointer (some ⟨w.heap.size, 2, none⟩)) (fun Y hY => by obtain ⟨y0, y1, y2, y3, y4⟩ := hY; go_simp) hS ?_
  simp only [List.setIfInBounds_toArray, List.set_cons_zero, List.set_cons_succ]
  refine takeW (i := 1) rfl (by kernel_rfl) (by kernel_rfl) (by kernel_rfl) (fun _ _ _ h => h) rfl (by rfl) (v := .string ⟨#[71]⟩) (fun Y hY => by obtain ⟨y0, y1, y2, y3, y4⟩ := hY; go_simp) hS ?_
  simp only [List.setIfInBounds_toArray, List.set_cons_zero, List.set_cons_succ]
  refine takeW (i := 3) rfl (by kernel_rfl) (by kernel_rfl) (by kernel_rfl) (fun _ _ _ h => h) rfl (by rfl) (v := .pointer (some ⟨w.heap.size, 2, none⟩)) (fun Y hY => by obtain ⟨y0, y1, y2, y3, y4⟩ := hY; go_simp) hS ?_
  simp only [List.setIfInBounds_toArray, List.set_cons_zero, List.set_cons_succ]
  refine takeW (i := 4) rfl (by kernel_rfl) (by kernel_rfl) (by kernel_rfl) (fun _ _ _ h => h) rfl (by rfl) (v := .string ⟨#[71]⟩) (fun Y hY => by obtain ⟨y0, y1, y2, y3, y4⟩ := hY; go_simp) hS ?_
  simp only [List.setIfInBounds_toArray, List.set_cons_zero, List.set_cons_succ]
  refine takeW (i := 5) rfl (by kernel_rfl) (by kernel_rfl) (by kernel_rfl) (fun _ _ _ h => h) rfl (by rfl) (v := .bool false) (fun Y hY => by obtain ⟨y0, y1, y2, y3, y4⟩ := hY; go_simp) hS ?_
  simp only [List.setIfInBounds_toArray, List.set_cons_zero, List.set_cons_succ]
  refine callW (i := 2) rfl (by kernel_rfl) rfl (by rfl) ?_ ((name_71 w2.drew)) ?_
  · go_simp
  rintro x w3 ⟨rfl, ho3⟩
  have HO3 := Lib.hid (HO2.out.drew.trans ho3 (by simp))
  have b3 := (HB2.out.drew).only ho3 (by simp)
  have HB3 := Lib.hid b3
  have hS3 : ((fun Y => Y.cell? ⟨w.heap.size, 0, none⟩ = some (.int .i64 4) ∧ Y.cell? ⟨w.heap.size, 1, none⟩ = some (.int .i64 0) ∧ Y.cell? ⟨w.heap.size, 2, none⟩ = some (.string ⟨#[71]⟩) ∧ Y.cell? ⟨w.heap.size, 3, none⟩ = some (.string ⟨#[113]⟩) ∧ Y.cell? ⟨w.heap.size, 4, none⟩ = some (.slice none 0 0)) : World → Prop) w3 := ⟨b3.cell 0, b3.cell 1, b3.cell 2, b3.cell 3, b3.cell 4⟩
  clear ho3
  refine ⟨_, rfl, hS3, ?_⟩
  simp only [List.setIfInBounds_toArray, List.set_cons_zero, List.set_cons_succ]
  refine takeW (i := 6) rfl (by kernel_rfl) (by kernel_rfl) (by kernel_rfl) (fun _ _ _ h => h) rfl (by rfl) (v := .bool false) (fun Y hY => by obtain ⟨y0, y1, y2, y3, y4⟩ := hY; go_simp) hS3 ?_
  simp only [List.setIfInBounds_toArray, List.set_cons_zero, List.set_cons_succ]
  refine passW (i := 7) rfl (by kernel_rfl) (by kernel_rfl) (by kernel_rfl) (fun _ _ _ h => h) rfl (by rfl) hS3 ?_
  simp only [List.setIfInBounds_toArray, List.set_cons_zero, List.set_cons_succ]
  refine passW (i := 8) rfl (by kernel_rfl) (by kernel_rfl) (by kernel_rfl) (fun _ _ _ h => h) rfl (by rfl) hS3 ?_
  simp only [List.setIfInBounds_toArray, List.set_cons_zero, List.set_cons_succ]
  refine passW (i := 9) rfl (by kernel_rfl) (by kernel_rfl) (by kernel_rfl) (fun _ _ _ h => h) rfl (by rfl) hS3 ?_
  simp only [List.setIfInBounds_toArray, List.set_cons_zero, List.set_cons_succ]
  refine takeW (i := 10) rfl (by kernel_rfl) (by kernel_rfl) (by kernel_rfl) (fun _ _ _ h => h) rfl (by rfl) (v := .bool false) (fun Y hY => by obtain ⟨y0, y1, y2, y3, y4⟩ := hY; go_simp) hS3 ?_
  simp only [List.setIfInBounds_toArray, List.set_cons_zero, List.set_cons_succ]
  refine takeW (i := 11) rfl (by kernel_rfl) (by kernel_rfl) (by kernel_rfl) (fun _ _ _ h => h) rfl (by rfl) (v := .bool true) (fun Y hY => by obtain ⟨y0, y1, y2, y3, y4⟩ := hY; go_simp) hS3 ?_
  simp only [List.setIfInBounds_toArray, List.set_cons_zero, List.set_cons_succ]
  refine takeW (i := 12) rfl (by kernel_rfl) (by kernel_rfl) (by kernel_rfl) (fun _ _ _ h => h) rfl (by rfl) (v := .bool false) (fun Y hY => by obtain ⟨y0, y1, y2, y3, y4⟩ := hY; go_simp) hS3 ?_
  simp only [List.setIfInBounds_toArray, List.set_cons_zero, List.set_cons_succ]
  refine wpAnyH_done (by kernel_rfl) ?_ _
  obtain ⟨r0, r1, r2, r3, r4⟩ := hS3
  clear hS
  have HN2 := Lib.hid (name_113 w3)
  go_wp2_with fail
  refine HN2.out.mono ?_
  rintro e w4 ⟨rfl, ho4⟩
  have HO4 := Lib.hid (HO3.out.trans ho4 (by simp))
  have b4 := HB3.out.only ho4 (by simp)
  have s4 := b4.cell 4
  clear ho4 b4
  go_wp2_with fail
  go_ret
  exact ⟨rfl, HO4.out⟩
theorem not_e0 (w : World) : Calls Try.prog 87 #[.agg #[.int .i64 4, .int .i64 0, .string ⟨#[102]⟩, .string ⟨#[]⟩, .slice none 0 0]] w fun e w' => e = .returned (.bool false) ∧ Only [] w w' := by
  obtain ⟨w1, hw1⟩ : ∃ w1, w.alloc (.cells #[.int .i64 4, .int .i64 0, .string ⟨#[102]⟩, .string ⟨#[]⟩, .slice none 0 0] 28) = w1 := ⟨_, rfl⟩
  have b1 : Blk w1 w.heap.size 28 #[.int .i64 4, .int .i64 0, .string ⟨#[102]⟩, .string ⟨#[]⟩, .slice none 0 0] := by rw [← hw1]; exact Blk.new w _ _
  have o1 : Only [] w w1 := by rw [← hw1]; exact (Only.refl [] w).alloc _
  have p0 := b1.cell 0
  have p1 := b1.cell 1
  have p2 := b1.cell 2
  have p3 := b1.cell 3
  have p4 := b1.cell 4
  have HC := Lib.hid (right_e0 w1)
  have HO1 := Lib.hid o1
  clear b1 o1
  go_enter Try.func87, Try.ntmps87
  go_wp2_with fail
  refine HC.out.mono ?_
  rintro e w2 ⟨rfl, ho2⟩
  have HO2 := Lib.hid (HO1.out.trans ho2 (by simp))
  clear ho2
  go_wp2_with fail
  go_ret
  exact ⟨rfl, HO2.out⟩
theorem not_e1 (w : World) : Calls Try.prog 87 #[.agg #[.int .i64 4, .int .i64 0, .string ⟨#[71]⟩, .string ⟨#[113]⟩, .slice none 0 0]] w fun e w' => e = .returned (.bool false) ∧ Only [] w w' := by
  obtain ⟨w1, hw1⟩ : ∃ w1, w.alloc (.cells #[.int .i64 4, .int .i64 0, .string ⟨#[71]⟩, .string ⟨#[113]⟩, .slice none 0 0] 28) = w1 := ⟨_, rfl⟩
  have b1 : Blk w1 w.heap.size 28 #[.int .i64 4, .int .i64 0, .string ⟨#[71]⟩, .string ⟨#[113]⟩, .slice none 0 0] := by rw [← hw1]; exact Blk.new w _ _
  have o1 : Only [] w w1 := by rw [← hw1]; exact (Only.refl [] w).alloc _
  have p0 := b1.cell 0
  have p1 := b1.cell 1
  have p2 := b1.cell 2
  have p3 := b1.cell 3
  have p4 := b1.cell 4
  have HC := Lib.hid (right_e1 w1)
  have HO1 := Lib.hid o1
  clear b1 o1
  go_enter Try.func87, Try.ntmps87
  go_wp2_with fail
  refine HC.out.mono ?_
  rintro e w2 ⟨rfl, ho2⟩
  have HO2 := Lib.hid (HO1.out.trans ho2 (by simp))
  clear ho2
  go_wp2_with fail
  go_ret
  exact ⟨rfl, HO2.out⟩
set_option maxHeartbeats 8000000 in
theorem right_ex (g : Nat) (w : World) (hx : XT.In w w.heap.size 2 (ex g)) : Calls Try.prog 83 #[.agg #[.int .i64 10, .int .i64 0, .string ⟨#[]⟩, .string ⟨#[]⟩, .slice (some ⟨g, 0, none⟩) 2 2]] w fun e w' => e = .returned (.bool true) ∧ Only [] w w' := by
  obtain ⟨w1, hw1⟩ : ∃ w1, w.alloc (.cells #[.int .i64 10, .int .i64 0, .string ⟨#[]⟩, .string ⟨#[]⟩, .slice (some ⟨g, 0, none⟩) 2 2] 28) = w1 := ⟨_, rfl⟩
  have b1 : Blk w1 w.heap.size 28 #[.int .i64 10, .int .i64 0, .string ⟨#[]⟩, .string ⟨#[]⟩, .slice (some ⟨g, 0, none⟩) 2 2] := by rw [← hw1]; exact Blk.new w _ _
  have o1 : Only [] w w1 := by rw [← hw1]; exact (Only.refl [] w).alloc _
  have HCO := Lib.hid (conX (some ⟨g, 0, none⟩) 2 2 w.heap.size [e0, e1] w1 (hx.1.only o1 (by simp)) (by simp [maxLen]) (fun wr ho x hx => by
    rcases List.mem_cons.1 hx with rfl | hx
    · exact not_e0 wr
    · rw [List.mem_singleton.1 hx]; exact not_e1 wr))
  have p4 := b1.cell 4
  have HB1 := Lib.hid b1
  have HO1 := Lib.hid o1
  clear b1 o1 hx
  go_enter Try.func83, Try.ntmps83
  go_wp2_with fail
  refine HCO.out.mono ?_
  rintro e w2 ⟨rfl, ho2⟩
  have HO2 := Lib.hid (HO1.out.trans ho2 (by simp))
  have HB2 := Lib.hid (HB1.out.only ho2 (by simp))
  clear ho2
  have hS : ((fun Y => Y.cell? ⟨w.heap.size, 0, none⟩ = some (.int .i64 10) ∧ Y.cell? ⟨w.heap.size, 1, none⟩ = some (.int .i64 0) ∧ Y.cell? ⟨w.heap.size, 2, none⟩ = some (.string ⟨#[]⟩) ∧ Y.cell? ⟨w.heap.size, 3, none⟩ = some (.string ⟨#[]⟩) ∧ Y.cell? ⟨w.heap.size, 4, none⟩ = some (.slice (some ⟨g, 0, none⟩) 2 2)) : World → Prop) w2.drew := ⟨HB2.out.drew.cell 0, HB2.out.drew.cell 1, HB2.out.drew.cell 2, HB2.out.drew.cell 3, HB2.out.drew.cell 4⟩
  go_upto_region 3 with fail
  refine wp_region_hand (S := (fun Y => Y.cell? ⟨w.heap.size, 0, none⟩ = some (.int .i64 10) ∧ Y.cell? ⟨w.heap.size, 1, none⟩ = some (.int .i64 0) ∧ Y.cell? ⟨w.heap.size, 2, none⟩ = some (.string ⟨#[]⟩) ∧ Y.cell? ⟨w.heap.size, 3, none⟩ = some (.string ⟨#[]⟩) ∧ Y.cell? ⟨w.heap.size, 4, none⟩ = some (.slice (some ⟨g, 0, none⟩) 2 2))) (by kernel_rfl) ?_
  refine takeW (i := 0) rfl (by kernel_rfl) (by kernel_rfl) (by kernel_rfl) (fun _ _ _ h => h) rfl (by rfl) (v := .pointer (some ⟨w.heap.size, 2, none⟩)) (fun Y hY => by obtain ⟨y0, y1, y2, y3, y4⟩ := hY; go_simp) hS ?_
  simp only [List.setIfInBounds_toArray, List.set_cons_zero, List.set_cons_succ]
  refine takeW (i := 1) rfl (by kernel_rfl) (by kernel_rfl) (by kernel_rfl) (fun _ _ _ h => h) rfl (by rfl) (v := .string ⟨#[]⟩) (fun Y hY => by obtain ⟨y0, y1, y2, y3, y4⟩ := hY; go_simp) hS ?_
  simp only [List.setIfInBounds_toArray, List.set_cons_zero, List.set_cons_succ]
  refine takeW (i := 3) rfl (by kernel_rfl) (by kernel_rfl) (by kernel_rfl) (fun _ _ _ h => h) rfl (by rfl) (v := .pointer (some ⟨w.heap.size, 2, none⟩)) (fun Y hY => by obtain ⟨y0, y1, y2, y3, y4⟩ := hY; go_simp) hS ?_
  simp only [List.setIfInBounds_toArray, List.set_cons_zero, List.set_cons_succ]
  refine takeW (i := 4) rfl (by kernel_rfl) (by kernel_rfl) (by kernel_rfl) (fun _ _ _ h => h) rfl (by rfl) (v := .string ⟨#[]⟩) (fun Y hY => by obtain ⟨y0, y1, y2, y3, y4⟩ := hY; go_simp) hS ?_
  simp only [List.setIfInBounds_toArray, List.set_cons_zero, List.set_cons_succ]
  refine takeW (i := 5) rfl (by kernel_rfl) (by kernel_rfl) (by kernel_rfl) (fun _ _ _ h => h) rfl (by rfl) (v := .bool true) (fun Y hY => by obtain ⟨y0, y1, y2, y3, y4⟩ := hY; go_simp) hS ?_
  simp only [List.setIfInBounds_toArray, List.set_cons_zero, List.set_cons_succ]
  refine callW (i := 2) rfl (by kernel_rfl) rfl (by rfl) ?_ ((name_none w2.drew)) ?_
  · go_simp
  rintro x w3 ⟨rfl, ho3⟩
  have HO3 := Lib.hid (HO2.out.drew.trans ho3 (by simp))
  have b3 := (HB2.out.drew).only ho3 (by simp)
  have HB3 := Lib.hid b3
  have hS3 : ((fun Y => Y.cell? ⟨w.heap.size, 0, none⟩ = some (.int .i64 10) ∧ Y.cell? ⟨w.heap.size, 1, none⟩ = some (.int .i64 0) ∧ Y.cell? ⟨w.heap.size, 2, none⟩ = some (.string ⟨#[]⟩) ∧ Y.cell? ⟨w.heap.size, 3, none⟩ = some (.string ⟨#[]⟩) ∧ Y.cell? ⟨w.heap.size, 4, none⟩ = some (.slice (some ⟨g, 0, none⟩) 2 2)) : World → Prop) w3 := ⟨b3.cell 0, b3.cell 1, b3.cell 2, b3.cell 3, b3.cell 4⟩
  clear ho3
  refine ⟨_, rfl, hS3, ?_⟩
  simp only [List.setIfInBounds_toArray, List.set_cons_zero, List.set_cons_succ]
  refine takeW (i := 6) rfl (by kernel_rfl) (by kernel_rfl) (by kernel_rfl) (fun _ _ _ h => h) rfl (by rfl) (v := .bool true) (fun Y hY => by obtain ⟨y0, y1, y2, y3, y4⟩ := hY; go_simp) hS3 ?_
  simp only [List.setIfInBounds_toArray, List.set_cons_zero, List.set_cons_succ]
  refine takeW (i := 7) rfl (by kernel_rfl) (by kernel_rfl) (by kernel_rfl) (fun _ _ _ h => h) rfl (by rfl) (v := .pointer (some ⟨w.heap.size, 3, none⟩)) (fun Y hY => by obtain ⟨y0, y1, y2, y3, y4⟩ := hY; go_simp) hS3 ?_
  simp only [List.setIfInBounds_toArray, List.set_cons_zero, List.set_cons_succ]
  refine takeW (i := 8) rfl (by kernel_rfl) (by kernel_rfl) (by kernel_rfl) (fun _ _ _ h => h) rfl (by rfl) (v := .string ⟨#[]⟩) (fun Y hY => by obtain ⟨y0, y1, y2, y3, y4⟩ := hY; go_simp) hS3 ?_
  simp only [List.setIfInBounds_toArray, List.set_cons_zero, List.set_cons_succ]
  refine takeW (i := 9) rfl (by kernel_rfl) (by kernel_rfl) (by kernel_rfl) (fun _ _ _ h => h) rfl (by rfl) (v := .bool true) (fun Y hY => by obtain ⟨y0, y1, y2, y3, y4⟩ := hY; go_simp) hS3 ?_
  simp only [List.setIfInBounds_toArray, List.set_cons_zero, List.set_cons_succ]
  refine takeW (i := 10) rfl (by kernel_rfl) (by kernel_rfl) (by kernel_rfl) (fun _ _ _ h => h) rfl (by rfl) (v := .bool true) (fun Y hY => by obtain ⟨y0, y1, y2, y3, y4⟩ := hY; go_simp) hS3 ?_
  simp only [List.setIfInBounds_toArray, List.set_cons_zero, List.set_cons_succ]
  refine takeW (i := 11) rfl (by kernel_rfl) (by kernel_rfl) (by kernel_rfl) (fun _ _ _ h => h) rfl (by rfl) (v := .bool false) (fun Y hY => by obtain ⟨y0, y1, y2, y3, y4⟩ := hY; go_simp) hS3 ?_
  simp only [List.setIfInBounds_toArray, List.set_cons_zero, List.set_cons_succ]
  refine takeW (i := 12) rfl (by kernel_rfl) (by kernel_rfl) (by kernel_rfl) (fun _ _ _ h => h) rfl (by rfl) (v := .bool true) (fun Y hY => by obtain ⟨y0, y1, y2, y3, y4⟩ := hY; go_simp) hS3 ?_
  simp only [List.setIfInBounds_toArray, List.set_cons_zero, List.set_cons_succ]
  refine wpAnyH_done (by kernel_rfl) ?_ _
  obtain ⟨r0, r1, r2, r3, r4⟩ := hS3
  clear hS
  clear r0 r1 r2 r3 r4
  have r0 := HB3.out.cell 0
  have hS : ((fun Y => Y.cell? ⟨w.heap.size, 0, none⟩ = some (.int .i64 10) ∧ Y.cell? ⟨w.heap.size, 1, none⟩ = some (.int .i64 0) ∧ Y.cell? ⟨w.heap.size, 2, none⟩ = some (.string ⟨#[]⟩) ∧ Y.cell? ⟨w.heap.size, 3, none⟩ = some (.string ⟨#[]⟩) ∧ Y.cell? ⟨w.heap.size, 4, none⟩ = some (.slice (some ⟨g, 0, none⟩) 2 2)) : World → Prop) w3.drew := ⟨HB3.out.drew.cell 0, HB3.out.drew.cell 1, HB3.out.drew.cell 2, HB3.out.drew.cell 3, HB3.out.drew.cell 4⟩
  go_upto_region 13 with fail
  refine wp_region_hand (S := (fun Y => Y.cell? ⟨w.heap.size, 0, none⟩ = some (.int .i64 10) ∧ Y.cell? ⟨w.heap.size, 1, none⟩ = some (.int .i64 0) ∧ Y.cell? ⟨w.heap.size, 2, none⟩ = some (.string ⟨#[]⟩) ∧ Y.cell? ⟨w.heap.size, 3, none⟩ = some (.string ⟨#[]⟩) ∧ Y.cell? ⟨w.heap.size, 4, none⟩ = some (.slice (some ⟨g, 0, none⟩) 2 2))) (by kernel_rfl) ?_
  refine takeW (i := 0) rfl (by kernel_rfl) (by kernel_rfl) (by kernel_rfl) (fun _ _ _ h => h) rfl (by rfl) (v := .pointer (some ⟨w.heap.size, 4, none⟩)) (fun Y hY => by obtain ⟨y0, y1, y2, y3, y4⟩ := hY; go_simp) hS ?_
  simp only [List.setIfInBounds_toArray, List.set_cons_zero, List.set_cons_succ]
  refine takeW (i := 1) rfl (by kernel_rfl) (by kernel_rfl) (by kernel_rfl) (fun _ _ _ h => h) rfl (by rfl) (v := .slice (some ⟨g, 0, none⟩) 2 2) (fun Y hY => by obtain ⟨y0, y1, y2, y3, y4⟩ := hY; go_simp) hS ?_
  simp only [List.setIfInBounds_toArray, List.set_cons_zero, List.set_cons_succ]
  refine takeW (i := 2) rfl (by kernel_rfl) (by kernel_rfl) (by kernel_rfl) (fun _ _ _ h => h) rfl (by rfl) (v := .int .i64 2) (fun Y hY => by obtain ⟨y0, y1, y2, y3, y4⟩ := hY; go_simp) hS ?_
  simp only [List.setIfInBounds_toArray, List.set_cons_zero, List.set_cons_succ]
  refine takeW (i := 3) rfl (by kernel_rfl) (by kernel_rfl) (by kernel_rfl) (fun _ _ _ h => h) rfl (by rfl) (v := .bool true) (fun Y hY => by obtain ⟨y0, y1, y2, y3, y4⟩ := hY; go_simp) hS ?_
  simp only [List.setIfInBounds_toArray, List.set_cons_zero, List.set_cons_succ]
  refine takeW (i := 4) rfl (by kernel_rfl) (by kernel_rfl) (by kernel_rfl) (fun _ _ _ h => h) rfl (by rfl) (v := .bool true) (fun Y hY => by obtain ⟨y0, y1, y2, y3, y4⟩ := hY; go_simp) hS ?_
  simp only [List.setIfInBounds_toArray, List.set_cons_zero, List.set_cons_succ]
  refine takeW (i := 5) rfl (by kernel_rfl) (by kernel_rfl) (by kernel_rfl) (fun _ _ _ h => h) rfl (by rfl) (v := .pointer (some ⟨w.heap.size, 4, none⟩)) (fun Y hY => by obtain ⟨y0, y1, y2, y3, y4⟩ := hY; go_simp) hS ?_
  simp only [List.setIfInBounds_toArray, List.set_cons_zero, List.set_cons_succ]
  refine takeW (i := 6) rfl (by kernel_rfl) (by kernel_rfl) (by kernel_rfl) (fun _ _ _ h => h) rfl (by rfl) (v := .slice (some ⟨g, 0, none⟩) 2 2) (fun Y hY => by obtain ⟨y0, y1, y2, y3, y4⟩ := hY; go_simp) hS ?_
  simp only [List.setIfInBounds_toArray, List.set_cons_zero, List.set_cons_succ]
  refine takeW (i := 7) rfl (by kernel_rfl) (by kernel_rfl) (by kernel_rfl) (fun _ _ _ h => h) rfl (by rfl) (v := .int .i64 2) (fun Y hY => by obtain ⟨y0, y1, y2, y3, y4⟩ := hY; go_simp) hS ?_
  simp only [List.setIfInBounds_toArray, List.set_cons_zero, List.set_cons_succ]
  refine takeW (i := 8) rfl (by kernel_rfl) (by kernel_rfl) (by kernel_rfl) (fun _ _ _ h => h) rfl (by rfl) (v := .pointer (some ⟨w.heap.size, 0, none⟩)) (fun Y hY => by obtain ⟨y0, y1, y2, y3, y4⟩ := hY; go_simp) hS ?_
  simp only [List.setIfInBounds_toArray, List.set_cons_zero, List.set_cons_succ]
  refine takeW (i := 9) rfl (by kernel_rfl) (by kernel_rfl) (by kernel_rfl) (fun _ _ _ h => h) rfl (by rfl) (v := .int .i64 10) (fun Y hY => by obtain ⟨y0, y1, y2, y3, y4⟩ := hY; go_simp) hS ?_
  simp only [List.setIfInBounds_toArray, List.set_cons_zero, List.set_cons_succ]
  refine callW (i := 10) rfl (by kernel_rfl) rfl (by rfl) ?_ ((parts_ten _)) ?_
  · go_simp
  rintro x w9 ⟨rfl, rfl⟩
  refine ⟨_, rfl, hS, ?_⟩
  simp only [List.setIfInBounds_toArray, List.set_cons_zero, List.set_cons_succ]
  refine takeW (i := 11) rfl (by kernel_rfl) (by kernel_rfl) (by kernel_rfl) (fun _ _ _ h => h) rfl (by rfl) (v := .bool true) (fun Y hY => by obtain ⟨y0, y1, y2, y3, y4⟩ := hY; go_simp) hS ?_
  simp only [List.setIfInBounds_toArray, List.set_cons_zero, List.set_cons_succ]
  refine takeW (i := 12) rfl (by kernel_rfl) (by kernel_rfl) (by kernel_rfl) (fun _ _ _ h => h) rfl (by rfl) (v := .bool true) (fun Y hY => by obtain ⟨y0, y1, y2, y3, y4⟩ := hY; go_simp) hS ?_
  simp only [List.setIfInBounds_toArray, List.set_cons_zero, List.set_cons_succ]
  refine takeW (i := 13) rfl (by kernel_rfl) (by kernel_rfl) (by kernel_rfl) (fun _ _ _ h => h) rfl (by rfl) (v := .bool true) (fun Y hY => by obtain ⟨y0, y1, y2, y3, y4⟩ := hY; go_simp) hS ?_
  simp only [List.setIfInBounds_toArray, List.set_cons_zero, List.set_cons_succ]
  refine takeW (i := 14) rfl (by kernel_rfl) (by kernel_rfl) (by kernel_rfl) (fun _ _ _ h => h) rfl (by rfl) (v := .pointer (some ⟨w.heap.size, 1, none⟩)) (fun Y hY => by obtain ⟨y0, y1, y2, y3, y4⟩ := hY; go_simp) hS ?_
  simp only [List.setIfInBounds_toArray, List.set_cons_zero, List.set_cons_succ]
  refine takeW (i := 15) rfl (by kernel_rfl) (by kernel_rfl) (by kernel_rfl) (fun _ _ _ h => h) rfl (by rfl) (v := .int .i64 0) (fun Y hY => by obtain ⟨y0, y1, y2, y3, y4⟩ := hY; go_simp) hS ?_
  simp only [List.setIfInBounds_toArray, List.set_cons_zero, List.set_cons_succ]
  refine takeW (i := 16) rfl (by kernel_rfl) (by kernel_rfl) (by kernel_rfl) (fun _ _ _ h => h) rfl (by rfl) (v := .bool true) (fun Y hY => by obtain ⟨y0, y1, y2, y3, y4⟩ := hY; go_simp) hS ?_
  simp only [List.setIfInBounds_toArray, List.set_cons_zero, List.set_cons_succ]
  refine takeW (i := 17) rfl (by kernel_rfl) (by kernel_rfl) (by kernel_rfl) (fun _ _ _ h => h) rfl (by rfl) (v := .bool true) (fun Y hY => by obtain ⟨y0, y1, y2, y3, y4⟩ := hY; go_simp) hS ?_
  simp only [List.setIfInBounds_toArray, List.set_cons_zero, List.set_cons_succ]
  refine takeW (i := 18) rfl (by kernel_rfl) (by kernel_rfl) (by kernel_rfl) (fun _ _ _ h => h) rfl (by rfl) (v := .bool true) (fun Y hY => by obtain ⟨y0, y1, y2, y3, y4⟩ := hY; go_simp) hS ?_
  simp only [List.setIfInBounds_toArray, List.set_cons_zero, List.set_cons_succ]
  refine takeW (i := 19) rfl (by kernel_rfl) (by kernel_rfl) (by kernel_rfl) (fun _ _ _ h => h) rfl (by rfl) (v := .bool true) (fun Y hY => by obtain ⟨y0, y1, y2, y3, y4⟩ := hY; go_simp) hS ?_
  simp only [List.setIfInBounds_toArray, List.set_cons_zero, List.set_cons_succ]
  refine takeW (i := 20) rfl (by kernel_rfl) (by kernel_rfl) (by kernel_rfl) (fun _ _ _ h => h) rfl (by rfl) (v := .bool true) (fun Y hY => by obtain ⟨y0, y1, y2, y3, y4⟩ := hY; go_simp) hS ?_
  simp only [List.setIfInBounds_toArray, List.set_cons_zero, List.set_cons_succ]
  refine takeW (i := 21) rfl (by kernel_rfl) (by kernel_rfl) (by kernel_rfl) (fun _ _ _ h => h) rfl (by rfl) (v := .bool true) (fun Y hY => by obtain ⟨y0, y1, y2, y3, y4⟩ := hY; go_simp) hS ?_
  simp only [List.setIfInBounds_toArray, List.set_cons_zero, List.set_cons_succ]
  refine wpAnyH_done (by kernel_rfl) ?_ _
  go_wp2_with fail
  go_ret
  exact ⟨rfl, HO3.out.drew⟩
end Go.Proofs.Ytmjkohlhbboapaa.Tree
