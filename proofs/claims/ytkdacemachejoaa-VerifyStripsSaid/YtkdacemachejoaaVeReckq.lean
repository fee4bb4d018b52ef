/- The machine's ops of numbers. PRINTED by wip/gen_vereck.py. -/
import Derived.Test.YtkdacemachejoaaMsA
namespace Go.Proofs.Ytkdacemachejoaa.Vm
open Go.RowKit Go.Shelf Object
set_option linter.unusedVariables false
set_option maxRecDepth 100000
/-- what reckon leaves -/
def ReckO (w : World) (base mb : Nat) (cA : Option Addr) (cn cc : Nat) (fv : Value) (at_ : Int) (ov : Value) (en : Int) (x : FB) (a : Nat) (p : Int × Bool) (y : Ending) (w' : World) : Prop :=
  y = .returned (.tuple #[]) ∧ ((p.2 = true ∧ FIn w' base x.fb x.sv { x.f with r := x.f.r.set a p.1 } ∧ Only [x.fb] w w') ∨
    (p.2 = false ∧ Blk w' mb 58 (mcells cA cn cc fv at_ ov 1 true) ∧ Only [mb] w w'))
theorem set_in {w : World} {base : Nat} {x : FB} {a : Nat} (h : FIn w base x.fb x.sv x.f) (ha : a < 8) (v : Int) : FIn (w.setCell ⟨x.fb, a, none⟩ (.int .i64 v)) base x.fb x.sv { x.f with r := x.f.r.set a v } := by
  obtain ⟨h1, h2, h3, h4⟩ := h
  refine ⟨⟨by simp [h1.1], h1.2.1, h1.2.2⟩, ?_, h3.only ((Only.refl [x.fb] w).setCell (p := ⟨x.fb, a, none⟩) (.inl (by simp)) _) (fun g hg hm => row_ne h3 x.fb h2 (by decide) (by rw [← List.mem_singleton.1 hm]; exact hg)), h4⟩
  have h := h2.set_ a (.int .i64 v)
  rw [show (x.f.row x.sv).setIfInBounds a (.int .i64 v) = _ from Fr.set_r h1 ha v] at h
  exact h
set_option maxHeartbeats 8000000 in
theorem reck_2 (base mb : Nat) (cA : Option Addr) (cn cc : Nat) (fv : Value) (at_ : Int) (ov : Value) (en : Int) (x : FB) (a b : Nat) (cc3 n : Int) (w : World) (hm : Blk w mb 58 (mcells cA cn cc fv at_ ov en false)) (hx : FIn w base x.fb x.sv x.f) (ha : a < 8) (hb8 : b < 8) :
    Calls Try.prog 47 #[.pointer (some ⟨mb, 0, none⟩), .pointer (some ⟨x.fb, 0, none⟩), .agg #[.int .i64 2, .int .i64 (a : Int), .int .i64 (b : Int), .int .i64 cc3, .int .i64 n]] w (ReckO w base mb cA cn cc fv at_ ov en x a (oneP 2 (x.f.r.getD b 0))) := by
  obtain ⟨w1, hw1⟩ : ∃ w1, w.alloc (.cells #[.int .i64 2, .int .i64 (a : Int), .int .i64 (b : Int), .int .i64 cc3, .int .i64 n] 27) = w1 := ⟨_, rfl⟩
  have b1 : Blk w1 w.heap.size 27 #[.int .i64 2, .int .i64 (a : Int), .int .i64 (b : Int), .int .i64 cc3, .int .i64 n] := by rw [← hw1]; exact Blk.new w _ _
  have o1 : Only [] w w1 := by rw [← hw1]; exact (Only.refl [] w).alloc _
  have hx1 := hx.only o1 (by simp) (by simp)
  have hm1 := hm.only o1 (by simp)
  obtain ⟨vb, hvb⟩ : ∃ v, x.f.r.getD b 0 = v := ⟨_, rfl⟩
  rw [hvb]
  obtain ⟨p1, p2, hp⟩ : ∃ p1 p2, oneP 2 vb = (p1, p2) := ⟨_, _, rfl⟩
  rw [hp]
  have cb : w1.cell? ⟨x.fb, b, none⟩ = some (.int .i64 vb) := by rw [hx1.2.1.cell b, Fr.at_r hx1.1 hb8, hvb]; rfl
  have HN : Hid (∀ wx, Calls Try.prog 69 #[.int .i64 2, .int .i64 vb] wx fun y w' => y = .returned (.tuple #[.int .i64 p1, .bool p2]) ∧ w' = wx) := Lib.hid (fun wx => by have h := one_2 vb wx; rw [show ((vb, true)) = (p1, p2) from by rw [← hp]; rfl] at h; exact h)
  have HST := Lib.hid (fun wx (h : Only [] w1 wx) => stop_any mb cA cn cc fv at_ ov en 1 wx (hm1.only h (by simp)))
  have HX := Lib.hid hx1
  have HB := Lib.hid b1
  have HO1 := Lib.hid o1
  have q0 := b1.cell 0
  have hS : ((fun Y => Y.cell? ⟨w.heap.size, 0, none⟩ = some (.int .i64 2) ∧ Y.cell? ⟨w.heap.size, 2, none⟩ = some (.int .i64 (b : Int)) ∧ Y.cell? ⟨x.fb, b, none⟩ = some (.int .i64 vb)) : World → Prop) w1.drew := ⟨b1.cell 0, b1.cell 2, cb⟩
  clear b1 o1 hx1 hm1 hp hvb hm hx
  go_enter Try.func47, Try.ntmps47
  go_upto_region 6 with fail
  try rw [hw1]
  refine wp_region_hand (S := (fun Y => Y.cell? ⟨w.heap.size, 0, none⟩ = some (.int .i64 2) ∧ Y.cell? ⟨w.heap.size, 2, none⟩ = some (.int .i64 (b : Int)) ∧ Y.cell? ⟨x.fb, b, none⟩ = some (.int .i64 vb))) (by kernel_rfl) ?_
  refine takeW (i := 0) rfl (by kernel_rfl) (by kernel_rfl) (by kernel_rfl) (fun _ _ _ h => h) rfl (by rfl) (v := .pointer (some ⟨x.fb, 0, none⟩)) (fun Y hY => by obtain ⟨y0, y1, y2⟩ := hY; go_simp) hS ?_
  simp only [List.setIfInBounds_toArray, List.set_cons_zero, List.set_cons_succ]
  refine takeW (i := 1) rfl (by kernel_rfl) (by kernel_rfl) (by kernel_rfl) (fun _ _ _ h => h) rfl (by rfl) (v := .pointer (some ⟨w.heap.size, 2, none⟩)) (fun Y hY => by obtain ⟨y0, y1, y2⟩ := hY; go_simp) hS ?_
  simp only [List.setIfInBounds_toArray, List.set_cons_zero, List.set_cons_succ]
  refine takeW (i := 2) rfl (by kernel_rfl) (by kernel_rfl) (by kernel_rfl) (fun _ _ _ h => h) rfl (by rfl) (v := .int .i64 (b : Int)) (fun Y hY => by obtain ⟨y0, y1, y2⟩ := hY; go_simp) hS ?_
  simp only [List.setIfInBounds_toArray, List.set_cons_zero, List.set_cons_succ]
  refine takeW (i := 3) rfl (by kernel_rfl) (by kernel_rfl) (by kernel_rfl) (fun _ _ _ h => h) rfl (by rfl) (v := .pointer (some ⟨x.fb, 0, none⟩)) (fun Y hY => by obtain ⟨y0, y1, y2⟩ := hY; go_simp) hS ?_
  simp only [List.setIfInBounds_toArray, List.set_cons_zero, List.set_cons_succ]
  refine takeW (i := 4) rfl (by kernel_rfl) (by kernel_rfl) (by kernel_rfl) (fun _ _ _ h => h) rfl (by rfl) (v := .pointer (some ⟨x.fb, b, none⟩)) (fun Y hY => by obtain ⟨y0, y1, y2⟩ := hY; go_simp; intro h; omega) hS ?_
  simp only [List.setIfInBounds_toArray, List.set_cons_zero, List.set_cons_succ]
  refine takeW (i := 5) rfl (by kernel_rfl) (by kernel_rfl) (by kernel_rfl) (fun _ _ _ h => h) rfl (by rfl) (v := .int .i64 vb) (fun Y hY => by obtain ⟨y0, y1, y2⟩ := hY; go_simp) hS ?_
  simp only [List.setIfInBounds_toArray, List.set_cons_zero, List.set_cons_succ]
  refine callW (i := 6) rfl (by kernel_rfl) rfl (by rfl) ?_ ((HN.out _)) ?_
  · go_simp
  rintro x w2 ⟨rfl, hw2⟩
  have hw2 := hw2.symm
  subst hw2
  refine ⟨_, rfl, hS, ?_⟩
  simp only [List.setIfInBounds_toArray, List.set_cons_zero, List.set_cons_succ]
  refine takeW (i := 7) rfl (by kernel_rfl) (by kernel_rfl) (by kernel_rfl) (fun _ _ _ h => h) rfl (by rfl) (v := .tuple #[.int .i64 p1, .bool p2]) (fun Y hY => by obtain ⟨y0, y1, y2⟩ := hY; go_simp) hS ?_
  simp only [List.setIfInBounds_toArray, List.set_cons_zero, List.set_cons_succ]
  refine takeW (i := 8) rfl (by kernel_rfl) (by kernel_rfl) (by kernel_rfl) (fun _ _ _ h => h) rfl (by rfl) (v := .int .i64 p1) (fun Y hY => by obtain ⟨y0, y1, y2⟩ := hY; go_simp) hS ?_
  simp only [List.setIfInBounds_toArray, List.set_cons_zero, List.set_cons_succ]
  refine takeW (i := 9) rfl (by kernel_rfl) (by kernel_rfl) (by kernel_rfl) (fun _ _ _ h => h) rfl (by rfl) (v := .bool p2) (fun Y hY => by obtain ⟨y0, y1, y2⟩ := hY; go_simp) hS ?_
  simp only [List.setIfInBounds_toArray, List.set_cons_zero, List.set_cons_succ]
  refine takeW (i := 10) rfl (by kernel_rfl) (by kernel_rfl) (by kernel_rfl) (fun _ _ _ h => h) rfl (by rfl) (v := .int .i64 p1) (fun Y hY => by obtain ⟨y0, y1, y2⟩ := hY; go_simp) hS ?_
  simp only [List.setIfInBounds_toArray, List.set_cons_zero, List.set_cons_succ]
  refine takeW (i := 11) rfl (by kernel_rfl) (by kernel_rfl) (by kernel_rfl) (fun _ _ _ h => h) rfl (by rfl) (v := .bool p2) (fun Y hY => by obtain ⟨y0, y1, y2⟩ := hY; go_simp) hS ?_
  simp only [List.setIfInBounds_toArray, List.set_cons_zero, List.set_cons_succ]
  refine wpAnyH_done (by kernel_rfl) ?_ _
  clear hS q0 cb
  cases p2 with
  | false =>
    go_wp2_with fail
    refine (HST.out _ (Only.refl [] w1).drew).mono ?_
    rintro y w3 ⟨rfl, hb3, ho3⟩
    have HF := Lib.hid (And.intro hb3 (HO1.out.drew.mono (S' := [mb]) (by simp) |>.trans ho3 (fun g hg => .inl hg)))
    clear hb3 ho3
    go_wp2_with fail
    go_end0
    exact ⟨rfl, .inr ⟨rfl, HF.out.1, HF.out.2⟩⟩
  | true =>
    have hS2 : ((fun Y => Y.cell? ⟨w.heap.size, 1, none⟩ = some (.int .i64 (a : Int))) : World → Prop) w1.drew.drew := HB.out.drew.drew.cell 1
    have ca : w1.drew.drew.cell? ⟨x.fb, a, none⟩ = some (.int .i64 (x.f.r.getD a 0)) := by rw [HX.out.2.1.drew.drew.cell a, Fr.at_r HX.out.1 ha]; rfl
    have za := HX.out.2.1.drew.drew.frozen a
    have ho4 : Only [x.fb] w (w1.drew.drew.setCell ⟨x.fb, a, none⟩ (.int .i64 p1)) := (HO1.out.drew.drew.mono (by simp)).setCell (.inl (by simp)) _
    have hxd : FIn w1.drew.drew base x.fb x.sv x.f := HX.out.only (Only.refl [] w1).drew.drew (by simp) (by simp)
    have HF := Lib.hid (And.intro (set_in hxd ha p1) ho4)
    have HS2 : Hid (((fun Y => Y.cell? ⟨w.heap.size, 1, none⟩ = some (.int .i64 (a : Int))) : World → Prop) (w1.drew.drew.setCell ⟨x.fb, a, none⟩ (.int .i64 p1))) := Lib.hid ((HB.out.drew.drew.only ((Only.refl [x.fb] w1.drew.drew).setCell (p := ⟨x.fb, a, none⟩) (.inl (by simp)) _) (by
      intro h
      exact Blk.ne_ HB.out HX.out.2.1 (by decide) (List.mem_singleton.1 h))).cell 1)
    clear ho4 hxd
    go_upto_region 13 with fail
    refine wp_region_hand (S := (fun Y => Y.cell? ⟨w.heap.size, 1, none⟩ = some (.int .i64 (a : Int)))) (by kernel_rfl) ?_
    refine takeW (i := 0) rfl (by kernel_rfl) (by kernel_rfl) (by kernel_rfl) (fun _ _ _ h => h) rfl (by rfl) (v := .pointer (some ⟨x.fb, 0, none⟩)) (fun Y hY => by have y0 := hY; go_simp) hS2 ?_
    simp only [List.setIfInBounds_toArray, List.set_cons_zero, List.set_cons_succ]
    refine takeW (i := 1) rfl (by kernel_rfl) (by kernel_rfl) (by kernel_rfl) (fun _ _ _ h => h) rfl (by rfl) (v := .pointer (some ⟨w.heap.size, 1, none⟩)) (fun Y hY => by have y0 := hY; go_simp) hS2 ?_
    simp only [List.setIfInBounds_toArray, List.set_cons_zero, List.set_cons_succ]
    refine takeW (i := 2) rfl (by kernel_rfl) (by kernel_rfl) (by kernel_rfl) (fun _ _ _ h => h) rfl (by rfl) (v := .int .i64 (a : Int)) (fun Y hY => by have y0 := hY; go_simp) hS2 ?_
    simp only [List.setIfInBounds_toArray, List.set_cons_zero, List.set_cons_succ]
    refine takeW (i := 3) rfl (by kernel_rfl) (by kernel_rfl) (by kernel_rfl) (fun _ _ _ h => h) rfl (by rfl) (v := .int .i64 p1) (fun Y hY => by have y0 := hY; go_simp) hS2 ?_
    simp only [List.setIfInBounds_toArray, List.set_cons_zero, List.set_cons_succ]
    refine takeW (i := 4) rfl (by kernel_rfl) (by kernel_rfl) (by kernel_rfl) (fun _ _ _ h => h) rfl (by rfl) (v := .pointer (some ⟨x.fb, 0, none⟩)) (fun Y hY => by have y0 := hY; go_simp) hS2 ?_
    simp only [List.setIfInBounds_toArray, List.set_cons_zero, List.set_cons_succ]
    refine takeW (i := 5) rfl (by kernel_rfl) (by kernel_rfl) (by kernel_rfl) (fun _ _ _ h => h) rfl (by rfl) (v := .pointer (some ⟨x.fb, a, none⟩)) (fun Y hY => by have y0 := hY; go_simp; intro h; omega) hS2 ?_
    simp only [List.setIfInBounds_toArray, List.set_cons_zero, List.set_cons_succ]
    refine oneS (i := 6) (v := undef) (w' := w1.drew.drew.setCell ⟨x.fb, a, none⟩ (.int .i64 p1)) rfl (by kernel_rfl) rfl (by rfl) (by first | (left; go_simp; done) | (right; go_simp; done)) HS2.out ?_
    refine wpAnyH_done (by kernel_rfl) ?_ _
    go_wp2_with fail
    go_end0
    exact ⟨rfl, .inl ⟨rfl, HF.out.1, HF.out.2⟩⟩
set_option maxHeartbeats 8000000 in
theorem reck_3 (base mb : Nat) (cA : Option Addr) (cn cc : Nat) (fv : Value) (at_ : Int) (ov : Value) (en : Int) (x : FB) (a b : Nat) (cc3 n : Int) (w : World) (hm : Blk w mb 58 (mcells cA cn cc fv at_ ov en false)) (hx : FIn w base x.fb x.sv x.f) (ha : a < 8) (hb8 : b < 8) :
    Calls Try.prog 47 #[.pointer (some ⟨mb, 0, none⟩), .pointer (some ⟨x.fb, 0, none⟩), .agg #[.int .i64 3, .int .i64 (a : Int), .int .i64 (b : Int), .int .i64 cc3, .int .i64 n]] w (ReckO w base mb cA cn cc fv at_ ov en x a (oneP 3 (x.f.r.getD b 0))) := by
  obtain ⟨w1, hw1⟩ : ∃ w1, w.alloc (.cells #[.int .i64 3, .int .i64 (a : Int), .int .i64 (b : Int), .int .i64 cc3, .int .i64 n] 27) = w1 := ⟨_, rfl⟩
  have b1 : Blk w1 w.heap.size 27 #[.int .i64 3, .int .i64 (a : Int), .int .i64 (b : Int), .int .i64 cc3, .int .i64 n] := by rw [← hw1]; exact Blk.new w _ _
  have o1 : Only [] w w1 := by rw [← hw1]; exact (Only.refl [] w).alloc _
  have hx1 := hx.only o1 (by simp) (by simp)
  have hm1 := hm.only o1 (by simp)
  obtain ⟨vb, hvb⟩ : ∃ v, x.f.r.getD b 0 = v := ⟨_, rfl⟩
  rw [hvb]
  obtain ⟨p1, p2, hp⟩ : ∃ p1 p2, oneP 3 vb = (p1, p2) := ⟨_, _, rfl⟩
  rw [hp]
  have cb : w1.cell? ⟨x.fb, b, none⟩ = some (.int .i64 vb) := by rw [hx1.2.1.cell b, Fr.at_r hx1.1 hb8, hvb]; rfl
  have HN : Hid (∀ wx, Calls Try.prog 69 #[.int .i64 3, .int .i64 vb] wx fun y w' => y = .returned (.tuple #[.int .i64 p1, .bool p2]) ∧ w' = wx) := Lib.hid (fun wx => by have h := one_3 vb wx; rw [show ((wrap64 (-vb), true)) = (p1, p2) from by rw [← hp]; rfl] at h; exact h)
  have HST := Lib.hid (fun wx (h : Only [] w1 wx) => stop_any mb cA cn cc fv at_ ov en 1 wx (hm1.only h (by simp)))
  have HX := Lib.hid hx1
  have HB := Lib.hid b1
  have HO1 := Lib.hid o1
  have q0 := b1.cell 0
  have hS : ((fun Y => Y.cell? ⟨w.heap.size, 0, none⟩ = some (.int .i64 3) ∧ Y.cell? ⟨w.heap.size, 2, none⟩ = some (.int .i64 (b : Int)) ∧ Y.cell? ⟨x.fb, b, none⟩ = some (.int .i64 vb)) : World → Prop) w1.drew := ⟨b1.cell 0, b1.cell 2, cb⟩
  clear b1 o1 hx1 hm1 hp hvb hm hx
  go_enter Try.func47, Try.ntmps47
  go_upto_region 8 with fail
  try rw [hw1]
  refine wp_region_hand (S := (fun Y => Y.cell? ⟨w.heap.size, 0, none⟩ = some (.int .i64 3) ∧ Y.cell? ⟨w.heap.size, 2, none⟩ = some (.int .i64 (b : Int)) ∧ Y.cell? ⟨x.fb, b, none⟩ = some (.int .i64 vb))) (by kernel_rfl) ?_
  refine takeW (i := 0) rfl (by kernel_rfl) (by kernel_rfl) (by kernel_rfl) (fun _ _ _ h => h) rfl (by rfl) (v := .pointer (some ⟨x.fb, 0, none⟩)) (fun Y hY => by obtain ⟨y0, y1, y2⟩ := hY; go_simp) hS ?_
  simp only [List.setIfInBounds_toArray, List.set_cons_zero, List.set_cons_succ]
  refine takeW (i := 1) rfl (by kernel_rfl) (by kernel_rfl) (by kernel_rfl) (fun _ _ _ h => h) rfl (by rfl) (v := .pointer (some ⟨w.heap.size, 2, none⟩)) (fun Y hY => by obtain ⟨y0, y1, y2⟩ := hY; go_simp) hS ?_
  simp only [List.setIfInBounds_toArray, List.set_cons_zero, List.set_cons_succ]
  refine takeW (i := 2) rfl (by kernel_rfl) (by kernel_rfl) (by kernel_rfl) (fun _ _ _ h => h) rfl (by rfl) (v := .int .i64 (b : Int)) (fun Y hY => by obtain ⟨y0, y1, y2⟩ := hY; go_simp) hS ?_
  simp only [List.setIfInBounds_toArray, List.set_cons_zero, List.set_cons_succ]
  refine takeW (i := 3) rfl (by kernel_rfl) (by kernel_rfl) (by kernel_rfl) (fun _ _ _ h => h) rfl (by rfl) (v := .pointer (some ⟨x.fb, 0, none⟩)) (fun Y hY => by obtain ⟨y0, y1, y2⟩ := hY; go_simp) hS ?_
  simp only [List.setIfInBounds_toArray, List.set_cons_zero, List.set_cons_succ]
  refine takeW (i := 4) rfl (by kernel_rfl) (by kernel_rfl) (by kernel_rfl) (fun _ _ _ h => h) rfl (by rfl) (v := .pointer (some ⟨x.fb, b, none⟩)) (fun Y hY => by obtain ⟨y0, y1, y2⟩ := hY; go_simp; intro h; omega) hS ?_
  simp only [List.setIfInBounds_toArray, List.set_cons_zero, List.set_cons_succ]
  refine takeW (i := 5) rfl (by kernel_rfl) (by kernel_rfl) (by kernel_rfl) (fun _ _ _ h => h) rfl (by rfl) (v := .int .i64 vb) (fun Y hY => by obtain ⟨y0, y1, y2⟩ := hY; go_simp) hS ?_
  simp only [List.setIfInBounds_toArray, List.set_cons_zero, List.set_cons_succ]
  refine callW (i := 6) rfl (by kernel_rfl) rfl (by rfl) ?_ ((HN.out _)) ?_
  · go_simp
  rintro x w2 ⟨rfl, hw2⟩
  have hw2 := hw2.symm
  subst hw2
  refine ⟨_, rfl, hS, ?_⟩
  simp only [List.setIfInBounds_toArray, List.set_cons_zero, List.set_cons_succ]
  refine takeW (i := 7) rfl (by kernel_rfl) (by kernel_rfl) (by kernel_rfl) (fun _ _ _ h => h) rfl (by rfl) (v := .tuple #[.int .i64 p1, .bool p2]) (fun Y hY => by obtain ⟨y0, y1, y2⟩ := hY; go_simp) hS ?_
  simp only [List.setIfInBounds_toArray, List.set_cons_zero, List.set_cons_succ]
  refine takeW (i := 8) rfl (by kernel_rfl) (by kernel_rfl) (by kernel_rfl) (fun _ _ _ h => h) rfl (by rfl) (v := .int .i64 p1) (fun Y hY => by obtain ⟨y0, y1, y2⟩ := hY; go_simp) hS ?_
  simp only [List.setIfInBounds_toArray, List.set_cons_zero, List.set_cons_succ]
  refine takeW (i := 9) rfl (by kernel_rfl) (by kernel_rfl) (by kernel_rfl) (fun _ _ _ h => h) rfl (by rfl) (v := .bool p2) (fun Y hY => by obtain ⟨y0, y1, y2⟩ := hY; go_simp) hS ?_
  simp only [List.setIfInBounds_toArray, List.set_cons_zero, List.set_cons_succ]
  refine takeW (i := 10) rfl (by kernel_rfl) (by kernel_rfl) (by kernel_rfl) (fun _ _ _ h => h) rfl (by rfl) (v := .int .i64 p1) (fun Y hY => by obtain ⟨y0, y1, y2⟩ := hY; go_simp) hS ?_
  simp only [List.setIfInBounds_toArray, List.set_cons_zero, List.set_cons_succ]
  refine takeW (i := 11) rfl (by kernel_rfl) (by kernel_rfl) (by kernel_rfl) (fun _ _ _ h => h) rfl (by rfl) (v := .bool p2) (fun Y hY => by obtain ⟨y0, y1, y2⟩ := hY; go_simp) hS ?_
  simp only [List.setIfInBounds_toArray, List.set_cons_zero, List.set_cons_succ]
  refine wpAnyH_done (by kernel_rfl) ?_ _
  clear hS q0 cb
  cases p2 with
  | false =>
    go_wp2_with fail
    refine (HST.out _ (Only.refl [] w1).drew).mono ?_
    rintro y w3 ⟨rfl, hb3, ho3⟩
    have HF := Lib.hid (And.intro hb3 (HO1.out.drew.mono (S' := [mb]) (by simp) |>.trans ho3 (fun g hg => .inl hg)))
    clear hb3 ho3
    go_wp2_with fail
    go_end0
    exact ⟨rfl, .inr ⟨rfl, HF.out.1, HF.out.2⟩⟩
  | true =>
    have hS2 : ((fun Y => Y.cell? ⟨w.heap.size, 1, none⟩ = some (.int .i64 (a : Int))) : World → Prop) w1.drew.drew := HB.out.drew.drew.cell 1
    have ca : w1.drew.drew.cell? ⟨x.fb, a, none⟩ = some (.int .i64 (x.f.r.getD a 0)) := by rw [HX.out.2.1.drew.drew.cell a, Fr.at_r HX.out.1 ha]; rfl
    have za := HX.out.2.1.drew.drew.frozen a
    have ho4 : Only [x.fb] w (w1.drew.drew.setCell ⟨x.fb, a, none⟩ (.int .i64 p1)) := (HO1.out.drew.drew.mono (by simp)).setCell (.inl (by simp)) _
    have hxd : FIn w1.drew.drew base x.fb x.sv x.f := HX.out.only (Only.refl [] w1).drew.drew (by simp) (by simp)
    have HF := Lib.hid (And.intro (set_in hxd ha p1) ho4)
    have HS2 : Hid (((fun Y => Y.cell? ⟨w.heap.size, 1, none⟩ = some (.int .i64 (a : Int))) : World → Prop) (w1.drew.drew.setCell ⟨x.fb, a, none⟩ (.int .i64 p1))) := Lib.hid ((HB.out.drew.drew.only ((Only.refl [x.fb] w1.drew.drew).setCell (p := ⟨x.fb, a, none⟩) (.inl (by simp)) _) (by
      intro h
      exact Blk.ne_ HB.out HX.out.2.1 (by decide) (List.mem_singleton.1 h))).cell 1)
    clear ho4 hxd
    go_upto_region 13 with fail
    refine wp_region_hand (S := (fun Y => Y.cell? ⟨w.heap.size, 1, none⟩ = some (.int .i64 (a : Int)))) (by kernel_rfl) ?_
    refine takeW (i := 0) rfl (by kernel_rfl) (by kernel_rfl) (by kernel_rfl) (fun _ _ _ h => h) rfl (by rfl) (v := .pointer (some ⟨x.fb, 0, none⟩)) (fun Y hY => by have y0 := hY; go_simp) hS2 ?_
    simp only [List.setIfInBounds_toArray, List.set_cons_zero, List.set_cons_succ]
    refine takeW (i := 1) rfl (by kernel_rfl) (by kernel_rfl) (by kernel_rfl) (fun _ _ _ h => h) rfl (by rfl) (v := .pointer (some ⟨w.heap.size, 1, none⟩)) (fun Y hY => by have y0 := hY; go_simp) hS2 ?_
    simp only [List.setIfInBounds_toArray, List.set_cons_zero, List.set_cons_succ]
    refine takeW (i := 2) rfl (by kernel_rfl) (by kernel_rfl) (by kernel_rfl) (fun _ _ _ h => h) rfl (by rfl) (v := .int .i64 (a : Int)) (fun Y hY => by have y0 := hY; go_simp) hS2 ?_
    simp only [List.setIfInBounds_toArray, List.set_cons_zero, List.set_cons_succ]
    refine takeW (i := 3) rfl (by kernel_rfl) (by kernel_rfl) (by kernel_rfl) (fun _ _ _ h => h) rfl (by rfl) (v := .int .i64 p1) (fun Y hY => by have y0 := hY; go_simp) hS2 ?_
    simp only [List.setIfInBounds_toArray, List.set_cons_zero, List.set_cons_succ]
    refine takeW (i := 4) rfl (by kernel_rfl) (by kernel_rfl) (by kernel_rfl) (fun _ _ _ h => h) rfl (by rfl) (v := .pointer (some ⟨x.fb, 0, none⟩)) (fun Y hY => by have y0 := hY; go_simp) hS2 ?_
    simp only [List.setIfInBounds_toArray, List.set_cons_zero, List.set_cons_succ]
    refine takeW (i := 5) rfl (by kernel_rfl) (by kernel_rfl) (by kernel_rfl) (fun _ _ _ h => h) rfl (by rfl) (v := .pointer (some ⟨x.fb, a, none⟩)) (fun Y hY => by have y0 := hY; go_simp; intro h; omega) hS2 ?_
    simp only [List.setIfInBounds_toArray, List.set_cons_zero, List.set_cons_succ]
    refine oneS (i := 6) (v := undef) (w' := w1.drew.drew.setCell ⟨x.fb, a, none⟩ (.int .i64 p1)) rfl (by kernel_rfl) rfl (by rfl) (by first | (left; go_simp; done) | (right; go_simp; done)) HS2.out ?_
    refine wpAnyH_done (by kernel_rfl) ?_ _
    go_wp2_with fail
    go_end0
    exact ⟨rfl, .inl ⟨rfl, HF.out.1, HF.out.2⟩⟩
set_option maxHeartbeats 8000000 in
theorem reck_4 (base mb : Nat) (cA : Option Addr) (cn cc : Nat) (fv : Value) (at_ : Int) (ov : Value) (en : Int) (x : FB) (a b : Nat) (cc3 n : Int) (w : World) (hm : Blk w mb 58 (mcells cA cn cc fv at_ ov en false)) (hx : FIn w base x.fb x.sv x.f) (ha : a < 8) (hb8 : b < 8) :
    Calls Try.prog 47 #[.pointer (some ⟨mb, 0, none⟩), .pointer (some ⟨x.fb, 0, none⟩), .agg #[.int .i64 4, .int .i64 (a : Int), .int .i64 (b : Int), .int .i64 cc3, .int .i64 n]] w (ReckO w base mb cA cn cc fv at_ ov en x a (oneP 4 (x.f.r.getD b 0))) := by
  obtain ⟨w1, hw1⟩ : ∃ w1, w.alloc (.cells #[.int .i64 4, .int .i64 (a : Int), .int .i64 (b : Int), .int .i64 cc3, .int .i64 n] 27) = w1 := ⟨_, rfl⟩
  have b1 : Blk w1 w.heap.size 27 #[.int .i64 4, .int .i64 (a : Int), .int .i64 (b : Int), .int .i64 cc3, .int .i64 n] := by rw [← hw1]; exact Blk.new w _ _
  have o1 : Only [] w w1 := by rw [← hw1]; exact (Only.refl [] w).alloc _
  have hx1 := hx.only o1 (by simp) (by simp)
  have hm1 := hm.only o1 (by simp)
  obtain ⟨vb, hvb⟩ : ∃ v, x.f.r.getD b 0 = v := ⟨_, rfl⟩
  rw [hvb]
  obtain ⟨p1, p2, hp⟩ : ∃ p1 p2, oneP 4 vb = (p1, p2) := ⟨_, _, rfl⟩
  rw [hp]
  have cb : w1.cell? ⟨x.fb, b, none⟩ = some (.int .i64 vb) := by rw [hx1.2.1.cell b, Fr.at_r hx1.1 hb8, hvb]; rfl
  have HN : Hid (∀ wx, Calls Try.prog 69 #[.int .i64 4, .int .i64 vb] wx fun y w' => y = .returned (.tuple #[.int .i64 p1, .bool p2]) ∧ w' = wx) := Lib.hid (fun wx => by have h := one_4 vb wx; rw [show (truthP (decide (vb = 0))) = (p1, p2) from by rw [← hp]; rfl] at h; exact h)
  have HST := Lib.hid (fun wx (h : Only [] w1 wx) => stop_any mb cA cn cc fv at_ ov en 1 wx (hm1.only h (by simp)))
  have HX := Lib.hid hx1
  have HB := Lib.hid b1
  have HO1 := Lib.hid o1
  have q0 := b1.cell 0
  have hS : ((fun Y => Y.cell? ⟨w.heap.size, 0, none⟩ = some (.int .i64 4) ∧ Y.cell? ⟨w.heap.size, 2, none⟩ = some (.int .i64 (b : Int)) ∧ Y.cell? ⟨x.fb, b, none⟩ = some (.int .i64 vb)) : World → Prop) w1.drew := ⟨b1.cell 0, b1.cell 2, cb⟩
  clear b1 o1 hx1 hm1 hp hvb hm hx
  go_enter Try.func47, Try.ntmps47
  go_upto_region 10 with fail
  try rw [hw1]
  refine wp_region_hand (S := (fun Y => Y.cell? ⟨w.heap.size, 0, none⟩ = some (.int .i64 4) ∧ Y.cell? ⟨w.heap.size, 2, none⟩ = some (.int .i64 (b : Int)) ∧ Y.cell? ⟨x.fb, b, none⟩ = some (.int .i64 vb))) (by kernel_rfl) ?_
  refine takeW (i := 0) rfl (by kernel_rfl) (by kernel_rfl) (by kernel_rfl) (fun _ _ _ h => h) rfl (by rfl) (v := .pointer (some ⟨x.fb, 0, none⟩)) (fun Y hY => by obtain ⟨y0, y1, y2⟩ := hY; go_simp) hS ?_
  simp only [List.setIfInBounds_toArray, List.set_cons_zero, List.set_cons_succ]
  refine takeW (i := 1) rfl (by kernel_rfl) (by kernel_rfl) (by kernel_rfl) (fun _ _ _ h => h) rfl (by rfl) (v := .pointer (some ⟨w.heap.size, 2, none⟩)) (fun Y hY => by obtain ⟨y0, y1, y2⟩ := hY; go_simp) hS ?_
  simp only [List.setIfInBounds_toArray, List.set_cons_zero, List.set_cons_succ]
  refine takeW (i := 2) rfl (by kernel_rfl) (by kernel_rfl) (by kernel_rfl) (fun _ _ _ h => h) rfl (by rfl) (v := .int .i64 (b : Int)) (fun Y hY => by obtain ⟨y0, y1, y2⟩ := hY; go_simp) hS ?_
  simp only [List.setIfInBounds_toArray, List.set_cons_zero, List.set_cons_succ]
  refine takeW (i := 3) rfl (by kernel_rfl) (by kernel_rfl) (by kernel_rfl) (fun _ _ _ h => h) rfl (by rfl) (v := .pointer (some ⟨x.fb, 0, none⟩)) (fun Y hY => by obtain ⟨y0, y1, y2⟩ := hY; go_simp) hS ?_
  simp only [List.setIfInBounds_toArray, List.set_cons_zero, List.set_cons_succ]
  refine takeW (i := 4) rfl (by kernel_rfl) (by kernel_rfl) (by kernel_rfl) (fun _ _ _ h => h) rfl (by rfl) (v := .pointer (some ⟨x.fb, b, none⟩)) (fun Y hY => by obtain ⟨y0, y1, y2⟩ := hY; go_simp; intro h; omega) hS ?_
  simp only [List.setIfInBounds_toArray, List.set_cons_zero, List.set_cons_succ]
  refine takeW (i := 5) rfl (by kernel_rfl) (by kernel_rfl) (by kernel_rfl) (fun _ _ _ h => h) rfl (by rfl) (v := .int .i64 vb) (fun Y hY => by obtain ⟨y0, y1, y2⟩ := hY; go_simp) hS ?_
  simp only [List.setIfInBounds_toArray, List.set_cons_zero, List.set_cons_succ]
  refine callW (i := 6) rfl (by kernel_rfl) rfl (by rfl) ?_ ((HN.out _)) ?_
  · go_simp
  rintro x w2 ⟨rfl, hw2⟩
  have hw2 := hw2.symm
  subst hw2
  refine ⟨_, rfl, hS, ?_⟩
  simp only [List.setIfInBounds_toArray, List.set_cons_zero, List.set_cons_succ]
  refine takeW (i := 7) rfl (by kernel_rfl) (by kernel_rfl) (by kernel_rfl) (fun _ _ _ h => h) rfl (by rfl) (v := .tuple #[.int .i64 p1, .bool p2]) (fun Y hY => by obtain ⟨y0, y1, y2⟩ := hY; go_simp) hS ?_
  simp only [List.setIfInBounds_toArray, List.set_cons_zero, List.set_cons_succ]
  refine takeW (i := 8) rfl (by kernel_rfl) (by kernel_rfl) (by kernel_rfl) (fun _ _ _ h => h) rfl (by rfl) (v := .int .i64 p1) (fun Y hY => by obtain ⟨y0, y1, y2⟩ := hY; go_simp) hS ?_
  simp only [List.setIfInBounds_toArray, List.set_cons_zero, List.set_cons_succ]
  refine takeW (i := 9) rfl (by kernel_rfl) (by kernel_rfl) (by kernel_rfl) (fun _ _ _ h => h) rfl (by rfl) (v := .bool p2) (fun Y hY => by obtain ⟨y0, y1, y2⟩ := hY; go_simp) hS ?_
  simp only [List.setIfInBounds_toArray, List.set_cons_zero, List.set_cons_succ]
  refine takeW (i := 10) rfl (by kernel_rfl) (by kernel_rfl) (by kernel_rfl) (fun _ _ _ h => h) rfl (by rfl) (v := .int .i64 p1) (fun Y hY => by obtain ⟨y0, y1, y2⟩ := hY; go_simp) hS ?_
  simp only [List.setIfInBounds_toArray, List.set_cons_zero, List.set_cons_succ]
  refine takeW (i := 11) rfl (by kernel_rfl) (by kernel_rfl) (by kernel_rfl) (fun _ _ _ h => h) rfl (by rfl) (v := .bool p2) (fun Y hY => by obtain ⟨y0, y1, y2⟩ := hY; go_simp) hS ?_
  simp only [List.setIfInBounds_toArray, List.set_cons_zero, List.set_cons_succ]
  refine wpAnyH_done (by kernel_rfl) ?_ _
  clear hS q0 cb
  cases p2 with
  | false =>
    go_wp2_with fail
    refine (HST.out _ (Only.refl [] w1).drew).mono ?_
    rintro y w3 ⟨rfl, hb3, ho3⟩
    have HF := Lib.hid (And.intro hb3 (HO1.out.drew.mono (S' := [mb]) (by simp) |>.trans ho3 (fun g hg => .inl hg)))
    clear hb3 ho3
    go_wp2_with fail
    go_end0
    exact ⟨rfl, .inr ⟨rfl, HF.out.1, HF.out.2⟩⟩
  | true =>
    have hS2 : ((fun Y => Y.cell? ⟨w.heap.size, 1, none⟩ = some (.int .i64 (a : Int))) : World → Prop) w1.drew.drew := HB.out.drew.drew.cell 1
    have ca : w1.drew.drew.cell? ⟨x.fb, a, none⟩ = some (.int .i64 (x.f.r.getD a 0)) := by rw [HX.out.2.1.drew.drew.cell a, Fr.at_r HX.out.1 ha]; rfl
    have za := HX.out.2.1.drew.drew.frozen a
    have ho4 : Only [x.fb] w (w1.drew.drew.setCell ⟨x.fb, a, none⟩ (.int .i64 p1)) := (HO1.out.drew.drew.mono (by simp)).setCell (.inl (by simp)) _
    have hxd : FIn w1.drew.drew base x.fb x.sv x.f := HX.out.only (Only.refl [] w1).drew.drew (by simp) (by simp)
    have HF := Lib.hid (And.intro (set_in hxd ha p1) ho4)
    have HS2 : Hid (((fun Y => Y.cell? ⟨w.heap.size, 1, none⟩ = some (.int .i64 (a : Int))) : World → Prop) (w1.drew.drew.setCell ⟨x.fb, a, none⟩ (.int .i64 p1))) := Lib.hid ((HB.out.drew.drew.only ((Only.refl [x.fb] w1.drew.drew).setCell (p := ⟨x.fb, a, none⟩) (.inl (by simp)) _) (by
      intro h
      exact Blk.ne_ HB.out HX.out.2.1 (by decide) (List.mem_singleton.1 h))).cell 1)
    clear ho4 hxd
    go_upto_region 13 with fail
    refine wp_region_hand (S := (fun Y => Y.cell? ⟨w.heap.size, 1, none⟩ = some (.int .i64 (a : Int)))) (by kernel_rfl) ?_
    refine takeW (i := 0) rfl (by kernel_rfl) (by kernel_rfl) (by kernel_rfl) (fun _ _ _ h => h) rfl (by rfl) (v := .pointer (some ⟨x.fb, 0, none⟩)) (fun Y hY => by have y0 := hY; go_simp) hS2 ?_
    simp only [List.setIfInBounds_toArray, List.set_cons_zero, List.set_cons_succ]
    refine takeW (i := 1) rfl (by kernel_rfl) (by kernel_rfl) (by kernel_rfl) (fun _ _ _ h => h) rfl (by rfl) (v := .pointer (some ⟨w.heap.size, 1, none⟩)) (fun Y hY => by have y0 := hY; go_simp) hS2 ?_
    simp only [List.setIfInBounds_toArray, List.set_cons_zero, List.set_cons_succ]
    refine takeW (i := 2) rfl (by kernel_rfl) (by kernel_rfl) (by kernel_rfl) (fun _ _ _ h => h) rfl (by rfl) (v := .int .i64 (a : Int)) (fun Y hY => by have y0 := hY; go_simp) hS2 ?_
    simp only [List.setIfInBounds_toArray, List.set_cons_zero, List.set_cons_succ]
    refine takeW (i := 3) rfl (by kernel_rfl) (by kernel_rfl) (by kernel_rfl) (fun _ _ _ h => h) rfl (by rfl) (v := .int .i64 p1) (fun Y hY => by have y0 := hY; go_simp) hS2 ?_
    simp only [List.setIfInBounds_toArray, List.set_cons_zero, List.set_cons_succ]
    refine takeW (i := 4) rfl (by kernel_rfl) (by kernel_rfl) (by kernel_rfl) (fun _ _ _ h => h) rfl (by rfl) (v := .pointer (some ⟨x.fb, 0, none⟩)) (fun Y hY => by have y0 := hY; go_simp) hS2 ?_
    simp only [List.setIfInBounds_toArray, List.set_cons_zero, List.set_cons_succ]
    refine takeW (i := 5) rfl (by kernel_rfl) (by kernel_rfl) (by kernel_rfl) (fun _ _ _ h => h) rfl (by rfl) (v := .pointer (some ⟨x.fb, a, none⟩)) (fun Y hY => by have y0 := hY; go_simp; intro h; omega) hS2 ?_
    simp only [List.setIfInBounds_toArray, List.set_cons_zero, List.set_cons_succ]
    refine oneS (i := 6) (v := undef) (w' := w1.drew.drew.setCell ⟨x.fb, a, none⟩ (.int .i64 p1)) rfl (by kernel_rfl) rfl (by rfl) (by first | (left; go_simp; done) | (right; go_simp; done)) HS2.out ?_
    refine wpAnyH_done (by kernel_rfl) ?_ _
    go_wp2_with fail
    go_end0
    exact ⟨rfl, .inl ⟨rfl, HF.out.1, HF.out.2⟩⟩
set_option maxHeartbeats 8000000 in
theorem reck_5 (base mb : Nat) (cA : Option Addr) (cn cc : Nat) (fv : Value) (at_ : Int) (ov : Value) (en : Int) (x : FB) (a b c : Nat) (n : Int) (w : World) (hm : Blk w mb 58 (mcells cA cn cc fv at_ ov en false)) (hx : FIn w base x.fb x.sv x.f) (ha : a < 8) (hb8 : b < 8) (hc8 : c < 8) :
    Calls Try.prog 47 #[.pointer (some ⟨mb, 0, none⟩), .pointer (some ⟨x.fb, 0, none⟩), .agg #[.int .i64 5, .int .i64 (a : Int), .int .i64 (b : Int), .int .i64 (c : Int), .int .i64 n]] w (ReckO w base mb cA cn cc fv at_ ov en x a (twoP 5 (x.f.r.getD b 0) (x.f.r.getD c 0))) := by
  obtain ⟨w1, hw1⟩ : ∃ w1, w.alloc (.cells #[.int .i64 5, .int .i64 (a : Int), .int .i64 (b : Int), .int .i64 (c : Int), .int .i64 n] 27) = w1 := ⟨_, rfl⟩
  have b1 : Blk w1 w.heap.size 27 #[.int .i64 5, .int .i64 (a : Int), .int .i64 (b : Int), .int .i64 (c : Int), .int .i64 n] := by rw [← hw1]; exact Blk.new w _ _
  have o1 : Only [] w w1 := by rw [← hw1]; exact (Only.refl [] w).alloc _
  have hx1 := hx.only o1 (by simp) (by simp)
  have hm1 := hm.only o1 (by simp)
  obtain ⟨vb, hvb⟩ : ∃ v, x.f.r.getD b 0 = v := ⟨_, rfl⟩
  obtain ⟨vc, hvc⟩ : ∃ v, x.f.r.getD c 0 = v := ⟨_, rfl⟩
  rw [hvb, hvc]
  obtain ⟨p1, p2, hp⟩ : ∃ p1 p2, twoP 5 vb vc = (p1, p2) := ⟨_, _, rfl⟩
  rw [hp]
  have cb : w1.cell? ⟨x.fb, b, none⟩ = some (.int .i64 vb) := by rw [hx1.2.1.cell b, Fr.at_r hx1.1 hb8, hvb]; rfl
  have ccx : w1.cell? ⟨x.fb, c, none⟩ = some (.int .i64 vc) := by rw [hx1.2.1.cell c, Fr.at_r hx1.1 hc8, hvc]; rfl
  have HN : Hid (∀ wx, Calls Try.prog 70 #[.int .i64 5, .int .i64 vb, .int .i64 vc] wx fun y w' => y = .returned (.tuple #[.int .i64 p1, .bool p2]) ∧ w' = wx) := Lib.hid (fun wx => by have h := two_5 vb vc wx; rw [show ((wrap64 (vb * vc), true)) = (p1, p2) from by rw [← hp]; rfl] at h; exact h)
  have HST := Lib.hid (fun wx (h : Only [] w1 wx) => stop_any mb cA cn cc fv at_ ov en 1 wx (hm1.only h (by simp)))
  have HX := Lib.hid hx1
  have HB := Lib.hid b1
  have HO1 := Lib.hid o1
  have q0 := b1.cell 0
  have hS : ((fun Y => Y.cell? ⟨w.heap.size, 0, none⟩ = some (.int .i64 5) ∧ Y.cell? ⟨w.heap.size, 2, none⟩ = some (.int .i64 (b : Int)) ∧ Y.cell? ⟨x.fb, b, none⟩ = some (.int .i64 vb) ∧ Y.cell? ⟨w.heap.size, 3, none⟩ = some (.int .i64 (c : Int)) ∧ Y.cell? ⟨x.fb, c, none⟩ = some (.int .i64 vc)) : World → Prop) w1.drew := ⟨b1.cell 0, b1.cell 2, cb, b1.cell 3, ccx⟩
  clear b1 o1 hx1 hm1 hp hvb hvc hm hx
  go_enter Try.func47, Try.ntmps47
  go_upto_region 4 with fail
  try rw [hw1]
  refine wp_region_hand (S := (fun Y => Y.cell? ⟨w.heap.size, 0, none⟩ = some (.int .i64 5) ∧ Y.cell? ⟨w.heap.size, 2, none⟩ = some (.int .i64 (b : Int)) ∧ Y.cell? ⟨x.fb, b, none⟩ = some (.int .i64 vb) ∧ Y.cell? ⟨w.heap.size, 3, none⟩ = some (.int .i64 (c : Int)) ∧ Y.cell? ⟨x.fb, c, none⟩ = some (.int .i64 vc))) (by kernel_rfl) ?_
  refine takeW (i := 0) rfl (by kernel_rfl) (by kernel_rfl) (by kernel_rfl) (fun _ _ _ h => h) rfl (by rfl) (v := .pointer (some ⟨w.heap.size, 0, none⟩)) (fun Y hY => by obtain ⟨y0, y1, y2, y3, y4⟩ := hY; go_simp) hS ?_
  simp only [List.setIfInBounds_toArray, List.set_cons_zero, List.set_cons_succ]
  refine takeW (i := 1) rfl (by kernel_rfl) (by kernel_rfl) (by kernel_rfl) (fun _ _ _ h => h) rfl (by rfl) (v := .int .i64 5) (fun Y hY => by obtain ⟨y0, y1, y2, y3, y4⟩ := hY; go_simp) hS ?_
  simp only [List.setIfInBounds_toArray, List.set_cons_zero, List.set_cons_succ]
  refine takeW (i := 2) rfl (by kernel_rfl) (by kernel_rfl) (by kernel_rfl) (fun _ _ _ h => h) rfl (by rfl) (v := .int .i64 0) (fun Y hY => by obtain ⟨y0, y1, y2, y3, y4⟩ := hY; go_simp; try rfl) hS ?_
  simp only [List.setIfInBounds_toArray, List.set_cons_zero, List.set_cons_succ]
  refine takeW (i := 3) rfl (by kernel_rfl) (by kernel_rfl) (by kernel_rfl) (fun _ _ _ h => h) rfl (by rfl) (v := .int .i64 5) (fun Y hY => by obtain ⟨y0, y1, y2, y3, y4⟩ := hY; go_simp; try rfl) hS ?_
  simp only [List.setIfInBounds_toArray, List.set_cons_zero, List.set_cons_succ]
  refine takeW (i := 4) rfl (by kernel_rfl) (by kernel_rfl) (by kernel_rfl) (fun _ _ _ h => h) rfl (by rfl) (v := .pointer (some ⟨x.fb, 0, none⟩)) (fun Y hY => by obtain ⟨y0, y1, y2, y3, y4⟩ := hY; go_simp) hS ?_
  simp only [List.setIfInBounds_toArray, List.set_cons_zero, List.set_cons_succ]
  refine takeW (i := 5) rfl (by kernel_rfl) (by kernel_rfl) (by kernel_rfl) (fun _ _ _ h => h) rfl (by rfl) (v := .pointer (some ⟨w.heap.size, 2, none⟩)) (fun Y hY => by obtain ⟨y0, y1, y2, y3, y4⟩ := hY; go_simp) hS ?_
  simp only [List.setIfInBounds_toArray, List.set_cons_zero, List.set_cons_succ]
  refine takeW (i := 6) rfl (by kernel_rfl) (by kernel_rfl) (by kernel_rfl) (fun _ _ _ h => h) rfl (by rfl) (v := .int .i64 (b : Int)) (fun Y hY => by obtain ⟨y0, y1, y2, y3, y4⟩ := hY; go_simp) hS ?_
  simp only [List.setIfInBounds_toArray, List.set_cons_zero, List.set_cons_succ]
  refine takeW (i := 7) rfl (by kernel_rfl) (by kernel_rfl) (by kernel_rfl) (fun _ _ _ h => h) rfl (by rfl) (v := .pointer (some ⟨x.fb, 0, none⟩)) (fun Y hY => by obtain ⟨y0, y1, y2, y3, y4⟩ := hY; go_simp) hS ?_
  simp only [List.setIfInBounds_toArray, List.set_cons_zero, List.set_cons_succ]
  refine takeW (i := 8) rfl (by kernel_rfl) (by kernel_rfl) (by kernel_rfl) (fun _ _ _ h => h) rfl (by rfl) (v := .pointer (some ⟨x.fb, b, none⟩)) (fun Y hY => by obtain ⟨y0, y1, y2, y3, y4⟩ := hY; go_simp; intro h; omega) hS ?_
  simp only [List.setIfInBounds_toArray, List.set_cons_zero, List.set_cons_succ]
  refine takeW (i := 9) rfl (by kernel_rfl) (by kernel_rfl) (by kernel_rfl) (fun _ _ _ h => h) rfl (by rfl) (v := .int .i64 vb) (fun Y hY => by obtain ⟨y0, y1, y2, y3, y4⟩ := hY; go_simp) hS ?_
  simp only [List.setIfInBounds_toArray, List.set_cons_zero, List.set_cons_succ]
  refine takeW (i := 10) rfl (by kernel_rfl) (by kernel_rfl) (by kernel_rfl) (fun _ _ _ h => h) rfl (by rfl) (v := .pointer (some ⟨x.fb, 0, none⟩)) (fun Y hY => by obtain ⟨y0, y1, y2, y3, y4⟩ := hY; go_simp) hS ?_
  simp only [List.setIfInBounds_toArray, List.set_cons_zero, List.set_cons_succ]
  refine takeW (i := 11) rfl (by kernel_rfl) (by kernel_rfl) (by kernel_rfl) (fun _ _ _ h => h) rfl (by rfl) (v := .pointer (some ⟨w.heap.size, 3, none⟩)) (fun Y hY => by obtain ⟨y0, y1, y2, y3, y4⟩ := hY; go_simp) hS ?_
  simp only [List.setIfInBounds_toArray, List.set_cons_zero, List.set_cons_succ]
  refine takeW (i := 12) rfl (by kernel_rfl) (by kernel_rfl) (by kernel_rfl) (fun _ _ _ h => h) rfl (by rfl) (v := .int .i64 (c : Int)) (fun Y hY => by obtain ⟨y0, y1, y2, y3, y4⟩ := hY; go_simp) hS ?_
  simp only [List.setIfInBounds_toArray, List.set_cons_zero, List.set_cons_succ]
  refine takeW (i := 13) rfl (by kernel_rfl) (by kernel_rfl) (by kernel_rfl) (fun _ _ _ h => h) rfl (by rfl) (v := .pointer (some ⟨x.fb, 0, none⟩)) (fun Y hY => by obtain ⟨y0, y1, y2, y3, y4⟩ := hY; go_simp) hS ?_
  simp only [List.setIfInBounds_toArray, List.set_cons_zero, List.set_cons_succ]
  refine takeW (i := 14) rfl (by kernel_rfl) (by kernel_rfl) (by kernel_rfl) (fun _ _ _ h => h) rfl (by rfl) (v := .pointer (some ⟨x.fb, c, none⟩)) (fun Y hY => by obtain ⟨y0, y1, y2, y3, y4⟩ := hY; go_simp; intro h; omega) hS ?_
  simp only [List.setIfInBounds_toArray, List.set_cons_zero, List.set_cons_succ]
  refine takeW (i := 15) rfl (by kernel_rfl) (by kernel_rfl) (by kernel_rfl) (fun _ _ _ h => h) rfl (by rfl) (v := .int .i64 vc) (fun Y hY => by obtain ⟨y0, y1, y2, y3, y4⟩ := hY; go_simp) hS ?_
  simp only [List.setIfInBounds_toArray, List.set_cons_zero, List.set_cons_succ]
  refine callW (i := 16) rfl (by kernel_rfl) rfl (by rfl) ?_ ((HN.out _)) ?_
  · go_simp
  rintro x w2 ⟨rfl, hw2⟩
  have hw2 := hw2.symm
  subst hw2
  refine ⟨_, rfl, hS, ?_⟩
  simp only [List.setIfInBounds_toArray, List.set_cons_zero, List.set_cons_succ]
  refine takeW (i := 17) rfl (by kernel_rfl) (by kernel_rfl) (by kernel_rfl) (fun _ _ _ h => h) rfl (by rfl) (v := .tuple #[.int .i64 p1, .bool p2]) (fun Y hY => by obtain ⟨y0, y1, y2, y3, y4⟩ := hY; go_simp) hS ?_
  simp only [List.setIfInBounds_toArray, List.set_cons_zero, List.set_cons_succ]
  refine takeW (i := 18) rfl (by kernel_rfl) (by kernel_rfl) (by kernel_rfl) (fun _ _ _ h => h) rfl (by rfl) (v := .int .i64 p1) (fun Y hY => by obtain ⟨y0, y1, y2, y3, y4⟩ := hY; go_simp) hS ?_
  simp only [List.setIfInBounds_toArray, List.set_cons_zero, List.set_cons_succ]
  refine takeW (i := 19) rfl (by kernel_rfl) (by kernel_rfl) (by kernel_rfl) (fun _ _ _ h => h) rfl (by rfl) (v := .bool p2) (fun Y hY => by obtain ⟨y0, y1, y2, y3, y4⟩ := hY; go_simp) hS ?_
  simp only [List.setIfInBounds_toArray, List.set_cons_zero, List.set_cons_succ]
  refine takeW (i := 20) rfl (by kernel_rfl) (by kernel_rfl) (by kernel_rfl) (fun _ _ _ h => h) rfl (by rfl) (v := .int .i64 p1) (fun Y hY => by obtain ⟨y0, y1, y2, y3, y4⟩ := hY; go_simp) hS ?_
  simp only [List.setIfInBounds_toArray, List.set_cons_zero, List.set_cons_succ]
  refine takeW (i := 21) rfl (by kernel_rfl) (by kernel_rfl) (by kernel_rfl) (fun _ _ _ h => h) rfl (by rfl) (v := .bool p2) (fun Y hY => by obtain ⟨y0, y1, y2, y3, y4⟩ := hY; go_simp) hS ?_
  simp only [List.setIfInBounds_toArray, List.set_cons_zero, List.set_cons_succ]
  refine wpAnyH_done (by kernel_rfl) ?_ _
  clear hS q0 cb ccx
  cases p2 with
  | false =>
    go_wp2_with fail
    refine (HST.out _ (Only.refl [] w1).drew).mono ?_
    rintro y w3 ⟨rfl, hb3, ho3⟩
    have HF := Lib.hid (And.intro hb3 (HO1.out.drew.mono (S' := [mb]) (by simp) |>.trans ho3 (fun g hg => .inl hg)))
    clear hb3 ho3
    go_wp2_with fail
    go_end0
    exact ⟨rfl, .inr ⟨rfl, HF.out.1, HF.out.2⟩⟩
  | true =>
    have hS2 : ((fun Y => Y.cell? ⟨w.heap.size, 1, none⟩ = some (.int .i64 (a : Int))) : World → Prop) w1.drew.drew := HB.out.drew.drew.cell 1
    have ca : w1.drew.drew.cell? ⟨x.fb, a, none⟩ = some (.int .i64 (x.f.r.getD a 0)) := by rw [HX.out.2.1.drew.drew.cell a, Fr.at_r HX.out.1 ha]; rfl
    have za := HX.out.2.1.drew.drew.frozen a
    have ho4 : Only [x.fb] w (w1.drew.drew.setCell ⟨x.fb, a, none⟩ (.int .i64 p1)) := (HO1.out.drew.drew.mono (by simp)).setCell (.inl (by simp)) _
    have hxd : FIn w1.drew.drew base x.fb x.sv x.f := HX.out.only (Only.refl [] w1).drew.drew (by simp) (by simp)
    have HF := Lib.hid (And.intro (set_in hxd ha p1) ho4)
    have HS2 : Hid (((fun Y => Y.cell? ⟨w.heap.size, 1, none⟩ = some (.int .i64 (a : Int))) : World → Prop) (w1.drew.drew.setCell ⟨x.fb, a, none⟩ (.int .i64 p1))) := Lib.hid ((HB.out.drew.drew.only ((Only.refl [x.fb] w1.drew.drew).setCell (p := ⟨x.fb, a, none⟩) (.inl (by simp)) _) (by
      intro h
      exact Blk.ne_ HB.out HX.out.2.1 (by decide) (List.mem_singleton.1 h))).cell 1)
    clear ho4 hxd
    go_upto_region 13 with fail
    refine wp_region_hand (S := (fun Y => Y.cell? ⟨w.heap.size, 1, none⟩ = some (.int .i64 (a : Int)))) (by kernel_rfl) ?_
    refine takeW (i := 0) rfl (by kernel_rfl) (by kernel_rfl) (by kernel_rfl) (fun _ _ _ h => h) rfl (by rfl) (v := .pointer (some ⟨x.fb, 0, none⟩)) (fun Y hY => by have y0 := hY; go_simp) hS2 ?_
    simp only [List.setIfInBounds_toArray, List.set_cons_zero, List.set_cons_succ]
    refine takeW (i := 1) rfl (by kernel_rfl) (by kernel_rfl) (by kernel_rfl) (fun _ _ _ h => h) rfl (by rfl) (v := .pointer (some ⟨w.heap.size, 1, none⟩)) (fun Y hY => by have y0 := hY; go_simp) hS2 ?_
    simp only [List.setIfInBounds_toArray, List.set_cons_zero, List.set_cons_succ]
    refine takeW (i := 2) rfl (by kernel_rfl) (by kernel_rfl) (by kernel_rfl) (fun _ _ _ h => h) rfl (by rfl) (v := .int .i64 (a : Int)) (fun Y hY => by have y0 := hY; go_simp) hS2 ?_
    simp only [List.setIfInBounds_toArray, List.set_cons_zero, List.set_cons_succ]
    refine takeW (i := 3) rfl (by kernel_rfl) (by kernel_rfl) (by kernel_rfl) (fun _ _ _ h => h) rfl (by rfl) (v := .int .i64 p1) (fun Y hY => by have y0 := hY; go_simp) hS2 ?_
    simp only [List.setIfInBounds_toArray, List.set_cons_zero, List.set_cons_succ]
    refine takeW (i := 4) rfl (by kernel_rfl) (by kernel_rfl) (by kernel_rfl) (fun _ _ _ h => h) rfl (by rfl) (v := .pointer (some ⟨x.fb, 0, none⟩)) (fun Y hY => by have y0 := hY; go_simp) hS2 ?_
    simp only [List.setIfInBounds_toArray, List.set_cons_zero, List.set_cons_succ]
    refine takeW (i := 5) rfl (by kernel_rfl) (by kernel_rfl) (by kernel_rfl) (fun _ _ _ h => h) rfl (by rfl) (v := .pointer (some ⟨x.fb, a, none⟩)) (fun Y hY => by have y0 := hY; go_simp; intro h; omega) hS2 ?_
    simp only [List.setIfInBounds_toArray, List.set_cons_zero, List.set_cons_succ]
    refine oneS (i := 6) (v := undef) (w' := w1.drew.drew.setCell ⟨x.fb, a, none⟩ (.int .i64 p1)) rfl (by kernel_rfl) rfl (by rfl) (by first | (left; go_simp; done) | (right; go_simp; done)) HS2.out ?_
    refine wpAnyH_done (by kernel_rfl) ?_ _
    go_wp2_with fail
    go_end0
    exact ⟨rfl, .inl ⟨rfl, HF.out.1, HF.out.2⟩⟩
set_option maxHeartbeats 8000000 in
theorem reck_6 (base mb : Nat) (cA : Option Addr) (cn cc : Nat) (fv : Value) (at_ : Int) (ov : Value) (en : Int) (x : FB) (a b c : Nat) (n : Int) (w : World) (hm : Blk w mb 58 (mcells cA cn cc fv at_ ov en false)) (hx : FIn w base x.fb x.sv x.f) (ha : a < 8) (hb8 : b < 8) (hc8 : c < 8) :
    Calls Try.prog 47 #[.pointer (some ⟨mb, 0, none⟩), .pointer (some ⟨x.fb, 0, none⟩), .agg #[.int .i64 6, .int .i64 (a : Int), .int .i64 (b : Int), .int .i64 (c : Int), .int .i64 n]] w (ReckO w base mb cA cn cc fv at_ ov en x a (twoP 6 (x.f.r.getD b 0) (x.f.r.getD c 0))) := by
  obtain ⟨w1, hw1⟩ : ∃ w1, w.alloc (.cells #[.int .i64 6, .int .i64 (a : Int), .int .i64 (b : Int), .int .i64 (c : Int), .int .i64 n] 27) = w1 := ⟨_, rfl⟩
  have b1 : Blk w1 w.heap.size 27 #[.int .i64 6, .int .i64 (a : Int), .int .i64 (b : Int), .int .i64 (c : Int), .int .i64 n] := by rw [← hw1]; exact Blk.new w _ _
  have o1 : Only [] w w1 := by rw [← hw1]; exact (Only.refl [] w).alloc _
  have hx1 := hx.only o1 (by simp) (by simp)
  have hm1 := hm.only o1 (by simp)
  obtain ⟨vb, hvb⟩ : ∃ v, x.f.r.getD b 0 = v := ⟨_, rfl⟩
  obtain ⟨vc, hvc⟩ : ∃ v, x.f.r.getD c 0 = v := ⟨_, rfl⟩
  rw [hvb, hvc]
  obtain ⟨p1, p2, hp⟩ : ∃ p1 p2, twoP 6 vb vc = (p1, p2) := ⟨_, _, rfl⟩
  rw [hp]
  have cb : w1.cell? ⟨x.fb, b, none⟩ = some (.int .i64 vb) := by rw [hx1.2.1.cell b, Fr.at_r hx1.1 hb8, hvb]; rfl
  have ccx : w1.cell? ⟨x.fb, c, none⟩ = some (.int .i64 vc) := by rw [hx1.2.1.cell c, Fr.at_r hx1.1 hc8, hvc]; rfl
  have HN : Hid (∀ wx, Calls Try.prog 70 #[.int .i64 6, .int .i64 vb, .int .i64 vc] wx fun y w' => y = .returned (.tuple #[.int .i64 p1, .bool p2]) ∧ w' = wx) := Lib.hid (fun wx => by have h := two_6 vb vc wx; rw [show (partP 6 vb vc) = (p1, p2) from by rw [← hp]; rfl] at h; exact h)
  have HST := Lib.hid (fun wx (h : Only [] w1 wx) => stop_any mb cA cn cc fv at_ ov en 1 wx (hm1.only h (by simp)))
  have HX := Lib.hid hx1
  have HB := Lib.hid b1
  have HO1 := Lib.hid o1
  have q0 := b1.cell 0
  have hS : ((fun Y => Y.cell? ⟨w.heap.size, 0, none⟩ = some (.int .i64 6) ∧ Y.cell? ⟨w.heap.size, 2, none⟩ = some (.int .i64 (b : Int)) ∧ Y.cell? ⟨x.fb, b, none⟩ = some (.int .i64 vb) ∧ Y.cell? ⟨w.heap.size, 3, none⟩ = some (.int .i64 (c : Int)) ∧ Y.cell? ⟨x.fb, c, none⟩ = some (.int .i64 vc)) : World → Prop) w1.drew := ⟨b1.cell 0, b1.cell 2, cb, b1.cell 3, ccx⟩
  clear b1 o1 hx1 hm1 hp hvb hvc hm hx
  go_enter Try.func47, Try.ntmps47
  go_upto_region 4 with fail
  try rw [hw1]
  refine wp_region_hand (S := (fun Y => Y.cell? ⟨w.heap.size, 0, none⟩ = some (.int .i64 6) ∧ Y.cell? ⟨w.heap.size, 2, none⟩ = some (.int .i64 (b : Int)) ∧ Y.cell? ⟨x.fb, b, none⟩ = some (.int .i64 vb) ∧ Y.cell? ⟨w.heap.size, 3, none⟩ = some (.int .i64 (c : Int)) ∧ Y.cell? ⟨x.fb, c, none⟩ = some (.int .i64 vc))) (by kernel_rfl) ?_
  refine takeW (i := 0) rfl (by kernel_rfl) (by kernel_rfl) (by kernel_rfl) (fun _ _ _ h => h) rfl (by rfl) (v := .pointer (some ⟨w.heap.size, 0, none⟩)) (fun Y hY => by obtain ⟨y0, y1, y2, y3, y4⟩ := hY; go_simp) hS ?_
  simp only [List.setIfInBounds_toArray, List.set_cons_zero, List.set_cons_succ]
  refine takeW (i := 1) rfl (by kernel_rfl) (by kernel_rfl) (by kernel_rfl) (fun _ _ _ h => h) rfl (by rfl) (v := .int .i64 6) (fun Y hY => by obtain ⟨y0, y1, y2, y3, y4⟩ := hY; go_simp) hS ?_
  simp only [List.setIfInBounds_toArray, List.set_cons_zero, List.set_cons_succ]
  refine takeW (i := 2) rfl (by kernel_rfl) (by kernel_rfl) (by kernel_rfl) (fun _ _ _ h => h) rfl (by rfl) (v := .int .i64 1) (fun Y hY => by obtain ⟨y0, y1, y2, y3, y4⟩ := hY; go_simp; try rfl) hS ?_
  simp only [List.setIfInBounds_toArray, List.set_cons_zero, List.set_cons_succ]
  refine takeW (i := 3) rfl (by kernel_rfl) (by kernel_rfl) (by kernel_rfl) (fun _ _ _ h => h) rfl (by rfl) (v := .int .i64 6) (fun Y hY => by obtain ⟨y0, y1, y2, y3, y4⟩ := hY; go_simp; try rfl) hS ?_
  simp only [List.setIfInBounds_toArray, List.set_cons_zero, List.set_cons_succ]
  refine takeW (i := 4) rfl (by kernel_rfl) (by kernel_rfl) (by kernel_rfl) (fun _ _ _ h => h) rfl (by rfl) (v := .pointer (some ⟨x.fb, 0, none⟩)) (fun Y hY => by obtain ⟨y0, y1, y2, y3, y4⟩ := hY; go_simp) hS ?_
  simp only [List.setIfInBounds_toArray, List.set_cons_zero, List.set_cons_succ]
  refine takeW (i := 5) rfl (by kernel_rfl) (by kernel_rfl) (by kernel_rfl) (fun _ _ _ h => h) rfl (by rfl) (v := .pointer (some ⟨w.heap.size, 2, none⟩)) (fun Y hY => by obtain ⟨y0, y1, y2, y3, y4⟩ := hY; go_simp) hS ?_
  simp only [List.setIfInBounds_toArray, List.set_cons_zero, List.set_cons_succ]
  refine takeW (i := 6) rfl (by kernel_rfl) (by kernel_rfl) (by kernel_rfl) (fun _ _ _ h => h) rfl (by rfl) (v := .int .i64 (b : Int)) (fun Y hY => by obtain ⟨y0, y1, y2, y3, y4⟩ := hY; go_simp) hS ?_
  simp only [List.setIfInBounds_toArray, List.set_cons_zero, List.set_cons_succ]
  refine takeW (i := 7) rfl (by kernel_rfl) (by kernel_rfl) (by kernel_rfl) (fun _ _ _ h => h) rfl (by rfl) (v := .pointer (some ⟨x.fb, 0, none⟩)) (fun Y hY => by obtain ⟨y0, y1, y2, y3, y4⟩ := hY; go_simp) hS ?_
  simp only [List.setIfInBounds_toArray, List.set_cons_zero, List.set_cons_succ]
  refine takeW (i := 8) rfl (by kernel_rfl) (by kernel_rfl) (by kernel_rfl) (fun _ _ _ h => h) rfl (by rfl) (v := .pointer (some ⟨x.fb, b, none⟩)) (fun Y hY => by obtain ⟨y0, y1, y2, y3, y4⟩ := hY; go_simp; intro h; omega) hS ?_
  simp only [List.setIfInBounds_toArray, List.set_cons_zero, List.set_cons_succ]
  refine takeW (i := 9) rfl (by kernel_rfl) (by kernel_rfl) (by kernel_rfl) (fun _ _ _ h => h) rfl (by rfl) (v := .int .i64 vb) (fun Y hY => by obtain ⟨y0, y1, y2, y3, y4⟩ := hY; go_simp) hS ?_
  simp only [List.setIfInBounds_toArray, List.set_cons_zero, List.set_cons_succ]
  refine takeW (i := 10) rfl (by kernel_rfl) (by kernel_rfl) (by kernel_rfl) (fun _ _ _ h => h) rfl (by rfl) (v := .pointer (some ⟨x.fb, 0, none⟩)) (fun Y hY => by obtain ⟨y0, y1, y2, y3, y4⟩ := hY; go_simp) hS ?_
  simp only [List.setIfInBounds_toArray, List.set_cons_zero, List.set_cons_succ]
  refine takeW (i := 11) rfl (by kernel_rfl) (by kernel_rfl) (by kernel_rfl) (fun _ _ _ h => h) rfl (by rfl) (v := .pointer (some ⟨w.heap.size, 3, none⟩)) (fun Y hY => by obtain ⟨y0, y1, y2, y3, y4⟩ := hY; go_simp) hS ?_
  simp only [List.setIfInBounds_toArray, List.set_cons_zero, List.set_cons_succ]
  refine takeW (i := 12) rfl (by kernel_rfl) (by kernel_rfl) (by kernel_rfl) (fun _ _ _ h => h) rfl (by rfl) (v := .int .i64 (c : Int)) (fun Y hY => by obtain ⟨y0, y1, y2, y3, y4⟩ := hY; go_simp) hS ?_
  simp only [List.setIfInBounds_toArray, List.set_cons_zero, List.set_cons_succ]
  refine takeW (i := 13) rfl (by kernel_rfl) (by kernel_rfl) (by kernel_rfl) (fun _ _ _ h => h) rfl (by rfl) (v := .pointer (some ⟨x.fb, 0, none⟩)) (fun Y hY => by obtain ⟨y0, y1, y2, y3, y4⟩ := hY; go_simp) hS ?_
  simp only [List.setIfInBounds_toArray, List.set_cons_zero, List.set_cons_succ]
  refine takeW (i := 14) rfl (by kernel_rfl) (by kernel_rfl) (by kernel_rfl) (fun _ _ _ h => h) rfl (by rfl) (v := .pointer (some ⟨x.fb, c, none⟩)) (fun Y hY => by obtain ⟨y0, y1, y2, y3, y4⟩ := hY; go_simp; intro h; omega) hS ?_
  simp only [List.setIfInBounds_toArray, List.set_cons_zero, List.set_cons_succ]
  refine takeW (i := 15) rfl (by kernel_rfl) (by kernel_rfl) (by kernel_rfl) (fun _ _ _ h => h) rfl (by rfl) (v := .int .i64 vc) (fun Y hY => by obtain ⟨y0, y1, y2, y3, y4⟩ := hY; go_simp) hS ?_
  simp only [List.setIfInBounds_toArray, List.set_cons_zero, List.set_cons_succ]
  refine callW (i := 16) rfl (by kernel_rfl) rfl (by rfl) ?_ ((HN.out _)) ?_
  · go_simp
  rintro x w2 ⟨rfl, hw2⟩
  have hw2 := hw2.symm
  subst hw2
  refine ⟨_, rfl, hS, ?_⟩
  simp only [List.setIfInBounds_toArray, List.set_cons_zero, List.set_cons_succ]
  refine takeW (i := 17) rfl (by kernel_rfl) (by kernel_rfl) (by kernel_rfl) (fun _ _ _ h => h) rfl (by rfl) (v := .tuple #[.int .i64 p1, .bool p2]) (fun Y hY => by obtain ⟨y0, y1, y2, y3, y4⟩ := hY; go_simp) hS ?_
  simp only [List.setIfInBounds_toArray, List.set_cons_zero, List.set_cons_succ]
  refine takeW (i := 18) rfl (by kernel_rfl) (by kernel_rfl) (by kernel_rfl) (fun _ _ _ h => h) rfl (by rfl) (v := .int .i64 p1) (fun Y hY => by obtain ⟨y0, y1, y2, y3, y4⟩ := hY; go_simp) hS ?_
  simp only [List.setIfInBounds_toArray, List.set_cons_zero, List.set_cons_succ]
  refine takeW (i := 19) rfl (by kernel_rfl) (by kernel_rfl) (by kernel_rfl) (fun _ _ _ h => h) rfl (by rfl) (v := .bool p2) (fun Y hY => by obtain ⟨y0, y1, y2, y3, y4⟩ := hY; go_simp) hS ?_
  simp only [List.setIfInBounds_toArray, List.set_cons_zero, List.set_cons_succ]
  refine takeW (i := 20) rfl (by kernel_rfl) (by kernel_rfl) (by kernel_rfl) (fun _ _ _ h => h) rfl (by rfl) (v := .int .i64 p1) (fun Y hY => by obtain ⟨y0, y1, y2, y3, y4⟩ := hY; go_simp) hS ?_
  simp only [List.setIfInBounds_toArray, List.set_cons_zero, List.set_cons_succ]
  refine takeW (i := 21) rfl (by kernel_rfl) (by kernel_rfl) (by kernel_rfl) (fun _ _ _ h => h) rfl (by rfl) (v := .bool p2) (fun Y hY => by obtain ⟨y0, y1, y2, y3, y4⟩ := hY; go_simp) hS ?_
  simp only [List.setIfInBounds_toArray, List.set_cons_zero, List.set_cons_succ]
  refine wpAnyH_done (by kernel_rfl) ?_ _
  clear hS q0 cb ccx
  cases p2 with
  | false =>
    go_wp2_with fail
    refine (HST.out _ (Only.refl [] w1).drew).mono ?_
    rintro y w3 ⟨rfl, hb3, ho3⟩
    have HF := Lib.hid (And.intro hb3 (HO1.out.drew.mono (S' := [mb]) (by simp) |>.trans ho3 (fun g hg => .inl hg)))
    clear hb3 ho3
    go_wp2_with fail
    go_end0
    exact ⟨rfl, .inr ⟨rfl, HF.out.1, HF.out.2⟩⟩
  | true =>
    have hS2 : ((fun Y => Y.cell? ⟨w.heap.size, 1, none⟩ = some (.int .i64 (a : Int))) : World → Prop) w1.drew.drew := HB.out.drew.drew.cell 1
    have ca : w1.drew.drew.cell? ⟨x.fb, a, none⟩ = some (.int .i64 (x.f.r.getD a 0)) := by rw [HX.out.2.1.drew.drew.cell a, Fr.at_r HX.out.1 ha]; rfl
    have za := HX.out.2.1.drew.drew.frozen a
    have ho4 : Only [x.fb] w (w1.drew.drew.setCell ⟨x.fb, a, none⟩ (.int .i64 p1)) := (HO1.out.drew.drew.mono (by simp)).setCell (.inl (by simp)) _
    have hxd : FIn w1.drew.drew base x.fb x.sv x.f := HX.out.only (Only.refl [] w1).drew.drew (by simp) (by simp)
    have HF := Lib.hid (And.intro (set_in hxd ha p1) ho4)
    have HS2 : Hid (((fun Y => Y.cell? ⟨w.heap.size, 1, none⟩ = some (.int .i64 (a : Int))) : World → Prop) (w1.drew.drew.setCell ⟨x.fb, a, none⟩ (.int .i64 p1))) := Lib.hid ((HB.out.drew.drew.only ((Only.refl [x.fb] w1.drew.drew).setCell (p := ⟨x.fb, a, none⟩) (.inl (by simp)) _) (by
      intro h
      exact Blk.ne_ HB.out HX.out.2.1 (by decide) (List.mem_singleton.1 h))).cell 1)
    clear ho4 hxd
    go_upto_region 13 with fail
    refine wp_region_hand (S := (fun Y => Y.cell? ⟨w.heap.size, 1, none⟩ = some (.int .i64 (a : Int)))) (by kernel_rfl) ?_
    refine takeW (i := 0) rfl (by kernel_rfl) (by kernel_rfl) (by kernel_rfl) (fun _ _ _ h => h) rfl (by rfl) (v := .pointer (some ⟨x.fb, 0, none⟩)) (fun Y hY => by have y0 := hY; go_simp) hS2 ?_
    simp only [List.setIfInBounds_toArray, List.set_cons_zero, List.set_cons_succ]
    refine takeW (i := 1) rfl (by kernel_rfl) (by kernel_rfl) (by kernel_rfl) (fun _ _ _ h => h) rfl (by rfl) (v := .pointer (some ⟨w.heap.size, 1, none⟩)) (fun Y hY => by have y0 := hY; go_simp) hS2 ?_
    simp only [List.setIfInBounds_toArray, List.set_cons_zero, List.set_cons_succ]
    refine takeW (i := 2) rfl (by kernel_rfl) (by kernel_rfl) (by kernel_rfl) (fun _ _ _ h => h) rfl (by rfl) (v := .int .i64 (a : Int)) (fun Y hY => by have y0 := hY; go_simp) hS2 ?_
    simp only [List.setIfInBounds_toArray, List.set_cons_zero, List.set_cons_succ]
    refine takeW (i := 3) rfl (by kernel_rfl) (by kernel_rfl) (by kernel_rfl) (fun _ _ _ h => h) rfl (by rfl) (v := .int .i64 p1) (fun Y hY => by have y0 := hY; go_simp) hS2 ?_
    simp only [List.setIfInBounds_toArray, List.set_cons_zero, List.set_cons_succ]
    refine takeW (i := 4) rfl (by kernel_rfl) (by kernel_rfl) (by kernel_rfl) (fun _ _ _ h => h) rfl (by rfl) (v := .pointer (some ⟨x.fb, 0, none⟩)) (fun Y hY => by have y0 := hY; go_simp) hS2 ?_
    simp only [List.setIfInBounds_toArray, List.set_cons_zero, List.set_cons_succ]
    refine takeW (i := 5) rfl (by kernel_rfl) (by kernel_rfl) (by kernel_rfl) (fun _ _ _ h => h) rfl (by rfl) (v := .pointer (some ⟨x.fb, a, none⟩)) (fun Y hY => by have y0 := hY; go_simp; intro h; omega) hS2 ?_
    simp only [List.setIfInBounds_toArray, List.set_cons_zero, List.set_cons_succ]
    refine oneS (i := 6) (v := undef) (w' := w1.drew.drew.setCell ⟨x.fb, a, none⟩ (.int .i64 p1)) rfl (by kernel_rfl) rfl (by rfl) (by first | (left; go_simp; done) | (right; go_simp; done)) HS2.out ?_
    refine wpAnyH_done (by kernel_rfl) ?_ _
    go_wp2_with fail
    go_end0
    exact ⟨rfl, .inl ⟨rfl, HF.out.1, HF.out.2⟩⟩
set_option maxHeartbeats 8000000 in
theorem reck_7 (base mb : Nat) (cA : Option Addr) (cn cc : Nat) (fv : Value) (at_ : Int) (ov : Value) (en : Int) (x : FB) (a b c : Nat) (n : Int) (w : World) (hm : Blk w mb 58 (mcells cA cn cc fv at_ ov en false)) (hx : FIn w base x.fb x.sv x.f) (ha : a < 8) (hb8 : b < 8) (hc8 : c < 8) :
    Calls Try.prog 47 #[.pointer (some ⟨mb, 0, none⟩), .pointer (some ⟨x.fb, 0, none⟩), .agg #[.int .i64 7, .int .i64 (a : Int), .int .i64 (b : Int), .int .i64 (c : Int), .int .i64 n]] w (ReckO w base mb cA cn cc fv at_ ov en x a (twoP 7 (x.f.r.getD b 0) (x.f.r.getD c 0))) := by
  obtain ⟨w1, hw1⟩ : ∃ w1, w.alloc (.cells #[.int .i64 7, .int .i64 (a : Int), .int .i64 (b : Int), .int .i64 (c : Int), .int .i64 n] 27) = w1 := ⟨_, rfl⟩
  have b1 : Blk w1 w.heap.size 27 #[.int .i64 7, .int .i64 (a : Int), .int .i64 (b : Int), .int .i64 (c : Int), .int .i64 n] := by rw [← hw1]; exact Blk.new w _ _
  have o1 : Only [] w w1 := by rw [← hw1]; exact (Only.refl [] w).alloc _
  have hx1 := hx.only o1 (by simp) (by simp)
  have hm1 := hm.only o1 (by simp)
  obtain ⟨vb, hvb⟩ : ∃ v, x.f.r.getD b 0 = v := ⟨_, rfl⟩
  obtain ⟨vc, hvc⟩ : ∃ v, x.f.r.getD c 0 = v := ⟨_, rfl⟩
  rw [hvb, hvc]
  obtain ⟨p1, p2, hp⟩ : ∃ p1 p2, twoP 7 vb vc = (p1, p2) := ⟨_, _, rfl⟩
  rw [hp]
  have cb : w1.cell? ⟨x.fb, b, none⟩ = some (.int .i64 vb) := by rw [hx1.2.1.cell b, Fr.at_r hx1.1 hb8, hvb]; rfl
  have ccx : w1.cell? ⟨x.fb, c, none⟩ = some (.int .i64 vc) := by rw [hx1.2.1.cell c, Fr.at_r hx1.1 hc8, hvc]; rfl
  have HN : Hid (∀ wx, Calls Try.prog 70 #[.int .i64 7, .int .i64 vb, .int .i64 vc] wx fun y w' => y = .returned (.tuple #[.int .i64 p1, .bool p2]) ∧ w' = wx) := Lib.hid (fun wx => by have h := two_7 vb vc wx; rw [show (partP 7 vb vc) = (p1, p2) from by rw [← hp]; rfl] at h; exact h)
  have HST := Lib.hid (fun wx (h : Only [] w1 wx) => stop_any mb cA cn cc fv at_ ov en 1 wx (hm1.only h (by simp)))
  have HX := Lib.hid hx1
  have HB := Lib.hid b1
  have HO1 := Lib.hid o1
  have q0 := b1.cell 0
  have hS : ((fun Y => Y.cell? ⟨w.heap.size, 0, none⟩ = some (.int .i64 7) ∧ Y.cell? ⟨w.heap.size, 2, none⟩ = some (.int .i64 (b : Int)) ∧ Y.cell? ⟨x.fb, b, none⟩ = some (.int .i64 vb) ∧ Y.cell? ⟨w.heap.size, 3, none⟩ = some (.int .i64 (c : Int)) ∧ Y.cell? ⟨x.fb, c, none⟩ = some (.int .i64 vc)) : World → Prop) w1.drew := ⟨b1.cell 0, b1.cell 2, cb, b1.cell 3, ccx⟩
  clear b1 o1 hx1 hm1 hp hvb hvc hm hx
  go_enter Try.func47, Try.ntmps47
  go_upto_region 4 with fail
  try rw [hw1]
  refine wp_region_hand (S := (fun Y => Y.cell? ⟨w.heap.size, 0, none⟩ = some (.int .i64 7) ∧ Y.cell? ⟨w.heap.size, 2, none⟩ = some (.int .i64 (b : Int)) ∧ Y.cell? ⟨x.fb, b, none⟩ = some (.int .i64 vb) ∧ Y.cell? ⟨w.heap.size, 3, none⟩ = some (.int .i64 (c : Int)) ∧ Y.cell? ⟨x.fb, c, none⟩ = some (.int .i64 vc))) (by kernel_rfl) ?_
  refine takeW (i := 0) rfl (by kernel_rfl) (by kernel_rfl) (by kernel_rfl) (fun _ _ _ h => h) rfl (by rfl) (v := .pointer (some ⟨w.heap.size, 0, none⟩)) (fun Y hY => by obtain ⟨y0, y1, y2, y3, y4⟩ := hY; go_simp) hS ?_
  simp only [List.setIfInBounds_toArray, List.set_cons_zero, List.set_cons_succ]
  refine takeW (i := 1) rfl (by kernel_rfl) (by kernel_rfl) (by kernel_rfl) (fun _ _ _ h => h) rfl (by rfl) (v := .int .i64 7) (fun Y hY => by obtain ⟨y0, y1, y2, y3, y4⟩ := hY; go_simp) hS ?_
  simp only [List.setIfInBounds_toArray, List.set_cons_zero, List.set_cons_succ]
  refine takeW (i := 2) rfl (by kernel_rfl) (by kernel_rfl) (by kernel_rfl) (fun _ _ _ h => h) rfl (by rfl) (v := .int .i64 2) (fun Y hY => by obtain ⟨y0, y1, y2, y3, y4⟩ := hY; go_simp; try rfl) hS ?_
  simp only [List.setIfInBounds_toArray, List.set_cons_zero, List.set_cons_succ]
  refine takeW (i := 3) rfl (by kernel_rfl) (by kernel_rfl) (by kernel_rfl) (fun _ _ _ h => h) rfl (by rfl) (v := .int .i64 7) (fun Y hY => by obtain ⟨y0, y1, y2, y3, y4⟩ := hY; go_simp; try rfl) hS ?_
  simp only [List.setIfInBounds_toArray, List.set_cons_zero, List.set_cons_succ]
  refine takeW (i := 4) rfl (by kernel_rfl) (by kernel_rfl) (by kernel_rfl) (fun _ _ _ h => h) rfl (by rfl) (v := .pointer (some ⟨x.fb, 0, none⟩)) (fun Y hY => by obtain ⟨y0, y1, y2, y3, y4⟩ := hY; go_simp) hS ?_
  simp only [List.setIfInBounds_toArray, List.set_cons_zero, List.set_cons_succ]
  refine takeW (i := 5) rfl (by kernel_rfl) (by kernel_rfl) (by kernel_rfl) (fun _ _ _ h => h) rfl (by rfl) (v := .pointer (some ⟨w.heap.size, 2, none⟩)) (fun Y hY => by obtain ⟨y0, y1, y2, y3, y4⟩ := hY; go_simp) hS ?_
  simp only [List.setIfInBounds_toArray, List.set_cons_zero, List.set_cons_succ]
  refine takeW (i := 6) rfl (by kernel_rfl) (by kernel_rfl) (by kernel_rfl) (fun _ _ _ h => h) rfl (by rfl) (v := .int .i64 (b : Int)) (fun Y hY => by obtain ⟨y0, y1, y2, y3, y4⟩ := hY; go_simp) hS ?_
  simp only [List.setIfInBounds_toArray, List.set_cons_zero, List.set_cons_succ]
  refine takeW (i := 7) rfl (by kernel_rfl) (by kernel_rfl) (by kernel_rfl) (fun _ _ _ h => h) rfl (by rfl) (v := .pointer (some ⟨x.fb, 0, none⟩)) (fun Y hY => by obtain ⟨y0, y1, y2, y3, y4⟩ := hY; go_simp) hS ?_
  simp only [List.setIfInBounds_toArray, List.set_cons_zero, List.set_cons_succ]
  refine takeW (i := 8) rfl (by kernel_rfl) (by kernel_rfl) (by kernel_rfl) (fun _ _ _ h => h) rfl (by rfl) (v := .pointer (some ⟨x.fb, b, none⟩)) (fun Y hY => by obtain ⟨y0, y1, y2, y3, y4⟩ := hY; go_simp; intro h; omega) hS ?_
  simp only [List.setIfInBounds_toArray, List.set_cons_zero, List.set_cons_succ]
  refine takeW (i := 9) rfl (by kernel_rfl) (by kernel_rfl) (by kernel_rfl) (fun _ _ _ h => h) rfl (by rfl) (v := .int .i64 vb) (fun Y hY => by obtain ⟨y0, y1, y2, y3, y4⟩ := hY; go_simp) hS ?_
  simp only [List.setIfInBounds_toArray, List.set_cons_zero, List.set_cons_succ]
  refine takeW (i := 10) rfl (by kernel_rfl) (by kernel_rfl) (by kernel_rfl) (fun _ _ _ h => h) rfl (by rfl) (v := .pointer (some ⟨x.fb, 0, none⟩)) (fun Y hY => by obtain ⟨y0, y1, y2, y3, y4⟩ := hY; go_simp) hS ?_
  simp only [List.setIfInBounds_toArray, List.set_cons_zero, List.set_cons_succ]
  refine takeW (i := 11) rfl (by kernel_rfl) (by kernel_rfl) (by kernel_rfl) (fun _ _ _ h => h) rfl (by rfl) (v := .pointer (some ⟨w.heap.size, 3, none⟩)) (fun Y hY => by obtain ⟨y0, y1, y2, y3, y4⟩ := hY; go_simp) hS ?_
  simp only [List.setIfInBounds_toArray, List.set_cons_zero, List.set_cons_succ]
  refine takeW (i := 12) rfl (by kernel_rfl) (by kernel_rfl) (by kernel_rfl) (fun _ _ _ h => h) rfl (by rfl) (v := .int .i64 (c : Int)) (fun Y hY => by obtain ⟨y0, y1, y2, y3, y4⟩ := hY; go_simp) hS ?_
  simp only [List.setIfInBounds_toArray, List.set_cons_zero, List.set_cons_succ]
  refine takeW (i := 13) rfl (by kernel_rfl) (by kernel_rfl) (by kernel_rfl) (fun _ _ _ h => h) rfl (by rfl) (v := .pointer (some ⟨x.fb, 0, none⟩)) (fun Y hY => by obtain ⟨y0, y1, y2, y3, y4⟩ := hY; go_simp) hS ?_
  simp only [List.setIfInBounds_toArray, List.set_cons_zero, List.set_cons_succ]
  refine takeW (i := 14) rfl (by kernel_rfl) (by kernel_rfl) (by kernel_rfl) (fun _ _ _ h => h) rfl (by rfl) (v := .pointer (some ⟨x.fb, c, none⟩)) (fun Y hY => by obtain ⟨y0, y1, y2, y3, y4⟩ := hY; go_simp; intro h; omega) hS ?_
  simp only [List.setIfInBounds_toArray, List.set_cons_zero, List.set_cons_succ]
  refine takeW (i := 15) rfl (by kernel_rfl) (by kernel_rfl) (by kernel_rfl) (fun _ _ _ h => h) rfl (by rfl) (v := .int .i64 vc) (fun Y hY => by obtain ⟨y0, y1, y2, y3, y4⟩ := hY; go_simp) hS ?_
  simp only [List.setIfInBounds_toArray, List.set_cons_zero, List.set_cons_succ]
  refine callW (i := 16) rfl (by kernel_rfl) rfl (by rfl) ?_ ((HN.out _)) ?_
  · go_simp
  rintro x w2 ⟨rfl, hw2⟩
  have hw2 := hw2.symm
  subst hw2
  refine ⟨_, rfl, hS, ?_⟩
  simp only [List.setIfInBounds_toArray, List.set_cons_zero, List.set_cons_succ]
  refine takeW (i := 17) rfl (by kernel_rfl) (by kernel_rfl) (by kernel_rfl) (fun _ _ _ h => h) rfl (by rfl) (v := .tuple #[.int .i64 p1, .bool p2]) (fun Y hY => by obtain ⟨y0, y1, y2, y3, y4⟩ := hY; go_simp) hS ?_
  simp only [List.setIfInBounds_toArray, List.set_cons_zero, List.set_cons_succ]
  refine takeW (i := 18) rfl (by kernel_rfl) (by kernel_rfl) (by kernel_rfl) (fun _ _ _ h => h) rfl (by rfl) (v := .int .i64 p1) (fun Y hY => by obtain ⟨y0, y1, y2, y3, y4⟩ := hY; go_simp) hS ?_
  simp only [List.setIfInBounds_toArray, List.set_cons_zero, List.set_cons_succ]
  refine takeW (i := 19) rfl (by kernel_rfl) (by kernel_rfl) (by kernel_rfl) (fun _ _ _ h => h) rfl (by rfl) (v := .bool p2) (fun Y hY => by obtain ⟨y0, y1, y2, y3, y4⟩ := hY; go_simp) hS ?_
  simp only [List.setIfInBounds_toArray, List.set_cons_zero, List.set_cons_succ]
  refine takeW (i := 20) rfl (by kernel_rfl) (by kernel_rfl) (by kernel_rfl) (fun _ _ _ h => h) rfl (by rfl) (v := .int .i64 p1) (fun Y hY => by obtain ⟨y0, y1, y2, y3, y4⟩ := hY; go_simp) hS ?_
  simp only [List.setIfInBounds_toArray, List.set_cons_zero, List.set_cons_succ]
  refine takeW (i := 21) rfl (by kernel_rfl) (by kernel_rfl) (by kernel_rfl) (fun _ _ _ h => h) rfl (by rfl) (v := .bool p2) (fun Y hY => by obtain ⟨y0, y1, y2, y3, y4⟩ := hY; go_simp) hS ?_
  simp only [List.setIfInBounds_toArray, List.set_cons_zero, List.set_cons_succ]
  refine wpAnyH_done (by kernel_rfl) ?_ _
  clear hS q0 cb ccx
  cases p2 with
  | false =>
    go_wp2_with fail
    refine (HST.out _ (Only.refl [] w1).drew).mono ?_
    rintro y w3 ⟨rfl, hb3, ho3⟩
    have HF := Lib.hid (And.intro hb3 (HO1.out.drew.mono (S' := [mb]) (by simp) |>.trans ho3 (fun g hg => .inl hg)))
    clear hb3 ho3
    go_wp2_with fail
    go_end0
    exact ⟨rfl, .inr ⟨rfl, HF.out.1, HF.out.2⟩⟩
  | true =>
    have hS2 : ((fun Y => Y.cell? ⟨w.heap.size, 1, none⟩ = some (.int .i64 (a : Int))) : World → Prop) w1.drew.drew := HB.out.drew.drew.cell 1
    have ca : w1.drew.drew.cell? ⟨x.fb, a, none⟩ = some (.int .i64 (x.f.r.getD a 0)) := by rw [HX.out.2.1.drew.drew.cell a, Fr.at_r HX.out.1 ha]; rfl
    have za := HX.out.2.1.drew.drew.frozen a
    have ho4 : Only [x.fb] w (w1.drew.drew.setCell ⟨x.fb, a, none⟩ (.int .i64 p1)) := (HO1.out.drew.drew.mono (by simp)).setCell (.inl (by simp)) _
    have hxd : FIn w1.drew.drew base x.fb x.sv x.f := HX.out.only (Only.refl [] w1).drew.drew (by simp) (by simp)
    have HF := Lib.hid (And.intro (set_in hxd ha p1) ho4)
    have HS2 : Hid (((fun Y => Y.cell? ⟨w.heap.size, 1, none⟩ = some (.int .i64 (a : Int))) : World → Prop) (w1.drew.drew.setCell ⟨x.fb, a, none⟩ (.int .i64 p1))) := Lib.hid ((HB.out.drew.drew.only ((Only.refl [x.fb] w1.drew.drew).setCell (p := ⟨x.fb, a, none⟩) (.inl (by simp)) _) (by
      intro h
      exact Blk.ne_ HB.out HX.out.2.1 (by decide) (List.mem_singleton.1 h))).cell 1)
    clear ho4 hxd
    go_upto_region 13 with fail
    refine wp_region_hand (S := (fun Y => Y.cell? ⟨w.heap.size, 1, none⟩ = some (.int .i64 (a : Int)))) (by kernel_rfl) ?_
    refine takeW (i := 0) rfl (by kernel_rfl) (by kernel_rfl) (by kernel_rfl) (fun _ _ _ h => h) rfl (by rfl) (v := .pointer (some ⟨x.fb, 0, none⟩)) (fun Y hY => by have y0 := hY; go_simp) hS2 ?_
    simp only [List.setIfInBounds_toArray, List.set_cons_zero, List.set_cons_succ]
    refine takeW (i := 1) rfl (by kernel_rfl) (by kernel_rfl) (by kernel_rfl) (fun _ _ _ h => h) rfl (by rfl) (v := .pointer (some ⟨w.heap.size, 1, none⟩)) (fun Y hY => by have y0 := hY; go_simp) hS2 ?_
    simp only [List.setIfInBounds_toArray, List.set_cons_zero, List.set_cons_succ]
    refine takeW (i := 2) rfl (by kernel_rfl) (by kernel_rfl) (by kernel_rfl) (fun _ _ _ h => h) rfl (by rfl) (v := .int .i64 (a : Int)) (fun Y hY => by have y0 := hY; go_simp) hS2 ?_
    simp only [List.setIfInBounds_toArray, List.set_cons_zero, List.set_cons_succ]
    refine takeW (i := 3) rfl (by kernel_rfl) (by kernel_rfl) (by kernel_rfl) (fun _ _ _ h => h) rfl (by rfl) (v := .int .i64 p1) (fun Y hY => by have y0 := hY; go_simp) hS2 ?_
    simp only [List.setIfInBounds_toArray, List.set_cons_zero, List.set_cons_succ]
    refine takeW (i := 4) rfl (by kernel_rfl) (by kernel_rfl) (by kernel_rfl) (fun _ _ _ h => h) rfl (by rfl) (v := .pointer (some ⟨x.fb, 0, none⟩)) (fun Y hY => by have y0 := hY; go_simp) hS2 ?_
    simp only [List.setIfInBounds_toArray, List.set_cons_zero, List.set_cons_succ]
    refine takeW (i := 5) rfl (by kernel_rfl) (by kernel_rfl) (by kernel_rfl) (fun _ _ _ h => h) rfl (by rfl) (v := .pointer (some ⟨x.fb, a, none⟩)) (fun Y hY => by have y0 := hY; go_simp; intro h; omega) hS2 ?_
    simp only [List.setIfInBounds_toArray, List.set_cons_zero, List.set_cons_succ]
    refine oneS (i := 6) (v := undef) (w' := w1.drew.drew.setCell ⟨x.fb, a, none⟩ (.int .i64 p1)) rfl (by kernel_rfl) rfl (by rfl) (by first | (left; go_simp; done) | (right; go_simp; done)) HS2.out ?_
    refine wpAnyH_done (by kernel_rfl) ?_ _
    go_wp2_with fail
    go_end0
    exact ⟨rfl, .inl ⟨rfl, HF.out.1, HF.out.2⟩⟩
set_option maxHeartbeats 8000000 in
theorem reck_8 (base mb : Nat) (cA : Option Addr) (cn cc : Nat) (fv : Value) (at_ : Int) (ov : Value) (en : Int) (x : FB) (a b c : Nat) (n : Int) (w : World) (hm : Blk w mb 58 (mcells cA cn cc fv at_ ov en false)) (hx : FIn w base x.fb x.sv x.f) (ha : a < 8) (hb8 : b < 8) (hc8 : c < 8) :
    Calls Try.prog 47 #[.pointer (some ⟨mb, 0, none⟩), .pointer (some ⟨x.fb, 0, none⟩), .agg #[.int .i64 8, .int .i64 (a : Int), .int .i64 (b : Int), .int .i64 (c : Int), .int .i64 n]] w (ReckO w base mb cA cn cc fv at_ ov en x a (twoP 8 (x.f.r.getD b 0) (x.f.r.getD c 0))) := by
  obtain ⟨w1, hw1⟩ : ∃ w1, w.alloc (.cells #[.int .i64 8, .int .i64 (a : Int), .int .i64 (b : Int), .int .i64 (c : Int), .int .i64 n] 27) = w1 := ⟨_, rfl⟩
  have b1 : Blk w1 w.heap.size 27 #[.int .i64 8, .int .i64 (a : Int), .int .i64 (b : Int), .int .i64 (c : Int), .int .i64 n] := by rw [← hw1]; exact Blk.new w _ _
  have o1 : Only [] w w1 := by rw [← hw1]; exact (Only.refl [] w).alloc _
  have hx1 := hx.only o1 (by simp) (by simp)
  have hm1 := hm.only o1 (by simp)
  obtain ⟨vb, hvb⟩ : ∃ v, x.f.r.getD b 0 = v := ⟨_, rfl⟩
  obtain ⟨vc, hvc⟩ : ∃ v, x.f.r.getD c 0 = v := ⟨_, rfl⟩
  rw [hvb, hvc]
  obtain ⟨p1, p2, hp⟩ : ∃ p1 p2, twoP 8 vb vc = (p1, p2) := ⟨_, _, rfl⟩
  rw [hp]
  have cb : w1.cell? ⟨x.fb, b, none⟩ = some (.int .i64 vb) := by rw [hx1.2.1.cell b, Fr.at_r hx1.1 hb8, hvb]; rfl
  have ccx : w1.cell? ⟨x.fb, c, none⟩ = some (.int .i64 vc) := by rw [hx1.2.1.cell c, Fr.at_r hx1.1 hc8, hvc]; rfl
  have HN : Hid (∀ wx, Calls Try.prog 70 #[.int .i64 8, .int .i64 vb, .int .i64 vc] wx fun y w' => y = .returned (.tuple #[.int .i64 p1, .bool p2]) ∧ w' = wx) := Lib.hid (fun wx => by have h := two_8 vb vc wx; rw [show ((wrap64 (vb + vc), true)) = (p1, p2) from by rw [← hp]; rfl] at h; exact h)
  have HST := Lib.hid (fun wx (h : Only [] w1 wx) => stop_any mb cA cn cc fv at_ ov en 1 wx (hm1.only h (by simp)))
  have HX := Lib.hid hx1
  have HB := Lib.hid b1
  have HO1 := Lib.hid o1
  have q0 := b1.cell 0
  have hS : ((fun Y => Y.cell? ⟨w.heap.size, 0, none⟩ = some (.int .i64 8) ∧ Y.cell? ⟨w.heap.size, 2, none⟩ = some (.int .i64 (b : Int)) ∧ Y.cell? ⟨x.fb, b, none⟩ = some (.int .i64 vb) ∧ Y.cell? ⟨w.heap.size, 3, none⟩ = some (.int .i64 (c : Int)) ∧ Y.cell? ⟨x.fb, c, none⟩ = some (.int .i64 vc)) : World → Prop) w1.drew := ⟨b1.cell 0, b1.cell 2, cb, b1.cell 3, ccx⟩
  clear b1 o1 hx1 hm1 hp hvb hvc hm hx
  go_enter Try.func47, Try.ntmps47
  go_upto_region 4 with fail
  try rw [hw1]
  refine wp_region_hand (S := (fun Y => Y.cell? ⟨w.heap.size, 0, none⟩ = some (.int .i64 8) ∧ Y.cell? ⟨w.heap.size, 2, none⟩ = some (.int .i64 (b : Int)) ∧ Y.cell? ⟨x.fb, b, none⟩ = some (.int .i64 vb) ∧ Y.cell? ⟨w.heap.size, 3, none⟩ = some (.int .i64 (c : Int)) ∧ Y.cell? ⟨x.fb, c, none⟩ = some (.int .i64 vc))) (by kernel_rfl) ?_
  refine takeW (i := 0) rfl (by kernel_rfl) (by kernel_rfl) (by kernel_rfl) (fun _ _ _ h => h) rfl (by rfl) (v := .pointer (some ⟨w.heap.size, 0, none⟩)) (fun Y hY => by obtain ⟨y0, y1, y2, y3, y4⟩ := hY; go_simp) hS ?_
  simp only [List.setIfInBounds_toArray, List.set_cons_zero, List.set_cons_succ]
  refine takeW (i := 1) rfl (by kernel_rfl) (by kernel_rfl) (by kernel_rfl) (fun _ _ _ h => h) rfl (by rfl) (v := .int .i64 8) (fun Y hY => by obtain ⟨y0, y1, y2, y3, y4⟩ := hY; go_simp) hS ?_
  simp only [List.setIfInBounds_toArray, List.set_cons_zero, List.set_cons_succ]
  refine takeW (i := 2) rfl (by kernel_rfl) (by kernel_rfl) (by kernel_rfl) (fun _ _ _ h => h) rfl (by rfl) (v := .int .i64 3) (fun Y hY => by obtain ⟨y0, y1, y2, y3, y4⟩ := hY; go_simp; try rfl) hS ?_
  simp only [List.setIfInBounds_toArray, List.set_cons_zero, List.set_cons_succ]
  refine takeW (i := 3) rfl (by kernel_rfl) (by kernel_rfl) (by kernel_rfl) (fun _ _ _ h => h) rfl (by rfl) (v := .int .i64 8) (fun Y hY => by obtain ⟨y0, y1, y2, y3, y4⟩ := hY; go_simp; try rfl) hS ?_
  simp only [List.setIfInBounds_toArray, List.set_cons_zero, List.set_cons_succ]
  refine takeW (i := 4) rfl (by kernel_rfl) (by kernel_rfl) (by kernel_rfl) (fun _ _ _ h => h) rfl (by rfl) (v := .pointer (some ⟨x.fb, 0, none⟩)) (fun Y hY => by obtain ⟨y0, y1, y2, y3, y4⟩ := hY; go_simp) hS ?_
  simp only [List.setIfInBounds_toArray, List.set_cons_zero, List.set_cons_succ]
  refine takeW (i := 5) rfl (by kernel_rfl) (by kernel_rfl) (by kernel_rfl) (fun _ _ _ h => h) rfl (by rfl) (v := .pointer (some ⟨w.heap.size, 2, none⟩)) (fun Y hY => by obtain ⟨y0, y1, y2, y3, y4⟩ := hY; go_simp) hS ?_
  simp only [List.setIfInBounds_toArray, List.set_cons_zero, List.set_cons_succ]
  refine takeW (i := 6) rfl (by kernel_rfl) (by kernel_rfl) (by kernel_rfl) (fun _ _ _ h => h) rfl (by rfl) (v := .int .i64 (b : Int)) (fun Y hY => by obtain ⟨y0, y1, y2, y3, y4⟩ := hY; go_simp) hS ?_
  simp only [List.setIfInBounds_toArray, List.set_cons_zero, List.set_cons_succ]
  refine takeW (i := 7) rfl (by kernel_rfl) (by kernel_rfl) (by kernel_rfl) (fun _ _ _ h => h) rfl (by rfl) (v := .pointer (some ⟨x.fb, 0, none⟩)) (fun Y hY => by obtain ⟨y0, y1, y2, y3, y4⟩ := hY; go_simp) hS ?_
  simp only [List.setIfInBounds_toArray, List.set_cons_zero, List.set_cons_succ]
  refine takeW (i := 8) rfl (by kernel_rfl) (by kernel_rfl) (by kernel_rfl) (fun _ _ _ h => h) rfl (by rfl) (v := .pointer (some ⟨x.fb, b, none⟩)) (fun Y hY => by obtain ⟨y0, y1, y2, y3, y4⟩ := hY; go_simp; intro h; omega) hS ?_
  simp only [List.setIfInBounds_toArray, List.set_cons_zero, List.set_cons_succ]
  refine takeW (i := 9) rfl (by kernel_rfl) (by kernel_rfl) (by kernel_rfl) (fun _ _ _ h => h) rfl (by rfl) (v := .int .i64 vb) (fun Y hY => by obtain ⟨y0, y1, y2, y3, y4⟩ := hY; go_simp) hS ?_
  simp only [List.setIfInBounds_toArray, List.set_cons_zero, List.set_cons_succ]
  refine takeW (i := 10) rfl (by kernel_rfl) (by kernel_rfl) (by kernel_rfl) (fun _ _ _ h => h) rfl (by rfl) (v := .pointer (some ⟨x.fb, 0, none⟩)) (fun Y hY => by obtain ⟨y0, y1, y2, y3, y4⟩ := hY; go_simp) hS ?_
  simp only [List.setIfInBounds_toArray, List.set_cons_zero, List.set_cons_succ]
  refine takeW (i := 11) rfl (by kernel_rfl) (by kernel_rfl) (by kernel_rfl) (fun _ _ _ h => h) rfl (by rfl) (v := .pointer (some ⟨w.heap.size, 3, none⟩)) (fun Y hY => by obtain ⟨y0, y1, y2, y3, y4⟩ := hY; go_simp) hS ?_
  simp only [List.setIfInBounds_toArray, List.set_cons_zero, List.set_cons_succ]
  refine takeW (i := 12) rfl (by kernel_rfl) (by kernel_rfl) (by kernel_rfl) (fun _ _ _ h => h) rfl (by rfl) (v := .int .i64 (c : Int)) (fun Y hY => by obtain ⟨y0, y1, y2, y3, y4⟩ := hY; go_simp) hS ?_
  simp only [List.setIfInBounds_toArray, List.set_cons_zero, List.set_cons_succ]
  refine takeW (i := 13) rfl (by kernel_rfl) (by kernel_rfl) (by kernel_rfl) (fun _ _ _ h => h) rfl (by rfl) (v := .pointer (some ⟨x.fb, 0, none⟩)) (fun Y hY => by obtain ⟨y0, y1, y2, y3, y4⟩ := hY; go_simp) hS ?_
  simp only [List.setIfInBounds_toArray, List.set_cons_zero, List.set_cons_succ]
  refine takeW (i := 14) rfl (by kernel_rfl) (by kernel_rfl) (by kernel_rfl) (fun _ _ _ h => h) rfl (by rfl) (v := .pointer (some ⟨x.fb, c, none⟩)) (fun Y hY => by obtain ⟨y0, y1, y2, y3, y4⟩ := hY; go_simp; intro h; omega) hS ?_
  simp only [List.setIfInBounds_toArray, List.set_cons_zero, List.set_cons_succ]
  refine takeW (i := 15) rfl (by kernel_rfl) (by kernel_rfl) (by kernel_rfl) (fun _ _ _ h => h) rfl (by rfl) (v := .int .i64 vc) (fun Y hY => by obtain ⟨y0, y1, y2, y3, y4⟩ := hY; go_simp) hS ?_
  simp only [List.setIfInBounds_toArray, List.set_cons_zero, List.set_cons_succ]
  refine callW (i := 16) rfl (by kernel_rfl) rfl (by rfl) ?_ ((HN.out _)) ?_
  · go_simp
  rintro x w2 ⟨rfl, hw2⟩
  have hw2 := hw2.symm
  subst hw2
  refine ⟨_, rfl, hS, ?_⟩
  simp only [List.setIfInBounds_toArray, List.set_cons_zero, List.set_cons_succ]
  refine takeW (i := 17) rfl (by kernel_rfl) (by kernel_rfl) (by kernel_rfl) (fun _ _ _ h => h) rfl (by rfl) (v := .tuple #[.int .i64 p1, .bool p2]) (fun Y hY => by obtain ⟨y0, y1, y2, y3, y4⟩ := hY; go_simp) hS ?_
  simp only [List.setIfInBounds_toArray, List.set_cons_zero, List.set_cons_succ]
  refine takeW (i := 18) rfl (by kernel_rfl) (by kernel_rfl) (by kernel_rfl) (fun _ _ _ h => h) rfl (by rfl) (v := .int .i64 p1) (fun Y hY => by obtain ⟨y0, y1, y2, y3, y4⟩ := hY; go_simp) hS ?_
  simp only [List.setIfInBounds_toArray, List.set_cons_zero, List.set_cons_succ]
  refine takeW (i := 19) rfl (by kernel_rfl) (by kernel_rfl) (by kernel_rfl) (fun _ _ _ h => h) rfl (by rfl) (v := .bool p2) (fun Y hY => by obtain ⟨y0, y1, y2, y3, y4⟩ := hY; go_simp) hS ?_
  simp only [List.setIfInBounds_toArray, List.set_cons_zero, List.set_cons_succ]
  refine takeW (i := 20) rfl (by kernel_rfl) (by kernel_rfl) (by kernel_rfl) (fun _ _ _ h => h) rfl (by rfl) (v := .int .i64 p1) (fun Y hY => by obtain ⟨y0, y1, y2, y3, y4⟩ := hY; go_simp) hS ?_
  simp only [List.setIfInBounds_toArray, List.set_cons_zero, List.set_cons_succ]
  refine takeW (i := 21) rfl (by kernel_rfl) (by kernel_rfl) (by kernel_rfl) (fun _ _ _ h => h) rfl (by rfl) (v := .bool p2) (fun Y hY => by obtain ⟨y0, y1, y2, y3, y4⟩ := hY; go_simp) hS ?_
  simp only [List.setIfInBounds_toArray, List.set_cons_zero, List.set_cons_succ]
  refine wpAnyH_done (by kernel_rfl) ?_ _
  clear hS q0 cb ccx
  cases p2 with
  | false =>
    go_wp2_with fail
    refine (HST.out _ (Only.refl [] w1).drew).mono ?_
    rintro y w3 ⟨rfl, hb3, ho3⟩
    have HF := Lib.hid (And.intro hb3 (HO1.out.drew.mono (S' := [mb]) (by simp) |>.trans ho3 (fun g hg => .inl hg)))
    clear hb3 ho3
    go_wp2_with fail
    go_end0
    exact ⟨rfl, .inr ⟨rfl, HF.out.1, HF.out.2⟩⟩
  | true =>
    have hS2 : ((fun Y => Y.cell? ⟨w.heap.size, 1, none⟩ = some (.int .i64 (a : Int))) : World → Prop) w1.drew.drew := HB.out.drew.drew.cell 1
    have ca : w1.drew.drew.cell? ⟨x.fb, a, none⟩ = some (.int .i64 (x.f.r.getD a 0)) := by rw [HX.out.2.1.drew.drew.cell a, Fr.at_r HX.out.1 ha]; rfl
    have za := HX.out.2.1.drew.drew.frozen a
    have ho4 : Only [x.fb] w (w1.drew.drew.setCell ⟨x.fb, a, none⟩ (.int .i64 p1)) := (HO1.out.drew.drew.mono (by simp)).setCell (.inl (by simp)) _
    have hxd : FIn w1.drew.drew base x.fb x.sv x.f := HX.out.only (Only.refl [] w1).drew.drew (by simp) (by simp)
    have HF := Lib.hid (And.intro (set_in hxd ha p1) ho4)
    have HS2 : Hid (((fun Y => Y.cell? ⟨w.heap.size, 1, none⟩ = some (.int .i64 (a : Int))) : World → Prop) (w1.drew.drew.setCell ⟨x.fb, a, none⟩ (.int .i64 p1))) := Lib.hid ((HB.out.drew.drew.only ((Only.refl [x.fb] w1.drew.drew).setCell (p := ⟨x.fb, a, none⟩) (.inl (by simp)) _) (by
      intro h
      exact Blk.ne_ HB.out HX.out.2.1 (by decide) (List.mem_singleton.1 h))).cell 1)
    clear ho4 hxd
    go_upto_region 13 with fail
    refine wp_region_hand (S := (fun Y => Y.cell? ⟨w.heap.size, 1, none⟩ = some (.int .i64 (a : Int)))) (by kernel_rfl) ?_
    refine takeW (i := 0) rfl (by kernel_rfl) (by kernel_rfl) (by kernel_rfl) (fun _ _ _ h => h) rfl (by rfl) (v := .pointer (some ⟨x.fb, 0, none⟩)) (fun Y hY => by have y0 := hY; go_simp) hS2 ?_
    simp only [List.setIfInBounds_toArray, List.set_cons_zero, List.set_cons_succ]
    refine takeW (i := 1) rfl (by kernel_rfl) (by kernel_rfl) (by kernel_rfl) (fun _ _ _ h => h) rfl (by rfl) (v := .pointer (some ⟨w.heap.size, 1, none⟩)) (fun Y hY => by have y0 := hY; go_simp) hS2 ?_
    simp only [List.setIfInBounds_toArray, List.set_cons_zero, List.set_cons_succ]
    refine takeW (i := 2) rfl (by kernel_rfl) (by kernel_rfl) (by kernel_rfl) (fun _ _ _ h => h) rfl (by rfl) (v := .int .i64 (a : Int)) (fun Y hY => by have y0 := hY; go_simp) hS2 ?_
    simp only [List.setIfInBounds_toArray, List.set_cons_zero, List.set_cons_succ]
    refine takeW (i := 3) rfl (by kernel_rfl) (by kernel_rfl) (by kernel_rfl) (fun _ _ _ h => h) rfl (by rfl) (v := .int .i64 p1) (fun Y hY => by have y0 := hY; go_simp) hS2 ?_
    simp only [List.setIfInBounds_toArray, List.set_cons_zero, List.set_cons_succ]
    refine takeW (i := 4) rfl (by kernel_rfl) (by kernel_rfl) (by kernel_rfl) (fun _ _ _ h => h) rfl (by rfl) (v := .pointer (some ⟨x.fb, 0, none⟩)) (fun Y hY => by have y0 := hY; go_simp) hS2 ?_
    simp only [List.setIfInBounds_toArray, List.set_cons_zero, List.set_cons_succ]
    refine takeW (i := 5) rfl (by kernel_rfl) (by kernel_rfl) (by kernel_rfl) (fun _ _ _ h => h) rfl (by rfl) (v := .pointer (some ⟨x.fb, a, none⟩)) (fun Y hY => by have y0 := hY; go_simp; intro h; omega) hS2 ?_
    simp only [List.setIfInBounds_toArray, List.set_cons_zero, List.set_cons_succ]
    refine oneS (i := 6) (v := undef) (w' := w1.drew.drew.setCell ⟨x.fb, a, none⟩ (.int .i64 p1)) rfl (by kernel_rfl) rfl (by rfl) (by first | (left; go_simp; done) | (right; go_simp; done)) HS2.out ?_
    refine wpAnyH_done (by kernel_rfl) ?_ _
    go_wp2_with fail
    go_end0
    exact ⟨rfl, .inl ⟨rfl, HF.out.1, HF.out.2⟩⟩
set_option maxHeartbeats 8000000 in
theorem reck_9 (base mb : Nat) (cA : Option Addr) (cn cc : Nat) (fv : Value) (at_ : Int) (ov : Value) (en : Int) (x : FB) (a b c : Nat) (n : Int) (w : World) (hm : Blk w mb 58 (mcells cA cn cc fv at_ ov en false)) (hx : FIn w base x.fb x.sv x.f) (ha : a < 8) (hb8 : b < 8) (hc8 : c < 8) :
    Calls Try.prog 47 #[.pointer (some ⟨mb, 0, none⟩), .pointer (some ⟨x.fb, 0, none⟩), .agg #[.int .i64 9, .int .i64 (a : Int), .int .i64 (b : Int), .int .i64 (c : Int), .int .i64 n]] w (ReckO w base mb cA cn cc fv at_ ov en x a (twoP 9 (x.f.r.getD b 0) (x.f.r.getD c 0))) := by
  obtain ⟨w1, hw1⟩ : ∃ w1, w.alloc (.cells #[.int .i64 9, .int .i64 (a : Int), .int .i64 (b : Int), .int .i64 (c : Int), .int .i64 n] 27) = w1 := ⟨_, rfl⟩
  have b1 : Blk w1 w.heap.size 27 #[.int .i64 9, .int .i64 (a : Int), .int .i64 (b : Int), .int .i64 (c : Int), .int .i64 n] := by rw [← hw1]; exact Blk.new w _ _
  have o1 : Only [] w w1 := by rw [← hw1]; exact (Only.refl [] w).alloc _
  have hx1 := hx.only o1 (by simp) (by simp)
  have hm1 := hm.only o1 (by simp)
  obtain ⟨vb, hvb⟩ : ∃ v, x.f.r.getD b 0 = v := ⟨_, rfl⟩
  obtain ⟨vc, hvc⟩ : ∃ v, x.f.r.getD c 0 = v := ⟨_, rfl⟩
  rw [hvb, hvc]
  obtain ⟨p1, p2, hp⟩ : ∃ p1 p2, twoP 9 vb vc = (p1, p2) := ⟨_, _, rfl⟩
  rw [hp]
  have cb : w1.cell? ⟨x.fb, b, none⟩ = some (.int .i64 vb) := by rw [hx1.2.1.cell b, Fr.at_r hx1.1 hb8, hvb]; rfl
  have ccx : w1.cell? ⟨x.fb, c, none⟩ = some (.int .i64 vc) := by rw [hx1.2.1.cell c, Fr.at_r hx1.1 hc8, hvc]; rfl
  have HN : Hid (∀ wx, Calls Try.prog 70 #[.int .i64 9, .int .i64 vb, .int .i64 vc] wx fun y w' => y = .returned (.tuple #[.int .i64 p1, .bool p2]) ∧ w' = wx) := Lib.hid (fun wx => by have h := two_9 vb vc wx; rw [show ((wrap64 (vb + wrap64 (-vc)), true)) = (p1, p2) from by rw [← hp]; rfl] at h; exact h)
  have HST := Lib.hid (fun wx (h : Only [] w1 wx) => stop_any mb cA cn cc fv at_ ov en 1 wx (hm1.only h (by simp)))
  have HX := Lib.hid hx1
  have HB := Lib.hid b1
  have HO1 := Lib.hid o1
  have q0 := b1.cell 0
  have hS : ((fun Y => Y.cell? ⟨w.heap.size, 0, none⟩ = some (.int .i64 9) ∧ Y.cell? ⟨w.heap.size, 2, none⟩ = some (.int .i64 (b : Int)) ∧ Y.cell? ⟨x.fb, b, none⟩ = some (.int .i64 vb) ∧ Y.cell? ⟨w.heap.size, 3, none⟩ = some (.int .i64 (c : Int)) ∧ Y.cell? ⟨x.fb, c, none⟩ = some (.int .i64 vc)) : World → Prop) w1.drew := ⟨b1.cell 0, b1.cell 2, cb, b1.cell 3, ccx⟩
  clear b1 o1 hx1 hm1 hp hvb hvc hm hx
  go_enter Try.func47, Try.ntmps47
  go_upto_region 4 with fail
  try rw [hw1]
  refine wp_region_hand (S := (fun Y => Y.cell? ⟨w.heap.size, 0, none⟩ = some (.int .i64 9) ∧ Y.cell? ⟨w.heap.size, 2, none⟩ = some (.int .i64 (b : Int)) ∧ Y.cell? ⟨x.fb, b, none⟩ = some (.int .i64 vb) ∧ Y.cell? ⟨w.heap.size, 3, none⟩ = some (.int .i64 (c : Int)) ∧ Y.cell? ⟨x.fb, c, none⟩ = some (.int .i64 vc))) (by kernel_rfl) ?_
  refine takeW (i := 0) rfl (by kernel_rfl) (by kernel_rfl) (by kernel_rfl) (fun _ _ _ h => h) rfl (by rfl) (v := .pointer (some ⟨w.heap.size, 0, none⟩)) (fun Y hY => by obtain ⟨y0, y1, y2, y3, y4⟩ := hY; go_simp) hS ?_
  simp only [List.setIfInBounds_toArray, List.set_cons_zero, List.set_cons_succ]
  refine takeW (i := 1) rfl (by kernel_rfl) (by kernel_rfl) (by kernel_rfl) (fun _ _ _ h => h) rfl (by rfl) (v := .int .i64 9) (fun Y hY => by obtain ⟨y0, y1, y2, y3, y4⟩ := hY; go_simp) hS ?_
  simp only [List.setIfInBounds_toArray, List.set_cons_zero, List.set_cons_succ]
  refine takeW (i := 2) rfl (by kernel_rfl) (by kernel_rfl) (by kernel_rfl) (fun _ _ _ h => h) rfl (by rfl) (v := .int .i64 4) (fun Y hY => by obtain ⟨y0, y1, y2, y3, y4⟩ := hY; go_simp; try rfl) hS ?_
  simp only [List.setIfInBounds_toArray, List.set_cons_zero, List.set_cons_succ]
  refine takeW (i := 3) rfl (by kernel_rfl) (by kernel_rfl) (by kernel_rfl) (fun _ _ _ h => h) rfl (by rfl) (v := .int .i64 9) (fun Y hY => by obtain ⟨y0, y1, y2, y3, y4⟩ := hY; go_simp; try rfl) hS ?_
  simp only [List.setIfInBounds_toArray, List.set_cons_zero, List.set_cons_succ]
  refine takeW (i := 4) rfl (by kernel_rfl) (by kernel_rfl) (by kernel_rfl) (fun _ _ _ h => h) rfl (by rfl) (v := .pointer (some ⟨x.fb, 0, none⟩)) (fun Y hY => by obtain ⟨y0, y1, y2, y3, y4⟩ := hY; go_simp) hS ?_
  simp only [List.setIfInBounds_toArray, List.set_cons_zero, List.set_cons_succ]
  refine takeW (i := 5) rfl (by kernel_rfl) (by kernel_rfl) (by kernel_rfl) (fun _ _ _ h => h) rfl (by rfl) (v := .pointer (some ⟨w.heap.size, 2, none⟩)) (fun Y hY => by obtain ⟨y0, y1, y2, y3, y4⟩ := hY; go_simp) hS ?_
  simp only [List.setIfInBounds_toArray, List.set_cons_zero, List.set_cons_succ]
  refine takeW (i := 6) rfl (by kernel_rfl) (by kernel_rfl) (by kernel_rfl) (fun _ _ _ h => h) rfl (by rfl) (v := .int .i64 (b : Int)) (fun Y hY => by obtain ⟨y0, y1, y2, y3, y4⟩ := hY; go_simp) hS ?_
  simp only [List.setIfInBounds_toArray, List.set_cons_zero, List.set_cons_succ]
  refine takeW (i := 7) rfl (by kernel_rfl) (by kernel_rfl) (by kernel_rfl) (fun _ _ _ h => h) rfl (by rfl) (v := .pointer (some ⟨x.fb, 0, none⟩)) (fun Y hY => by obtain ⟨y0, y1, y2, y3, y4⟩ := hY; go_simp) hS ?_
  simp only [List.setIfInBounds_toArray, List.set_cons_zero, List.set_cons_succ]
  refine takeW (i := 8) rfl (by kernel_rfl) (by kernel_rfl) (by kernel_rfl) (fun _ _ _ h => h) rfl (by rfl) (v := .pointer (some ⟨x.fb, b, none⟩)) (fun Y hY => by obtain ⟨y0, y1, y2, y3, y4⟩ := hY; go_simp; intro h; omega) hS ?_
  simp only [List.setIfInBounds_toArray, List.set_cons_zero, List.set_cons_succ]
  refine takeW (i := 9) rfl (by kernel_rfl) (by kernel_rfl) (by kernel_rfl) (fun _ _ _ h => h) rfl (by rfl) (v := .int .i64 vb) (fun Y hY => by obtain ⟨y0, y1, y2, y3, y4⟩ := hY; go_simp) hS ?_
  simp only [List.setIfInBounds_toArray, List.set_cons_zero, List.set_cons_succ]
  refine takeW (i := 10) rfl (by kernel_rfl) (by kernel_rfl) (by kernel_rfl) (fun _ _ _ h => h) rfl (by rfl) (v := .pointer (some ⟨x.fb, 0, none⟩)) (fun Y hY => by obtain ⟨y0, y1, y2, y3, y4⟩ := hY; go_simp) hS ?_
  simp only [List.setIfInBounds_toArray, List.set_cons_zero, List.set_cons_succ]
  refine takeW (i := 11) rfl (by kernel_rfl) (by kernel_rfl) (by kernel_rfl) (fun _ _ _ h => h) rfl (by rfl) (v := .pointer (some ⟨w.heap.size, 3, none⟩)) (fun Y hY => by obtain ⟨y0, y1, y2, y3, y4⟩ := hY; go_simp) hS ?_
  simp only [List.setIfInBounds_toArray, List.set_cons_zero, List.set_cons_succ]
  refine takeW (i := 12) rfl (by kernel_rfl) (by kernel_rfl) (by kernel_rfl) (fun _ _ _ h => h) rfl (by rfl) (v := .int .i64 (c : Int)) (fun Y hY => by obtain ⟨y0, y1, y2, y3, y4⟩ := hY; go_simp) hS ?_
  simp only [List.setIfInBounds_toArray, List.set_cons_zero, List.set_cons_succ]
  refine takeW (i := 13) rfl (by kernel_rfl) (by kernel_rfl) (by kernel_rfl) (fun _ _ _ h => h) rfl (by rfl) (v := .pointer (some ⟨x.fb, 0, none⟩)) (fun Y hY => by obtain ⟨y0, y1, y2, y3, y4⟩ := hY; go_simp) hS ?_
  simp only [List.setIfInBounds_toArray, List.set_cons_zero, List.set_cons_succ]
  refine takeW (i := 14) rfl (by kernel_rfl) (by kernel_rfl) (by kernel_rfl) (fun _ _ _ h => h) rfl (by rfl) (v := .pointer (some ⟨x.fb, c, none⟩)) (fun Y hY => by obtain ⟨y0, y1, y2, y3, y4⟩ := hY; go_simp; intro h; omega) hS ?_
  simp only [List.setIfInBounds_toArray, List.set_cons_zero, List.set_cons_succ]
  refine takeW (i := 15) rfl (by kernel_rfl) (by kernel_rfl) (by kernel_rfl) (fun _ _ _ h => h) rfl (by rfl) (v := .int .i64 vc) (fun Y hY => by obtain ⟨y0, y1, y2, y3, y4⟩ := hY; go_simp) hS ?_
  simp only [List.setIfInBounds_toArray, List.set_cons_zero, List.set_cons_succ]
  refine callW (i := 16) rfl (by kernel_rfl) rfl (by rfl) ?_ ((HN.out _)) ?_
  · go_simp
  rintro x w2 ⟨rfl, hw2⟩
  have hw2 := hw2.symm
  subst hw2
  refine ⟨_, rfl, hS, ?_⟩
  simp only [List.setIfInBounds_toArray, List.set_cons_zero, List.set_cons_succ]
  refine takeW (i := 17) rfl (by kernel_rfl) (by kernel_rfl) (by kernel_rfl) (fun _ _ _ h => h) rfl (by rfl) (v := .tuple #[.int .i64 p1, .bool p2]) (fun Y hY => by obtain ⟨y0, y1, y2, y3, y4⟩ := hY; go_simp) hS ?_
  simp only [List.setIfInBounds_toArray, List.set_cons_zero, List.set_cons_succ]
  refine takeW (i := 18) rfl (by kernel_rfl) (by kernel_rfl) (by kernel_rfl) (fun _ _ _ h => h) rfl (by rfl) (v := .int .i64 p1) (fun Y hY => by obtain ⟨y0, y1, y2, y3, y4⟩ := hY; go_simp) hS ?_
  simp only [List.setIfInBounds_toArray, List.set_cons_zero, List.set_cons_succ]
  refine takeW (i := 19) rfl (by kernel_rfl) (by kernel_rfl) (by kernel_rfl) (fun _ _ _ h => h) rfl (by rfl) (v := .bool p2) (fun Y hY => by obtain ⟨y0, y1, y2, y3, y4⟩ := hY; go_simp) hS ?_
  simp only [List.setIfInBounds_toArray, List.set_cons_zero, List.set_cons_succ]
  refine takeW (i := 20) rfl (by kernel_rfl) (by kernel_rfl) (by kernel_rfl) (fun _ _ _ h => h) rfl (by rfl) (v := .int .i64 p1) (fun Y hY => by obtain ⟨y0, y1, y2, y3, y4⟩ := hY; go_simp) hS ?_
  simp only [List.setIfInBounds_toArray, List.set_cons_zero, List.set_cons_succ]
  refine takeW (i := 21) rfl (by kernel_rfl) (by kernel_rfl) (by kernel_rfl) (fun _ _ _ h => h) rfl (by rfl) (v := .bool p2) (fun Y hY => by obtain ⟨y0, y1, y2, y3, y4⟩ := hY; go_simp) hS ?_
  simp only [List.setIfInBounds_toArray, List.set_cons_zero, List.set_cons_succ]
  refine wpAnyH_done (by kernel_rfl) ?_ _
  clear hS q0 cb ccx
  cases p2 with
  | false =>
    go_wp2_with fail
    refine (HST.out _ (Only.refl [] w1).drew).mono ?_
    rintro y w3 ⟨rfl, hb3, ho3⟩
    have HF := Lib.hid (And.intro hb3 (HO1.out.drew.mono (S' := [mb]) (by simp) |>.trans ho3 (fun g hg => .inl hg)))
    clear hb3 ho3
    go_wp2_with fail
    go_end0
    exact ⟨rfl, .inr ⟨rfl, HF.out.1, HF.out.2⟩⟩
  | true =>
    have hS2 : ((fun Y => Y.cell? ⟨w.heap.size, 1, none⟩ = some (.int .i64 (a : Int))) : World → Prop) w1.drew.drew := HB.out.drew.drew.cell 1
    have ca : w1.drew.drew.cell? ⟨x.fb, a, none⟩ = some (.int .i64 (x.f.r.getD a 0)) := by rw [HX.out.2.1.drew.drew.cell a, Fr.at_r HX.out.1 ha]; rfl
    have za := HX.out.2.1.drew.drew.frozen a
    have ho4 : Only [x.fb] w (w1.drew.drew.setCell ⟨x.fb, a, none⟩ (.int .i64 p1)) := (HO1.out.drew.drew.mono (by simp)).setCell (.inl (by simp)) _
    have hxd : FIn w1.drew.drew base x.fb x.sv x.f := HX.out.only (Only.refl [] w1).drew.drew (by simp) (by simp)
    have HF := Lib.hid (And.intro (set_in hxd ha p1) ho4)
    have HS2 : Hid (((fun Y => Y.cell? ⟨w.heap.size, 1, none⟩ = some (.int .i64 (a : Int))) : World → Prop) (w1.drew.drew.setCell ⟨x.fb, a, none⟩ (.int .i64 p1))) := Lib.hid ((HB.out.drew.drew.only ((Only.refl [x.fb] w1.drew.drew).setCell (p := ⟨x.fb, a, none⟩) (.inl (by simp)) _) (by
      intro h
      exact Blk.ne_ HB.out HX.out.2.1 (by decide) (List.mem_singleton.1 h))).cell 1)
    clear ho4 hxd
    go_upto_region 13 with fail
    refine wp_region_hand (S := (fun Y => Y.cell? ⟨w.heap.size, 1, none⟩ = some (.int .i64 (a : Int)))) (by kernel_rfl) ?_
    refine takeW (i := 0) rfl (by kernel_rfl) (by kernel_rfl) (by kernel_rfl) (fun _ _ _ h => h) rfl (by rfl) (v := .pointer (some ⟨x.fb, 0, none⟩)) (fun Y hY => by have y0 := hY; go_simp) hS2 ?_
    simp only [List.setIfInBounds_toArray, List.set_cons_zero, List.set_cons_succ]
    refine takeW (i := 1) rfl (by kernel_rfl) (by kernel_rfl) (by kernel_rfl) (fun _ _ _ h => h) rfl (by rfl) (v := .pointer (some ⟨w.heap.size, 1, none⟩)) (fun Y hY => by have y0 := hY; go_simp) hS2 ?_
    simp only [List.setIfInBounds_toArray, List.set_cons_zero, List.set_cons_succ]
    refine takeW (i := 2) rfl (by kernel_rfl) (by kernel_rfl) (by kernel_rfl) (fun _ _ _ h => h) rfl (by rfl) (v := .int .i64 (a : Int)) (fun Y hY => by have y0 := hY; go_simp) hS2 ?_
    simp only [List.setIfInBounds_toArray, List.set_cons_zero, List.set_cons_succ]
    refine takeW (i := 3) rfl (by kernel_rfl) (by kernel_rfl) (by kernel_rfl) (fun _ _ _ h => h) rfl (by rfl) (v := .int .i64 p1) (fun Y hY => by have y0 := hY; go_simp) hS2 ?_
    simp only [List.setIfInBounds_toArray, List.set_cons_zero, List.set_cons_succ]
    refine takeW (i := 4) rfl (by kernel_rfl) (by kernel_rfl) (by kernel_rfl) (fun _ _ _ h => h) rfl (by rfl) (v := .pointer (some ⟨x.fb, 0, none⟩)) (fun Y hY => by have y0 := hY; go_simp) hS2 ?_
    simp only [List.setIfInBounds_toArray, List.set_cons_zero, List.set_cons_succ]
    refine takeW (i := 5) rfl (by kernel_rfl) (by kernel_rfl) (by kernel_rfl) (fun _ _ _ h => h) rfl (by rfl) (v := .pointer (some ⟨x.fb, a, none⟩)) (fun Y hY => by have y0 := hY; go_simp; intro h; omega) hS2 ?_
    simp only [List.setIfInBounds_toArray, List.set_cons_zero, List.set_cons_succ]
    refine oneS (i := 6) (v := undef) (w' := w1.drew.drew.setCell ⟨x.fb, a, none⟩ (.int .i64 p1)) rfl (by kernel_rfl) rfl (by rfl) (by first | (left; go_simp; done) | (right; go_simp; done)) HS2.out ?_
    refine wpAnyH_done (by kernel_rfl) ?_ _
    go_wp2_with fail
    go_end0
    exact ⟨rfl, .inl ⟨rfl, HF.out.1, HF.out.2⟩⟩
set_option maxHeartbeats 8000000 in
theorem reck_10 (base mb : Nat) (cA : Option Addr) (cn cc : Nat) (fv : Value) (at_ : Int) (ov : Value) (en : Int) (x : FB) (a b c : Nat) (n : Int) (w : World) (hm : Blk w mb 58 (mcells cA cn cc fv at_ ov en false)) (hx : FIn w base x.fb x.sv x.f) (ha : a < 8) (hb8 : b < 8) (hc8 : c < 8) :
    Calls Try.prog 47 #[.pointer (some ⟨mb, 0, none⟩), .pointer (some ⟨x.fb, 0, none⟩), .agg #[.int .i64 10, .int .i64 (a : Int), .int .i64 (b : Int), .int .i64 (c : Int), .int .i64 n]] w (ReckO w base mb cA cn cc fv at_ ov en x a (twoP 10 (x.f.r.getD b 0) (x.f.r.getD c 0))) := by
  obtain ⟨w1, hw1⟩ : ∃ w1, w.alloc (.cells #[.int .i64 10, .int .i64 (a : Int), .int .i64 (b : Int), .int .i64 (c : Int), .int .i64 n] 27) = w1 := ⟨_, rfl⟩
  have b1 : Blk w1 w.heap.size 27 #[.int .i64 10, .int .i64 (a : Int), .int .i64 (b : Int), .int .i64 (c : Int), .int .i64 n] := by rw [← hw1]; exact Blk.new w _ _
  have o1 : Only [] w w1 := by rw [← hw1]; exact (Only.refl [] w).alloc _
  have hx1 := hx.only o1 (by simp) (by simp)
  have hm1 := hm.only o1 (by simp)
  obtain ⟨vb, hvb⟩ : ∃ v, x.f.r.getD b 0 = v := ⟨_, rfl⟩
  obtain ⟨vc, hvc⟩ : ∃ v, x.f.r.getD c 0 = v := ⟨_, rfl⟩
  rw [hvb, hvc]
  obtain ⟨p1, p2, hp⟩ : ∃ p1 p2, twoP 10 vb vc = (p1, p2) := ⟨_, _, rfl⟩
  rw [hp]
  have cb : w1.cell? ⟨x.fb, b, none⟩ = some (.int .i64 vb) := by rw [hx1.2.1.cell b, Fr.at_r hx1.1 hb8, hvb]; rfl
  have ccx : w1.cell? ⟨x.fb, c, none⟩ = some (.int .i64 vc) := by rw [hx1.2.1.cell c, Fr.at_r hx1.1 hc8, hvc]; rfl
  have HN : Hid (∀ wx, Calls Try.prog 70 #[.int .i64 10, .int .i64 vb, .int .i64 vc] wx fun y w' => y = .returned (.tuple #[.int .i64 p1, .bool p2]) ∧ w' = wx) := Lib.hid (fun wx => by have h := two_10 vb vc wx; rw [show (truthP (decide (vb = vc))) = (p1, p2) from by rw [← hp]; rfl] at h; exact h)
  have HST := Lib.hid (fun wx (h : Only [] w1 wx) => stop_any mb cA cn cc fv at_ ov en 1 wx (hm1.only h (by simp)))
  have HX := Lib.hid hx1
  have HB := Lib.hid b1
  have HO1 := Lib.hid o1
  have q0 := b1.cell 0
  have hS : ((fun Y => Y.cell? ⟨w.heap.size, 0, none⟩ = some (.int .i64 10) ∧ Y.cell? ⟨w.heap.size, 2, none⟩ = some (.int .i64 (b : Int)) ∧ Y.cell? ⟨x.fb, b, none⟩ = some (.int .i64 vb) ∧ Y.cell? ⟨w.heap.size, 3, none⟩ = some (.int .i64 (c : Int)) ∧ Y.cell? ⟨x.fb, c, none⟩ = some (.int .i64 vc)) : World → Prop) w1.drew := ⟨b1.cell 0, b1.cell 2, cb, b1.cell 3, ccx⟩
  clear b1 o1 hx1 hm1 hp hvb hvc hm hx
  go_enter Try.func47, Try.ntmps47
  go_upto_region 4 with fail
  try rw [hw1]
  refine wp_region_hand (S := (fun Y => Y.cell? ⟨w.heap.size, 0, none⟩ = some (.int .i64 10) ∧ Y.cell? ⟨w.heap.size, 2, none⟩ = some (.int .i64 (b : Int)) ∧ Y.cell? ⟨x.fb, b, none⟩ = some (.int .i64 vb) ∧ Y.cell? ⟨w.heap.size, 3, none⟩ = some (.int .i64 (c : Int)) ∧ Y.cell? ⟨x.fb, c, none⟩ = some (.int .i64 vc))) (by kernel_rfl) ?_
  refine takeW (i := 0) rfl (by kernel_rfl) (by kernel_rfl) (by kernel_rfl) (fun _ _ _ h => h) rfl (by rfl) (v := .pointer (some ⟨w.heap.size, 0, none⟩)) (fun Y hY => by obtain ⟨y0, y1, y2, y3, y4⟩ := hY; go_simp) hS ?_
  simp only [List.setIfInBounds_toArray, List.set_cons_zero, List.set_cons_succ]
  refine takeW (i := 1) rfl (by kernel_rfl) (by kernel_rfl) (by kernel_rfl) (fun _ _ _ h => h) rfl (by rfl) (v := .int .i64 10) (fun Y hY => by obtain ⟨y0, y1, y2, y3, y4⟩ := hY; go_simp) hS ?_
  simp only [List.setIfInBounds_toArray, List.set_cons_zero, List.set_cons_succ]
  refine takeW (i := 2) rfl (by kernel_rfl) (by kernel_rfl) (by kernel_rfl) (fun _ _ _ h => h) rfl (by rfl) (v := .int .i64 5) (fun Y hY => by obtain ⟨y0, y1, y2, y3, y4⟩ := hY; go_simp; try rfl) hS ?_
  simp only [List.setIfInBounds_toArray, List.set_cons_zero, List.set_cons_succ]
  refine takeW (i := 3) rfl (by kernel_rfl) (by kernel_rfl) (by kernel_rfl) (fun _ _ _ h => h) rfl (by rfl) (v := .int .i64 10) (fun Y hY => by obtain ⟨y0, y1, y2, y3, y4⟩ := hY; go_simp; try rfl) hS ?_
  simp only [List.setIfInBounds_toArray, List.set_cons_zero, List.set_cons_succ]
  refine takeW (i := 4) rfl (by kernel_rfl) (by kernel_rfl) (by kernel_rfl) (fun _ _ _ h => h) rfl (by rfl) (v := .pointer (some ⟨x.fb, 0, none⟩)) (fun Y hY => by obtain ⟨y0, y1, y2, y3, y4⟩ := hY; go_simp) hS ?_
  simp only [List.setIfInBounds_toArray, List.set_cons_zero, List.set_cons_succ]
  refine takeW (i := 5) rfl (by kernel_rfl) (by kernel_rfl) (by kernel_rfl) (fun _ _ _ h => h) rfl (by rfl) (v := .pointer (some ⟨w.heap.size, 2, none⟩)) (fun Y hY => by obtain ⟨y0, y1, y2, y3, y4⟩ := hY; go_simp) hS ?_
  simp only [List.setIfInBounds_toArray, List.set_cons_zero, List.set_cons_succ]
  refine takeW (i := 6) rfl (by kernel_rfl) (by kernel_rfl) (by kernel_rfl) (fun _ _ _ h => h) rfl (by rfl) (v := .int .i64 (b : Int)) (fun Y hY => by obtain ⟨y0, y1, y2, y3, y4⟩ := hY; go_simp) hS ?_
  simp only [List.setIfInBounds_toArray, List.set_cons_zero, List.set_cons_succ]
  refine takeW (i := 7) rfl (by kernel_rfl) (by kernel_rfl) (by kernel_rfl) (fun _ _ _ h => h) rfl (by rfl) (v := .pointer (some ⟨x.fb, 0, none⟩)) (fun Y hY => by obtain ⟨y0, y1, y2, y3, y4⟩ := hY; go_simp) hS ?_
  simp only [List.setIfInBounds_toArray, List.set_cons_zero, List.set_cons_succ]
  refine takeW (i := 8) rfl (by kernel_rfl) (by kernel_rfl) (by kernel_rfl) (fun _ _ _ h => h) rfl (by rfl) (v := .pointer (some ⟨x.fb, b, none⟩)) (fun Y hY => by obtain ⟨y0, y1, y2, y3, y4⟩ := hY; go_simp; intro h; omega) hS ?_
  simp only [List.setIfInBounds_toArray, List.set_cons_zero, List.set_cons_succ]
  refine takeW (i := 9) rfl (by kernel_rfl) (by kernel_rfl) (by kernel_rfl) (fun _ _ _ h => h) rfl (by rfl) (v := .int .i64 vb) (fun Y hY => by obtain ⟨y0, y1, y2, y3, y4⟩ := hY; go_simp) hS ?_
  simp only [List.setIfInBounds_toArray, List.set_cons_zero, List.set_cons_succ]
  refine takeW (i := 10) rfl (by kernel_rfl) (by kernel_rfl) (by kernel_rfl) (fun _ _ _ h => h) rfl (by rfl) (v := .pointer (some ⟨x.fb, 0, none⟩)) (fun Y hY => by obtain ⟨y0, y1, y2, y3, y4⟩ := hY; go_simp) hS ?_
  simp only [List.setIfInBounds_toArray, List.set_cons_zero, List.set_cons_succ]
  refine takeW (i := 11) rfl (by kernel_rfl) (by kernel_rfl) (by kernel_rfl) (fun _ _ _ h => h) rfl (by rfl) (v := .pointer (some ⟨w.heap.size, 3, none⟩)) (fun Y hY => by obtain ⟨y0, y1, y2, y3, y4⟩ := hY; go_simp) hS ?_
  simp only [List.setIfInBounds_toArray, List.set_cons_zero, List.set_cons_succ]
  refine takeW (i := 12) rfl (by kernel_rfl) (by kernel_rfl) (by kernel_rfl) (fun _ _ _ h => h) rfl (by rfl) (v := .int .i64 (c : Int)) (fun Y hY => by obtain ⟨y0, y1, y2, y3, y4⟩ := hY; go_simp) hS ?_
  simp only [List.setIfInBounds_toArray, List.set_cons_zero, List.set_cons_succ]
  refine takeW (i := 13) rfl (by kernel_rfl) (by kernel_rfl) (by kernel_rfl) (fun _ _ _ h => h) rfl (by rfl) (v := .pointer (some ⟨x.fb, 0, none⟩)) (fun Y hY => by obtain ⟨y0, y1, y2, y3, y4⟩ := hY; go_simp) hS ?_
  simp only [List.setIfInBounds_toArray, List.set_cons_zero, List.set_cons_succ]
  refine takeW (i := 14) rfl (by kernel_rfl) (by kernel_rfl) (by kernel_rfl) (fun _ _ _ h => h) rfl (by rfl) (v := .pointer (some ⟨x.fb, c, none⟩)) (fun Y hY => by obtain ⟨y0, y1, y2, y3, y4⟩ := hY; go_simp; intro h; omega) hS ?_
  simp only [List.setIfInBounds_toArray, List.set_cons_zero, List.set_cons_succ]
  refine takeW (i := 15) rfl (by kernel_rfl) (by kernel_rfl) (by kernel_rfl) (fun _ _ _ h => h) rfl (by rfl) (v := .int .i64 vc) (fun Y hY => by obtain ⟨y0, y1, y2, y3, y4⟩ := hY; go_simp) hS ?_
  simp only [List.setIfInBounds_toArray, List.set_cons_zero, List.set_cons_succ]
  refine callW (i := 16) rfl (by kernel_rfl) rfl (by rfl) ?_ ((HN.out _)) ?_
  · go_simp
  rintro x w2 ⟨rfl, hw2⟩
  have hw2 := hw2.symm
  subst hw2
  refine ⟨_, rfl, hS, ?_⟩
  simp only [List.setIfInBounds_toArray, List.set_cons_zero, List.set_cons_succ]
  refine takeW (i := 17) rfl (by kernel_rfl) (by kernel_rfl) (by kernel_rfl) (fun _ _ _ h => h) rfl (by rfl) (v := .tuple #[.int .i64 p1, .bool p2]) (fun Y hY => by obtain ⟨y0, y1, y2, y3, y4⟩ := hY; go_simp) hS ?_
  simp only [List.setIfInBounds_toArray, List.set_cons_zero, List.set_cons_succ]
  refine takeW (i := 18) rfl (by kernel_rfl) (by kernel_rfl) (by kernel_rfl) (fun _ _ _ h => h) rfl (by rfl) (v := .int .i64 p1) (fun Y hY => by obtain ⟨y0, y1, y2, y3, y4⟩ := hY; go_simp) hS ?_
  simp only [List.setIfInBounds_toArray, List.set_cons_zero, List.set_cons_succ]
  refine takeW (i := 19) rfl (by kernel_rfl) (by kernel_rfl) (by kernel_rfl) (fun _ _ _ h => h) rfl (by rfl) (v := .bool p2) (fun Y hY => by obtain ⟨y0, y1, y2, y3, y4⟩ := hY; go_simp) hS ?_
  simp only [List.setIfInBounds_toArray, List.set_cons_zero, List.set_cons_succ]
  refine takeW (i := 20) rfl (by kernel_rfl) (by kernel_rfl) (by kernel_rfl) (fun _ _ _ h => h) rfl (by rfl) (v := .int .i64 p1) (fun Y hY => by obtain ⟨y0, y1, y2, y3, y4⟩ := hY; go_simp) hS ?_
  simp only [List.setIfInBounds_toArray, List.set_cons_zero, List.set_cons_succ]
  refine takeW (i := 21) rfl (by kernel_rfl) (by kernel_rfl) (by kernel_rfl) (fun _ _ _ h => h) rfl (by rfl) (v := .bool p2) (fun Y hY => by obtain ⟨y0, y1, y2, y3, y4⟩ := hY; go_simp) hS ?_
  simp only [List.setIfInBounds_toArray, List.set_cons_zero, List.set_cons_succ]
  refine wpAnyH_done (by kernel_rfl) ?_ _
  clear hS q0 cb ccx
  cases p2 with
  | false =>
    go_wp2_with fail
    refine (HST.out _ (Only.refl [] w1).drew).mono ?_
    rintro y w3 ⟨rfl, hb3, ho3⟩
    have HF := Lib.hid (And.intro hb3 (HO1.out.drew.mono (S' := [mb]) (by simp) |>.trans ho3 (fun g hg => .inl hg)))
    clear hb3 ho3
    go_wp2_with fail
    go_end0
    exact ⟨rfl, .inr ⟨rfl, HF.out.1, HF.out.2⟩⟩
  | true =>
    have hS2 : ((fun Y => Y.cell? ⟨w.heap.size, 1, none⟩ = some (.int .i64 (a : Int))) : World → Prop) w1.drew.drew := HB.out.drew.drew.cell 1
    have ca : w1.drew.drew.cell? ⟨x.fb, a, none⟩ = some (.int .i64 (x.f.r.getD a 0)) := by rw [HX.out.2.1.drew.drew.cell a, Fr.at_r HX.out.1 ha]; rfl
    have za := HX.out.2.1.drew.drew.frozen a
    have ho4 : Only [x.fb] w (w1.drew.drew.setCell ⟨x.fb, a, none⟩ (.int .i64 p1)) := (HO1.out.drew.drew.mono (by simp)).setCell (.inl (by simp)) _
    have hxd : FIn w1.drew.drew base x.fb x.sv x.f := HX.out.only (Only.refl [] w1).drew.drew (by simp) (by simp)
    have HF := Lib.hid (And.intro (set_in hxd ha p1) ho4)
    have HS2 : Hid (((fun Y => Y.cell? ⟨w.heap.size, 1, none⟩ = some (.int .i64 (a : Int))) : World → Prop) (w1.drew.drew.setCell ⟨x.fb, a, none⟩ (.int .i64 p1))) := Lib.hid ((HB.out.drew.drew.only ((Only.refl [x.fb] w1.drew.drew).setCell (p := ⟨x.fb, a, none⟩) (.inl (by simp)) _) (by
      intro h
      exact Blk.ne_ HB.out HX.out.2.1 (by decide) (List.mem_singleton.1 h))).cell 1)
    clear ho4 hxd
    go_upto_region 13 with fail
    refine wp_region_hand (S := (fun Y => Y.cell? ⟨w.heap.size, 1, none⟩ = some (.int .i64 (a : Int)))) (by kernel_rfl) ?_
    refine takeW (i := 0) rfl (by kernel_rfl) (by kernel_rfl) (by kernel_rfl) (fun _ _ _ h => h) rfl (by rfl) (v := .pointer (some ⟨x.fb, 0, none⟩)) (fun Y hY => by have y0 := hY; go_simp) hS2 ?_
    simp only [List.setIfInBounds_toArray, List.set_cons_zero, List.set_cons_succ]
    refine takeW (i := 1) rfl (by kernel_rfl) (by kernel_rfl) (by kernel_rfl) (fun _ _ _ h => h) rfl (by rfl) (v := .pointer (some ⟨w.heap.size, 1, none⟩)) (fun Y hY => by have y0 := hY; go_simp) hS2 ?_
    simp only [List.setIfInBounds_toArray, List.set_cons_zero, List.set_cons_succ]
    refine takeW (i := 2) rfl (by kernel_rfl) (by kernel_rfl) (by kernel_rfl) (fun _ _ _ h => h) rfl (by rfl) (v := .int .i64 (a : Int)) (fun Y hY => by have y0 := hY; go_simp) hS2 ?_
    simp only [List.setIfInBounds_toArray, List.set_cons_zero, List.set_cons_succ]
    refine takeW (i := 3) rfl (by kernel_rfl) (by kernel_rfl) (by kernel_rfl) (fun _ _ _ h => h) rfl (by rfl) (v := .int .i64 p1) (fun Y hY => by have y0 := hY; go_simp) hS2 ?_
    simp only [List.setIfInBounds_toArray, List.set_cons_zero, List.set_cons_succ]
    refine takeW (i := 4) rfl (by kernel_rfl) (by kernel_rfl) (by kernel_rfl) (fun _ _ _ h => h) rfl (by rfl) (v := .pointer (some ⟨x.fb, 0, none⟩)) (fun Y hY => by have y0 := hY; go_simp) hS2 ?_
    simp only [List.setIfInBounds_toArray, List.set_cons_zero, List.set_cons_succ]
    refine takeW (i := 5) rfl (by kernel_rfl) (by kernel_rfl) (by kernel_rfl) (fun _ _ _ h => h) rfl (by rfl) (v := .pointer (some ⟨x.fb, a, none⟩)) (fun Y hY => by have y0 := hY; go_simp; intro h; omega) hS2 ?_
    simp only [List.setIfInBounds_toArray, List.set_cons_zero, List.set_cons_succ]
    refine oneS (i := 6) (v := undef) (w' := w1.drew.drew.setCell ⟨x.fb, a, none⟩ (.int .i64 p1)) rfl (by kernel_rfl) rfl (by rfl) (by first | (left; go_simp; done) | (right; go_simp; done)) HS2.out ?_
    refine wpAnyH_done (by kernel_rfl) ?_ _
    go_wp2_with fail
    go_end0
    exact ⟨rfl, .inl ⟨rfl, HF.out.1, HF.out.2⟩⟩
set_option maxHeartbeats 8000000 in
theorem reck_11 (base mb : Nat) (cA : Option Addr) (cn cc : Nat) (fv : Value) (at_ : Int) (ov : Value) (en : Int) (x : FB) (a b c : Nat) (n : Int) (w : World) (hm : Blk w mb 58 (mcells cA cn cc fv at_ ov en false)) (hx : FIn w base x.fb x.sv x.f) (ha : a < 8) (hb8 : b < 8) (hc8 : c < 8) :
    Calls Try.prog 47 #[.pointer (some ⟨mb, 0, none⟩), .pointer (some ⟨x.fb, 0, none⟩), .agg #[.int .i64 11, .int .i64 (a : Int), .int .i64 (b : Int), .int .i64 (c : Int), .int .i64 n]] w (ReckO w base mb cA cn cc fv at_ ov en x a (twoP 11 (x.f.r.getD b 0) (x.f.r.getD c 0))) := by
  obtain ⟨w1, hw1⟩ : ∃ w1, w.alloc (.cells #[.int .i64 11, .int .i64 (a : Int), .int .i64 (b : Int), .int .i64 (c : Int), .int .i64 n] 27) = w1 := ⟨_, rfl⟩
  have b1 : Blk w1 w.heap.size 27 #[.int .i64 11, .int .i64 (a : Int), .int .i64 (b : Int), .int .i64 (c : Int), .int .i64 n] := by rw [← hw1]; exact Blk.new w _ _
  have o1 : Only [] w w1 := by rw [← hw1]; exact (Only.refl [] w).alloc _
  have hx1 := hx.only o1 (by simp) (by simp)
  have hm1 := hm.only o1 (by simp)
  obtain ⟨vb, hvb⟩ : ∃ v, x.f.r.getD b 0 = v := ⟨_, rfl⟩
  obtain ⟨vc, hvc⟩ : ∃ v, x.f.r.getD c 0 = v := ⟨_, rfl⟩
  rw [hvb, hvc]
  obtain ⟨p1, p2, hp⟩ : ∃ p1 p2, twoP 11 vb vc = (p1, p2) := ⟨_, _, rfl⟩
  rw [hp]
  have cb : w1.cell? ⟨x.fb, b, none⟩ = some (.int .i64 vb) := by rw [hx1.2.1.cell b, Fr.at_r hx1.1 hb8, hvb]; rfl
  have ccx : w1.cell? ⟨x.fb, c, none⟩ = some (.int .i64 vc) := by rw [hx1.2.1.cell c, Fr.at_r hx1.1 hc8, hvc]; rfl
  have HN : Hid (∀ wx, Calls Try.prog 70 #[.int .i64 11, .int .i64 vb, .int .i64 vc] wx fun y w' => y = .returned (.tuple #[.int .i64 p1, .bool p2]) ∧ w' = wx) := Lib.hid (fun wx => by have h := two_11 vb vc wx; rw [show (truthP (!decide (vb = vc))) = (p1, p2) from by rw [← hp]; rfl] at h; exact h)
  have HST := Lib.hid (fun wx (h : Only [] w1 wx) => stop_any mb cA cn cc fv at_ ov en 1 wx (hm1.only h (by simp)))
  have HX := Lib.hid hx1
  have HB := Lib.hid b1
  have HO1 := Lib.hid o1
  have q0 := b1.cell 0
  have hS : ((fun Y => Y.cell? ⟨w.heap.size, 0, none⟩ = some (.int .i64 11) ∧ Y.cell? ⟨w.heap.size, 2, none⟩ = some (.int .i64 (b : Int)) ∧ Y.cell? ⟨x.fb, b, none⟩ = some (.int .i64 vb) ∧ Y.cell? ⟨w.heap.size, 3, none⟩ = some (.int .i64 (c : Int)) ∧ Y.cell? ⟨x.fb, c, none⟩ = some (.int .i64 vc)) : World → Prop) w1.drew := ⟨b1.cell 0, b1.cell 2, cb, b1.cell 3, ccx⟩
  clear b1 o1 hx1 hm1 hp hvb hvc hm hx
  go_enter Try.func47, Try.ntmps47
  go_upto_region 4 with fail
  try rw [hw1]
  refine wp_region_hand (S := (fun Y => Y.cell? ⟨w.heap.size, 0, none⟩ = some (.int .i64 11) ∧ Y.cell? ⟨w.heap.size, 2, none⟩ = some (.int .i64 (b : Int)) ∧ Y.cell? ⟨x.fb, b, none⟩ = some (.int .i64 vb) ∧ Y.cell? ⟨w.heap.size, 3, none⟩ = some (.int .i64 (c : Int)) ∧ Y.cell? ⟨x.fb, c, none⟩ = some (.int .i64 vc))) (by kernel_rfl) ?_
  refine takeW (i := 0) rfl (by kernel_rfl) (by kernel_rfl) (by kernel_rfl) (fun _ _ _ h => h) rfl (by rfl) (v := .pointer (some ⟨w.heap.size, 0, none⟩)) (fun Y hY => by obtain ⟨y0, y1, y2, y3, y4⟩ := hY; go_simp) hS ?_
  simp only [List.setIfInBounds_toArray, List.set_cons_zero, List.set_cons_succ]
  refine takeW (i := 1) rfl (by kernel_rfl) (by kernel_rfl) (by kernel_rfl) (fun _ _ _ h => h) rfl (by rfl) (v := .int .i64 11) (fun Y hY => by obtain ⟨y0, y1, y2, y3, y4⟩ := hY; go_simp) hS ?_
  simp only [List.setIfInBounds_toArray, List.set_cons_zero, List.set_cons_succ]
  refine takeW (i := 2) rfl (by kernel_rfl) (by kernel_rfl) (by kernel_rfl) (fun _ _ _ h => h) rfl (by rfl) (v := .int .i64 6) (fun Y hY => by obtain ⟨y0, y1, y2, y3, y4⟩ := hY; go_simp; try rfl) hS ?_
  simp only [List.setIfInBounds_toArray, List.set_cons_zero, List.set_cons_succ]
  refine takeW (i := 3) rfl (by kernel_rfl) (by kernel_rfl) (by kernel_rfl) (fun _ _ _ h => h) rfl (by rfl) (v := .int .i64 11) (fun Y hY => by obtain ⟨y0, y1, y2, y3, y4⟩ := hY; go_simp; try rfl) hS ?_
  simp only [List.setIfInBounds_toArray, List.set_cons_zero, List.set_cons_succ]
  refine takeW (i := 4) rfl (by kernel_rfl) (by kernel_rfl) (by kernel_rfl) (fun _ _ _ h => h) rfl (by rfl) (v := .pointer (some ⟨x.fb, 0, none⟩)) (fun Y hY => by obtain ⟨y0, y1, y2, y3, y4⟩ := hY; go_simp) hS ?_
  simp only [List.setIfInBounds_toArray, List.set_cons_zero, List.set_cons_succ]
  refine takeW (i := 5) rfl (by kernel_rfl) (by kernel_rfl) (by kernel_rfl) (fun _ _ _ h => h) rfl (by rfl) (v := .pointer (some ⟨w.heap.size, 2, none⟩)) (fun Y hY => by obtain ⟨y0, y1, y2, y3, y4⟩ := hY; go_simp) hS ?_
  simp only [List.setIfInBounds_toArray, List.set_cons_zero, List.set_cons_succ]
  refine takeW (i := 6) rfl (by kernel_rfl) (by kernel_rfl) (by kernel_rfl) (fun _ _ _ h => h) rfl (by rfl) (v := .int .i64 (b : Int)) (fun Y hY => by obtain ⟨y0, y1, y2, y3, y4⟩ := hY; go_simp) hS ?_
  simp only [List.setIfInBounds_toArray, List.set_cons_zero, List.set_cons_succ]
  refine takeW (i := 7) rfl (by kernel_rfl) (by kernel_rfl) (by kernel_rfl) (fun _ _ _ h => h) rfl (by rfl) (v := .pointer (some ⟨x.fb, 0, none⟩)) (fun Y hY => by obtain ⟨y0, y1, y2, y3, y4⟩ := hY; go_simp) hS ?_
  simp only [List.setIfInBounds_toArray, List.set_cons_zero, List.set_cons_succ]
  refine takeW (i := 8) rfl (by kernel_rfl) (by kernel_rfl) (by kernel_rfl) (fun _ _ _ h => h) rfl (by rfl) (v := .pointer (some ⟨x.fb, b, none⟩)) (fun Y hY => by obtain ⟨y0, y1, y2, y3, y4⟩ := hY; go_simp; intro h; omega) hS ?_
  simp only [List.setIfInBounds_toArray, List.set_cons_zero, List.set_cons_succ]
  refine takeW (i := 9) rfl (by kernel_rfl) (by kernel_rfl) (by kernel_rfl) (fun _ _ _ h => h) rfl (by rfl) (v := .int .i64 vb) (fun Y hY => by obtain ⟨y0, y1, y2, y3, y4⟩ := hY; go_simp) hS ?_
  simp only [List.setIfInBounds_toArray, List.set_cons_zero, List.set_cons_succ]
  refine takeW (i := 10) rfl (by kernel_rfl) (by kernel_rfl) (by kernel_rfl) (fun _ _ _ h => h) rfl (by rfl) (v := .pointer (some ⟨x.fb, 0, none⟩)) (fun Y hY => by obtain ⟨y0, y1, y2, y3, y4⟩ := hY; go_simp) hS ?_
  simp only [List.setIfInBounds_toArray, List.set_cons_zero, List.set_cons_succ]
  refine takeW (i := 11) rfl (by kernel_rfl) (by kernel_rfl) (by kernel_rfl) (fun _ _ _ h => h) rfl (by rfl) (v := .pointer (some ⟨w.heap.size, 3, none⟩)) (fun Y hY => by obtain ⟨y0, y1, y2, y3, y4⟩ := hY; go_simp) hS ?_
  simp only [List.setIfInBounds_toArray, List.set_cons_zero, List.set_cons_succ]
  refine takeW (i := 12) rfl (by kernel_rfl) (by kernel_rfl) (by kernel_rfl) (fun _ _ _ h => h) rfl (by rfl) (v := .int .i64 (c : Int)) (fun Y hY => by obtain ⟨y0, y1, y2, y3, y4⟩ := hY; go_simp) hS ?_
  simp only [List.setIfInBounds_toArray, List.set_cons_zero, List.set_cons_succ]
  refine takeW (i := 13) rfl (by kernel_rfl) (by kernel_rfl) (by kernel_rfl) (fun _ _ _ h => h) rfl (by rfl) (v := .pointer (some ⟨x.fb, 0, none⟩)) (fun Y hY => by obtain ⟨y0, y1, y2, y3, y4⟩ := hY; go_simp) hS ?_
  simp only [List.setIfInBounds_toArray, List.set_cons_zero, List.set_cons_succ]
  refine takeW (i := 14) rfl (by kernel_rfl) (by kernel_rfl) (by kernel_rfl) (fun _ _ _ h => h) rfl (by rfl) (v := .pointer (some ⟨x.fb, c, none⟩)) (fun Y hY => by obtain ⟨y0, y1, y2, y3, y4⟩ := hY; go_simp; intro h; omega) hS ?_
  simp only [List.setIfInBounds_toArray, List.set_cons_zero, List.set_cons_succ]
  refine takeW (i := 15) rfl (by kernel_rfl) (by kernel_rfl) (by kernel_rfl) (fun _ _ _ h => h) rfl (by rfl) (v := .int .i64 vc) (fun Y hY => by obtain ⟨y0, y1, y2, y3, y4⟩ := hY; go_simp) hS ?_
  simp only [List.setIfInBounds_toArray, List.set_cons_zero, List.set_cons_succ]
  refine callW (i := 16) rfl (by kernel_rfl) rfl (by rfl) ?_ ((HN.out _)) ?_
  · go_simp
  rintro x w2 ⟨rfl, hw2⟩
  have hw2 := hw2.symm
  subst hw2
  refine ⟨_, rfl, hS, ?_⟩
  simp only [List.setIfInBounds_toArray, List.set_cons_zero, List.set_cons_succ]
  refine takeW (i := 17) rfl (by kernel_rfl) (by kernel_rfl) (by kernel_rfl) (fun _ _ _ h => h) rfl (by rfl) (v := .tuple #[.int .i64 p1, .bool p2]) (fun Y hY => by obtain ⟨y0, y1, y2, y3, y4⟩ := hY; go_simp) hS ?_
  simp only [List.setIfInBounds_toArray, List.set_cons_zero, List.set_cons_succ]
  refine takeW (i := 18) rfl (by kernel_rfl) (by kernel_rfl) (by kernel_rfl) (fun _ _ _ h => h) rfl (by rfl) (v := .int .i64 p1) (fun Y hY => by obtain ⟨y0, y1, y2, y3, y4⟩ := hY; go_simp) hS ?_
  simp only [List.setIfInBounds_toArray, List.set_cons_zero, List.set_cons_succ]
  refine takeW (i := 19) rfl (by kernel_rfl) (by kernel_rfl) (by kernel_rfl) (fun _ _ _ h => h) rfl (by rfl) (v := .bool p2) (fun Y hY => by obtain ⟨y0, y1, y2, y3, y4⟩ := hY; go_simp) hS ?_
  simp only [List.setIfInBounds_toArray, List.set_cons_zero, List.set_cons_succ]
  refine takeW (i := 20) rfl (by kernel_rfl) (by kernel_rfl) (by kernel_rfl) (fun _ _ _ h => h) rfl (by rfl) (v := .int .i64 p1) (fun Y hY => by obtain ⟨y0, y1, y2, y3, y4⟩ := hY; go_simp) hS ?_
  simp only [List.setIfInBounds_toArray, List.set_cons_zero, List.set_cons_succ]
  refine takeW (i := 21) rfl (by kernel_rfl) (by kernel_rfl) (by kernel_rfl) (fun _ _ _ h => h) rfl (by rfl) (v := .bool p2) (fun Y hY => by obtain ⟨y0, y1, y2, y3, y4⟩ := hY; go_simp) hS ?_
  simp only [List.setIfInBounds_toArray, List.set_cons_zero, List.set_cons_succ]
  refine wpAnyH_done (by kernel_rfl) ?_ _
  clear hS q0 cb ccx
  cases p2 with
  | false =>
    go_wp2_with fail
    refine (HST.out _ (Only.refl [] w1).drew).mono ?_
    rintro y w3 ⟨rfl, hb3, ho3⟩
    have HF := Lib.hid (And.intro hb3 (HO1.out.drew.mono (S' := [mb]) (by simp) |>.trans ho3 (fun g hg => .inl hg)))
    clear hb3 ho3
    go_wp2_with fail
    go_end0
    exact ⟨rfl, .inr ⟨rfl, HF.out.1, HF.out.2⟩⟩
  | true =>
    have hS2 : ((fun Y => Y.cell? ⟨w.heap.size, 1, none⟩ = some (.int .i64 (a : Int))) : World → Prop) w1.drew.drew := HB.out.drew.drew.cell 1
    have ca : w1.drew.drew.cell? ⟨x.fb, a, none⟩ = some (.int .i64 (x.f.r.getD a 0)) := by rw [HX.out.2.1.drew.drew.cell a, Fr.at_r HX.out.1 ha]; rfl
    have za := HX.out.2.1.drew.drew.frozen a
    have ho4 : Only [x.fb] w (w1.drew.drew.setCell ⟨x.fb, a, none⟩ (.int .i64 p1)) := (HO1.out.drew.drew.mono (by simp)).setCell (.inl (by simp)) _
    have hxd : FIn w1.drew.drew base x.fb x.sv x.f := HX.out.only (Only.refl [] w1).drew.drew (by simp) (by simp)
    have HF := Lib.hid (And.intro (set_in hxd ha p1) ho4)
    have HS2 : Hid (((fun Y => Y.cell? ⟨w.heap.size, 1, none⟩ = some (.int .i64 (a : Int))) : World → Prop) (w1.drew.drew.setCell ⟨x.fb, a, none⟩ (.int .i64 p1))) := Lib.hid ((HB.out.drew.drew.only ((Only.refl [x.fb] w1.drew.drew).setCell (p := ⟨x.fb, a, none⟩) (.inl (by simp)) _) (by
      intro h
      exact Blk.ne_ HB.out HX.out.2.1 (by decide) (List.mem_singleton.1 h))).cell 1)
    clear ho4 hxd
    go_upto_region 13 with fail
    refine wp_region_hand (S := (fun Y => Y.cell? ⟨w.heap.size, 1, none⟩ = some (.int .i64 (a : Int)))) (by kernel_rfl) ?_
    refine takeW (i := 0) rfl (by kernel_rfl) (by kernel_rfl) (by kernel_rfl) (fun _ _ _ h => h) rfl (by rfl) (v := .pointer (some ⟨x.fb, 0, none⟩)) (fun Y hY => by have y0 := hY; go_simp) hS2 ?_
    simp only [List.setIfInBounds_toArray, List.set_cons_zero, List.set_cons_succ]
    refine takeW (i := 1) rfl (by kernel_rfl) (by kernel_rfl) (by kernel_rfl) (fun _ _ _ h => h) rfl (by rfl) (v := .pointer (some ⟨w.heap.size, 1, none⟩)) (fun Y hY => by have y0 := hY; go_simp) hS2 ?_
    simp only [List.setIfInBounds_toArray, List.set_cons_zero, List.set_cons_succ]
    refine takeW (i := 2) rfl (by kernel_rfl) (by kernel_rfl) (by kernel_rfl) (fun _ _ _ h => h) rfl (by rfl) (v := .int .i64 (a : Int)) (fun Y hY => by have y0 := hY; go_simp) hS2 ?_
    simp only [List.setIfInBounds_toArray, List.set_cons_zero, List.set_cons_succ]
    refine takeW (i := 3) rfl (by kernel_rfl) (by kernel_rfl) (by kernel_rfl) (fun _ _ _ h => h) rfl (by rfl) (v := .int .i64 p1) (fun Y hY => by have y0 := hY; go_simp) hS2 ?_
    simp only [List.setIfInBounds_toArray, List.set_cons_zero, List.set_cons_succ]
    refine takeW (i := 4) rfl (by kernel_rfl) (by kernel_rfl) (by kernel_rfl) (fun _ _ _ h => h) rfl (by rfl) (v := .pointer (some ⟨x.fb, 0, none⟩)) (fun Y hY => by have y0 := hY; go_simp) hS2 ?_
    simp only [List.setIfInBounds_toArray, List.set_cons_zero, List.set_cons_succ]
    refine takeW (i := 5) rfl (by kernel_rfl) (by kernel_rfl) (by kernel_rfl) (fun _ _ _ h => h) rfl (by rfl) (v := .pointer (some ⟨x.fb, a, none⟩)) (fun Y hY => by have y0 := hY; go_simp; intro h; omega) hS2 ?_
    simp only [List.setIfInBounds_toArray, List.set_cons_zero, List.set_cons_succ]
    refine oneS (i := 6) (v := undef) (w' := w1.drew.drew.setCell ⟨x.fb, a, none⟩ (.int .i64 p1)) rfl (by kernel_rfl) rfl (by rfl) (by first | (left; go_simp; done) | (right; go_simp; done)) HS2.out ?_
    refine wpAnyH_done (by kernel_rfl) ?_ _
    go_wp2_with fail
    go_end0
    exact ⟨rfl, .inl ⟨rfl, HF.out.1, HF.out.2⟩⟩
set_option maxHeartbeats 8000000 in
theorem reck_12 (base mb : Nat) (cA : Option Addr) (cn cc : Nat) (fv : Value) (at_ : Int) (ov : Value) (en : Int) (x : FB) (a b c : Nat) (n : Int) (w : World) (hm : Blk w mb 58 (mcells cA cn cc fv at_ ov en false)) (hx : FIn w base x.fb x.sv x.f) (ha : a < 8) (hb8 : b < 8) (hc8 : c < 8) :
    Calls Try.prog 47 #[.pointer (some ⟨mb, 0, none⟩), .pointer (some ⟨x.fb, 0, none⟩), .agg #[.int .i64 12, .int .i64 (a : Int), .int .i64 (b : Int), .int .i64 (c : Int), .int .i64 n]] w (ReckO w base mb cA cn cc fv at_ ov en x a (twoP 12 (x.f.r.getD b 0) (x.f.r.getD c 0))) := by
  obtain ⟨w1, hw1⟩ : ∃ w1, w.alloc (.cells #[.int .i64 12, .int .i64 (a : Int), .int .i64 (b : Int), .int .i64 (c : Int), .int .i64 n] 27) = w1 := ⟨_, rfl⟩
  have b1 : Blk w1 w.heap.size 27 #[.int .i64 12, .int .i64 (a : Int), .int .i64 (b : Int), .int .i64 (c : Int), .int .i64 n] := by rw [← hw1]; exact Blk.new w _ _
  have o1 : Only [] w w1 := by rw [← hw1]; exact (Only.refl [] w).alloc _
  have hx1 := hx.only o1 (by simp) (by simp)
  have hm1 := hm.only o1 (by simp)
  obtain ⟨vb, hvb⟩ : ∃ v, x.f.r.getD b 0 = v := ⟨_, rfl⟩
  obtain ⟨vc, hvc⟩ : ∃ v, x.f.r.getD c 0 = v := ⟨_, rfl⟩
  rw [hvb, hvc]
  obtain ⟨p1, p2, hp⟩ : ∃ p1 p2, twoP 12 vb vc = (p1, p2) := ⟨_, _, rfl⟩
  rw [hp]
  have cb : w1.cell? ⟨x.fb, b, none⟩ = some (.int .i64 vb) := by rw [hx1.2.1.cell b, Fr.at_r hx1.1 hb8, hvb]; rfl
  have ccx : w1.cell? ⟨x.fb, c, none⟩ = some (.int .i64 vc) := by rw [hx1.2.1.cell c, Fr.at_r hx1.1 hc8, hvc]; rfl
  have HN : Hid (∀ wx, Calls Try.prog 70 #[.int .i64 12, .int .i64 vb, .int .i64 vc] wx fun y w' => y = .returned (.tuple #[.int .i64 p1, .bool p2]) ∧ w' = wx) := Lib.hid (fun wx => by have h := two_12 vb vc wx; rw [show (truthP (decide (vb < vc))) = (p1, p2) from by rw [← hp]; rfl] at h; exact h)
  have HST := Lib.hid (fun wx (h : Only [] w1 wx) => stop_any mb cA cn cc fv at_ ov en 1 wx (hm1.only h (by simp)))
  have HX := Lib.hid hx1
  have HB := Lib.hid b1
  have HO1 := Lib.hid o1
  have q0 := b1.cell 0
  have hS : ((fun Y => Y.cell? ⟨w.heap.size, 0, none⟩ = some (.int .i64 12) ∧ Y.cell? ⟨w.heap.size, 2, none⟩ = some (.int .i64 (b : Int)) ∧ Y.cell? ⟨x.fb, b, none⟩ = some (.int .i64 vb) ∧ Y.cell? ⟨w.heap.size, 3, none⟩ = some (.int .i64 (c : Int)) ∧ Y.cell? ⟨x.fb, c, none⟩ = some (.int .i64 vc)) : World → Prop) w1.drew := ⟨b1.cell 0, b1.cell 2, cb, b1.cell 3, ccx⟩
  clear b1 o1 hx1 hm1 hp hvb hvc hm hx
  go_enter Try.func47, Try.ntmps47
  go_upto_region 4 with fail
  try rw [hw1]
  refine wp_region_hand (S := (fun Y => Y.cell? ⟨w.heap.size, 0, none⟩ = some (.int .i64 12) ∧ Y.cell? ⟨w.heap.size, 2, none⟩ = some (.int .i64 (b : Int)) ∧ Y.cell? ⟨x.fb, b, none⟩ = some (.int .i64 vb) ∧ Y.cell? ⟨w.heap.size, 3, none⟩ = some (.int .i64 (c : Int)) ∧ Y.cell? ⟨x.fb, c, none⟩ = some (.int .i64 vc))) (by kernel_rfl) ?_
  refine takeW (i := 0) rfl (by kernel_rfl) (by kernel_rfl) (by kernel_rfl) (fun _ _ _ h => h) rfl (by rfl) (v := .pointer (some ⟨w.heap.size, 0, none⟩)) (fun Y hY => by obtain ⟨y0, y1, y2, y3, y4⟩ := hY; go_simp) hS ?_
  simp only [List.setIfInBounds_toArray, List.set_cons_zero, List.set_cons_succ]
  refine takeW (i := 1) rfl (by kernel_rfl) (by kernel_rfl) (by kernel_rfl) (fun _ _ _ h => h) rfl (by rfl) (v := .int .i64 12) (fun Y hY => by obtain ⟨y0, y1, y2, y3, y4⟩ := hY; go_simp) hS ?_
  simp only [List.setIfInBounds_toArray, List.set_cons_zero, List.set_cons_succ]
  refine takeW (i := 2) rfl (by kernel_rfl) (by kernel_rfl) (by kernel_rfl) (fun _ _ _ h => h) rfl (by rfl) (v := .int .i64 7) (fun Y hY => by obtain ⟨y0, y1, y2, y3, y4⟩ := hY; go_simp; try rfl) hS ?_
  simp only [List.setIfInBounds_toArray, List.set_cons_zero, List.set_cons_succ]
  refine takeW (i := 3) rfl (by kernel_rfl) (by kernel_rfl) (by kernel_rfl) (fun _ _ _ h => h) rfl (by rfl) (v := .int .i64 12) (fun Y hY => by obtain ⟨y0, y1, y2, y3, y4⟩ := hY; go_simp; try rfl) hS ?_
  simp only [List.setIfInBounds_toArray, List.set_cons_zero, List.set_cons_succ]
  refine takeW (i := 4) rfl (by kernel_rfl) (by kernel_rfl) (by kernel_rfl) (fun _ _ _ h => h) rfl (by rfl) (v := .pointer (some ⟨x.fb, 0, none⟩)) (fun Y hY => by obtain ⟨y0, y1, y2, y3, y4⟩ := hY; go_simp) hS ?_
  simp only [List.setIfInBounds_toArray, List.set_cons_zero, List.set_cons_succ]
  refine takeW (i := 5) rfl (by kernel_rfl) (by kernel_rfl) (by kernel_rfl) (fun _ _ _ h => h) rfl (by rfl) (v := .pointer (some ⟨w.heap.size, 2, none⟩)) (fun Y hY => by obtain ⟨y0, y1, y2, y3, y4⟩ := hY; go_simp) hS ?_
  simp only [List.setIfInBounds_toArray, List.set_cons_zero, List.set_cons_succ]
  refine takeW (i := 6) rfl (by kernel_rfl) (by kernel_rfl) (by kernel_rfl) (fun _ _ _ h => h) rfl (by rfl) (v := .int .i64 (b : Int)) (fun Y hY => by obtain ⟨y0, y1, y2, y3, y4⟩ := hY; go_simp) hS ?_
  simp only [List.setIfInBounds_toArray, List.set_cons_zero, List.set_cons_succ]
  refine takeW (i := 7) rfl (by kernel_rfl) (by kernel_rfl) (by kernel_rfl) (fun _ _ _ h => h) rfl (by rfl) (v := .pointer (some ⟨x.fb, 0, none⟩)) (fun Y hY => by obtain ⟨y0, y1, y2, y3, y4⟩ := hY; go_simp) hS ?_
  simp only [List.setIfInBounds_toArray, List.set_cons_zero, List.set_cons_succ]
  refine takeW (i := 8) rfl (by kernel_rfl) (by kernel_rfl) (by kernel_rfl) (fun _ _ _ h => h) rfl (by rfl) (v := .pointer (some ⟨x.fb, b, none⟩)) (fun Y hY => by obtain ⟨y0, y1, y2, y3, y4⟩ := hY; go_simp; intro h; omega) hS ?_
  simp only [List.setIfInBounds_toArray, List.set_cons_zero, List.set_cons_succ]
  refine takeW (i := 9) rfl (by kernel_rfl) (by kernel_rfl) (by kernel_rfl) (fun _ _ _ h => h) rfl (by rfl) (v := .int .i64 vb) (fun Y hY => by obtain ⟨y0, y1, y2, y3, y4⟩ := hY; go_simp) hS ?_
  simp only [List.setIfInBounds_toArray, List.set_cons_zero, List.set_cons_succ]
  refine takeW (i := 10) rfl (by kernel_rfl) (by kernel_rfl) (by kernel_rfl) (fun _ _ _ h => h) rfl (by rfl) (v := .pointer (some ⟨x.fb, 0, none⟩)) (fun Y hY => by obtain ⟨y0, y1, y2, y3, y4⟩ := hY; go_simp) hS ?_
  simp only [List.setIfInBounds_toArray, List.set_cons_zero, List.set_cons_succ]
  refine takeW (i := 11) rfl (by kernel_rfl) (by kernel_rfl) (by kernel_rfl) (fun _ _ _ h => h) rfl (by rfl) (v := .pointer (some ⟨w.heap.size, 3, none⟩)) (fun Y hY => by obtain ⟨y0, y1, y2, y3, y4⟩ := hY; go_simp) hS ?_
  simp only [List.setIfInBounds_toArray, List.set_cons_zero, List.set_cons_succ]
  refine takeW (i := 12) rfl (by kernel_rfl) (by kernel_rfl) (by kernel_rfl) (fun _ _ _ h => h) rfl (by rfl) (v := .int .i64 (c : Int)) (fun Y hY => by obtain ⟨y0, y1, y2, y3, y4⟩ := hY; go_simp) hS ?_
  simp only [List.setIfInBounds_toArray, List.set_cons_zero, List.set_cons_succ]
  refine takeW (i := 13) rfl (by kernel_rfl) (by kernel_rfl) (by kernel_rfl) (fun _ _ _ h => h) rfl (by rfl) (v := .pointer (some ⟨x.fb, 0, none⟩)) (fun Y hY => by obtain ⟨y0, y1, y2, y3, y4⟩ := hY; go_simp) hS ?_
  simp only [List.setIfInBounds_toArray, List.set_cons_zero, List.set_cons_succ]
  refine takeW (i := 14) rfl (by kernel_rfl) (by kernel_rfl) (by kernel_rfl) (fun _ _ _ h => h) rfl (by rfl) (v := .pointer (some ⟨x.fb, c, none⟩)) (fun Y hY => by obtain ⟨y0, y1, y2, y3, y4⟩ := hY; go_simp; intro h; omega) hS ?_
  simp only [List.setIfInBounds_toArray, List.set_cons_zero, List.set_cons_succ]
  refine takeW (i := 15) rfl (by kernel_rfl) (by kernel_rfl) (by kernel_rfl) (fun _ _ _ h => h) rfl (by rfl) (v := .int .i64 vc) (fun Y hY => by obtain ⟨y0, y1, y2, y3, y4⟩ := hY; go_simp) hS ?_
  simp only [List.setIfInBounds_toArray, List.set_cons_zero, List.set_cons_succ]
  refine callW (i := 16) rfl (by kernel_rfl) rfl (by rfl) ?_ ((HN.out _)) ?_
  · go_simp
  rintro x w2 ⟨rfl, hw2⟩
  have hw2 := hw2.symm
  subst hw2
  refine ⟨_, rfl, hS, ?_⟩
  simp only [List.setIfInBounds_toArray, List.set_cons_zero, List.set_cons_succ]
  refine takeW (i := 17) rfl (by kernel_rfl) (by kernel_rfl) (by kernel_rfl) (fun _ _ _ h => h) rfl (by rfl) (v := .tuple #[.int .i64 p1, .bool p2]) (fun Y hY => by obtain ⟨y0, y1, y2, y3, y4⟩ := hY; go_simp) hS ?_
  simp only [List.setIfInBounds_toArray, List.set_cons_zero, List.set_cons_succ]
  refine takeW (i := 18) rfl (by kernel_rfl) (by kernel_rfl) (by kernel_rfl) (fun _ _ _ h => h) rfl (by rfl) (v := .int .i64 p1) (fun Y hY => by obtain ⟨y0, y1, y2, y3, y4⟩ := hY; go_simp) hS ?_
  simp only [List.setIfInBounds_toArray, List.set_cons_zero, List.set_cons_succ]
  refine takeW (i := 19) rfl (by kernel_rfl) (by kernel_rfl) (by kernel_rfl) (fun _ _ _ h => h) rfl (by rfl) (v := .bool p2) (fun Y hY => by obtain ⟨y0, y1, y2, y3, y4⟩ := hY; go_simp) hS ?_
  simp only [List.setIfInBounds_toArray, List.set_cons_zero, List.set_cons_succ]
  refine takeW (i := 20) rfl (by kernel_rfl) (by kernel_rfl) (by kernel_rfl) (fun _ _ _ h => h) rfl (by rfl) (v := .int .i64 p1) (fun Y hY => by obtain ⟨y0, y1, y2, y3, y4⟩ := hY; go_simp) hS ?_
  simp only [List.setIfInBounds_toArray, List.set_cons_zero, List.set_cons_succ]
  refine takeW (i := 21) rfl (by kernel_rfl) (by kernel_rfl) (by kernel_rfl) (fun _ _ _ h => h) rfl (by rfl) (v := .bool p2) (fun Y hY => by obtain ⟨y0, y1, y2, y3, y4⟩ := hY; go_simp) hS ?_
  simp only [List.setIfInBounds_toArray, List.set_cons_zero, List.set_cons_succ]
  refine wpAnyH_done (by kernel_rfl) ?_ _
  clear hS q0 cb ccx
  cases p2 with
  | false =>
    go_wp2_with fail
    refine (HST.out _ (Only.refl [] w1).drew).mono ?_
    rintro y w3 ⟨rfl, hb3, ho3⟩
    have HF := Lib.hid (And.intro hb3 (HO1.out.drew.mono (S' := [mb]) (by simp) |>.trans ho3 (fun g hg => .inl hg)))
    clear hb3 ho3
    go_wp2_with fail
    go_end0
    exact ⟨rfl, .inr ⟨rfl, HF.out.1, HF.out.2⟩⟩
  | true =>
    have hS2 : ((fun Y => Y.cell? ⟨w.heap.size, 1, none⟩ = some (.int .i64 (a : Int))) : World → Prop) w1.drew.drew := HB.out.drew.drew.cell 1
    have ca : w1.drew.drew.cell? ⟨x.fb, a, none⟩ = some (.int .i64 (x.f.r.getD a 0)) := by rw [HX.out.2.1.drew.drew.cell a, Fr.at_r HX.out.1 ha]; rfl
    have za := HX.out.2.1.drew.drew.frozen a
    have ho4 : Only [x.fb] w (w1.drew.drew.setCell ⟨x.fb, a, none⟩ (.int .i64 p1)) := (HO1.out.drew.drew.mono (by simp)).setCell (.inl (by simp)) _
    have hxd : FIn w1.drew.drew base x.fb x.sv x.f := HX.out.only (Only.refl [] w1).drew.drew (by simp) (by simp)
    have HF := Lib.hid (And.intro (set_in hxd ha p1) ho4)
    have HS2 : Hid (((fun Y => Y.cell? ⟨w.heap.size, 1, none⟩ = some (.int .i64 (a : Int))) : World → Prop) (w1.drew.drew.setCell ⟨x.fb, a, none⟩ (.int .i64 p1))) := Lib.hid ((HB.out.drew.drew.only ((Only.refl [x.fb] w1.drew.drew).setCell (p := ⟨x.fb, a, none⟩) (.inl (by simp)) _) (by
      intro h
      exact Blk.ne_ HB.out HX.out.2.1 (by decide) (List.mem_singleton.1 h))).cell 1)
    clear ho4 hxd
    go_upto_region 13 with fail
    refine wp_region_hand (S := (fun Y => Y.cell? ⟨w.heap.size, 1, none⟩ = some (.int .i64 (a : Int)))) (by kernel_rfl) ?_
    refine takeW (i := 0) rfl (by kernel_rfl) (by kernel_rfl) (by kernel_rfl) (fun _ _ _ h => h) rfl (by rfl) (v := .pointer (some ⟨x.fb, 0, none⟩)) (fun Y hY => by have y0 := hY; go_simp) hS2 ?_
    simp only [List.setIfInBounds_toArray, List.set_cons_zero, List.set_cons_succ]
    refine takeW (i := 1) rfl (by kernel_rfl) (by kernel_rfl) (by kernel_rfl) (fun _ _ _ h => h) rfl (by rfl) (v := .pointer (some ⟨w.heap.size, 1, none⟩)) (fun Y hY => by have y0 := hY; go_simp) hS2 ?_
    simp only [List.setIfInBounds_toArray, List.set_cons_zero, List.set_cons_succ]
    refine takeW (i := 2) rfl (by kernel_rfl) (by kernel_rfl) (by kernel_rfl) (fun _ _ _ h => h) rfl (by rfl) (v := .int .i64 (a : Int)) (fun Y hY => by have y0 := hY; go_simp) hS2 ?_
    simp only [List.setIfInBounds_toArray, List.set_cons_zero, List.set_cons_succ]
    refine takeW (i := 3) rfl (by kernel_rfl) (by kernel_rfl) (by kernel_rfl) (fun _ _ _ h => h) rfl (by rfl) (v := .int .i64 p1) (fun Y hY => by have y0 := hY; go_simp) hS2 ?_
    simp only [List.setIfInBounds_toArray, List.set_cons_zero, List.set_cons_succ]
    refine takeW (i := 4) rfl (by kernel_rfl) (by kernel_rfl) (by kernel_rfl) (fun _ _ _ h => h) rfl (by rfl) (v := .pointer (some ⟨x.fb, 0, none⟩)) (fun Y hY => by have y0 := hY; go_simp) hS2 ?_
    simp only [List.setIfInBounds_toArray, List.set_cons_zero, List.set_cons_succ]
    refine takeW (i := 5) rfl (by kernel_rfl) (by kernel_rfl) (by kernel_rfl) (fun _ _ _ h => h) rfl (by rfl) (v := .pointer (some ⟨x.fb, a, none⟩)) (fun Y hY => by have y0 := hY; go_simp; intro h; omega) hS2 ?_
    simp only [List.setIfInBounds_toArray, List.set_cons_zero, List.set_cons_succ]
    refine oneS (i := 6) (v := undef) (w' := w1.drew.drew.setCell ⟨x.fb, a, none⟩ (.int .i64 p1)) rfl (by kernel_rfl) rfl (by rfl) (by first | (left; go_simp; done) | (right; go_simp; done)) HS2.out ?_
    refine wpAnyH_done (by kernel_rfl) ?_ _
    go_wp2_with fail
    go_end0
    exact ⟨rfl, .inl ⟨rfl, HF.out.1, HF.out.2⟩⟩
set_option maxHeartbeats 8000000 in
theorem reck_13 (base mb : Nat) (cA : Option Addr) (cn cc : Nat) (fv : Value) (at_ : Int) (ov : Value) (en : Int) (x : FB) (a b c : Nat) (n : Int) (w : World) (hm : Blk w mb 58 (mcells cA cn cc fv at_ ov en false)) (hx : FIn w base x.fb x.sv x.f) (ha : a < 8) (hb8 : b < 8) (hc8 : c < 8) :
    Calls Try.prog 47 #[.pointer (some ⟨mb, 0, none⟩), .pointer (some ⟨x.fb, 0, none⟩), .agg #[.int .i64 13, .int .i64 (a : Int), .int .i64 (b : Int), .int .i64 (c : Int), .int .i64 n]] w (ReckO w base mb cA cn cc fv at_ ov en x a (twoP 13 (x.f.r.getD b 0) (x.f.r.getD c 0))) := by
  obtain ⟨w1, hw1⟩ : ∃ w1, w.alloc (.cells #[.int .i64 13, .int .i64 (a : Int), .int .i64 (b : Int), .int .i64 (c : Int), .int .i64 n] 27) = w1 := ⟨_, rfl⟩
  have b1 : Blk w1 w.heap.size 27 #[.int .i64 13, .int .i64 (a : Int), .int .i64 (b : Int), .int .i64 (c : Int), .int .i64 n] := by rw [← hw1]; exact Blk.new w _ _
  have o1 : Only [] w w1 := by rw [← hw1]; exact (Only.refl [] w).alloc _
  have hx1 := hx.only o1 (by simp) (by simp)
  have hm1 := hm.only o1 (by simp)
  obtain ⟨vb, hvb⟩ : ∃ v, x.f.r.getD b 0 = v := ⟨_, rfl⟩
  obtain ⟨vc, hvc⟩ : ∃ v, x.f.r.getD c 0 = v := ⟨_, rfl⟩
  rw [hvb, hvc]
  obtain ⟨p1, p2, hp⟩ : ∃ p1 p2, twoP 13 vb vc = (p1, p2) := ⟨_, _, rfl⟩
  rw [hp]
  have cb : w1.cell? ⟨x.fb, b, none⟩ = some (.int .i64 vb) := by rw [hx1.2.1.cell b, Fr.at_r hx1.1 hb8, hvb]; rfl
  have ccx : w1.cell? ⟨x.fb, c, none⟩ = some (.int .i64 vc) := by rw [hx1.2.1.cell c, Fr.at_r hx1.1 hc8, hvc]; rfl
  have HN : Hid (∀ wx, Calls Try.prog 70 #[.int .i64 13, .int .i64 vb, .int .i64 vc] wx fun y w' => y = .returned (.tuple #[.int .i64 p1, .bool p2]) ∧ w' = wx) := Lib.hid (fun wx => by have h := two_13 vb vc wx; rw [show (truthP (decide (vb ≤ vc))) = (p1, p2) from by rw [← hp]; rfl] at h; exact h)
  have HST := Lib.hid (fun wx (h : Only [] w1 wx) => stop_any mb cA cn cc fv at_ ov en 1 wx (hm1.only h (by simp)))
  have HX := Lib.hid hx1
  have HB := Lib.hid b1
  have HO1 := Lib.hid o1
  have q0 := b1.cell 0
  have hS : ((fun Y => Y.cell? ⟨w.heap.size, 0, none⟩ = some (.int .i64 13) ∧ Y.cell? ⟨w.heap.size, 2, none⟩ = some (.int .i64 (b : Int)) ∧ Y.cell? ⟨x.fb, b, none⟩ = some (.int .i64 vb) ∧ Y.cell? ⟨w.heap.size, 3, none⟩ = some (.int .i64 (c : Int)) ∧ Y.cell? ⟨x.fb, c, none⟩ = some (.int .i64 vc)) : World → Prop) w1.drew := ⟨b1.cell 0, b1.cell 2, cb, b1.cell 3, ccx⟩
  clear b1 o1 hx1 hm1 hp hvb hvc hm hx
  go_enter Try.func47, Try.ntmps47
  go_upto_region 4 with fail
  try rw [hw1]
  refine wp_region_hand (S := (fun Y => Y.cell? ⟨w.heap.size, 0, none⟩ = some (.int .i64 13) ∧ Y.cell? ⟨w.heap.size, 2, none⟩ = some (.int .i64 (b : Int)) ∧ Y.cell? ⟨x.fb, b, none⟩ = some (.int .i64 vb) ∧ Y.cell? ⟨w.heap.size, 3, none⟩ = some (.int .i64 (c : Int)) ∧ Y.cell? ⟨x.fb, c, none⟩ = some (.int .i64 vc))) (by kernel_rfl) ?_
  refine takeW (i := 0) rfl (by kernel_rfl) (by kernel_rfl) (by kernel_rfl) (fun _ _ _ h => h) rfl (by rfl) (v := .pointer (some ⟨w.heap.size, 0, none⟩)) (fun Y hY => by obtain ⟨y0, y1, y2, y3, y4⟩ := hY; go_simp) hS ?_
  simp only [List.setIfInBounds_toArray, List.set_cons_zero, List.set_cons_succ]
  refine takeW (i := 1) rfl (by kernel_rfl) (by kernel_rfl) (by kernel_rfl) (fun _ _ _ h => h) rfl (by rfl) (v := .int .i64 13) (fun Y hY => by obtain ⟨y0, y1, y2, y3, y4⟩ := hY; go_simp) hS ?_
  simp only [List.setIfInBounds_toArray, List.set_cons_zero, List.set_cons_succ]
  refine takeW (i := 2) rfl (by kernel_rfl) (by kernel_rfl) (by kernel_rfl) (fun _ _ _ h => h) rfl (by rfl) (v := .int .i64 8) (fun Y hY => by obtain ⟨y0, y1, y2, y3, y4⟩ := hY; go_simp; try rfl) hS ?_
  simp only [List.setIfInBounds_toArray, List.set_cons_zero, List.set_cons_succ]
  refine takeW (i := 3) rfl (by kernel_rfl) (by kernel_rfl) (by kernel_rfl) (fun _ _ _ h => h) rfl (by rfl) (v := .int .i64 13) (fun Y hY => by obtain ⟨y0, y1, y2, y3, y4⟩ := hY; go_simp; try rfl) hS ?_
  simp only [List.setIfInBounds_toArray, List.set_cons_zero, List.set_cons_succ]
  refine takeW (i := 4) rfl (by kernel_rfl) (by kernel_rfl) (by kernel_rfl) (fun _ _ _ h => h) rfl (by rfl) (v := .pointer (some ⟨x.fb, 0, none⟩)) (fun Y hY => by obtain ⟨y0, y1, y2, y3, y4⟩ := hY; go_simp) hS ?_
  simp only [List.setIfInBounds_toArray, List.set_cons_zero, List.set_cons_succ]
  refine takeW (i := 5) rfl (by kernel_rfl) (by kernel_rfl) (by kernel_rfl) (fun _ _ _ h => h) rfl (by rfl) (v := .pointer (some ⟨w.heap.size, 2, none⟩)) (fun Y hY => by obtain ⟨y0, y1, y2, y3, y4⟩ := hY; go_simp) hS ?_
  simp only [List.setIfInBounds_toArray, List.set_cons_zero, List.set_cons_succ]
  refine takeW (i := 6) rfl (by kernel_rfl) (by kernel_rfl) (by kernel_rfl) (fun _ _ _ h => h) rfl (by rfl) (v := .int .i64 (b : Int)) (fun Y hY => by obtain ⟨y0, y1, y2, y3, y4⟩ := hY; go_simp) hS ?_
  simp only [List.setIfInBounds_toArray, List.set_cons_zero, List.set_cons_succ]
  refine takeW (i := 7) rfl (by kernel_rfl) (by kernel_rfl) (by kernel_rfl) (fun _ _ _ h => h) rfl (by rfl) (v := .pointer (some ⟨x.fb, 0, none⟩)) (fun Y hY => by obtain ⟨y0, y1, y2, y3, y4⟩ := hY; go_simp) hS ?_
  simp only [List.setIfInBounds_toArray, List.set_cons_zero, List.set_cons_succ]
  refine takeW (i := 8) rfl (by kernel_rfl) (by kernel_rfl) (by kernel_rfl) (fun _ _ _ h => h) rfl (by rfl) (v := .pointer (some ⟨x.fb, b, none⟩)) (fun Y hY => by obtain ⟨y0, y1, y2, y3, y4⟩ := hY; go_simp; intro h; omega) hS ?_
  simp only [List.setIfInBounds_toArray, List.set_cons_zero, List.set_cons_succ]
  refine takeW (i := 9) rfl (by kernel_rfl) (by kernel_rfl) (by kernel_rfl) (fun _ _ _ h => h) rfl (by rfl) (v := .int .i64 vb) (fun Y hY => by obtain ⟨y0, y1, y2, y3, y4⟩ := hY; go_simp) hS ?_
  simp only [List.setIfInBounds_toArray, List.set_cons_zero, List.set_cons_succ]
  refine takeW (i := 10) rfl (by kernel_rfl) (by kernel_rfl) (by kernel_rfl) (fun _ _ _ h => h) rfl (by rfl) (v := .pointer (some ⟨x.fb, 0, none⟩)) (fun Y hY => by obtain ⟨y0, y1, y2, y3, y4⟩ := hY; go_simp) hS ?_
  simp only [List.setIfInBounds_toArray, List.set_cons_zero, List.set_cons_succ]
  refine takeW (i := 11) rfl (by kernel_rfl) (by kernel_rfl) (by kernel_rfl) (fun _ _ _ h => h) rfl (by rfl) (v := .pointer (some ⟨w.heap.size, 3, none⟩)) (fun Y hY => by obtain ⟨y0, y1, y2, y3, y4⟩ := hY; go_simp) hS ?_
  simp only [List.setIfInBounds_toArray, List.set_cons_zero, List.set_cons_succ]
  refine takeW (i := 12) rfl (by kernel_rfl) (by kernel_rfl) (by kernel_rfl) (fun _ _ _ h => h) rfl (by rfl) (v := .int .i64 (c : Int)) (fun Y hY => by obtain ⟨y0, y1, y2, y3, y4⟩ := hY; go_simp) hS ?_
  simp only [List.setIfInBounds_toArray, List.set_cons_zero, List.set_cons_succ]
  refine takeW (i := 13) rfl (by kernel_rfl) (by kernel_rfl) (by kernel_rfl) (fun _ _ _ h => h) rfl (by rfl) (v := .pointer (some ⟨x.fb, 0, none⟩)) (fun Y hY => by obtain ⟨y0, y1, y2, y3, y4⟩ := hY; go_simp) hS ?_
  simp only [List.setIfInBounds_toArray, List.set_cons_zero, List.set_cons_succ]
  refine takeW (i := 14) rfl (by kernel_rfl) (by kernel_rfl) (by kernel_rfl) (fun _ _ _ h => h) rfl (by rfl) (v := .pointer (some ⟨x.fb, c, none⟩)) (fun Y hY => by obtain ⟨y0, y1, y2, y3, y4⟩ := hY; go_simp; intro h; omega) hS ?_
  simp only [List.setIfInBounds_toArray, List.set_cons_zero, List.set_cons_succ]
  refine takeW (i := 15) rfl (by kernel_rfl) (by kernel_rfl) (by kernel_rfl) (fun _ _ _ h => h) rfl (by rfl) (v := .int .i64 vc) (fun Y hY => by obtain ⟨y0, y1, y2, y3, y4⟩ := hY; go_simp) hS ?_
  simp only [List.setIfInBounds_toArray, List.set_cons_zero, List.set_cons_succ]
  refine callW (i := 16) rfl (by kernel_rfl) rfl (by rfl) ?_ ((HN.out _)) ?_
  · go_simp
  rintro x w2 ⟨rfl, hw2⟩
  have hw2 := hw2.symm
  subst hw2
  refine ⟨_, rfl, hS, ?_⟩
  simp only [List.setIfInBounds_toArray, List.set_cons_zero, List.set_cons_succ]
  refine takeW (i := 17) rfl (by kernel_rfl) (by kernel_rfl) (by kernel_rfl) (fun _ _ _ h => h) rfl (by rfl) (v := .tuple #[.int .i64 p1, .bool p2]) (fun Y hY => by obtain ⟨y0, y1, y2, y3, y4⟩ := hY; go_simp) hS ?_
  simp only [List.setIfInBounds_toArray, List.set_cons_zero, List.set_cons_succ]
  refine takeW (i := 18) rfl (by kernel_rfl) (by kernel_rfl) (by kernel_rfl) (fun _ _ _ h => h) rfl (by rfl) (v := .int .i64 p1) (fun Y hY => by obtain ⟨y0, y1, y2, y3, y4⟩ := hY; go_simp) hS ?_
  simp only [List.setIfInBounds_toArray, List.set_cons_zero, List.set_cons_succ]
  refine takeW (i := 19) rfl (by kernel_rfl) (by kernel_rfl) (by kernel_rfl) (fun _ _ _ h => h) rfl (by rfl) (v := .bool p2) (fun Y hY => by obtain ⟨y0, y1, y2, y3, y4⟩ := hY; go_simp) hS ?_
  simp only [List.setIfInBounds_toArray, List.set_cons_zero, List.set_cons_succ]
  refine takeW (i := 20) rfl (by kernel_rfl) (by kernel_rfl) (by kernel_rfl) (fun _ _ _ h => h) rfl (by rfl) (v := .int .i64 p1) (fun Y hY => by obtain ⟨y0, y1, y2, y3, y4⟩ := hY; go_simp) hS ?_
  simp only [List.setIfInBounds_toArray, List.set_cons_zero, List.set_cons_succ]
  refine takeW (i := 21) rfl (by kernel_rfl) (by kernel_rfl) (by kernel_rfl) (fun _ _ _ h => h) rfl (by rfl) (v := .bool p2) (fun Y hY => by obtain ⟨y0, y1, y2, y3, y4⟩ := hY; go_simp) hS ?_
  simp only [List.setIfInBounds_toArray, List.set_cons_zero, List.set_cons_succ]
  refine wpAnyH_done (by kernel_rfl) ?_ _
  clear hS q0 cb ccx
  cases p2 with
  | false =>
    go_wp2_with fail
    refine (HST.out _ (Only.refl [] w1).drew).mono ?_
    rintro y w3 ⟨rfl, hb3, ho3⟩
    have HF := Lib.hid (And.intro hb3 (HO1.out.drew.mono (S' := [mb]) (by simp) |>.trans ho3 (fun g hg => .inl hg)))
    clear hb3 ho3
    go_wp2_with fail
    go_end0
    exact ⟨rfl, .inr ⟨rfl, HF.out.1, HF.out.2⟩⟩
  | true =>
    have hS2 : ((fun Y => Y.cell? ⟨w.heap.size, 1, none⟩ = some (.int .i64 (a : Int))) : World → Prop) w1.drew.drew := HB.out.drew.drew.cell 1
    have ca : w1.drew.drew.cell? ⟨x.fb, a, none⟩ = some (.int .i64 (x.f.r.getD a 0)) := by rw [HX.out.2.1.drew.drew.cell a, Fr.at_r HX.out.1 ha]; rfl
    have za := HX.out.2.1.drew.drew.frozen a
    have ho4 : Only [x.fb] w (w1.drew.drew.setCell ⟨x.fb, a, none⟩ (.int .i64 p1)) := (HO1.out.drew.drew.mono (by simp)).setCell (.inl (by simp)) _
    have hxd : FIn w1.drew.drew base x.fb x.sv x.f := HX.out.only (Only.refl [] w1).drew.drew (by simp) (by simp)
    have HF := Lib.hid (And.intro (set_in hxd ha p1) ho4)
    have HS2 : Hid (((fun Y => Y.cell? ⟨w.heap.size, 1, none⟩ = some (.int .i64 (a : Int))) : World → Prop) (w1.drew.drew.setCell ⟨x.fb, a, none⟩ (.int .i64 p1))) := Lib.hid ((HB.out.drew.drew.only ((Only.refl [x.fb] w1.drew.drew).setCell (p := ⟨x.fb, a, none⟩) (.inl (by simp)) _) (by
      intro h
      exact Blk.ne_ HB.out HX.out.2.1 (by decide) (List.mem_singleton.1 h))).cell 1)
    clear ho4 hxd
    go_upto_region 13 with fail
    refine wp_region_hand (S := (fun Y => Y.cell? ⟨w.heap.size, 1, none⟩ = some (.int .i64 (a : Int)))) (by kernel_rfl) ?_
    refine takeW (i := 0) rfl (by kernel_rfl) (by kernel_rfl) (by kernel_rfl) (fun _ _ _ h => h) rfl (by rfl) (v := .pointer (some ⟨x.fb, 0, none⟩)) (fun Y hY => by have y0 := hY; go_simp) hS2 ?_
    simp only [List.setIfInBounds_toArray, List.set_cons_zero, List.set_cons_succ]
    refine takeW (i := 1) rfl (by kernel_rfl) (by kernel_rfl) (by kernel_rfl) (fun _ _ _ h => h) rfl (by rfl) (v := .pointer (some ⟨w.heap.size, 1, none⟩)) (fun Y hY => by have y0 := hY; go_simp) hS2 ?_
    simp only [List.setIfInBounds_toArray, List.set_cons_zero, List.set_cons_succ]
    refine takeW (i := 2) rfl (by kernel_rfl) (by kernel_rfl) (by kernel_rfl) (fun _ _ _ h => h) rfl (by rfl) (v := .int .i64 (a : Int)) (fun Y hY => by have y0 := hY; go_simp) hS2 ?_
    simp only [List.setIfInBounds_toArray, List.set_cons_zero, List.set_cons_succ]
    refine takeW (i := 3) rfl (by kernel_rfl) (by kernel_rfl) (by kernel_rfl) (fun _ _ _ h => h) rfl (by rfl) (v := .int .i64 p1) (fun Y hY => by have y0 := hY; go_simp) hS2 ?_
    simp only [List.setIfInBounds_toArray, List.set_cons_zero, List.set_cons_succ]
    refine takeW (i := 4) rfl (by kernel_rfl) (by kernel_rfl) (by kernel_rfl) (fun _ _ _ h => h) rfl (by rfl) (v := .pointer (some ⟨x.fb, 0, none⟩)) (fun Y hY => by have y0 := hY; go_simp) hS2 ?_
    simp only [List.setIfInBounds_toArray, List.set_cons_zero, List.set_cons_succ]
    refine takeW (i := 5) rfl (by kernel_rfl) (by kernel_rfl) (by kernel_rfl) (fun _ _ _ h => h) rfl (by rfl) (v := .pointer (some ⟨x.fb, a, none⟩)) (fun Y hY => by have y0 := hY; go_simp; intro h; omega) hS2 ?_
    simp only [List.setIfInBounds_toArray, List.set_cons_zero, List.set_cons_succ]
    refine oneS (i := 6) (v := undef) (w' := w1.drew.drew.setCell ⟨x.fb, a, none⟩ (.int .i64 p1)) rfl (by kernel_rfl) rfl (by rfl) (by first | (left; go_simp; done) | (right; go_simp; done)) HS2.out ?_
    refine wpAnyH_done (by kernel_rfl) ?_ _
    go_wp2_with fail
    go_end0
    exact ⟨rfl, .inl ⟨rfl, HF.out.1, HF.out.2⟩⟩
end Go.Proofs.Ytkdacemachejoaa.Vm
