/- A call that has room. PRINTED by wip/gen_vecall.py. -/
import Derived.Test.YtkdacemachejoaaMsA
import Derived.Test.YtkdacemachejoaaRanges
namespace Go.Proofs.Ytkdacemachejoaa.Vm
open Go.RowKit Go.Shelf Object
set_option linter.unusedVariables false
set_option maxRecDepth 100000
theorem out4 {l : List Int} (h : l.length = 4) : ∃ a b c d, l = [a, b, c, d] := by
  match l, h with
  | [a, b, c, d], _ => exact ⟨a, b, c, d, rfl⟩
theorem pfr_info : (Try.prog.info? 51).map (fun i => (i.zero, i.size, i.bytes)) = some (some (.pointer none), 1, 8) := by kernel_rfl
theorem mcells_one (mb : Nat) (cA : Option Addr) (cn cc : Nat) (fv fv' : Value) (at_ : Int) (ov : Value) (en : Int) (b : Bool) : (mcells cA cn cc fv at_ ov en b).setIfInBounds 1 fv' = mcells cA cn cc fv' at_ ov en b := rfl
theorem out_in {w : World} {base k : Nat} {x : FB} (h : FIn w base x.fb x.sv x.f) (hk : k < 4) (v : Int) : FIn (w.setCell ⟨x.fb, 13 + k, none⟩ (.int .i64 v)) base x.fb x.sv { x.f with out := x.f.out.set k v } := by
  obtain ⟨h1, h2, h3, h4⟩ := h
  refine ⟨⟨h1.1, h1.2.1, by simp [h1.2.2]⟩, ?_, h3.only ((Only.refl [x.fb] w).setCell (p := ⟨x.fb, 13 + k, none⟩) (.inl (by simp)) _) (fun g hg hm => row_ne h3 x.fb h2 (by decide) (by rw [← List.mem_singleton.1 hm]; exact hg)), h4⟩
  have h := h2.set_ (13 + k) (.int .i64 v)
  rw [show (x.f.row x.sv).setIfInBounds (13 + k) (.int .i64 v) = _ from Fr.set_out h1 hk v] at h
  exact h
def w4s (w : World) (fb : Nat) : World := (((w.setCell ⟨fb, 13, none⟩ (.int .i64 0)).setCell ⟨fb, 14, none⟩ (.int .i64 0)).setCell ⟨fb, 15, none⟩ (.int .i64 0)).setCell ⟨fb, 16, none⟩ (.int .i64 0)
theorem out_zero {w : World} {base : Nat} {x : FB} (h : FIn w base x.fb x.sv x.f) : FIn (w4s w x.fb) base x.fb x.sv { x.f with out := zero4 } ∧ Only [x.fb] w (w4s w x.fb) := by
  obtain ⟨a, b, c, d, ho⟩ := out4 h.1.2.2
  have h0 := out_in (k := 0) h (by decide) 0
  have h1 := out_in (x := ⟨x.fb, x.sv, _⟩) (k := 1) h0 (by decide) 0
  have h2 := out_in (x := ⟨x.fb, x.sv, _⟩) (k := 2) h1 (by decide) 0
  have h3 := out_in (x := ⟨x.fb, x.sv, _⟩) (k := 3) h2 (by decide) 0
  refine ⟨?_, ((((Only.refl [x.fb] w).setCell (.inl (by simp)) _).setCell (.inl (by simp)) _).setCell (.inl (by simp)) _).setCell (.inl (by simp)) _⟩
  have e : ((((x.f.out.set 0 0).set 1 0).set 2 0).set 3 0) = zero4 := by rw [ho]; rfl
  rw [← e]
  exact h3
def CallO (w : World) (base mb : Nat) (x : FB) (cA : Option Addr) (cn cc : Nat) (fv : Value) (n : Nat) (rows : List (List Value)) (at_ : Int) (ov : Value) (en a k : Int) (y : Ending) (w' : World) : Prop :=
  y = .returned (.tuple #[]) ∧ ∃ fv' w2 nb, ExtR 51 1 w w2 base fv fv' (n + 1) (rows ++ [[.pointer (some ⟨nb, 0, none⟩)]]) ∧ FIn w2 base nb (.slice none 0 0) ⟨zero8, [], x.f.out, zero4, at_, a⟩ ∧ w.heap.size ≤ nb ∧
    Blk w' mb 58 (mcells cA cn cc fv' k ov en false) ∧ FIn w' base x.fb x.sv { x.f with out := zero4 } ∧ Only [mb, x.fb] w2 w'
set_option maxHeartbeats 8000000 in
theorem call_room (base mb : Nat) (x : FB) (cA : Option Addr) (cn cc : Nat) (fv : Value) (n : Nat) (rows : List (List Value)) (at_ : Int) (ov : Value) (en op a b c k : Int) (w : World) (hm : Blk w mb 58 (mcells cA cn cc fv at_ ov en false)) (hF : OwnR 51 1 w base fv n rows) (hx : FIn w base x.fb x.sv x.f) (hn : n ≤ 201) (hbm : base ≤ mb) (hbw : base ≤ w.heap.size) :
    Calls Try.prog 45 #[.pointer (some ⟨mb, 0, none⟩), .pointer (some ⟨x.fb, 0, none⟩), .agg #[.int .i64 op, .int .i64 a, .int .i64 b, .int .i64 c, .int .i64 k]] w (CallO w base mb x cA cn cc fv n rows at_ ov en a k) := by
  obtain ⟨o0, o1, o2, o3, ho⟩ := out4 hx.1.2.2
  obtain ⟨fA, fc, rfl, _, _, _, _⟩ := hF.shape (by decide)
  obtain ⟨w1, hw1⟩ : ∃ w1, w.alloc (.cells #[.int .i64 op, .int .i64 a, .int .i64 b, .int .i64 c, .int .i64 k] 27) = w1 := ⟨_, rfl⟩
  have bx1 : Blk w1 w.heap.size 27 #[.int .i64 op, .int .i64 a, .int .i64 b, .int .i64 c, .int .i64 k] := by rw [← hw1]; exact Blk.new w _ _
  have o1' : Only [] w w1 := by rw [← hw1]; exact (Only.refl [] w).alloc _
  obtain ⟨w2, hw2⟩ : ∃ w2, w1.drew.alloc (.cells #[.int .i64 0, .int .i64 0, .int .i64 0, .int .i64 0, .int .i64 0, .int .i64 0, .int .i64 0, .int .i64 0, .slice none 0 0, .int .i64 o0, .int .i64 o1, .int .i64 o2, .int .i64 o3, .int .i64 0, .int .i64 0, .int .i64 0, .int .i64 0, .int .i64 at_, .int .i64 a] 55) = w2 := ⟨_, rfl⟩
  have bf2 : Blk w2 w1.heap.size 55 #[.int .i64 0, .int .i64 0, .int .i64 0, .int .i64 0, .int .i64 0, .int .i64 0, .int .i64 0, .int .i64 0, .slice none 0 0, .int .i64 o0, .int .i64 o1, .int .i64 o2, .int .i64 o3, .int .i64 0, .int .i64 0, .int .i64 0, .int .i64 0, .int .i64 at_, .int .i64 a] := by rw [← hw2]; exact Blk.new w1.drew _ _
  have o2' : Only [] w1 w2 := by rw [← hw2]; exact (Only.refl [] w1).drew.alloc _
  obtain ⟨w3, hw3⟩ : ∃ w3, w2.alloc (.cells #[.pointer (some ⟨w1.heap.size, 0, none⟩)] 51) = w3 := ⟨_, rfl⟩
  have bs3 : Blk w3 w2.heap.size 51 #[.pointer (some ⟨w1.heap.size, 0, none⟩)] := by rw [← hw3]; exact Blk.new w2 _ _
  have o3' : Only [] w2 w3 := by rw [← hw3]; exact (Only.refl [] w2).alloc _
  have o13 : Only [] w1 w3 := o2'.trans o3' (by simp)
  have o03 : Only [] w w3 := o1'.trans o13 (by simp)
  have l0 : w.heap.size ≤ w1.heap.size := o1'.size
  have l2 := bf2.lt
  have l3 := bs3.lt
  have hrs : Recs w3 w3.heap.size 1 (some ⟨w2.heap.size, 0, none⟩) 1 [[.pointer (some ⟨w1.heap.size, 0, none⟩)]] := ⟨rfl, fun _ => ⟨w2.heap.size, 0, rfl, l3, fun i hi j hj => by
    obtain rfl : i = 0 := by omega
    obtain rfl : j = 0 := by simpa using hj
    have h := bs3.cell 0
    exact ⟨h, rfl⟩⟩⟩
  have hF3 := hF.only o03 (by simp)
  have hm1 := hm.only o1' (by simp)
  have hx1 := hx.only o1' (by simp) (by simp)
  have hxm : x.fb ≠ mb := Blk.ne_ hx.2.1 hm (by decide)
  have q13 : ∀ Y, Only [] w1 Y → Y.cell? ⟨x.fb, 13, none⟩ = some (.int .i64 o0) ∧ Y.cell? ⟨x.fb, 14, none⟩ = some (.int .i64 o1) ∧ Y.cell? ⟨x.fb, 15, none⟩ = some (.int .i64 o2) ∧ Y.cell? ⟨x.fb, 16, none⟩ = some (.int .i64 o3) := fun Y hY => by
    have h := hx1.2.1.only hY (by simp)
    have e : ∀ i : Nat, i < 4 → Y.cell? ⟨x.fb, 13 + i, none⟩ = some (iv ([o0, o1, o2, o3].getD i 0)) := fun i hi => by rw [h.cell (13 + i), Fr.at_out hx.1 hi, ho]
    exact ⟨e 0 (by decide), e 1 (by decide), e 2 (by decide), e 3 (by decide)⟩
  have HS : Hid (∀ Y, Only [] w1 Y → (fun Y => Y.cell? ⟨mb, 1, none⟩ = some (.slice fA n fc) ∧ Y.cell? ⟨mb, 2, none⟩ = some (.int .i64 at_) ∧ Y.cell? ⟨w.heap.size, 1, none⟩ = some (.int .i64 a) ∧ Y.cell? ⟨x.fb, 13, none⟩ = some (.int .i64 o0) ∧ Y.cell? ⟨x.fb, 14, none⟩ = some (.int .i64 o1) ∧ Y.cell? ⟨x.fb, 15, none⟩ = some (.int .i64 o2) ∧ Y.cell? ⟨x.fb, 16, none⟩ = some (.int .i64 o3)) Y) := Lib.hid (fun Y hY => ⟨(hm1.only hY (by simp)).cell 1, (hm1.only hY (by simp)).cell 2, (bx1.only hY (by simp)).cell 1, q13 Y hY⟩)
  have HSM : Hid (∀ Y, Only (ownL (.slice fA n fc)) w3 Y → (fun Y => Y.cell? ⟨mb, 1, none⟩ = some (.slice fA n fc) ∧ Y.cell? ⟨mb, 2, none⟩ = some (.int .i64 at_) ∧ Y.cell? ⟨w.heap.size, 1, none⟩ = some (.int .i64 a) ∧ Y.cell? ⟨x.fb, 13, none⟩ = some (.int .i64 o0) ∧ Y.cell? ⟨x.fb, 14, none⟩ = some (.int .i64 o1) ∧ Y.cell? ⟨x.fb, 15, none⟩ = some (.int .i64 o2) ∧ Y.cell? ⟨x.fb, 16, none⟩ = some (.int .i64 o3)) Y) := Lib.hid (fun Y hY => by
    have n1 := row_ne hF3 mb (hm1.only o13 (by simp)) (by decide)
    have n2 := row_ne hF3 x.fb (hx1.2.1.only o13 (by simp)) (by decide)
    have n3 := row_ne hF3 w.heap.size (bx1.only o13 (by simp)) (by decide)
    have hc := q13 w3 o13
    exact ⟨((hm1.only o13 (by simp)).only hY n1).cell 1, ((hm1.only o13 (by simp)).only hY n1).cell 2, ((bx1.only o13 (by simp)).only hY n3).cell 1, hY.cell hc.1 n2, hY.cell hc.2.1 n2, hY.cell hc.2.2.1 n2, hY.cell hc.2.2.2 n2⟩)
  have hS1 : (fun Y => Y.cell? ⟨mb, 1, none⟩ = some (.slice fA n fc) ∧ Y.cell? ⟨mb, 2, none⟩ = some (.int .i64 at_) ∧ Y.cell? ⟨w.heap.size, 1, none⟩ = some (.int .i64 a) ∧ Y.cell? ⟨x.fb, 13, none⟩ = some (.int .i64 o0) ∧ Y.cell? ⟨x.fb, 14, none⟩ = some (.int .i64 o1) ∧ Y.cell? ⟨x.fb, 15, none⟩ = some (.int .i64 o2) ∧ Y.cell? ⟨x.fb, 16, none⟩ = some (.int .i64 o3)) w1.drew := HS.out _ (Only.refl [] w1).drew
  have hS2 : (fun Y => Y.cell? ⟨mb, 1, none⟩ = some (.slice fA n fc) ∧ Y.cell? ⟨mb, 2, none⟩ = some (.int .i64 at_) ∧ Y.cell? ⟨w.heap.size, 1, none⟩ = some (.int .i64 a) ∧ Y.cell? ⟨x.fb, 13, none⟩ = some (.int .i64 o0) ∧ Y.cell? ⟨x.fb, 14, none⟩ = some (.int .i64 o1) ∧ Y.cell? ⟨x.fb, 15, none⟩ = some (.int .i64 o2) ∧ Y.cell? ⟨x.fb, 16, none⟩ = some (.int .i64 o3)) w2 := HS.out _ o2'
  have hS3 : (fun Y => Y.cell? ⟨mb, 1, none⟩ = some (.slice fA n fc) ∧ Y.cell? ⟨mb, 2, none⟩ = some (.int .i64 at_) ∧ Y.cell? ⟨w.heap.size, 1, none⟩ = some (.int .i64 a) ∧ Y.cell? ⟨x.fb, 13, none⟩ = some (.int .i64 o0) ∧ Y.cell? ⟨x.fb, 14, none⟩ = some (.int .i64 o1) ∧ Y.cell? ⟨x.fb, 15, none⟩ = some (.int .i64 o2) ∧ Y.cell? ⟨x.fb, 16, none⟩ = some (.int .i64 o3)) w3 := HS.out _ o13
  obtain ⟨ti, hti, htz, hi2, hi3⟩ := info_parts pfr_info
  have HTI := Lib.hid (And.intro hti (And.intro htz (And.intro hi2 hi3)))
  have HF3 := Lib.hid hF3
  have HRS := Lib.hid hrs
  have HL := Lib.hid (And.intro l0 (And.intro l2 l3))
  have HO := Lib.hid (And.intro o03 (And.intro o1' o13))
  have HB := Lib.hid (And.intro (hm1.only o13 (by simp)) (And.intro (bx1.only o13 (by simp)) (bf2.only o3' (by simp))))
  have HX := Lib.hid (hx1.only o13 (by simp) (by simp))
  have HE := Lib.hid (And.intro hx.1 ho)
  have HN := Lib.hid (And.intro hxm (And.intro hn (And.intro hbm hbw)))
  have p1 : w1.cell? ⟨mb, 1, none⟩ = some (.slice fA n fc) := hm1.cell 1
  have d1 : decide ((201 : Int) < (n : Int)) = false := decide_eq_false (by omega)
  clear hti htz hi2 hi3 hF hF3 hrs l0 l2 l3 o1' o2' o3' o13 o03 bx1 bf2 bs3 hm hm1 hx hx1 q13 ho hxm hbm hbw hn
  go_enter Try.func45, Try.ntmps45
  go_upto_region 3 with fail
  clear p1
  refine wp_region_last (fun Y => Y.cell? ⟨mb, 1, none⟩ = some (.slice fA n fc) ∧ Y.cell? ⟨mb, 2, none⟩ = some (.int .i64 at_) ∧ Y.cell? ⟨w.heap.size, 1, none⟩ = some (.int .i64 a) ∧ Y.cell? ⟨x.fb, 13, none⟩ = some (.int .i64 o0) ∧ Y.cell? ⟨x.fb, 14, none⟩ = some (.int .i64 o1) ∧ Y.cell? ⟨x.fb, 15, none⟩ = some (.int .i64 o2) ∧ Y.cell? ⟨x.fb, 16, none⟩ = some (.int .i64 o3)) 21 (by kernel_rfl) ?_
  refine takeL (i := 0) rfl (by kernel_rfl) (by kernel_rfl) (by kernel_rfl) (by kernel_rfl) (fun _ _ _ h => h) rfl (by rfl) (v := .pointer (some ⟨mb, 0, none⟩)) (fun Y hY => by obtain ⟨y0, y1, y2, y3, y4, y5, y6⟩ := hY; go_simp) hS1 ?_
  simp only [List.setIfInBounds_toArray, List.set_cons_zero, List.set_cons_succ]
  refine takeL (i := 1) rfl (by kernel_rfl) (by kernel_rfl) (by kernel_rfl) (by kernel_rfl) (fun _ _ _ h => h) rfl (by rfl) (v := .pointer (some ⟨mb, 0, none⟩)) (fun Y hY => by obtain ⟨y0, y1, y2, y3, y4, y5, y6⟩ := hY; go_simp) hS1 ?_
  simp only [List.setIfInBounds_toArray, List.set_cons_zero, List.set_cons_succ]
  refine takeL (i := 2) rfl (by kernel_rfl) (by kernel_rfl) (by kernel_rfl) (by kernel_rfl) (fun _ _ _ h => h) rfl (by rfl) (v := .pointer (some ⟨mb, 0, none⟩)) (fun Y hY => by obtain ⟨y0, y1, y2, y3, y4, y5, y6⟩ := hY; go_simp) hS1 ?_
  simp only [List.setIfInBounds_toArray, List.set_cons_zero, List.set_cons_succ]
  refine takeL (i := 3) rfl (by kernel_rfl) (by kernel_rfl) (by kernel_rfl) (by kernel_rfl) (fun _ _ _ h => h) rfl (by rfl) (v := .pointer (some ⟨mb, 1, none⟩)) (fun Y hY => by obtain ⟨y0, y1, y2, y3, y4, y5, y6⟩ := hY; go_simp) hS1 ?_
  simp only [List.setIfInBounds_toArray, List.set_cons_zero, List.set_cons_succ]
  refine takeL (i := 4) rfl (by kernel_rfl) (by kernel_rfl) (by kernel_rfl) (by kernel_rfl) (fun _ _ _ h => h) rfl (by rfl) (v := .slice fA n fc) (fun Y hY => by obtain ⟨y0, y1, y2, y3, y4, y5, y6⟩ := hY; go_simp) hS1 ?_
  simp only [List.setIfInBounds_toArray, List.set_cons_zero, List.set_cons_succ]
  refine takeL (i := 5) rfl (by kernel_rfl) (by kernel_rfl) (by kernel_rfl) (by kernel_rfl) (fun _ _ _ h => h) rfl (by rfl) (v := .pointer (some ⟨x.fb, 0, none⟩)) (fun Y hY => by obtain ⟨y0, y1, y2, y3, y4, y5, y6⟩ := hY; go_simp) hS1 ?_
  simp only [List.setIfInBounds_toArray, List.set_cons_zero, List.set_cons_succ]
  refine takeL (i := 6) rfl (by kernel_rfl) (by kernel_rfl) (by kernel_rfl) (by kernel_rfl) (fun _ _ _ h => h) rfl (by rfl) (v := .pointer (some ⟨x.fb, 0, none⟩)) (fun Y hY => by obtain ⟨y0, y1, y2, y3, y4, y5, y6⟩ := hY; go_simp) hS1 ?_
  simp only [List.setIfInBounds_toArray, List.set_cons_zero, List.set_cons_succ]
  refine takeL (i := 7) rfl (by kernel_rfl) (by kernel_rfl) (by kernel_rfl) (by kernel_rfl) (fun _ _ _ h => h) rfl (by rfl) (v := .pointer (some ⟨x.fb, 13, none⟩)) (fun Y hY => by obtain ⟨y0, y1, y2, y3, y4, y5, y6⟩ := hY; go_simp) hS1 ?_
  simp only [List.setIfInBounds_toArray, List.set_cons_zero, List.set_cons_succ]
  refine takeL (i := 8) rfl (by kernel_rfl) (by kernel_rfl) (by kernel_rfl) (by kernel_rfl) (fun _ _ _ h => h) rfl (by rfl) (v := .agg #[.int .i64 o0, .int .i64 o1, .int .i64 o2, .int .i64 o3]) (fun Y hY => by obtain ⟨y0, y1, y2, y3, y4, y5, y6⟩ := hY; go_simp) hS1 ?_
  simp only [List.setIfInBounds_toArray, List.set_cons_zero, List.set_cons_succ]
  refine takeL (i := 9) rfl (by kernel_rfl) (by kernel_rfl) (by kernel_rfl) (by kernel_rfl) (fun _ _ _ h => h) rfl (by rfl) (v := .pointer (some ⟨mb, 0, none⟩)) (fun Y hY => by obtain ⟨y0, y1, y2, y3, y4, y5, y6⟩ := hY; go_simp) hS1 ?_
  simp only [List.setIfInBounds_toArray, List.set_cons_zero, List.set_cons_succ]
  refine takeL (i := 10) rfl (by kernel_rfl) (by kernel_rfl) (by kernel_rfl) (by kernel_rfl) (fun _ _ _ h => h) rfl (by rfl) (v := .pointer (some ⟨mb, 0, none⟩)) (fun Y hY => by obtain ⟨y0, y1, y2, y3, y4, y5, y6⟩ := hY; go_simp) hS1 ?_
  simp only [List.setIfInBounds_toArray, List.set_cons_zero, List.set_cons_succ]
  refine takeL (i := 11) rfl (by kernel_rfl) (by kernel_rfl) (by kernel_rfl) (by kernel_rfl) (fun _ _ _ h => h) rfl (by rfl) (v := .pointer (some ⟨mb, 2, none⟩)) (fun Y hY => by obtain ⟨y0, y1, y2, y3, y4, y5, y6⟩ := hY; go_simp) hS1 ?_
  simp only [List.setIfInBounds_toArray, List.set_cons_zero, List.set_cons_succ]
  refine takeL (i := 12) rfl (by kernel_rfl) (by kernel_rfl) (by kernel_rfl) (by kernel_rfl) (fun _ _ _ h => h) rfl (by rfl) (v := .int .i64 at_) (fun Y hY => by obtain ⟨y0, y1, y2, y3, y4, y5, y6⟩ := hY; go_simp) hS1 ?_
  simp only [List.setIfInBounds_toArray, List.set_cons_zero, List.set_cons_succ]
  refine takeL (i := 13) rfl (by kernel_rfl) (by kernel_rfl) (by kernel_rfl) (by kernel_rfl) (fun _ _ _ h => h) rfl (by rfl) (v := .pointer (some ⟨w.heap.size, 1, none⟩)) (fun Y hY => by obtain ⟨y0, y1, y2, y3, y4, y5, y6⟩ := hY; go_simp) hS1 ?_
  simp only [List.setIfInBounds_toArray, List.set_cons_zero, List.set_cons_succ]
  refine takeL (i := 14) rfl (by kernel_rfl) (by kernel_rfl) (by kernel_rfl) (by kernel_rfl) (fun _ _ _ h => h) rfl (by rfl) (v := .int .i64 a) (fun Y hY => by obtain ⟨y0, y1, y2, y3, y4, y5, y6⟩ := hY; go_simp) hS1 ?_
  simp only [List.setIfInBounds_toArray, List.set_cons_zero, List.set_cons_succ]
  refine takeL (i := 15) rfl (by kernel_rfl) (by kernel_rfl) (by kernel_rfl) (by kernel_rfl) (fun _ _ _ h => h) rfl (by rfl) (v := .agg #[.int .i64 0, .int .i64 0, .int .i64 0, .int .i64 0, .int .i64 0, .int .i64 0, .int .i64 0, .int .i64 0, .slice none 0 0, .int .i64 o0, .int .i64 o1, .int .i64 o2, .int .i64 o3, .int .i64 0, .int .i64 0, .int .i64 0, .int .i64 0, .int .i64 at_, .int .i64 a]) (fun Y hY => by obtain ⟨y0, y1, y2, y3, y4, y5, y6⟩ := hY; go_simp) hS1 ?_
  simp only [List.setIfInBounds_toArray, List.set_cons_zero, List.set_cons_succ]
  refine oneWL (i := 16) (v := .pointer (some ⟨w1.heap.size, 0, none⟩)) (w' := w2) rfl (by kernel_rfl) rfl (by rfl) (by rw [← hw2]; go_simp) hS2 ?_
  simp only [List.setIfInBounds_toArray, List.set_cons_zero, List.set_cons_succ]
  refine oneWL (i := 17) (v := .slice (some ⟨w2.heap.size, 0, none⟩) 1 1) (w' := w3) rfl (by kernel_rfl) rfl (by rfl) (by rw [← hw3]; go_simp) hS3 ?_
  simp only [List.setIfInBounds_toArray, List.set_cons_zero, List.set_cons_succ]
  refine oneAL (i := 18) rfl (by kernel_rfl) rfl rfl (fun K hK => ?_)
  refine step_append_rec (w := w3) rfl (.tmp 18) (.tmp 31) 56 rfl Try.underlying56 HTI.out.1 HTI.out.2.1 HTI.out.2.2.1 HTI.out.2.2.2 (by decide) (by decide) rfl HF3.out rfl HRS.out (by simp) (by simp [Value.oneCell']) (by have := HN.out.2.1; omega) (by have := HN.out.2.1; unfold maxLen; omega) (by have := HN.out.2.2.2; have := HL.out; omega) ?_
  intro v4 w4 hE
  have hE : ExtR 51 1 w3 w4 base (.slice fA n fc) v4 (n + 1) (rows ++ [[.pointer (some ⟨w1.heap.size, 0, none⟩)]]) := hE
  obtain ⟨gA, gc, rfl, _, _, _, _⟩ := hE.own.shape (by decide)
  have HE1 := Lib.hid hE
  have hS4 := HSM.out w4 hE.only
  clear hE
  refine hK _ _ hS4 ?_
  clear hK K
  simp only [List.setIfInBounds_toArray, List.set_cons_zero, List.set_cons_succ]
  have HM4 : Hid (Blk w4 mb 58 (mcells cA cn cc (.slice fA n fc) at_ ov en false)) := Lib.hid (HB.out.1.only HE1.out.only (row_ne HF3.out mb HB.out.1 (by decide)))
  have m4 : w4.cell? ⟨mb, 1, none⟩ = some (.slice fA n fc) := HM4.out.cell 1
  have y4 := HM4.out.frozen 1
  have HX4 := Lib.hid (HX.out.only HE1.out.only (row_ne HF3.out x.fb HX.out.2.1 (by decide)) (rows_ne HX.out.2.2.1 HF3.out (by decide)))
  have HC4 := Lib.hid (HB.out.2.1.only HE1.out.only (row_ne HF3.out _ HB.out.2.1 (by decide)))
  obtain ⟨w5, hw5⟩ : ∃ w5, w4.setCell ⟨mb, 1, none⟩ (.slice gA (n + 1) gc) = w5 := ⟨_, rfl⟩
  have HM5 : Hid (Blk w5 mb 58 (mcells cA cn cc (.slice gA (n + 1) gc) at_ ov en false)) := Lib.hid (by rw [← hw5]; exact HM4.out.set_ 1 _)
  have HO5 : Hid (Only [mb] w4 w5) := Lib.hid (by rw [← hw5]; exact (Only.refl [mb] w4).setCell (.inl (by simp)) _)
  have HX5 := Lib.hid (HX4.out.only HO5.out (by simpa using HN.out.1) (not_one (row_ne HX4.out.2.2.1 mb HM4.out (by decide))))
  have hcm : w.heap.size ≠ mb := Blk.ne_ HC4.out HM4.out (by decide)
  have HC5 := Lib.hid (HC4.out.only HO5.out (by simpa using hcm))
  refine oneWL (i := 19) (v := .pointer (some ⟨mb, 0, none⟩)) rfl (by kernel_rfl) rfl (by rfl) (by go_simp) hS4 ?_
  simp only [List.setIfInBounds_toArray, List.set_cons_zero, List.set_cons_succ]
  refine takeL (i := 20) rfl (by kernel_rfl) (by kernel_rfl) (by kernel_rfl) (by kernel_rfl) (fun _ _ _ h => h) rfl (by rfl) (v := .pointer (some ⟨mb, 1, none⟩)) (fun Y hY => by obtain ⟨y0, y1, y2, y3, y4, y5, y6⟩ := hY; go_simp) hS4 ?_
  simp only [List.setIfInBounds_toArray, List.set_cons_zero, List.set_cons_succ]
  refine lastS (v := undef) (w' := w5) rfl (by kernel_rfl) rfl (by rfl) (by rw [← hw5]; first | (left; go_simp; done) | (right; go_simp; done)) ?_
  refine wpAnyL_done (by kernel_rfl) ?_ _
  clear hS1 hS2 hS3 hS4 HS HSM hw2 hw3 hcm m4 y4 hw5
  have f5 := HX5.out.2.1
  have cout : ∀ i : Nat, i < 4 → w5.cell? ⟨x.fb, 13 + i, none⟩ = some (iv ([o0, o1, o2, o3].getD i 0)) := fun i hi => by rw [f5.cell (13 + i), Fr.at_out HE.out.1 hi, HE.out.2]
  have c13 : w5.cell? ⟨x.fb, 13, none⟩ = some (.int .i64 o0) := cout 0 (by decide)
  have c14 : w5.cell? ⟨x.fb, 14, none⟩ = some (.int .i64 o1) := cout 1 (by decide)
  have c15 : w5.cell? ⟨x.fb, 15, none⟩ = some (.int .i64 o2) := cout 2 (by decide)
  have c16 : w5.cell? ⟨x.fb, 16, none⟩ = some (.int .i64 o3) := cout 3 (by decide)
  have z13 := f5.frozen 13
  have z14 := f5.frozen 14
  have z15 := f5.frozen 15
  have z16 := f5.frozen 16
  obtain ⟨w6, hw6⟩ : ∃ w6, (((w5.setCell ⟨x.fb, 13, none⟩ (.int .i64 0)).setCell ⟨x.fb, 14, none⟩ (.int .i64 0)).setCell ⟨x.fb, 15, none⟩ (.int .i64 0)).setCell ⟨x.fb, 16, none⟩ (.int .i64 0) = w6 := ⟨_, rfl⟩
  have HX6 : Hid (FIn w6 base x.fb x.sv { x.f with out := zero4 }) := Lib.hid (by rw [← hw6]; exact (out_zero HX5.out).1)
  have HO6 : Hid (Only [x.fb] w5 w6) := Lib.hid (by rw [← hw6]; exact (out_zero HX5.out).2)
  have HM6 : Hid (Blk w6 mb 58 (mcells cA cn cc (.slice gA (n + 1) gc) at_ ov en false)) := Lib.hid (HM5.out.only HO6.out (by simpa using fun h => HN.out.1 h.symm))
  have hcx : w.heap.size ≠ x.fb := Blk.ne_ HC5.out f5 (by decide)
  have p4 : w6.cell? ⟨w.heap.size, 4, none⟩ = some (.int .i64 k) := (HC5.out.only HO6.out (by simpa using hcx)).cell 4
  have m2 : w6.cell? ⟨mb, 2, none⟩ = some (.int .i64 at_) := HM6.out.cell 2
  have y2 := HM6.out.frozen 2
  clear f5 cout hcx
  go_upto_region 5 with fail
  clear c13 c14 c15 c16 z13 z14 z15 z16
  try rw [hw6]
  clear hw6
  obtain ⟨w7, hw7⟩ : ∃ w7, w6.setCell ⟨mb, 2, none⟩ (.int .i64 k) = w7 := ⟨_, rfl⟩
  have HM7 : Hid (Blk w7 mb 58 (mcells cA cn cc (.slice gA (n + 1) gc) k ov en false)) := Lib.hid (by rw [← hw7]; exact HM6.out.set_ 2 _)
  have HO7 : Hid (Only [mb] w6 w7) := Lib.hid (by rw [← hw7]; exact (Only.refl [mb] w6).setCell (.inl (by simp)) _)
  have HX7 : Hid (FIn w7 base x.fb x.sv { x.f with out := zero4 }) := Lib.hid (HX6.out.only HO7.out (by simpa using HN.out.1) (not_one (row_ne HX6.out.2.2.1 mb HM6.out (by decide))))
  go_wp2_with fail
  go_end0
  have hnF : w1.heap.size ∉ ownL (.slice fA n fc) := row_ne HF3.out w1.heap.size HB.out.2.2 (by decide)
  have hE : ExtR 51 1 w w4 base (.slice fA n fc) (.slice gA (n + 1) gc) (n + 1) (rows ++ [[.pointer (some ⟨w1.heap.size, 0, none⟩)]]) := HE1.out.after HO.out.1
  exact ⟨rfl, _, w4, w1.heap.size, hE, ⟨⟨rfl, HE.out.1.2.2, rfl⟩, by
    have h := HB.out.2.2.only HE1.out.only hnF
    unfold Fr.row
    simp only [HE.out.2]
    exact h, OwnR.nil_ _ _ _ _, by have := HN.out.2.2.2; have := HL.out; omega⟩, HL.out.1, HM7.out, HX7.out,
    ((HO5.out.mono (S' := [mb, x.fb]) (by simp)).trans HO6.out (by simp)).trans HO7.out (by simp)⟩
end Go.Proofs.Ytkdacemachejoaa.Vm
