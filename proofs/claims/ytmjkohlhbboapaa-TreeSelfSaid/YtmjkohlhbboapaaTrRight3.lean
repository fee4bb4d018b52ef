/- Right of the known tree. PRINTED by wip/gen_trright3.py. -/
import Derived.Test.YtmjkohlhbboapaaTrRight2
import Derived.Test.YtmjkohlhbboapaaTrCount
namespace Go.Proofs.Ytmjkohlhbboapaa.Tree
open Go.RowKit Go.Shelf
set_option linter.unusedVariables false
set_option maxRecDepth 100000
def sx (g : Nat) : ST := .mk 6 ⟨#[]⟩ (ex g) none 0 [] none 0 []
def fx (g k : Nat) : FT := ⟨⟨#[104]⟩, none, 0, [], 0, some ⟨k, 0, none⟩, 1, [sx g]⟩
def dx (g k l : Nat) : DT := ⟨⟨#[112]⟩, none, 0, [], some ⟨l, 0, none⟩, 1, [fx g k]⟩
theorem body_right (A : Option Addr) (n c B : Nat) (xs : List ST) (w : World) (h1 : Recs w B 9 A n (xs.map ST.row)) (hn : n ≤ maxLen)
    (HP : ∀ wr, Only [] w wr → ∀ x ∈ xs, Calls Try.prog 72 #[x.val] wr fun e w' => e = .returned (.bool false) ∧ Only [] wr w') :
    Calls Try.prog 53 #[.slice A n c] w fun e w' => e = .returned (.bool true) ∧ Only [] w w' := by
  have HC := Lib.hid (conS A n c B xs w h1 hn HP)
  clear h1 HP
  go_enter Try.func53, Try.ntmps53
  go_wp2_with fail
  refine HC.out.mono ?_
  rintro e w2 ⟨rfl, ho2⟩
  have HO := Lib.hid ho2
  clear ho2
  go_wp2_with fail
  go_ret
  exact ⟨rfl, HO.out⟩
theorem body_nil (w : World) : Calls Try.prog 53 #[.slice none 0 0] w fun e w' => e = .returned (.bool true) ∧ Only [] w w' :=
  body_right none 0 0 0 [] w Recs.nil_ (by simp [maxLen]) (fun _ _ x hx => by cases hx)
set_option maxHeartbeats 8000000 in
theorem stmt_right (g : Nat) (w : World) (hx : XT.In w w.heap.size 2 (ex g)) : Calls Try.prog 73 #[(sx g).val] w fun e w' => e = .returned (.bool true) ∧ Only [] w w' := by
  show Calls Try.prog 73 #[.agg #[.int .i64 6, .string ⟨#[]⟩, .int .i64 10, .int .i64 0, .string ⟨#[]⟩, .string ⟨#[]⟩, .slice (some ⟨g, 0, none⟩) 2 2, .slice none 0 0, .slice none 0 0]] w _
  obtain ⟨w1, hw1⟩ : ∃ w1, w.alloc (.cells #[.int .i64 6, .string ⟨#[]⟩, .int .i64 10, .int .i64 0, .string ⟨#[]⟩, .string ⟨#[]⟩, .slice (some ⟨g, 0, none⟩) 2 2, .slice none 0 0, .slice none 0 0] 31) = w1 := ⟨_, rfl⟩
  have b1 : Blk w1 w.heap.size 31 #[.int .i64 6, .string ⟨#[]⟩, .int .i64 10, .int .i64 0, .string ⟨#[]⟩, .string ⟨#[]⟩, .slice (some ⟨g, 0, none⟩) 2 2, .slice none 0 0, .slice none 0 0] := by rw [← hw1]; exact Blk.new w _ _
  have o1 : Only [] w w1 := by rw [← hw1]; exact (Only.refl [] w).alloc _
  have HX1 := Lib.hid (hx.only o1 (B' := w1.heap.size) o1.size)
  have HN := Lib.hid (fun wx => body_nil wx)
  have HB1 := Lib.hid b1
  have HO1 := Lib.hid o1
  have p7 := b1.cell 7
  clear b1 o1 hx
  go_enter Try.func73, Try.ntmps73
  go_wp2_with fail
  refine (HN.out _).mono ?_
  rintro e w2 ⟨rfl, ho2⟩
  have HO2 := Lib.hid (HO1.out.trans ho2 (by simp))
  have b2 := HB1.out.only ho2 (by simp)
  have HB2 := Lib.hid b2
  have HX2 := Lib.hid (HX1.out.only ho2 (B' := w2.heap.size) ho2.size)
  have p8 := b2.cell 8
  clear ho2 b2 p7
  go_wp2_with fail
  refine (HN.out _).mono ?_
  rintro e w3 ⟨rfl, ho3⟩
  have HO3 := Lib.hid (HO2.out.trans ho3 (by simp))
  have b3 := HB2.out.only ho3 (by simp)
  have HRX := Lib.hid (right_ex g w3 (HX2.out.only ho3 (B' := w3.heap.size) ho3.size))
  clear ho3 p8
  have q0 := b3.cell 0
  have q1 := b3.cell 1
  have q2 := b3.cell 2
  have q3 := b3.cell 3
  have q4 := b3.cell 4
  have q5 := b3.cell 5
  have q6 := b3.cell 6
  have q7 := b3.cell 7
  have q8 := b3.cell 8
  clear b3
  go_wp2_with fail
  refine HRX.out.mono ?_
  rintro e w4 ⟨rfl, ho4⟩
  have HO4 := Lib.hid (HO3.out.trans ho4 (by simp))
  clear ho4 q0 q1 q2 q3 q4 q5 q6 q7 q8
  go_wp2_with fail
  go_ret
  exact ⟨rfl, HO4.out⟩
theorem not_stmt (g : Nat) (w : World) (hx : XT.In w w.heap.size 2 (ex g)) : Calls Try.prog 72 #[(sx g).val] w fun e w' => e = .returned (.bool false) ∧ Only [] w w' := by
  show Calls Try.prog 72 #[.agg #[.int .i64 6, .string ⟨#[]⟩, .int .i64 10, .int .i64 0, .string ⟨#[]⟩, .string ⟨#[]⟩, .slice (some ⟨g, 0, none⟩) 2 2, .slice none 0 0, .slice none 0 0]] w _
  obtain ⟨w1, hw1⟩ : ∃ w1, w.alloc (.cells #[.int .i64 6, .string ⟨#[]⟩, .int .i64 10, .int .i64 0, .string ⟨#[]⟩, .string ⟨#[]⟩, .slice (some ⟨g, 0, none⟩) 2 2, .slice none 0 0, .slice none 0 0] 31) = w1 := ⟨_, rfl⟩
  have b1 : Blk w1 w.heap.size 31 #[.int .i64 6, .string ⟨#[]⟩, .int .i64 10, .int .i64 0, .string ⟨#[]⟩, .string ⟨#[]⟩, .slice (some ⟨g, 0, none⟩) 2 2, .slice none 0 0, .slice none 0 0] := by rw [← hw1]; exact Blk.new w _ _
  have o1 : Only [] w w1 := by rw [← hw1]; exact (Only.refl [] w).alloc _
  have HS := Lib.hid (stmt_right g w1 (hx.only o1 o1.size))
  have q0 := b1.cell 0
  have q1 := b1.cell 1
  have q2 := b1.cell 2
  have q3 := b1.cell 3
  have q4 := b1.cell 4
  have q5 := b1.cell 5
  have q6 := b1.cell 6
  have q7 := b1.cell 7
  have q8 := b1.cell 8
  have HO1 := Lib.hid o1
  clear b1 o1 hx
  go_enter Try.func72, Try.ntmps72
  go_wp2_with fail
  refine HS.out.mono ?_
  rintro e w2 ⟨rfl, ho2⟩
  have HO2 := Lib.hid (HO1.out.trans ho2 (by simp))
  clear ho2
  go_wp2_with fail
  go_ret
  exact ⟨rfl, HO2.out⟩
theorem body_sx (g k B : Nat) (w : World) (hx : XT.In w w.heap.size 2 (ex g)) (hr : Recs w B 9 (some ⟨k, 0, none⟩) 1 [(sx g).row]) : Calls Try.prog 53 #[.slice (some ⟨k, 0, none⟩) 1 1] w fun e w' => e = .returned (.bool true) ∧ Only [] w w' :=
  body_right (some ⟨k, 0, none⟩) 1 1 B [sx g] w hr (by simp [maxLen]) (fun wr ho x hm => by
    rw [List.mem_singleton.1 hm]
    exact not_stmt g wr (hx.only ho ho.size))
set_option maxHeartbeats 8000000 in
theorem func_right (g k : Nat) (w : World) (hx : XT.In w w.heap.size 2 (ex g)) (hr : Recs w w.heap.size 9 (some ⟨k, 0, none⟩) 1 [(sx g).row]) : Calls Try.prog 36 #[(fx g k).val] w fun e w' => e = .returned (.bool true) ∧ Only [] w w' := by
  show Calls Try.prog 36 #[.agg #[.string ⟨#[104]⟩, .slice none 0 0, .int .u8 0, .slice (some ⟨k, 0, none⟩) 1 1]] w _
  obtain ⟨w1, hw1⟩ : ∃ w1, w.alloc (.cells #[.string ⟨#[104]⟩, .slice none 0 0, .int .u8 0, .slice (some ⟨k, 0, none⟩) 1 1] 35) = w1 := ⟨_, rfl⟩
  have b1 : Blk w1 w.heap.size 35 #[.string ⟨#[104]⟩, .slice none 0 0, .int .u8 0, .slice (some ⟨k, 0, none⟩) 1 1] := by rw [← hw1]; exact Blk.new w _ _
  have o1 : Only [] w w1 := by rw [← hw1]; exact (Only.refl [] w).alloc _
  have HX1 := Lib.hid (And.intro (hx.only o1 (B' := w1.heap.size) o1.size) (recs_only hr o1 (B' := w1.heap.size) o1.size))
  have HN := Lib.hid (fun wx => name_104 wx)
  have HP := Lib.hid (fun wx => noPar wx)
  have HB1 := Lib.hid b1
  have HO1 := Lib.hid o1
  have p0 := b1.cell 0
  clear b1 o1 hx hr
  go_enter Try.func36, Try.ntmps36
  go_wp2_with fail
  refine (HN.out _).mono ?_
  rintro e w2 ⟨rfl, ho2⟩
  have HO2 := Lib.hid (HO1.out.trans ho2 (by simp))
  have b2 := HB1.out.only ho2 (by simp)
  have HB2 := Lib.hid b2
  have HX2 := Lib.hid (And.intro (HX1.out.1.only ho2 (B' := w2.heap.size) ho2.size) (recs_only HX1.out.2 ho2 (B' := w2.heap.size) ho2.size))
  have p1 := b2.cell 1
  clear ho2 b2 p0
  go_wp2_with fail
  refine (HP.out _).mono ?_
  rintro e w3 ⟨rfl, ho3⟩
  have HO3 := Lib.hid (HO2.out.trans ho3 (by simp))
  have b3 := HB2.out.only ho3 (by simp)
  have HRX := Lib.hid (body_sx g k w3.heap.size w3 (HX2.out.1.only ho3 (B' := w3.heap.size) ho3.size) (recs_only HX2.out.2 ho3 (B' := w3.heap.size) ho3.size))
  clear ho3 p1
  have q0 := b3.cell 0
  have q1 := b3.cell 1
  have q2 := b3.cell 2
  have q3 := b3.cell 3
  clear b3
  go_wp2_with fail
  refine HRX.out.mono ?_
  rintro e w4 ⟨rfl, ho4⟩
  have HO4 := Lib.hid (HO3.out.trans ho4 (by simp))
  clear ho4 q0 q1 q2 q3
  go_wp2_with fail
  go_ret
  exact ⟨rfl, HO4.out⟩
theorem not_func (g k : Nat) (w : World) (hx : XT.In w w.heap.size 2 (ex g)) (hr : Recs w w.heap.size 9 (some ⟨k, 0, none⟩) 1 [(sx g).row]) : Calls Try.prog 35 #[(fx g k).val] w fun e w' => e = .returned (.bool false) ∧ Only [] w w' := by
  show Calls Try.prog 35 #[.agg #[.string ⟨#[104]⟩, .slice none 0 0, .int .u8 0, .slice (some ⟨k, 0, none⟩) 1 1]] w _
  obtain ⟨w1, hw1⟩ : ∃ w1, w.alloc (.cells #[.string ⟨#[104]⟩, .slice none 0 0, .int .u8 0, .slice (some ⟨k, 0, none⟩) 1 1] 35) = w1 := ⟨_, rfl⟩
  have b1 : Blk w1 w.heap.size 35 #[.string ⟨#[104]⟩, .slice none 0 0, .int .u8 0, .slice (some ⟨k, 0, none⟩) 1 1] := by rw [← hw1]; exact Blk.new w _ _
  have o1 : Only [] w w1 := by rw [← hw1]; exact (Only.refl [] w).alloc _
  have HS := Lib.hid (func_right g k w1 (hx.only o1 o1.size) (recs_only hr o1 o1.size))
  have q0 := b1.cell 0
  have q1 := b1.cell 1
  have q2 := b1.cell 2
  have q3 := b1.cell 3
  have HO1 := Lib.hid o1
  clear b1 o1 hx hr
  go_enter Try.func35, Try.ntmps35
  go_wp2_with fail
  refine HS.out.mono ?_
  rintro e w2 ⟨rfl, ho2⟩
  have HO2 := Lib.hid (HO1.out.trans ho2 (by simp))
  clear ho2
  go_wp2_with fail
  go_ret
  exact ⟨rfl, HO2.out⟩
theorem word_112 (w : World) : Calls Try.prog 29 #[.string ⟨#[112]⟩] w fun e w' => e = .returned (.bool true) ∧ Only [] w w' := by
  have HN := Lib.hid (name_112 w)
  go_enter Try.func29, Try.ntmps29
  go_wp2_with fail
  refine HN.out.mono ?_
  rintro e w2 ⟨rfl, ho2⟩
  have HO2 := Lib.hid ho2
  clear ho2
  go_wp2_with fail
  go_ret
  exact ⟨rfl, HO2.out⟩
theorem con_fx (g k l B : Nat) (w : World) (hx : XT.In w w.heap.size 2 (ex g)) (hr : Recs w w.heap.size 9 (some ⟨k, 0, none⟩) 1 [(sx g).row]) (hf : Recs w B 4 (some ⟨l, 0, none⟩) 1 [(fx g k).row]) : Calls Try.prog 34 #[.slice (some ⟨l, 0, none⟩) 1 1, .func (.func 35) #[] #[]] w fun e w' => e = .returned (.bool false) ∧ Only [] w w' :=
  conF (some ⟨l, 0, none⟩) 1 1 B [fx g k] w hf (by simp [maxLen]) (fun wr ho x hm => by
    rw [List.mem_singleton.1 hm]
    exact not_func g k wr (hx.only ho ho.size) (recs_only hr ho ho.size))
set_option maxHeartbeats 8000000 in
theorem right_dx (g k l : Nat) (w : World) (hx : XT.In w w.heap.size 2 (ex g)) (hr : Recs w w.heap.size 9 (some ⟨k, 0, none⟩) 1 [(sx g).row]) (hf : Recs w w.heap.size 4 (some ⟨l, 0, none⟩) 1 [(fx g k).row]) : Calls Try.prog 13 #[(dx g k l).val] w fun e w' => e = .returned (.bool true) ∧ Only [] w w' := by
  show Calls Try.prog 13 #[.agg #[.string ⟨#[112]⟩, .slice none 0 0, .slice (some ⟨l, 0, none⟩) 1 1]] w _
  obtain ⟨w1, hw1⟩ : ∃ w1, w.alloc (.cells #[.string ⟨#[112]⟩, .slice none 0 0, .slice (some ⟨l, 0, none⟩) 1 1] 25) = w1 := ⟨_, rfl⟩
  have b1 : Blk w1 w.heap.size 25 #[.string ⟨#[112]⟩, .slice none 0 0, .slice (some ⟨l, 0, none⟩) 1 1] := by rw [← hw1]; exact Blk.new w _ _
  have o1 : Only [] w w1 := by rw [← hw1]; exact (Only.refl [] w).alloc _
  obtain ⟨w2, hw2⟩ : ∃ w2, w1.alloc (.cells #[.func (.func 29) #[] #[]] 63) = w2 := ⟨_, rfl⟩
  have b2 : Blk w2 w1.heap.size 63 #[.func (.func 29) #[] #[]] := by rw [← hw2]; exact Blk.new w1 _ _
  have o2 : Only [] w1 w2 := by rw [← hw2]; exact (Only.refl [] w1).alloc _
  have o12 := o1.trans o2 (by simp)
  have b12 := b1.only o2 (by simp)
  have HX1 := Lib.hid (And.intro (hx.only o12 (B' := w2.heap.size) o12.size) (And.intro (recs_only hr o12 (B' := w2.heap.size) o12.size) (recs_only hf o12 (B' := w2.heap.size) o12.size)))
  have HN := Lib.hid (fun wx => word_112 wx)
  have HP := Lib.hid (fun q wx => noStr q wx)
  have HB := Lib.hid (And.intro b12 b2)
  have HO := Lib.hid o12
  have p0 := b12.cell 0
  have f0 := b2.cell 0
  clear b1 o1 b2 o2 b12 o12 hx hr hf
  have hsf := st_func Try.prog
  go_enter Try.func13, Try.ntmps13
  go_upto_region 2 with fail
  clear hsf
  try rw [hw2]
  go_wp2_with fail
  refine (HN.out _).mono ?_
  rintro e w3 ⟨rfl, ho3⟩
  have HO3 := Lib.hid (HO.out.trans ho3 (by simp))
  have b3 := HB.out.1.only ho3 (by simp)
  have HB3 := Lib.hid b3
  have HX3 := Lib.hid (And.intro (HX1.out.1.only ho3 (B' := w3.heap.size) ho3.size) (And.intro (recs_only HX1.out.2.1 ho3 (B' := w3.heap.size) ho3.size) (recs_only HX1.out.2.2 ho3 (B' := w3.heap.size) ho3.size)))
  have q0 := b3.cell 0
  have q1 := b3.cell 1
  have q2 := b3.cell 2
  clear ho3 b3 p0 f0
  go_wp2_with fail
  refine (HP.out _ _).mono ?_
  rintro e w4 ⟨rfl, ho4⟩
  have HO4 := Lib.hid (HO3.out.trans ho4 (by simp))
  have b4 := HB3.out.only ho4 (by simp)
  have HRX := Lib.hid (con_fx g k l w4.heap.size w4 (HX3.out.1.only ho4 ho4.size) (recs_only HX3.out.2.1 ho4 ho4.size) (recs_only HX3.out.2.2 ho4 ho4.size))
  clear ho4 q0 q1 q2
  have q0 := b4.cell 0
  have q1 := b4.cell 1
  have q2 := b4.cell 2
  clear b4
  go_wp2_with fail
  refine HRX.out.mono ?_
  rintro e w5 ⟨rfl, ho5⟩
  have HO5 := Lib.hid (HO4.out.trans ho5 (by simp))
  clear ho5 q0 q1 q2
  go_wp2_with fail
  go_ret
  exact ⟨rfl, HO5.out⟩
end Go.Proofs.Ytmjkohlhbboapaa.Tree
