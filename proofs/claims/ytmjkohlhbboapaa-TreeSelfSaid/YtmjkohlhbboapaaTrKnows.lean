/- knows: the law's small tree. -/
import Derived.Test.YtmjkohlhbboapaaTrRight3
import Derived.Test.YtmjkohlhbboapaaTrCalls2
namespace Go.Proofs.Ytmjkohlhbboapaa.Tree
open Go.RowKit Go.Shelf
set_option linter.unusedVariables false
set_option maxRecDepth 100000
set_option maxHeartbeats 4000000 in
theorem texts_same (S : Nat → ByteArray) (g h n c1 c2 : Nat) (w : World) (hn : n ≤ 1000) (H : ∀ k, k < n → w.cell? ⟨g, k, none⟩ = some (.string (S k)) ∧ w.cell? ⟨h, k, none⟩ = some (.string (S k))) :
    Calls Try.prog 11 #[.slice (some ⟨g, 0, none⟩) n c1, .slice (some ⟨h, 0, none⟩) n c2] w fun y w' => y = .returned (.bool true) ∧ Only [] w w' := by
  have HH := Lib.hid H
  clear H
  go_enter Try.func11, Try.ntmps11
  have hne : ((n : Int) != (n : Int)) = false := by simp
  go_wp2_with fail
  go_loopw [5] (fun i wr => ∃ k : Nat, i = .int .i64 k ∧ k ≤ n ∧ Only [] w wr) (fun i _ => n - (intOf i).toNat)
  case atStart => exact ⟨0, rfl, by omega, Only.refl _ _⟩
  case round =>
    obtain ⟨k, rfl, hk, ho⟩ := hrel
    have HO := Lib.hid ho
    clear ho
    by_cases hlt : k < n
    · have d1 : decide ((k : Int) < (n : Int)) = true := decide_eq_true (by omega)
      obtain ⟨q1, q2⟩ := HH.out k hlt
      replace q1 := HO.out.cell q1 (by simp)
      replace q2 := HO.out.cell q2 (by simp)
      have e5 : ((S k).toList == (S k).toList) = true := by simp
      obtain ⟨s, hs⟩ : ∃ s, S k = s := ⟨_, rfl⟩
      rw [hs] at q1 q2 e5
      clear hs
      go_wp2_with fail
      go_region
      go_wp2_with fail
      go_roundw
      case measure => simp [intOf]; omega
      case rel => exact ⟨k + 1, by go_num, by omega, HO.out.drew⟩
    · obtain rfl : k = n := by omega
      have d1 : decide ((k : Int) < (k : Int)) = false := decide_eq_false (by omega)
      go_wp2_with fail
      go_ret
      exact ⟨rfl, HO.out⟩
theorem recs_one {w : World} {B b : Nat} {t : TypeId} {row : List Value} (hb : Blk w b t row.toArray) (hB : b < B) : Recs w B row.length (some ⟨b, 0, none⟩) 1 [row] :=
  ⟨rfl, fun _ => ⟨b, 0, rfl, hB, fun i hi j hj => by
    obtain rfl : i = 0 := by omega
    have := hb.cell j
    simp only [Nat.zero_mul, Nat.zero_add, List.getElem?_toArray] at this ⊢
    exact ⟨this, by rw [show [row].getD 0 [] = row from rfl, List.getElem?_eq_getElem hj]; rfl⟩⟩⟩
theorem recs_two {w : World} {B b n : Nat} {t : TypeId} {r s : List Value} (hb : Blk w b t (r ++ s).toArray) (hB : b < B) (hr : r.length = n) (hs : s.length = n) : Recs w B n (some ⟨b, 0, none⟩) 2 [r, s] :=
  ⟨rfl, fun _ => ⟨b, 0, rfl, hB, fun i hi j hj => by
    obtain rfl | rfl : i = 0 ∨ i = 1 := by omega
    · have := hb.cell j
      simp only [Nat.zero_mul, Nat.zero_add, List.getElem?_toArray] at this ⊢
      rw [this, List.getElem?_append_left (by omega)]
      exact ⟨rfl, by rw [show [r, s].getD 0 [] = r from rfl, List.getElem?_eq_getElem (by omega)]; rfl⟩
    · have := hb.cell (n + j)
      simp only [Nat.one_mul, Nat.zero_add, List.getElem?_toArray] at this ⊢
      rw [this, List.getElem?_append_right (by omega)]
      exact ⟨by rw [show n + j - r.length = j by omega]; rfl, by rw [show [r, s].getD 1 [] = s from rfl, List.getElem?_eq_getElem (by omega)]; rfl⟩⟩⟩
theorem ex_in {w : World} {g B : Nat} (h : Recs w B 5 (some ⟨g, 0, none⟩) 2 [e0.row, e1.row]) : XT.In w B 2 (ex g) :=
  ⟨h, by simp [maxLen, ex, XT.X], fun y hy => by
    rcases List.mem_cons.1 hy with rfl | hy
    · exact ⟨Recs.nil_, by simp [maxLen, e0, XT.X], fun y hy => by cases hy⟩
    · rw [List.mem_singleton.1 hy]
      exact ⟨Recs.nil_, by simp [maxLen, e1, XT.X], fun y hy => by cases hy⟩⟩
theorem fx_in {w : World} {g k B : Nat} (hx : XT.In w B 2 (ex g)) (h : Recs w B 9 (some ⟨k, 0, none⟩) 1 [(sx g).row]) : FT.In w B 2 (fx g k) :=
  ⟨⟨Recs.nil_, by simp [maxLen, fx]⟩, ⟨h, by simp [maxLen, fx]⟩, fun y hy => by
    rw [List.mem_singleton.1 hy]
    exact ⟨hx, ⟨Recs.nil_, by simp [maxLen, sx, ST.body]⟩, ⟨Recs.nil_, by simp [maxLen, sx, ST.els]⟩, (fun y hy => by cases hy), (fun y hy => by cases hy)⟩⟩
theorem fx_walk (g k : Nat) : (fx g k).body.flatMap (walkS 2) = [ex g, e0, e1] := rfl
theorem fx_calls (g k : Nat) : callsL ((fx g k).body.flatMap (walkS 2)) = [⟨#[102]⟩, ⟨#[113, 46, 71]⟩] := by
  rw [fx_walk]
  show [callS e0, callS e1] = _
  have h0 : callS e0 = ⟨#[102]⟩ := by
    unfold callS
    rw [if_pos (by rw [show e0.q = ⟨#[]⟩ from rfl, Lib.toList_data])]
    rfl
  have h1 : callS e1 = ⟨#[113, 46, 71]⟩ := by
    unfold callS
    rw [if_neg (by rw [show e1.q = ⟨#[113]⟩ from rfl, Lib.toList_data]; simp)]
    decide
  rw [h0, h1]
def T2 : Nat → ByteArray
  | 0 => ⟨#[102]⟩
  | _ => ⟨#[113, 46, 71]⟩
set_option maxHeartbeats 8000000 in
theorem calls_fx (g k : Nat) (w : World) (hx : XT.In w w.heap.size 2 (ex g)) (h : Recs w w.heap.size 9 (some ⟨k, 0, none⟩) 1 [(sx g).row]) :
    Calls Try.prog 12 #[.agg #[.string ⟨#[104]⟩, .slice none 0 0, .int .u8 0, .slice (some ⟨k, 0, none⟩) 1 1]] w fun e w' => ∃ g cap, e = .returned (.slice (some ⟨g, 0, none⟩) 2 cap) ∧ w'.cell? ⟨g, 0, none⟩ = some (.string ⟨#[102]⟩) ∧ w'.cell? ⟨g, 1, none⟩ = some (.string ⟨#[113, 46, 71]⟩) ∧ Only [] w w' :=
  calls_two 2 (fx g k) ⟨#[102]⟩ ⟨#[113, 46, 71]⟩ w (fx_in hx h) (fx_calls g k) (fun x hx => by
    rw [fx_walk] at hx
    rcases List.mem_cons.1 hx with rfl | hx
    · exact ⟨Nat.zero_le _, Nat.zero_le _⟩
    rcases List.mem_cons.1 hx with rfl | hx
    · exact ⟨by decide, by decide⟩
    rw [List.mem_singleton.1 hx]
    exact ⟨by decide, by decide⟩) (by rw [fx_walk]; exact Nat.le_of_ble_eq_true rfl) (by rw [Lib.toList_data, Lib.toList_data]; decide) (by rw [Lib.toList_data, Lib.toList_data]; decide)
set_option maxHeartbeats 8000000 in
theorem knows_any (w : World) : Calls Try.prog 5 #[] w fun y w' => y = .returned (.bool true) ∧ Only [] w w' := by
  obtain ⟨w1, hw1⟩ : ∃ w1, w.alloc (.cells #[.int .i64 4, .int .i64 0, .string ⟨#[102]⟩, .string ⟨#[]⟩, .slice none 0 0, .int .i64 4, .int .i64 0, .string ⟨#[71]⟩, .string ⟨#[113]⟩, .slice none 0 0] 28) = w1 := ⟨_, rfl⟩
  have b1 : Blk w1 (w.heap.size) 28 #[.int .i64 4, .int .i64 0, .string ⟨#[102]⟩, .string ⟨#[]⟩, .slice none 0 0, .int .i64 4, .int .i64 0, .string ⟨#[71]⟩, .string ⟨#[113]⟩, .slice none 0 0] := by rw [← hw1]; exact Blk.new w _ _
  have o1 : Only [] w w1 := by rw [← hw1]; exact (Only.refl [] w).alloc _
  have s1 := b1.lt
  have s1' := o1.size
  obtain ⟨w2, hw2⟩ : ∃ w2, w1.alloc (.cells #[.int .i64 10, .int .i64 0, .string ⟨#[]⟩, .string ⟨#[]⟩, .slice (some ⟨w.heap.size, 0, none⟩) 2 2] 28) = w2 := ⟨_, rfl⟩
  have b2 : Blk w2 (w1.heap.size) 28 #[.int .i64 10, .int .i64 0, .string ⟨#[]⟩, .string ⟨#[]⟩, .slice (some ⟨w.heap.size, 0, none⟩) 2 2] := by rw [← hw2]; exact Blk.new w1 _ _
  have o2 : Only [] w1 w2 := by rw [← hw2]; exact (Only.refl [] w1).alloc _
  have s2 := b2.lt
  have s2' := o2.size
  obtain ⟨w3, hw3⟩ : ∃ w3, w2.alloc (.cells #[.int .i64 6, .string ⟨#[]⟩, .int .i64 10, .int .i64 0, .string ⟨#[]⟩, .string ⟨#[]⟩, .slice (some ⟨w.heap.size, 0, none⟩) 2 2, .slice none 0 0, .slice none 0 0] 31) = w3 := ⟨_, rfl⟩
  have b3 : Blk w3 (w2.heap.size) 31 #[.int .i64 6, .string ⟨#[]⟩, .int .i64 10, .int .i64 0, .string ⟨#[]⟩, .string ⟨#[]⟩, .slice (some ⟨w.heap.size, 0, none⟩) 2 2, .slice none 0 0, .slice none 0 0] := by rw [← hw3]; exact Blk.new w2 _ _
  have o3 : Only [] w2 w3 := by rw [← hw3]; exact (Only.refl [] w2).alloc _
  have s3 := b3.lt
  have s3' := o3.size
  obtain ⟨w4, hw4⟩ : ∃ w4, w3.alloc (.cells #[.string ⟨#[104]⟩, .slice none 0 0, .int .u8 0, .slice (some ⟨w2.heap.size, 0, none⟩) 1 1] 35) = w4 := ⟨_, rfl⟩
  have b4 : Blk w4 (w3.heap.size) 35 #[.string ⟨#[104]⟩, .slice none 0 0, .int .u8 0, .slice (some ⟨w2.heap.size, 0, none⟩) 1 1] := by rw [← hw4]; exact Blk.new w3 _ _
  have o4 : Only [] w3 w4 := by rw [← hw4]; exact (Only.refl [] w3).alloc _
  have s4 := b4.lt
  have s4' := o4.size
  have o34 := o3.trans o4 (by simp)
  have o24 := o2.trans o34 (by simp)
  have HX4 : Hid (XT.In w4 w4.heap.size 2 (ex w.heap.size)) := Lib.hid (ex_in (recs_two (r := e0.row) (s := e1.row) (b1.only o24 (by simp)) (by omega) rfl rfl))
  have HS4 : Hid (Recs w4 w4.heap.size 9 (some ⟨w2.heap.size, 0, none⟩) 1 [(sx w.heap.size).row]) := Lib.hid (recs_one (row := (sx w.heap.size).row) (b3.only o4 (by simp)) (by omega))
  have HO4 := Lib.hid (o1.trans o24 (by simp))
  have HB4 := Lib.hid (And.intro (b2.only o34 (by simp)) b4)
  have HC := Lib.hid (calls_fx w.heap.size w2.heap.size w4 HX4.out HS4.out)
  have p0 := b2.cell 0
  have p1 := b2.cell 1
  have p2 := b2.cell 2
  have p3 := b2.cell 3
  have p4 := b2.cell 4
  clear b1 b2 b3 b4 o1 o2 o3 o4 o34 o24 s1 s2 s3 s4 s1' s2' s3' s4'
  go_enter Try.func5, Try.ntmps5
  go_upto_region 2 with fail
  go_upto_region 3 with fail
  clear p0 p1 p2 p3 p4 hw1 hw2 hw3 hw4
  have b4 := HB4.out.2
  have p0 := b4.cell 0
  have p1 := b4.cell 1
  have p2 := b4.cell 2
  have p3 := b4.cell 3
  clear b4
  go_wp2_with fail
  refine HC.out.mono ?_
  rintro e w5 ⟨cg, cap, rfl, c0, c1, ho5⟩
  clear p0 p1 p2 p3
  obtain ⟨w6, hw6⟩ : ∃ w6, w5.alloc (.cells #[.string ⟨#[102]⟩, .string ⟨#[113, 46, 71]⟩] 9) = w6 := ⟨_, rfl⟩
  have b6 : Blk w6 (w5.heap.size) 9 #[.string ⟨#[102]⟩, .string ⟨#[113, 46, 71]⟩] := by rw [← hw6]; exact Blk.new w5 _ _
  have o6 : Only [] w5 w6 := by rw [← hw6]; exact (Only.refl [] w5).alloc _
  have ho56 := ho5.trans o6 (by simp)
  have HO6 := Lib.hid (HO4.out.trans ho56 (by simp))
  have HX6 := Lib.hid (HX4.out.only ho56 ho56.size)
  have HS6 := Lib.hid (recs_only HS4.out ho56 ho56.size)
  have HB6 := Lib.hid (And.intro (HB4.out.1.only ho56 (by simp)) (HB4.out.2.only ho56 (by simp)))
  have HT := Lib.hid (texts_same T2 cg w5.heap.size 2 cap 2 w6 (by omega) (fun k hk => by
    obtain rfl | rfl : k = 0 ∨ k = 1 := by omega
    · exact ⟨o6.cell c0 (by simp), b6.cell 0⟩
    · exact ⟨o6.cell c1 (by simp), b6.cell 1⟩))
  clear c0 c1 ho5 ho56 b6 o6 HB4 HX4 HS4
  go_wp2_with fail
  try rw [hw6]
  clear hw6
  refine HT.out.mono ?_
  rintro e w7 ⟨rfl, ho7⟩
  have HO7 := Lib.hid (HO6.out.trans ho7 (by simp))
  have HX7 := Lib.hid (HX6.out.only ho7 ho7.size)
  have HS7 := Lib.hid (recs_only HS6.out ho7 ho7.size)
  have HB7 := Lib.hid (And.intro (HB6.out.1.only ho7 (by simp)) (HB6.out.2.only ho7 (by simp)))
  have HE := sameExpr_any 2 (ex w.heap.size) (ex w.heap.size) 2 w7 HX7.out HX7.out
  rw [sameX_refl HX7.out] at HE
  have HSE := Lib.hid HE
  have b7 := HB7.out.1
  have p0 := b7.cell 0
  have p1 := b7.cell 1
  have p2 := b7.cell 2
  have p3 := b7.cell 3
  have p4 := b7.cell 4
  clear b7 ho7 HB6 HX6 HS6 HE
  go_wp2_with fail
  refine HSE.out.mono ?_
  rintro e w8 ⟨rfl, ho8⟩
  clear p0 p1 p2 p3 p4
  obtain ⟨w9, hw9⟩ : ∃ w9, w8.alloc (.cells #[.string ⟨#[104]⟩, .slice none 0 0, .int .u8 0, .slice (some ⟨w2.heap.size, 0, none⟩) 1 1] 35) = w9 := ⟨_, rfl⟩
  have b9 : Blk w9 (w8.heap.size) 35 #[.string ⟨#[104]⟩, .slice none 0 0, .int .u8 0, .slice (some ⟨w2.heap.size, 0, none⟩) 1 1] := by rw [← hw9]; exact Blk.new w8 _ _
  have o9 : Only [] w8 w9 := by rw [← hw9]; exact (Only.refl [] w8).alloc _
  have s9 := b9.lt
  have ho89 := ho8.trans o9 (by simp)
  have HR := Lib.hid (right_dx w.heap.size w2.heap.size w8.heap.size w9 (HX7.out.only ho89 ho89.size) (recs_only HS7.out ho89 ho89.size) (recs_one (row := (fx w.heap.size w2.heap.size).row) b9 (by omega)))
  have HO9 := Lib.hid (HO7.out.trans ho89 (by simp))
  have b8 := HB7.out.2.only ho8 (by simp)
  have p0 := b8.cell 0
  have p1 := b8.cell 1
  have p2 := b8.cell 2
  have p3 := b8.cell 3
  clear b8 ho8 ho89 o9 b9 HB7 HX7 HS7 s9
  go_wp2_with fail
  try rw [hw9]
  clear hw9
  refine HR.out.mono ?_
  rintro e w10 ⟨rfl, ho10⟩
  have HO10 := Lib.hid (HO9.out.trans ho10 (by simp))
  have HP := Lib.hid (parts_ten w10)
  clear p0 p1 p2 p3 ho10
  go_wp2_with fail
  refine HP.out.mono ?_
  rintro e wn ⟨rfl, hwn⟩
  have hwn := hwn.symm
  subst hwn
  go_wp2_with fail
  go_ret
  exact ⟨rfl, HO10.out⟩
end Go.Proofs.Ytmjkohlhbboapaa.Tree
