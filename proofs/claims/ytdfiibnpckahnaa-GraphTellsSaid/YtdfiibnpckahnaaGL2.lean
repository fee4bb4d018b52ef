/- GraphOrder's words: Light, knows. -/
import Derived.Test.YtdfiibnpckahnaaGL1
namespace Go.Proofs.Ytdfiibnpckahnaa.Graph
open Go.RowKit Go.Shelf Go.Maps
set_option linter.unusedVariables false
set_option maxRecDepth 100000
/-- the three nodes that must come -/
def kN (h : Nat) : List ND := [⟨[97], some ⟨h, 0, none⟩, 2, [[98], [99]]⟩, ⟨[99], none, 0, []⟩, ⟨[98], none, 0, []⟩]
theorem kN_order (h : Nat) : orderL ((kN h).map ND.nd) = ([[98], [99], [97]], 0) := by
  show orderL [⟨[97], [[98], [99]]⟩, ⟨[99], []⟩, ⟨[98], []⟩] = ([[98], [99], [97]], 0)
  decide +kernel
/-- what Light says -/
def LightO (m : Nat) (l : List ND) (y : Ending) : Prop := ∃ b, y = .returned (.bool b) ∧ (b = true → m ≤ 40 ∧ ∀ x ∈ l, x.lit)
section
variable {w w' : World}
set_option maxHeartbeats 4000000 in
theorem light_any (A : Option Addr) (m c : Nat) (l : List ND) (w : World) (hr : Recs w w.heap.size 2 A m (l.map ND.row)) (hq : ∀ x ∈ l, x.rd w w.heap.size) :
    Calls Try.prog 5 #[.slice A m c] w fun y w' => LightO m l y ∧ w' = w := by
  have HR := Lib.hid hr
  have HQ := Lib.hid hq
  have HL := Lib.hid (show l.length = m by have := hr.1; rwa [List.length_map] at this)
  clear hr hq
  go_enter Try.func5, Try.ntmps5
  go_wp2_with fail
  go_loopw [3] (fun i wr => ∃ k : Nat, k ≤ m ∧ k ≤ 60 ∧ i = .int .i64 k ∧ wr = w ∧ ∀ a ∈ l.take k, a.lit) (fun i _ => m - (intOf i).toNat)
  case atStart => exact ⟨0, by omega, by omega, rfl, rfl, by simp⟩
  case round =>
    obtain ⟨k, hk, hk2, rfl, hwr, hlit⟩ := hrel
    subst hwr
    have HLT := Lib.hid hlit
    clear hlit
    by_cases hlt : k < m
    · have d1 : decide ((k : Int) < (m : Int)) = true := decide_eq_true (by omega)
      by_cases h60 : k < 60
      · have d2 : decide ((k : Int) < 60) = true := decide_eq_true (by omega)
        have d2' : decide (k < 60) = true := decide_eq_true h60
        obtain ⟨b, off, rfl, hb, x, hx, hxk, c0, c1⟩ := nd_at HR.out k hlt
        have hk5 := str_size x.path
        have hxr := HQ.out x hx
        unfold sv at c0
        have HXK := Lib.hid hxk
        have HX := Lib.hid hxr
        clear hx hxk hxr
        by_cases q1 : 300 < (str x.path).size
        · have e1 : decide ((300 : Int) < ((str x.path).size : Int)) = true := decide_eq_true (by omega)
          have e1' : decide (300 < (str x.path).size) = true := decide_eq_true q1
          clear hk5
          go_wp2_with fail
          go_ret
          exact ⟨⟨false, rfl, fun h => by cases h⟩, rfl⟩
        · have e1 : decide ((300 : Int) < ((str x.path).size : Int)) = false := decide_eq_false (by omega)
          have e1' : decide (300 < (str x.path).size) = false := decide_eq_false q1
          by_cases q2 : 40 < x.imps.length
          · have e2 : decide ((40 : Int) < (x.imps.length : Int)) = true := decide_eq_true (by omega)
            have e2' : decide (40 < x.imps.length) = true := decide_eq_true q2
            clear hk5
            go_wp2_with fail
            go_ret
            exact ⟨⟨false, rfl, fun h => by cases h⟩, rfl⟩
          · have e2 : decide ((40 : Int) < (x.imps.length : Int)) = false := decide_eq_false (by omega)
            have e2' : decide (40 < x.imps.length) = false := decide_eq_false q2
            have hp300 : x.path.length ≤ 300 := by omega
            clear hk5
            go_wp2_with fail
            go_loopw [4] (fun i w2 => ∃ j : Nat, j ≤ x.imps.length ∧ i = .int .i64 j ∧ w2 = wr ∧ ∀ a ∈ x.imps.take j, a.length ≤ 300) (fun i _ => x.imps.length - (intOf i).toNat)
            case atStart => exact ⟨0, by omega, rfl, rfl, by simp⟩
            case round =>
              obtain ⟨j, hj, rfl, hwr, hlj⟩ := hrel
              have hwr := hwr.symm
              subst hwr
              have HJ := Lib.hid hlj
              clear hlj
              by_cases hjl : j < x.imps.length
              · have d3 : decide ((j : Int) < (x.imps.length : Int)) = true := decide_eq_true (by omega)
                obtain ⟨b2, o2, hA, _, hc⟩ := Reads.at1 HX.out hjl
                obtain ⟨s, hs⟩ : ∃ s, x.imps[j]? = some s := ⟨_, List.getElem?_eq_getElem hjl⟩
                rw [List.getElem?_map, hs] at hc
                have q0 : wr.cell? ⟨b2, o2 + j, none⟩ = some (.string (str s)) := hc
                rw [hA] at c1
                have hk6 := str_size s
                have HS := Lib.hid hs
                clear hc hs hA
                by_cases q3 : 300 < (str s).size
                · have e3 : decide ((300 : Int) < ((str s).size : Int)) = true := decide_eq_true (by omega)
                  have e3' : decide (300 < (str s).size) = true := decide_eq_true q3
                  clear hk6
                  go_wp2_with fail
                  go_ret
                  exact ⟨⟨false, rfl, fun h => by cases h⟩, rfl⟩
                · have e3 : decide ((300 : Int) < ((str s).size : Int)) = false := decide_eq_false (by omega)
                  have e3' : decide (300 < (str s).size) = false := decide_eq_false q3
                  have HNX := Lib.hid (take_all HJ.out HS.out (by omega))
                  clear hk6
                  go_wp2_with fail
                  go_roundw
                  case measure => simp [intOf]; omega
                  case rel => exact ⟨j + 1, by omega, by go_num, trivial, HNX.out⟩
              · have hjj : j = x.imps.length := by omega
                have hlj := HJ.out
                rw [List.take_of_length_le (by omega)] at hlj
                have HNX := Lib.hid (take_all (P := ND.lit) HLT.out HXK.out ⟨by omega, hp300, hlj⟩)
                have d3 : decide ((j : Int) < (x.imps.length : Int)) = false := decide_eq_false (by omega)
                clear hlj
                go_wp2_with fail
                go_roundw
                case measure => simp [intOf]; omega
                case rel => exact ⟨k + 1, by omega, by omega, by go_num, trivial, HNX.out⟩
      · obtain rfl : k = 60 := by omega
        have d2 : decide (((60 : Nat) : Int) < 60) = false := by decide
        have d3 : decide ((m : Int) ≤ 40) = false := decide_eq_false (by omega)
        have d3' : decide (m ≤ 40) = false := decide_eq_false (by omega)
        go_wp2_with fail
        go_ret
        exact ⟨⟨false, rfl, fun h => by cases h⟩, rfl⟩
    · obtain rfl : k = m := by omega
      have d1 : decide ((k : Int) < (k : Int)) = false := decide_eq_false (by omega)
      have hlit := HLT.out
      rw [List.take_of_length_le (by rw [HL.out]; exact Nat.le_refl _)] at hlit
      have HN2 := Lib.hid hlit
      clear hlit
      go_wp2_with fail
      go_ret
      refine ⟨⟨decide (k ≤ 40), ?_, fun h => ⟨of_decide_eq_true h, HN2.out⟩⟩, rfl⟩
      have hd : decide ((k : Int) ≤ 40) = decide (k ≤ 40) := decide_eq_decide.2 ⟨fun h => by omega, fun h => by omega⟩
      show Ending.returned (.bool (decide ((k : Int) ≤ 40))) = _
      rw [hd]
set_option maxHeartbeats 4000000 in
theorem knows_any (w : World) : Calls Try.prog 6 #[] w fun y w' => y = .returned (.bool true) ∧ Only [] w w' := by
  obtain ⟨w1, hw1⟩ : ∃ w1, w.alloc (.cells #[.string ⟨#[98]⟩, .string ⟨#[99]⟩] 9) = w1 := ⟨_, rfl⟩
  have hb1 : Blk w1 w.heap.size 9 #[.string ⟨#[98]⟩, .string ⟨#[99]⟩] := by rw [← hw1]; exact Blk.new w _ _
  have ho1 : Only [] w w1 := by rw [← hw1]; exact (Only.refl [] w).alloc _
  obtain ⟨w2, hw2⟩ : ∃ w2, w1.alloc (.cells #[.string ⟨#[97]⟩, .slice (some ⟨w.heap.size, 0, none⟩) 2 2, .string ⟨#[99]⟩, .slice none 0 0, .string ⟨#[98]⟩, .slice none 0 0] 43) = w2 := ⟨_, rfl⟩
  have hb2 : Blk w2 w1.heap.size 43 #[.string ⟨#[97]⟩, .slice (some ⟨w.heap.size, 0, none⟩) 2 2, .string ⟨#[99]⟩, .slice none 0 0, .string ⟨#[98]⟩, .slice none 0 0] := by rw [← hw2]; exact Blk.new w1 _ _
  have ho2 : Only [] w1 w2 := by rw [← hw2]; exact (Only.refl [] w1).alloc _
  have hb12 := hb1.only ho2 (by simp)
  have hr : Recs w2 w2.heap.size 2 (some ⟨w1.heap.size, 0, none⟩) 3 ((kN w.heap.size).map ND.row) := by
    refine ⟨rfl, fun _ => ⟨w1.heap.size, 0, rfl, hb2.lt, fun i hi j hj => ?_⟩⟩
    match i, hi, j, hj with
    | 0, _, 0, _ => exact ⟨hb2.cell 0, rfl⟩
    | 0, _, 1, _ => exact ⟨hb2.cell 1, rfl⟩
    | 1, _, 0, _ => exact ⟨hb2.cell 2, rfl⟩
    | 1, _, 1, _ => exact ⟨hb2.cell 3, rfl⟩
    | 2, _, 0, _ => exact ⟨hb2.cell 4, rfl⟩
    | 2, _, 1, _ => exact ⟨hb2.cell 5, rfl⟩
  have hin : ∀ x ∈ kN w.heap.size, x.in_ w2 w2.heap.size := by
    intro x hx
    simp only [kN, List.mem_cons, List.not_mem_nil, or_false] at hx
    rcases hx with rfl | rfl | rfl
    · refine ⟨⟨rfl, fun _ => ⟨⟨w.heap.size, 0, none⟩, rfl, hb12.lt, fun j u hu => ?_⟩⟩, ⟨by show 2 ≤ 40; omega, by show 1 ≤ 300; omega, fun i hi => by simp at hi; rcases hi with rfl | rfl <;> decide⟩⟩
      match j with
      | 0 => rw [← hu]; exact hb12.cell 0
      | 1 => rw [← hu]; exact hb12.cell 1
      | j + 2 => simp at hu
    · exact ⟨Reads.none_, by decide⟩
    · exact ⟨Reads.none_, by decide⟩
  have HOR := Lib.hid (order_any (some ⟨w1.heap.size, 0, none⟩) 3 3 (kN w.heap.size) w2 hr hin (by decide))
  have HO2 := Lib.hid (ho1.trans ho2 (by simp))
  clear hr hin hb1 hb2 hb12 ho1 ho2
  go_enter Try.func6, Try.ntmps6
  go_wp2_with fail
  refine HOR.out.mono ?_
  rintro y w3 ⟨v, rfl, hown, ho3⟩
  rw [kN_order] at hown ⊢
  obtain ⟨A3, c3, e3, _⟩ := hown.shape (by decide)
  subst e3
  obtain ⟨w4, hw4⟩ : ∃ w4, w3.alloc (.cells #[.string ⟨#[98]⟩, .string ⟨#[99]⟩, .string ⟨#[97]⟩] 9) = w4 := ⟨_, rfl⟩
  have hb4 : Blk w4 w3.heap.size 9 #[.string ⟨#[98]⟩, .string ⟨#[99]⟩, .string ⟨#[97]⟩] := by rw [← hw4]; exact Blk.new w3 _ _
  have ho4 : Only [] w3 w4 := by rw [← hw4]; exact (Only.refl [] w3).alloc _
  have h1 := (hown.only ho4 (by simp))
  have hr4 : Recs w4 w4.heap.size 1 (some ⟨w3.heap.size, 0, none⟩) 3 (svs [[98], [99], [97]]) := by
    refine ⟨rfl, fun _ => ⟨w3.heap.size, 0, rfl, hb4.lt, fun i hi j hj => ?_⟩⟩
    match i, hi, j, hj with
    | 0, _, 0, _ => exact ⟨hb4.cell 0, rfl⟩
    | 1, _, 0, _ => exact ⟨hb4.cell 1, rfl⟩
    | 2, _, 0, _ => exact ⟨hb4.cell 2, rfl⟩
  obtain ⟨_, _, e4, _, _, hr3, _⟩ := h1.shape (by decide)
  injection e4 with e5 e6 e7
  subst e5
  have HTX := Lib.hid (texts_any A3 (some ⟨w3.heap.size, 0, none⟩) 3 3 c3 3 [[98], [99], [97]] [[98], [99], [97]] w4 hr3 hr4 (by decide))
  have HNM := Lib.hid (fun wx => num_any 0 wx)
  have HO4 := Lib.hid ((HO2.out.trans ho3 (by simp)).trans ho4 (by simp))
  clear hown ho3 hb4 ho4 h1 hr4 hr3 e7
  go_wp2_with (first
    | (go_at_call 10; refine (HNM.out _).mono ?_; rintro y wn ⟨rfl, hwn⟩; have hwn := hwn.symm; subst hwn)
    | (go_at_call 9; refine HTX.out.mono ?_; rintro y w5 ⟨rfl, ho5⟩; have HO5 := Lib.hid ho5; clear ho5))
  go_ret
  exact ⟨rfl, HO4.out.trans HO5.out (by simp)⟩
end
end Go.Proofs.Ytdfiibnpckahnaa.Graph
