/- The walk of CodecLays. -/
import Derived.Test.YtehekhlajodflaaCodecKnows
import Derived.Deep.RegionWith
namespace Go.Proofs.Ytehekhlajodflaa.Codec
open Go.RowKit
set_option linter.unusedVariables false
set_option maxRecDepth 100000

theorem few_true {its : List Item} (h : fewB its = true) : its.length ≤ 100 ∧ ∀ x ∈ its, x.s.size ≤ 2000 := by
  unfold fewB at h
  rw [Bool.and_eq_true] at h
  have hl : its.length ≤ 100 := by simpa using h.2
  refine ⟨hl, fun x hx => ?_⟩
  have := h.1
  rw [List.take_of_length_le (by omega), List.all_eq_true] at this
  simpa using this x hx

set_option maxHeartbeats 2000000 in
theorem lays_any (A : Option Addr) (m c : Nat) (its : List Item) (w : World) (hr : Recs w w.heap.size 3 A m (its.map Item.row)) (hm : m ≤ maxLen) (hsz : ∀ x ∈ its, x.s.size ≤ maxLen) :
    Calls Try.prog 4 #[.slice A m c] w fun e w' => e = .returned (.bool true) ∧ Only [] w w' := by
  have F := Lib.hid (few_any A m c _ its w hr hm hsz)
  have hl := hr.1
  rw [List.length_map] at hl
  cases hf : fewB its with
  | false =>
    rw [hf] at F
    have HF := Lib.hid hf
    have HL := Lib.hid hl
    have HS := Lib.hid hsz
    clear hf hl hsz
    go_enter Try.func4, Try.ntmps4
    go_wp2_with fail
    refine Calls.mono F.out ?_
    rintro e w1 ⟨rfl, rfl⟩
    go_wp2_with fail
    refine (knows_any w).mono ?_
    rintro e w2 ⟨rfl, ho⟩
    go_wp2_with fail
    go_ret
    exact ⟨rfl, ho⟩
  | true =>
    rw [hf] at F
    have hm100 : m ≤ 100 := by have := (few_true hf).1; omega
    have HF := Lib.hid hf
    have HL := Lib.hid hl
    have HS := Lib.hid hsz
    clear hf hl hsz
    go_enter Try.func4, Try.ntmps4
    go_wp2_with fail
    refine Calls.mono F.out ?_
    rintro e w1 ⟨rfl, rfl⟩
    go_wp2_with fail
    refine (num_nil _ _ _ _).mono ?_
    rintro e w1 ⟨rfl, rfl⟩
    go_wp2_with fail
    refine (small_nil _ _ _ _).mono ?_
    rintro e w1 ⟨rfl, rfl⟩
    go_wp2_with fail
    refine (text_nil _ _ _ _).mono ?_
    rintro e w1 ⟨rfl, rfl⟩
    go_wp2_with fail
    have hr0 := hr
    generalize hw0 : World.alloc _ _ = w0
    have HO0 : Only [] w w0 := by rw [← hw0]; exact (((Only.refl [] w).alloc _).alloc _).alloc _
    have HOd : Only [] w w0.drew := HO0.drew
    clear hw0 HO0
    have hB0 := HOd.size
    go_region_with (first
      | (go_at_call 23; refine (layl_any A m c _ its _ (hr.only HOd (by simp)) hB0 hm100 HS.out).mono ?_; rintro e w1 ⟨p, v1, n1, rfl, h1, hn1, ho1, hp⟩; have HO1 : Only [] w w1 := HOd.trans ho1 (by simp))
      | (go_at_call 24; (with_reducible refine (bytes_nil _).mono ?_); rintro e w9 ⟨rfl, rfl⟩)
      | (go_at_call 24; refine (bytes_any p n1 v1 _ w1 h1 (by omega)).mono ?_; rintro e w2 ⟨v2, rfl, ho2, hon2⟩; obtain ⟨A2, cap2, rfl, hc2, hm2, hr2, hb2⟩ := ho2.shape; have hs2 := run_str hr2 cap2; have HO2 : Only [] w w2 := HO1.trans hon2 (by simp))
      | (go_at_call 25; refine (laid_any A m c _ its w2 (hr.only HO2 (by simp)) hm100 HS.out).mono ?_; rintro e w3 ⟨v3, n3, rfl, ho3, hn3, hon3⟩; obtain ⟨A3, cap3, rfl, hc3, hm3, hr3, hb3⟩ := ho3.shape; have hs3 := run_str hr3 cap3; have hs23 := run_str (hr2.only hon3 (by simp)) cap2; have HO3 : Only [] w w3 := HO2.trans hon3 (by simp))
      | (go_at_call 7; refine (knows_any w3).mono ?_; rintro e w4 ⟨rfl, hon4⟩; have HO4 : Only [] w w4 := HO3.trans hon4 (by simp)))
    all_goals
      go_wp2_with fail
      go_ret
      exact ⟨rfl, HO4⟩
end Go.Proofs.Ytehekhlajodflaa.Codec
