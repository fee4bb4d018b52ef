/- Layer 3's law: what must come. -/
import Derived.Test.YtehekhlajodflaaCodecLay
namespace Go.Proofs.Ytehekhlajodflaa.Codec
open Go.RowKit
set_option linter.unusedVariables false
set_option maxRecDepth 100000

theorem ab_texts : texts [⟨#[97, 98]⟩] = [2, 0, 97, 98] := by decide
theorem ab_read : rtext 2 (some [2, 0, 97, 98]) = [97, 98] := by decide
theorem ab_left : rtexted 2 (some [2, 0, 97, 98]) = some [] := by decide

set_option maxHeartbeats 1000000 in
theorem knows_any (w : World) : Calls Try.prog 7 #[] w fun e w' => e = .returned (.bool true) ∧ Only [] w w' := by
  go_enter Try.func7, Try.ntmps7
  go_wp2_with fail
  have h0 : Wr (w.alloc (.cells #[.slice none 0 0] 47)) w.heap.size (.slice none 0 0) 0 [] := ⟨Blk.new _ _ _, OwnB.nil_ _ _⟩
  have hw1 : (w.alloc (.cells #[.slice none 0 0] 47)).heap.size = w.heap.size + 1 := by simp
  have H1 := Lib.hid hw1
  generalize hW1 : w.alloc (.cells #[.slice none 0 0] 47) = w1 at *
  have HO1 : Hid (Only [] w w1) := by rw [← hW1]; exact (Only.refl [] w).alloc _
  clear hW1 hw1
  rw [← H1.out]
  refine (text_any w.heap.size 0 _ [] _ 1 1 _ [⟨#[97, 98]⟩] _ (h0.only ((Only.refl [] w1).alloc _) (by simp) (by simp)) rfl (Reads.const w1 [.string ⟨#[97, 98]⟩] _ _ _ rfl) (new_ne h0) (by intro s hs; rw [List.mem_singleton.1 hs]; decide) (by omega)).mono ?_
  rintro e w2 ⟨rfl, v2, n2, h2, ht2⟩
  rw [List.nil_append, ab_texts] at h2
  have hn2 : n2 = 4 := h2.own.len.symm
  subst hn2
  have HO2 := Lib.hid (show Only [] w w2 from (HO1.out.alloc (.cells #[.string ⟨#[97, 98]⟩] 9)).trans ht2.only (fun g hg => .inr (by
    have e : g ∈ [w.heap.size] := hg
    simp at e
    omega)))
  go_wp2_with fail
  refine (bytes_any w.heap.size 4 v2 _ w2 h2 (by omega)).mono ?_
  rintro e w3 ⟨v3, rfl, ho3, hon3⟩
  obtain ⟨A3, cap3, rfl, hc3, hm3, hr3, hb3⟩ := ho3.shape
  go_wp2_with fail
  refine (read_any A3 4 cap3 _ _ w3 hr3 (by omega)).mono ?_
  rintro e w4 ⟨p4, rfl, hR4, hon4, hp4⟩
  have h4 := (h2.only hon3 (by simp) (by simp)).only hon4 (by simp) (by simp)
  go_wp2_with fail
  refine (bytes_any w.heap.size 4 v2 _ w4 h4 (by omega)).mono ?_
  rintro e w5 ⟨v5, rfl, ho5, hon5⟩
  obtain ⟨A5, cap5, rfl, hc5, hm5, hr5, hb5⟩ := ho5.shape
  have hs5 : (convert 22 9 (.slice A5 4 cap5)).run Try.prog w5 = .ok (.string ⟨#[2, 0, 97, 98]⟩) w5 := run_str hr5 cap5
  have hR5 := hR4.only hon5 (by simp) (by simp)
  go_wp2_with fail
  refine (text_r p4 2 _ w5 hR5).mono ?_
  rintro e w6 ⟨rfl, hR6, hon6⟩
  rw [ab_read, show str [97, 98] = ⟨#[97, 98]⟩ from rfl]
  rw [ab_left] at hR6
  go_wp2_with fail
  refine (end_any p4 _ w6 hR6).mono ?_
  rintro e w7 ⟨rfl, rfl⟩
  go_wp2_with fail
  go_ret
  refine ⟨rfl, ?_⟩
  have e1 := HO2.out.size
  exact (((HO2.out.trans hon3 (by simp)).trans hon4 (by simp)).trans hon5 (by simp)).trans hon6 (fun g hg => .inr (by simp at hg; have := hon3.size; omega))
end Go.Proofs.Ytehekhlajodflaa.Codec
