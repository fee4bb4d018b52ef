/- The walks of frame: the document's Right, half, Put. -/
import Derived.Test.YthgfmoogagldmaaGreatFrameHalfq
import Derived.Test.YthgfmoogagldmaaGreatBuf
import Derived.Deep.RegionHeld3
import Derived.Deep.RegionLaw
namespace Go.Proofs.YthgfmoogagldmaaGreat.Frame
open Go.RowKit Codec
set_option linter.unusedVariables false
set_option maxRecDepth 100000

set_option maxHeartbeats 1000000 in
theorem rright_any (m : Mark) (w : World) : Calls Tryz.prog 120 #[m.val] w fun x w' => boolOut m.right w x w' := by
  obtain ⟨k, g, s, n⟩ := m
  unfold Mark.val
  simp only
  have hR : (⟨k, g, s, n⟩ : Mark).right ↔ (1 ≤ k ∧ k ≤ 255 ∧ 0 ≤ g ∧ 0 ≤ s ∧ 0 ≤ n) := Iff.rfl
  have HR := Lib.hid hR
  clear hR
  go_enter Tryz.func120, Tryz.ntmps120
  go_wp2_with fail
  all_goals
    go_ret
    refine ⟨_, rfl, ?_, (Only.refl _ _).alloc _⟩
    rw [HR.out]
    simp only [decide_eq_true_eq, Bool.false_eq_true]
    first | omega | (constructor <;> intro h <;> first | exact h.elim | omega)
theorem rright_is (m : Mark) (b : Bool) (w : World) (hb : decide m.right = b) : Calls Tryz.prog 120 #[m.val] w fun x w' => x = .returned (.bool b) ∧ Only [] w w' := by
  refine (rright_any m w).mono ?_
  rintro x w' ⟨b', rfl, hbb, ho⟩
  refine ⟨?_, ho⟩
  cases b' with
  | true => rw [← hb, decide_eq_true (hbb.1 rfl)]
  | false => rw [← hb, decide_eq_false (fun h => by have := hbb.2 h; cases this)]
theorem crc_same (l : List UInt8) : Sums.rbits 4294967295 (Sums.nats l) (8 * l.length) ^^^ 4294967295 = Sums.crc (Sums.nats l) := by
  rw [Sums.rbits_fold _ _ (Sums.nats_lt l) l.length (by unfold Sums.nats; rw [List.length_map]; exact Nat.le_refl _), List.take_of_length_le (by unfold Sums.nats; rw [List.length_map]; exact Nat.le_refl _)]
  unfold Sums.crc Sums.more
  rw [Nat.zero_xor]
theorem byte2 (x : Nat) : IntKind.u8.wrap ((x : Int) / 65536) = ((byteAt x 2).toNat : Int) := by
  have := byteAt_wrap x 2
  simpa using this
theorem byte3 (x : Nat) : IntKind.u8.wrap ((x : Int) / 16777216) = ((byteAt x 3).toNat : Int) := by
  have := byteAt_wrap x 3
  simpa using this
theorem le_four (x : Nat) : le x 4 = [byteAt x 0, byteAt x 1, byteAt x 2, byteAt x 3] := rfl
theorem rhalf_any (m : Mark) (w : World) (hr : m.right) : Calls Tryz.prog 121 #[m.val] w fun x w' => ∃ v, x = .returned v ∧ OwnB w' w.heap.size v 32 (halfB m) ∧ Only [] w w' := by
  obtain ⟨k, g, s, n⟩ := m
  have hb := Blk.new w 134 #[.int .i64 k, .int .i64 g, .int .i64 s, .int .i64 n]
  have ho : Only [] w (w.alloc (.cells #[.int .i64 k, .int .i64 g, .int .i64 s, .int .i64 n] 134)) := (Only.refl _ _).alloc _
  unfold Mark.val
  unfold Mark.right at hr
  simp only at hr ⊢
  obtain ⟨x, rfl⟩ : ∃ x : Nat, k = (x : Int) := ⟨k.toNat, by omega⟩
  have hx : x ≤ 255 := by omega
  have hcl : clamp (x : Int) = x := by unfold clamp; omega
  have hH : halfB ⟨x, g, s, n⟩ = [84, 77] ++ le x 2 ++ le (u64 g) 8 ++ le (u64 s) 8 ++ le (u64 n) 8 ++ le (Sums.crc (Sums.nats ([84, 77] ++ le x 2 ++ le (u64 g) 8 ++ le (u64 s) 8 ++ le (u64 n) 8))) 4 := by
    unfold halfB headB
    simp [smalls, nums, hcl]
  have HH := Lib.hid hH
  clear hH hr hcl
  have kc := Lib.run_convert_bytes_const (P := Tryz.prog) (w.alloc (.cells #[.int .i64 x, .int .i64 g, .int .i64 s, .int .i64 n] 134)) 35 5 #[.int .u8 84, .int .u8 77] 2 2 Tryz.underlying35 Tryz.underlying5
  have hcb : Bytes ((w.alloc (.cells #[.int .i64 x, .int .i64 g, .int .i64 s, .int .i64 n] 134)).alloc (.cells #[.int .u8 84, .int .u8 77] 5 (2, 3))) (w.heap.size + 1 + 1) (some ⟨w.heap.size + 1, 0, none⟩) 2 [84, 77] := by
    have := Bytes.const (w.alloc (.cells #[.int .i64 x, .int .i64 g, .int .i64 s, .int .i64 n] 134)) [84, 77] #[.int .u8 84, .int .u8 77] 5 (2, 3) rfl
    rw [alloc_size] at this
    exact this
  rw [alloc_size] at kc
  have hb2 := hb.alloc (.cells #[.int .u8 84, .int .u8 77] 5 (2, 3))
  have ho2 := ho.alloc (.cells #[.int .u8 84, .int .u8 77] 5 (2, 3))
  have hs2 : ((w.alloc (.cells #[.int .i64 x, .int .i64 g, .int .i64 s, .int .i64 n] 134)).alloc (.cells #[.int .u8 84, .int .u8 77] 5 (2, 3))).heap.size = w.heap.size + 1 + 1 := by rw [alloc_size, alloc_size]
  clear hb ho
  go_enter Tryz.func121, Tryz.ntmps121
  go_wp2_with fail
  generalize (w.alloc (.cells #[.int .i64 x, .int .i64 g, .int .i64 s, .int .i64 n] 134)).alloc (.cells #[.int .u8 84, .int .u8 77] 5 (2, 3)) = w2 at *
  refine (ref_small_grow (w.heap.size + 1) 2 _ x [84, 77] w2 (by decide) hcb (by omega) (by decide) (by omega)).mono ?_
  rintro e w3 ⟨v3, rfl, hv3, ho3⟩
  have h3 : BI w2 w3 v3 4 ([84, 77] ++ le x 2) := BI.of_own hv3 ho3
  have hc : ∀ w', Only [] w2 w' → Only [] w w' ∧ (w'.cell? ⟨w.heap.size, 1, none⟩ = some (.int .i64 g) ∧ w'.cell? ⟨w.heap.size, 2, none⟩ = some (.int .i64 s) ∧ w'.cell? ⟨w.heap.size, 3, none⟩ = some (.int .i64 n)) := fun w' h =>
    ⟨ho2.trans h (by simp), ⟨(hb2.only h (by simp)).cell 1, (hb2.only h (by simp)).cell 2, (hb2.only h (by simp)).cell 3⟩⟩
  have HC := Lib.hid hc
  clear hc hb2 hcb hv3 kc hs2
  obtain ⟨_, ⟨x1, x2, x3⟩⟩ := HC.out w3 ho3
  have h3d := h3.drew
  go_wp2_with fail
  go_region_held3 (fun w' => w'.cell? ⟨w.heap.size, 1, none⟩ = some (.int .i64 g) ∧ w'.cell? ⟨w.heap.size, 2, none⟩ = some (.int .i64 s) ∧ w'.cell? ⟨w.heap.size, 3, none⟩ = some (.int .i64 n)) (first | go_keep | (refine ⟨?_, ?_, ?_⟩ <;> assumption)) ((first
    | (go_at_call 94; refine (num_bi h5 n (by decide)).mono ?_; rintro e w6 ⟨v6, rfl, h6⟩; obtain ⟨o6, ⟨q1, q2, q3⟩⟩ := HC.out w6 h6.only0)
    | (go_at_call 94; refine (num_bi h4 s (by decide)).mono ?_; rintro e w5 ⟨v5, rfl, h5⟩; obtain ⟨o5, ⟨z1, z2, z3⟩⟩ := HC.out w5 h5.only0)
    | (go_at_call 94; refine (num_bi h3d g (by decide)).mono ?_; rintro e w4 ⟨v4, rfl, h4⟩; obtain ⟨o4, ⟨y1, y2, y3⟩⟩ := HC.out w4 h4.only0)))
  all_goals
    obtain ⟨A6, cap6, rfl, hc6, hm6, hr6⟩ := h6.shape
    have hl28 : ([84, 77] ++ le x 2 ++ le (u64 g) 8 ++ le (u64 s) 8 ++ le (u64 n) 8).length = 28 := by simp [le_len]
    have hcs := crc_same ([84, 77] ++ le x 2 ++ le (u64 g) 8 ++ le (u64 s) 8 ++ le (u64 n) 8)
    have hlt := Sums.more_lt (s := 0) (by decide) (Sums.nats ([84, 77] ++ le x 2 ++ le (u64 g) 8 ++ le (u64 s) 8 ++ le (u64 n) 8)) (Sums.nats_lt _)
    generalize [84, 77] ++ le x 2 ++ le (u64 g) 8 ++ le (u64 s) 8 ++ le (u64 n) 8 = hd at *
    have hcrc := Sums.rcrc_any A6 cap6 hd _ w6 hd.length hr6 (by rw [hl28]; decide)
    rw [hcs] at hcrc
    have hlt' : Sums.crc (Sums.nats hd) < 4294967296 := hlt
    obtain ⟨nn, hnn, hv6, _⟩ := h6
    obtain rfl := hv6.len
    have hv6' := hv6.mono ho2.size
    rw [hl28] at hcrc hv6' hc6
    have HCR := Lib.hid hcrc
    clear hcs hlt hv6 hcrc hr6
    generalize Sums.crc (Sums.nats hd) = S at *
    rw [hl28]
    have HL28 := Lib.hid hl28
    clear hl28
    go_wp2_with fail
    refine HCR.out.mono ?_
    rintro _ wx ⟨rfl, rfl⟩
    clear HCR
    have e0 := byte0 S
    have e1 := byte1 S
    have e2 := byte2 S
    have e3 := byte3 S
    rw [le_four] at HH
    generalize byteAt S 0 = b0 at *
    generalize byteAt S 1 = b1 at *
    generalize byteAt S 2 = b2 at *
    generalize byteAt S 3 = b3 at *
    have hB := Bytes.const w6 [b0, b1, b2, b3] #[.int .u8 (b0.toNat : Int), .int .u8 (b1.toNat : Int), .int .u8 (b2.toNat : Int), .int .u8 (b3.toNat : Int)] 5 (0, 0) rfl
    have hO := hv6'.alloc (.cells #[.int .u8 (b0.toNat : Int), .int .u8 (b1.toNat : Int), .int .u8 (b2.toNat : Int), .int .u8 (b3.toNat : Int)] 5)
    have hws := (o6.alloc (.cells #[.int .u8 (b0.toNat : Int), .int .u8 (b1.toNat : Int), .int .u8 (b2.toNat : Int), .int .u8 (b3.toNat : Int)] 5)).size
    go_wp2_with (at_builtin; refine wpList_append_bytes rfl (.tmp 22) (.tmp 34) rfl rfl hO rfl hB (by decide) hws ?_; intro v2 w9 ho9 hon9 hfr9)
    go_ret
    exact ⟨_, rfl, by rw [HH.out]; exact ho9, (o6.alloc _).trans hon9 (fun g hg => .inr (hv6'.lt g hg).1)⟩
theorem rput_any (m : Mark) (w : World) : Calls Tryz.prog 81 #[m.val] w fun x w' => ∃ v, x = .returned v ∧ OwnB w' w.heap.size v (putB m).length (putB m) ∧ Only [] w w' := by
  have hb := Blk.new w 134 m.cells
  have ho : Only [] w (w.alloc (.cells m.cells 134)) := (Only.refl _ _).alloc _
  have hl := halfB_len m
  by_cases hR : m.right
  · have hp : putB m = halfB m ++ halfB m := if_pos hR
    have hRt := fun w => rright_is m true w (decide_eq_true hR)
    have hH := fun w => rhalf_any m w hR
    rw [hp]
    generalize halfB m = H at *
    clear hp hR
    obtain ⟨k, g, s, n⟩ := m
    unfold Mark.val at *
    unfold Mark.cells at *
    simp only at *
    have HH := Lib.hid hH
    have HL := Lib.hid hl
    clear hH hl
    go_enter Tryz.func81, Tryz.ntmps81
    go_wp2_with fail
    generalize w.alloc (.cells #[.int .i64 k, .int .i64 g, .int .i64 s, .int .i64 n] 134) = w1 at *
    have hc : ∀ w', Only [] w1 w' → Only [] w w' ∧ (w'.cell? ⟨w.heap.size, 0, none⟩ = some (.int .i64 k) ∧ w'.cell? ⟨w.heap.size, 1, none⟩ = some (.int .i64 g) ∧ w'.cell? ⟨w.heap.size, 2, none⟩ = some (.int .i64 s) ∧ w'.cell? ⟨w.heap.size, 3, none⟩ = some (.int .i64 n)) := fun w' h =>
      ⟨ho.trans h (by simp), ⟨(hb.only h (by simp)).cell 0, (hb.only h (by simp)).cell 1, (hb.only h (by simp)).cell 2, (hb.only h (by simp)).cell 3⟩⟩
    have HC := Lib.hid hc
    clear hc hb
    refine (hRt w1).mono ?_
    rintro x w2 ⟨rfl, ho2⟩
    obtain ⟨o2, ⟨x0, x1, x2, x3⟩⟩ := HC.out w2 ho2
    have ho2d := ho2.drew
    go_wp2_with fail
    go_region_law (first
      | (go_simp; go_at_call 121; refine (HH.out w4).mono ?_; rintro e w5 ⟨v5, rfl, hv5, hoo5⟩; have hoq5 := hoq4.trans hoo5 (by simp); obtain ⟨o5, ⟨z0, z1, z2, z3⟩⟩ := HC.out w5 hoq5; obtain ⟨A5, cap5, rfl, _, _, hr5, _⟩ := hv5.shape; have hv4 := (hvv4.only hoo5 (by simp)).mono o3.size)
      | (go_simp; go_at_call 121; refine (HH.out w2.drew).mono ?_; rintro e w4 ⟨v4, rfl, hvv4, hoo4⟩; have hoq4 := ho2d.trans hoo4 (by simp); have o3 := o2; obtain ⟨o4, ⟨y0, y1, y2, y3⟩⟩ := HC.out w4 hoq4)
      | (refine step_append_bytes rfl (.tmp 7) (.tmp 9) rfl rfl hv4 rfl hr5 (by decide) o5.size ?_; intro v6 w6 ho6 hon6 hfr6))
    all_goals
      go_wp2_with fail
      go_ret
      refine ⟨_, rfl, ?_, o5.trans hon6 (fun g hg => .inr (hv4.lt g hg).1)⟩
      rw [List.length_append, HL.out]
      exact ho6
  · have hp : putB m = [] := if_neg hR
    have hRt := fun w => rright_is m false w (decide_eq_false hR)
    rw [hp]
    clear hp hR
    obtain ⟨k, g, s, n⟩ := m
    unfold Mark.val at *
    unfold Mark.cells at *
    simp only at *
    go_enter Tryz.func81, Tryz.ntmps81
    go_wp2_with fail
    generalize w.alloc (.cells #[.int .i64 k, .int .i64 g, .int .i64 s, .int .i64 n] 134) = w1 at *
    refine (hRt w1).mono ?_
    rintro x w2 ⟨rfl, ho2⟩
    go_wp2_with fail
    go_ret
    exact ⟨_, rfl, OwnB.nil_ _ _, ho.trans ho2 (by simp)⟩
end Go.Proofs.YthgfmoogagldmaaGreat.Frame
