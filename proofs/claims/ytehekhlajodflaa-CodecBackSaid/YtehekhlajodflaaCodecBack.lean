/- The walk of CodecBack. -/
import Derived.Test.YtehekhlajodflaaCodecBackMath
import Derived.Deep.RegionWith
import Derived.Deep.RegionHeld3
namespace Go.Proofs.Ytehekhlajodflaa.Codec
open Go.RowKit
set_option linter.unusedVariables false
set_option maxRecDepth 100000

theorem num_r_nil (w : World) : Calls Try.prog 9 #[.pointer none] w fun e w' => e = .returned (.int .i64 0) ∧ w = w' := by
  go_enter Try.func9, Try.ntmps9
  go_wp2_with fail
  refine (get_nil _ w).mono ?_
  rintro e w1 ⟨rfl, rfl⟩
  go_wp2_with fail
  refine (value_any none 0 0 0 [] w Bytes.nil_ (by omega)).mono ?_
  rintro e w1 ⟨rfl, rfl⟩
  rw [show ((vle [] : Nat) : Int) = 0 from rfl]
  go_wp2_with fail
  go_ret
  exact ⟨rfl, rfl⟩
theorem small_r_nil (w : World) : Calls Try.prog 16 #[.pointer none] w fun e w' => e = .returned (.int .i64 0) ∧ w = w' := by
  go_enter Try.func16, Try.ntmps16
  go_wp2_with fail
  refine (get_nil _ w).mono ?_
  rintro e w1 ⟨rfl, rfl⟩
  go_wp2_with fail
  refine (value_any none 0 0 0 [] w Bytes.nil_ (by omega)).mono ?_
  rintro e w1 ⟨rfl, rfl⟩
  rw [show ((vle [] : Nat) : Int) = 0 from rfl]
  go_wp2_with fail
  go_ret
  exact ⟨rfl, rfl⟩
theorem refuse_nil (b : Bool) (w : World) : Calls Try.prog 15 #[.pointer none, .bool b] w fun e w' => e = .returned (.tuple #[]) ∧ w = w' := by
  go_enter Try.func15, Try.ntmps15
  go_wp2_with fail
  go_end0
  exact ⟨rfl, rfl⟩
theorem good_nil (w : World) : Calls Try.prog 17 #[.pointer none] w fun e w' => e = .returned (.bool true) ∧ w = w' := by
  go_enter Try.func17, Try.ntmps17
  go_wp2_with fail
  go_ret
  exact ⟨rfl, rfl⟩
theorem left_nil (w : World) : Calls Try.prog 18 #[.pointer none] w fun e w' => e = .returned (.int .i64 0) ∧ w = w' := by
  go_enter Try.func18, Try.ntmps18
  go_wp2_with fail
  go_ret
  exact ⟨rfl, rfl⟩
theorem end_nil (w : World) : Calls Try.prog 19 #[.pointer none] w fun e w' => e = .returned (.bool true) ∧ w = w' := by
  go_enter Try.func19, Try.ntmps19
  go_wp2_with fail
  refine (good_nil w).mono ?_
  rintro e w1 ⟨rfl, rfl⟩
  go_wp2_with fail
  refine (left_nil w).mono ?_
  rintro e w1 ⟨rfl, rfl⟩
  go_wp2_with fail
  go_ret
  exact ⟨rfl, rfl⟩
theorem count_nil (m : Int) (w : World) (hm : 0 ≤ m) : Calls Try.prog 11 #[.pointer none, .int .i64 m] w fun e w' => e = .returned (.int .i64 0) ∧ w = w' := by
  have hd : decide (m < 0) = false := decide_eq_false (by omega)
  go_enter Try.func11, Try.ntmps11
  go_wp2_with fail
  refine (small_r_nil w).mono ?_
  rintro e w1 ⟨rfl, rfl⟩
  go_wp2_with fail
  refine (refuse_nil _ w).mono ?_
  rintro e w1 ⟨rfl, rfl⟩
  go_wp2_with fail
  refine (good_nil w).mono ?_
  rintro e w1 ⟨rfl, rfl⟩
  go_wp2_with fail
  go_ret
  exact ⟨rfl, rfl⟩
theorem text_r_nil (m : Int) (w : World) (hm : 0 ≤ m) : Calls Try.prog 13 #[.pointer none, .int .i64 m] w fun e w' => e = .returned (.string ByteArray.empty) ∧ w = w' := by
  have hs : (convert 22 9 (.slice none 0 0)).run Try.prog w = .ok (.string ByteArray.empty) w := run_str (B := 0) (l := []) Bytes.nil_ 0
  go_enter Try.func13, Try.ntmps13
  go_wp2_with fail
  refine (count_nil m w hm).mono ?_
  rintro e w1 ⟨rfl, rfl⟩
  go_wp2_with fail
  refine (get_nil _ w).mono ?_
  rintro e w1 ⟨rfl, rfl⟩
  go_wp2_with fail
  go_ret
  exact ⟨rfl, rfl⟩

theorem num_back (p : Nat) (n : Int) (b : List UInt8) (w : World) (h : Rd w p (some (le (u64 n) 8 ++ b))) (h0 : -9223372036854775808 ≤ n) (h1 : n < 9223372036854775808) :
    Calls Try.prog 9 #[.pointer (some ⟨p, 0, none⟩)] w fun e w' => e = .returned (.int .i64 n) ∧ Rd w' p (some b) ∧ Only [p] w w' := by
  have := num_r p _ w h
  rw [(back_num n b h0 h1).1, (back_num n b h0 h1).2] at this
  exact this
theorem small_back (p x : Nat) (b : List UInt8) (w : World) (h : Rd w p (some (le x 2 ++ b))) (hx : x < 65536) :
    Calls Try.prog 16 #[.pointer (some ⟨p, 0, none⟩)] w fun e w' => e = .returned (.int .i64 (x : Int)) ∧ Rd w' p (some b) ∧ Only [p] w w' := by
  have := small_r p _ w h
  rw [(back_two x b hx).1, (back_two x b hx).2] at this
  exact this
theorem text_back (p : Nat) (s : ByteArray) (b : List UInt8) (w : World) (h : Rd w p (some (text s ++ b))) (hs : s.size ≤ 2000) :
    Calls Try.prog 13 #[.pointer (some ⟨p, 0, none⟩), .int .i64 2000] w fun e w' => e = .returned (.string s) ∧ Rd w' p (some b) ∧ Only [p] w w' := by
  have := text_r p 2000 _ w h
  rw [(back_text s b 2000 (by omega) (by omega)).1, (back_text s b 2000 (by omega) (by omega)).2] at this
  exact this

set_option maxHeartbeats 4000000 in
theorem back_any (A : Option Addr) (m c : Nat) (its : List Item) (w : World) (hr : Recs w w.heap.size 3 A m (its.map Item.row)) (hm : m ≤ maxLen) (hsz : ∀ x ∈ its, x.s.size ≤ maxLen)
    (hok : ∀ x ∈ its, -9223372036854775808 ≤ x.n ∧ x.n < 9223372036854775808) :
    Calls Try.prog 5 #[.slice A m c] w fun e w' => e = .returned (.bool true) ∧ Only [] w w' := by
  have F := Lib.hid (few_any A m c _ its w hr hm hsz)
  have hl := hr.1
  rw [List.length_map] at hl
  have HL := Lib.hid hl
  have HS := Lib.hid hsz
  have HOK := Lib.hid hok
  cases hf : fewB its with
  | false =>
    rw [hf] at F
    have HF := Lib.hid hf
    clear hf hl hsz hok
    go_enter Try.func5, Try.ntmps5
    go_wp2_with fail
    refine Calls.mono F.out ?_
    rintro e w1 ⟨rfl, rfl⟩
    go_wp2_with fail
    refine (knows_any w).mono ?_
    rintro e w2 ⟨rfl, ho⟩
    go_wp2_with fail
    go_ret
    exact ⟨rfl, ho⟩
  | true =>
    rw [hf] at F
    have hm100 : m ≤ 100 := by have := (few_true hf).1; omega
    have H2 := Lib.hid (few_true hf).2
    clear hf hl hsz hok
    go_enter Try.func5, Try.ntmps5
    go_wp2_with fail
    refine Calls.mono F.out ?_
    rintro e w1 ⟨rfl, rfl⟩
    go_wp2_with fail
    refine (knows_any w).mono ?_
    rintro e w1 ⟨rfl, ho1⟩
    go_wp2_with fail
    have hs1 := ho1.size
    refine (layl_any A m c _ its w1 (hr.only ho1 (by simp)) hs1 hm100 HS.out).mono ?_
    rintro e w2 ⟨p, v, n, rfl, hw, hn, ho2, hp⟩
    go_wp2_with fail
    refine (bytes_any p n v _ w2 hw (by omega)).mono ?_
    rintro e w3 ⟨v3, rfl, ho3, hon3⟩
    obtain ⟨A3, cap3, rfl, hc3, hm3, hr3, hb3⟩ := ho3.shape
    have HLB := Lib.hid hr3.len
    have HO3 : Only [] w w3 := (ho1.trans ho2 (by simp)).trans hon3 (by simp)
    go_wp2_with fail
    refine (read_any A3 n cap3 _ _ w3 hr3 (by omega)).mono ?_
    rintro e w4 ⟨p4, rfl, hR4, hon4, hp4⟩
    have hs3 := HO3.size
    go_wp2_with fail
    go_loopw [5] (fun i wr => ∃ k : Nat, k ≤ m ∧ i = .int .i64 k ∧ Rd wr p4 (some (ibs (its.drop k))) ∧ Only [] w3 wr) (fun i _ => m - (intOf i).toNat)
    case atStart => exact ⟨0, by omega, rfl, hR4, hon4⟩
    case round =>
      obtain ⟨k, hk, rfl, hR, hO⟩ := hrel
      have HO : Only [] w wr := HO3.trans hO (by simp)
      by_cases hlt : k < m
      · have hkl : k < its.length := by rw [HL.out]; exact hlt
        obtain ⟨b, off, rfl, hbB, hc⟩ := (hr.only HO (by simp)).at_ dItem hlt
        have hc0 : wr.cell? ⟨b, off + k * 3, none⟩ = some (.int .i64 (its.getD k dItem).kind) := hc 0 (by omega)
        have hc1 : wr.cell? ⟨b, off + k * 3 + 1, none⟩ = some (.int .i64 (its.getD k dItem).n) := hc 1 (by omega)
        have hc2 : wr.cell? ⟨b, off + k * 3 + 2, none⟩ = some (.string (its.getD k dItem).s) := hc 2 (by omega)
        have hs20 : (its.getD k dItem).s.size ≤ 2000 := H2.out _ (getD_mem its dItem k hkl)
        have hnr := HOK.out _ (getD_mem its dItem k hkl)
        rw [ibs_drop its k hkl] at hR
        generalize (its.getD k dItem) = x at *
        obtain ⟨q, z, s⟩ := x
        simp only at hc0 hc1 hc2 hs20 hnr
        generalize hL : ibs (its.drop (k + 1)) = L at *
        have HLL := Lib.hid hL
        clear hc hkl hL
        have hbp : b < p4 := by omega
        have HC := Lib.hid (show ∀ w5, Only [p4] wr w5 → w5.cell? ⟨b, off + k * 3 + 1, none⟩ = some (.int .i64 z) ∧ w5.cell? ⟨b, off + k * 3 + 2, none⟩ = some (.string s) from fun w5 ho => ⟨ho.cell hc1 (by simp; omega), ho.cell hc2 (by simp; omega)⟩)
        have HN := Lib.hid (show ∀ w5, Only [p4] wr w5 → Only [] w3 w5 from fun w5 ho => hO.trans ho (fun g hg => .inr (by simp at hg; omega)))
        have hdr : Only [p4] wr wr.drew := (Only.refl [p4] wr).drew
        have hcase : q = 0 ∨ q = 1 ∨ q = 2 ∨ (q ≠ 0 ∧ q ≠ 1 ∧ q ≠ 2) := by omega
        rcases hcase with rfl | rfl | rfl | ⟨q0, q1, q2⟩
        · have hR1 : Rd wr.drew p4 (some (le (u64 z) 8 ++ L)) := hR
          go_wp2_with fail
          go_region_with (go_at_call 9; refine (num_back p4 z L _ hR1 hnr.1 hnr.2).mono ?_; rintro e w5 ⟨rfl, hR5, hO5⟩; have hO6 := hdr.trans hO5 (fun g hg => .inl hg); obtain ⟨d1, d2⟩ := HC.out w5 hO6)
          all_goals
            go_wp2_with fail
            go_roundw
            case rel => exact ⟨k + 1, by omega, by go_num, by rw [HLL.out]; exact hR5, HN.out _ hO6⟩
            case measure => simp [intOf]; omega
        · have hR1 : Rd wr.drew p4 (some (le (clamp z) 2 ++ L)) := hR
          have hcz : z < 0 ∨ (0 ≤ z ∧ z ≤ 65535) ∨ 65535 < z := by omega
          rcases hcz with hz0 | ⟨hz0, hz1⟩ | hz1
          · have hf1 : (z < 0) = True := eq_true (by omega)
            have hf2 : (z ≤ 0) = True := eq_true (by omega)
            have hsb := small_back p4 (clamp z) L wr.drew hR1 (by have := clamp_le z; omega)
            rw [← clamp_eq z, show min (max z 0) 65535 = 0 by omega] at hsb
            have HSB := Lib.hid hsb
            clear hsb
            go_wp2_with fail
            go_region_held3 (fun w' => w'.cell? ⟨b, off + k * 3 + 1, none⟩ = some (.int .i64 z)) (first | go_keep | assumption) ((first | (go_at_call 16; refine Calls.mono HSB.out ?_; rintro e w5 ⟨rfl, hR5, hO5⟩; have hO6 := hdr.trans hO5 (fun g hg => .inl hg); obtain ⟨d1, d2⟩ := HC.out w5 hO6)))
            all_goals
              go_wp2_with fail
              go_roundw
              case rel => exact ⟨k + 1, by omega, by go_num, by rw [HLL.out]; exact hR5, HN.out _ hO6⟩
              case measure => simp [intOf]; omega
          · have hf1 : (z < 0) = False := eq_false (by omega)
            have hf3 : (z ≤ 65535) = True := eq_true (by omega)
            have hsb := small_back p4 (clamp z) L wr.drew hR1 (by have := clamp_le z; omega)
            rw [← clamp_eq z, show min (max z 0) 65535 = z by omega] at hsb
            have HSB := Lib.hid hsb
            clear hsb
            go_wp2_with fail
            go_region_held3 (fun w' => w'.cell? ⟨b, off + k * 3 + 1, none⟩ = some (.int .i64 z)) (first | go_keep | assumption) ((first | (go_at_call 16; refine Calls.mono HSB.out ?_; rintro e w5 ⟨rfl, hR5, hO5⟩; have hO6 := hdr.trans hO5 (fun g hg => .inl hg); obtain ⟨d1, d2⟩ := HC.out w5 hO6)))
            all_goals
              go_wp2_with fail
              go_roundw
              case rel => exact ⟨k + 1, by omega, by go_num, by rw [HLL.out]; exact hR5, HN.out _ hO6⟩
              case measure => simp [intOf]; omega
          · have hz0 : 0 ≤ z := by omega
            have hf1 : (z < 0) = False := eq_false (by omega)
            have hf2 : (z ≤ 0) = False := eq_false (by omega)
            have hf3 : (z ≤ 65535) = False := eq_false (by omega)
            have hsb := small_back p4 (clamp z) L wr.drew hR1 (by have := clamp_le z; omega)
            rw [← clamp_eq z, show min (max z 0) 65535 = 65535 by omega] at hsb
            have HSB := Lib.hid hsb
            clear hsb
            go_wp2_with fail
            go_region_held3 (fun w' => w'.cell? ⟨b, off + k * 3 + 1, none⟩ = some (.int .i64 z)) (first | go_keep | assumption) ((first | (go_at_call 16; refine Calls.mono HSB.out ?_; rintro e w5 ⟨rfl, hR5, hO5⟩; have hO6 := hdr.trans hO5 (fun g hg => .inl hg); obtain ⟨d1, d2⟩ := HC.out w5 hO6)))
            all_goals
              go_wp2_with fail
              go_roundw
              case rel => exact ⟨k + 1, by omega, by go_num, by rw [HLL.out]; exact hR5, HN.out _ hO6⟩
              case measure => simp [intOf]; omega
        · have hR1 : Rd wr.drew p4 (some (text s ++ L)) := hR
          go_wp2_with fail
          go_region_with (go_at_call 13; refine (text_back p4 s L _ hR1 hs20).mono ?_; rintro e w5 ⟨rfl, hR5, hO5⟩; have hO6 := hdr.trans hO5 (fun g hg => .inl hg); obtain ⟨d1, d2⟩ := HC.out w5 hO6)
          all_goals
            go_wp2_with fail
            go_roundw
            case rel => exact ⟨k + 1, by omega, by go_num, by rw [HLL.out]; exact hR5, HN.out _ hO6⟩
            case measure => simp [intOf]; omega
        · have b0 : (q == 0) = false := by rw [beq_eq_false_iff_ne]; exact q0
          have b1 : (q == 1) = false := by rw [beq_eq_false_iff_ne]; exact q1
          have b2 : (q == 2) = false := by rw [beq_eq_false_iff_ne]; exact q2
          rw [ib3 q z s q0 q1 q2, List.nil_append] at hR
          clear q0 q1 q2
          go_wp2_with fail
          go_roundw
          case rel => exact ⟨k + 1, by omega, by go_num, by rw [HLL.out]; exact hR, hO⟩
          case measure => simp [intOf]; omega
      · have hk0 := Lib.hid (show k = m by omega)
        rw [List.drop_eq_nil_of_le (by rw [HL.out, hk0.out]; exact Nat.le_refl _)] at hR
        go_wp2_with fail
        refine (end_any p4 _ wr hR).mono ?_
        rintro e w5 ⟨rfl, rfl⟩
        rw [show (some (ibs []) == some []) = true from rfl]
        go_wp2_with fail
        refine (good_any p4 _ wr hR).mono ?_
        rintro e w5 ⟨rfl, rfl⟩
        go_wp2_with fail
        refine (num_r_nil wr).mono ?_
        rintro e w5 ⟨rfl, rfl⟩
        go_wp2_with fail
        refine (small_r_nil wr).mono ?_
        rintro e w5 ⟨rfl, rfl⟩
        go_wp2_with fail
        refine (text_r_nil 9 wr (by omega)).mono ?_
        rintro e w5 ⟨rfl, rfl⟩
        rw [show ByteArray.empty = ⟨#[]⟩ from rfl]
        go_wp2_with fail
        refine (count_nil 9 wr (by omega)).mono ?_
        rintro e w5 ⟨rfl, rfl⟩
        go_wp2_with fail
        refine (left_nil wr).mono ?_
        rintro e w5 ⟨rfl, rfl⟩
        go_wp2_with fail
        refine (end_nil wr).mono ?_
        rintro e w5 ⟨rfl, rfl⟩
        by_cases hn0 : n = 0
        · subst hn0
          go_wp2_with fail
          go_ret
          exact ⟨rfl, HO⟩
        · have hne : ((n : Int) == 0) = false := by rw [beq_eq_false_iff_ne]; omega
          have e1 : IntKind.i64.wrap ((n : Int) - 1) = (n : Int) - 1 := IntWalk.i64_in _ (by omega)
          have e2 : ((n : Int) - 1).toNat = n - 1 := by omega
          have hr5 := (hr3.only hO (by simp)).head (k := n - 1) (by omega)
          unfold maxLen at hm3
          go_wp2_with fail
          refine (read_any A3 (n - 1) cap3 _ _ wr hr5 (by omega)).mono ?_
          rintro e w5 ⟨p5, rfl, hR5, hon5, hp5⟩
          have hst := short_start (ibs its) (by rw [HLB.out]; omega)
          rw [HLB.out] at hst
          have HST := Lib.hid hst
          clear hst hr5 hR hne e1 e2
          go_wp2_with fail
          obtain ⟨wo, rfl⟩ : ∃ wo : World, wo = wr := ⟨_, rfl⟩
          go_loopw [7] (fun i wq => ∃ k5 : Nat, k5 ≤ m ∧ i = .int .i64 k5 ∧ ∃ st, Rd wq p5 st ∧ Short st (ibs (its.drop k5)) ∧ Only [] wo wq) (fun i _ => m - (intOf i).toNat)
          case atStart => exact ⟨0, by omega, rfl, _, hR5, HST.out, hon5⟩
          case round =>
            obtain ⟨k5, hk5, rfl, st, hRq, hsh0, hOq⟩ := hrel
            by_cases hlt5 : k5 < m
            · have hkl : k5 < its.length := by rw [HL.out]; exact hlt5
              obtain ⟨b, off, rfl, hbB, hc⟩ := ((hr.only HO (by simp)).only hOq (by simp)).at_ dItem hlt5
              have hc0 := hc 0 (by omega)
              have hs20 : (its.getD k5 dItem).s.size ≤ 2000 := H2.out _ (getD_mem its dItem k5 hkl)
              have hnr := HOK.out _ (getD_mem its dItem k5 hkl)
              rw [ibs_drop its k5 hkl] at hsh0
              have hsh := short_step hsh0 hs20 hnr
              clear hsh0 hs20 hnr hc hkl
              have hN5 : ∀ w6, Only [p5] wr w6 → Only [] wo w6 := fun w6 ho => hOq.trans ho (fun g hg => .inr (by simp at hg; omega))
              have HN5 := Lib.hid hN5
              clear hN5
              generalize (its.getD k5 dItem) = x at *
              obtain ⟨q, z, s⟩ := x
              have hc0' : wr.cell? ⟨b, off + k5 * 3, none⟩ = some (.int .i64 q) := hc0
              clear hc0
              have hcase : q = 0 ∨ q = 1 ∨ q = 2 ∨ (q ≠ 0 ∧ q ≠ 1 ∧ q ≠ 2) := by omega
              rcases hcase with rfl | rfl | rfl | ⟨q0, q1, q2⟩
              · have hshh : Hid (Short (rgot 8 st) (ibs (its.drop (k5 + 1)))) := hsh
                clear hsh
                go_wp2_with fail
                refine (num_r p5 st _ hRq).mono ?_
                rintro e w6 ⟨rfl, hR6, hO6⟩
                go_wp2_with fail
                go_roundw
                case rel => exact ⟨k5 + 1, by omega, by go_num, _, hR6, hshh.out, HN5.out w6 hO6⟩
                case measure => simp [intOf]; omega
              · have hshh : Hid (Short (rgot 2 st) (ibs (its.drop (k5 + 1)))) := hsh
                clear hsh
                go_wp2_with fail
                refine (small_r p5 st _ hRq).mono ?_
                rintro e w6 ⟨rfl, hR6, hO6⟩
                go_wp2_with fail
                go_roundw
                case rel => exact ⟨k5 + 1, by omega, by go_num, _, hR6, hshh.out, HN5.out w6 hO6⟩
                case measure => simp [intOf]; omega
              · have hshh : Hid (Short (rtexted 2000 st) (ibs (its.drop (k5 + 1)))) := hsh
                clear hsh
                go_wp2_with fail
                refine (text_r p5 2000 st _ hRq).mono ?_
                rintro e w6 ⟨rfl, hR6, hO6⟩
                go_wp2_with fail
                go_roundw
                case rel => exact ⟨k5 + 1, by omega, by go_num, _, hR6, hshh.out, HN5.out w6 hO6⟩
                case measure => simp [intOf]; omega
              · have b0 : (q == 0) = false := by rw [beq_eq_false_iff_ne]; exact q0
                have b1 : (q == 1) = false := by rw [beq_eq_false_iff_ne]; exact q1
                have b2 : (q == 2) = false := by rw [beq_eq_false_iff_ne]; exact q2
                have hshh : Hid (Short st (ibs (its.drop (k5 + 1)))) := by
                  have e : rst ⟨q, z, s⟩ st = st := by unfold rst; simp [q0, q1, q2]
                  rw [e] at hsh
                  exact hsh
                clear hsh q0 q1 q2
                go_wp2_with fail
                go_roundw
                case rel => exact ⟨k5 + 1, by omega, by go_num, _, hRq, hshh.out, hOq⟩
                case measure => simp [intOf]; omega
            · have hk5' := Lib.hid (show k5 = m by omega)
              rw [List.drop_eq_nil_of_le (by rw [HL.out, hk5'.out]; exact Nat.le_refl _)] at hsh0
              obtain rfl := short_end hsh0
              clear hsh0
              go_wp2_with fail
              refine (good_any p5 _ _ hRq).mono ?_
              rintro e w6 ⟨rfl, rfl⟩
              go_wp2_with fail
              refine (end_any p5 _ _ hRq).mono ?_
              rintro e w6 ⟨rfl, rfl⟩
              rw [show ((none : Option (List UInt8)) == some []) = false from rfl]
              go_wp2_with fail
              refine (left_any p5 _ _ hRq).mono ?_
              rintro e w6 ⟨rfl, rfl⟩
              rw [show ((((none : Option (List UInt8)).getD []).length : Nat) : Int) = 0 from rfl]
              go_wp2_with fail
              go_ret
              exact ⟨rfl, HO.trans hOq (by simp)⟩
end Go.Proofs.Ytehekhlajodflaa.Codec
