/- The walk of CodecReads. -/
import Derived.Test.YtehekhlajodflaaCodecRefR
import Derived.Test.YtehekhlajodflaaCodecLays
import Derived.Deep.DeepCutAuto
import Derived.Deep.LoopGhost
import Derived.Deep.CutBlock
import Derived.Deep.RegionHeld3
namespace Go.Proofs.Ytehekhlajodflaa.Codec
open Go.RowKit
set_option linter.unusedVariables false
set_option maxRecDepth 100000

/-- two Readers stand alike -/
structure Both (w0 w : World) (p q : Nat) (st : Option (List UInt8)) : Prop where
  x : Rd w p st
  r : RRd w q st
  only : Only [] w0 w
theorem Both.step {w0 w w1 w2 : World} {p q : Nat} {st st' : Option (List UInt8)} (h : Both w0 w p q st) (hp : w0.heap.size ≤ p) (hq : w0.heap.size ≤ q) (hne : p ≠ q)
    (h1 : Rd w1 p st') (o1 : Only [p] w w1) (h2 : RRd w1 q st → RRd w2 q st' ∧ Only [q] w1 w2) : Both w0 w2 p q st' := by
  have hr1 := h.r.other h.x o1 (fun e => hne e.symm)
  obtain ⟨h3, o2⟩ := h2 hr1
  exact ⟨h1.other hr1 o2 hne, h3, (h.only.trans o1 (fun g hg => .inr (by simp at hg; omega))).trans o2 (fun g hg => .inr (by simp at hg; omega))⟩
theorem Both.drew {w0 w : World} {p q : Nat} {st : Option (List UInt8)} (h : Both w0 w p q st) : Both w0 w.drew p q st := ⟨h.x.drew, h.r.drew, h.only.drew⟩
theorem rcount_top (st : Option (List UInt8)) : rcount 65535 st = vle (rget 2 st) ∧ rcounted 65535 st = rgot 2 st := by
  have := small_lt st
  unfold rcount rcounted
  rw [if_pos (by omega), if_pos (by omega)]
  exact ⟨rfl, rfl⟩

set_option maxHeartbeats 4000000 in
theorem reads_any (A : Option Addr) (m c : Nat) (its : List Item) (Ab : Option Addr) (nb cb : Nat) (l : List UInt8) (w : World) (hr : Recs w w.heap.size 3 A m (its.map Item.row)) (hm : m ≤ maxLen) (hsz : ∀ x ∈ its, x.s.size ≤ maxLen)
    (hb : Bytes w w.heap.size Ab nb l) (hnc : nb ≤ cb) (hcm : cb ≤ maxLen) :
    Calls Try.prog 3 #[.slice Ab nb cb, .slice A m c] w fun e w' => e = .returned (.bool true) ∧ Only [] w w' := by
  have F := Lib.hid (few_any A m c _ its w hr hm hsz)
  have hl := hr.1
  rw [List.length_map] at hl
  have HL := Lib.hid hl
  have HS := Lib.hid hsz
  have hcm' : nb ≤ 9223372036854775807 := by unfold maxLen at hcm; omega
  by_cases h4 : 4000 < nb
  · clear hl hsz
    have h4' : decide (4000 < (nb : Int)) = true := decide_eq_true (by omega)
    go_enter Try.func3, Try.ntmps3
    go_wp2_with fail
    refine (knows_any w).mono ?_
    rintro e w2 ⟨rfl, ho⟩
    go_wp2_with fail
    go_ret
    exact ⟨rfl, ho⟩
  have h4' : decide (4000 < (nb : Int)) = false := decide_eq_false (by omega)
  cases hf : fewB its with
  | false =>
    rw [hf] at F
    clear hf hl hsz
    go_enter Try.func3, Try.ntmps3
    go_wp2_with fail
    refine Calls.mono F.out ?_
    rintro e w1 ⟨rfl, rfl⟩
    go_wp2_with fail
    refine (knows_any w).mono ?_
    rintro e w2 ⟨rfl, ho⟩
    go_wp2_with fail
    go_ret
    exact ⟨rfl, ho⟩
  | true =>
    rw [hf] at F
    have hm100 : m ≤ 100 := by have := (few_true hf).1; omega
    clear hf hl hsz
    go_enter Try.func3, Try.ntmps3
    go_wp2_with fail
    refine Calls.mono F.out ?_
    rintro e w1 ⟨rfl, rfl⟩
    go_wp2_with fail
    refine (knows_any w).mono ?_
    rintro e w1 ⟨rfl, ho1⟩
    have hb1 := hb.only ho1 (by simp)
    have hs1 := ho1.size
    go_wp2_with fail
    refine (read_any Ab nb cb _ l w1 hb1 (by omega)).mono ?_
    rintro e w2 ⟨p, rfl, hR, ho2, hp⟩
    have hBoth : Both w (w2.alloc (.cells #[.slice Ab nb cb, .bool false] 30)) p w2.heap.size (some l) := by
      refine ⟨hR.only ((Only.refl [] w2).alloc _) (by simp) (by simp), ⟨Ab, nb, cb, Blk.new _ _ _, hnc, hcm, ?_⟩, ((ho1.trans ho2 (by simp))).alloc _⟩
      exact ((hb1.only ho2 (by simp)).only ((Only.refl [] w2).alloc _) (by simp)).more (by have := ho2.size; simp; omega)
    have hqp : p ≠ w2.heap.size := by
      obtain ⟨_, _, _, hbk, _⟩ := hR
      have := hbk.lt
      omega
    have hq2 : w.heap.size ≤ w2.heap.size := by have := ho2.size; omega
    have hp2 : w.heap.size ≤ p := by omega
    have HB := Lib.hid hBoth
    clear hBoth hR hb1
    go_wp2_with fail
    go_loopg [7] m (fun gk i wr => ∃ k : Nat, k + gk = m ∧ i = .int .i64 k ∧ ∃ st, Both w wr p w2.heap.size st)
    case atStart => exact ⟨0, by omega, rfl, _, HB.out⟩
    case round =>
      obtain ⟨k, hk, rfl, st, hB⟩ := hrel
      generalize w2.heap.size = q at *
      by_cases hlt : k < m
      · have hkl : k < its.length := by rw [HL.out]; exact hlt
        obtain ⟨b, off, rfl, hbB, hc⟩ := (hr.only hB.only (by simp)).at_ dItem hlt
        have hc0 : wr.cell? ⟨b, off + k * 3, none⟩ = some (.int .i64 (its.getD k dItem).kind) := hc 0 (by omega)
        have hc1 : wr.cell? ⟨b, off + k * 3 + 1, none⟩ = some (.int .i64 (its.getD k dItem).n) := hc 1 (by omega)
        generalize (its.getD k dItem) = x at *
        obtain ⟨qk, z, s⟩ := x
        simp only at hc0 hc1
        clear hc hkl
        have HDR := Lib.hid hB.drew
        have HBB := Lib.hid hB
        have hbp : b ∉ [p] := by simp; omega
        have hbq : b ∉ [q] := by simp; omega
        have HO1 := Lib.hid (show ∀ (st' : Option (List UInt8)) (w5 : World), Only [p] wr w5 → RRd w5 q st ∧ w5.cell? ⟨b, off + k * 3 + 1, none⟩ = some (.int .i64 z) from fun st' w5 o => ⟨HBB.out.r.other HBB.out.x o (Ne.symm hqp), o.cell hc1 hbp⟩)
        have HFIN := Lib.hid (show ∀ (st' : Option (List UInt8)) (w5 w6 : World), Rd w5 p st' → Only [p] wr w5 → RRd w6 q st' → Only [q] w5 w6 → Both w w6 p q st' from fun st' w5 w6 h1 o1 h2 o2 => HBB.out.step hp2 hq2 hqp h1 o1 (fun _ => ⟨h2, o2⟩))
        clear hB HB
        go_upto_block 2 with fail
        go_cut [8] (fun s8 wx => s8 = .bool true ∧ ∃ st', Both w wx p q st')
        case first =>
          have hcase : qk = 0 ∨ qk = 1 ∨ qk = 2 ∨ qk = 3 ∨ qk = 4 ∨ (qk ≠ 0 ∧ qk ≠ 1 ∧ qk ≠ 2 ∧ qk ≠ 3 ∧ qk ≠ 4) := by omega
          rcases hcase with rfl | rfl | rfl | rfl | rfl | ⟨q0, q1, q2, q3, q4⟩
          · go_wp2_with fail
            refine (num_r p st _ HBB.out.x).mono ?_
            rintro e w5 ⟨rfl, hR5, hO5⟩
            obtain ⟨hr5, d5⟩ := HO1.out st w5 hO5
            go_wp2_with fail
            refine (rref_num q st _ hr5).mono ?_
            rintro e w6 ⟨rfl, hR6, hO6⟩
            have hfin := HFIN.out _ w5 w6 hR5 hO5 hR6 hO6
            go_wp2_with fail
            go_meet
            exact ⟨rfl, _, hfin⟩
          · go_wp2_with fail
            go_region_held3 (fun w' => w'.cell? ⟨b, off + k * 3 + 1, none⟩ = some (.int .i64 z)) (first | go_keep | assumption) ((first
              | (go_at_call 11; refine (count_any p z st _ HDR.out.x).mono ?_; rintro e w5 ⟨rfl, hR5, hO5⟩; have hO5' := only_drew hO5; obtain ⟨hr5, d5⟩ := HO1.out st w5 hO5')
              | (go_at_call 12; refine (rref_count q z st _ hr5).mono ?_; rintro e w6 ⟨rfl, hR6, hO6⟩; have hfin := HFIN.out _ w5 w6 hR5 hO5' hR6 hO6; have d6 := hO6.cell d5 hbq)))
            go_wp2_with fail
            go_meet
            exact ⟨rfl, _, hfin⟩
          · go_wp2_with fail
            go_region_held3 (fun w' => w'.cell? ⟨b, off + k * 3 + 1, none⟩ = some (.int .i64 z)) (first | go_keep | assumption) ((first
              | (go_at_call 13; refine (text_r p z st _ HDR.out.x).mono ?_; rintro e w5 ⟨rfl, hR5, hO5⟩; have hO5' := only_drew hO5; obtain ⟨hr5, d5⟩ := HO1.out st w5 hO5')
              | (go_at_call 14; refine (rref_text q z st _ hr5).mono ?_; rintro e w6 ⟨rfl, hR6, hO6⟩; have hfin := HFIN.out _ w5 w6 hR5 hO5' hR6 hO6; have d6 := hO6.cell d5 hbq)))
            go_wp2_with fail
            go_meet
            exact ⟨rfl, _, hfin⟩
          · by_cases hz : z = 1
            · subst hz
              go_wp2_with fail
              refine (refuse_t p st _ HBB.out.x).mono ?_
              rintro e w5 ⟨rfl, hR5, hO5⟩
              obtain ⟨⟨A5, n5, c5, hb5, _, _, _⟩, d5⟩ := HO1.out st w5 hO5
              have f0 := hb5.frozen 0
              have f1 := hb5.frozen 1
              have e0 : w5.cell? ⟨q, 0, none⟩ = some (.slice A5 n5 c5) := hb5.cell 0
              have e1 : w5.cell? ⟨q, 1, none⟩ = some (.bool st.isNone) := hb5.cell 1
              have hb6 := (hb5.set_ 1 (.bool true)).set_ 0 (.slice none 0 0)
              have hO6 : Only [q] w5 ((w5.setCell ⟨q, 1, none⟩ (.bool true)).setCell ⟨q, 0, none⟩ (.slice none 0 0)) := ((Only.refl [q] w5).setCell (p := ⟨q, 1, none⟩) (.inl (by simp)) _).setCell (p := ⟨q, 0, none⟩) (.inl (by simp)) _
              have hfin := HFIN.out none w5 _ hR5 hO5 ⟨none, 0, 0, hb6, Nat.le_refl _, by simp [maxLen], Bytes.nil_⟩ hO6
              have HF := Lib.hid hfin
              clear hfin hO6 hb6 hb5
              go_wp2_with fail
              go_meet
              exact ⟨rfl, _, HF.out⟩
            · have hz1 : (z == 1) = false := by rw [beq_eq_false_iff_ne]; exact hz
              go_wp2_with fail
              refine (refuse_f p st _ HBB.out.x).mono ?_
              rintro e w5 ⟨rfl, hR5, hO5⟩
              obtain ⟨hr5, d5⟩ := HO1.out st w5 hO5
              have HF := Lib.hid (HFIN.out st w5 w5 hR5 hO5 hr5 (Only.refl _ _))
              go_wp2_with fail
              go_meet
              exact ⟨rfl, _, HF.out⟩
          · have HT := Lib.hid (rcount_top st)
            go_wp2_with fail
            refine (small_r p st _ HBB.out.x).mono ?_
            rintro e w5 ⟨rfl, hR5, hO5⟩
            obtain ⟨hr5, d5⟩ := HO1.out st w5 hO5
            go_wp2_with fail
            refine (rref_count q 65535 st _ hr5).mono ?_
            rintro e w6 ⟨rfl, hR6, hO6⟩
            rw [HT.out.2] at hR6
            rw [HT.out.1]
            have hfin := HFIN.out _ w5 w6 hR5 hO5 hR6 hO6
            go_wp2_with fail
            go_meet
            exact ⟨rfl, _, hfin⟩
          · have b0 : (qk == 0) = false := by rw [beq_eq_false_iff_ne]; exact q0
            have b1 : (qk == 1) = false := by rw [beq_eq_false_iff_ne]; exact q1
            have b2 : (qk == 2) = false := by rw [beq_eq_false_iff_ne]; exact q2
            have b3 : (qk == 3) = false := by rw [beq_eq_false_iff_ne]; exact q3
            have b4 : (qk == 4) = false := by rw [beq_eq_false_iff_ne]; exact q4
            clear q0 q1 q2 q3 q4
            go_wp2_with fail
            go_meet
            exact ⟨rfl, _, HBB.out⟩
        case rest =>
          obtain ⟨rfl, st', hB⟩ := hcut
          have HB2 := Lib.hid hB
          obtain ⟨A2, n2, c2, hbk, _, _, hr2⟩ := hB.r
          have hl2 := hr2.len
          have q0 : wc.cell? ⟨q, 0, none⟩ = some (.slice A2 n2 c2) := hbk.cell 0
          have G := Lib.hid (fun N => good_any p st' (wc.drewN N) hB.x)
          have Lf := Lib.hid (fun N => left_any p st' (wc.drewN N) hB.x)
          have En := Lib.hid (fun N => end_any p st' (wc.drewN N) hB.x)
          clear hB hr2
          cases st' with
          | none =>
            obtain rfl : n2 = 0 := hl2.symm
            have q1 : wc.cell? ⟨q, 1, none⟩ = some (.bool true) := hbk.cell 1
            clear hbk
            go_wp2_with fail
            go_quiet (first | ((go_at_call 17; exact quiet_left (G.out _))) | ((go_at_call 18; exact quiet_left (Lf.out _))) | ((go_at_call 19; exact quiet_left (En.out _))))
            go_wp2_with fail
            go_roundg (gk - 1)
            case measure => omega
            case rel => exact ⟨k + 1, by omega, by go_num, _, ⟨HB2.out.x, HB2.out.r, HB2.out.only.drewN _⟩⟩
          | some l2 =>
            have hl3 : l2.length = n2 := hl2
            rw [show ((some l2).getD []).length = n2 from hl2] at Lf
            have hend : (some l2 == some ([] : List UInt8)) = decide (n2 = 0) := by
              cases l2 with
              | nil => subst hl3; rfl
              | cons c t => subst hl3; rfl
            rw [hend] at En
            have q1 : wc.cell? ⟨q, 1, none⟩ = some (.bool false) := hbk.cell 1
            clear hbk hl2 hl3 hend
            by_cases hn0 : n2 = 0
            · subst hn0
              go_wp2_with fail
              go_quiet (first | ((go_at_call 17; exact quiet_left (G.out _))) | ((go_at_call 18; exact quiet_left (Lf.out _))) | ((go_at_call 19; exact quiet_left (En.out _))))
              go_wp2_with fail
              go_roundg (gk - 1)
              case measure => omega
              case rel => exact ⟨k + 1, by omega, by go_num, _, ⟨HB2.out.x, HB2.out.r, HB2.out.only.drewN _⟩⟩
            · have hd : decide (n2 = 0) = false := decide_eq_false hn0
              rw [hd] at En
              have hb0 : ((n2 : Int) == 0) = false := by rw [beq_eq_false_iff_ne]; omega
              clear hd hn0
              go_wp2_with fail
              go_quiet (first | ((go_at_call 17; exact quiet_left (G.out _))) | ((go_at_call 18; exact quiet_left (Lf.out _))) | ((go_at_call 19; exact quiet_left (En.out _))))
              go_wp2_with fail
              go_roundg (gk - 1)
              case measure => omega
              case rel => exact ⟨k + 1, by omega, by go_num, _, ⟨HB2.out.x, HB2.out.r, HB2.out.only.drewN _⟩⟩
      · have hkm := Lib.hid (show k = m by omega)
        go_wp2_with fail
        go_ret
        exact ⟨rfl, hB.only⟩
end Go.Proofs.Ytehekhlajodflaa.Codec
