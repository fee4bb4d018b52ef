/- EditsBack, walked. -/
import Derived.Test.YtphpgbnpmplkhaaEditsBack
namespace Go.Proofs.Ytphpgbnpmplkhaa.Edits
open Go.RowKit Go.Maps
set_option linter.unusedVariables false
set_option maxRecDepth 100000
set_option maxHeartbeats 2000000 in
theorem back_any (A1 : Option Addr) (m1 c1 : Nat) (l1 : List Src) (A2 : Option Addr) (m2 c2 : Nat) (l2 : List Src) (w : World) (hr1 : Recs w w.heap.size 2 A1 m1 (l1.map Src.row)) (hr2 : Recs w w.heap.size 2 A2 m2 (l2.map Src.row)) :
    Calls Try.prog 3 #[.slice A1 m1 c1, .slice A2 m2 c2] w fun x w' => x = .returned (.bool true) ∧ Only [] w w' := by
  have HL1 := Lib.hid (light_any A1 m1 c1 l1 w hr1)
  have HL2 := Lib.hid (light_any A2 m2 c2 l2 w hr2)
  have HK := Lib.hid (knows_any w)
  have HR1 := Lib.hid hr1
  have HR2 := Lib.hid hr2
  clear hr1 hr2
  go_enter Try.func3, Try.ntmps3
  go_wp2_with fail
  refine HL1.out.mono ?_
  rintro x w1 ⟨b1, rfl, hl1, rfl⟩
  have HLL1 := Lib.hid hl1
  clear hl1 HL1
  cases b1
  · go_wp2_with (go_at_call 5; refine HK.out.mono ?_; rintro x wk ⟨rfl, hok⟩)
    go_ret
    exact ⟨rfl, hok⟩
  · go_wp2_with fail
    refine HL2.out.mono ?_
    rintro x w2 ⟨b2, rfl, hl2, rfl⟩
    have HLL2 := Lib.hid hl2
    clear hl2 HL2
    cases b2
    · go_wp2_with (go_at_call 5; refine HK.out.mono ?_; rintro x wk ⟨rfl, hok⟩)
      go_ret
      exact ⟨rfl, hok⟩
    · obtain ⟨h20, hsh1⟩ := HLL1.out (by trivial)
      obtain ⟨h21, hsh2⟩ := HLL2.out (by trivial)
      have hS1 := short_of hsh1
      have hS2 := short_of hsh2
      go_wp2_with (go_at_call 5; refine HK.out.mono ?_; rintro x wk ⟨rfl, hok⟩)
      have hD12 := fun w' (ho : Only [] w w') => diff_any A1 m1 c1 l1 A2 m2 c2 l2 w' ((HR1.out.only ho (by simp)).more ho.size) ((HR2.out.only ho (by simp)).more ho.size) hS1 hS2 (by omega) (by omega)
      have hD21 := fun w' (ho : Only [] w w') => diff_any A2 m2 c2 l2 A1 m1 c1 l1 w' ((HR2.out.only ho (by simp)).more ho.size) ((HR1.out.only ho (by simp)).more ho.size) hS2 hS1 (by omega) (by omega)
      have hD11 := fun w' (ho : Only [] w w') => diff_any A1 m1 c1 l1 A1 m1 c1 l1 w' ((HR1.out.only ho (by simp)).more ho.size) ((HR1.out.only ho (by simp)).more ho.size) hS1 hS1 (by omega) (by omega)
      have hAN := fun w' (ho : Only [] w w') => apply_any A2 m2 c2 l2 none 0 0 [] w' ((HR2.out.only ho (by simp)).more ho.size) Recs.nil_ hS2 (by intro s hs; cases hs) (by omega) (by omega)
      have hAD := fun w' (ho : Only [] w w') (A : Option Addr) (c : Nat) (ss : List (List UInt8)) (hr : Recs w' w'.heap.size 5 A ss.length ((ss.map (dstep (kf l2))).map Stp.row)) (hb : ∀ x ∈ ss, x.length ≤ maxLen) (hn : ss.length ≤ 2000000) => apply_any A1 m1 c1 l1 A ss.length c (ss.map (dstep (kf l2))) w' ((HR1.out.only ho (by simp)).more ho.size) hr hS1 (steps_ok (kf l2) hb) (by omega) hn
      have hDN := fun w' (ho : Only [] w w') (A : Option Addr) (c : Nat) (ss : List (List UInt8)) (hk : KeysL (kf l2) ss) (hr : Recs w' w'.heap.size 2 A ss.length ((ss.map (srcOf (kf l2))).map Src.row)) (hn : ss.length ≤ 1000000) => diff_any A ss.length c (ss.map (srcOf (kf l2))) A2 m2 c2 l2 w' hr ((HR2.out.only ho (by simp)).more ho.size) (short_srcs hS2 hk) hS2 hn (by omega)
      have HT1 := Lib.hid (kf_txt l1)
      have HT2 := Lib.hid (kf_txt l2)
      have HD12 := Lib.hid hD12
      have HD21 := Lib.hid hD21
      have HD11 := Lib.hid hD11
      have HAN := Lib.hid hAN
      have HAD := Lib.hid hAD
      have HDN := Lib.hid hDN
      have HOK := Lib.hid hok
      clear hD12 hD21 hD11 hAN hAD hDN hok HK HLL1 HLL2 hsh1 hsh2 hS1 hS2 HR1 HR2
      go_wp2_with fail
      refine (HD12.out wk HOK.out).mono ?_
      rintro x w3 ⟨vd, ss, rfl, hkd, hsd, hbd, hod, ho3⟩
      obtain ⟨Ad, cd, rfl, _, _, hrd, _⟩ := hod.shape (by decide)
      have HO3 := Lib.hid (HOK.out.trans ho3 (by simp))
      have HKD := Lib.hid hkd
      have HBD := Lib.hid hbd
      have HRD := Lib.hid hrd
      clear hkd hbd hod hrd ho3 HD12
      go_wp2_with fail
      refine (HAN.out w3 HO3.out).mono ?_
      rintro x w4 ⟨vn, sn, rfl, hkn, hsn, hbn, hon, ho4⟩
      obtain ⟨An, cn, rfl, _, _, hrn, _⟩ := hon.shape (by decide)
      have hsf : sf (kf l2) [] = kf l2 := rfl
      rw [hsf] at hkn hrn
      have HO4 := Lib.hid (HO3.out.trans ho4 (by simp))
      have HKN := Lib.hid hkn
      have HRN := Lib.hid hrn
      have HRD4 := Lib.hid ((HRD.out.only ho4 (by simp)).more ho4.size)
      clear hkn hbn hon hrn ho4 HAN HRD hsf
      go_wp2_with fail
      refine (HAD.out w4 HO4.out Ad cd ss HRD4.out HBD.out hsd).mono ?_
      rintro x w5 ⟨vx, sx, rfl, hkx, hsx, hbx, hox, ho5⟩
      obtain ⟨Ax, cx, rfl, _, _, hrx, _⟩ := hox.shape (by decide)
      rw [sf_back HT1.out HT2.out HKD.out] at hkx hrx
      obtain rfl : sx = sn := hkx.uniq HKN.out
      have HO5 := Lib.hid (HO4.out.trans ho5 (by simp))
      have HRN5 := Lib.hid ((HRN.out.only ho5 (by simp)).more ho5.size)
      have HSM := Lib.hid (same_any Ax An sx.length sx.length cx cn _ _ w5 hrx HRN5.out (by omega) (by omega) rfl)
      clear hkx hbx hox hrx ho5 HAD HRD4 HRN
      go_wp2_with fail
      refine HSM.out.mono ?_
      rintro x w6 ⟨rfl, ho6⟩
      have HO6 := Lib.hid (HO5.out.trans ho6 (by simp))
      have HRN6 := Lib.hid ((HRN5.out.only ho6 (by simp)).more ho6.size)
      clear ho6 HSM HRN5
      go_wp2_with fail
      refine (HD11.out w6 HO6.out).mono ?_
      rintro x w7 ⟨v7, s7, rfl, hk7, _, _, hown7, ho7⟩
      obtain rfl := odd_self hk7
      obtain ⟨A7, c7, rfl, _⟩ := hown7.shape (by decide)
      have HO7 := Lib.hid (HO6.out.trans ho7 (by simp))
      have HRN7 := Lib.hid ((HRN6.out.only ho7 (by simp)).more ho7.size)
      clear hk7 hown7 ho7 HD11 HRN6
      go_wp2_with fail
      refine (HDN.out w7 HO7.out An cn sx HKN.out HRN7.out (by omega)).mono ?_
      rintro x w8 ⟨v8, s8, rfl, hk8, _, _, hown8, ho8⟩
      rw [kf_srcs HT2.out HKN.out] at hk8
      obtain rfl := odd_self hk8
      obtain ⟨A8, c8, rfl, _⟩ := hown8.shape (by decide)
      have HO8 := Lib.hid (HO7.out.trans ho8 (by simp))
      clear hk8 hown8 ho8 HDN HRN7
      go_wp2_with fail
      refine (HD21.out w8 HO8.out).mono ?_
      rintro x w9 ⟨v9, s9, rfl, hk9, _, _, hown9, ho9⟩
      obtain rfl : ss = s9 := odd_turn HKD.out hk9
      obtain ⟨A9, c9, rfl, _⟩ := hown9.shape (by decide)
      have HO9 := Lib.hid (HO8.out.trans ho9 (by simp))
      clear hk9 hown9 ho9 HD21
      go_wp2_with fail
      go_ret
      exact ⟨by simp, HO9.out⟩
end Go.Proofs.Ytphpgbnpmplkhaa.Edits
