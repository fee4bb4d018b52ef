/- ExportTells, walked. -/
import Derived.Test.YtbeenfkmnchhbaaExportBack
import Derived.Test.YtbeenfkmnchhbaaExportRDecode
namespace Go.Proofs.Ytbeenfkmnchhbaa.Export
open Go.RowKit Codec
set_option linter.unusedVariables false
set_option maxRecDepth 100000
theorem Sgs.smallD {w : World} {A : Option Addr} {n : Nat} {ss : List Sg} {l : List UInt8} (h : Sgs w A n ss) (hd : ss.map Sg.data = (dec l).getD []) : n ≤ 32 ∧ ∀ s ∈ ss, s.n ≤ 4 := by
  cases hdc : dec l with
  | none =>
    rw [hdc] at hd
    have h0 : ss = [] := List.map_eq_nil_iff.1 hd
    subst h0
    have := h.len
    exact ⟨by simp at this; omega, by simp⟩
  | some L =>
    rw [hdc] at hd
    have hs := h.small (by rw [hd]; exact (dec_read l L hdc).2)
    exact ⟨hs.1, fun s h => (hs.2 s h).1⟩
set_option maxHeartbeats 2000000 in
theorem tells_any (A1 : Option Addr) (m c1 : Nat) (ss : List Sg) (A2 : Option Addr) (n c2 : Nat) (l : List UInt8) (w : World) (hs : Sgs w A1 m ss) (hr : Bytes w w.heap.size A2 n l) (hnc : n ≤ c2) (hcm : c2 ≤ maxLen) :
    Calls Try.prog 6 #[.slice A1 m c1, .slice A2 n c2] w fun x w' => x = .returned (.bool true) ∧ Only [] w w' := by
  have hL := light_any A1 m c1 ss w hs
  have HK := Lib.hid knows_any
  have HN := Lib.hid num_is
  have HS := Lib.hid hs
  have HR := Lib.hid hr
  have HL := Lib.hid hL
  clear hs hr hL
  by_cases hbig : 1000 < n
  · have d1 : decide ((1000 : Int) < (n : Int)) = true := decide_eq_true (by omega)
    go_enter Try.func6, Try.ntmps6
    go_wp2_with fail
    refine HL.out.mono ?_
    rintro x wl ⟨b, rfl, rfl, _⟩
    cases b
    all_goals
      go_wp2_with (go_at_call 25; refine (HK.out _).mono ?_; rintro x wk ⟨rfl, hok⟩)
      go_ret
      exact ⟨rfl, hok⟩
  · have d1 : decide ((1000 : Int) < (n : Int)) = false := decide_eq_false (by omega)
    go_enter Try.func6, Try.ntmps6
    go_wp2_with fail
    refine HL.out.mono ?_
    rintro x wl ⟨b, rfl, rfl, hlight⟩
    cases b
    · go_wp2_with (go_at_call 25; refine (HK.out _).mono ?_; rintro x wk ⟨rfl, hok⟩)
      go_ret
      exact ⟨rfl, hok⟩
    · obtain ⟨h60, hlt⟩ := hlight rfl
      have hE := fun w' (h : Only [] w w') => encode_any A1 m c1 ss w' (HS.out.only h) (by omega) (fun s h => by have := (hlt s h).1; omega)
      have hF := fun w' (h : Only [] w w') => rencode_any A1 m c1 ss w' (HS.out.only h) (by omega) (fun s h => by have := (hlt s h).1; omega)
      have hD := fun w' (h : Only [] w w') => decode_any A2 n c2 l w' ((HR.out.only h (by simp)).more h.size) (by omega)
      have hG := fun w' (h : Only [] w w') => rdecode_any A2 n c2 l w' ((HR.out.only h (by simp)).more h.size) hnc hcm (by omega)
      have hP := fun w' (h : Only [] w w') => right_any A1 m c1 ss w' (HS.out.only h) (by omega) (fun s h => by have := (hlt s h).1; omega)
      have hQ := fun w' (h : Only [] w w') => rright_any A1 m c1 ss w' (HS.out.only h) (by omega) (fun s h => by have := (hlt s h).1; omega)
      unfold encOut at hE hF
      unfold decOut at hD hG
      have hsmall : ∀ (w' : World) (A : Option Addr) (k : Nat) (ts : List Sg), Sgs w' A k ts → ts.map Sg.data = (dec l).getD [] → k ≤ 32 ∧ ∀ s ∈ ts, s.n ≤ 4 := fun w' A k ts h hd => h.smallD hd
      have HSM := Lib.hid hsmall
      clear hlight hlt hsmall
      generalize (if rightL ss = true then layL ss else []) = X at *
      generalize (if rightL ss = true then (0 : Int) else 1) = E at *
      generalize rightL ss = rb at *
      generalize (if (dec l).isSome = true then (0 : Int) else 5) = Dn at *
      generalize (dec l).getD [] = DL at *
      have HE := Lib.hid hE
      have HF := Lib.hid hF
      have HD := Lib.hid hD
      have HG := Lib.hid hG
      have HP := Lib.hid hP
      have HQ := Lib.hid hQ
      clear hE hF hD hG hP hQ
      have HO0 : Hid (Only [] w w) := Only.refl _ _
      go_wp2_with (first
        | (go_at_call 25; refine (HK.out w7).mono ?_; rintro x wk ⟨rfl, hok⟩)
        | (go_at_call 33; refine (HQ.out w6 HO6.out).mono ?_; rintro x w7 ⟨rfl, ho7⟩; have HO7 := Lib.hid (HO6.out.trans ho7 (by simp)))
        | (go_at_call 32; refine (HP.out w5 HO5.out).mono ?_; rintro x w6 ⟨rfl, ho6⟩; have HO6 := Lib.hid (HO5.out.trans ho6 (by simp)))
        | (go_at_call 31; refine (same_any2 A3 A4 n3 n4 c3 c4 s3 s4 w4 (hs3.only ho4) hs4 (hd3.trans hd4.symm) (by have := (HSM.out _ _ _ _ hs3 hd3).1; omega) (fun s h => by have := (HSM.out _ _ _ _ hs3 hd3).2 s h; omega)).mono ?_; rintro x w5 ⟨rfl, ho5⟩; have HO5 := Lib.hid (HO4.out.trans ho5 (by simp)))
        | (go_at_call 30; refine (HN.out _ _).mono ?_; rintro x wn ⟨rfl, rfl⟩)
        | (go_at_call 29; refine (HG.out w3 HO3.out).mono ?_; rintro x w4 ⟨A4, n4, c4, s4, rfl, hs4, _, _, hd4, ho4⟩; have HO4 := Lib.hid (HO3.out.trans ho4 (by simp)); have t1 := run_str (hb1.only ((ho2.trans ho3 (by simp)).trans ho4 (by simp)) (by simp)) ce1; have t2 := run_str (hb2.only (ho3.trans ho4 (by simp)) (by simp)) ce2)
        | (go_at_call 28; refine (HD.out w2 HO2.out).mono ?_; rintro x w3 ⟨A3, n3, c3, s3, rfl, hs3, _, _, hd3, ho3⟩; have HO3 := Lib.hid (HO2.out.trans ho3 (by simp)))
        | (go_at_call 27; refine (HF.out w1 HO1.out).mono ?_; rintro x w2 ⟨B2, k2, ce2, rfl, hb2, _, _, _, ho2⟩; have HO2 := Lib.hid (HO1.out.trans ho2 (by simp)))
        | (go_at_call 26; refine (HE.out w HO0.out).mono ?_; rintro x w1 ⟨B1, k1, ce1, rfl, hb1, _, _, _, ho1⟩; have HO1 := Lib.hid (HO0.out.trans ho1 (by simp))))
      go_ret
      exact ⟨by simp, HO7.out.trans hok (by simp)⟩
end Go.Proofs.Ytbeenfkmnchhbaa.Export
