/- ExportBack, walked. -/
import Derived.Test.YtbeenfkmnchhbaaExportKnows
namespace Go.Proofs.Ytbeenfkmnchhbaa.Export
open Go.RowKit Codec
set_option linter.unusedVariables false
set_option maxRecDepth 100000
theorem Sgs.small {w : World} {A : Option Addr} {n : Nat} {ss : List Sg} (h : Sgs w A n ss) (hr : rightD (ss.map Sg.data) = true) : n ≤ 32 ∧ ∀ s ∈ ss, s.n ≤ 4 ∧ s.ps.length = s.n := by
  obtain ⟨h1, h2⟩ := rightD_parts hr
  rw [List.length_map, h.len] at h1
  refine ⟨h1, fun s hs => ?_⟩
  have hl := (h.each s hs).1.len
  have := (h2 s.data (List.mem_map.2 ⟨s, hs, rfl⟩)).2.1
  unfold Sg.data at this
  simp only [List.length_map] at this
  exact ⟨by omega, hl⟩
theorem same_any2 (A1 A2 : Option Addr) (n m c1 c2 : Nat) (ss ts : List Sg) (w : World) (h1 : Sgs w A1 n ss) (h2 : Sgs w A2 m ts) (hd : ss.map Sg.data = ts.map Sg.data) (hn : n ≤ 1000000) (hs4 : ∀ s ∈ ss, s.n ≤ 1000000) :
    Calls Try.prog 31 #[.slice A1 n c1, .slice A2 m c2] w fun x w' => x = .returned (.bool true) ∧ Only [] w w' := by
  have e : m = n := by
    have := congrArg List.length hd
    rw [List.length_map, List.length_map, h1.len, h2.len] at this
    omega
  subst e
  exact same_any A1 A2 _ c1 c2 ss ts w h1 h2 hd hn hs4
/-- Decode of what Encode laid -/
theorem dec_lay (ss : List Sg) (h : ∀ s ∈ ss, s.ps.length = s.n) (hr : rightL ss = true) : dec (layL ss) = some (ss.map Sg.data) := by
  rw [layL_data ss h hr]
  exact dec_back _ (by rw [← right_data ss h]; exact hr)
/-- Encode of what Decode read -/
theorem lay_dec (l : List UInt8) (L : List SD) (ss : List Sg) (h : ∀ s ∈ ss, s.ps.length = s.n) (hd : dec l = some L) (hL : ss.map Sg.data = L) : rightL ss = true ∧ layL ss = l := by
  obtain ⟨h1, h2⟩ := dec_read l L hd
  have hr : rightL ss = true := by rw [right_data ss h, hL]; exact h2
  refine ⟨hr, ?_⟩
  rw [layL_data ss h hr, hL]
  exact h1.symm
set_option maxHeartbeats 1000000 in
theorem back_any (A1 : Option Addr) (m c1 : Nat) (ss : List Sg) (A2 : Option Addr) (n c2 : Nat) (l : List UInt8) (w : World) (hs : Sgs w A1 m ss) (hr : Bytes w w.heap.size A2 n l) :
    Calls Try.prog 7 #[.slice A1 m c1, .slice A2 n c2] w fun x w' => x = .returned (.bool true) ∧ Only [] w w' := by
  have hL := light_any A1 m c1 ss w hs
  have HK := Lib.hid knows_any
  have HN := Lib.hid num_is
  have HS := Lib.hid hs
  have HR := Lib.hid hr
  have HL := Lib.hid hL
  clear hs hr hL
  by_cases hbig : 1000 < n
  · have d1 : decide ((1000 : Int) < (n : Int)) = true := decide_eq_true (by omega)
    go_enter Try.func7, Try.ntmps7
    go_wp2_with fail
    refine HL.out.mono ?_
    rintro x wl ⟨b, rfl, rfl, _⟩
    cases b
    all_goals
      go_wp2_with (go_at_call 25; refine (HK.out _).mono ?_; rintro x wk ⟨rfl, hok⟩)
      go_ret
      exact ⟨rfl, hok⟩
  · have d1 : decide ((1000 : Int) < (n : Int)) = false := decide_eq_false (by omega)
    go_enter Try.func7, Try.ntmps7
    go_wp2_with fail
    refine HL.out.mono ?_
    rintro x wl ⟨b, rfl, rfl, hlight⟩
    cases b
    · go_wp2_with (go_at_call 25; refine (HK.out _).mono ?_; rintro x wk ⟨rfl, hok⟩)
      go_ret
      exact ⟨rfl, hok⟩
    · obtain ⟨h60, hlt⟩ := hlight rfl
      have HLT := Lib.hid hlt
      clear hlt
      go_wp2_with (go_at_call 25; refine (HK.out w).mono ?_; clear HK; rintro x wk ⟨rfl, hok⟩)
      have HOK := Lib.hid hok
      have hE := encode_any A1 m c1 ss wk (HS.out.only hok) (by omega) (fun s h => by have := (HLT.out s h).1; omega)
      have hsn : ∀ s ∈ ss, s.ps.length = s.n := fun s h => (HS.out.each s h).1.len
      unfold encOut at hE
      clear hok hlight
      cases hrl : rightL ss
      · simp only [hrl, Bool.false_eq_true, if_false] at hE
        have HSN := Lib.hid hsn
        clear hsn hrl
        refine hE.mono ?_
        rintro x wt ⟨Ae, ne, ce, rfl, _, _, _, _, hoe⟩
        have HOT := Lib.hid (HOK.out.trans hoe (by simp))
        clear hE hoe
        go_wp2_with (go_at_call 30; refine (HN.out _ _).mono ?_; rintro x wn ⟨rfl, rfl⟩)
        have hD := decode_any A2 n c2 l wt ((HR.out.only HOT.out (by simp)).more HOT.out.size) (by omega)
        unfold decOut at hD
        have hlen := HR.out.len
        cases hdec : dec l with
        | none =>
          rw [hdec] at hD
          refine hD.mono ?_
          rintro x w8 ⟨A8, n8, c8, s8, rfl, hs8, _, _, hd8, ho8⟩
          have h80 : n8 = 0 := by
            have := congrArg List.length hd8
            rw [List.length_map, hs8.len] at this
            exact this
          subst h80
          have HO8 := Lib.hid (HOT.out.trans ho8 (by simp))
          clear hD hdec hs8 hd8 ho8
          go_wp2_with (first
            | (go_at_call 30; refine (HN.out _ _).mono ?_; rintro x wn ⟨rfl, rfl⟩))
          go_ret
          exact ⟨rfl, HO8.out⟩
        | some L =>
          rw [hdec] at hD
          refine hD.mono ?_
          rintro x w8 ⟨A8, n8, c8, s8, rfl, hs8, _, _, hd8, ho8⟩
          have hrd := (dec_read l L hdec).2
          have hsm := hs8.small (by rw [hd8]; exact hrd)
          have hld := lay_dec l L s8 (fun s h => (hsm.2 s h).2) hdec hd8
          have hE8 := encode_any A8 n8 c8 s8 w8 hs8 (by omega) (fun s h => by have := (hsm.2 s h).1; omega)
          unfold encOut at hE8
          rw [hld.2] at hE8
          simp only [hld.1, if_true] at hE8
          have HS8 := Lib.hid hs8
          have HE8 := Lib.hid hE8
          have HSM := Lib.hid hsm
          have HLD := Lib.hid hld.1
          have HO8 := Lib.hid (HOT.out.trans ho8 (by simp))
          clear hD hdec hs8 hd8 ho8 hE8 hsm hld hrd
          go_wp2_with (first
            | (go_at_call 30; refine (HN.out _ _).mono ?_; rintro x wn ⟨rfl, rfl⟩)
            | (go_at_call 26; refine HE8.out.mono ?_; rintro x w9 ⟨A9, n9, c9, rfl, hb9, _, _, _, ho9⟩; have HO9 := Lib.hid (HO8.out.trans ho9 (by simp)); have hs9 := run_str hb9 c9; have hs2 := run_str (HR.out.only HO9.out (by simp)) c2)
            | (go_at_call 32; refine (right_any A8 n8 c8 s8 w9 (HS8.out.only ho9) (by have := HSM.out.1; omega) (fun s h => by have := (HSM.out.2 s h).1; omega)).mono ?_; rw [HLD.out]; rintro x w10 ⟨rfl, ho10⟩))
          go_ret
          exact ⟨by simp, HO9.out.trans ho10 (by simp)⟩
      · simp only [hrl, if_true] at hE
        have hdl := dec_lay ss hsn hrl
        have hrd := hrl
        rw [right_data ss hsn] at hrd
        have HSN := Lib.hid hsn
        clear hsn hrl
        refine hE.mono ?_
        rintro x we ⟨Ae, ne, ce, rfl, hbe, _, _, hne, hoe⟩
        have hDe := decode_any Ae ne ce (layL ss) we hbe (by omega)
        unfold decOut at hDe
        rw [hdl] at hDe
        have HDE := Lib.hid hDe
        have HRD := Lib.hid hrd
        have HOE := Lib.hid (HOK.out.trans hoe (by simp))
        clear hE hoe hdl hDe hrd
        go_wp2_with (first
          | (go_at_call 30; refine (HN.out _ _).mono ?_; rintro x wn ⟨rfl, rfl⟩)
          | (go_at_call_of 28 (Value.slice Ae ne ce); refine HDE.out.mono ?_; rintro x wd ⟨Ad, nd, cd, sd, rfl, hsd, _, _, hdd, hod⟩; have hsm := hsd.small (by rw [hdd]; exact HRD.out); have HOD := Lib.hid (HOE.out.trans hod (by simp)))
          | (go_at_call 31; refine (same_any2 Ad A1 nd m cd c1 sd ss wd hsd (HS.out.only HOD.out) (by rw [hdd]; rfl) (by omega) (fun s h => by have := (hsm.2 s h).1; omega)).mono ?_; rintro x wt ⟨rfl, hot⟩; have HOT := Lib.hid (HOD.out.trans hot (by simp))))
        have hD := decode_any A2 n c2 l wt ((HR.out.only HOT.out (by simp)).more HOT.out.size) (by omega)
        unfold decOut at hD
        have hlen := HR.out.len
        cases hdec : dec l with
        | none =>
          rw [hdec] at hD
          refine hD.mono ?_
          rintro x w8 ⟨A8, n8, c8, s8, rfl, hs8, _, _, hd8, ho8⟩
          have h80 : n8 = 0 := by
            have := congrArg List.length hd8
            rw [List.length_map, hs8.len] at this
            exact this
          subst h80
          have HO8 := Lib.hid (HOT.out.trans ho8 (by simp))
          clear hD hdec hs8 hd8 ho8
          go_wp2_with (first
            | (go_at_call 30; refine (HN.out _ _).mono ?_; rintro x wn ⟨rfl, rfl⟩))
          go_ret
          exact ⟨rfl, HO8.out⟩
        | some L =>
          rw [hdec] at hD
          refine hD.mono ?_
          rintro x w8 ⟨A8, n8, c8, s8, rfl, hs8, _, _, hd8, ho8⟩
          have hrd := (dec_read l L hdec).2
          have hsm := hs8.small (by rw [hd8]; exact hrd)
          have hld := lay_dec l L s8 (fun s h => (hsm.2 s h).2) hdec hd8
          have hE8 := encode_any A8 n8 c8 s8 w8 hs8 (by omega) (fun s h => by have := (hsm.2 s h).1; omega)
          unfold encOut at hE8
          rw [hld.2] at hE8
          simp only [hld.1, if_true] at hE8
          have HS8 := Lib.hid hs8
          have HE8 := Lib.hid hE8
          have HSM := Lib.hid hsm
          have HLD := Lib.hid hld.1
          have HO8 := Lib.hid (HOT.out.trans ho8 (by simp))
          clear hD hdec hs8 hd8 ho8 hE8 hsm hld hrd
          go_wp2_with (first
            | (go_at_call 30; refine (HN.out _ _).mono ?_; rintro x wn ⟨rfl, rfl⟩)
            | (go_at_call 26; refine HE8.out.mono ?_; rintro x w9 ⟨A9, n9, c9, rfl, hb9, _, _, _, ho9⟩; have HO9 := Lib.hid (HO8.out.trans ho9 (by simp)); have hs9 := run_str hb9 c9; have hs2 := run_str (HR.out.only HO9.out (by simp)) c2)
            | (go_at_call 32; refine (right_any A8 n8 c8 s8 w9 (HS8.out.only ho9) (by have := HSM.out.1; omega) (fun s h => by have := (HSM.out.2 s h).1; omega)).mono ?_; rw [HLD.out]; rintro x w10 ⟨rfl, ho10⟩))
          go_ret
          exact ⟨by simp, HO9.out.trans ho10 (by simp)⟩
end Go.Proofs.Ytbeenfkmnchhbaa.Export
