/- The library's down. PRINTED by wip/gen_gh4.py. -/
import Derived.Test.YtdfiibnpckahnaaGH3
namespace Go.Proofs.Ytdfiibnpckahnaa.Graph
open Go.RowKit Go.Shelf
set_option linter.unusedVariables false
set_option maxRecDepth 100000
/-- j is a child of i, and the least of them -/
def Kid (hs : List Path) (i j m : Nat) : Prop := j < m ∧ (0 < j ∧ (j - 1) / 2 = i) ∧ ∀ k, 0 < k → k < m → (k - 1) / 2 = i → hat hs j ≤ hat hs k
theorem le_of_nlt {a b : Path} (h : ¬ a < b) : b ≤ a := List.not_lt.1 h
theorem le_of_lt' {a b : Path} (h : a < b) : a ≤ b := by
  rcases List.le_total a b with h2 | h2
  · exact h2
  · exact absurd h (List.not_lt.2 h2)
theorem kid2 {hs : List Path} {i j j2 m : Nat} (hj : 2 * i + 1 = j) (hj2 : j + 1 = j2) (h2 : j2 < m) (hl : hat hs j2 < hat hs j) : Kid hs i j2 m := by
  refine ⟨h2, by omega, fun k k0 km kp => ?_⟩
  have : k = j ∨ k = j2 := by omega
  rcases this with rfl | rfl
  · exact le_of_lt' hl
  · exact List.le_refl _
theorem kid1 {hs : List Path} {i j j2 m : Nat} (hj : 2 * i + 1 = j) (hj2 : j + 1 = j2) (h1 : j < m) (hl : ¬ hat hs j2 < hat hs j) : Kid hs i j m := by
  refine ⟨h1, by omega, fun k k0 km kp => ?_⟩
  have : k = j ∨ k = j2 := by omega
  rcases this with rfl | rfl
  · exact List.le_refl _
  · exact le_of_nlt hl
theorem kid0 {hs : List Path} {i j j2 m : Nat} (hj : 2 * i + 1 = j) (hj2 : j + 1 = j2) (h1 : j < m) (h2 : ¬ j2 < m) : Kid hs i j m := by
  refine ⟨h1, by omega, fun k k0 km kp => ?_⟩
  have : k = j := by omega
  subst this
  exact List.le_refl _
section
variable {w w' : World} {c lb bb base n : Nat} {hs : List Path} {v : Value}
set_option maxHeartbeats 4000000 in
theorem hdown_any {m : Nat} (h : HB w c lb bb base v hs) (hl : hs.length = m + 1) (hd : DownI hs 0 m) : Calls Try.prog 60 #[ifc c, .int .i64 0, .int .i64 (m : Int)] w fun x w' => (∃ b, x = .returned (.bool b)) ∧ ∃ hs', HB w' c lb bb base v hs' ∧ hs'.Perm hs ∧ HeapL hs' m ∧ hat hs' m = hat hs m ∧ Only (ownL v) w w' := by
  have HL := Lib.hid hl
  have HH := Lib.hid h
  have HD := Lib.hid hd
  clear h hl hd
  unfold ifc cp
  go_enter Try.func60, Try.ntmps60
  go_wp2_with fail
  go_loopw [7] (fun iv wr => ∃ (i : Nat) (hs' : List Path), iv = .int .i64 i ∧ i ≤ m ∧ DownI hs' i m ∧ HB wr c lb bb base v hs' ∧ hs'.Perm hs ∧ hat hs' m = hat hs m ∧ Only (ownL v) w wr) (fun iv _ => m - (intOf iv).toNat)
  case atStart => exact ⟨0, hs, rfl, by omega, HD.out, HH.out, List.Perm.refl _, rfl, Only.refl _ _⟩
  case round =>
    obtain ⟨i, hs2, rfl, him, hd2, hh2, hp2, hat2, ho2⟩ := hrel
    have hl2 : hs2.length = m + 1 := by rw [hp2.length_eq, HL.out]
    have HD2 := Lib.hid hd2
    have HH2 := Lib.hid hh2
    have HP2 := Lib.hid hp2
    have HA2 := Lib.hid hat2
    have HO2 := Lib.hid ho2
    have HL2 := Lib.hid hl2
    clear hd2 hh2 hp2 hat2 ho2 hl2 HD HH
    obtain ⟨g, cap, rfl, hcap, hown, hog⟩ := HH2.out.sl HL2.out
    have HOWN := Lib.hid hown
    have hsm : m + 1 ≤ 100000 := by have := HH2.out.small; rw [HL2.out] at this; exact this
    clear hown
    have c2 : wr.cell? ⟨c, 2, none⟩ = some (.slice (some ⟨g, 0, none⟩) (m + 1) cap) := HH2.out.blk.cell 2
    obtain ⟨j, hj⟩ : ∃ j, 2 * i + 1 = j := ⟨_, rfl⟩
    have HJ := Lib.hid hj
    have q1 : 2 * (i : Int) + 1 = (j : Int) := by omega
    have d0 : decide ((j : Int) < 0) = false := decide_eq_false (by omega)
    by_cases hjm : j < m
    case neg =>
      have d1 : decide ((m : Int) ≤ (j : Int)) = true := decide_eq_true (by omega)
      have d1' : decide (m ≤ j) = true := decide_eq_true (by omega)
      have HF : Hid (HeapL hs2 m) := Lib.hid (HD2.out.done (fun k k0 km kp => by omega))
      clear hj
      go_wp2_with fail
      go_ret
      exact ⟨⟨_, rfl⟩, hs2, HH2.out, HP2.out, HF.out, HA2.out, HO2.out⟩
    have d1 : decide ((m : Int) ≤ (j : Int)) = false := decide_eq_false (by omega)
    have d1' : decide (m ≤ j) = false := decide_eq_false (by omega)
    obtain ⟨j2, hj2⟩ : ∃ j2, j + 1 = j2 := ⟨_, rfl⟩
    have HJ2 := Lib.hid hj2
    have q2 : (j : Int) + 1 = (j2 : Int) := by omega
    have HLS := Lib.hid (fun wx (ho : Only [] wr wx) a b (ha : a < m + 1) (hb : b < m + 1) => hless_any (HOWN.out.only ho (by simp)) HL2.out ha hb (by omega))
    have HSW := Lib.hid (fun wx (ho : Only [] wr wx) a b (ha : a < m + 1) (hb : b < m + 1) => hswap_any (HOWN.out.only ho (by simp)) HL2.out ha hb (by omega))
    have HM := Lib.hid (fun wx (ho : Only [] wr wx) => And.intro (meth_less (ho.cell c2 (by simp))) (meth_swap (ho.cell c2 (by simp))))
    by_cases h2m : j2 < m
    case neg =>
      have d2 : decide ((j2 : Int) < (m : Int)) = false := decide_eq_false (by omega)
      have d2' : decide (j2 < m) = false := decide_eq_false h2m
      have hml := (HM.out wr (Only.refl _ _)).1
      have HK := Lib.hid (kid0 (hs := hs2) hj hj2 hjm h2m)
      have hKm : j < m := by omega
      obtain ⟨lt, hlt⟩ : ∃ lt, decide (hat hs2 j < hat hs2 i) = lt := ⟨_, rfl⟩
      have HLS1 := Lib.hid (fun wx (ho : Only [] wr wx) => HLS.out wx ho j i (by omega) (by omega))
      rw [hlt] at HLS1
      have HLT := Lib.hid hlt
      have HSW1 := Lib.hid (fun wx (ho : Only [] wr wx) => HSW.out wx ho i j (by omega) (by omega))
      clear hlt hj hj2
      cases lt
      · go_wp2_with (first
          | (go_at_call 95; refine (HLS1.out wr (Only.refl [] wr)).mono ?_; rintro y w5 ⟨rfl, ho5⟩; have HO5 := Lib.hid (((Only.refl [] wr)).trans ho5 (by simp)); clear ho5))
        go_ret
        exact ⟨⟨_, rfl⟩, hs2, HH2.out.only0 HO5.out, HP2.out, HD2.out.done (fun k k0 km kp => List.le_trans (le_of_nlt (of_decide_eq_false HLT.out)) (HK.out.2.2 k k0 km kp)), HA2.out, HO2.out.trans HO5.out (by simp)⟩
      · go_wp2_with (first
          | (go_at_call 95; refine (HLS1.out wr (Only.refl [] wr)).mono ?_; rintro y w5 ⟨rfl, ho5⟩; have HO5 := Lib.hid (((Only.refl [] wr)).trans ho5 (by simp)); have hms := (HM.out w5 HO5.out).2; clear ho5)
          | (go_at_call 96; refine (HSW1.out w5 HO5.out).mono ?_; rintro y w6 ⟨rfl, hown6, ho6⟩; have HOWN6 := Lib.hid hown6; have HO6 := Lib.hid (HO5.out.mono (S' := [g]) (by simp) |>.trans ho6 (fun _ h => .inl h)); clear hown6 ho6))
        go_roundw
        case measure => simp [intOf]; omega
        case rel =>
          have hlen : (swapL hs2 i j).length = m + 1 := by rw [swapL_len, HL2.out]
          have hcg : c ≠ g := fun e => HH2.out.far (by rw [hog, e]; simp)
          have hj := HJ.out
          have hj2 := HJ2.out
          refine ⟨j, _, rfl, by omega, HD2.out.step (by rw [HL2.out]; omega) HK.out.1 HK.out.2.1 HK.out.2.2 (le_of_lt' (of_decide_eq_true HLT.out)), ⟨HH2.out.blk.only HO6.out (by simpa using hcg), by rw [hlen]; exact HOWN6.out, HH2.out.far, by rw [hlen]; exact hsm⟩, (swap_perm (by rw [HL2.out]; omega) (by rw [HL2.out]; omega)).trans HP2.out, by rw [swap_at (by rw [HL2.out]; omega) (by rw [HL2.out]; omega), if_neg (by omega), if_neg (by omega)]; exact HA2.out, HO2.out.trans HO6.out (fun k hk => .inl (by rw [hog]; exact hk))⟩
    have d2 : decide ((j2 : Int) < (m : Int)) = true := decide_eq_true (by omega)
    have d2' : decide (j2 < m) = true := decide_eq_true h2m
    have HL1 := Lib.hid (HLS.out wr (Only.refl _ _) j2 j (by omega) (by omega))
    have hml := (HM.out wr (Only.refl _ _)).1
    by_cases hlj : hat hs2 j2 < hat hs2 j
    · rw [decide_eq_true hlj] at HL1
      have HK := Lib.hid (kid2 hj hj2 h2m hlj)
      have hKm : j2 < m := by omega
      obtain ⟨lt, hlt⟩ : ∃ lt, decide (hat hs2 j2 < hat hs2 i) = lt := ⟨_, rfl⟩
      have HLS1 := Lib.hid (fun wx (ho : Only [] wr wx) => HLS.out wx ho j2 i (by omega) (by omega))
      rw [hlt] at HLS1
      have HLT := Lib.hid hlt
      have HSW1 := Lib.hid (fun wx (ho : Only [] wr wx) => HSW.out wx ho i j2 (by omega) (by omega))
      clear hlt hj hj2
      cases lt
      · go_wp2_with (first
          | (go_at_call 95; refine (HLS1.out w4 HO4.out).mono ?_; rintro y w5 ⟨rfl, ho5⟩; have HO5 := Lib.hid ((HO4.out).trans ho5 (by simp)); clear ho5)
          | (go_at_call 95; refine HL1.out.mono ?_; rintro y w4 ⟨rfl, ho4⟩; have HO4 := Lib.hid ho4; have hml4 := (HM.out w4 ho4).1; clear ho4))
        go_ret
        exact ⟨⟨_, rfl⟩, hs2, HH2.out.only0 HO5.out, HP2.out, HD2.out.done (fun k k0 km kp => List.le_trans (le_of_nlt (of_decide_eq_false HLT.out)) (HK.out.2.2 k k0 km kp)), HA2.out, HO2.out.trans HO5.out (by simp)⟩
      · go_wp2_with (first
          | (go_at_call 95; refine (HLS1.out w4 HO4.out).mono ?_; rintro y w5 ⟨rfl, ho5⟩; have HO5 := Lib.hid ((HO4.out).trans ho5 (by simp)); have hms := (HM.out w5 HO5.out).2; clear ho5)
          | (go_at_call 95; refine HL1.out.mono ?_; rintro y w4 ⟨rfl, ho4⟩; have HO4 := Lib.hid ho4; have hml4 := (HM.out w4 ho4).1; clear ho4)
          | (go_at_call 96; refine (HSW1.out w5 HO5.out).mono ?_; rintro y w6 ⟨rfl, hown6, ho6⟩; have HOWN6 := Lib.hid hown6; have HO6 := Lib.hid (HO5.out.mono (S' := [g]) (by simp) |>.trans ho6 (fun _ h => .inl h)); clear hown6 ho6))
        go_roundw
        case measure => simp [intOf]; omega
        case rel =>
          have hlen : (swapL hs2 i j2).length = m + 1 := by rw [swapL_len, HL2.out]
          have hcg : c ≠ g := fun e => HH2.out.far (by rw [hog, e]; simp)
          have hj := HJ.out
          have hj2 := HJ2.out
          refine ⟨j2, _, rfl, by omega, HD2.out.step (by rw [HL2.out]; omega) HK.out.1 HK.out.2.1 HK.out.2.2 (le_of_lt' (of_decide_eq_true HLT.out)), ⟨HH2.out.blk.only HO6.out (by simpa using hcg), by rw [hlen]; exact HOWN6.out, HH2.out.far, by rw [hlen]; exact hsm⟩, (swap_perm (by rw [HL2.out]; omega) (by rw [HL2.out]; omega)).trans HP2.out, by rw [swap_at (by rw [HL2.out]; omega) (by rw [HL2.out]; omega), if_neg (by omega), if_neg (by omega)]; exact HA2.out, HO2.out.trans HO6.out (fun k hk => .inl (by rw [hog]; exact hk))⟩
    · rw [decide_eq_false hlj] at HL1
      have HK := Lib.hid (kid1 hj hj2 hjm hlj)
      have hKm : j < m := by omega
      obtain ⟨lt, hlt⟩ : ∃ lt, decide (hat hs2 j < hat hs2 i) = lt := ⟨_, rfl⟩
      have HLS1 := Lib.hid (fun wx (ho : Only [] wr wx) => HLS.out wx ho j i (by omega) (by omega))
      rw [hlt] at HLS1
      have HLT := Lib.hid hlt
      have HSW1 := Lib.hid (fun wx (ho : Only [] wr wx) => HSW.out wx ho i j (by omega) (by omega))
      clear hlt hj hj2
      cases lt
      · go_wp2_with (first
          | (go_at_call 95; refine (HLS1.out w4 HO4.out).mono ?_; rintro y w5 ⟨rfl, ho5⟩; have HO5 := Lib.hid ((HO4.out).trans ho5 (by simp)); clear ho5)
          | (go_at_call 95; refine HL1.out.mono ?_; rintro y w4 ⟨rfl, ho4⟩; have HO4 := Lib.hid ho4; have hml4 := (HM.out w4 ho4).1; clear ho4))
        go_ret
        exact ⟨⟨_, rfl⟩, hs2, HH2.out.only0 HO5.out, HP2.out, HD2.out.done (fun k k0 km kp => List.le_trans (le_of_nlt (of_decide_eq_false HLT.out)) (HK.out.2.2 k k0 km kp)), HA2.out, HO2.out.trans HO5.out (by simp)⟩
      · go_wp2_with (first
          | (go_at_call 95; refine (HLS1.out w4 HO4.out).mono ?_; rintro y w5 ⟨rfl, ho5⟩; have HO5 := Lib.hid ((HO4.out).trans ho5 (by simp)); have hms := (HM.out w5 HO5.out).2; clear ho5)
          | (go_at_call 95; refine HL1.out.mono ?_; rintro y w4 ⟨rfl, ho4⟩; have HO4 := Lib.hid ho4; have hml4 := (HM.out w4 ho4).1; clear ho4)
          | (go_at_call 96; refine (HSW1.out w5 HO5.out).mono ?_; rintro y w6 ⟨rfl, hown6, ho6⟩; have HOWN6 := Lib.hid hown6; have HO6 := Lib.hid (HO5.out.mono (S' := [g]) (by simp) |>.trans ho6 (fun _ h => .inl h)); clear hown6 ho6))
        go_roundw
        case measure => simp [intOf]; omega
        case rel =>
          have hlen : (swapL hs2 i j).length = m + 1 := by rw [swapL_len, HL2.out]
          have hcg : c ≠ g := fun e => HH2.out.far (by rw [hog, e]; simp)
          have hj := HJ.out
          have hj2 := HJ2.out
          refine ⟨j, _, rfl, by omega, HD2.out.step (by rw [HL2.out]; omega) HK.out.1 HK.out.2.1 HK.out.2.2 (le_of_lt' (of_decide_eq_true HLT.out)), ⟨HH2.out.blk.only HO6.out (by simpa using hcg), by rw [hlen]; exact HOWN6.out, HH2.out.far, by rw [hlen]; exact hsm⟩, (swap_perm (by rw [HL2.out]; omega) (by rw [HL2.out]; omega)).trans HP2.out, by rw [swap_at (by rw [HL2.out]; omega) (by rw [HL2.out]; omega), if_neg (by omega), if_neg (by omega)]; exact HA2.out, HO2.out.trans HO6.out (fun k hk => .inl (by rw [hog]; exact hk))⟩
end
end Go.Proofs.Ytdfiibnpckahnaa.Graph
