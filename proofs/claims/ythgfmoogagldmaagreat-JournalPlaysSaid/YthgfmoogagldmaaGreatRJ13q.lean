/- JournalPlays, walked. PRINTED by wip/gen_rj12.py. -/
import Derived.Test.YthgfmoogagldmaaGreatRanges
import Derived.Test.YthgfmoogagldmaaGreatRefS
import Derived.Deep.DeepCutAuto
import Derived.Deep.LoopGhost
import Derived.Deep.CutBlock
set_option linter.unusedVariables false
set_option maxRecDepth 100000
namespace Go.Proofs.YthgfmoogagldmaaGreat.RefD
open Go.RowKit Go.Shelf Disk Journal Go.Proofs.YthgfmoogagldmaaGreat.Frame
section
variable {w w' : World}
theorem gs_only {A : Option Addr} {n : Nat} {ls : List (List UInt8)} (h : Gs w w.heap.size A n ls) (ho : Only [] w w') : Gs w' w'.heap.size A n ls := by
  obtain ⟨ss, h1, h2, h3, h4⟩ := h
  exact ⟨ss, h1, (h2.only ho (by simp)).more ho.size, h3, fun s hs => by obtain ⟨a, b⟩ := h4 s hs; exact ⟨(a.only ho (by simp)).more ho.size, b⟩⟩
set_option maxHeartbeats 16000000 in
theorem plays_any (z : Int) (A : Option Addr) (m c : Nat) (as_ : List AJ) (w : World) (hr : Recs w w.heap.size 5 A m (as_.map AJ.row)) (hin : ∀ a ∈ as_, a.in_ w) (hlc : ∀ a ∈ as_, a.ss.length ≤ a.Lc ∧ a.Lc ≤ maxLen) (hnl : ∀ a ∈ as_, a.n ≤ 9223372036854775807) :
    Calls Tryz.prog 4 #[.int .i64 z, .slice A m c] w fun x w' => x = .returned (.bool true) ∧ Only [] w w' := by
  have HLI := Lib.hid (light6_any A m c as_ w hr hin)
  have HIN := Lib.hid hin
  have HR := Lib.hid hr
  have HLCA := Lib.hid hlc
  have HNLA := Lib.hid hnl
  have HK := Lib.hid (fun w => knows6_any w)
  have HM := Lib.hid (fun z w => num6_any z w)
  clear hr hin hlc hnl
  by_cases hbig : 200 < z ∧ z ≤ 65536
  · have e1 : decide (200 < z) = true := decide_eq_true hbig.1
    have e2 : decide (z ≤ 65536) = true := decide_eq_true hbig.2
    go_enter Tryz.func4, Tryz.ntmps4
    go_wp2_with (go_at_call 11; refine (HK.out _).mono ?_; rintro x wk ⟨rfl, hok⟩; have HOK := Lib.hid hok; clear hok)
    go_ret
    exact ⟨rfl, HOK.out⟩
  have hg2 : (decide (200 < z) = false) ∨ (decide (200 < z) = true ∧ decide (z ≤ 65536) = false) := by
    by_cases h : 200 < z
    · exact .inr ⟨decide_eq_true h, decide_eq_false (fun h2 => hbig ⟨h, h2⟩)⟩
    · exact .inl (decide_eq_false h)
  by_cases hz1 : z < 1 ∨ 65536 < z
  · have HN1 := Lib.hid (fun w => new_bad z hz1 w)
    have HN2 := Lib.hid (fun w => rnew_bad z hz1 w)
    rcases hg2 with e1 | ⟨e1, e2⟩
    all_goals
      clear hbig
      go_enter Tryz.func4, Tryz.ntmps4
      go_wp2_with fail
      refine HLI.out.mono ?_
      rintro x w1 ⟨⟨bl, rfl, hlit⟩, hw1⟩
      have hw1 := hw1.symm
      subst hw1
      clear hlit HLI
      cases bl
      · go_wp2_with (go_at_call 11; refine (HK.out _).mono ?_; rintro x wk ⟨rfl, hok⟩; have HOK := Lib.hid hok; clear hok)
        go_ret
        exact ⟨rfl, HOK.out⟩
      · go_wp2_with (first
          | (go_at_call 11; refine (HK.out _).mono ?_; rintro x w2 ⟨rfl, ho2⟩; have HO2 := Lib.hid ho2; clear ho2)
          | (go_at_call 12; refine (HN1.out _).mono ?_; rintro x w3 ⟨rfl, ho3⟩; have HO3 := Lib.hid (HO2.out.trans ho3 (by simp)); clear ho3)
          | (go_at_call 24; refine (HN2.out _).mono ?_; rintro x w4 ⟨rfl, ho4⟩; have HO4 := Lib.hid (HO3.out.trans ho4 (by simp)); clear ho4)
          | (go_at_call 14; refine (HM.out _ _).mono ?_; rintro x wn ⟨rfl, hwn⟩; have hwn := hwn.symm; subst hwn))
        go_ret
        exact ⟨rfl, HO4.out⟩
  have hz200 : z ≤ 200 := by
    rcases Int.lt_or_le 200 z with h | h
    · exact absurd ⟨h, by omega⟩ hbig
    · exact h
  obtain ⟨n, hnz⟩ := Int.eq_ofNat_of_zero_le (show 0 ≤ z by omega)
  subst hnz
  have e1 : decide ((200 : Int) < (n : Int)) = false := decide_eq_false (by omega)
  have e1' : decide (200 < n) = false := decide_eq_false (by omega)
  have hn1 : 1 ≤ n ∧ n ≤ 200 := by omega
  have HNA := Lib.hid (fun w => (show Calls Tryz.prog 12 #[.int .i64 (n : Int)] w fun x w' => NewO w n x w' from new_any n hn1.1 (by omega) w))
  have HNB := Lib.hid (fun w X hX => rnew_any n hn1.1 (by omega) w X hX)
  clear hg2 hz1 hbig hz200
  go_enter Tryz.func4, Tryz.ntmps4
  go_wp2_with fail
  refine HLI.out.mono ?_
  rintro x w1 ⟨⟨bl, rfl, hlit⟩, hw1⟩
  have hw1 := hw1.symm
  subst hw1
  cases bl
  · clear hlit
    go_wp2_with (go_at_call 11; refine (HK.out _).mono ?_; rintro x wk ⟨rfl, hok⟩; have HOK := Lib.hid hok; clear hok)
    go_ret
    exact ⟨rfl, HOK.out⟩
  have HLIT := Lib.hid (hlit rfl)
  clear hlit HLI
  go_upto_region 7 with (first
    | (go_at_call 11; refine (HK.out _).mono ?_; rintro x w2 ⟨rfl, ho2⟩; have HO2 := Lib.hid ho2; clear ho2)
    | (go_at_call 12; refine (HNA.out w2).mono ?_; rintro x w3 ⟨p, g, b, cap, rfl, hd3, hp, hg, hb, ho3⟩; have hsz2 := HO2.out.size; have HP3 := Lib.hid (show w.heap.size ≤ p ∧ w.heap.size ≤ g ∧ w.heap.size ≤ b by omega); have HD3 := Lib.hid hd3; have HO3 := Lib.hid (HO2.out.trans ho3 (by simp)); clear hd3 hp hg hb ho3 hsz2)
    | (go_at_call 24; refine (HNB.out w3 [p, g, b] (fun k hk => by
         have e2 := HD3.out.blk.lt
         obtain ⟨C, c1, _⟩ := HD3.out.safe
         have e3 := c1.lt
         have e4 := isD_map_lt HD3.out
         simp at hk
         omega)).mono ?_; rintro x w4 ⟨p', sb, sc, wb, rfl, hr4, hp4, hs4, hw4, ho4⟩; have HR4 := Lib.hid hr4; have HP4 := Lib.hid (And.intro hp4 (And.intro hs4 hw4)); have HO34 := Lib.hid ho4; clear hr4 hp4 hs4 hw4 ho4)
    | (go_at_call 14; refine (HM.out _ _).mono ?_; rintro x wn ⟨rfl, hwn⟩; have hwn := hwn.symm; subst hwn))
  obtain ⟨bs, hbs⟩ : ∃ bs, w3.heap.size = bs := ⟨_, rfl⟩
  rw [hbs] at HR4
  clear hbs
  by_cases hn8 : n < 8
  · have hof : openJ (newD n) = (newD n, none, 1) := by
      unfold openJ
      rw [if_pos (by show (n : Int) < 8; omega)]
    have HOF : Hid (Calls Tryz.prog 13 #[.pointer (some ⟨p, 0, none⟩)] w4 fun x w' => x = .returned (.tuple #[.pointer none, .int .i64 1]) ∧ ∃ W5, IsD w' p g b W5 cap (newD n) ∧ Only [p, g, b] w4 w') := Lib.hid ((open_few (HD3.out.only0 HO34.out) (by show (n : Int) < 8; omega)).mono (fun x w' hx => by
      rw [hof] at hx
      rcases hx with ⟨_, h, W5, h1, _, h2⟩ | ⟨_, _, _, _, _, hbad, _⟩
      · exact ⟨h, W5, h1, h2⟩
      · cases hbad))
    have HRF := Lib.hid (fun wx (ho : Only [p, g, b] w4 wx) => ropen_few (HR4.out.turn ho ⟨(fun h => by have a := HP4.out; have c := HR4.out.xlt; have e2 := HD3.out.blk.lt; obtain ⟨C, c1, _⟩ := HD3.out.safe; have e3 := c1.lt; have e4 := isD_map_lt HD3.out; simp at h; omega), (fun h => by have a := HP4.out; have c := HR4.out.xlt; have e2 := HD3.out.blk.lt; obtain ⟨C, c1, _⟩ := HD3.out.safe; have e3 := c1.lt; have e4 := isD_map_lt HD3.out; simp at h; omega), (fun h => by have a := HP4.out; have c := HR4.out.xlt; have e2 := HD3.out.blk.lt; obtain ⟨C, c1, _⟩ := HD3.out.safe; have e3 := c1.lt; have e4 := isD_map_lt HD3.out; simp at h; omega)⟩ (fun k hk => .inl hk) (fun k hk => .inl hk) (fun k hk => Nat.lt_of_lt_of_le (HR4.out.xlt k hk) ho.size)) (by show n < 8; exact hn8))
    have HRT := Lib.hid (fun wx (ho : Only [p, g, b] w4 wx) => HR4.out.turn ho ⟨(fun h => by have a := HP4.out; have c := HR4.out.xlt; have e2 := HD3.out.blk.lt; obtain ⟨C, c1, _⟩ := HD3.out.safe; have e3 := c1.lt; have e4 := isD_map_lt HD3.out; simp at h; omega), (fun h => by have a := HP4.out; have c := HR4.out.xlt; have e2 := HD3.out.blk.lt; obtain ⟨C, c1, _⟩ := HD3.out.safe; have e3 := c1.lt; have e4 := isD_map_lt HD3.out; simp at h; omega), (fun h => by have a := HP4.out; have c := HR4.out.xlt; have e2 := HD3.out.blk.lt; obtain ⟨C, c1, _⟩ := HD3.out.safe; have e3 := c1.lt; have e4 := isD_map_lt HD3.out; simp at h; omega)⟩ (fun k hk => .inl hk) (fun k hk => .inl hk) (fun k hk => Nat.lt_of_lt_of_le (HR4.out.xlt k hk) ho.size))
    clear hof
    go_wp2_with (first
      | (go_at_call 13; refine HOF.out.mono ?_; rintro x w5 ⟨rfl, W5, hd5, ho5⟩; have HD5 := Lib.hid hd5; have HO5 := Lib.hid ho5; have HRF5 := Lib.hid (HRF.out w5 ho5); clear hd5 ho5)
      | (go_at_call 25; refine HRF5.out.mono ?_; rintro x wn ⟨rfl, hwn⟩; have hwn := hwn.symm; subst hwn)
      | (go_at_call 14; refine (HM.out _ _).mono ?_; rintro x wn ⟨rfl, hwn⟩; have hwn := hwn.symm; subst hwn))
    have HDW := HD5
    have HRW := Lib.hid (HRT.out w5 HO5.out)
    have HOW : Hid (Only [] w w5) := Lib.hid (((HO3.out.trans HO34.out (by simp)).mono (S' := [p, g, b]) (by simp)).trans HO5.out (fun k hk => .inl hk) |>.mono (fun k hk => .inr (by have := HP3.out; simp at hk; omega)))
    go_loopw [9, 10, 11] (fun xv yv iv wr => xv = .pointer none ∧ yv = .pointer none ∧ iv = .int .i64 0 ∧ wr = w5) (fun _ _ iv _ => 0)
    case atStart => exact ⟨rfl, rfl, rfl, rfl⟩
    case round =>
      obtain ⟨rfl, rfl, rfl, hwr⟩ := hrel
      have hwr := hwr.symm
      subst hwr
      obtain ⟨eb, f8, f8'⟩ : ∃ eb, decide ((0 : Int) < (m : Int)) = eb ∧ decide (0 < m) = eb := ⟨decide (0 < m), by by_cases h : 0 < m <;> simp [h], rfl⟩
      cases eb
      all_goals
        go_wp2_with fail
        go_loopw [17] (fun jv wr => ∃ j : Nat, j ≤ n ∧ jv = .int .i64 j ∧ Only [] w5 wr) (fun jv _ => n - (Go.RowKit.intOf jv).toNat)
        case atStart => exact ⟨0, by omega, rfl, Only.refl _ _⟩
        case round =>
          obtain ⟨j, hj, rfl, hoj⟩ := hrel
          by_cases hjl : j < n
          · have f1 : decide ((j : Int) < (n : Int)) = true := decide_eq_true (by omega)
            have f1' : decide (j < n) = true := decide_eq_true hjl
            have HRL := Lib.hid (readL_any (HDW.out.only0 hoj) (HRW.out.only0 hoj) (j : Int))
            have HOJ := Lib.hid hoj
            clear hoj
            go_wp2_with (go_at_call 35; refine HRL.out.mono ?_; rintro x w9 ⟨rfl, ho9⟩; have HO9 := Lib.hid ho9; clear ho9)
            go_roundw
            case measure => simp [Go.RowKit.intOf]; omega
            case rel => exact ⟨j + 1, by omega, by go_num, HOJ.out.trans HO9.out (by simp)⟩
          · obtain rfl : j = n := by omega
            have f1 : decide ((j : Int) < (j : Int)) = false := decide_eq_false (by omega)
            have f1' : decide (j < j) = false := decide_eq_false (by omega)
            have HOJ := Lib.hid hoj
            clear hoj
            go_wp2_with fail
            go_ret
            exact ⟨rfl, HOW.out.trans HOJ.out (by simp)⟩
  · have hn82 : 8 ≤ n ∧ n ≤ 200 := by omega
    have HN := Lib.hid hn82
    have HS1 := Lib.hid (start1 hn82 HD3.out HP3.out HO3.out HR4.out HP4.out HO34.out)
    clear hn82 hn8
    go_wp2_with (first
      | (go_at_call 13; refine HS1.out.mono ?_; rintro x w5 ⟨q, rfl, hs1⟩; have HS2 := Lib.hid (start2 HN.out hs1); clear hs1)
      | (go_at_call 25; refine HS2.out.mono ?_; rintro x w6 ⟨q', rfl, hps⟩; have HPS0 := Lib.hid hps; clear hps)
      | (go_at_call 14; refine (HM.out _ _).mono ?_; rintro x wn ⟨rfl, hwn⟩; have hwn := hwn.symm; subst hwn))
    clear e1 e1' HS1
    go_loopw [9, 10, 11] (fun xv yv iv wr => ∃ k : Nat, k ≤ m ∧ iv = .int .i64 k ∧ PS w wr p g b cap p' sb sc wb bs n k xv yv) (fun _ _ iv _ => m - (Go.RowKit.intOf iv).toNat)
    case atStart => exact ⟨0, by omega, rfl, HPS0.out⟩
    case round =>
      obtain ⟨k, hkm, rfl, q, q', d, js, rfl, rfl, hBW, hP, hdn, hjl, ho⟩ := hrel
      have HBW := Lib.hid hBW
      have HP := Lib.hid hP
      have HDN := Lib.hid hdn
      have HJL := Lib.hid hjl
      have HO := Lib.hid ho
      clear HPS0
      by_cases hlt : k < m
      · have d1 : decide ((k : Int) < (m : Int)) = true := decide_eq_true (by omega)
        have d1' : decide (k < m) = true := decide_eq_true hlt
        obtain ⟨bb, off, hA, hbb, x, hx, _, c0, c1', c2, c3, c4⟩ := aj_at HR.out k hlt
        subst hA
        have HIX := Lib.hid (HIN.out x hx)
        have HLX := Lib.hid (HLIT.out.2 x hx)
        have HLC := Lib.hid (HLCA.out x hx)
        have HANL := Lib.hid (HNLA.out x hx)
        have hm60 := HLIT.out.1
        have hk60 : k ≤ 60 := by omega
        have y0 := ho.cell c0 (by simp)
        have y1 := ho.cell c1' (by simp)
        have y2 := ho.cell c2 (by simp)
        have y3 := ho.cell c3 (by simp)
        have y4 := ho.cell c4 (by simp)
        have HC := Lib.hid (And.intro c0 (And.intro c1' (And.intro c2 (And.intro c3 c4))))
        clear c0 c1' c2 c3 c4 hx ho hBW hP hdn hjl
        obtain ⟨kind, an, ⟨bA, bn, bc, bl⟩, LA, Lc, ss, FA, Fc, fts⟩ := x
        simp only at y0 y1 y2 y3 y4 HC
        obtain ⟨nl, hnl⟩ : ∃ nl, ss.length = nl := ⟨_, rfl⟩
        obtain ⟨nf, hnf⟩ : ∃ nf, fts.length = nf := ⟨_, rfl⟩
        have HNL := Lib.hid hnl
        have HNF := Lib.hid hnf
        rw [hnl] at y3 HC
        rw [hnf] at y4 HC
        clear hnl hnf
        go_upto_block 2 with fail
        go_cut [9, 10, 12] (fun xv yv okv wx => okv = .bool true ∧ PS w wx p g b cap p' sb sc wb bs n (k + 1) xv yv)
        case first =>
          go_upto_if 95 with fail
          go_cut [95] (fun s wx => s = .bool (kind == 0 || kind == 1) ∧ wx = wr)
          case first =>
            by_cases k0 : kind = 0
            · subst k0
              go_wp2_with fail
              go_meet
              exact ⟨rfl, rfl⟩
            · have e0 : (kind == 0) = false := beq_eq_false_iff_ne.2 k0
              go_wp2_with fail
              go_meet
              exact ⟨by rw [e0]; rfl, rfl⟩
          case rest =>
            obtain ⟨rfl, hw⟩ := hcut
            subst hw
            by_cases k01 : kind = 0 ∨ kind = 1
            · as_aux_lemma =>
                have e01 : (kind == 0 || kind == 1) = true := by rcases k01 with rfl | rfl <;> rfl
                rw [e01]
                clear k01
                obtain ⟨R, hR⟩ : ∃ R, (appendJ d js bl).2.2 = R := ⟨_, rfl⟩
                have ha1 := ps_app1 (HBW.out.only0 ((Only.refl [] wc).drew)) HN.out (by omega) HP.out HDN.out HJL.out HO.out.drew bA bc bn bl HIX.out.b.1 HLX.out.1 HIX.out.b.2
                rw [hR] at ha1
                have HA1 := Lib.hid ha1
                have HA2 : Hid (∀ wx, BW w.heap.size wx p g b q cap p' sb sc wb bs q' (appendJ d js bl).1 (appendJ d js bl).2.1 d js → Only [] w wx → Calls Tryz.prog 26 #[.pointer (some ⟨q', 0, none⟩), .slice bA bn bc] wx fun x w' => x = .returned (.int .i64 R) ∧ PS w w' p g b cap p' sb sc wb bs n (k + 1) (.pointer (some ⟨q, 0, none⟩)) (.pointer (some ⟨q', 0, none⟩))) := Lib.hid (fun wx h1 h2 => by
                  have := ps_app2 h1 HN.out (by omega) HP.out HDN.out HJL.out h2 bA bc bn bl HIX.out.b.1 HLX.out.1 HIX.out.b.2 rfl rfl
                  rw [hR] at this
                  exact this)
                have e5 : (R == R) = true := by simp
                clear hR ha1 y0 y1 y3 y4
                go_wp2_with fail
                have HCC : Hid (w.cell? ⟨bb, off + k * 5 + 2, none⟩ = some (.slice bA bn bc)) := Lib.hid HC.out.2.2.1
                have hS : wc.drew.cell? ⟨bb, off + k * 5 + 2, none⟩ = some (.slice bA bn bc) := y2
                refine wp_region_hand (S := fun Y => Y.cell? ⟨bb, off + k * 5 + 2, none⟩ = some (.slice bA bn bc)) (by kernel_rfl) ?_
                refine takeV 0 (.pointer (some ⟨q, 0, none⟩)) rfl rfl (by kernel_rfl) (fun Y hY => by have y0 := hY; go_simp) hS ?_; simp only [s0A, s0B, s0C]
                refine takeV 1 (.slice (some ⟨bb, off, none⟩) m c) rfl rfl (by kernel_rfl) (fun Y hY => by have y0 := hY; go_simp) hS ?_; simp only [s0A, s0B, s0C]
                refine takeV 2 (.int .i64 (k : Int)) rfl rfl (by kernel_rfl) (fun Y hY => by have y0 := hY; go_simp) hS ?_; simp only [s0A, s0B, s0C]
                refine takeV 3 (.pointer (some ⟨bb, off + k * 5, none⟩)) rfl rfl (by kernel_rfl) (fun Y hY => by have y0 := hY; go_simp) hS ?_; simp only [s0A, s0B, s0C]
                refine takeV 4 (.pointer (some ⟨bb, off + k * 5 + 2, none⟩)) rfl rfl (by kernel_rfl) (fun Y hY => by have y0 := hY; go_simp) hS ?_; simp only [s0A, s0B, s0C]
                refine takeV 5 (.slice bA bn bc) rfl rfl (by kernel_rfl) (fun Y hY => by have y0 := hY; go_simp) hS ?_; simp only [s0A, s0B, s0C]
                refine takeV 8 (.pointer (some ⟨q', 0, none⟩)) rfl rfl (by kernel_rfl) (fun Y hY => by have y0 := hY; go_simp) hS ?_; simp only [s0A, s0B, s0C]
                refine takeV 9 (.slice (some ⟨bb, off, none⟩) m c) rfl rfl (by kernel_rfl) (fun Y hY => by have y0 := hY; go_simp) hS ?_; simp only [s0A, s0B, s0C]
                refine takeV 10 (.int .i64 (k : Int)) rfl rfl (by kernel_rfl) (fun Y hY => by have y0 := hY; go_simp) hS ?_; simp only [s0A, s0B, s0C]
                refine takeV 11 (.pointer (some ⟨bb, off + k * 5, none⟩)) rfl rfl (by kernel_rfl) (fun Y hY => by have y0 := hY; go_simp) hS ?_; simp only [s0A, s0B, s0C]
                refine takeV 12 (.pointer (some ⟨bb, off + k * 5 + 2, none⟩)) rfl rfl (by kernel_rfl) (fun Y hY => by have y0 := hY; go_simp) hS ?_; simp only [s0A, s0B, s0C]
                refine takeV 13 (.slice bA bn bc) rfl rfl (by kernel_rfl) (fun Y hY => by have y0 := hY; go_simp) hS ?_; simp only [s0A, s0B, s0C]
                refine callW (i := 6) rfl (by kernel_rfl) rfl (by rfl) ?_ (HA1.out) ?_
                · go_simp
                rintro x w5 ⟨rfl, hbw5, ho5⟩
                have HBW5 := Lib.hid hbw5
                have HO5 := Lib.hid ho5
                have hS5 : w5.cell? ⟨bb, off + k * 5 + 2, none⟩ = some (.slice bA bn bc) := ho5.cell HCC.out (by simp)
                clear hbw5 ho5
                refine ⟨_, rfl, hS5, ?_⟩
                simp only [s0A, s0B, s0C]
                refine callW (i := 7) rfl (by kernel_rfl) rfl (by rfl) ?_ (HM.out R w5) ?_
                · go_simp
                rintro x wn ⟨rfl, hwn⟩
                have hwn := hwn.symm
                subst hwn
                refine ⟨_, rfl, hS5, ?_⟩
                simp only [s0A, s0B, s0C]
                refine callW (i := 14) rfl (by kernel_rfl) rfl (by rfl) ?_ (HA2.out w5 HBW5.out HO5.out) ?_
                · go_simp
                rintro x w6 ⟨rfl, hps⟩
                have HPS := Lib.hid hps
                have hS6 : w6.cell? ⟨bb, off + k * 5 + 2, none⟩ = some (.slice bA bn bc) := by obtain ⟨_, _, _, _, _, _, _, _, _, _, ho6⟩ := hps; exact ho6.cell HCC.out (by simp)
                clear hps
                refine ⟨_, rfl, hS6, ?_⟩
                simp only [s0A, s0B, s0C]
                refine callW (i := 15) rfl (by kernel_rfl) rfl (by rfl) ?_ (HM.out R w6) ?_
                · go_simp
                rintro x wn ⟨rfl, hwn⟩
                have hwn := hwn.symm
                subst hwn
                refine ⟨_, rfl, hS6, ?_⟩
                simp only [s0A, s0B, s0C]
                refine takeV 16 (.bool true) rfl rfl (by kernel_rfl) (fun Y hY => by have y0 := hY; go_simp) hS6 ?_; simp only [s0A, s0B, s0C]
                refine takeV 17 (.bool true) rfl rfl (by kernel_rfl) (fun Y hY => by have y0 := hY; go_simp) hS6 ?_; simp only [s0A, s0B, s0C]
                refine wpAnyH_done (by kernel_rfl) ?_ _
                clear hS hS5 hS6
                go_wp2_with fail
                go_meet
                exact ⟨rfl, HPS.out⟩
            · have e01 : (kind == 0 || kind == 1) = false := by
                have a1 : (kind == 0) = false := beq_eq_false_iff_ne.2 (fun h => k01 (.inl h))
                have a2 : (kind == 1) = false := beq_eq_false_iff_ne.2 (fun h => k01 (.inr h))
                rw [a1, a2]
                rfl
              rw [e01]
              by_cases k2 : kind = 2
              · as_aux_lemma =>
                  subst k2
                  obtain ⟨R, hR⟩ : ∃ R, (resetJ d js (ss.map (·.l))).2.2 = R := ⟨_, rfl⟩
                  have ha1 := ps_res1 (HBW.out.only0 ((Only.refl [] wc).drew)) HN.out (by omega) HP.out HDN.out HJL.out HO.out.drew LA Lc ss HIX.out.l HIX.out.e HLX.out.2.2.2 HLX.out.2.1
                  have ha2 := fun (wx : World) (h1 : BW w.heap.size wx p g b q cap p' sb sc wb bs q' (resetJ d js (ss.map (·.l))).1 (resetJ d js (ss.map (·.l))).2.1 d js) (h2 : Only [] w wx) => ps_res2 (wx := wx) (dl := (resetJ d js (ss.map (·.l))).1) (jl := (resetJ d js (ss.map (·.l))).2.1) h1 HN.out (by omega) HP.out HDN.out HJL.out h2 LA Lc ss HIX.out.l HIX.out.e HLX.out.2.2.2 HLX.out.2.1 HLC.out rfl rfl
                  rw [hR, HNL.out] at ha1
                  rw [hR, HNL.out] at ha2
                  have HA1 := Lib.hid ha1
                  have HA2 := Lib.hid ha2
                  have e5 : (R == R) = true := by simp
                  clear hR ha1 ha2 y0 y1 y2 y4 e01 k01
                  go_wp2_with fail
                  have HCC : Hid (w.cell? ⟨bb, off + k * 5 + 3, none⟩ = some (.slice LA nl Lc)) := Lib.hid HC.out.2.2.2.1
                  have hS : wc.drew.cell? ⟨bb, off + k * 5 + 3, none⟩ = some (.slice LA nl Lc) := y3
                  refine wp_region_hand (S := fun Y => Y.cell? ⟨bb, off + k * 5 + 3, none⟩ = some (.slice LA nl Lc)) (by kernel_rfl) ?_
                  refine takeV 0 (.pointer (some ⟨q, 0, none⟩)) rfl rfl (by kernel_rfl) (fun Y hY => by have y0 := hY; go_simp) hS ?_; simp only [s0A, s0B, s0C]
                  refine takeV 1 (.slice (some ⟨bb, off, none⟩) m c) rfl rfl (by kernel_rfl) (fun Y hY => by have y0 := hY; go_simp) hS ?_; simp only [s0A, s0B, s0C]
                  refine takeV 2 (.int .i64 (k : Int)) rfl rfl (by kernel_rfl) (fun Y hY => by have y0 := hY; go_simp) hS ?_; simp only [s0A, s0B, s0C]
                  refine takeV 3 (.pointer (some ⟨bb, off + k * 5, none⟩)) rfl rfl (by kernel_rfl) (fun Y hY => by have y0 := hY; go_simp) hS ?_; simp only [s0A, s0B, s0C]
                  refine takeV 4 (.pointer (some ⟨bb, off + k * 5 + 3, none⟩)) rfl rfl (by kernel_rfl) (fun Y hY => by have y0 := hY; go_simp) hS ?_; simp only [s0A, s0B, s0C]
                  refine takeV 5 (.slice LA nl Lc) rfl rfl (by kernel_rfl) (fun Y hY => by have y0 := hY; go_simp) hS ?_; simp only [s0A, s0B, s0C]
                  refine takeV 8 (.pointer (some ⟨q', 0, none⟩)) rfl rfl (by kernel_rfl) (fun Y hY => by have y0 := hY; go_simp) hS ?_; simp only [s0A, s0B, s0C]
                  refine takeV 9 (.slice (some ⟨bb, off, none⟩) m c) rfl rfl (by kernel_rfl) (fun Y hY => by have y0 := hY; go_simp) hS ?_; simp only [s0A, s0B, s0C]
                  refine takeV 10 (.int .i64 (k : Int)) rfl rfl (by kernel_rfl) (fun Y hY => by have y0 := hY; go_simp) hS ?_; simp only [s0A, s0B, s0C]
                  refine takeV 11 (.pointer (some ⟨bb, off + k * 5, none⟩)) rfl rfl (by kernel_rfl) (fun Y hY => by have y0 := hY; go_simp) hS ?_; simp only [s0A, s0B, s0C]
                  refine takeV 12 (.pointer (some ⟨bb, off + k * 5 + 3, none⟩)) rfl rfl (by kernel_rfl) (fun Y hY => by have y0 := hY; go_simp) hS ?_; simp only [s0A, s0B, s0C]
                  refine takeV 13 (.slice LA nl Lc) rfl rfl (by kernel_rfl) (fun Y hY => by have y0 := hY; go_simp) hS ?_; simp only [s0A, s0B, s0C]
                  refine callW (i := 6) rfl (by kernel_rfl) rfl (by rfl) ?_ (HA1.out) ?_
                  · go_simp
                  rintro x w5 ⟨rfl, hbw5, ho5⟩
                  have HBW5 := Lib.hid hbw5
                  have HO5 := Lib.hid ho5
                  have hS5 : w5.cell? ⟨bb, off + k * 5 + 3, none⟩ = some (.slice LA nl Lc) := ho5.cell HCC.out (by simp)
                  clear hbw5 ho5
                  refine ⟨_, rfl, hS5, ?_⟩
                  simp only [s0A, s0B, s0C]
                  refine callW (i := 7) rfl (by kernel_rfl) rfl (by rfl) ?_ (HM.out R w5) ?_
                  · go_simp
                  rintro x wn ⟨rfl, hwn⟩
                  have hwn := hwn.symm
                  subst hwn
                  refine ⟨_, rfl, hS5, ?_⟩
                  simp only [s0A, s0B, s0C]
                  refine callW (i := 14) rfl (by kernel_rfl) rfl (by rfl) ?_ (HA2.out w5 HBW5.out HO5.out) ?_
                  · go_simp
                  rintro x w6 ⟨rfl, hps⟩
                  have HPS := Lib.hid hps
                  have hS6 : w6.cell? ⟨bb, off + k * 5 + 3, none⟩ = some (.slice LA nl Lc) := by obtain ⟨_, _, _, _, _, _, _, _, _, _, ho6⟩ := hps; exact ho6.cell HCC.out (by simp)
                  clear hps
                  refine ⟨_, rfl, hS6, ?_⟩
                  simp only [s0A, s0B, s0C]
                  refine callW (i := 15) rfl (by kernel_rfl) rfl (by rfl) ?_ (HM.out R w6) ?_
                  · go_simp
                  rintro x wn ⟨rfl, hwn⟩
                  have hwn := hwn.symm
                  subst hwn
                  refine ⟨_, rfl, hS6, ?_⟩
                  simp only [s0A, s0B, s0C]
                  refine takeV 16 (.bool true) rfl rfl (by kernel_rfl) (fun Y hY => by have y0 := hY; go_simp) hS6 ?_; simp only [s0A, s0B, s0C]
                  refine takeV 17 (.bool true) rfl rfl (by kernel_rfl) (fun Y hY => by have y0 := hY; go_simp) hS6 ?_; simp only [s0A, s0B, s0C]
                  refine wpAnyH_done (by kernel_rfl) ?_ _
                  clear hS hS5 hS6
                  go_wp2_with fail
                  go_meet
                  exact ⟨rfl, HPS.out⟩
              · have e2 : (kind == 2) = false := beq_eq_false_iff_ne.2 k2
                by_cases k3 : kind = 3
                · as_aux_lemma =>
                    subst k3
                    have HAN : Hid (an ≤ 9223372036854775807) := Lib.hid HANL.out
                    have HA1 := Lib.hid (ps_stop1 HBW.out HO.out an HAN.out)
                    have HA2 := Lib.hid (fun (wx : World) (h1 : BW w.heap.size wx p g b q cap p' sb sc wb bs q' (stopD d an) js d js) (h2 : Only [] w wx) => ps_stop2 (wx := wx) (dl := stopD d an) h1 HP.out HDN.out HJL.out h2 an HAN.out rfl)
                    clear y0 y2 y3 y4 e01 k01 k2 e2
                    go_wp2_with (first
                      | (go_at_call 18; refine HA1.out.mono ?_; rintro x w5 ⟨rfl, hbw5, ho5⟩; have HA2b := Lib.hid (HA2.out w5 hbw5 ho5); have z1 := ho5.cell HC.out.2.1 (by simp); clear hbw5 ho5)
                      | (go_at_call 28; refine HA2b.out.mono ?_; rintro x w6 ⟨rfl, hps⟩; have HPS := Lib.hid hps; clear hps))
                    go_meet
                    exact ⟨rfl, HPS.out⟩
                · have e3 : (kind == 3) = false := beq_eq_false_iff_ne.2 k3
                  go_upto_if 150 with fail
                  go_cut [150] (fun s wx => s = .bool (kind == 4 || kind == 5) ∧ wx = wc)
                  case first =>
                    by_cases k4 : kind = 4
                    · subst k4
                      go_wp2_with fail
                      go_meet
                      exact ⟨rfl, rfl⟩
                    · have e4 : (kind == 4) = false := beq_eq_false_iff_ne.2 k4
                      go_wp2_with fail
                      go_meet
                      exact ⟨by rw [e4]; rfl, rfl⟩
                  case rest =>
                    obtain ⟨rfl, hw⟩ := hcut
                    subst hw
                    clear e01 k01 k2 e2 k3 e3
                    by_cases k4 : kind = 4
                    · as_aux_lemma =>
                        subst k4
                        rw [show ((4 : Int) == 4 || (4 : Int) == 5) = true from rfl]
                        have hcr := ps_crash1 HBW.out HO.out FA Fc fts HIX.out.f HLX.out.2.2.1
                        have hc2 := fun (wx : World) (ks : List Nat) (hks : waitsD d ks) (h1 : BW w.heap.size wx p g b q cap p' sb sc wb bs q' (crashD d fts ks) js d js) (h2 : Only [] w wx) => ps_crash2 (wx := wx) (ks := ks) (dl := crashD d fts ks) h1 hks fts rfl HP.out HDN.out h2 FA Fc HIX.out.f HLX.out.2.2.1
                        rw [HNF.out] at hcr hc2
                        have HC1 := Lib.hid hcr
                        have HC2 := Lib.hid hc2
                        clear hcr hc2 y1 y2 y3
                        go_upto_region 30 with (first
                          | (go_at_call 21; refine HC1.out.mono ?_; rintro x w5 ⟨ks, hks, rfl, hbw5, ho5⟩; have HC2b := Lib.hid (HC2.out w5 ks hks hbw5 ho5); have z4 := ho5.cell HC.out.2.2.2.2 (by simp); clear hks hbw5 ho5)
                          | (go_at_call 29; refine HC2b.out.mono ?_; rintro x w6 ⟨rfl, d2, gen2, l2, hcs⟩; obtain ⟨cs1, cs2, cs3, cs4, cs5, cs6⟩ := hcs; have HO1 := Lib.hid (ps_open1 cs1 HN.out (by omega) cs2.n_ cs5 cs6 (.inr ⟨gen2, l2, cs2, cs4, cs3⟩)); have HD2 := Lib.hid cs5; clear cs1 cs2 cs3 cs4 cs5 cs6)
                          | (go_at_call 13; refine HO1.out.mono ?_; rintro x w7 ⟨u, e, rfl, hos, ho7⟩; have HOS := Lib.hid hos; have HO7 := Lib.hid ho7; clear hos ho7))
                        have HOS2 := HOS.out
                        clear HOS
                        rcases HOS2 with ⟨q2, js2, gen3, rfl, rfl, o1, o2, o3, o4, o5, o6, o7, _⟩ | ⟨rfl, rfl, o1, o2, o3, o4⟩
                        · have HO2 := Lib.hid (ps_open2a o1 HN.out o2 o3 ⟨o4, o5⟩ o6 o7 HD2.out HO7.out)
                          clear o1 o2 o3 o4 o5 o6 o7
                          go_wp2_with (first
                            | (go_at_call 25; refine HO2.out.mono ?_; rintro x w8 ⟨q4, rfl, hps⟩; have HPS := Lib.hid hps; clear hps)
                            | (go_at_call 14; refine (HM.out _ _).mono ?_; rintro x wn ⟨rfl, hwn⟩; have hwn := hwn.symm; subst hwn))
                          go_meet
                          exact ⟨rfl, HPS.out⟩
                        · have HO2 := Lib.hid (ps_open2b o1 HN.out o2 o3 o4 HD2.out HO7.out)
                          clear o1 o2 o3 o4
                          go_wp2_with (first
                            | (go_at_call 25; refine HO2.out.mono ?_; rintro x w8 ⟨rfl, hps⟩; have HPS := Lib.hid hps; clear hps)
                            | (go_at_call 14; refine (HM.out _ _).mono ?_; rintro x wn ⟨rfl, hwn⟩; have hwn := hwn.symm; subst hwn))
                          go_meet
                          exact ⟨rfl, HPS.out⟩
                    · by_cases k5 : kind = 5
                      · as_aux_lemma =>
                          subst k5
                          rw [show ((5 : Int) == 4 || (5 : Int) == 5) = true from rfl]
                          have e54 : ((5 : Int) == 4) = false := rfl
                          have HO1 := Lib.hid (ps_open1 HBW.out HN.out (by omega) HP.out.n_ HDN.out HO.out (.inl ⟨HP.out, HJL.out⟩))
                          have HD2 := HDN
                          clear y1 y2 y3 y4
                          go_upto_region 30 with (go_at_call 13; refine HO1.out.mono ?_; rintro x w7 ⟨u, e, rfl, hos, ho7⟩; have HOS := Lib.hid hos; have HO7 := Lib.hid ho7; clear hos ho7)
                          have HOS2 := HOS.out
                          clear HOS
                          rcases HOS2 with ⟨q2, js2, gen3, rfl, rfl, o1, o2, o3, o4, o5, o6, o7, _⟩ | ⟨rfl, rfl, o1, o2, o3, o4⟩
                          · have HO2 := Lib.hid (ps_open2a o1 HN.out o2 o3 ⟨o4, o5⟩ o6 o7 HD2.out HO7.out)
                            clear o1 o2 o3 o4 o5 o6 o7
                            go_wp2_with (first
                              | (go_at_call 25; refine HO2.out.mono ?_; rintro x w8 ⟨q4, rfl, hps⟩; have HPS := Lib.hid hps; clear hps)
                              | (go_at_call 14; refine (HM.out _ _).mono ?_; rintro x wn ⟨rfl, hwn⟩; have hwn := hwn.symm; subst hwn))
                            go_meet
                            exact ⟨rfl, HPS.out⟩
                          · have HO2 := Lib.hid (ps_open2b o1 HN.out o2 o3 o4 HD2.out HO7.out)
                            clear o1 o2 o3 o4
                            go_wp2_with (first
                              | (go_at_call 25; refine HO2.out.mono ?_; rintro x w8 ⟨rfl, hps⟩; have HPS := Lib.hid hps; clear hps)
                              | (go_at_call 14; refine (HM.out _ _).mono ?_; rintro x wn ⟨rfl, hwn⟩; have hwn := hwn.symm; subst hwn))
                            go_meet
                            exact ⟨rfl, HPS.out⟩
                      · as_aux_lemma =>
                          have e45 : (kind == 4 || kind == 5) = false := by
                            have a1 : (kind == 4) = false := beq_eq_false_iff_ne.2 k4
                            have a2 : (kind == 5) = false := beq_eq_false_iff_ne.2 k5
                            rw [a1, a2]
                            rfl
                          rw [e45]
                          have HPSN : Hid (PS w wc p g b cap p' sb sc wb bs n (k + 1) (.pointer (some ⟨q, 0, none⟩)) (.pointer (some ⟨q', 0, none⟩))) := Lib.hid (PS.next ⟨q, q', d, js, rfl, rfl, HBW.out, HP.out, HDN.out, HJL.out, HO.out⟩)
                          clear e45 y0 y1 y2 y3 y4 k4 k5
                          go_wp2_with fail
                          go_meet
                          exact ⟨rfl, HPSN.out⟩
        case rest =>
          as_aux_lemma =>
            obtain ⟨rfl, hps⟩ := hcut
            have HPX := Lib.hid hps
            obtain ⟨q2, q3, d2, js2, rfl, rfl, hBW2, hP2, hdn2, hl2, ho2⟩ := hps
            obtain ⟨A0, n0, c0, hbj, hlj, hgj, hnj⟩ := hBW2.rj
            obtain ⟨X3, hR3⟩ := hBW2.ref
            obtain ⟨gen3, g1, g2, g3, g4, g5⟩ := pl_half hP2
            have hnn2 := hP2.n_
            have hn8 := HN.out
            have HG := Lib.hid ((hBW2.only0 (Only.refl [] wc).drew).groups (by omega))
            have HSA : Hid (∀ wx, Only [] wc wx → ∀ AG nG cG, Lst wx AG nG js2.l → Calls Tryz.prog 16 #[.slice AG nG cG, .slice A0 n0 c0] wx fun x w' => x = .returned (.bool true) ∧ Only [] wx w') := Lib.hid (fun wx ho AG nG cG hL => by
              have := same6_any AG A0 nG n0 cG c0 js2.l js2.l wx hL (hlj.only0 ho) (by have := hL.len; omega) (by omega)
              rw [decide_eq_true rfl] at this
              exact this)
            have HGE := Lib.hid (fun wx (ho : Only [] wc wx) => (hBW2.only0 ho).gen)
            have HDO := Lib.hid (fun wx (ho : Only [] wc wx) => (hBW2.only0 ho).down)
            have HUS := Lib.hid (fun wx (ho : Only [] wc wx) => (hBW2.only0 ho).used (by omega))
            have HTK := Lib.hid (fun wx (ho : Only [] wc wx) => by
              obtain ⟨A9, n9, c9, hb9, _, hg9, _⟩ := (hBW2.only0 ho).rj
              exact rtakes_any A0 n0 c0 wx.heap.size js2.l wx (gs_only hgj ho) (by omega))
            have HRM := Lib.hid (fun wx (ho : Only [] wc wx) => (hBW2.only0 ho).room)
            have HRR := Lib.hid (fun wx (ho : Only [] wc wx) => rroom_any (hR3.only0 ho) (by omega))
            rw [g5] at HRM
            obtain ⟨gn, hgn⟩ : ∃ gn, js2.half.gen = gn := ⟨_, rfl⟩
            rw [hgn] at HGE hbj
            obtain ⟨off, hoff⟩ : ∃ off, js2.off = off := ⟨_, rfl⟩
            rw [hoff] at HDO hbj
            obtain ⟨us, hus⟩ : ∃ us, takesL js2.l = us := ⟨_, rfl⟩
            have huj : usedJ js2 = us := hus
            rw [huj] at HUS
            rw [hus] at HTK
            obtain ⟨rm, hrm⟩ : ∃ rm, roomD d2 = rm := ⟨_, rfl⟩
            rw [hrm] at HRM HRR
            have z1 : (gn != gn) = false := by simp
            have z2 : (off != off) = false := by simp
            have z3 : (us != us) = false := by simp
            have z4 : (rm != rm) = false := by simp
            clear hBW2 hP2 hdn2 hl2 ho2 hlj hgj hnj hR3 g1 g2 g3 g4 g5 hnn2 hn8 hgn hoff hus huj hrm y0 y1 y2 y3 y4 HC
            go_wp2_with fail
            have hS : wc.drew.cell? ⟨q3, 0, none⟩ = some (.pointer (some ⟨p', 0, none⟩)) ∧ wc.drew.cell? ⟨q3, 1, none⟩ = some (.int .i64 gn) ∧ wc.drew.cell? ⟨q3, 2, none⟩ = some (.slice A0 n0 c0) ∧ wc.drew.cell? ⟨q3, 3, none⟩ = some (.bool off) := ⟨hbj.cell 0, hbj.cell 1, hbj.cell 2, hbj.cell 3⟩
            clear hbj
            refine wp_region_hand (S := fun Y => Y.cell? ⟨q3, 0, none⟩ = some (.pointer (some ⟨p', 0, none⟩)) ∧ Y.cell? ⟨q3, 1, none⟩ = some (.int .i64 gn) ∧ Y.cell? ⟨q3, 2, none⟩ = some (.slice A0 n0 c0) ∧ Y.cell? ⟨q3, 3, none⟩ = some (.bool off)) (by kernel_rfl) ?_
            refine takeV 0 (.bool true) rfl rfl (by kernel_rfl) (fun Y hY => by obtain ⟨y0, y1, y2, y3⟩ := hY; go_simp) hS ?_; simp only [s0A, s0B, s0C]
            refine takeV 1 (.bool false) rfl rfl (by kernel_rfl) (fun Y hY => by obtain ⟨y0, y1, y2, y3⟩ := hY; go_simp) hS ?_; simp only [s0A, s0B, s0C]
            refine takeV 2 (.bool false) rfl rfl (by kernel_rfl) (fun Y hY => by obtain ⟨y0, y1, y2, y3⟩ := hY; go_simp) hS ?_; simp only [s0A, s0B, s0C]
            refine takeV 3 (.pointer (some ⟨q2, 0, none⟩)) rfl rfl (by kernel_rfl) (fun Y hY => by obtain ⟨y0, y1, y2, y3⟩ := hY; go_simp) hS ?_; simp only [s0A, s0B, s0C]
            refine takeV 5 (.pointer (some ⟨q3, 0, none⟩)) rfl rfl (by kernel_rfl) (fun Y hY => by obtain ⟨y0, y1, y2, y3⟩ := hY; go_simp) hS ?_; simp only [s0A, s0B, s0C]
            refine takeV 6 (.pointer (some ⟨q3, 0, none⟩)) rfl rfl (by kernel_rfl) (fun Y hY => by obtain ⟨y0, y1, y2, y3⟩ := hY; go_simp) hS ?_; simp only [s0A, s0B, s0C]
            refine takeV 7 (.pointer (some ⟨q3, 2, none⟩)) rfl rfl (by kernel_rfl) (fun Y hY => by obtain ⟨y0, y1, y2, y3⟩ := hY; go_simp) hS ?_; simp only [s0A, s0B, s0C]
            refine takeV 8 (.slice A0 n0 c0) rfl rfl (by kernel_rfl) (fun Y hY => by obtain ⟨y0, y1, y2, y3⟩ := hY; go_simp) hS ?_; simp only [s0A, s0B, s0C]
            refine callW (i := 4) rfl (by kernel_rfl) rfl (by rfl) ?_ (HG.out) ?_
            · go_simp
            rintro x w2 hgo
            obtain ⟨vG, tsG, rfl, hownG, hmapG, htsG, hoG⟩ := hgo
            obtain ⟨AG, cG, rfl, _, _, _, _⟩ := hownG.shape (by decide)
            obtain ⟨nG, hnG⟩ : ∃ nG, tsG.length = nG := ⟨_, rfl⟩
            have hLG : Lst w2 AG nG js2.l := ⟨tsG, hnG, by rw [← hnG]; exact reads_own hownG rfl, hmapG, fun t ht => (htsG t ht).1⟩
            have HLG := Lib.hid hLG
            have HOG := Lib.hid ((Only.refl [] wc).drew.trans hoG (by simp))
            rw [hnG]
            have hS2 : w2.cell? ⟨q3, 0, none⟩ = some (.pointer (some ⟨p', 0, none⟩)) ∧ w2.cell? ⟨q3, 1, none⟩ = some (.int .i64 gn) ∧ w2.cell? ⟨q3, 2, none⟩ = some (.slice A0 n0 c0) ∧ w2.cell? ⟨q3, 3, none⟩ = some (.bool off) := ⟨hoG.cell hS.1 (by simp), hoG.cell hS.2.1 (by simp), hoG.cell hS.2.2.1 (by simp), hoG.cell hS.2.2.2 (by simp)⟩
            have HSM := Lib.hid (HSA.out w2 HOG.out AG nG cG hLG)
            clear hownG hmapG htsG hoG hLG hnG
            refine ⟨_, rfl, hS2, ?_⟩
            simp only [s0A, s0B, s0C]
            refine callW (i := 9) rfl (by kernel_rfl) rfl (by rfl) ?_ (HSM.out) ?_
            · go_simp
            rintro x w3 ⟨rfl, hos⟩
            have HO3 := Lib.hid (HOG.out.trans hos (by simp))
            have hS3 : w3.cell? ⟨q3, 0, none⟩ = some (.pointer (some ⟨p', 0, none⟩)) ∧ w3.cell? ⟨q3, 1, none⟩ = some (.int .i64 gn) ∧ w3.cell? ⟨q3, 2, none⟩ = some (.slice A0 n0 c0) ∧ w3.cell? ⟨q3, 3, none⟩ = some (.bool off) := ⟨hos.cell hS2.1 (by simp), hos.cell hS2.2.1 (by simp), hos.cell hS2.2.2.1 (by simp), hos.cell hS2.2.2.2 (by simp)⟩
            clear hos
            refine ⟨_, rfl, hS3, ?_⟩
            simp only [s0A, s0B, s0C]
            refine takeV 10 (.bool false) rfl rfl (by kernel_rfl) (fun Y hY => by obtain ⟨y0, y1, y2, y3⟩ := hY; go_simp) hS3 ?_; simp only [s0A, s0B, s0C]
            refine takeV 11 (.bool false) rfl rfl (by kernel_rfl) (fun Y hY => by obtain ⟨y0, y1, y2, y3⟩ := hY; go_simp) hS3 ?_; simp only [s0A, s0B, s0C]
            refine takeV 12 (.bool false) rfl rfl (by kernel_rfl) (fun Y hY => by obtain ⟨y0, y1, y2, y3⟩ := hY; go_simp) hS3 ?_; simp only [s0A, s0B, s0C]
            refine takeV 13 (.pointer (some ⟨q2, 0, none⟩)) rfl rfl (by kernel_rfl) (fun Y hY => by obtain ⟨y0, y1, y2, y3⟩ := hY; go_simp) hS3 ?_; simp only [s0A, s0B, s0C]
            refine takeV 15 (.pointer (some ⟨q3, 0, none⟩)) rfl rfl (by kernel_rfl) (fun Y hY => by obtain ⟨y0, y1, y2, y3⟩ := hY; go_simp) hS3 ?_; simp only [s0A, s0B, s0C]
            refine takeV 16 (.pointer (some ⟨q3, 0, none⟩)) rfl rfl (by kernel_rfl) (fun Y hY => by obtain ⟨y0, y1, y2, y3⟩ := hY; go_simp) hS3 ?_; simp only [s0A, s0B, s0C]
            refine takeV 17 (.pointer (some ⟨q3, 1, none⟩)) rfl rfl (by kernel_rfl) (fun Y hY => by obtain ⟨y0, y1, y2, y3⟩ := hY; go_simp) hS3 ?_; simp only [s0A, s0B, s0C]
            refine takeV 18 (.int .i64 gn) rfl rfl (by kernel_rfl) (fun Y hY => by obtain ⟨y0, y1, y2, y3⟩ := hY; go_simp) hS3 ?_; simp only [s0A, s0B, s0C]
            refine callW (i := 14) rfl (by kernel_rfl) rfl (by rfl) ?_ (HGE.out w3 HO3.out) ?_
            · go_simp
            rintro x wn ⟨rfl, hwn⟩
            have hwn := hwn.symm
            subst hwn
            refine ⟨_, rfl, hS3, ?_⟩
            simp only [s0A, s0B, s0C]
            refine takeV 19 (.bool false) rfl rfl (by kernel_rfl) (fun Y hY => by obtain ⟨y0, y1, y2, y3⟩ := hY; go_simp) hS3 ?_; simp only [s0A, s0B, s0C]
            refine takeV 20 (.bool false) rfl rfl (by kernel_rfl) (fun Y hY => by obtain ⟨y0, y1, y2, y3⟩ := hY; go_simp) hS3 ?_; simp only [s0A, s0B, s0C]
            refine takeV 21 (.bool false) rfl rfl (by kernel_rfl) (fun Y hY => by obtain ⟨y0, y1, y2, y3⟩ := hY; go_simp) hS3 ?_; simp only [s0A, s0B, s0C]
            refine takeV 22 (.pointer (some ⟨q2, 0, none⟩)) rfl rfl (by kernel_rfl) (fun Y hY => by obtain ⟨y0, y1, y2, y3⟩ := hY; go_simp) hS3 ?_; simp only [s0A, s0B, s0C]
            refine takeV 24 (.pointer (some ⟨q3, 0, none⟩)) rfl rfl (by kernel_rfl) (fun Y hY => by obtain ⟨y0, y1, y2, y3⟩ := hY; go_simp) hS3 ?_; simp only [s0A, s0B, s0C]
            refine takeV 25 (.pointer (some ⟨q3, 0, none⟩)) rfl rfl (by kernel_rfl) (fun Y hY => by obtain ⟨y0, y1, y2, y3⟩ := hY; go_simp) hS3 ?_; simp only [s0A, s0B, s0C]
            refine takeV 26 (.pointer (some ⟨q3, 3, none⟩)) rfl rfl (by kernel_rfl) (fun Y hY => by obtain ⟨y0, y1, y2, y3⟩ := hY; go_simp) hS3 ?_; simp only [s0A, s0B, s0C]
            refine takeV 27 (.bool off) rfl rfl (by kernel_rfl) (fun Y hY => by obtain ⟨y0, y1, y2, y3⟩ := hY; go_simp) hS3 ?_; simp only [s0A, s0B, s0C]
            refine callW (i := 23) rfl (by kernel_rfl) rfl (by rfl) ?_ (HDO.out w3 HO3.out) ?_
            · go_simp
            rintro x wn ⟨rfl, hwn⟩
            have hwn := hwn.symm
            subst hwn
            refine ⟨_, rfl, hS3, ?_⟩
            simp only [s0A, s0B, s0C]
            refine takeV 28 (.bool false) rfl rfl (by kernel_rfl) (fun Y hY => by obtain ⟨y0, y1, y2, y3⟩ := hY; go_simp) hS3 ?_; simp only [s0A, s0B, s0C]
            refine takeV 29 (.bool false) rfl rfl (by kernel_rfl) (fun Y hY => by obtain ⟨y0, y1, y2, y3⟩ := hY; go_simp) hS3 ?_; simp only [s0A, s0B, s0C]
            refine takeV 30 (.bool false) rfl rfl (by kernel_rfl) (fun Y hY => by obtain ⟨y0, y1, y2, y3⟩ := hY; go_simp) hS3 ?_; simp only [s0A, s0B, s0C]
            refine takeV 31 (.pointer (some ⟨q2, 0, none⟩)) rfl rfl (by kernel_rfl) (fun Y hY => by obtain ⟨y0, y1, y2, y3⟩ := hY; go_simp) hS3 ?_; simp only [s0A, s0B, s0C]
            refine takeV 33 (.pointer (some ⟨q3, 0, none⟩)) rfl rfl (by kernel_rfl) (fun Y hY => by obtain ⟨y0, y1, y2, y3⟩ := hY; go_simp) hS3 ?_; simp only [s0A, s0B, s0C]
            refine takeV 34 (.pointer (some ⟨q3, 0, none⟩)) rfl rfl (by kernel_rfl) (fun Y hY => by obtain ⟨y0, y1, y2, y3⟩ := hY; go_simp) hS3 ?_; simp only [s0A, s0B, s0C]
            refine takeV 35 (.pointer (some ⟨q3, 2, none⟩)) rfl rfl (by kernel_rfl) (fun Y hY => by obtain ⟨y0, y1, y2, y3⟩ := hY; go_simp) hS3 ?_; simp only [s0A, s0B, s0C]
            refine takeV 36 (.slice A0 n0 c0) rfl rfl (by kernel_rfl) (fun Y hY => by obtain ⟨y0, y1, y2, y3⟩ := hY; go_simp) hS3 ?_; simp only [s0A, s0B, s0C]
            refine callW (i := 32) rfl (by kernel_rfl) rfl (by rfl) ?_ (HUS.out w3 HO3.out) ?_
            · go_simp
            rintro x wn ⟨rfl, hwn⟩
            have hwn := hwn.symm
            subst hwn
            refine ⟨_, rfl, hS3, ?_⟩
            simp only [s0A, s0B, s0C]
            refine callW (i := 37) rfl (by kernel_rfl) rfl (by rfl) ?_ (HTK.out w3 HO3.out) ?_
            · go_simp
            rintro x wn ⟨rfl, hwn⟩
            have hwn := hwn.symm
            subst hwn
            refine ⟨_, rfl, hS3, ?_⟩
            simp only [s0A, s0B, s0C]
            refine takeV 38 (.bool false) rfl rfl (by kernel_rfl) (fun Y hY => by obtain ⟨y0, y1, y2, y3⟩ := hY; go_simp) hS3 ?_; simp only [s0A, s0B, s0C]
            refine takeV 39 (.bool false) rfl rfl (by kernel_rfl) (fun Y hY => by obtain ⟨y0, y1, y2, y3⟩ := hY; go_simp) hS3 ?_; simp only [s0A, s0B, s0C]
            refine takeV 40 (.bool false) rfl rfl (by kernel_rfl) (fun Y hY => by obtain ⟨y0, y1, y2, y3⟩ := hY; go_simp) hS3 ?_; simp only [s0A, s0B, s0C]
            refine takeV 41 (.pointer (some ⟨q2, 0, none⟩)) rfl rfl (by kernel_rfl) (fun Y hY => by obtain ⟨y0, y1, y2, y3⟩ := hY; go_simp) hS3 ?_; simp only [s0A, s0B, s0C]
            refine takeV 43 (.pointer (some ⟨p', 0, none⟩)) rfl rfl (by kernel_rfl) (fun Y hY => by obtain ⟨y0, y1, y2, y3⟩ := hY; go_simp) hS3 ?_; simp only [s0A, s0B, s0C]
            refine callW (i := 42) rfl (by kernel_rfl) rfl (by rfl) ?_ (HRM.out w3 HO3.out) ?_
            · go_simp
            rintro x wn ⟨rfl, hwn⟩
            have hwn := hwn.symm
            subst hwn
            refine ⟨_, rfl, hS3, ?_⟩
            simp only [s0A, s0B, s0C]
            refine callW (i := 44) rfl (by kernel_rfl) rfl (by rfl) ?_ (HRR.out w3 HO3.out) ?_
            · go_simp
            rintro x wn ⟨rfl, hwn⟩
            have hwn := hwn.symm
            subst hwn
            refine ⟨_, rfl, hS3, ?_⟩
            simp only [s0A, s0B, s0C]
            refine takeV 45 (.bool false) rfl rfl (by kernel_rfl) (fun Y hY => by obtain ⟨y0, y1, y2, y3⟩ := hY; go_simp) hS3 ?_; simp only [s0A, s0B, s0C]
            refine takeV 46 (.bool false) rfl rfl (by kernel_rfl) (fun Y hY => by obtain ⟨y0, y1, y2, y3⟩ := hY; go_simp) hS3 ?_; simp only [s0A, s0B, s0C]
            refine wpAnyH_done (by kernel_rfl) ?_ _
            clear hS hS2 hS3
            clear z1 z2 z3 z4
            go_wp2_with fail
            go_roundw
            case measure => simp [Go.RowKit.intOf]; omega
            case rel =>
              obtain ⟨q4, q5, d4, js4, h1, h2, h3, h4, h5, h6, h7⟩ := HPX.out
              exact ⟨k + 1, by omega, by go_num, q4, q5, d4, js4, h1, h2, h3.only0 HO3.out, h4, h5, h6, h7.trans HO3.out (by simp)⟩
      · as_aux_lemma =>
          obtain rfl : k = m := by omega
          have d1 : decide ((k : Int) < (k : Int)) = false := decide_eq_false (by omega)
          have d1' : decide (k < k) = false := decide_eq_false (by omega)
          obtain ⟨WW, hdw⟩ := hBW.disk
          obtain ⟨XX, hrw⟩ := hBW.ref
          have HDW := Lib.hid hdw
          have HRW := Lib.hid hrw
          have HOW := Lib.hid ho
          clear hdw hrw ho hBW hP hdn hjl
          obtain ⟨wv, hwv⟩ : ∃ wv, wv = wr := ⟨_, rfl⟩
          subst hwv
          go_wp2_with fail
          go_loopw [17] (fun jv wr => ∃ j : Nat, j ≤ n ∧ jv = .int .i64 j ∧ Only [] wv wr) (fun jv _ => n - (Go.RowKit.intOf jv).toNat)
          case atStart => exact ⟨0, by omega, rfl, Only.refl _ _⟩
          case round =>
            obtain ⟨j, hj, rfl, hoj⟩ := hrel
            by_cases hjl : j < n
            · have f1 : decide ((j : Int) < (n : Int)) = true := decide_eq_true (by omega)
              have f1' : decide (j < n) = true := decide_eq_true hjl
              have HRL := Lib.hid (readL_any (HDW.out.only0 hoj) (HRW.out.only0 hoj) (j : Int))
              have HOJ := Lib.hid hoj
              clear hoj
              go_wp2_with (go_at_call 35; refine HRL.out.mono ?_; rintro x w9 ⟨rfl, ho9⟩; have HO9 := Lib.hid ho9; clear ho9)
              go_roundw
              case measure => simp [Go.RowKit.intOf]; omega
              case rel => exact ⟨j + 1, by omega, by go_num, HOJ.out.trans HO9.out (by simp)⟩
            · obtain rfl : j = n := by omega
              have f1 : decide ((j : Int) < (j : Int)) = false := decide_eq_false (by omega)
              have f1' : decide (j < j) = false := decide_eq_false (by omega)
              have HOJ := Lib.hid hoj
              clear hoj
              go_wp2_with fail
              go_ret
              exact ⟨rfl, HOW.out.trans HOJ.out (by simp)⟩
end
end Go.Proofs.YthgfmoogagldmaaGreat.RefD
