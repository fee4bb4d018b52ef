/- A list of functions out of bytes, by the document. PRINTED by wip/gen_rdecode.py. -/
import Derived.Test.YtbeenfkmnchhbaaExportRBytes
import Derived.Test.YtbeenfkmnchhbaaCodecRefR
import Derived.Deep.RegionLaw
namespace Go.Proofs.Ytbeenfkmnchhbaa.Export
open Go.RowKit Codec
set_option linter.unusedVariables false
set_option maxRecDepth 100000
theorem dec_ref (l : List UInt8) : dec l = if (decQ l).2.isSome = true ∧ rightD (decQ l).1 = true ∧ two (decQ l).1.length ++ (decQ l).1.flatMap layD = l then some (decQ l).1 else none := by
  by_cases h : (decQ l).2.isSome = true ∧ rightD (decQ l).1 = true ∧ two (decQ l).1.length ++ (decQ l).1.flatMap layD = l
  · rw [if_pos h]
    have := dec_back _ h.2.1
    rwa [h.2.2] at this
  · rw [if_neg h]
    cases hd : dec l with
    | none => rfl
    | some L =>
      exfalso
      have h1 := dec_read l L hd
      unfold dec at hd
      split at hd
      · rename_i hc
        injection hd with hd
        rw [← hd] at h1
        exact h ⟨by rw [hc.1]; rfl, hc.2, h1.1.symm⟩
      · cases hd
theorem rrd_bad {w : World} {p : Nat} {st : Option (List UInt8)} (h : RRd w p st) : w.cell? ⟨p, 1, none⟩ = some (.bool st.isNone) := by
  obtain ⟨A, n, c, hb, _⟩ := h
  exact hb.cell 1
def Halt (p : Prop) : Prop := p
theorem halt {p : Prop} (h : Halt p) : p := h
set_option maxHeartbeats 4000000 in
theorem rdecode_any (A : Option Addr) (n c : Nat) (l : List UInt8) (w : World) (hr : Bytes w w.heap.size A n l) (hnc : n ≤ c) (hcm : c ≤ maxLen) (hn : n ≤ 100000000) :
    Calls Try.prog 29 #[.slice A n c] w fun x w' => decOut l w x w' := by
  have hq : decQ l = rss (rcount 32 (some l)) (rcounted 32 (some l)) := rfl
  have HQ := Lib.hid hq
  have hM := rcount_le 32 (some l)
  have hR0 : RRd (w.alloc (.cells #[.slice A n c, .bool false] 84)) w.heap.size (some l) := ⟨A, n, c, Blk.new _ _ _, hnc, hcm, hr.only ((Only.refl [] _).alloc _) (by simp)⟩
  have hC := rref_count w.heap.size 32 (some l) _ hR0
  have HR := Lib.hid hr
  clear hq hR0 hr
  generalize rcounted 32 (some l) = st1 at *
  generalize rcount 32 (some l) = M at *
  have HC := Lib.hid hC
  clear hC
  go_enter Try.func29, Try.ntmps29
  go_wp2_with (go_at_call 56; refine HC.out.mono ?_; rintro x w3 ⟨rfl, hR3, ho3⟩)
  have ho4 : Only [] w w3 := ((Only.refl _ w).alloc _).trans ho3 (by simp)
  have hsz3 := ho3.size
  rw [World.size_alloc] at hsz3
  obtain ⟨p, hp⟩ : ∃ p, w.heap.size = p := ⟨_, rfl⟩
  rw [hp] at hsz3 hR3
  rw [hp]
  have HP := Lib.hid hp
  clear ho3 HC hp
  go_loopw [5, 7] (fun v i wr => ∃ (j : Nat) (ss : List Sg), j ≤ M ∧ i = .int .i64 j ∧ RRd wr p (rss j st1).2 ∧ OwnR 96 3 wr (p + 1) v j (ss.map Sg.row) ∧ (∀ s ∈ ss, ParAt wr (p + 1) s ∧ s.n ≤ 4) ∧ ss.map Sg.data = (rss j st1).1 ∧ Only [] w wr ∧ p + 1 ≤ wr.heap.size) (fun _ i _ => M - (intOf i).toNat)
  case atStart => exact ⟨0, [], by omega, rfl, hR3, OwnR.nil_ _ _ _ _, by simp, rfl, ho4, hsz3⟩
  case round =>
    clear hR3 ho4 hsz3
    obtain ⟨wo, rfl⟩ : ∃ wo, wo = wr := ⟨wr, rfl⟩
    obtain ⟨j, ss, hj, rfl, hRd, hv, hpar, hdata, ho, hBs⟩ := hrel
    have hbad := rrd_bad hRd
    by_cases hlt : j < M
    · have e1 : decide ((j : Int) < (M : Int)) = true := decide_eq_true (by omega)
      cases hst : (rss j st1).2 with
      | none =>
        rw [hst] at hRd hbad
        have hbadq := rss_bad st1 j hst (M - j)
        rw [show j + (M - j) = M by omega] at hbadq
        have hdn : dec l = none := by
          rw [dec_ref, if_neg]
          rw [HQ.out, hbadq]
          exact fun h => by cases h.1
        have HDN := Lib.hid hdn
        have HO := Lib.hid ho
        have hbd : wo.drew.cell? ⟨p, 1, none⟩ = some (.bool true) := hbad
        have hbad' : wo.cell? ⟨p, 1, none⟩ = some (.bool true) := hbad
        clear hbadq hdn hst hdata hpar hv hRd hBs ho hbad
        go_wp2_with fail
        refine wp_region_held_drew (S := fun w' => w'.cell? ⟨p, 1, none⟩ = some (.bool true)) (by kernel_rfl) hbd (fun hHeld => ?_)
        refine wpAnyH_take (i := 0) (oi := ⟨some 54, _, _, _, _, _⟩) (v := ?_) rfl (by kernel_rfl) (by kernel_rfl) (by kernel_rfl) (fun _ _ _ h => h) (Or.inl ⟨by rfl, ?_⟩) (by assumption) ?_
        rotate_left
        focus (intro w' hS; (try go_simp); (try with_reducible rfl))
        simp only [Act.put, List.setIfInBounds_toArray, List.set_cons_zero, List.set_cons_succ]
        refine wpAnyH_take (i := 1) (oi := ⟨some 55, _, _, _, _, _⟩) (v := ?_) rfl (by kernel_rfl) (by kernel_rfl) (by kernel_rfl) (fun _ _ _ h => h) (Or.inl ⟨by rfl, ?_⟩) (by assumption) ?_
        rotate_left
        focus (intro w' hS; (try go_simp); (try with_reducible rfl))
        simp only [Act.put, List.setIfInBounds_toArray, List.set_cons_zero, List.set_cons_succ]
        refine wpAnyH_take (i := 2) (oi := ⟨some 56, _, _, _, _, _⟩) (v := ?_) rfl (by kernel_rfl) (by kernel_rfl) (by kernel_rfl) (fun _ _ _ h => h) (Or.inl ⟨by rfl, ?_⟩) (by assumption) ?_
        rotate_left
        focus (intro w' hS; (try go_simp); (try with_reducible rfl))
        simp only [Act.put, List.setIfInBounds_toArray, List.set_cons_zero, List.set_cons_succ]
        refine wpAnyH_take (i := 3) (oi := ⟨some 57, _, _, _, _, _⟩) (v := ?_) rfl (by kernel_rfl) (by kernel_rfl) (by kernel_rfl) (fun _ _ _ h => h) (Or.inl ⟨by rfl, ?_⟩) (by assumption) ?_
        rotate_left
        focus (intro w' hS; (try go_simp); (try with_reducible rfl))
        simp only [Act.put, List.setIfInBounds_toArray, List.set_cons_zero, List.set_cons_succ]
        refine wpAnyH_take (i := 4) (oi := ⟨some 58, _, _, _, _, _⟩) (v := ?_) rfl (by kernel_rfl) (by kernel_rfl) (by kernel_rfl) (fun _ _ _ h => h) (Or.inl ⟨by rfl, ?_⟩) (by assumption) ?_
        rotate_left
        focus (intro w' hS; (try go_simp); (try with_reducible rfl))
        simp only [Act.put, List.setIfInBounds_toArray, List.set_cons_zero, List.set_cons_succ]
        refine wpAnyH_take (i := 5) (oi := ⟨some 59, _, _, _, _, _⟩) (v := undef) rfl (by kernel_rfl) (by kernel_rfl) (by kernel_rfl) (fun _ _ _ h => h) (Or.inr ⟨by rfl, rfl⟩) (by assumption) ?_
        simp only [Act.put, List.setIfInBounds_toArray, List.set_cons_zero, List.set_cons_succ]
        refine wpAnyH_take (i := 6) (oi := ⟨some 60, _, _, _, _, _⟩) (v := undef) rfl (by kernel_rfl) (by kernel_rfl) (by kernel_rfl) (fun _ _ _ h => h) (Or.inr ⟨by rfl, rfl⟩) (by assumption) ?_
        simp only [Act.put, List.setIfInBounds_toArray, List.set_cons_zero, List.set_cons_succ]
        refine wpAnyH_take (i := 7) (oi := ⟨some 61, _, _, _, _, _⟩) (v := undef) rfl (by kernel_rfl) (by kernel_rfl) (by kernel_rfl) (fun _ _ _ h => h) (Or.inr ⟨by rfl, rfl⟩) (by assumption) ?_
        simp only [Act.put, List.setIfInBounds_toArray, List.set_cons_zero, List.set_cons_succ]
        refine wpAnyH_take (i := 8) (oi := ⟨some 62, _, _, _, _, _⟩) (v := ?_) rfl (by kernel_rfl) (by kernel_rfl) (by kernel_rfl) (fun _ _ _ h => h) (Or.inl ⟨by rfl, ?_⟩) (by assumption) ?_
        rotate_left
        focus (intro w' hS; (try go_simp); (try with_reducible rfl))
        simp only [Act.put, List.setIfInBounds_toArray, List.set_cons_zero, List.set_cons_succ]
        refine wpAnyH_take (i := 9) (oi := ⟨some 63, _, _, _, _, _⟩) (v := ?_) rfl (by kernel_rfl) (by kernel_rfl) (by kernel_rfl) (fun _ _ _ h => h) (Or.inl ⟨by rfl, ?_⟩) (by assumption) ?_
        rotate_left
        focus (intro w' hS; (try go_simp); (try with_reducible rfl))
        simp only [Act.put, List.setIfInBounds_toArray, List.set_cons_zero, List.set_cons_succ]
        refine wpAnyH_take (i := 10) (oi := ⟨some 64, _, _, _, _, _⟩) (v := undef) rfl (by kernel_rfl) (by kernel_rfl) (by kernel_rfl) (fun _ _ _ h => h) (Or.inr ⟨by rfl, rfl⟩) (by assumption) ?_
        simp only [Act.put, List.setIfInBounds_toArray, List.set_cons_zero, List.set_cons_succ]
        refine wpAnyH_take (i := 11) (oi := ⟨some 65, _, _, _, _, _⟩) (v := undef) rfl (by kernel_rfl) (by kernel_rfl) (by kernel_rfl) (fun _ _ _ h => h) (Or.inr ⟨by rfl, rfl⟩) (by assumption) ?_
        simp only [Act.put, List.setIfInBounds_toArray, List.set_cons_zero, List.set_cons_succ]
        refine wpAnyH_take (i := 12) (oi := ⟨some 66, _, _, _, _, _⟩) (v := undef) rfl (by kernel_rfl) (by kernel_rfl) (by kernel_rfl) (fun _ _ _ h => h) (Or.inr ⟨by rfl, rfl⟩) (by assumption) ?_
        simp only [Act.put, List.setIfInBounds_toArray, List.set_cons_zero, List.set_cons_succ]
        refine wpAnyH_take (i := 13) (oi := ⟨some 67, _, _, _, _, _⟩) (v := undef) rfl (by kernel_rfl) (by kernel_rfl) (by kernel_rfl) (fun _ _ _ h => h) (Or.inr ⟨by rfl, rfl⟩) (by assumption) ?_
        simp only [Act.put, List.setIfInBounds_toArray, List.set_cons_zero, List.set_cons_succ]
        refine wpAnyH_take (i := 14) (oi := ⟨some 68, _, _, _, _, _⟩) (v := undef) rfl (by kernel_rfl) (by kernel_rfl) (by kernel_rfl) (fun _ _ _ h => h) (Or.inr ⟨by rfl, rfl⟩) (by assumption) ?_
        simp only [Act.put, List.setIfInBounds_toArray, List.set_cons_zero, List.set_cons_succ]
        refine wpAnyH_take (i := 15) (oi := ⟨some 69, _, _, _, _, _⟩) (v := undef) rfl (by kernel_rfl) (by kernel_rfl) (by kernel_rfl) (fun _ _ _ h => h) (Or.inr ⟨by rfl, rfl⟩) (by assumption) ?_
        simp only [Act.put, List.setIfInBounds_toArray, List.set_cons_zero, List.set_cons_succ]
        refine wpAnyH_take (i := 16) (oi := ⟨some 70, _, _, _, _, _⟩) (v := ?_) rfl (by kernel_rfl) (by kernel_rfl) (by kernel_rfl) (fun _ _ _ h => h) (Or.inl ⟨by rfl, ?_⟩) (by assumption) ?_
        rotate_left
        focus (intro w' hS; (try go_simp); (try with_reducible rfl))
        simp only [Act.put, List.setIfInBounds_toArray, List.set_cons_zero, List.set_cons_succ]
        refine wpAnyH_done (by kernel_rfl) ?_ _
        go_wp2_with fail
        exact bodyPost_ret (v := .tuple #[.slice none 0 0, .int .i64 5]) (by simp [results, Try.results29, go_sem]) rfl (by unfold decOut; rw [HDN.out]; exact ⟨none, 0, 0, [], rfl, Sgs.nil_ _, Nat.le_refl _, by simp [maxLen], rfl, HO.out.drew⟩)
      | some left =>
        rw [hst] at hRd hbad
        have hbad' : wo.cell? ⟨p, 1, none⟩ = some (.bool false) := hbad
        have hnext : rss (j + 1) st1 = ((rss j st1).1 ++ [rsd (some left)], rleft (some left)) := by show ((rss j st1).1 ++ [rsd (rss j st1).2], rleft (rss j st1).2) = _; rw [hst]
        have HNX := Lib.hid hnext
        have HDATA := Lib.hid hdata
        have hle : ∀ c ∈ (rpar (some left)).1, c ≤ 2 := rps_le _ _
        have HLE := Lib.hid hle
        have HSD : Hid (rsd (some left) = (str (rname (some left)), (rpar (some left)).1, rres (some left))) := rfl
        have HX : Hid (rnum (some left) = rcount 4 (rtexted 16 (some left)) ∧ rpar (some left) = rps (rnum (some left)) (rcounted 4 (rtexted 16 (some left))) ∧ rname (some left) = rtext 16 (some left)) := ⟨rfl, rfl, rfl⟩
        have hm4 := rcount_le 4 (rtexted 16 (some left))
        have htx := rref_text p 16 (some left) wo hRd
        have hct := fun w' h => rref_count p 4 (rtexted 16 (some left)) w' h
        have HTX := Lib.hid htx
        have HCT := Lib.hid hct
        clear hnext hdata hst hle hbad htx hct hRd
        obtain ⟨lA, lc, rfl, _⟩ := hv.shape (by decide)
        have HPAR := Lib.hid hpar
        have HO := Lib.hid ho
        have HV := Lib.hid hv
        clear hpar ho hv
        go_wp2_with (first
          | (go_at_call 73; refine HTX.out.mono ?_; rintro x w5 ⟨rfl, hR5, ho5⟩; have hs5 := ho5.size)
          | (go_at_call 56; refine (HCT.out _ (hR5.later ((Only.refl [] w5).alloc _) (by simp))).mono ?_; rintro x w6 ⟨rfl, hR6, ho6⟩))
        have hG0 := Blk.new w5 96 #[.string (str (rtext 16 (some left))), .slice none 0 0, .int .u8 0]
        have hG1 := hG0.only ho6 (by simp; omega)
        have hob : Only [p] wo w6 := (ho5.alloc _).trans ho6 (fun g hg => .inl hg)
        have hs6 := ho6.size
        rw [World.size_alloc] at hs6
        clear hG0 ho5 ho6 hR5 HTX HCT
        generalize rtext 16 (some left) = nm at *
        generalize rcounted 4 (rtexted 16 (some left)) = st3 at *
        generalize rcount 4 (rtexted 16 (some left)) = M2 at *
        obtain ⟨G, hGz⟩ : ∃ G, w5.heap.size = G := ⟨_, rfl⟩
        rw [hGz] at hG1 hs5 hs6
        rw [hGz]
        clear hGz
        go_loopw [10] (fun i wx => ∃ (k : Nat) (v : Value), k ≤ M2 ∧ i = .int .i64 k ∧ RRd wx p (rps k st3).2 ∧ Blk wx G 96 #[.string (str nm), v, .int .u8 0] ∧ OwnR 94 1 wx (G + 1) v k ((rps k st3).1.map prow) ∧ Only [p] wo wx) (fun i _ => M2 - (intOf i).toNat)
        case atStart => exact ⟨0, _, by omega, rfl, hR6, hG1, OwnR.nil_ _ _ _ _, hob⟩
        case round =>
          obtain ⟨k, v, hk, rfl, hRd, hG, hv, ho⟩ := hrel
          clear hR6 hG1 hob
          have hGl := hG.lt
          by_cases hltk : k < M2
          · have e5 : decide ((k : Int) < (M2 : Int)) = true := decide_eq_true (by omega)
            have hps : rps (k + 1) st3 = ((rps k st3).1 ++ [rcount 2 (rps k st3).2], rcounted 2 (rps k st3).2) := rfl
            have HPS := Lib.hid hps
            clear hps
            generalize rps k st3 = q at *
            obtain ⟨ql, qs⟩ := q
            simp only at hRd hv HPS
            have hc2 := rcount_le 2 qs
            have hRdd : RRd wr.drew p qs := hRd
            have hcall := rref_count p 2 qs wr.drew hRdd
            generalize rcount 2 qs = cn at *
            have e2 : IntKind.u8.wrap (cn : Int) = (cn : Int) := IntWalk.u8_in _ (by omega)
            have hlv := hv.lt
            have HVV := Lib.hid hv.drew
            have HGG := Lib.hid hG.drew
            have HOO := Lib.hid ho
            have gd1 : wr.drew.cell? ⟨G, 1, none⟩ = some v := hG.drew.cell 1
            clear hv hG ho hRd hRdd
            go_wp2_with fail
            go_region_law (first
              | (go_simp; go_at_call 56; (refine hcall.mono ?_; rintro x wc ⟨rfl, hRc, hoc⟩; have hGc := HGG.out.only hoc (by simp; omega); have hvc := HVV.out.only hoc (fun g hg => by have := (hlv g hg).1; simp; omega); have gc1 : wc.cell? ⟨G, 1, none⟩ = some v := hGc.cell 1; have gc2 : (wc.alloc (.cells #[.int .u8 (cn : Int)] 94)).cell? ⟨G, 1, none⟩ = some v := (hGc.alloc _).cell 1; have hsc := hoc.size; have hszd : wr.drew.heap.size = wr.heap.size := rfl))
              | (refine step_append1 (w := wc) rfl (.tmp 39) (.tmp 43) 93 rfl Try.underlying93 typ_info rfl (by decide) rfl hvc rfl rfl (row := prow cn) rfl rfl (by intro u hu; rw [List.mem_singleton.1 hu]; rfl) (by omega) (by unfold maxLen; omega) (by omega) ?_; intro v' wd hE; have hGd := hGc.only hE.only (row_ne' hvc G hGc (by decide)); have cd : wd.cell? ⟨G, 1, none⟩ = some v := hGd.cell 1; have fd := hGd.frozen 1; obtain ⟨A', cap', rfl, _⟩ := hE.own.shape (by decide)))
            all_goals
              have hoX := (HOO.out.drew.trans hoc (fun g hg => .inl hg)).trans hE.only (fun g hg => .inr (by have := (hlv g hg).1; omega))
              have hRX := hRc.later hE.only (fun g hg => by have := (hlv g hg).1; omega)
              have hRY := fun u => hRX.later ((Only.refl [G] wd).setCell (p := ⟨G, 1, none⟩) (.inl (by simp)) u) (by simp; omega)
              have hGY := hGd.set_ 1
              have hvY := fun u => hE.own.only ((Only.refl [G] wd).setCell (p := ⟨G, 1, none⟩) (.inl (by simp)) u) (fun g hg hm => by
                rw [List.mem_singleton.1 hm] at hg
                exact row_ne' hE.own G hGd (by decide) hg)
              have hoY := fun u => hoX.setCell (p := ⟨G, 1, none⟩) (.inr hs5) u
              have HA := Lib.hid (And.intro hRY (And.intro hGY (And.intro hvY hoY)))
              clear hRY hGY hvY hoY hoX hRX hE
              go_wp2_with fail
              go_roundw
              case rel =>
                obtain ⟨z1, z2, z4, z5⟩ := HA.out
                refine ⟨k + 1, _, by omega, by go_num, ?_, z2 _, ?_, z5 _⟩
                · rw [HPS.out]; exact z1 _
                · rw [HPS.out, List.map_append]; exact z4 _
              case measure => simp [intOf]; omega
          · obtain rfl : k = M2 := by omega
            have e5 : decide ((k : Int) < (k : Int)) = false := decide_eq_false (by omega)
            obtain ⟨hx1, hx2, hx3⟩ := HX.out
            have hres := rref_count p 2 (rpar (some left)).2 wr (by rw [hx2, hx1]; exact hRd)
            have hrr : rcount 2 (rpar (some left)).2 = rres (some left) := rfl
            have hrl : rcounted 2 (rpar (some left)).2 = rleft (some left) := rfl
            rw [hrr, hrl] at hres
            have hc2 : rres (some left) ≤ 2 := rcount_le 2 _
            rw [← hx1, ← hx2] at hv
            rw [hx1] at hv
            rw [hx3] at HSD
            clear hx1 hx2 hx3 hrr hrl HX hRd
            generalize rres (some left) = rs at *
            generalize (rpar (some left)).1 = pl at *
            have e2 : IntKind.u8.wrap (rs : Int) = (rs : Int) := IntWalk.u8_in _ (by omega)
            obtain ⟨pA, pc, rfl, _⟩ := hv.shape (by decide)
            have hlp := hv.lt
            have hll := HV.out.lt
            have HRES := Lib.hid hres
            have HPV := Lib.hid hv
            have HGV := Lib.hid hG
            have HOO := Lib.hid ho
            clear hres hv hG ho
            go_wp2_with (first
              | (go_at_call 56; refine HRES.out.mono ?_; rintro x wc ⟨rfl, hRc, hoc⟩; have hGd := HGV.out.only hoc (by simp; omega); have g0 : wc.cell? ⟨G, 0, none⟩ = some (.string (str nm)) := hGd.cell 0; have g1 : wc.cell? ⟨G, 1, none⟩ = some (.slice pA k pc) := hGd.cell 1; have g2 : wc.cell? ⟨G, 2, none⟩ = some (.int .u8 0) := hGd.cell 2; have f2 := hGd.frozen 2; have hoX : Only [p] wo (wc.setCell ⟨G, 2, none⟩ (.int .u8 (rs : Int))) := (HOO.out.trans hoc (fun g hg => .inl hg)).setCell (p := ⟨G, 2, none⟩) (.inr hs5) _; have hv8 := HV.out.only hoX (fun g hg => by have := (hll g hg).1; simp; omega); have hs8 := hoX.size)
              | (at_builtin; refine halt ?_))
            unfold Halt
            refine wpList_append1 (w := wc.setCell ⟨G, 2, none⟩ (.int .u8 (rs : Int))) rfl (.tmp 50) (.tmp 52) 43 rfl Try.underlying43 sig_info rfl (by decide) rfl hv8 rfl (by simp [World.setCell]) (row := [.string (str nm), .slice pA k pc, .int .u8 (rs : Int)]) rfl rfl (by intro u hu; simp at hu; rcases hu with rfl | rfl | rfl <;> rfl) (by omega) (by unfold maxLen; omega) (by omega) ?_
            intro v' w9 hE
            have hcr : ((UInt8.ofNat rs).toNat : Int) = (rs : Int) := by rw [UInt8.toNat_ofNat', Nat.mod_eq_of_lt (by omega)]
            have hrow : [Value.string (str nm), .slice pA k pc, .int .u8 (rs : Int)] = Sg.row ⟨str nm, pA, k, pc, pl.map UInt8.ofNat, UInt8.ofNat rs⟩ := by
              unfold Sg.row
              rw [hcr]
            have hoG : Only [G] wc (wc.setCell ⟨G, 2, none⟩ (.int .u8 (rs : Int))) := (Only.refl [G] wc).setCell (p := ⟨G, 2, none⟩) (.inl (by simp)) _
            have hp1 := HPV.out.only hoc (fun g hg => by have := (hlp g hg).1; simp; omega)
            have hp2 := hp1.only hoG (fun g hg hm => by
              rw [List.mem_singleton.1 hm] at hg
              exact row_ne' hp1 G hGd (by decide) hg)
            have hdis : ∀ (x : Sg), ParAt (wc.setCell ⟨G, 2, none⟩ (.int .u8 (rs : Int))) (p + 1) x → ParAt w9 (p + 1) x := fun x hx => hx.only hE.only (fun g hg hm => by
              obtain ⟨cs, hb⟩ := row_blk_t hx g hg
              exact row_ne' hv8 g hb (by decide) hm)
            have hnewp : ParAt w9 (p + 1) ⟨str nm, pA, k, pc, pl.map UInt8.ofNat, UInt8.ofNat rs⟩ := by
              refine hdis _ ?_
              unfold ParAt
              simp only
              rw [← prow_B8 pl HLE.out]
              exact hp2.mono (by omega)
            have hRd9 := (hRc.later hoG (by simp; omega)).later hE.only (fun g hg => by have := (hll g hg).1; omega)
            have ho9 := (HO.out.trans hoX (by have := HP.out; simp; omega)).trans hE.only (fun g hg => .inr (by have := (hll g hg).1; have := HP.out; omega))
            have hown := hE.own
            rw [hrow] at hown
            have hsz9 := hE.only.size
            have HALL := Lib.hid (And.intro hRd9 (And.intro ho9 (And.intro hown hnewp)))
            have HOLD : Hid (∀ s ∈ ss, ParAt w9 (p + 1) s ∧ s.n ≤ 4) := fun s hs => ⟨hdis s ((HPAR.out s hs).1.only hoX (fun g hg => by have := (OwnR.lt (HPAR.out s hs).1 g hg).1; simp; omega)), (HPAR.out s hs).2⟩
            clear hRd9 ho9 hown hnewp hdis hp2 hp1 hoG hcr hrow hE hv8
            go_wp2_with fail
            go_roundw
            case rel =>
              obtain ⟨q1, q2, q3, q4⟩ := HALL.out
              refine ⟨j + 1, ss ++ [⟨str nm, pA, k, pc, pl.map UInt8.ofNat, UInt8.ofNat rs⟩], by omega, by go_num, ?_, ?_, ?_, ?_, q2, by omega⟩
              · rw [HNX.out]; exact q1
              · rw [List.map_append]; exact q3
              · intro s hs
                rcases List.mem_append.1 hs with hs | hs
                · exact HOLD.out s hs
                · rw [List.mem_singleton.1 hs]; exact ⟨q4, hm4⟩
              · rw [List.map_append, HNX.out, HDATA.out, HSD.out]
                show _ ++ [Sg.data _] = _
                unfold Sg.data
                simp only
                rw [ofNat_back pl HLE.out, UInt8.toNat_ofNat', Nat.mod_eq_of_lt (show rs < 2 ^ 8 by omega)]
            case measure => simp [intOf]; omega
    · obtain rfl : j = M := by omega
      have e1 : decide ((j : Int) < (j : Int)) = false := decide_eq_false (by omega)
      cases hst : (rss j st1).2 with
      | none =>
        rw [hst] at hbad
        have hdn : dec l = none := by
          rw [dec_ref, if_neg]
          rw [HQ.out, hst]
          exact fun h => by cases h.1
        have HDN := Lib.hid hdn
        have HO := Lib.hid ho
        have hbd : wo.drew.cell? ⟨p, 1, none⟩ = some (.bool true) := hbad
        clear hdn hst hdata hpar hv hRd hBs ho hbad
        go_wp2_with fail
        refine wp_region_held_drew (S := fun w' => w'.cell? ⟨p, 1, none⟩ = some (.bool true)) (by kernel_rfl) hbd (fun hHeld => ?_)
        refine wpAnyH_take (i := 0) (oi := ⟨some 54, _, _, _, _, _⟩) (v := ?_) rfl (by kernel_rfl) (by kernel_rfl) (by kernel_rfl) (fun _ _ _ h => h) (Or.inl ⟨by rfl, ?_⟩) (by assumption) ?_
        rotate_left
        focus (intro w' hS; (try go_simp); (try with_reducible rfl))
        simp only [Act.put, List.setIfInBounds_toArray, List.set_cons_zero, List.set_cons_succ]
        refine wpAnyH_take (i := 1) (oi := ⟨some 55, _, _, _, _, _⟩) (v := ?_) rfl (by kernel_rfl) (by kernel_rfl) (by kernel_rfl) (fun _ _ _ h => h) (Or.inl ⟨by rfl, ?_⟩) (by assumption) ?_
        rotate_left
        focus (intro w' hS; (try go_simp); (try with_reducible rfl))
        simp only [Act.put, List.setIfInBounds_toArray, List.set_cons_zero, List.set_cons_succ]
        refine wpAnyH_take (i := 2) (oi := ⟨some 56, _, _, _, _, _⟩) (v := ?_) rfl (by kernel_rfl) (by kernel_rfl) (by kernel_rfl) (fun _ _ _ h => h) (Or.inl ⟨by rfl, ?_⟩) (by assumption) ?_
        rotate_left
        focus (intro w' hS; (try go_simp); (try with_reducible rfl))
        simp only [Act.put, List.setIfInBounds_toArray, List.set_cons_zero, List.set_cons_succ]
        refine wpAnyH_take (i := 3) (oi := ⟨some 57, _, _, _, _, _⟩) (v := ?_) rfl (by kernel_rfl) (by kernel_rfl) (by kernel_rfl) (fun _ _ _ h => h) (Or.inl ⟨by rfl, ?_⟩) (by assumption) ?_
        rotate_left
        focus (intro w' hS; (try go_simp); (try with_reducible rfl))
        simp only [Act.put, List.setIfInBounds_toArray, List.set_cons_zero, List.set_cons_succ]
        refine wpAnyH_take (i := 4) (oi := ⟨some 58, _, _, _, _, _⟩) (v := ?_) rfl (by kernel_rfl) (by kernel_rfl) (by kernel_rfl) (fun _ _ _ h => h) (Or.inl ⟨by rfl, ?_⟩) (by assumption) ?_
        rotate_left
        focus (intro w' hS; (try go_simp); (try with_reducible rfl))
        simp only [Act.put, List.setIfInBounds_toArray, List.set_cons_zero, List.set_cons_succ]
        refine wpAnyH_take (i := 5) (oi := ⟨some 59, _, _, _, _, _⟩) (v := undef) rfl (by kernel_rfl) (by kernel_rfl) (by kernel_rfl) (fun _ _ _ h => h) (Or.inr ⟨by rfl, rfl⟩) (by assumption) ?_
        simp only [Act.put, List.setIfInBounds_toArray, List.set_cons_zero, List.set_cons_succ]
        refine wpAnyH_take (i := 6) (oi := ⟨some 60, _, _, _, _, _⟩) (v := undef) rfl (by kernel_rfl) (by kernel_rfl) (by kernel_rfl) (fun _ _ _ h => h) (Or.inr ⟨by rfl, rfl⟩) (by assumption) ?_
        simp only [Act.put, List.setIfInBounds_toArray, List.set_cons_zero, List.set_cons_succ]
        refine wpAnyH_take (i := 7) (oi := ⟨some 61, _, _, _, _, _⟩) (v := undef) rfl (by kernel_rfl) (by kernel_rfl) (by kernel_rfl) (fun _ _ _ h => h) (Or.inr ⟨by rfl, rfl⟩) (by assumption) ?_
        simp only [Act.put, List.setIfInBounds_toArray, List.set_cons_zero, List.set_cons_succ]
        refine wpAnyH_take (i := 8) (oi := ⟨some 62, _, _, _, _, _⟩) (v := ?_) rfl (by kernel_rfl) (by kernel_rfl) (by kernel_rfl) (fun _ _ _ h => h) (Or.inl ⟨by rfl, ?_⟩) (by assumption) ?_
        rotate_left
        focus (intro w' hS; (try go_simp); (try with_reducible rfl))
        simp only [Act.put, List.setIfInBounds_toArray, List.set_cons_zero, List.set_cons_succ]
        refine wpAnyH_take (i := 9) (oi := ⟨some 63, _, _, _, _, _⟩) (v := ?_) rfl (by kernel_rfl) (by kernel_rfl) (by kernel_rfl) (fun _ _ _ h => h) (Or.inl ⟨by rfl, ?_⟩) (by assumption) ?_
        rotate_left
        focus (intro w' hS; (try go_simp); (try with_reducible rfl))
        simp only [Act.put, List.setIfInBounds_toArray, List.set_cons_zero, List.set_cons_succ]
        refine wpAnyH_take (i := 10) (oi := ⟨some 64, _, _, _, _, _⟩) (v := undef) rfl (by kernel_rfl) (by kernel_rfl) (by kernel_rfl) (fun _ _ _ h => h) (Or.inr ⟨by rfl, rfl⟩) (by assumption) ?_
        simp only [Act.put, List.setIfInBounds_toArray, List.set_cons_zero, List.set_cons_succ]
        refine wpAnyH_take (i := 11) (oi := ⟨some 65, _, _, _, _, _⟩) (v := undef) rfl (by kernel_rfl) (by kernel_rfl) (by kernel_rfl) (fun _ _ _ h => h) (Or.inr ⟨by rfl, rfl⟩) (by assumption) ?_
        simp only [Act.put, List.setIfInBounds_toArray, List.set_cons_zero, List.set_cons_succ]
        refine wpAnyH_take (i := 12) (oi := ⟨some 66, _, _, _, _, _⟩) (v := undef) rfl (by kernel_rfl) (by kernel_rfl) (by kernel_rfl) (fun _ _ _ h => h) (Or.inr ⟨by rfl, rfl⟩) (by assumption) ?_
        simp only [Act.put, List.setIfInBounds_toArray, List.set_cons_zero, List.set_cons_succ]
        refine wpAnyH_take (i := 13) (oi := ⟨some 67, _, _, _, _, _⟩) (v := undef) rfl (by kernel_rfl) (by kernel_rfl) (by kernel_rfl) (fun _ _ _ h => h) (Or.inr ⟨by rfl, rfl⟩) (by assumption) ?_
        simp only [Act.put, List.setIfInBounds_toArray, List.set_cons_zero, List.set_cons_succ]
        refine wpAnyH_take (i := 14) (oi := ⟨some 68, _, _, _, _, _⟩) (v := undef) rfl (by kernel_rfl) (by kernel_rfl) (by kernel_rfl) (fun _ _ _ h => h) (Or.inr ⟨by rfl, rfl⟩) (by assumption) ?_
        simp only [Act.put, List.setIfInBounds_toArray, List.set_cons_zero, List.set_cons_succ]
        refine wpAnyH_take (i := 15) (oi := ⟨some 69, _, _, _, _, _⟩) (v := undef) rfl (by kernel_rfl) (by kernel_rfl) (by kernel_rfl) (fun _ _ _ h => h) (Or.inr ⟨by rfl, rfl⟩) (by assumption) ?_
        simp only [Act.put, List.setIfInBounds_toArray, List.set_cons_zero, List.set_cons_succ]
        refine wpAnyH_take (i := 16) (oi := ⟨some 70, _, _, _, _, _⟩) (v := ?_) rfl (by kernel_rfl) (by kernel_rfl) (by kernel_rfl) (fun _ _ _ h => h) (Or.inl ⟨by rfl, ?_⟩) (by assumption) ?_
        rotate_left
        focus (intro w' hS; (try go_simp); (try with_reducible rfl))
        simp only [Act.put, List.setIfInBounds_toArray, List.set_cons_zero, List.set_cons_succ]
        refine wpAnyH_done (by kernel_rfl) ?_ _
        go_wp2_with fail
        exact bodyPost_ret (v := .tuple #[.slice none 0 0, .int .i64 5]) (by simp [results, Try.results29, go_sem]) rfl (by unfold decOut; rw [HDN.out]; exact ⟨none, 0, 0, [], rfl, Sgs.nil_ _, Nat.le_refl _, by simp [maxLen], rfl, HO.out.drew⟩)
      | some left =>
        rw [hst] at hbad
        have hbd : wo.drew.cell? ⟨p, 1, none⟩ = some (.bool false) := hbad
        obtain ⟨lA, lc, rfl, hl1, hl2, hrecs, _⟩ := hv.shape (by decide)
        have hlen : ss.length = j := by simpa using hv.len
        have hsgs : Sgs wo lA j ss := ⟨hlen, hrecs, fun s hs => (hpar s hs).1.bytes⟩
        have hsn : ∀ s ∈ ss, s.ps.length = s.n := fun s hs => (hpar s hs).1.bytes.1.len
        have hRt := rright_any lA j lc ss wo.drew (hsgs.only ((Only.refl [] wo).drew)) (by omega) (fun s hs => by have := (hpar s hs).2; omega)
        have hdr := dec_ref l
        rw [HQ.out, hst, ← hdata] at hdr
        simp only [Option.isSome_some, true_and] at hdr
        cases hrl : rightL ss
        · rw [hrl] at hRt
          have hdn : dec l = none := by
            rw [hdr, if_neg]
            rw [← right_data ss hsn, hrl]
            exact fun h => by cases h.1
          have HDN := Lib.hid hdn
          have HO := Lib.hid ho
          have HRT := Lib.hid hRt
          clear hdn hst hdata hpar hv hRd hBs ho hbad hRt hdr hrl hsgs hrecs hsn
          go_wp2_with fail
          refine wp_region_held_drew (S := fun w' => w'.cell? ⟨p, 1, none⟩ = some (.bool false)) (by kernel_rfl) hbd (fun hHeld => ?_)
          refine wpAnyH_take (i := 0) (oi := ⟨some 54, _, _, _, _, _⟩) (v := ?_) rfl (by kernel_rfl) (by kernel_rfl) (by kernel_rfl) (fun _ _ _ h => h) (Or.inl ⟨by rfl, ?_⟩) (by assumption) ?_
          rotate_left
          focus (intro w' hS; (try go_simp); (try with_reducible rfl))
          simp only [Act.put, List.setIfInBounds_toArray, List.set_cons_zero, List.set_cons_succ]
          refine wpAnyH_take (i := 1) (oi := ⟨some 55, _, _, _, _, _⟩) (v := ?_) rfl (by kernel_rfl) (by kernel_rfl) (by kernel_rfl) (fun _ _ _ h => h) (Or.inl ⟨by rfl, ?_⟩) (by assumption) ?_
          rotate_left
          focus (intro w' hS; (try go_simp); (try with_reducible rfl))
          simp only [Act.put, List.setIfInBounds_toArray, List.set_cons_zero, List.set_cons_succ]
          refine wpAnyH_take (i := 2) (oi := ⟨some 56, _, _, _, _, _⟩) (v := ?_) rfl (by kernel_rfl) (by kernel_rfl) (by kernel_rfl) (fun _ _ _ h => h) (Or.inl ⟨by rfl, ?_⟩) (by assumption) ?_
          rotate_left
          focus (intro w' hS; (try go_simp); (try with_reducible rfl))
          simp only [Act.put, List.setIfInBounds_toArray, List.set_cons_zero, List.set_cons_succ]
          refine wpAnyH_take (i := 3) (oi := ⟨some 57, _, _, _, _, _⟩) (v := ?_) rfl (by kernel_rfl) (by kernel_rfl) (by kernel_rfl) (fun _ _ _ h => h) (Or.inl ⟨by rfl, ?_⟩) (by assumption) ?_
          rotate_left
          focus (intro w' hS; (try go_simp); (try with_reducible rfl))
          simp only [Act.put, List.setIfInBounds_toArray, List.set_cons_zero, List.set_cons_succ]
          refine wpAnyH_take (i := 4) (oi := ⟨some 58, _, _, _, _, _⟩) (v := ?_) rfl (by kernel_rfl) (by kernel_rfl) (by kernel_rfl) (fun _ _ _ h => h) (Or.inl ⟨by rfl, ?_⟩) (by assumption) ?_
          rotate_left
          focus (intro w' hS; (try go_simp); (try with_reducible rfl))
          simp only [Act.put, List.setIfInBounds_toArray, List.set_cons_zero, List.set_cons_succ]
          refine wpAnyH_take (i := 5) (oi := ⟨some 59, _, _, _, _, _⟩) (v := ?_) rfl (by kernel_rfl) (by kernel_rfl) (by kernel_rfl) (fun _ _ _ h => h) (Or.inl ⟨by rfl, ?_⟩) (by assumption) ?_
          rotate_left
          focus (intro w' hS; (try go_simp); (try with_reducible rfl))
          simp only [Act.put, List.setIfInBounds_toArray, List.set_cons_zero, List.set_cons_succ]
          refine wpAnyH_ready (rs := [6]) (by kernel_rfl) (by simp) ?_
          refine AllReadyH.cons (o := ⟨some 60, _, _, _, _, _⟩) rfl (fun K hK => ?_) AllReadyH.nil
          go_simp
          go_at_call 33
          refine HRT.out.mono ?_
          rintro x wq ⟨rfl, hoq⟩
          have hbq := hoq.cell hbd (by simp)
          go_wp2_with fail
          refine hK.out _ _ hbq (fun hHeld2 => ?_)
          clear hK K hHeld
          try simp only [Act.put, List.setIfInBounds_toArray, List.set_cons_zero, List.set_cons_succ]
          refine wpAnyH_take (i := 7) (oi := ⟨some 61, _, _, _, _, _⟩) (v := ?_) rfl (by kernel_rfl) (by kernel_rfl) (by kernel_rfl) (fun _ _ _ h => h) (Or.inl ⟨by rfl, ?_⟩) (by assumption) ?_
          rotate_left
          focus (intro w' hS; (try go_simp); (try with_reducible rfl))
          simp only [Act.put, List.setIfInBounds_toArray, List.set_cons_zero, List.set_cons_succ]
          refine wpAnyH_take (i := 8) (oi := ⟨some 62, _, _, _, _, _⟩) (v := ?_) rfl (by kernel_rfl) (by kernel_rfl) (by kernel_rfl) (fun _ _ _ h => h) (Or.inl ⟨by rfl, ?_⟩) (by assumption) ?_
          rotate_left
          focus (intro w' hS; (try go_simp); (try with_reducible rfl))
          simp only [Act.put, List.setIfInBounds_toArray, List.set_cons_zero, List.set_cons_succ]
          refine wpAnyH_take (i := 9) (oi := ⟨some 63, _, _, _, _, _⟩) (v := ?_) rfl (by kernel_rfl) (by kernel_rfl) (by kernel_rfl) (fun _ _ _ h => h) (Or.inl ⟨by rfl, ?_⟩) (by assumption) ?_
          rotate_left
          focus (intro w' hS; (try go_simp); (try with_reducible rfl))
          simp only [Act.put, List.setIfInBounds_toArray, List.set_cons_zero, List.set_cons_succ]
          refine wpAnyH_take (i := 10) (oi := ⟨some 64, _, _, _, _, _⟩) (v := undef) rfl (by kernel_rfl) (by kernel_rfl) (by kernel_rfl) (fun _ _ _ h => h) (Or.inr ⟨by rfl, rfl⟩) (by assumption) ?_
          simp only [Act.put, List.setIfInBounds_toArray, List.set_cons_zero, List.set_cons_succ]
          refine wpAnyH_take (i := 11) (oi := ⟨some 65, _, _, _, _, _⟩) (v := undef) rfl (by kernel_rfl) (by kernel_rfl) (by kernel_rfl) (fun _ _ _ h => h) (Or.inr ⟨by rfl, rfl⟩) (by assumption) ?_
          simp only [Act.put, List.setIfInBounds_toArray, List.set_cons_zero, List.set_cons_succ]
          refine wpAnyH_take (i := 12) (oi := ⟨some 66, _, _, _, _, _⟩) (v := undef) rfl (by kernel_rfl) (by kernel_rfl) (by kernel_rfl) (fun _ _ _ h => h) (Or.inr ⟨by rfl, rfl⟩) (by assumption) ?_
          simp only [Act.put, List.setIfInBounds_toArray, List.set_cons_zero, List.set_cons_succ]
          refine wpAnyH_take (i := 13) (oi := ⟨some 67, _, _, _, _, _⟩) (v := undef) rfl (by kernel_rfl) (by kernel_rfl) (by kernel_rfl) (fun _ _ _ h => h) (Or.inr ⟨by rfl, rfl⟩) (by assumption) ?_
          simp only [Act.put, List.setIfInBounds_toArray, List.set_cons_zero, List.set_cons_succ]
          refine wpAnyH_take (i := 14) (oi := ⟨some 68, _, _, _, _, _⟩) (v := undef) rfl (by kernel_rfl) (by kernel_rfl) (by kernel_rfl) (fun _ _ _ h => h) (Or.inr ⟨by rfl, rfl⟩) (by assumption) ?_
          simp only [Act.put, List.setIfInBounds_toArray, List.set_cons_zero, List.set_cons_succ]
          refine wpAnyH_take (i := 15) (oi := ⟨some 69, _, _, _, _, _⟩) (v := undef) rfl (by kernel_rfl) (by kernel_rfl) (by kernel_rfl) (fun _ _ _ h => h) (Or.inr ⟨by rfl, rfl⟩) (by assumption) ?_
          simp only [Act.put, List.setIfInBounds_toArray, List.set_cons_zero, List.set_cons_succ]
          refine wpAnyH_take (i := 16) (oi := ⟨some 70, _, _, _, _, _⟩) (v := ?_) rfl (by kernel_rfl) (by kernel_rfl) (by kernel_rfl) (fun _ _ _ h => h) (Or.inl ⟨by rfl, ?_⟩) (by assumption) ?_
          rotate_left
          focus (intro w' hS; (try go_simp); (try with_reducible rfl))
          simp only [Act.put, List.setIfInBounds_toArray, List.set_cons_zero, List.set_cons_succ]
          refine wpAnyH_done (by kernel_rfl) ?_ _
          go_wp2_with fail
          exact bodyPost_ret (v := .tuple #[.slice none 0 0, .int .i64 5]) (by simp [results, Try.results29, go_sem]) rfl (by unfold decOut; rw [HDN.out]; exact ⟨none, 0, 0, [], rfl, Sgs.nil_ _, Nat.le_refl _, by simp [maxLen], rfl, HO.out.drew.trans hoq (by simp)⟩)
        · rw [hrl] at hRt
          have hpt := hrl
          unfold rightL at hpt
          simp only [Bool.and_eq_true, decide_eq_true_eq] at hpt
          have hall : ∀ s ∈ ss, s.name.size ≤ 16 ∧ s.n ≤ 4 := fun s h => by
            obtain ⟨b, hb⟩ := chk_each ss [] hpt.2 s h
            have := sgOk_parts hb
            exact ⟨(nameOk_size this.1).2, this.2.2.1⟩
          have hby := fun wq (hq : Only [] wo.drew wq) => rbytes_any lA j lc ss wq ((hsgs.only ((Only.refl [] wo).drew)).only hq) (by omega) hall
          rw [← right_data ss hsn, hrl, ← layL_data ss hsn hrl] at hdr
          simp only [true_and] at hdr
          have HBY := Lib.hid hby
          have HRT := Lib.hid hRt
          have HO := Lib.hid ho
          have HS := Lib.hid hsgs
          have HSB := Lib.hid (fun wq (hq : Only [] w wq) => run_str (HR.out.only hq (by simp)) c)
          have HDATA := Lib.hid hdata
          clear hst hpar hv hRd hBs ho hbad hRt hsgs hrecs hsn hpt hall hby hrl hdata
          by_cases he : layL ss = l
          · rw [if_pos he] at hdr
            have HDN := Lib.hid hdr
            have HSB2 : Hid (∀ wq, Only [] w wq → (convert 24 9 (.slice A n c)).run Try.prog wq = .ok (.string (str (layL ss))) wq) := fun wq hq => by rw [he]; exact HSB.out wq hq
            clear hdr he HSB
            go_wp2_with fail
            go_region_held (fun w' => w'.cell? ⟨p, 1, none⟩ = some (.bool false)) (first | go_keep | assumption) ((first
              | (go_at_call 68; refine (HBY.out wq hoq).mono ?_; rintro x w7 ⟨v7, rfl, h7⟩; obtain ⟨A7, c7, rfl, _, _, hr7⟩ := h7.shape; have hs7 := run_str hr7 c7; have ho7 := h7.only0; have hs8 := HSB2.out w7 ((HO.out.drew.trans hoq (by simp)).trans ho7 (by simp)); have hb7 := ho7.cell hbq (by simp))
              | (go_at_call 33; refine HRT.out.mono ?_; rintro x wq ⟨rfl, hoq⟩; have hbq := hoq.cell hbd (by simp); have hsq := HSB2.out wq (HO.out.drew.trans hoq (by simp)))))
            all_goals
              go_wp2_with fail
              exact bodyPost_ret (v := .tuple #[.slice lA j lc, .int .i64 0]) (by simp [results, Try.results29, go_sem]) rfl (by unfold decOut; rw [HDN.out]; exact ⟨lA, j, lc, ss, rfl, HS.out.only (((Only.refl [] wo).drew.trans hoq (by simp)).trans ho7 (by simp)), hl1, hl2, rfl, (HO.out.drew.trans hoq (by simp)).trans ho7 (by simp)⟩)
          · rw [if_neg he] at hdr
            have HDN := Lib.hid hdr
            have hne : ((str (layL ss)).toList == (str l).toList) = false := by
              rw [Lib.toList_data, Lib.toList_data]
              exact beq_eq_false_iff_ne.2 he
            clear hdr he
            go_wp2_with fail
            go_region_held (fun w' => w'.cell? ⟨p, 1, none⟩ = some (.bool false)) (first | go_keep | assumption) ((first
              | (go_at_call 68; refine (HBY.out wq hoq).mono ?_; rintro x w7 ⟨v7, rfl, h7⟩; obtain ⟨A7, c7, rfl, _, _, hr7⟩ := h7.shape; have hs7 := run_str hr7 c7; have ho7 := h7.only0; have hs8 := HSB.out w7 ((HO.out.drew.trans hoq (by simp)).trans ho7 (by simp)); have hb7 := ho7.cell hbq (by simp))
              | (go_at_call 33; refine HRT.out.mono ?_; rintro x wq ⟨rfl, hoq⟩; have hbq := hoq.cell hbd (by simp); have hsq := HSB.out wq (HO.out.drew.trans hoq (by simp)))))
            all_goals
              go_wp2_with fail
              exact bodyPost_ret (v := .tuple #[.slice none 0 0, .int .i64 5]) (by simp [results, Try.results29, go_sem]) rfl (by unfold decOut; rw [HDN.out]; exact ⟨none, 0, 0, [], rfl, Sgs.nil_ _, Nat.le_refl _, by simp [maxLen], rfl, (HO.out.drew.trans hoq (by simp)).trans ho7 (by simp)⟩)
end Go.Proofs.Ytbeenfkmnchhbaa.Export
