/- JournalWholly, walked. -/
import Derived.Test.YthgfmoogagldmaaGreatJournalH
import Derived.Test.YthgfmoogagldmaaGreatRegOneq
import Derived.Deep.DeepCutAuto
import Derived.Deep.LoopGhost
import Derived.Deep.CutBlock
namespace Go.Proofs.YthgfmoogagldmaaGreat.Journal
open Go.RowKit Go.Shelf Disk Go.Proofs.YthgfmoogagldmaaGreat.Frame
set_option linter.unusedVariables false
set_option maxRecDepth 100000
theorem i64_and_le (x y : Int) : bits .and .i64 x y ≤ 9223372036854775807 := by
  show IntKind.i64.wrap ((BitVec.ofInt 64 x &&& BitVec.ofInt 64 y).toNat : Nat) ≤ 9223372036854775807
  rw [IntKind.wrap_i64]
  omega
/-- what the loop knows of a round's beginning -/
def At (w wr : World) (p g b cap k : Nat) (jv hv : Value) : Prop :=
  ∃ q A n c hs, jv = .pointer (some ⟨q, 0, none⟩) ∧ hv = .slice A n c ∧ hs.length ≤ 10 + k ∧ LoopS w.heap.size w wr p g b q cap k A n hs
/-- what an act's answer tells -/
def Which (f : Int) (l l2 hs ms : List (List UInt8)) : Prop := (f = 0 ∧ hs = l2 ∧ ms = l) ∨ (f = 3 ∧ hs = l ∧ ms = l2) ∨ ((f = 1 ∨ f = 2) ∧ hs = l ∧ ms = l)
def ActO (m : Nat) (w w' : World) (p g b q cap k : Nat) (A : Option Addr) (n : Nat) (l l2 : List (List UInt8)) (x : Ending) : Prop :=
  ∃ (f : Int) (hs ms : List (List UInt8)), x = .returned (.int .i64 f) ∧ Which f l l2 hs ms ∧ Mid m w w' p g b q cap k A n l hs ms
theorem actO {m : Nat} {w w' : World} {p g b q cap k : Nat} {A : Option Addr} {n : Nat} {l l2 : List (List UInt8)} {x : Ending} (h : (x = .returned (.int .i64 0) ∧ Mid m w w' p g b q cap k A n l l2 l) ∨ (x = .returned (.int .i64 3) ∧ Mid m w w' p g b q cap k A n l l l2) ∨
      (∃ f : Int, (f = 1 ∨ f = 2) ∧ x = .returned (.int .i64 f) ∧ Mid m w w' p g b q cap k A n l l l)) : ActO m w w' p g b q cap k A n l l2 x := by
  rcases h with ⟨rfl, h⟩ | ⟨rfl, h⟩ | ⟨f, hf, rfl, h⟩
  · exact ⟨0, _, _, rfl, .inl ⟨rfl, rfl, rfl⟩, h⟩
  · exact ⟨3, _, _, rfl, .inr (.inl ⟨rfl, rfl, rfl⟩), h⟩
  · exact ⟨f, _, _, rfl, .inr (.inr ⟨hf, rfl, rfl⟩), h⟩
/-- behind the switch -/
def Sw (w wr : World) (p g b q cap k : Nat) (hv mv : Value) : Prop :=
  ∃ A n c A2 n2 c2 hs ms, hv = .slice A n c ∧ mv = .slice A2 n2 c2 ∧ hs.length ≤ 11 + k ∧ ms.length ≤ 11 + k ∧ Mid2 w.heap.size w wr p g b q cap k A n hs A2 n2 ms hs ms
/-- a list that grows, made since w5 -/
def MS (w5 w1 : World) (v : Value) (n : Nat) (rows : List (List Value)) : Prop := Only [] w5 w1 ∧ OwnR 35 1 w1 w5.heap.size v n rows
section
variable {w5 w1 w2 : World} {v v' : Value} {n n' : Nat} {rows rows' : List (List Value)}
theorem MS.ext (h : MS w5 w1 v n rows) (hE : ExtR 35 1 w1 w2 w5.heap.size v v' n' rows') : MS w5 w2 v' n' rows' := ⟨h.1.trans hE.only (fun g hg => .inr (h.2.lt g hg).1), hE.own⟩
theorem MS.alloc (h : MS w5 w1 v n rows) (o : Obj) : MS w5 (w1.alloc o) v n rows := ⟨h.1.alloc o, h.2.alloc o⟩
theorem MS.start {w5 wd : World} (h : Only [] w5 wd) : MS w5 (wd.alloc (.cells #[] 35)) (.slice (some ⟨wd.heap.size, 0, none⟩) 0 0) 0 [] := ⟨h.alloc _, (sl_empty wd).mono h.size⟩
end
section
variable {w w' : World}
theorem Mid.out {wr : World} {mm p g b q cap k n : Nat} {A : Option Addr} {l hs ms : List (List UInt8)} (h : Mid mm w wr p g b q cap k A n l hs ms) : Only [] w wr := by
  obtain ⟨d, js, T, h1, h2, h3, h4, h5⟩ := h
  exact h5
theorem Rec2.out {wr : World} {mm p g b q cap k : Nat} {o : Bool} {X : List (List UInt8)} (h : Rec2 mm w wr p g b q cap k o X) : Only [] w wr := by
  obtain ⟨d, js, gen, T, h1, h2, h3, h4, h5, h6, h7⟩ := h
  exact h7
theorem Mid2.out {wr : World} {mm p g b q cap k n n2 : Nat} {A A2 : Option Addr} {l l2 hs ms : List (List UInt8)} (h : Mid2 mm w wr p g b q cap k A n l A2 n2 l2 hs ms) : Only [] w wr := by
  obtain ⟨d, js, T, h1, h2, h2', h3, h4, h5⟩ := h
  exact h5
set_option maxHeartbeats 16000000 in
theorem wholly_any (A : Option Addr) (m c : Nat) (as_ : List AJ) (A1 : Option Addr) (m1 c1 : Nat) (fs : List Int) (w : World) (hr : Recs w w.heap.size 5 A m (as_.map AJ.row)) (hr1 : Reads w w.heap.size 1 A1 m1 (fs.map (Value.int .i64))) (hin : ∀ a ∈ as_, a.in_ w) :
    Calls Tryz.prog 3 #[.slice A m c, .slice A1 m1 c1] w fun x w' => x = .returned (.bool true) ∧ Only [] w w' := by
  have hfl : fs.length = m1 := by have := hr1.1; simpa using this
  have HFL := Lib.hid hfl
  have HLI := Lib.hid (light6_any A m c as_ w hr hin)
  have HIN := Lib.hid hin
  have HR := Lib.hid hr
  have HR1 := Lib.hid hr1
  have HK := Lib.hid (fun w => knows6_any w)
  have HM := Lib.hid (fun z w => num6_any z w)
  have HN := Lib.hid (fun w => (show Calls Tryz.prog 12 #[.int .i64 40] w fun x w' => NewO w 40 x w' from new_any 40 (by decide) (by decide) w))
  clear hr hr1 hin hfl
  go_enter Tryz.func3, Tryz.ntmps3
  go_wp2_with fail
  refine HLI.out.mono ?_
  rintro x w1 ⟨⟨bl, rfl, hlit⟩, hw1⟩
  have hw1 := hw1.symm
  subst hw1
  cases bl
  · clear hlit
    go_wp2_with (go_at_call 11; refine (HK.out _).mono ?_; rintro x w2 ⟨rfl, ho2⟩)
    go_ret
    exact ⟨rfl, ho2⟩
  have HLIT := Lib.hid (hlit rfl)
  clear hlit HLI
  by_cases hbig : 20 < m1
  · have e1 : decide ((20 : Int) < (m1 : Int)) = true := decide_eq_true (by omega)
    have e2 : decide (20 < m1) = true := decide_eq_true hbig
    go_wp2_with (go_at_call 11; refine (HK.out _).mono ?_; rintro x w2 ⟨rfl, ho2⟩)
    go_ret
    exact ⟨rfl, ho2⟩
  have e1 : decide ((20 : Int) < (m1 : Int)) = false := decide_eq_false (by omega)
  have e2 : decide (20 < m1) = false := decide_eq_false hbig
  go_wp2_with (first
    | (go_at_call 11; refine (HK.out w).mono ?_; rintro x w2 ⟨rfl, ho2⟩; have HO2 := Lib.hid ho2; clear ho2)
    | (go_at_call 12; refine (HN.out w2).mono ?_; rintro x w3 ⟨p, g, b, cap, rfl, hd3, hp, hg, hb, ho3⟩; have hsz2 := HO2.out.size; have HP := Lib.hid (show w.heap.size ≤ p ∧ w.heap.size ≤ g ∧ w.heap.size ≤ b by omega); have HOP := Lib.hid (loop_start hd3 rfl HP.out (HO2.out.trans ho3 (by simp))); clear hd3 hp hg hb ho3 hsz2)
    | (go_at_call 13; refine HOP.out.mono ?_; rintro x w4 ⟨q, rfl, hL⟩; have HL := Lib.hid hL; clear hL)
    | (go_at_call 14; refine (HM.out _ _).mono ?_; rintro x wn ⟨rfl, hwn⟩; have hwn := hwn.symm; subst hwn))
  clear e1 e2 HOP
  go_loopg [7, 9, 10, 11] m (fun gk jv hv mv i wr => ∃ k : Nat, k + gk = m ∧ i = .int .i64 k ∧ At w wr p g b cap k jv hv)
  case atStart => exact ⟨0, by omega, rfl, q, none, 0, 0, [], rfl, rfl, by simp, HL.out⟩
  case round =>
    obtain ⟨k, hk, rfl, q1, B, n, cn, hs, rfl, rfl, hhl, hL⟩ := hrel
    clear HL
    by_cases hlt : k < m
    · have d1 : decide ((k : Int) < (m : Int)) = true := decide_eq_true (by omega)
      obtain ⟨bb, off, hA, hbb, x, hx, _, c0, c1', c2, c3, c4⟩ := aj_at HR.out k hlt
      subst hA
      have HIX := Lib.hid (HIN.out x hx)
      have HLX := Lib.hid (HLIT.out.2 x hx)
      have hm60 := HLIT.out.1
      have hk60 : k ≤ 60 := by omega
      have HC := Lib.hid (And.intro c0 (And.intro c1' (And.intro c2 (And.intro c3 c4))))
      have hO := hL.out
      have y0 := hO.cell c0 (by simp)
      have y1 := hO.cell c1' (by simp)
      have y2 := hO.cell c2 (by simp)
      have y3 := hO.cell c3 (by simp)
      have y4 := hO.cell c4 (by simp)
      have HO := Lib.hid hO
      have HL := Lib.hid hL
      have HHL := Lib.hid hhl
      clear c0 c1' c2 c3 c4 hO hL hx hhl
      obtain ⟨kind, an, ⟨bA, bn, bc, bl⟩, LA, Lc, ss, FA, Fc, fts⟩ := x
      simp only at y0 y1 y2 y3 y4 HC
      obtain ⟨nl, hnl⟩ : ∃ nl, ss.length = nl := ⟨_, rfl⟩
      obtain ⟨nf, hnf⟩ : ∃ nf, fts.length = nf := ⟨_, rfl⟩
      have HNL := Lib.hid hnl
      have HNF := Lib.hid hnf
      rw [hnl] at y3 HC
      rw [hnf] at y4 HC
      clear hnl hnf
      go_upto_block 2 with fail
      go_cut [9, 10] (fun hv mv wx => Sw w wx p g b q1 cap k hv mv)
      case first =>
        go_upto_if 57 with fail
        go_cut [57] (fun s wx => s = .bool (kind == 0 || kind == 1) ∧ wx = wr)
        case first =>
          by_cases k0 : kind = 0
          · subst k0
            go_wp2_with fail
            go_meet
            exact ⟨rfl, rfl⟩
          · have e0 : (kind == 0) = false := beq_eq_false_iff_ne.2 k0
            go_wp2_with fail
            go_meet
            exact ⟨by rw [e0]; rfl, rfl⟩
        case rest =>
          obtain ⟨rfl, hw⟩ := hcut
          subst hw
          by_cases k01 : kind = 0 ∨ kind = 1
          · have e01 : (kind == 0 || kind == 1) = true := by rcases k01 with rfl | rfl <;> rfl
            rw [e01]
            clear k01
            have HAP := Lib.hid ((HL.out.append rfl hk60 (by have := HHL.out; omega) ⟨bA, bn, bc, bl⟩ HIX.out.b.1 HLX.out.1 HIX.out.b.2.1 HIX.out.b.2.2).mono fun x w' h => actO h)
            go_upto_region 16 with (first
              | (go_at_call 15; refine HAP.out.mono ?_; rintro x w5 ⟨f, hs2, ms2, rfl, hwh, hM⟩; have HWH := Lib.hid hwh; have HMD := Lib.hid hM; have z2 := hM.out.cell HC.out.2.2.1 (by simp); clear hwh hM)
              | (go_at_call 14; refine (HM.out _ _).mono ?_; rintro x wn ⟨rfl, hwn⟩; have hwn := hwn.symm; subst hwn))
            have HMO := Lib.hid (HMD.out.more rfl ⟨bA, bn, bc, bl⟩ HIX.out.b.1)
            go_cut [13] (fun s wx => ∃ A' c', s = .slice A' (n + 1) c' ∧ Mid2 w.heap.size w wx p g b q1 cap k B n hs A' (n + 1) (hs ++ [bl]) hs2 ms2)
            case first =>
              as_aux_lemma =>
                have hs5 : (w5.drew).cell? ⟨bb, off + k * 5 + 2, none⟩ = some (.slice bA bn bc) := z2
                obtain ⟨ss2, hl2, hrec, hmore⟩ := HMO.out
                have HREC := Lib.hid hrec
                have HMORE := Lib.hid hmore
                clear hrec hmore
                obtain ⟨ti, hti, hz, hi2, hi3⟩ := info_parts sl_info
                refine wp_region_hand (S := fun Y => Y.cell? ⟨bb, off + k * 5 + 2, none⟩ = some (.slice bA bn bc)) (by kernel_rfl) ?_
                refine takeW (i := 1) rfl (by kernel_rfl) (by kernel_rfl) (by kernel_rfl) (fun _ _ _ h => h) rfl (by rfl) (v := .slice B n cn) (fun Y hY => by go_simp) hs5 ?_
                simp only [List.setIfInBounds_toArray, List.set_cons_zero, List.set_cons_succ]
                refine takeW (i := 3) rfl (by kernel_rfl) (by kernel_rfl) (by kernel_rfl) (fun _ _ _ h => h) rfl (by rfl) (v := .slice (some ⟨bb, off, none⟩) m c) (fun Y hY => by go_simp) hs5 ?_
                simp only [List.setIfInBounds_toArray, List.set_cons_zero, List.set_cons_succ]
                refine takeW (i := 4) rfl (by kernel_rfl) (by kernel_rfl) (by kernel_rfl) (fun _ _ _ h => h) rfl (by rfl) (v := .int .i64 (k : Int)) (fun Y hY => by go_simp) hs5 ?_
                simp only [List.setIfInBounds_toArray, List.set_cons_zero, List.set_cons_succ]
                refine takeW (i := 5) rfl (by kernel_rfl) (by kernel_rfl) (by kernel_rfl) (fun _ _ _ h => h) rfl (by rfl) (v := .pointer (some ⟨bb, off + k * 5, none⟩)) (fun Y hY => by go_simp) hs5 ?_
                simp only [List.setIfInBounds_toArray, List.set_cons_zero, List.set_cons_succ]
                refine takeW (i := 6) rfl (by kernel_rfl) (by kernel_rfl) (by kernel_rfl) (fun _ _ _ h => h) rfl (by rfl) (v := .pointer (some ⟨bb, off + k * 5 + 2, none⟩)) (fun Y hY => by go_simp) hs5 ?_
                simp only [List.setIfInBounds_toArray, List.set_cons_zero, List.set_cons_succ]
                refine takeW (i := 7) rfl (by kernel_rfl) (by kernel_rfl) (by kernel_rfl) (fun _ _ _ h => h) rfl (by rfl) (v := .slice bA bn bc) (fun Y hY => by go_simp) hs5 ?_
                simp only [List.setIfInBounds_toArray, List.set_cons_zero, List.set_cons_succ]
                have hn70 : n ≤ 1000 := by
                  obtain ⟨_, _, _, _, hk, _⟩ := HMD.out
                  have := hk.len
                  have := HHL.out
                  omega
                have hd5 : Only [] w5 w5.drew := (Only.refl [] w5).drew
                have hA0 := MS.start hd5
                have hAC := hA0.alloc (.cells #[.slice bA bn bc] 35)
                have hC0 : Only [] w5 (w5.drew.alloc (.cells #[.slice bA bn bc] 35)) := hd5.alloc _
                have hC1 : MS w5 ((w5.drew.alloc (.cells #[.slice bA bn bc] 35)).alloc (.cells #[] 35)) (.slice (some ⟨w5.heap.size + 1, 0, none⟩) 0 0) 0 [] := by
                  have h := MS.start hC0
                  rw [World.size_alloc] at h
                  exact h
                have sA := hA0.1.cell z2 (by simp)
                have sC := hC0.cell z2 (by simp)
                have sAC := hAC.1.cell z2 (by simp)
                have sCA := hC1.1.cell z2 (by simp)
                refine twoW (i := 0) (j := 8) (vi := .slice (some ⟨w5.heap.size, 0, none⟩) 0 0) (vj := .slice (some ⟨w5.heap.size, 0, none⟩) 1 1) (wi := w5.drew.alloc (.cells #[] 35)) (wj := w5.drew.alloc (.cells #[.slice bA bn bc] 35)) rfl rfl (by kernel_rfl) rfl rfl (by rfl) (by rfl) (by go_simp) (by go_simp) sA sC ?_ ?_
                · simp only [List.setIfInBounds_toArray, List.set_cons_zero, List.set_cons_succ]
                  refine twoH (i := 2) (j := 8) rfl rfl (by kernel_rfl) rfl rfl ?_ ?_
                  · refine law_if (i := 2) rfl (fun K hK => ?_)
                    refine step_append_rec (w := w5.drew.alloc (.cells #[] 35)) rfl (.tmp 68) (.tmp 69) 34 rfl Tryz.underlying34 hti hz hi2 hi3 (by decide) (by decide) rfl hA0.2 rfl (HREC.out.only hA0.1 (by simp)) (by intro r hr; obtain ⟨s, _, rfl⟩ := List.mem_map.1 hr; rfl) (by intro r hr u hu; obtain ⟨s, _, rfl⟩ := List.mem_map.1 hr; rw [List.mem_singleton.1 hu]; rfl) (by omega) (by unfold maxLen; omega) hA0.1.size ?_
                    intro v4 w6 hE4
                    have hm4 := hA0.ext hE4
                    refine hK _ _ (hm4.1.cell z2 (by simp)) ?_
                    clear hK K
                    try simp only [List.setIfInBounds_toArray, List.set_cons_zero, List.set_cons_succ]
                    have hm5 := hm4.alloc (.cells #[.slice bA bn bc] 35)
                    refine oneW (i := 8) (v := .slice (some ⟨w6.heap.size, 0, none⟩) 1 1) (w' := w6.alloc (.cells #[.slice bA bn bc] 35)) rfl (by kernel_rfl) rfl (by rfl) (by go_simp) (hm5.1.cell z2 (by simp)) ?_
                    simp only [List.setIfInBounds_toArray, List.set_cons_zero, List.set_cons_succ]
                    refine oneA (i := 9) rfl (by kernel_rfl) rfl rfl (fun K hK => ?_)
                    refine step_append_rec (w := w6.alloc (.cells #[.slice bA bn bc] 35)) rfl (.tmp 70) (.tmp 76) 34 rfl Tryz.underlying34 hti hz hi2 hi3 (by decide) (by decide) rfl hm5.2 rfl (Recs.const1 w6 [.slice bA bn bc] #[.slice bA bn bc] 35 1 _ rfl rfl) (by intro r hr; rw [List.mem_singleton.1 hr]; rfl) (by intro r hr u hu; rw [List.mem_singleton.1 hr] at hu; rw [List.mem_singleton.1 hu]; rfl) (by omega) (by unfold maxLen; omega) hm5.1.size ?_
                    intro v7 w7 hE7
                    have hm7 := hm5.ext hE7
                    have HFM := Lib.hid (HMORE.out _ v7 hm7.1 hm7.2)
                    refine hK _ _ (hm7.1.cell z2 (by simp)) ?_
                    clear hK K
                    try simp only [List.setIfInBounds_toArray, List.set_cons_zero, List.set_cons_succ]
                    refine takeW (i := 10) rfl (by kernel_rfl) (by kernel_rfl) (by kernel_rfl) (fun _ _ _ h => h) rfl (by rfl) (v := v7) (fun Y hY => by go_simp) (hm7.1.cell z2 (by simp)) ?_
                    simp only [List.setIfInBounds_toArray, List.set_cons_zero, List.set_cons_succ]
                    refine wpAnyH_done (by kernel_rfl) ?_ _
                    clear hE4 hE7 hm4 hm5 hm7 hs5 hti hz hi2 hi3
                    go_wp2_with fail
                    go_meet
                    exact HFM.out
                  · refine val_if (v := .slice (some ⟨w5.heap.size + 1, 0, none⟩) 1 1) (w' := (w5.drew.alloc (.cells #[] 35)).alloc (.cells #[.slice bA bn bc] 35)) rfl (by rfl) (by go_simp) ?_
                    refine ⟨sAC, ?_⟩
                    simp only [List.setIfInBounds_toArray, List.set_cons_zero, List.set_cons_succ]
                    refine oneA (i := 2) rfl (by kernel_rfl) rfl rfl (fun K hK => ?_)
                    refine step_append_rec (w := (w5.drew.alloc (.cells #[] 35)).alloc (.cells #[.slice bA bn bc] 35)) rfl (.tmp 68) (.tmp 69) 34 rfl Tryz.underlying34 hti hz hi2 hi3 (by decide) (by decide) rfl hAC.2 rfl (HREC.out.only hAC.1 (by simp)) (by intro r hr; obtain ⟨s, _, rfl⟩ := List.mem_map.1 hr; rfl) (by intro r hr u hu; obtain ⟨s, _, rfl⟩ := List.mem_map.1 hr; rw [List.mem_singleton.1 hu]; rfl) (by omega) (by unfold maxLen; omega) hAC.1.size ?_
                    intro v4 w6 hE4
                    have hm4 := hAC.ext hE4
                    refine hK _ _ (hm4.1.cell z2 (by simp)) ?_
                    clear hK K
                    try simp only [List.setIfInBounds_toArray, List.set_cons_zero, List.set_cons_succ]
                    have hrc : Recs w6 ((w5.drew.alloc (.cells #[] 35)).heap.size + 1) 1 (some ⟨w5.heap.size + 1, 0, none⟩) 1 [[.slice bA bn bc]] := by
                      have h0 := Recs.const1 (w5.drew.alloc (.cells #[] 35)) [.slice bA bn bc] #[.slice bA bn bc] 35 1 (0, 0) rfl rfl
                      have hs := World.size_alloc w5.drew (.cells #[] 35)
                      rw [hs] at h0 ⊢
                      have ho46 : Only (ownL (.slice (some ⟨w5.heap.size, 0, none⟩) 0 0)) ((w5.drew.alloc (.cells #[] 35)).alloc (.cells #[.slice bA bn bc] 35)) w6 := hE4.only
                      refine h0.only ho46 (fun g hg hm => ?_)
                      have e1 : g = w5.heap.size + 1 := by simpa [blkOf] using hg
                      have e2 : g = w5.heap.size := by simpa [ownL, Value.ownBlock] using hm
                      omega
                    refine oneA (i := 9) rfl (by kernel_rfl) rfl rfl (fun K hK => ?_)
                    refine step_append_rec (w := w6) rfl (.tmp 70) (.tmp 76) 34 rfl Tryz.underlying34 hti hz hi2 hi3 (by decide) (by decide) rfl hm4.2 rfl hrc (by intro r hr; rw [List.mem_singleton.1 hr]; rfl) (by intro r hr u hu; rw [List.mem_singleton.1 hr] at hu; rw [List.mem_singleton.1 hu]; rfl) (by omega) (by unfold maxLen; omega) hm4.1.size ?_
                    intro v7 w7 hE7
                    have hm7 := hm4.ext hE7
                    have HFM := Lib.hid (HMORE.out _ v7 hm7.1 hm7.2)
                    refine hK _ _ (hm7.1.cell z2 (by simp)) ?_
                    clear hK K
                    try simp only [List.setIfInBounds_toArray, List.set_cons_zero, List.set_cons_succ]
                    refine takeW (i := 10) rfl (by kernel_rfl) (by kernel_rfl) (by kernel_rfl) (fun _ _ _ h => h) rfl (by rfl) (v := v7) (fun Y hY => by go_simp) (hm7.1.cell z2 (by simp)) ?_
                    simp only [List.setIfInBounds_toArray, List.set_cons_zero, List.set_cons_succ]
                    refine wpAnyH_done (by kernel_rfl) ?_ _
                    clear hE4 hE7 hm4 hm7 hs5 hti hz hi2 hi3
                    go_wp2_with fail
                    go_meet
                    exact HFM.out
                · simp only [List.setIfInBounds_toArray, List.set_cons_zero, List.set_cons_succ]
                  refine oneW (i := 0) (v := .slice (some ⟨w5.heap.size + 1, 0, none⟩) 0 0) (w' := (w5.drew.alloc (.cells #[.slice bA bn bc] 35)).alloc (.cells #[] 35)) rfl (by kernel_rfl) rfl (by rfl) (by go_simp) sCA ?_
                  simp only [List.setIfInBounds_toArray, List.set_cons_zero, List.set_cons_succ]
                  refine oneA (i := 2) rfl (by kernel_rfl) rfl rfl (fun K hK => ?_)
                  refine step_append_rec (w := (w5.drew.alloc (.cells #[.slice bA bn bc] 35)).alloc (.cells #[] 35)) rfl (.tmp 68) (.tmp 69) 34 rfl Tryz.underlying34 hti hz hi2 hi3 (by decide) (by decide) rfl hC1.2 rfl (HREC.out.only hC1.1 (by simp)) (by intro r hr; obtain ⟨s, _, rfl⟩ := List.mem_map.1 hr; rfl) (by intro r hr u hu; obtain ⟨s, _, rfl⟩ := List.mem_map.1 hr; rw [List.mem_singleton.1 hu]; rfl) (by omega) (by unfold maxLen; omega) hC1.1.size ?_
                  intro v4 w6 hE4
                  have hm4 := hC1.ext hE4
                  refine hK _ _ (hm4.1.cell z2 (by simp)) ?_
                  clear hK K
                  try simp only [List.setIfInBounds_toArray, List.set_cons_zero, List.set_cons_succ]
                  have hrc : Recs w6 (w5.drew.heap.size + 1) 1 (some ⟨w5.heap.size, 0, none⟩) 1 [[.slice bA bn bc]] := by
                    have h0 := Recs.const1 w5.drew [.slice bA bn bc] #[.slice bA bn bc] 35 1 (0, 0) rfl rfl
                    have h1 := h0.only ((Only.refl [] _).alloc (.cells #[] 35)) (by simp)
                    have ho46 : Only (ownL (.slice (some ⟨w5.heap.size + 1, 0, none⟩) 0 0)) ((w5.drew.alloc (.cells #[.slice bA bn bc] 35)).alloc (.cells #[] 35)) w6 := hE4.only
                    refine h1.only ho46 (fun g hg hm => ?_)
                    have e1 : g = w5.heap.size := by simpa [blkOf] using hg
                    have e2 : g = w5.heap.size + 1 := by simpa [ownL, Value.ownBlock] using hm
                    omega
                  refine oneA (i := 9) rfl (by kernel_rfl) rfl rfl (fun K hK => ?_)
                  refine step_append_rec (w := w6) rfl (.tmp 70) (.tmp 76) 34 rfl Tryz.underlying34 hti hz hi2 hi3 (by decide) (by decide) rfl hm4.2 rfl hrc (by intro r hr; rw [List.mem_singleton.1 hr]; rfl) (by intro r hr u hu; rw [List.mem_singleton.1 hr] at hu; rw [List.mem_singleton.1 hu]; rfl) (by omega) (by unfold maxLen; omega) hm4.1.size ?_
                  intro v7 w7 hE7
                  have hm7 := hm4.ext hE7
                  have HFM := Lib.hid (HMORE.out _ v7 hm7.1 hm7.2)
                  refine hK _ _ (hm7.1.cell z2 (by simp)) ?_
                  clear hK K
                  try simp only [List.setIfInBounds_toArray, List.set_cons_zero, List.set_cons_succ]
                  refine takeW (i := 10) rfl (by kernel_rfl) (by kernel_rfl) (by kernel_rfl) (fun _ _ _ h => h) rfl (by rfl) (v := v7) (fun Y hY => by go_simp) (hm7.1.cell z2 (by simp)) ?_
                  simp only [List.setIfInBounds_toArray, List.set_cons_zero, List.set_cons_succ]
                  refine wpAnyH_done (by kernel_rfl) ?_ _
                  clear hE4 hE7 hm4 hm7 hs5 hti hz hi2 hi3
                  go_wp2_with fail
                  go_meet
                  exact HFM.out
            case rest =>
              as_aux_lemma =>
                obtain ⟨A', c', rfl, hM2⟩ := hcut
                have HM2 := Lib.hid hM2
                have hwh := HWH.out
                have hsh : hs.length ≤ 11 + k := by have := HHL.out; omega
                have hsl : (hs ++ [bl]).length ≤ 11 + k := by rw [List.length_append]; have := HHL.out; simp; omega
                clear hM2 HMD HMO HAP
                rcases hwh with ⟨rfl, e2, e3⟩ | ⟨rfl, e2, e3⟩ | ⟨hf, e2, e3⟩
                all_goals rw [e2, e3] at HM2; clear e2 e3 HWH
                · go_wp2_with (go_at_call 14; refine (HM.out _ _).mono ?_; rintro x wn ⟨rfl, hwn⟩; have hwn := hwn.symm; subst hwn)
                  go_meet
                  exact ⟨A', n + 1, c', B, n, cn, _, _, rfl, rfl, hsl, hsh, HM2.out.swap⟩
                · have hne : ¬ hs = hs ++ [bl] := fun h => by have := congrArg List.length h; simp at this
                  have hl1 := HM2.out.lst.1
                  have hl2 := HM2.out.lst.2
                  have h100 : n ≤ 100000 := by have := hl1.len; omega
                  have HSM := Lib.hid (same6_any B A' n (n + 1) cn c' hs (hs ++ [bl]) wc hl1 hl2 h100 (by have := hl1.len; omega))
                  rw [decide_eq_false hne] at HSM
                  clear hl1 hl2 hne
                  go_wp2_with (first
                    | (go_at_call 14; refine (HM.out _ _).mono ?_; rintro x wn ⟨rfl, hwn⟩; have hwn := hwn.symm; subst hwn)
                    | (go_at_call 16; refine HSM.out.mono ?_; rintro x w6 ⟨rfl, ho6⟩; have HO6 := Lib.hid ho6; clear ho6))
                  go_meet
                  exact ⟨B, n, cn, A', n + 1, c', _, _, rfl, rfl, hsh, hsl, HM2.out.only0 HO6.out⟩
                · rcases hf with rfl | rfl
                  all_goals
                    go_wp2_with (go_at_call 14; refine (HM.out _ _).mono ?_; rintro x wn ⟨rfl, hwn⟩; have hwn := hwn.symm; subst hwn)
                    go_meet
                    exact ⟨B, n, cn, B, n, cn, _, _, rfl, rfl, hsh, hsh, HM2.out.left⟩
          · have e01 : (kind == 0 || kind == 1) = false := by
              by_cases k0 : kind = 0
              · exact absurd (.inl k0) k01
              · by_cases k1 : kind = 1
                · exact absurd (.inr k1) k01
                · rw [beq_eq_false_iff_ne.2 k0, beq_eq_false_iff_ne.2 k1]; rfl
            rw [e01]
            clear k01
            by_cases k2 : kind = 2
            · as_aux_lemma =>
                subst k2
                have HRS := Lib.hid ((HL.out.reset rfl hk60 LA Lc ss HIX.out.l HIX.out.e HLX.out.2.1 HLX.out.2.2.2).mono fun x w' h => actO h)
                rw [HNL.out] at HRS
                go_wp2_with fail
                refine HRS.out.mono ?_
                rintro x w5 ⟨f, hs2, ms2, rfl, hwh, hM⟩
                have HA := Lib.hid (hM.arg rfl HIX.out.l HIX.out.e)
                have HMD := Lib.hid hM
                have z3 := hM.out.cell HC.out.2.2.2.1 (by simp)
                clear hM
                have HA2 : Hid (Mid2 w.heap.size w w5 p g b q1 cap k B n hs LA nl (ss.map (·.l)) hs2 ms2) := Lib.hid (by rw [← HNL.out]; exact HA.out)
                have hsl : (ss.map (·.l)).length ≤ 11 + k := by rw [List.length_map]; have := HLX.out.2.1; simp only at this; omega
                have hsh : hs.length ≤ 11 + k := by have := HHL.out; omega
                clear HA HRS
                rcases hwh with ⟨rfl, rfl, rfl⟩ | ⟨rfl, rfl, rfl⟩ | ⟨hf, rfl, rfl⟩
                · go_wp2_with (go_at_call 14; refine (HM.out _ _).mono ?_; rintro x wn ⟨rfl, hwn⟩; have hwn := hwn.symm; subst hwn)
                  go_meet
                  exact ⟨LA, nl, Lc, B, n, cn, _, _, rfl, rfl, hsl, hsh, HA2.out.swap⟩
                · go_wp2_with (go_at_call 14; refine (HM.out _ _).mono ?_; rintro x wn ⟨rfl, hwn⟩; have hwn := hwn.symm; subst hwn)
                  go_meet
                  exact ⟨B, n, cn, LA, nl, Lc, _, _, rfl, rfl, hsh, hsl, HA2.out⟩
                · rcases hf with rfl | rfl
                  all_goals
                    go_wp2_with (go_at_call 14; refine (HM.out _ _).mono ?_; rintro x wn ⟨rfl, hwn⟩; have hwn := hwn.symm; subst hwn)
                    go_meet
                    exact ⟨B, n, cn, B, n, cn, _, _, rfl, rfl, hsh, hsh, HMD.out.dup⟩
            · have e2 : (kind == 2) = false := beq_eq_false_iff_ne.2 k2
              by_cases k3 : kind = 3
              · as_aux_lemma =>
                  subst k3
                  have HST := Lib.hid (HL.out.stop rfl (bits .and .i64 an 15) (i64_and_le _ _))
                  go_wp2_with fail
                  refine HST.out.mono ?_
                  rintro x w5 ⟨rfl, hM⟩
                  have HMD := Lib.hid hM
                  clear hM
                  go_wp2_with fail
                  go_meet
                  exact ⟨B, n, cn, B, n, cn, hs, hs, rfl, rfl, by have := HHL.out; omega, by have := HHL.out; omega, HMD.out.dup⟩
              · as_aux_lemma =>
                  have e3 : (kind == 3) = false := beq_eq_false_iff_ne.2 k3
                  go_wp2_with fail
                  go_meet
                  exact ⟨B, n, cn, B, n, cn, hs, hs, rfl, rfl, by have := HHL.out; omega, by have := HHL.out; omega, HL.out.mid.dup⟩
      case rest =>
        clear HL HHL HO
        obtain ⟨A3, n3, c3, A4, n4, c4, hs3, ms3, rfl, rfl, hl3, hl4, d, js, hMD⟩ := hcut
        have HMD := Lib.hid hMD
        have hO := Mid2.out ⟨d, js, hMD⟩
        have z0 := hO.cell HC.out.1 (by simp)
        have z4 := hO.cell HC.out.2.2.2.2 (by simp)
        have hlen3 := (Mid2.lst ⟨d, js, hMD⟩).1.len
        have hlen4 := (Mid2.lst ⟨d, js, hMD⟩).2.len
        have HJ := Lib.hid hMD.jdown
        have HD := Lib.hid hMD.ddown
        obtain ⟨jo, hjo⟩ : ∃ jo, js.off = jo := ⟨_, rfl⟩
        obtain ⟨dd, hdd⟩ : ∃ dd, d.off = dd := ⟨_, rfl⟩
        rw [hjo] at HJ
        rw [hdd] at HD
        have HJO := Lib.hid hjo
        have HDO := Lib.hid hdd
        clear hMD hO hjo hdd
        go_upto_region 29 with fail
        go_cut [139] (fun s wx => wx = wc ∧ ∃ BB, s = .bool BB ∧ (BB = false → jo = false ∧ dd = false))
        case first =>
          as_aux_lemma =>
            cases jo
            · by_cases k4 : kind = 4
              · subst k4
                go_wp2_with (go_at_call 19; refine HJ.out.mono ?_; rintro x wn ⟨rfl, hwn⟩; have hwn := hwn.symm; subst hwn)
                go_meet
                exact ⟨rfl, true, rfl, fun h => by cases h⟩
              · have e4 : (kind == 4) = false := beq_eq_false_iff_ne.2 k4
                go_wp2_with (first
                  | (go_at_call 19; refine HJ.out.mono ?_; rintro x wn ⟨rfl, hwn⟩; have hwn := hwn.symm; subst hwn)
                  | (go_at_call 20; refine HD.out.mono ?_; rintro x wn ⟨rfl, hwn⟩; have hwn := hwn.symm; subst hwn))
                go_meet
                exact ⟨rfl, dd, rfl, fun h => ⟨by first | rfl | trivial, h⟩⟩
            · go_wp2_with (go_at_call 19; refine HJ.out.mono ?_; rintro x wn ⟨rfl, hwn⟩; have hwn := hwn.symm; subst hwn)
              go_meet
              exact ⟨rfl, true, rfl, fun h => by cases h⟩
        case rest =>
          obtain ⟨hw, BB, rfl, hB⟩ := hcut
          subst hw
          have hn3 : n3 ≤ 100000 := by omega
          have hn4 : n4 ≤ 100000 := by omega
          cases BB
          · as_aux_lemma =>
              obtain ⟨rfl, rfl⟩ := hB rfl
              have HLN := Lib.hid (HMD.out.on HJO.out HDO.out)
              have HG := Lib.hid (HLN.out.groups (by omega))
              clear hB HMD HJ HD
              go_wp2_with fail
              refine HG.out.mono ?_
              rintro x w5 ⟨A5, n5, c5, rfl, hn5, hls5, ho5⟩
              have HLN5 := Lib.hid (HLN.out.only0 ho5)
              have HSM := Lib.hid (same6_any A5 A3 n5 n3 c5 c3 hs3 hs3 w5 hls5 HLN5.out.lst hn5 hn3)
              rw [decide_eq_true (rfl : hs3 = hs3)] at HSM
              clear hls5 ho5
              go_wp2_with fail
              refine HSM.out.mono ?_
              rintro x w6 ⟨rfl, ho6⟩
              have HLN6 := Lib.hid (HLN5.out.only0 ho6)
              clear ho6
              go_wp2_with fail
              go_roundg (gk - 1)
              case measure => omega
              case rel => exact ⟨k + 1, by omega, by go_num, q1, A3, n3, c3, hs3, rfl, rfl, by omega, HLN6.out⟩
          · as_aux_lemma =>
              clear HJ HD hB
              have HCR := Lib.hid (HMD.out.crash rfl FA nf Fc fts HNF.out (by rw [← HNF.out]; exact HIX.out.f) (by have := HLX.out.2.2.1; have := HNF.out; simp only at *; omega))
              go_wp2_with fail
              refine HCR.out.mono ?_
              rintro x w5 ⟨rfl, X, hX, hR0⟩
              have hXl : X.length ≤ 11 + k := by rcases hX with rfl | rfl <;> assumption
              have HX := Lib.hid hX
              have HOP := Lib.hid (hR0.open_ rfl hk60)
              clear hR0 hX HMD HCR
              go_wp2_with fail
              refine HOP.out.mono ?_
              rintro x w6 ⟨q2, rfl, hR2, hls3, hls4⟩
              have HR2 := Lib.hid hR2
              have HG := Lib.hid (hR2.groups (by omega))
              have H3 := Lib.hid hls3
              have H4 := Lib.hid hls4
              clear hR2 hls3 hls4 HOP
              go_wp2_with (first
                | (go_at_call 14; refine (HM.out _ _).mono ?_; rintro x wn ⟨rfl, hwn⟩; have hwn := hwn.symm; subst hwn)
                | (go_at_call 23; refine HG.out.mono ?_; rintro x w7 ⟨A7, n7, c7, rfl, hn7, hl7, ho7⟩; have HE := Lib.hid (either_any A7 A3 A4 n7 n3 n4 c7 c3 c4 X hs3 ms3 w7 hl7 (H3.out.only0 ho7) (H4.out.only0 ho7) hn7 hn3 hn4 HX.out); have HR7 := Lib.hid (HR2.out.only0 ho7); clear hl7 ho7)
                | (go_at_call 22; refine HE.out.mono ?_; rintro x w8 ⟨rfl, ho8⟩; have HR8 := Lib.hid (HR7.out.only0 ho8); clear ho8))
              clear HG H3 H4 HR2 HE HR7 HX
              go_loopw [17] (fun i wr2 => ∃ t : Nat, t ≤ 3 ∧ t ≤ m1 ∧ i = .int .i64 t ∧ Rec2 w.heap.size w wr2 p g b q2 cap k true X) (fun i _ => 3 - (intOf i).toNat)
              case atStart => exact ⟨0, by omega, by omega, rfl, HR8.out⟩
              case round =>
                as_aux_lemma =>
                  obtain ⟨t, ht3, htm, rfl, hR⟩ := hrel
                  have HRT := Lib.hid hR
                  clear HR8 hR
                  by_cases hb : t < m1 ∧ t < 3
                  · have f1 : decide ((t : Int) < (m1 : Int)) = true := decide_eq_true (by omega)
                    have f2 : decide ((t : Int) < 3) = true := decide_eq_true (by omega)
                    obtain ⟨b1, o1, hA1, _, hc1⟩ := Reads.at1 HR1.out hb.1
                    rw [List.getElem?_map, List.getElem?_eq_getElem (by rw [HFL.out]; exact hb.1)] at hc1
                    simp only [Option.map_some] at hc1
                    obtain ⟨z, hz⟩ : ∃ z, fs[t]'(by rw [HFL.out]; exact hb.1) = z := ⟨_, rfl⟩
                    rw [hz] at hc1
                    clear hz
                    have u0 := HRT.out.out.cell hc1 (by simp)
                    clear hc1
                    subst hA1
                    have HST := Lib.hid (HRT.out.stop rfl (bits .and .i64 z 3) (i64_and_le _ _))
                    go_wp2_with fail
                    refine HST.out.mono ?_
                    rintro x v1 ⟨rfl, hRa⟩
                    have HLO := Lib.hid (hRa.lose rfl hk60)
                    clear hRa HST HRT u0
                    go_wp2_with fail
                    refine HLO.out.mono ?_
                    rintro x v2 ⟨v, e, rfl, hRb⟩
                    have HCB := Lib.hid (hRb.crash rfl (some ⟨b1, o1, none⟩) m1 c1 fs HFL.out HR1.out (by omega))
                    clear hRb HLO
                    go_wp2_with fail
                    refine HCB.out.mono ?_
                    rintro x v3 ⟨rfl, hRc⟩
                    have HRC := Lib.hid hRc
                    clear hRc HCB
                    go_wp2_with fail
                    go_roundw
                    case measure => simp [intOf]; omega
                    case rel => exact ⟨t + 1, by omega, by omega, by go_num, HRC.out⟩
                  · have hf : (decide ((t : Int) < (m1 : Int)) = false ∧ decide (t < m1) = false) ∨ (decide ((t : Int) < (m1 : Int)) = true ∧ decide (t < m1) = true ∧ decide ((t : Int) < 3) = false ∧ decide (t < 3) = false) := by
                      by_cases h : t < m1
                      · exact .inr ⟨decide_eq_true (by omega), decide_eq_true h, decide_eq_false (by omega), decide_eq_false (by omega)⟩
                      · exact .inl ⟨decide_eq_false (by omega), decide_eq_false h⟩
                    clear hb
                    have HOP2 := Lib.hid (HRT.out.open_ rfl hk60)
                    clear HRT
                    rcases hf with ⟨f1, f1n⟩ | ⟨f1, f1n, f2, f3⟩
                    all_goals
                      go_wp2_with fail
                      refine HOP2.out.mono ?_
                      rintro x v1 ⟨q3, rfl, hT⟩
                      have HT := Lib.hid hT
                      clear hT HOP2
                      go_wp2_with fail
                      refine (HM.out _ _).mono ?_
                      rintro x wn ⟨rfl, hwn⟩
                      have hwn := hwn.symm
                      subst hwn
                      go_wp2_with fail
                      refine (HT.out.new_.groups (by omega)).mono ?_
                      rintro x v2 ⟨A8, n8, c8, rfl, hn8, hl8, ho8⟩
                      have HT2 := Lib.hid (HT.out.only0 ho8)
                      have HL8 := Lib.hid hl8
                      clear hl8 ho8 HT
                      go_wp2_with fail
                      refine (HT2.out.old.groups (by omega)).mono ?_
                      rintro x v3 ⟨A9, n9, c9, rfl, hn9, hl9, ho9⟩
                      have HT3 := Lib.hid (HT2.out.only0 ho9)
                      have HSM := Lib.hid (same6_any A8 A9 n8 n9 c8 c9 X X v3 (HL8.out.only0 ho9) hl9 hn8 hn9)
                      rw [decide_eq_true (rfl : X = X)] at HSM
                      clear hl9 ho9 HT2 HL8
                      go_wp2_with fail
                      refine HSM.out.mono ?_
                      rintro x v4 ⟨rfl, ho4⟩
                      have HT4 := Lib.hid (HT3.out.only0 ho4)
                      clear ho4 HT3 HSM
                      go_wp2_with fail
                      refine (HT4.out.last (by omega)).mono ?_
                      rintro x v5 ⟨A5, n5, c5, rfl, hL5⟩
                      have HL5 := Lib.hid hL5
                      clear hL5 HT4
                      go_wp2_with fail
                      go_roundg (gk - 1)
                      case measure => omega
                      case rel => exact ⟨k + 1, by omega, by go_num, q3, A5, n5, c5, X, rfl, rfl, by omega, HL5.out⟩
    · obtain rfl : k = m := by omega
      have d1 : decide ((k : Int) < (k : Int)) = false := decide_eq_false (by omega)
      have HO := Lib.hid hL.out
      clear hL
      go_wp2_with fail
      go_ret
      exact ⟨rfl, HO.out⟩
end
end Go.Proofs.YthgfmoogagldmaaGreat.Journal
