/- One function out of bytes: export.sig. -/
import Derived.Test.YtbeenfkmnchhbaaExportRight2
import Derived.Test.YtbeenfkmnchhbaaCodecR
import Derived.Test.YtbeenfkmnchhbaaRow
import Derived.Deep.RegionLaw
namespace Go.Proofs.Ytbeenfkmnchhbaa.Export
open Go.RowKit Codec
set_option linter.unusedVariables false
set_option maxRecDepth 100000
theorem typ_info : (Try.prog.info? 94).map (fun i => (i.zero, i.size, i.bytes)) = some (some (.int .u8 0), 1, 1) := by kernel_rfl
def rps : Nat → Option (List UInt8) → List Nat × Option (List UInt8)
  | 0, st => ([], st)
  | k + 1, st => ((rps k st).1 ++ [rcount 2 (rps k st).2], rcounted 2 (rps k st).2)
theorem rps_len (st : Option (List UInt8)) : ∀ k, (rps k st).1.length = k
  | 0 => rfl
  | k + 1 => by show ((rps k st).1 ++ [_]).length = _; rw [List.length_append, rps_len st k]; rfl
theorem rcount_le (m : Nat) (st : Option (List UInt8)) : rcount m st ≤ m := by unfold rcount; split <;> omega
/-- what sig reads: the name, how many parameters, they, the result; and what is left -/
def rname (st : Option (List UInt8)) : List UInt8 := rtext 16 st
def rnum (st : Option (List UInt8)) : Nat := rcount 4 (rtexted 16 st)
def rpar (st : Option (List UInt8)) : List Nat × Option (List UInt8) := rps (rnum st) (rcounted 4 (rtexted 16 st))
def rres (st : Option (List UInt8)) : Nat := rcount 2 (rpar st).2
def rleft (st : Option (List UInt8)) : Option (List UInt8) := rcounted 2 (rpar st).2
def prow (c : Nat) : List Value := [.int .u8 (c : Int)]
theorem row_ne' {w : World} {base e size n : Nat} {v : Value} {rows : List (List Value)} (h : OwnR e size w base v n rows) (g : Nat) {t : TypeId} {cs : Array Value} (hb : Blk w g t cs) (ht : t ≠ e) : g ∉ ownL v := by
  intro hg
  obtain ⟨_, h0⟩ := h.own
  rcases h0 with ⟨rfl, _⟩ | ⟨g', cap, cur, rfl, _, hh, _⟩
  · simp [ownL, Value.ownBlock] at hg
  · simp [ownL, Value.ownBlock] at hg
    subst hg
    exact Blk.ne_ (t := e) hh hb (fun h => ht h.symm) rfl
set_option maxHeartbeats 1000000 in
theorem sig_any (p : Nat) (st : Option (List UInt8)) (w : World) (h : Rd w p st) :
    Calls Try.prog 71 #[.pointer (some ⟨p, 0, none⟩)] w fun x w' => ∃ v, x = .returned (.agg #[.string (str (rname st)), v, .int .u8 (rres st : Int)]) ∧ OwnR 94 1 w' w.heap.size v (rnum st) ((rpar st).1.map prow) ∧ Rd w' p (rleft st) ∧ Only [p] w w' := by
  have hpl : p < w.heap.size := by obtain ⟨A, n, c, hb, _⟩ := h; exact hb.lt
  go_enter Try.func71, Try.ntmps71
  go_wp2_with (first
    | (go_at_call 85; refine (text_r p 16 st _ (h.later ((Only.refl [] w).alloc _) (by simp))).mono ?_; rintro x w2 ⟨rfl, hR2, ho2⟩)
    | (go_at_call 69; refine (count_any p 4 _ _ (hR2.later ((Only.refl [] w2).alloc _) (by simp))).mono ?_; rintro x w3 ⟨rfl, hR3, ho3⟩))
  have hR0 := Blk.new w 96 #[.string ⟨#[]⟩, .slice none 0 0, .int .u8 0]
  have hG0 := Blk.new w2 96 #[.string (str (rtext 16 st)), .slice none 0 0, .int .u8 0]
  have hoa : Only [p] w w2 := (((Only.refl [] w).alloc _).mono (fun g hg => by cases hg)).trans ho2 (fun g hg => .inl hg)
  have hs1 : w.heap.size + 1 ≤ w2.heap.size := by have := ho2.size; rw [World.size_alloc] at this; exact this
  have hob : Only [p] w w3 := ((hoa.alloc _)).trans ho3 (fun g hg => .inl hg)
  have hR1 := ((hR0.only ho2 (by simp; omega)).alloc (.cells #[.string (str (rtext 16 st)), .slice none 0 0, .int .u8 0] 96)).only ho3 (by simp; omega)
  have hG1 := hG0.only ho3 (by simp; omega)
  have hs3 := ho3.size
  rw [World.size_alloc] at hs3
  have hle := rcount_le 4 (rtexted 16 st)
  have HX : Hid (rnum st = rcount 4 (rtexted 16 st) ∧ rpar st = rps (rnum st) (rcounted 4 (rtexted 16 st)) ∧ rname st = rtext 16 st) := ⟨rfl, rfl, rfl⟩
  clear hR0 hG0 ho2 ho3 hoa hR2 h
  generalize rtext 16 st = nm at *
  generalize rcounted 4 (rtexted 16 st) = st3 at *
  generalize rcount 4 (rtexted 16 st) = M at *
  obtain ⟨R, hRz⟩ : ∃ R, w.heap.size = R := ⟨_, rfl⟩
  obtain ⟨G, hGz⟩ : ∃ G, w2.heap.size = G := ⟨_, rfl⟩
  rw [hRz] at hR1 hs1
  rw [hGz] at hG1 hs1 hs3
  rw [hRz, hGz]
  rw [hRz] at hpl
  have HRZ := Lib.hid hRz
  clear hRz hGz
  go_loopw [9] (fun i wr => ∃ (k : Nat) (v : Value), k ≤ M ∧ i = .int .i64 k ∧ Rd wr p (rps k st3).2 ∧ Blk wr G 96 #[.string (str nm), v, .int .u8 0] ∧ Blk wr R 96 #[.string ⟨#[]⟩, .slice none 0 0, .int .u8 0] ∧ OwnR 94 1 wr R v k ((rps k st3).1.map prow) ∧ Only [p] w wr) (fun i _ => M - (intOf i).toNat)
  case atStart => exact ⟨0, _, by omega, rfl, hR3, hG1, hR1, OwnR.nil_ _ _ _ _, hob⟩
  case round =>
    obtain ⟨k, v, hk, rfl, hRd, hG, hRb, hv, ho⟩ := hrel
    clear hR3 hG1 hR1 hob
    have hRl := hRb.lt
    have hGl := hG.lt
    by_cases hlt : k < M
    · have e1 : decide ((k : Int) < (M : Int)) = true := decide_eq_true (by omega)
      have hps : rps (k + 1) st3 = ((rps k st3).1 ++ [rcount 2 (rps k st3).2], rcounted 2 (rps k st3).2) := rfl
      have HPS := Lib.hid hps
      clear hps
      generalize rps k st3 = q at *
      obtain ⟨ql, qs⟩ := q
      simp only at hRd hv HPS
      have hc2 := rcount_le 2 qs
      have hRdd : Rd wr.drew p qs := hRd
      have hcall := count_any p 2 qs wr.drew hRdd
      generalize rcount 2 qs = cn at *
      have e2 : IntKind.u8.wrap (cn : Int) = (cn : Int) := IntWalk.u8_in _ (by omega)
      have hlv := hv.lt
      have HV := Lib.hid hv.drew
      have HGG := Lib.hid hG.drew
      have HRB := Lib.hid hRb
      have HO := Lib.hid ho
      have gd1 : wr.drew.cell? ⟨G, 1, none⟩ = some v := hG.drew.cell 1
      clear hv hG hRb ho hRd hRdd
      go_wp2_with fail
      go_region_law (first
        | (go_simp; go_at_call 69; (refine hcall.mono ?_; rintro x wc ⟨rfl, hRc, hoc⟩; have hGc := HGG.out.only hoc (by simp; omega); have hvc := HV.out.only hoc (fun g hg => by have := (hlv g hg).1; simp; omega); have gc1 : wc.cell? ⟨G, 1, none⟩ = some v := hGc.cell 1; have gc2 : (wc.alloc (.cells #[.int .u8 (cn : Int)] 94)).cell? ⟨G, 1, none⟩ = some v := (hGc.alloc _).cell 1; have hsc := hoc.size; have hszd : wr.drew.heap.size = wr.heap.size := rfl))
        | (refine step_append1 (w := wc) rfl (.tmp 12) (.tmp 16) 93 rfl Try.underlying93 typ_info rfl (by decide) rfl hvc rfl rfl (row := prow cn) rfl rfl (by intro u hu; rw [List.mem_singleton.1 hu]; rfl) (by omega) (by unfold maxLen; omega) (by omega) ?_; intro v' wd hE; have hGd := hGc.only hE.only (row_ne' hvc G hGc (by decide)); have cd : wd.cell? ⟨G, 1, none⟩ = some v := hGd.cell 1; have fd := hGd.frozen 1; obtain ⟨A', cap', rfl, _⟩ := hE.own.shape (by decide)))
      all_goals
        have hoX := (HO.out.drew.trans hoc (by simp)).trans hE.only (fun g hg => .inr (by have := (hlv g hg).1; have := HRZ.out; omega))
        have hRX := hRc.later hE.only (fun g hg => by have := (hlv g hg).1; omega)
        have hRY := fun u => hRX.later ((Only.refl [G] wd).setCell (p := ⟨G, 1, none⟩) (.inl (by simp)) u) (by simp; omega)
        have hGY := hGd.set_ 1
        have hRbd := (((HRB.out.drew).only hoc (by simp; omega)).only hE.only (row_ne' hvc R ((HRB.out.drew).only hoc (by simp; omega)) (by decide))).far (p := ⟨G, 1, none⟩) (by simp; omega)
        have hvY := fun u => hE.own.only ((Only.refl [G] wd).setCell (p := ⟨G, 1, none⟩) (.inl (by simp)) u) (fun g hg hm => by
          rw [List.mem_singleton.1 hm] at hg
          exact row_ne' hE.own G hGd (by decide) hg)
        have hoY := fun u => hoX.setCell (p := ⟨G, 1, none⟩) (.inr (by have := HRZ.out; show w.heap.size ≤ G; omega)) u
        have HA := Lib.hid (And.intro hRY (And.intro hGY (And.intro hRbd (And.intro hvY hoY))))
        clear hRY hGY hRbd hvY hoY hoX hRX hE
        go_wp2_with fail
        go_roundw
        case rel =>
          obtain ⟨z1, z2, z3, z4, z5⟩ := HA.out
          refine ⟨k + 1, _, by omega, by go_num, ?_, z2 _, z3 _, ?_, z5 _⟩
          · rw [HPS.out]; exact z1 _
          · rw [HPS.out, List.map_append]; exact z4 _
        case measure => simp [intOf]; omega
    · obtain rfl : k = M := by omega
      have e1 : decide ((k : Int) < (k : Int)) = false := decide_eq_false (by omega)
      obtain ⟨hx1, hx2, hx3⟩ := HX.out
      have hres := count_any p 2 (rpar st).2 wr (by rw [hx2, hx1]; exact hRd)
      have hrr : rcount 2 (rpar st).2 = rres st := rfl
      have hrl : rcounted 2 (rpar st).2 = rleft st := rfl
      rw [hrr, hrl] at hres
      have hc2 : rres st ≤ 2 := rcount_le 2 _
      rw [← hx1, ← hx2] at hv
      rw [hx1] at hv
      have HQ : Hid (rnum st = k ∧ str (rname st) = str nm) := ⟨hx1, by rw [hx3]⟩
      clear hx1 hx2 hx3 hrr hrl HX hRd
      obtain ⟨rs, hrs⟩ : ∃ rs, rres st = rs := ⟨_, rfl⟩
      rw [hrs] at hres hc2
      have HRS := Lib.hid hrs
      clear hrs
      have e2 : IntKind.u8.wrap (rs : Int) = (rs : Int) := IntWalk.u8_in _ (by omega)
      have HRES := Lib.hid hres
      have hlv := hv.lt
      have HQ2 := Lib.hid ho
      obtain ⟨vA, vc, rfl, _⟩ := hv.shape (by decide)
      have HV := Lib.hid hv
      clear hres
      go_wp2_with fail
      refine HRES.out.mono ?_
      rintro x wc ⟨rfl, hRc, hoc⟩
      have hGd := hG.only hoc (by simp; omega)
      have hRd := hRb.only hoc (by simp; omega)
      have g0 : wc.cell? ⟨G, 0, none⟩ = some (.string (str nm)) := hGd.cell 0
      have g1 : wc.cell? ⟨G, 1, none⟩ = some (.slice vA k vc) := hGd.cell 1
      have g2 : wc.cell? ⟨G, 2, none⟩ = some (.int .u8 0) := hGd.cell 2
      have f2 := hGd.frozen 2
      have r0 : wc.cell? ⟨R, 0, none⟩ = some (.string ⟨#[]⟩) := hRd.cell 0
      have r1 : wc.cell? ⟨R, 1, none⟩ = some (.slice none 0 0) := hRd.cell 1
      have r2 : wc.cell? ⟨R, 2, none⟩ = some (.int .u8 0) := hRd.cell 2
      have s0 := hRd.frozen 0
      have s1 := hRd.frozen 1
      have s2 := hRd.frozen 2
      have hne : R ≠ G := by omega
      have hne2 : G ≠ R := by omega
      go_wp2_with fail
      have hF := (((hRd.far (p := ⟨G, 2, none⟩) hne (.int .u8 (rs : Int))).set_ 0 (.string (str nm))).set_ 1 (.slice vA k vc)).set_ 2 (.int .u8 (rs : Int))
      have hoF : Only [G, R] wc (((((wc.setCell ⟨G, 2, none⟩ (.int .u8 (rs : Int))).setCell ⟨R, 0, none⟩ (.string (str nm))).setCell ⟨R, 1, none⟩ (.slice vA k vc)).setCell ⟨R, 2, none⟩ (.int .u8 (rs : Int)))) :=
        ((((Only.refl _ wc).setCell (p := ⟨G, 2, none⟩) (.inl (by simp)) _).setCell (p := ⟨R, 0, none⟩) (.inl (by simp)) _).setCell (p := ⟨R, 1, none⟩) (.inl (by simp)) _).setCell (p := ⟨R, 2, none⟩) (.inl (by simp)) _
      have hvw := hv.only hoc (fun g hg => by have := (hlv g hg).1; simp; omega)
      have hvF := hvw.only hoF (fun g hg hm => by
        rcases List.mem_cons.1 hm with rfl | hm
        · exact row_ne' hvw _ hGd (by decide) hg
        · rw [List.mem_singleton.1 hm] at hg
          exact row_ne' hvw _ hRd (by decide) hg)
      have hRF := hRc.later hoF (fun g hg => by simp at hg; omega)
      have hoFF := ((HQ2.out.trans hoc (fun g hg => .inl hg)).trans hoF (fun g hg => by have := HRZ.out; simp at hg; omega))
      generalize (((((wc.setCell ⟨G, 2, none⟩ (.int .u8 (rs : Int))).setCell ⟨R, 0, none⟩ (.string (str nm))).setCell ⟨R, 1, none⟩ (.slice vA k vc)).setCell ⟨R, 2, none⟩ (.int .u8 (rs : Int)))) = wf at *
      have k0 : wf.cell? ⟨R, 0, none⟩ = some (.string (str nm)) := hF.cell 0
      have k1 : wf.cell? ⟨R, 1, none⟩ = some (.slice vA k vc) := hF.cell 1
      have k2 : wf.cell? ⟨R, 2, none⟩ = some (.int .u8 (rs : Int)) := hF.cell 2
      refine bodyPost_ret (v := .agg #[.string (str nm), .slice vA k vc, .int .u8 (rs : Int)]) (by simp [results, Try.results71, go_sem, k0, k1, k2]) rfl ?_
      refine ⟨.slice vA k vc, ?_, ?_, hRF, hoFF⟩
      · rw [HQ.out.2, HRS.out]
      · rw [HQ.out.1, HRZ.out]; exact hvF
end Go.Proofs.Ytbeenfkmnchhbaa.Export
