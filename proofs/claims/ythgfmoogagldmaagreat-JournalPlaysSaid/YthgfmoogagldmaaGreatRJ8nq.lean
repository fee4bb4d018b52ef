/- The document's journal: Reset of something. PRINTED by wip/gen_rj8.py. -/
import Derived.Test.YthgfmoogagldmaaGreatRanges
import Derived.Test.YthgfmoogagldmaaGreatRJ8q
import Derived.Deep.DeepCutAuto
set_option linter.unusedVariables false
set_option maxRecDepth 100000
namespace Go.Proofs.YthgfmoogagldmaaGreat.RefD
open Go.RowKit Go.Shelf Disk Journal Go.Proofs.YthgfmoogagldmaaGreat.Frame
section
variable {w w' wr : World} {p sb sc wb base q n c : Nat} {d : DS} {X S T T' : List Nat} {A : Option Addr} {l : List UInt8} {ls : List (List UInt8)} {js : JS} {ts : List Sl}
set_option maxHeartbeats 8000000 in
theorem rjres_n (hd : IsR X w p sb sc wb base d) (h8 : 8 ≤ d.n) (hj : IsRJ X w p sb wb q js) (hqX : q ∈ X) (hh : js.half = halfD d js.half.gen) (hg : 0 ≤ js.half.gen ∧ js.half.gen ≤ 4611686018427380000) (A : Option Addr) (n c : Nat) (hl : ts.length = n) (hr : Reads w w.heap.size 1 A n (ts.map Sl.val)) (hc : n ≤ c ∧ c ≤ maxLen) (hk : Held w (q :: p :: sb :: wb :: X) ts) (h2k : ∀ s ∈ ts, s.n ≤ 2000) (hn : n ≤ 1000) (hfar : 0 < n → ∀ k ∈ blkOf A, k ∉ q :: p :: sb :: wb :: X) (hdn : d.done ≤ 4611686018427000000) (hk0 : 0 < n) (ho : js.off = false) (hre : refuseJ js (ts.map (·.l)) js.half.room = 0) {h : Half} (hhd : halfD d (js.half.gen + 1) = h) {D1 D2 D3 D4 : DS} {b1 b2 b3 b4 : Bool} (hL : LZR d h (ts.map (·.l)) = (D1, b1)) (hS : synD D1 = (D2, b2))
    (hM : wrD D2 (h.gen % 2) (putB ⟨1, h.gen, 0, 0⟩) = (D3, b3)) (hS2 : synD D3 = (D4, b4)) :
    Calls Tryz.prog 27 #[.pointer (some ⟨q, 0, none⟩), .slice A n c] w fun x w' => RAct X w p sb sc wb base q (resetJ d js (ts.map (·.l))) x w' := by
  have HK0 := Lib.hid hk0
  clear hk0
  have hrp : 0 < h.room := by rw [← hhd]; show 0 < roomD d; have := hd.n0; unfold roomD; omega
  have hres := resR hhd hrp hre hL hS hM hS2
  have HRES := Lib.hid hres
  have hfit : takesL (ts.map (·.l)) ≤ js.half.room := by
    unfold refuseJ at hre
    split at hre
    · cases hre
    · split at hre
      · cases hre
      · split at hre
        · cases hre
        · omega
  obtain ⟨A0, n0, c0, hjb, hjl⟩ := hj
  have hqf := hd.far hjb (by decide) (by decide)
  have cq0 := hjb.cell 0
  have cq1 := hjb.cell 1
  have cq3 := hjb.cell 3
  rw [ho] at cq3 hjb
  have hlig : ∀ b ∈ ts.map (·.l), b.length ≤ 1048576 := hk.light
  have HTK := Lib.hid (rtakes_any A n c w.heap.size (ts.map (·.l)) w.drew ((hk.only (T' := q :: p :: sb :: wb :: X) ((Only.refl [] w).drew) (by simp) (fun k hk => .inl hk)).gs hl hr.drew) (by omega))
  have HRO := Lib.hid (rroom_any hd.drew (by omega))
  have hroom : js.half.room = roomD d := by rw [hh]; rfl
  have hr0 : 0 ≤ roomD d ∧ roomD d ≤ 40000 ∧ 3 ≤ roomD d := by have := hd.n0; unfold roomD; omega
  have hlenm : (ts.map (·.l)).length = n := by rw [List.length_map, hl]
  have hul := takesL_le (ts.map (·.l)).length (ts.map (·.l)) hlig (Nat.le_refl _)
  rw [List.take_of_length_le (Nat.le_refl _), hlenm] at hul
  have HD := Lib.hid hd
  have HJB := Lib.hid hjb
  have HJL := Lib.hid hjl
  have HQF := Lib.hid hqf
  have HN8 := Lib.hid h8
  have HHF := Lib.hid hh
  have HRD := Lib.hid hr
  have HHE := Lib.hid hk
  have H2K := Lib.hid h2k
  have HTL := Lib.hid hl
  have HFAR := Lib.hid hfar
  have HOFF := Lib.hid ho
  have HUL : Hid (takesL (ts.map (·.l)) ≤ 20000 * (n : Int)) := Lib.hid hul.2
  have HQX := Lib.hid hqX
  have hwd := lzr_done d h (ts.map (·.l))
  rw [hL] at hwd
  simp only at hwd
  have hd2 := syn_done D1
  have hn2 := synD_n D1
  rw [hS] at hd2 hn2
  simp only at hd2 hn2
  have hd3 := wr_done D2 (h.gen % 2) (putB ⟨1, h.gen, 0, 0⟩)
  have hn3 := wrD_n D2 (h.gen % 2) (putB ⟨1, h.gen, 0, 0⟩)
  rw [hM] at hd3 hn3
  simp only at hd3 hn3
  obtain ⟨U, hU⟩ : ∃ U, takesL (ts.map (·.l)) = U := ⟨_, rfl⟩
  rw [hU] at HTK hul hfit hwd HUL
  obtain ⟨room, hrm⟩ : ∃ r, roomD d = r := ⟨_, rfl⟩
  rw [hrm] at HRO hroom hr0
  obtain ⟨full, hfull⟩ : ∃ b, decide (room < U) = b := ⟨_, rfl⟩
  rw [hroom] at hfit
  have hft : full = false := by rw [← hfull]; exact decide_eq_false (by omega)
  have HLR := Lib.hid (fun wx wy (h1 : Only [p, sb, wb] w wx) (h2 : Only [q] wx wy) => (hjl.only h1 (T' := q :: p :: sb :: wb :: X) (fun k hk => .inl (by simp at hk ⊢; omega)) (fun k hk => .inl hk)).only h2 (T' := q :: p :: sb :: wb :: X) (fun k hk => .inl (by rw [List.mem_singleton.1 hk]; simp)) (fun k hk => .inl hk))
  obtain ⟨gen0, hgn⟩ : ∃ g, js.half.gen = g := ⟨_, rfl⟩
  rw [hgn] at cq1 hjb hhd
  have HJB2 := Lib.hid hjb
  have HGN := Lib.hid hgn
  have hgg : 0 ≤ gen0 ∧ gen0 ≤ 4611686018427380000 := by rw [← hgn]; exact hg
  obtain ⟨gen, fr, room2⟩ := h
  have hh1 : gen0 + 1 = gen := congrArg Half.gen hhd
  have hh2 : room = room2 := by rw [← hrm]; exact congrArg Half.room hhd
  subst hh2
  simp only at hM hd3 hn3
  have HHD : Hid (halfD d gen = ⟨gen, fr, room⟩) := Lib.hid (by rw [← hhd, hh1])
  have HGR : Hid (0 ≤ gen ∧ gen ≤ 4611686018427387904) := Lib.hid (by omega)
  have hgw : IntKind.i64.wrap (gen0 + 1) = gen := by rw [IntKind.wrap_i64]; omega
  have hgw2 : wrap64 (gen0 + 1) = gen := by unfold wrap64; omega
  have hfrr : 0 ≤ fr ∧ fr ≤ 50000 := by
    have e : (halfD d gen).fr = fr := by rw [HHD.out]
    rw [← e]
    have hn1 := hd.n0
    unfold halfD roomD
    simp only
    have hm : gen % 2 = 0 ∨ gen % 2 = 1 := by omega
    rcases hm with hm | hm <;> rw [hm] <;> omega
  have HFRR := Lib.hid hfrr
  have HDB : Hid (d.done ≤ 4611686018427000000) := Lib.hid hdn
  have HFIT : Hid (takesL (ts.map (·.l)) ≤ 40000) := Lib.hid (by rw [hU]; omega)
  have HLZ := Lib.hid hL
  have hi64 := i64_and1 gen
  have HW0 := Lib.hid (fun (wx : World) (h : IsR X wx p sb sc wb base d) (hl0 : ts.map (·.l) = []) A n c hb hn => rwrite_0 h (show wrD d fr Journal.zeros = (D1, b1) from by have := hL; unfold LZR at this; rw [if_pos hl0] at this; exact this) A n c hb hn (by omega))
  have HFI := Lib.hid (fun (wx : World) (h : IsR X wx p sb sc wb base d) => rfirst_any h (by have := HN8.out; omega) gen HGR.out)
  rw [HHD.out] at HFI
  have HS2 := Lib.hid (fun wx (h : IsR X wx p sb sc wb base D1) => rsync_0 h hS (by omega))
  have hpl : (putB ⟨1, gen, 0, 0⟩).length ≤ 1000000 := by have := putB_len ⟨1, gen, 0, 0⟩; omega
  have HPU0 : Hid (∀ wx, Calls Tryz.prog 81 #[.agg #[.int .i64 1, .int .i64 gen, .int .i64 0, .int .i64 0]] wx fun x w' => ∃ v, x = .returned v ∧ OwnB w' wx.heap.size v (putB ⟨1, gen, 0, 0⟩).length (putB ⟨1, gen, 0, 0⟩) ∧ Only [] wx w') := Lib.hid (fun wx => rput_any ⟨1, gen, 0, 0⟩ wx)
  have HPU := HPU0
  obtain ⟨PB, hPB⟩ : ∃ m, putB ⟨1, gen, 0, 0⟩ = m := ⟨_, rfl⟩
  rw [hPB] at HPU hM hpl
  have HPBL := Lib.hid hpl
  have HW3A := Lib.hid (fun wx (h : IsR X wx p sb sc wb base D2) A n c hb hn => rwrite_0 h hM A n c hb hn (by omega))
  clear HPU0 hPB hpl
  have HS4 := Lib.hid (fun wx (h : IsR X wx p sb sc wb base D3) => rsync_0 h hS2 (by omega))
  clear hd hjb hjl hqf h8 hh hfit hre hlig hroom hU hrm ho hfar hl hr hk h2k hlenm hres hL hS hM hS2 hwd hd2 hn2 hd3 hn3 hqX hhd hgn hg hgg hh1 hdn hfrr hrp
  obtain ⟨r, hrr⟩ : ∃ r, resetJ d js (ts.map (·.l)) = r := ⟨_, rfl⟩
  rw [hrr]
  have HR := Lib.hid hrr
  clear hrr
  go_enter Tryz.func27, Tryz.ntmps27
  go_wp2_with fail
  go_loopw [5] (fun i wr => ∃ k : Nat, k ≤ n ∧ i = .int .i64 k ∧ wr = w) (fun i _ => n - (Go.RowKit.intOf i).toNat)
  case atStart => exact ⟨0, by omega, rfl, rfl⟩
  case round =>
    obtain ⟨k, hkn, rfl, hwr⟩ := hrel
    have hwr := hwr.symm
    subst hwr
    by_cases hlt : k < n
    · have e1 : decide ((k : Int) < (n : Int)) = true := decide_eq_true (by omega)
      have e1' : decide (k < n) = true := decide_eq_true hlt
      obtain ⟨b, off, hA, hbb, s, hs, hsk, hcc⟩ := Reads.sl HRD.out k hlt
      subst hA
      have h2 := H2K.out s hs
      have e2 : decide ((1048576 : Int) < (s.n : Int)) = false := decide_eq_false (by omega)
      have e2' : decide (1048576 < s.n) = false := decide_eq_false (by omega)
      clear hs hsk hbb
      go_wp2_with fail
      go_roundw
      case measure => simp [Go.RowKit.intOf]; omega
      case rel => exact ⟨k + 1, by omega, by go_num, by first | rfl | trivial⟩
    · obtain rfl : k = n := by omega
      have e1 : decide ((k : Int) < (k : Int)) = false := decide_eq_false (by omega)
      have e1' : decide (k < k) = false := decide_eq_false (by omega)
      go_wp2_with fail
      have hS : w.drew.cell? ⟨q, 0, none⟩ = some (.pointer (some ⟨p, 0, none⟩)) := cq0
      refine wp_region_hand (S := fun Y => Y.cell? ⟨q, 0, none⟩ = some (.pointer (some ⟨p, 0, none⟩))) (by kernel_rfl) ?_
      refine takeV 0 (.slice A k c) rfl rfl (by kernel_rfl) (fun Y hY => by have y0 := hY; go_simp) hS ?_; simp only [s0A, s0B, s0C]
      refine takeV 2 (.pointer (some ⟨q, 0, none⟩)) rfl rfl (by kernel_rfl) (fun Y hY => by have y0 := hY; go_simp) hS ?_; simp only [s0A, s0B, s0C]
      refine takeV 3 (.pointer (some ⟨q, 0, none⟩)) rfl rfl (by kernel_rfl) (fun Y hY => by have y0 := hY; go_simp) hS ?_; simp only [s0A, s0B, s0C]
      refine takeV 4 (.pointer (some ⟨q, 0, none⟩)) rfl rfl (by kernel_rfl) (fun Y hY => by have y0 := hY; go_simp) hS ?_; simp only [s0A, s0B, s0C]
      refine takeV 5 (.pointer (some ⟨p, 0, none⟩)) rfl rfl (by kernel_rfl) (fun Y hY => by have y0 := hY; go_simp) hS ?_; simp only [s0A, s0B, s0C]
      refine callW (i := 1) rfl (by kernel_rfl) rfl (by rfl) ?_ (HTK.out) ?_
      · go_simp
      rintro x w2 ⟨rfl, hw2⟩
      have hw2 := hw2.symm
      subst hw2
      refine ⟨_, rfl, hS, ?_⟩
      simp only [s0A, s0B, s0C]
      refine callW (i := 6) rfl (by kernel_rfl) rfl (by rfl) ?_ (HRO.out) ?_
      · go_simp
      rintro x w2 ⟨rfl, hw2⟩
      have hw2 := hw2.symm
      subst hw2
      refine ⟨_, rfl, hS, ?_⟩
      simp only [s0A, s0B, s0C]
      refine takeV 7 (.bool full) rfl rfl (by kernel_rfl) (fun Y hY => by have y0 := hY; go_simp) hS ?_; simp only [s0A, s0B, s0C]
      refine wpAnyH_done (by kernel_rfl) ?_ _
      clear hS
      subst hft
      go_wp2_with fail
      go_loopw [7, 8, 9] (fun ok at_ i wr => ∃ (j : Nat) (D : DS) (b : Bool), j ≤ k ∧ i = .int .i64 j ∧ ok = .bool b ∧ at_ = .int .i64 (takesL ((ts.map (·.l)).take j)) ∧ IsR X wr p sb sc wb base D ∧ Only [p, sb, wb] w wr ∧ D.n = d.n ∧ D.done ≤ d.done + (takesL ((ts.map (·.l)).take j) + 2 * j) ∧ LayI d ⟨gen, fr, room⟩ (ts.map (·.l)) j D b) (fun _ _ i _ => k - (Go.RowKit.intOf i).toNat)
      case atStart => exact ⟨0, d, true, by omega, rfl, rfl, rfl, HD.out.drew, (Only.refl _ _).drew, rfl, by simp [takesL], LayI.zero _ _ _⟩
      case round =>
        obtain ⟨j, D, b, hjk, rfl, rfl, rfl, hD, ho, hDn, hDd, hLI⟩ := hrel
        have HDD := Lib.hid hD
        have HO := Lib.hid ho
        have HDN := Lib.hid hDn
        have HDM := Lib.hid hDd
        have HLI := Lib.hid hLI
        have htl := takesL_take_le (ts.map (·.l)) j
        have htn := takesL_nn ((ts.map (·.l)).take j)
        have HFIT2 := HFIT.out
        clear hD ho hDn hDd hLI
        by_cases hgo : j < k ∧ b = true
        · obtain ⟨hlt, rfl⟩ := hgo
          have e1 : decide ((j : Int) < (k : Int)) = true := decide_eq_true (by omega)
          have e1' : decide (j < k) = true := decide_eq_true hlt
          obtain ⟨gb, go, hA, hgb, s, hs, hsk, hcell⟩ := Reads.sl (reads_pos HRD.out HO.out (fun h kk hkk hm => HFAR.out h kk hkk (by simp at hm ⊢; omega))) j hlt
          subst hA
          obtain ⟨s1, s2, s3, s4, s5⟩ := HHE.out s hs
          have h2 := H2K.out s hs
          have hsl := s1.len
          have hat : (ts.map (·.l))[j]? = some s.l := by rw [List.getElem?_map, hsk]; rfl
          have htk : takesL ((ts.map (·.l)).take (j + 1)) = takesL ((ts.map (·.l)).take j) + (1 + needZ (s.n : Int)) := by rw [← hsl]; exact foldl_take hat
          have hnz : 0 ≤ needZ (s.n : Int) ∧ needZ (s.n : Int) ≤ 32 := by unfold needZ; split <;> omega
          have HNE := Lib.hid (fun w => rneed_int (s.n : Int) w (by omega) (by omega))
          have cqj := HO.out.cell cq0 HQF.out
          have hjb2 := HJB.out.only HO.out HQF.out
          have hsb : Bytes wr wr.heap.size s.A s.n s.l := (s1.only_pos HO.out (fun h kk hkk hm => s5 h kk hkk (by simp at hm ⊢; omega))).more HO.out.size
          have hfar3 : 0 < s.n → ∀ k ∈ blkOf s.A, k ∉ [p, sb, wb] := fun h kk hkk hm => s5 h kk hkk (by simp at hm ⊢; omega)
          have hhf : halfD D gen = ⟨gen, fr, room⟩ := by
            rw [← HHD.out]
            unfold halfD roomD
            rw [HDN.out]
          obtain ⟨last, hlast⟩ : ∃ b, decide (j + 1 = k) = b := ⟨_, rfl⟩
          have hq1 : ((j : Int) == (k : Int) - 1) = last := by
            rw [← hlast]
            by_cases h : j + 1 = k
            · rw [decide_eq_true h]; simp; omega
            · rw [decide_eq_false h]; simp; omega
          have hws : IntKind.i64.wrap ((k : Int) - 1) = (k : Int) - 1 := by rw [IntKind.wrap_i64]; omega
          have hws2 : wrap64 ((k : Int) - 1) = (k : Int) - 1 := by unfold wrap64; omega
          obtain ⟨⟨D5, b5⟩, hW⟩ : ∃ r, writeR D ⟨gen, fr, room⟩ (takesL ((ts.map (·.l)).take j)) j s.l true last = r := ⟨_, rfl⟩
          have hwd := writeR_done D ⟨gen, fr, room⟩ (takesL ((ts.map (·.l)).take j)) j s.l true last
          rw [hW] at hwd
          simp only at hwd
          have htbs : takesB s.l = 1 + needZ (s.n : Int) := by unfold takesB; rw [hsl]
          rw [htbs] at hwd
          have HLN := Lib.hid (LayI.next HLI.out hat (by rw [← hlast, List.length_map, HTL.out]) hW)
          have hdm := HDM.out
          have hdb := HDB.out
          have h88 := HN8.out
          have HWR : Hid (Calls Tryz.prog 84 #[.pointer (some ⟨q, 0, none⟩), .int .i64 gen, .int .i64 (takesL ((ts.map (·.l)).take j)), .int .i64 (j : Int), .slice s.A s.n s.c, .bool true, .bool last] wr fun x w' => RWr X wr p sb sc wb base (D5, b5) x w') := Lib.hid (by
            have := rjwrite_m HDD.out (by rw [HDN.out]; exact h88) hjb2 gen HGR.out (takesL ((ts.map (·.l)).take j)) (by omega) j s.A s.n s.c s.l hsb h2 s2 s3 hfar3 (by omega) last
            rw [hhf, hW] at this
            exact this)
          have HTKN := Lib.hid htk
          have HWD := Lib.hid hwd
          have HFG : Hid (gb ∉ [p, sb, wb]) := Lib.hid (fun hm => HFAR.out (by omega) gb (by simp [blkOf]) (by simp at hm ⊢; omega))
          obtain ⟨tj, htj⟩ : ∃ t, takesL ((ts.map (·.l)).take j) = t := ⟨_, rfl⟩
          have HTJ := Lib.hid htj
          rw [htj] at HWR htl htn ⊢
          obtain ⟨z, hz⟩ : ∃ z, needZ (s.n : Int) = z := ⟨_, rfl⟩
          have HZ := Lib.hid hz
          rw [hz] at HNE hnz
          have hcell0 : w.cell? ⟨gb, go + j, none⟩ = some (.slice s.A s.n s.c) := by
            obtain ⟨gb2, go2, hA2, _, s', _, hsk2, hc2⟩ := Reads.sl HRD.out j hlt
            injection hA2 with hA2
            injection hA2 with e1 e2 _
            subst e1
            subst e2
            rw [hsk] at hsk2
            injection hsk2 with e3
            subst e3
            exact hc2
          clear hs hsk s1 s5 hsl hat htk hjb2 hsb hfar3 hhf hlast hW hwd htbs hdm hz htj hgb HLI h88 hdb
          go_wp2_with (first
            | (go_at_call 84; refine HWR.out.mono ?_; rintro x w5 ⟨rfl, hd5, ho5⟩; have HD5 := Lib.hid hd5; have HO5 := Lib.hid (HO.out.trans ho5 (fun k hk => .inl hk)); have hc5 := ho5.cell hcell HFG.out; clear hd5 ho5)
            | (go_at_call 83; refine (HNE.out _).mono ?_; rintro x wx ⟨rfl, hwx⟩; subst hwx))
          go_roundw
          case measure => simp [Go.RowKit.intOf]; omega
          case rel => exact ⟨j + 1, D5, b5, by omega, by go_num, rfl, by rw [HTKN.out, HTJ.out, HZ.out]; congr 1; omega, HD5.out, HO5.out, by rw [HWD.out.2]; exact HDN.out, by have h1 := HWD.out.1; have h2 := HDM.out; rw [HTKN.out]; push_cast; omega, HLN.out⟩
        · have hla := HLI.out.last (by rw [List.length_map, HTL.out]; exact hgo)
          have HLA := Lib.hid hla
          have cqj := HO.out.cell cq0 HQF.out
          clear hla
          have hne : ts.map (·.l) ≠ [] := fun h => by have h1 := congrArg List.length h; rw [List.length_map, HTL.out] at h1; have := HK0.out; simp at h1; omega
          have hDb : D1 = D ∧ b1 = b := by
            rcases HLA.out with ⟨h1, _⟩ | ⟨_, h1⟩
            · exact absurd h1 hne
            · rw [HLZ.out] at h1
              injection h1 with h1 h2
              exact ⟨h1, h2⟩
          obtain ⟨hD1, hb1⟩ := hDb
          subst hb1
          have hD1 := hD1.symm
          subst hD1
          have e7 : ((k : Int) == 0) = false := by rw [beq_eq_false_iff_ne]; have := HK0.out; omega
          have HDC := Lib.hid HDD.out
          have HOC := Lib.hid HO.out
          have cq := cqj
          clear hne htl htn HFIT2
          cases b1
          · clear hgo
            obtain ⟨eb, e8, e8'⟩ : ∃ eb, decide ((j : Int) < (k : Int)) = eb ∧ decide (j < k) = eb := ⟨decide (j < k), by by_cases h : j < k <;> simp [h], rfl⟩
            cases eb
            all_goals
              go_wp2_with fail
              have hS : wr.drew.cell? ⟨q, 0, none⟩ = some (.pointer (some ⟨p, 0, none⟩)) := cq
              refine wp_region_hand (S := fun Y => Y.cell? ⟨q, 0, none⟩ = some (.pointer (some ⟨p, 0, none⟩))) (by kernel_rfl) ?_
              refine takeV 0 (.bool false) rfl rfl (by kernel_rfl) (fun Y hY => by have y0 := hY; go_simp) hS ?_; simp only [s0A, s0B, s0C]
              refine takeV 1 (.bool true) rfl rfl (by kernel_rfl) (fun Y hY => by have y0 := hY; go_simp) hS ?_; simp only [s0A, s0B, s0C]
              refine takeV 2 (.bool true) rfl rfl (by kernel_rfl) (fun Y hY => by have y0 := hY; go_simp) hS ?_; simp only [s0A, s0B, s0C]
              refine passV 3 rfl rfl (by kernel_rfl) hS ?_; simp only [s0A, s0B, s0C]
              refine passV 4 rfl rfl (by kernel_rfl) hS ?_; simp only [s0A, s0B, s0C]
              refine passV 5 rfl rfl (by kernel_rfl) hS ?_; simp only [s0A, s0B, s0C]
              refine passV 6 rfl rfl (by kernel_rfl) hS ?_; simp only [s0A, s0B, s0C]
              refine passV 7 rfl rfl (by kernel_rfl) hS ?_; simp only [s0A, s0B, s0C]
              refine passV 8 rfl rfl (by kernel_rfl) hS ?_; simp only [s0A, s0B, s0C]
              refine takeV 9 (.bool true) rfl rfl (by kernel_rfl) (fun Y hY => by have y0 := hY; go_simp) hS ?_; simp only [s0A, s0B, s0C]
              refine takeV 10 (.bool true) rfl rfl (by kernel_rfl) (fun Y hY => by have y0 := hY; go_simp) hS ?_; simp only [s0A, s0B, s0C]
              refine passV 11 rfl rfl (by kernel_rfl) hS ?_; simp only [s0A, s0B, s0C]
              refine passV 12 rfl rfl (by kernel_rfl) hS ?_; simp only [s0A, s0B, s0C]
              refine passV 13 rfl rfl (by kernel_rfl) hS ?_; simp only [s0A, s0B, s0C]
              refine passV 14 rfl rfl (by kernel_rfl) hS ?_; simp only [s0A, s0B, s0C]
              refine passV 15 rfl rfl (by kernel_rfl) hS ?_; simp only [s0A, s0B, s0C]
              refine passV 16 rfl rfl (by kernel_rfl) hS ?_; simp only [s0A, s0B, s0C]
              refine passV 17 rfl rfl (by kernel_rfl) hS ?_; simp only [s0A, s0B, s0C]
              refine passV 18 rfl rfl (by kernel_rfl) hS ?_; simp only [s0A, s0B, s0C]
              refine passV 19 rfl rfl (by kernel_rfl) hS ?_; simp only [s0A, s0B, s0C]
              refine passV 20 rfl rfl (by kernel_rfl) hS ?_; simp only [s0A, s0B, s0C]
              refine passV 21 rfl rfl (by kernel_rfl) hS ?_; simp only [s0A, s0B, s0C]
              refine takeV 22 (.bool true) rfl rfl (by kernel_rfl) (fun Y hY => by have y0 := hY; go_simp) hS ?_; simp only [s0A, s0B, s0C]
              refine takeV 23 (.bool true) rfl rfl (by kernel_rfl) (fun Y hY => by have y0 := hY; go_simp) hS ?_; simp only [s0A, s0B, s0C]
              refine passV 24 rfl rfl (by kernel_rfl) hS ?_; simp only [s0A, s0B, s0C]
              refine passV 25 rfl rfl (by kernel_rfl) hS ?_; simp only [s0A, s0B, s0C]
              refine passV 26 rfl rfl (by kernel_rfl) hS ?_; simp only [s0A, s0B, s0C]
              refine passV 27 rfl rfl (by kernel_rfl) hS ?_; simp only [s0A, s0B, s0C]
              refine passV 28 rfl rfl (by kernel_rfl) hS ?_; simp only [s0A, s0B, s0C]
              refine passV 29 rfl rfl (by kernel_rfl) hS ?_; simp only [s0A, s0B, s0C]
              refine takeV 30 (.bool true) rfl rfl (by kernel_rfl) (fun Y hY => by have y0 := hY; go_simp) hS ?_; simp only [s0A, s0B, s0C]
              refine wpAnyH_done (by kernel_rfl) ?_ _
              have hoz : Only [p, sb, wb] w wr.drew := (HOC.out.trans ((Only.refl [p, sb, wb] wr).drew) (fun k hk => .inl hk))
              have hdz : IsR X wr.drew p sb sc wb base D := HDC.out.drew
              have HBX : Hid (Blk wr.drew q 55 #[.pointer (some ⟨p, 0, none⟩), .int .i64 gen0, .slice A0 n0 c0, .bool false]) := Lib.hid (HJB2.out.only hoz HQF.out)
              have fb := HBX.out.frozen 3
              have cb3 := HBX.out.cell 3
              have hr : r = (D, { js with off := true }, 3) := by rw [← HR.out, HRES.out]; simp
              subst hr
              have HFIN : Hid (RAct X w p sb sc wb base q (D, { js with off := true }, 3) (.returned (.int .i64 3)) (wr.drew.setCell ⟨q, 3, none⟩ (.bool true))) := Lib.hid (by
                obtain ⟨k1, k2⟩ := hdz.put1 HQF.out HQX.out (o := 3) (.bool true)
                refine ⟨rfl, ⟨A0, n0, c0, by rw [HGN.out]; exact HBX.out.set_ 3 (.bool true), HLR.out _ _ hoz k2⟩, k1, (only4 hoz).trans k2 (fun k hk => .inl (by rw [List.mem_singleton.1 hk]; simp))⟩)
              clear hoz hdz hS
              go_wp2_with fail
              go_ret
              exact HFIN.out
          have hjk : ¬ j < k := fun h => hgo ⟨h, rfl⟩
          have e8 : decide ((j : Int) < (k : Int)) = false := decide_eq_false (by omega)
          have e8' : decide (j < k) = false := decide_eq_false hjk
          clear hgo
          go_wp2_with fail
          have hS : wr.drew.cell? ⟨q, 0, none⟩ = some (.pointer (some ⟨p, 0, none⟩)) := cq
          refine wp_region_hand (S := fun Y => Y.cell? ⟨q, 0, none⟩ = some (.pointer (some ⟨p, 0, none⟩))) (by kernel_rfl) ?_
          refine takeV 0 (.bool true) rfl rfl (by kernel_rfl) (fun Y hY => by have y0 := hY; go_simp) hS ?_; simp only [s0A, s0B, s0C]
          refine takeV 1 (.bool false) rfl rfl (by kernel_rfl) (fun Y hY => by have y0 := hY; go_simp) hS ?_; simp only [s0A, s0B, s0C]
          refine takeV 2 (.bool false) rfl rfl (by kernel_rfl) (fun Y hY => by have y0 := hY; go_simp) hS ?_; simp only [s0A, s0B, s0C]
          refine takeV 3 (.pointer (some ⟨q, 0, none⟩)) rfl rfl (by kernel_rfl) (fun Y hY => by have y0 := hY; go_simp) hS ?_; simp only [s0A, s0B, s0C]
          refine takeV 4 (.pointer (some ⟨q, 0, none⟩)) rfl rfl (by kernel_rfl) (fun Y hY => by have y0 := hY; go_simp) hS ?_; simp only [s0A, s0B, s0C]
          refine takeV 5 (.pointer (some ⟨q, 0, none⟩)) rfl rfl (by kernel_rfl) (fun Y hY => by have y0 := hY; go_simp) hS ?_; simp only [s0A, s0B, s0C]
          refine takeV 6 (.pointer (some ⟨p, 0, none⟩)) rfl rfl (by kernel_rfl) (fun Y hY => by have y0 := hY; go_simp) hS ?_; simp only [s0A, s0B, s0C]
          refine callW (i := 7) rfl (by kernel_rfl) rfl (by rfl) ?_ (HS2.out wr.drew HDC.out.drew) ?_
          · go_simp
          rintro x w2 ⟨e2, rfl, he2, he2n, hd2, ho2⟩
          have HD2 := Lib.hid hd2
          have HO2 := Lib.hid (((HOC.out).trans ((Only.refl [p, sb, wb] _).drew) (fun k hk => .inl hk)).trans ho2 (fun k hk => .inl hk))
          have hS2 : w2.cell? ⟨q, 0, none⟩ = some (.pointer (some ⟨p, 0, none⟩)) := ho2.cell hS HQF.out
          clear hd2 ho2
          refine ⟨_, rfl, hS2, ?_⟩
          simp only [s0A, s0B, s0C]
          cases b2
          · have he2n : (e2 != 0) = true := he2n
            refine takeV 8 (.bool true) rfl rfl (by kernel_rfl) (fun Y hY => by have y0 := hY; go_simp) hS2 ?_; simp only [s0A, s0B, s0C]
            refine takeV 9 (.bool true) rfl rfl (by kernel_rfl) (fun Y hY => by have y0 := hY; go_simp) hS2 ?_; simp only [s0A, s0B, s0C]
            refine takeV 10 (.bool true) rfl rfl (by kernel_rfl) (fun Y hY => by have y0 := hY; go_simp) hS2 ?_; simp only [s0A, s0B, s0C]
            refine passV 11 rfl rfl (by kernel_rfl) hS2 ?_; simp only [s0A, s0B, s0C]
            refine passV 12 rfl rfl (by kernel_rfl) hS2 ?_; simp only [s0A, s0B, s0C]
            refine passV 13 rfl rfl (by kernel_rfl) hS2 ?_; simp only [s0A, s0B, s0C]
            refine passV 14 rfl rfl (by kernel_rfl) hS2 ?_; simp only [s0A, s0B, s0C]
            refine passV 15 rfl rfl (by kernel_rfl) hS2 ?_; simp only [s0A, s0B, s0C]
            refine passV 16 rfl rfl (by kernel_rfl) hS2 ?_; simp only [s0A, s0B, s0C]
            refine passV 17 rfl rfl (by kernel_rfl) hS2 ?_; simp only [s0A, s0B, s0C]
            refine passV 18 rfl rfl (by kernel_rfl) hS2 ?_; simp only [s0A, s0B, s0C]
            refine passV 19 rfl rfl (by kernel_rfl) hS2 ?_; simp only [s0A, s0B, s0C]
            refine passV 20 rfl rfl (by kernel_rfl) hS2 ?_; simp only [s0A, s0B, s0C]
            refine passV 21 rfl rfl (by kernel_rfl) hS2 ?_; simp only [s0A, s0B, s0C]
            refine takeV 22 (.bool true) rfl rfl (by kernel_rfl) (fun Y hY => by have y0 := hY; go_simp) hS2 ?_; simp only [s0A, s0B, s0C]
            refine takeV 23 (.bool true) rfl rfl (by kernel_rfl) (fun Y hY => by have y0 := hY; go_simp) hS2 ?_; simp only [s0A, s0B, s0C]
            refine passV 24 rfl rfl (by kernel_rfl) hS2 ?_; simp only [s0A, s0B, s0C]
            refine passV 25 rfl rfl (by kernel_rfl) hS2 ?_; simp only [s0A, s0B, s0C]
            refine passV 26 rfl rfl (by kernel_rfl) hS2 ?_; simp only [s0A, s0B, s0C]
            refine passV 27 rfl rfl (by kernel_rfl) hS2 ?_; simp only [s0A, s0B, s0C]
            refine passV 28 rfl rfl (by kernel_rfl) hS2 ?_; simp only [s0A, s0B, s0C]
            refine passV 29 rfl rfl (by kernel_rfl) hS2 ?_; simp only [s0A, s0B, s0C]
            refine takeV 30 (.bool true) rfl rfl (by kernel_rfl) (fun Y hY => by have y0 := hY; go_simp) hS2 ?_; simp only [s0A, s0B, s0C]
            refine wpAnyH_done (by kernel_rfl) ?_ _
            have hoz : Only [p, sb, wb] w w2 := HO2.out
            have hdz : IsR X w2 p sb sc wb base D2 := HD2.out
            have HBX : Hid (Blk w2 q 55 #[.pointer (some ⟨p, 0, none⟩), .int .i64 gen0, .slice A0 n0 c0, .bool false]) := Lib.hid (HJB2.out.only hoz HQF.out)
            have fb := HBX.out.frozen 3
            have cb3 := HBX.out.cell 3
            have hr : r = (D2, { js with off := true }, 3) := by rw [← HR.out, HRES.out]; simp
            subst hr
            have HFIN : Hid (RAct X w p sb sc wb base q (D2, { js with off := true }, 3) (.returned (.int .i64 3)) (w2.setCell ⟨q, 3, none⟩ (.bool true))) := Lib.hid (by
              obtain ⟨k1, k2⟩ := hdz.put1 HQF.out HQX.out (o := 3) (.bool true)
              refine ⟨rfl, ⟨A0, n0, c0, by rw [HGN.out]; exact HBX.out.set_ 3 (.bool true), HLR.out _ _ hoz k2⟩, k1, (only4 hoz).trans k2 (fun k hk => .inl (by rw [List.mem_singleton.1 hk]; simp))⟩)
            clear hoz hdz hS
            go_wp2_with fail
            go_ret
            exact HFIN.out
          have he2n : (e2 != 0) = false := he2n
          refine takeV 8 (.bool false) rfl rfl (by kernel_rfl) (fun Y hY => by have y0 := hY; go_simp) hS2 ?_; simp only [s0A, s0B, s0C]
          refine takeV 9 (.bool false) rfl rfl (by kernel_rfl) (fun Y hY => by have y0 := hY; go_simp) hS2 ?_; simp only [s0A, s0B, s0C]
          refine takeV 10 (.bool false) rfl rfl (by kernel_rfl) (fun Y hY => by have y0 := hY; go_simp) hS2 ?_; simp only [s0A, s0B, s0C]
          refine takeV 11 (.pointer (some ⟨q, 0, none⟩)) rfl rfl (by kernel_rfl) (fun Y hY => by have y0 := hY; go_simp) hS2 ?_; simp only [s0A, s0B, s0C]
          refine takeV 12 (.pointer (some ⟨q, 0, none⟩)) rfl rfl (by kernel_rfl) (fun Y hY => by have y0 := hY; go_simp) hS2 ?_; simp only [s0A, s0B, s0C]
          refine takeV 13 (.pointer (some ⟨q, 0, none⟩)) rfl rfl (by kernel_rfl) (fun Y hY => by have y0 := hY; go_simp) hS2 ?_; simp only [s0A, s0B, s0C]
          refine takeV 14 (.pointer (some ⟨p, 0, none⟩)) rfl rfl (by kernel_rfl) (fun Y hY => by have y0 := hY; go_simp) hS2 ?_; simp only [s0A, s0B, s0C]
          refine takeV 15 (.int .i64 gen) rfl rfl (by kernel_rfl) (fun Y hY => by have y0 := hY; go_simp) hS2 ?_; simp only [s0A, s0B, s0C]
          refine takeV 16 (.int .i64 (gen % 2)) rfl rfl (by kernel_rfl) (fun Y hY => by have y0 := hY; go_simp) hS2 ?_; simp only [s0A, s0B, s0C]
          refine takeV 17 (.int .i64 gen) rfl rfl (by kernel_rfl) (fun Y hY => by have y0 := hY; go_simp) hS2 ?_; simp only [s0A, s0B, s0C]
          refine takeV 18 (.agg #[.int .i64 1, .int .i64 gen, .int .i64 0, .int .i64 0]) rfl rfl (by kernel_rfl) (fun Y hY => by have y0 := hY; go_simp) hS2 ?_; simp only [s0A, s0B, s0C]
          refine callW (i := 19) rfl (by kernel_rfl) rfl (by rfl) ?_ (HPU.out w2) ?_
          · go_simp
          rintro x w5 ⟨v5, rfl, hown5, ho5⟩
          obtain ⟨A5, c5, rfl, _, _, hb5, _⟩ := hown5.shape
          have hS5 : w5.cell? ⟨q, 0, none⟩ = some (.pointer (some ⟨p, 0, none⟩)) := ho5.cell hS2 (by simp)
          have HW3 := Lib.hid (HW3A.out w5 (HD2.out.only0 ho5) A5 _ c5 hb5 HPBL.out)
          have HO25 := Lib.hid (HO2.out.trans (ho5.mono (by simp)) (fun k hk => .inl hk))
          clear hown5 hb5 ho5
          refine ⟨_, rfl, hS5, ?_⟩
          simp only [s0A, s0B, s0C]
          refine callW (i := 20) rfl (by kernel_rfl) rfl (by rfl) ?_ (HW3.out) ?_
          · go_simp
          rintro x w6 ⟨e6, rfl, he6, he6n, hd6, ho6⟩
          have HD6 := Lib.hid hd6
          have HO6 := Lib.hid (HO25.out.trans ho6 (fun k hk => .inl hk))
          have hS6 : w6.cell? ⟨q, 0, none⟩ = some (.pointer (some ⟨p, 0, none⟩)) := ho6.cell hS5 HQF.out
          clear hd6 ho6
          refine ⟨_, rfl, hS6, ?_⟩
          simp only [s0A, s0B, s0C]
          cases b3
          · have he6n : (e6 != 0) = true := he6n
            refine takeV 21 (.bool true) rfl rfl (by kernel_rfl) (fun Y hY => by have y0 := hY; go_simp) hS6 ?_; simp only [s0A, s0B, s0C]
            refine takeV 22 (.bool true) rfl rfl (by kernel_rfl) (fun Y hY => by have y0 := hY; go_simp) hS6 ?_; simp only [s0A, s0B, s0C]
            refine takeV 23 (.bool true) rfl rfl (by kernel_rfl) (fun Y hY => by have y0 := hY; go_simp) hS6 ?_; simp only [s0A, s0B, s0C]
            refine passV 24 rfl rfl (by kernel_rfl) hS6 ?_; simp only [s0A, s0B, s0C]
            refine passV 25 rfl rfl (by kernel_rfl) hS6 ?_; simp only [s0A, s0B, s0C]
            refine passV 26 rfl rfl (by kernel_rfl) hS6 ?_; simp only [s0A, s0B, s0C]
            refine passV 27 rfl rfl (by kernel_rfl) hS6 ?_; simp only [s0A, s0B, s0C]
            refine passV 28 rfl rfl (by kernel_rfl) hS6 ?_; simp only [s0A, s0B, s0C]
            refine passV 29 rfl rfl (by kernel_rfl) hS6 ?_; simp only [s0A, s0B, s0C]
            refine takeV 30 (.bool true) rfl rfl (by kernel_rfl) (fun Y hY => by have y0 := hY; go_simp) hS6 ?_; simp only [s0A, s0B, s0C]
            refine wpAnyH_done (by kernel_rfl) ?_ _
            have hoz : Only [p, sb, wb] w w6 := HO6.out
            have hdz : IsR X w6 p sb sc wb base D3 := HD6.out
            have HBX : Hid (Blk w6 q 55 #[.pointer (some ⟨p, 0, none⟩), .int .i64 gen0, .slice A0 n0 c0, .bool false]) := Lib.hid (HJB2.out.only hoz HQF.out)
            have fb := HBX.out.frozen 3
            have cb3 := HBX.out.cell 3
            have hr : r = (D3, { js with off := true }, 3) := by rw [← HR.out, HRES.out]; simp
            subst hr
            have HFIN : Hid (RAct X w p sb sc wb base q (D3, { js with off := true }, 3) (.returned (.int .i64 3)) (w6.setCell ⟨q, 3, none⟩ (.bool true))) := Lib.hid (by
              obtain ⟨k1, k2⟩ := hdz.put1 HQF.out HQX.out (o := 3) (.bool true)
              refine ⟨rfl, ⟨A0, n0, c0, by rw [HGN.out]; exact HBX.out.set_ 3 (.bool true), HLR.out _ _ hoz k2⟩, k1, (only4 hoz).trans k2 (fun k hk => .inl (by rw [List.mem_singleton.1 hk]; simp))⟩)
            clear hoz hdz hS
            go_wp2_with fail
            go_ret
            exact HFIN.out
          have he6n : (e6 != 0) = false := he6n
          refine takeV 21 (.bool false) rfl rfl (by kernel_rfl) (fun Y hY => by have y0 := hY; go_simp) hS6 ?_; simp only [s0A, s0B, s0C]
          refine takeV 22 (.bool false) rfl rfl (by kernel_rfl) (fun Y hY => by have y0 := hY; go_simp) hS6 ?_; simp only [s0A, s0B, s0C]
          refine takeV 23 (.bool false) rfl rfl (by kernel_rfl) (fun Y hY => by have y0 := hY; go_simp) hS6 ?_; simp only [s0A, s0B, s0C]
          refine takeV 24 (.pointer (some ⟨q, 0, none⟩)) rfl rfl (by kernel_rfl) (fun Y hY => by have y0 := hY; go_simp) hS6 ?_; simp only [s0A, s0B, s0C]
          refine takeV 25 (.pointer (some ⟨q, 0, none⟩)) rfl rfl (by kernel_rfl) (fun Y hY => by have y0 := hY; go_simp) hS6 ?_; simp only [s0A, s0B, s0C]
          refine takeV 26 (.pointer (some ⟨q, 0, none⟩)) rfl rfl (by kernel_rfl) (fun Y hY => by have y0 := hY; go_simp) hS6 ?_; simp only [s0A, s0B, s0C]
          refine takeV 27 (.pointer (some ⟨p, 0, none⟩)) rfl rfl (by kernel_rfl) (fun Y hY => by have y0 := hY; go_simp) hS6 ?_; simp only [s0A, s0B, s0C]
          refine callW (i := 28) rfl (by kernel_rfl) rfl (by rfl) ?_ (HS4.out w6 HD6.out) ?_
          · go_simp
          rintro x w7 ⟨e7, rfl, he7, he7n, hd7, ho7⟩
          have HD7 := Lib.hid hd7
          have HO7 := Lib.hid (HO6.out.trans ho7 (fun k hk => .inl hk))
          have hS7 : w7.cell? ⟨q, 0, none⟩ = some (.pointer (some ⟨p, 0, none⟩)) := ho7.cell hS6 HQF.out
          clear hd7 ho7
          refine ⟨_, rfl, hS7, ?_⟩
          simp only [s0A, s0B, s0C]
          cases b4
          · have he7n : (e7 != 0) = true := he7n
            refine takeV 29 (.bool true) rfl rfl (by kernel_rfl) (fun Y hY => by have y0 := hY; go_simp) hS7 ?_; simp only [s0A, s0B, s0C]
            refine takeV 30 (.bool true) rfl rfl (by kernel_rfl) (fun Y hY => by have y0 := hY; go_simp) hS7 ?_; simp only [s0A, s0B, s0C]
            refine wpAnyH_done (by kernel_rfl) ?_ _
            have hoz : Only [p, sb, wb] w w7 := HO7.out
            have hdz : IsR X w7 p sb sc wb base D4 := HD7.out
            have HBX : Hid (Blk w7 q 55 #[.pointer (some ⟨p, 0, none⟩), .int .i64 gen0, .slice A0 n0 c0, .bool false]) := Lib.hid (HJB2.out.only hoz HQF.out)
            have fb := HBX.out.frozen 3
            have cb3 := HBX.out.cell 3
            have hr : r = (D4, { js with off := true }, 3) := by rw [← HR.out, HRES.out]; simp
            subst hr
            have HFIN : Hid (RAct X w p sb sc wb base q (D4, { js with off := true }, 3) (.returned (.int .i64 3)) (w7.setCell ⟨q, 3, none⟩ (.bool true))) := Lib.hid (by
              obtain ⟨k1, k2⟩ := hdz.put1 HQF.out HQX.out (o := 3) (.bool true)
              refine ⟨rfl, ⟨A0, n0, c0, by rw [HGN.out]; exact HBX.out.set_ 3 (.bool true), HLR.out _ _ hoz k2⟩, k1, (only4 hoz).trans k2 (fun k hk => .inl (by rw [List.mem_singleton.1 hk]; simp))⟩)
            clear hoz hdz hS
            go_wp2_with fail
            go_ret
            exact HFIN.out
          have he7n : (e7 != 0) = false := he7n
          refine takeV 29 (.bool false) rfl rfl (by kernel_rfl) (fun Y hY => by have y0 := hY; go_simp) hS7 ?_; simp only [s0A, s0B, s0C]
          refine takeV 30 (.bool false) rfl rfl (by kernel_rfl) (fun Y hY => by have y0 := hY; go_simp) hS7 ?_; simp only [s0A, s0B, s0C]
          refine wpAnyH_done (by kernel_rfl) ?_ _
          have hr : r = (D4, { js with half := ⟨gen, fr, room⟩, l := ts.map (·.l) }, 0) := by rw [← HR.out, HRES.out]; simp
          subst hr
          have HBX : Hid (Blk w7 q 55 #[.pointer (some ⟨p, 0, none⟩), .int .i64 gen0, .slice A0 n0 c0, .bool false]) := Lib.hid (HJB2.out.only HO7.out HQF.out)
          obtain ⟨w8, hw8⟩ : ∃ w8, w7.setCell ⟨q, 1, none⟩ (.int .i64 gen) = w8 := ⟨_, rfl⟩
          obtain ⟨w9, hw9⟩ : ∃ w9, w8.setCell ⟨q, 2, none⟩ (.slice none 0 0) = w9 := ⟨_, rfl⟩
          have hb8 : Blk w8 q 55 #[.pointer (some ⟨p, 0, none⟩), .int .i64 gen, .slice A0 n0 c0, .bool false] := by rw [← hw8]; exact HBX.out.set_ 1 _
          have hb9 : Blk w9 q 55 #[.pointer (some ⟨p, 0, none⟩), .int .i64 gen, .slice none 0 0, .bool false] := by rw [← hw9]; exact hb8.set_ 2 _
          have hp8 := HD7.out.put1 HQF.out HQX.out (o := 1) (.int .i64 gen)
          rw [hw8] at hp8
          have hp9 := hp8.1.put1 HQF.out HQX.out (o := 2) (.slice none 0 0)
          rw [hw9] at hp9
          have HO9 : Hid (Only [p, sb, wb, q] w w9) := Lib.hid (((only4 HO7.out).trans hp8.2 (fun k hk => .inl (by rw [List.mem_singleton.1 hk]; simp))).trans hp9.2 (fun k hk => .inl (by rw [List.mem_singleton.1 hk]; simp)))
          have HD9 := Lib.hid hp9.1
          have HB9 := Lib.hid hb9
          have f7 := HBX.out.frozen 1
          have c7 := HBX.out.cell 1
          have f8 := hb8.frozen 2
          have c8 := hb8.cell 2
          have HQ9 : Hid (q < w9.heap.size) := Lib.hid hb9.lt
          have HH9 : Hid (Held w9 (q :: p :: sb :: wb :: X) ts) := Lib.hid (HHE.out.only HO9.out (fun k hk => .inl (by simp at hk ⊢; omega)) (fun k hk => .inl hk))
          have HR9 : Hid (Reads w9 w9.heap.size 1 A k (ts.map Sl.val)) := Lib.hid ((reads_pos HRD.out HO9.out (fun h kk hkk hm => HFAR.out h kk hkk (by simp at hm ⊢; omega))).more HO9.out.size)
          have HT9 : Hid (∀ kk ∈ q :: p :: sb :: wb :: X, kk < w9.heap.size) := Lib.hid (fun kk hk => by
            have h1 := HD9.out.lt3
            have h3 := HD9.out.xlt
            have h2 := HQ9.out
            simp only [List.mem_cons] at hk
            rcases hk with e | e | e | e | e
            · omega
            · exact h1 kk (by simp [e])
            · exact h1 kk (by simp [e])
            · exact h1 kk (by simp [e])
            · exact h3 kk e)
          clear hb8 hb9 hp8 hp9 hS hS2 hS5 hS6 hS7 he2 he2n he6 he6n he7 he7n
          go_wp2_with fail
          go_loopw [10] (fun iv wr => ∃ (i : Nat) (Av : Option Addr) (cv : Nat) (us : List Sl), i ≤ k ∧ iv = .int .i64 i ∧ us.length = i ∧ Blk wr q 55 #[.pointer (some ⟨p, 0, none⟩), .int .i64 gen, .slice Av i cv, .bool false] ∧ OwnR 35 1 wr w9.heap.size (.slice Av i cv) i (us.map fun s => [s.val]) ∧ us.map (·.l) = (ts.take i).map (·.l) ∧ (∀ u ∈ us, Bytes wr wr.heap.size u.A u.n u.l ∧ u.n ≤ u.c ∧ u.c ≤ maxLen ∧ u.n ≤ 1048576 ∧ (∀ b ∈ blkOf u.A, w9.heap.size ≤ b) ∧ (0 < u.n → ∀ b ∈ blkOf u.A, b ∉ ownL (.slice Av i cv))) ∧ Only [q] w9 wr) (fun iv _ => k - (Go.RowKit.intOf iv).toNat)
          case atStart => exact ⟨0, none, 0, [], by omega, rfl, rfl, HB9.out, OwnR.nil_ _ _ _ _, by simp, by simp, Only.refl _ _⟩
          case round =>
            obtain ⟨i, Av, cv, us, hik, rfl, hul, hbk, hown, hmap, hus, hoz⟩ := hrel
            have HUL2 := Lib.hid hul
            have HBK := Lib.hid hbk
            have HOWN := Lib.hid hown
            have HMAP := Lib.hid hmap
            have HUS := Lib.hid hus
            have HOZ := Lib.hid hoz
            have HSZ : Hid (w9.heap.size ≤ wr.heap.size) := Lib.hid hoz.size
            by_cases hil : i < k
            · have e1 : decide ((i : Int) < (k : Int)) = true := decide_eq_true (by omega)
              have e1' : decide (i < k) = true := decide_eq_true hil
              obtain ⟨gb, go, hA, hgb, s, hs, hsk, hcell⟩ := Reads.sl (reads_pos HR9.out hoz (fun h kk hkk hm => HFAR.out h kk hkk (by rw [List.mem_singleton.1 hm]; simp))) i hil
              subst hA
              obtain ⟨s1, s2, s3, s4, s5⟩ := HH9.out s hs
              have HSB : Hid (Bytes wr wr.heap.size s.A s.n s.l) := Lib.hid ((s1.only_pos hoz (fun h kk hkk hm => s5 h kk hkk (by rw [List.mem_singleton.1 hm]; simp))).more hoz.size)
              have HSN : Hid (s.n ≤ 2000) := Lib.hid (H2K.out s hs)
              have hgq : gb ≠ q := fun e => HFAR.out (by omega) gb (by simp [blkOf]) (by rw [e]; simp)
              have hqv : q ∉ ownL (.slice Av i cv) := row_ne hown q hbk (by decide)
              have hgv : gb ∉ ownL (.slice Av i cv) := fun hm => by
                have h1 := (hown.lt gb hm).1
                have h2 := reads_lt' HR9.out (by omega) gb (by simp [blkOf])
                omega
              have hq0 : wr.drew.cell? ⟨q, 2, none⟩ = some (.slice Av i cv) := hbk.cell 2
              have hq0b : wr.cell? ⟨q, 2, none⟩ = some (.slice Av i cv) := hbk.cell 2
              have hS : wr.drew.cell? ⟨gb, go + i, none⟩ = some (.slice s.A s.n s.c) := hcell
              have HNX : Hid (∀ (w2 : World) (A2 : Option Addr) (c2 : Nat), Only [] wr w2 → Bytes w2 w2.heap.size A2 s.n s.l → s.n ≤ c2 → c2 ≤ maxLen → ((A2 = none ∧ c2 = 0) ∨ ∃ g, A2 = some ⟨g, 0, none⟩ ∧ wr.heap.size ≤ g ∧ g < w2.heap.size) →
                  ∀ (w3 : World) (A3 : Option Addr) (c3 : Nat), ExtR 35 1 w2 w3 w9.heap.size (.slice Av i cv) (.slice A3 (i + 1) c3) (i + 1) ((us.map fun s => [s.val]) ++ [[.slice A2 s.n c2]]) →
                  ((us ++ [(⟨A2, s.n, c2, s.l⟩ : Sl)]).length = i + 1 ∧ Blk (w3.setCell ⟨q, 2, none⟩ (.slice A3 (i + 1) c3)) q 55 #[.pointer (some ⟨p, 0, none⟩), .int .i64 gen, .slice A3 (i + 1) c3, .bool false] ∧ OwnR 35 1 (w3.setCell ⟨q, 2, none⟩ (.slice A3 (i + 1) c3)) w9.heap.size (.slice A3 (i + 1) c3) (i + 1) ((us ++ [(⟨A2, s.n, c2, s.l⟩ : Sl)]).map fun s => [s.val]) ∧ (us ++ [(⟨A2, s.n, c2, s.l⟩ : Sl)]).map (·.l) = (ts.take (i + 1)).map (·.l) ∧ (∀ u ∈ us ++ [(⟨A2, s.n, c2, s.l⟩ : Sl)], Bytes (w3.setCell ⟨q, 2, none⟩ (.slice A3 (i + 1) c3)) (w3.setCell ⟨q, 2, none⟩ (.slice A3 (i + 1) c3)).heap.size u.A u.n u.l ∧ u.n ≤ u.c ∧ u.c ≤ maxLen ∧ u.n ≤ 1048576 ∧ (∀ b ∈ blkOf u.A, w9.heap.size ≤ b) ∧ (0 < u.n → ∀ b ∈ blkOf u.A, b ∉ ownL (.slice A3 (i + 1) c3))) ∧ Only [q] w9 (w3.setCell ⟨q, 2, none⟩ (.slice A3 (i + 1) c3))) ∧ Blk w3 q 55 #[.pointer (some ⟨p, 0, none⟩), .int .i64 gen, .slice Av i cv, .bool false] ∧ w3.cell? ⟨gb, go + i, none⟩ = some (.slice s.A s.n s.c) ∧ (w3.setCell ⟨q, 2, none⟩ (.slice A3 (i + 1) c3)).cell? ⟨gb, go + i, none⟩ = some (.slice s.A s.n s.c)) := Lib.hid (by
                intro w2 A2 c2 ho2 hb2 hn2 hc2 hA2 w3 A3 c3 hE
                have hbk3 := (HBK.out.only ho2 (by simp)).only hE.only hqv
                have hset : Only [q] w3 (w3.setCell ⟨q, 2, none⟩ (.slice A3 (i + 1) c3)) := (Only.refl [q] w3).setCell (p := ⟨q, 2, none⟩) (.inl (by simp)) _
                have hcl3 : w3.cell? ⟨gb, go + i, none⟩ = some (.slice s.A s.n s.c) := hE.only.cell (ho2.cell hcell (by simp)) hgv
                have hqv3 : q ∉ ownL (.slice A3 (i + 1) c3) := row_ne hE.own q hbk3 (by decide)
                have h2sz := ho2.size
                have h3sz := hE.only.size
                have hqz := HBK.out.lt
                have self : ∀ u : Sl, Bytes w2 w2.heap.size u.A u.n u.l → (0 < u.n → ∀ b ∈ blkOf u.A, b ∉ ownL (.slice Av i cv)) → 0 < u.n → ∀ b ∈ blkOf u.A, b ∉ ownL (.slice A3 (i + 1) c3) := fun u h1 h2 hn k hk hm => by
                  rcases hE.fresh k hm with e | e
                  · exact h2 hn k hk e
                  · have := bytes_lt h1 hn k hk; omega
                have new : 0 < s.n → ∀ b ∈ blkOf A2, b ∉ ownL (.slice Av i cv) := fun hn k hk hm => by
                  have h1 := (HOWN.out.lt k hm).2
                  rcases hA2 with ⟨h2, _⟩ | ⟨g, h2, h3, _⟩
                  · subst h2; cases hk
                  · subst h2
                    simp [blkOf] at hk
                    omega
                have fin : ∀ u : Sl, Bytes w2 w2.heap.size u.A u.n u.l → (0 < u.n → ∀ b ∈ blkOf u.A, b ∉ ownL (.slice Av i cv)) → (∀ b ∈ blkOf u.A, b ≠ q) → Bytes (w3.setCell ⟨q, 2, none⟩ (.slice A3 (i + 1) c3)) (w3.setCell ⟨q, 2, none⟩ (.slice A3 (i + 1) c3)).heap.size u.A u.n u.l := fun u h1 h2 h3 =>
                  ((((h1.only_pos hE.only h2).more hE.only.size).only hset (fun k hk hm => h3 k hk (List.mem_singleton.1 hm)))).more hset.size
                refine ⟨⟨by rw [List.length_append, HUL2.out]; rfl, hbk3.set_ 2 _, ?_, ?_, ?_, ((HOZ.out.trans (ho2.mono (S' := [q]) (by simp)) (fun k hk => .inl hk)).trans hE.only (fun g hg => .inr ?_)).trans hset (fun k hk => .inl hk)⟩, hbk3, hcl3, hset.cell hcl3 (by simpa using hgq)⟩
                · rw [List.map_append]
                  exact hE.own.only hset (fun g hg hm => hqv3 (by rw [List.mem_singleton.1 hm] at hg; exact hg))
                · obtain ⟨hks, hks2⟩ := List.getElem?_eq_some_iff.1 hsk
                  rw [List.map_append, HMAP.out, List.take_succ_eq_append_getElem hks, List.map_append, hks2]
                  rfl
                · intro u hu
                  rcases List.mem_append.1 hu with hu | hu
                  · obtain ⟨t1, t2, t3, t4, t5, t6⟩ := HUS.out u hu
                    have t1' := (t1.only ho2 (by simp)).more ho2.size
                    exact ⟨fin u t1' t6 (fun b hb e => by have h1 := t5 b hb; have h2 := HQ9.out; omega), t2, t3, t4, t5, self u t1' t6⟩
                  · rw [List.mem_singleton.1 hu]
                    refine ⟨fin ⟨A2, s.n, c2, s.l⟩ hb2 new (fun b hb e => ?_), hn2, hc2, s4, fun b hb => ?_, self ⟨A2, s.n, c2, s.l⟩ hb2 new⟩
                    · rcases hA2 with ⟨h2, _⟩ | ⟨g, h2, h3, _⟩
                      · subst h2; cases hb
                      · subst h2
                        simp [blkOf] at hb
                        omega
                    · have h1 := HSZ.out
                      rcases hA2 with ⟨h2, _⟩ | ⟨g, h2, h3, _⟩
                      · subst h2; cases hb
                      · subst h2
                        simp [blkOf] at hb
                        omega
                · exact ((HOWN.out.lt g hg).1))
              clear hs hsk s1 s5 hul hbk hown hmap hus hoz hgb hcell hqv hgv hgq
              go_wp2_with fail
              refine wp_region_hand (S := fun Y => Y.cell? ⟨gb, go + i, none⟩ = some (.slice s.A s.n s.c)) (by kernel_rfl) ?_
              refine takeV 0 (.pointer (some ⟨q, 0, none⟩)) rfl rfl (by kernel_rfl) (fun Y hY => by have y0 := hY; go_simp) hS ?_; simp only [s0A, s0B, s0C]
              refine takeV 1 (.pointer (some ⟨q, 0, none⟩)) rfl rfl (by kernel_rfl) (fun Y hY => by have y0 := hY; go_simp) hS ?_; simp only [s0A, s0B, s0C]
              refine takeV 2 (.pointer (some ⟨q, 0, none⟩)) rfl rfl (by kernel_rfl) (fun Y hY => by have y0 := hY; go_simp) hS ?_; simp only [s0A, s0B, s0C]
              refine takeV 3 (.pointer (some ⟨q, 2, none⟩)) rfl rfl (by kernel_rfl) (fun Y hY => by have y0 := hY; go_simp) hS ?_; simp only [s0A, s0B, s0C]
              refine takeV 6 (.slice (some ⟨gb, go, none⟩) k c) rfl rfl (by kernel_rfl) (fun Y hY => by have y0 := hY; go_simp) hS ?_; simp only [s0A, s0B, s0C]
              refine takeV 7 (.int .i64 (i : Int)) rfl rfl (by kernel_rfl) (fun Y hY => by have y0 := hY; go_simp) hS ?_; simp only [s0A, s0B, s0C]
              refine takeV 8 (.pointer (some ⟨gb, go + i, none⟩)) rfl rfl (by kernel_rfl) (fun Y hY => by have y0 := hY; go_simp) hS ?_; simp only [s0A, s0B, s0C]
              refine takeV 9 (.slice s.A s.n s.c) rfl rfl (by kernel_rfl) (fun Y hY => by have y0 := hY; go_simp) hS ?_; simp only [s0A, s0B, s0C]
              refine twoH (i := 4) (j := 5) rfl rfl (by kernel_rfl) rfl rfl ?_ ?_
              · refine val_if rfl (by rfl) (v := .slice Av i cv) (w' := wr.drew) (by go_simp) ?_
                refine ⟨hS, ?_⟩
                simp only [s0A, s0B, s0C]
                have hoe : Only [] wr (wr.drew.alloc (.cells #[] 5)) := ((Only.refl [] wr).drew).alloc _
                have hS5 : (wr.drew.alloc (.cells #[] 5)).cell? ⟨gb, go + i, none⟩ = some (.slice s.A s.n s.c) := hoe.cell hS (by simp)
                have hq5 : (wr.drew.alloc (.cells #[] 5)).cell? ⟨q, 2, none⟩ = some (.slice Av i cv) := hoe.cell hq0 (by simp)
                have hq5b : (wr.alloc (.cells #[] 5)).cell? ⟨q, 2, none⟩ = some (.slice Av i cv) := hq5
                refine oneW (i := 5) (v := .slice (some ⟨wr.heap.size, 0, none⟩) 0 0) (w' := (wr.drew.alloc (.cells #[] 5))) rfl (by kernel_rfl) rfl (by rfl) (by go_simp) hS5 ?_; simp only [s0A, s0B, s0C]
                refine oneA (i := 10) rfl (by kernel_rfl) rfl rfl (fun K hK => ?_)
                refine step_append_bytes (w := wr.drew.alloc (.cells #[] 5)) rfl (.tmp 140) (.tmp 144) rfl rfl (OwnB.empty wr.drew wr.heap.size (Nat.le_refl _)) rfl (HSB.out.only hoe (by simp)) (by have := HSN.out; omega) (by rw [World.size_alloc]; exact Nat.le_succ _) ?_
                intro v2 w2 hown2 ho2 hf2
                rw [Nat.zero_add, List.nil_append] at hown2
                obtain ⟨A2, c2, rfl, hnc2, hcm2, hb2, hA2⟩ := hown2.shape
                have hon2 : Only [] wr w2 := hoe.trans ho2 (fun g hg => .inr (by have e : g ∈ [wr.heap.size] := hg; rw [List.mem_singleton.1 e]; exact Nat.le_refl _))
                have hS2 : w2.cell? ⟨gb, go + i, none⟩ = some (.slice s.A s.n s.c) := hon2.cell hS (by simp)
                have hq2 : w2.cell? ⟨q, 2, none⟩ = some (.slice Av i cv) := hon2.cell hq0 (by simp)
                have HB2 := Lib.hid hb2
                have HA2 := Lib.hid hA2
                have HNC2 := Lib.hid (And.intro hnc2 hcm2)
                have HON2 := Lib.hid hon2
                refine hK _ _ hS2 ?_
                clear hK K hown2 ho2 hf2 hb2 hA2 hnc2 hcm2 hon2
                try simp only [s0A, s0B, s0C]
                have hor : Only [] wr (w2.alloc (.cells #[.slice A2 s.n c2] 35)) := HON2.out.alloc _
                have hSr : (w2.alloc (.cells #[.slice A2 s.n c2] 35)).cell? ⟨gb, go + i, none⟩ = some (.slice s.A s.n s.c) := hor.cell hS (by simp)
                have hqr : (w2.alloc (.cells #[.slice A2 s.n c2] 35)).cell? ⟨q, 2, none⟩ = some (.slice Av i cv) := hor.cell hq0 (by simp)
                refine oneW (i := 11) (v := .slice (some ⟨w2.heap.size, 0, none⟩) 1 1) (w' := (w2.alloc (.cells #[.slice A2 s.n c2] 35))) rfl (by kernel_rfl) rfl (by rfl) (by go_simp) hSr ?_; simp only [s0A, s0B, s0C]
                refine oneA (i := 12) rfl (by kernel_rfl) rfl rfl (fun K hK => ?_)
                refine step_append1 (w := w2) rfl (.tmp 139) (.tmp 146) 34 rfl Tryz.underlying34 sl_info rfl (by decide) rfl (HOWN.out.only HON2.out (by simp)) rfl rfl (row := [.slice A2 s.n c2]) rfl rfl (by intro u hu; rw [List.mem_singleton.1 hu]; rfl) (by omega) (by unfold maxLen; omega) (by have h1 := HSZ.out; have h2 := HON2.out.size; omega) ?_
                intro v3 w3 hE
                obtain ⟨A3, c3, rfl, _, _, _, _⟩ := hE.own.shape (by decide)
                have HFX := Lib.hid (HNX.out w2 A2 c2 HON2.out HB2.out HNC2.out.1 HNC2.out.2 HA2.out w3 A3 c3 hE)
                have hb3 := HFX.out.2.1
                have x3 := hb3.cell 2
                have f3 := hb3.frozen 2
                have hS3 : w3.cell? ⟨gb, go + i, none⟩ = some (.slice s.A s.n s.c) := HFX.out.2.2.1
                refine hK _ _ hS3 ?_
                clear hK K hE hb3
                try simp only [s0A, s0B, s0C]
                refine takeV 13 (.pointer (some ⟨q, 0, none⟩)) rfl rfl (by kernel_rfl) (fun Y hY => by have y0 := hY; go_simp) hS3 ?_; simp only [s0A, s0B, s0C]
                refine takeV 14 (.pointer (some ⟨q, 2, none⟩)) rfl rfl (by kernel_rfl) (fun Y hY => by have y0 := hY; go_simp) hS3 ?_; simp only [s0A, s0B, s0C]
                refine oneS (i := 15) (v := undef) (w' := w3.setCell ⟨q, 2, none⟩ (.slice A3 (i + 1) c3)) rfl (by kernel_rfl) rfl (by rfl) (by first | (left; go_simp; done) | (right; go_simp; done)) HFX.out.2.2.2 ?_
                refine wpAnyH_done (by kernel_rfl) ?_ _
                clear hS hS3 x3 f3 hq0 hq0b
                go_wp2_with fail
                go_roundw
                case measure => simp [Go.RowKit.intOf]; omega
                case rel => exact ⟨i + 1, A3, c3, us ++ [⟨A2, s.n, c2, s.l⟩], by omega, by go_num, HFX.out.1⟩
              · have hoe : Only [] wr (wr.drew.alloc (.cells #[] 5)) := ((Only.refl [] wr).drew).alloc _
                have hS5 : (wr.drew.alloc (.cells #[] 5)).cell? ⟨gb, go + i, none⟩ = some (.slice s.A s.n s.c) := hoe.cell hS (by simp)
                have hq5 : (wr.drew.alloc (.cells #[] 5)).cell? ⟨q, 2, none⟩ = some (.slice Av i cv) := hoe.cell hq0 (by simp)
                have hq5b : (wr.alloc (.cells #[] 5)).cell? ⟨q, 2, none⟩ = some (.slice Av i cv) := hq5
                refine val_if rfl (by rfl) (v := .slice (some ⟨wr.heap.size, 0, none⟩) 0 0) (w' := (wr.drew.alloc (.cells #[] 5))) (by go_simp) ?_
                refine ⟨hS5, ?_⟩
                simp only [s0A, s0B, s0C]
                refine twoH (i := 4) (j := 10) rfl rfl (by kernel_rfl) rfl rfl ?_ ?_
                · refine val_if rfl (by rfl) (v := .slice Av i cv) (w' := (wr.drew.alloc (.cells #[] 5))) (by go_simp) ?_
                  refine ⟨hS5, ?_⟩
                  simp only [s0A, s0B, s0C]
                  refine oneA (i := 10) rfl (by kernel_rfl) rfl rfl (fun K hK => ?_)
                  refine step_append_bytes (w := wr.drew.alloc (.cells #[] 5)) rfl (.tmp 140) (.tmp 144) rfl rfl (OwnB.empty wr.drew wr.heap.size (Nat.le_refl _)) rfl (HSB.out.only hoe (by simp)) (by have := HSN.out; omega) (by rw [World.size_alloc]; exact Nat.le_succ _) ?_
                  intro v2 w2 hown2 ho2 hf2
                  rw [Nat.zero_add, List.nil_append] at hown2
                  obtain ⟨A2, c2, rfl, hnc2, hcm2, hb2, hA2⟩ := hown2.shape
                  have hon2 : Only [] wr w2 := hoe.trans ho2 (fun g hg => .inr (by have e : g ∈ [wr.heap.size] := hg; rw [List.mem_singleton.1 e]; exact Nat.le_refl _))
                  have hS2 : w2.cell? ⟨gb, go + i, none⟩ = some (.slice s.A s.n s.c) := hon2.cell hS (by simp)
                  have hq2 : w2.cell? ⟨q, 2, none⟩ = some (.slice Av i cv) := hon2.cell hq0 (by simp)
                  have HB2 := Lib.hid hb2
                  have HA2 := Lib.hid hA2
                  have HNC2 := Lib.hid (And.intro hnc2 hcm2)
                  have HON2 := Lib.hid hon2
                  refine hK _ _ hS2 ?_
                  clear hK K hown2 ho2 hf2 hb2 hA2 hnc2 hcm2 hon2
                  try simp only [s0A, s0B, s0C]
                  have hor : Only [] wr (w2.alloc (.cells #[.slice A2 s.n c2] 35)) := HON2.out.alloc _
                  have hSr : (w2.alloc (.cells #[.slice A2 s.n c2] 35)).cell? ⟨gb, go + i, none⟩ = some (.slice s.A s.n s.c) := hor.cell hS (by simp)
                  have hqr : (w2.alloc (.cells #[.slice A2 s.n c2] 35)).cell? ⟨q, 2, none⟩ = some (.slice Av i cv) := hor.cell hq0 (by simp)
                  refine oneW (i := 11) (v := .slice (some ⟨w2.heap.size, 0, none⟩) 1 1) (w' := (w2.alloc (.cells #[.slice A2 s.n c2] 35))) rfl (by kernel_rfl) rfl (by rfl) (by go_simp) hSr ?_; simp only [s0A, s0B, s0C]
                  refine oneA (i := 12) rfl (by kernel_rfl) rfl rfl (fun K hK => ?_)
                  refine step_append1 (w := w2) rfl (.tmp 139) (.tmp 146) 34 rfl Tryz.underlying34 sl_info rfl (by decide) rfl (HOWN.out.only HON2.out (by simp)) rfl rfl (row := [.slice A2 s.n c2]) rfl rfl (by intro u hu; rw [List.mem_singleton.1 hu]; rfl) (by omega) (by unfold maxLen; omega) (by have h1 := HSZ.out; have h2 := HON2.out.size; omega) ?_
                  intro v3 w3 hE
                  obtain ⟨A3, c3, rfl, _, _, _, _⟩ := hE.own.shape (by decide)
                  have HFX := Lib.hid (HNX.out w2 A2 c2 HON2.out HB2.out HNC2.out.1 HNC2.out.2 HA2.out w3 A3 c3 hE)
                  have hb3 := HFX.out.2.1
                  have x3 := hb3.cell 2
                  have f3 := hb3.frozen 2
                  have hS3 : w3.cell? ⟨gb, go + i, none⟩ = some (.slice s.A s.n s.c) := HFX.out.2.2.1
                  refine hK _ _ hS3 ?_
                  clear hK K hE hb3
                  try simp only [s0A, s0B, s0C]
                  refine takeV 13 (.pointer (some ⟨q, 0, none⟩)) rfl rfl (by kernel_rfl) (fun Y hY => by have y0 := hY; go_simp) hS3 ?_; simp only [s0A, s0B, s0C]
                  refine takeV 14 (.pointer (some ⟨q, 2, none⟩)) rfl rfl (by kernel_rfl) (fun Y hY => by have y0 := hY; go_simp) hS3 ?_; simp only [s0A, s0B, s0C]
                  refine oneS (i := 15) (v := undef) (w' := w3.setCell ⟨q, 2, none⟩ (.slice A3 (i + 1) c3)) rfl (by kernel_rfl) rfl (by rfl) (by first | (left; go_simp; done) | (right; go_simp; done)) HFX.out.2.2.2 ?_
                  refine wpAnyH_done (by kernel_rfl) ?_ _
                  clear hS hS3 x3 f3 hq0 hq0b
                  go_wp2_with fail
                  go_roundw
                  case measure => simp [Go.RowKit.intOf]; omega
                  case rel => exact ⟨i + 1, A3, c3, us ++ [⟨A2, s.n, c2, s.l⟩], by omega, by go_num, HFX.out.1⟩
                · refine law_if rfl (fun K hK => ?_)
                  refine step_append_bytes (w := wr.drew.alloc (.cells #[] 5)) rfl (.tmp 140) (.tmp 144) rfl rfl (OwnB.empty wr.drew wr.heap.size (Nat.le_refl _)) rfl (HSB.out.only hoe (by simp)) (by have := HSN.out; omega) (by rw [World.size_alloc]; exact Nat.le_succ _) ?_
                  intro v2 w2 hown2 ho2 hf2
                  rw [Nat.zero_add, List.nil_append] at hown2
                  obtain ⟨A2, c2, rfl, hnc2, hcm2, hb2, hA2⟩ := hown2.shape
                  have hon2 : Only [] wr w2 := hoe.trans ho2 (fun g hg => .inr (by have e : g ∈ [wr.heap.size] := hg; rw [List.mem_singleton.1 e]; exact Nat.le_refl _))
                  have hS2 : w2.cell? ⟨gb, go + i, none⟩ = some (.slice s.A s.n s.c) := hon2.cell hS (by simp)
                  have hq2 : w2.cell? ⟨q, 2, none⟩ = some (.slice Av i cv) := hon2.cell hq0 (by simp)
                  have HB2 := Lib.hid hb2
                  have HA2 := Lib.hid hA2
                  have HNC2 := Lib.hid (And.intro hnc2 hcm2)
                  have HON2 := Lib.hid hon2
                  refine hK _ _ hS2 ?_
                  clear hK K hown2 ho2 hf2 hb2 hA2 hnc2 hcm2 hon2
                  try simp only [s0A, s0B, s0C]
                  refine twoH (i := 4) (j := 11) rfl rfl (by kernel_rfl) rfl rfl ?_ ?_
                  · refine val_if rfl (by rfl) (v := .slice Av i cv) (w' := w2) (by go_simp) ?_
                    refine ⟨hS2, ?_⟩
                    simp only [s0A, s0B, s0C]
                    have hor : Only [] wr (w2.alloc (.cells #[.slice A2 s.n c2] 35)) := HON2.out.alloc _
                    have hSr : (w2.alloc (.cells #[.slice A2 s.n c2] 35)).cell? ⟨gb, go + i, none⟩ = some (.slice s.A s.n s.c) := hor.cell hS (by simp)
                    have hqr : (w2.alloc (.cells #[.slice A2 s.n c2] 35)).cell? ⟨q, 2, none⟩ = some (.slice Av i cv) := hor.cell hq0 (by simp)
                    refine oneW (i := 11) (v := .slice (some ⟨w2.heap.size, 0, none⟩) 1 1) (w' := (w2.alloc (.cells #[.slice A2 s.n c2] 35))) rfl (by kernel_rfl) rfl (by rfl) (by go_simp) hSr ?_; simp only [s0A, s0B, s0C]
                    refine oneA (i := 12) rfl (by kernel_rfl) rfl rfl (fun K hK => ?_)
                    refine step_append1 (w := w2) rfl (.tmp 139) (.tmp 146) 34 rfl Tryz.underlying34 sl_info rfl (by decide) rfl (HOWN.out.only HON2.out (by simp)) rfl rfl (row := [.slice A2 s.n c2]) rfl rfl (by intro u hu; rw [List.mem_singleton.1 hu]; rfl) (by omega) (by unfold maxLen; omega) (by have h1 := HSZ.out; have h2 := HON2.out.size; omega) ?_
                    intro v3 w3 hE
                    obtain ⟨A3, c3, rfl, _, _, _, _⟩ := hE.own.shape (by decide)
                    have HFX := Lib.hid (HNX.out w2 A2 c2 HON2.out HB2.out HNC2.out.1 HNC2.out.2 HA2.out w3 A3 c3 hE)
                    have hb3 := HFX.out.2.1
                    have x3 := hb3.cell 2
                    have f3 := hb3.frozen 2
                    have hS3 : w3.cell? ⟨gb, go + i, none⟩ = some (.slice s.A s.n s.c) := HFX.out.2.2.1
                    refine hK _ _ hS3 ?_
                    clear hK K hE hb3
                    try simp only [s0A, s0B, s0C]
                    refine takeV 13 (.pointer (some ⟨q, 0, none⟩)) rfl rfl (by kernel_rfl) (fun Y hY => by have y0 := hY; go_simp) hS3 ?_; simp only [s0A, s0B, s0C]
                    refine takeV 14 (.pointer (some ⟨q, 2, none⟩)) rfl rfl (by kernel_rfl) (fun Y hY => by have y0 := hY; go_simp) hS3 ?_; simp only [s0A, s0B, s0C]
                    refine oneS (i := 15) (v := undef) (w' := w3.setCell ⟨q, 2, none⟩ (.slice A3 (i + 1) c3)) rfl (by kernel_rfl) rfl (by rfl) (by first | (left; go_simp; done) | (right; go_simp; done)) HFX.out.2.2.2 ?_
                    refine wpAnyH_done (by kernel_rfl) ?_ _
                    clear hS hS3 x3 f3 hq0 hq0b
                    go_wp2_with fail
                    go_roundw
                    case measure => simp [Go.RowKit.intOf]; omega
                    case rel => exact ⟨i + 1, A3, c3, us ++ [⟨A2, s.n, c2, s.l⟩], by omega, by go_num, HFX.out.1⟩
                  · have hor : Only [] wr (w2.alloc (.cells #[.slice A2 s.n c2] 35)) := HON2.out.alloc _
                    have hSr : (w2.alloc (.cells #[.slice A2 s.n c2] 35)).cell? ⟨gb, go + i, none⟩ = some (.slice s.A s.n s.c) := hor.cell hS (by simp)
                    have hqr : (w2.alloc (.cells #[.slice A2 s.n c2] 35)).cell? ⟨q, 2, none⟩ = some (.slice Av i cv) := hor.cell hq0 (by simp)
                    refine val_if rfl (by rfl) (v := .slice (some ⟨w2.heap.size, 0, none⟩) 1 1) (w' := (w2.alloc (.cells #[.slice A2 s.n c2] 35))) (by go_simp) ?_
                    refine ⟨hSr, ?_⟩
                    simp only [s0A, s0B, s0C]
                    refine oneW (i := 4) (v := .slice Av i cv) (w' := (w2.alloc (.cells #[.slice A2 s.n c2] 35))) rfl (by kernel_rfl) rfl (by rfl) (by go_simp) hSr ?_; simp only [s0A, s0B, s0C]
                    refine oneA (i := 12) rfl (by kernel_rfl) rfl rfl (fun K hK => ?_)
                    refine step_append1 (w := w2) rfl (.tmp 139) (.tmp 146) 34 rfl Tryz.underlying34 sl_info rfl (by decide) rfl (HOWN.out.only HON2.out (by simp)) rfl rfl (row := [.slice A2 s.n c2]) rfl rfl (by intro u hu; rw [List.mem_singleton.1 hu]; rfl) (by omega) (by unfold maxLen; omega) (by have h1 := HSZ.out; have h2 := HON2.out.size; omega) ?_
                    intro v3 w3 hE
                    obtain ⟨A3, c3, rfl, _, _, _, _⟩ := hE.own.shape (by decide)
                    have HFX := Lib.hid (HNX.out w2 A2 c2 HON2.out HB2.out HNC2.out.1 HNC2.out.2 HA2.out w3 A3 c3 hE)
                    have hb3 := HFX.out.2.1
                    have x3 := hb3.cell 2
                    have f3 := hb3.frozen 2
                    have hS3 : w3.cell? ⟨gb, go + i, none⟩ = some (.slice s.A s.n s.c) := HFX.out.2.2.1
                    refine hK _ _ hS3 ?_
                    clear hK K hE hb3
                    try simp only [s0A, s0B, s0C]
                    refine takeV 13 (.pointer (some ⟨q, 0, none⟩)) rfl rfl (by kernel_rfl) (fun Y hY => by have y0 := hY; go_simp) hS3 ?_; simp only [s0A, s0B, s0C]
                    refine takeV 14 (.pointer (some ⟨q, 2, none⟩)) rfl rfl (by kernel_rfl) (fun Y hY => by have y0 := hY; go_simp) hS3 ?_; simp only [s0A, s0B, s0C]
                    refine oneS (i := 15) (v := undef) (w' := w3.setCell ⟨q, 2, none⟩ (.slice A3 (i + 1) c3)) rfl (by kernel_rfl) rfl (by rfl) (by first | (left; go_simp; done) | (right; go_simp; done)) HFX.out.2.2.2 ?_
                    refine wpAnyH_done (by kernel_rfl) ?_ _
                    clear hS hS3 x3 f3 hq0 hq0b
                    go_wp2_with fail
                    go_roundw
                    case measure => simp [Go.RowKit.intOf]; omega
                    case rel => exact ⟨i + 1, A3, c3, us ++ [⟨A2, s.n, c2, s.l⟩], by omega, by go_num, HFX.out.1⟩
            · obtain rfl : i = k := by omega
              have e1 : decide ((i : Int) < (i : Int)) = false := decide_eq_false (by omega)
              have e1' : decide (i < i) = false := decide_eq_false (by omega)
              have hDz : IsR X wr p sb sc wb base D4 := HD9.out.turn HOZ.out (by have := HQF.out; simp only [List.mem_cons, not_or, List.not_mem_nil, not_false_eq_true, and_true] at this ⊢; exact ⟨fun e => this.1 e.symm, fun e => this.2.1 e.symm, fun e => this.2.2 e.symm⟩) (fun k hk => .inl (by rw [List.mem_singleton.1 hk]; exact HQX.out)) (fun k hk => .inl hk) (fun k hk => Nat.lt_of_lt_of_le (HD9.out.xlt k hk) HOZ.out.size)
              obtain ⟨A', cap', he, hc1, hc2, _, hA'⟩ := hown.shape (by decide)
              injection he with e2 _ e3
              subst e2
              subst e3
              have HFIN : Hid (RAct X w p sb sc wb base q (D4, { js with half := ⟨gen, fr, room⟩, l := ts.map (·.l) }, 0) (.returned (.int .i64 0)) wr) := Lib.hid (by
                refine ⟨rfl, ⟨Av, i, cv, by show Blk _ _ _ #[_, .int .i64 gen, _, .bool js.off]; rw [HOFF.out]; exact HBK.out, us, HUL2.out, reads_own (n := i) (by have h1 := HOWN.out; have h2 := HUL2.out; subst h2; exact h1) HUL2.out, ?_, hc1, hc2, fun _ b hb hm => ?_, fun u hu => ?_⟩, hDz, HO9.out.trans (HOZ.out) (fun k hk => .inl (by rw [List.mem_singleton.1 hk]; simp))⟩
                · have h1 := HMAP.out
                  rw [List.take_of_length_le (by rw [HTL.out]; exact Nat.le_refl _)] at h1
                  exact h1
                · have h1 := HT9.out b hm
                  rcases hA' with ⟨h2, _⟩ | ⟨g, h2, h3, _⟩
                  · subst h2; cases hb
                  · subst h2
                    simp [blkOf] at hb
                    omega
                · obtain ⟨t1, t2, t3, t4, t5, _⟩ := HUS.out u hu
                  exact ⟨t1, t2, t3, t4, fun _ b hb hm => by have h1 := HT9.out b hm; have h2 := t5 b hb; omega⟩)
              clear hDz hA' hc1 hc2 hul hbk hown hmap hus hoz
              go_wp2_with fail
              go_ret
              exact HFIN.out
end
end Go.Proofs.YthgfmoogagldmaaGreat.RefD
