/- The document's journal: write. PRINTED by wip/gen_rj4.py. -/
import Derived.Test.YthgfmoogagldmaaGreatRanges
import Derived.Test.YthgfmoogagldmaaGreatRefC
import Derived.Test.YthgfmoogagldmaaGreatRefB
import Derived.Test.YthgfmoogagldmaaGreatJournalE
set_option linter.unusedVariables false
set_option maxRecDepth 100000
namespace Go.Proofs.YthgfmoogagldmaaGreat.RefD
open Go.RowKit Go.Shelf Disk Journal Go.Proofs.YthgfmoogagldmaaGreat.Frame
def writeR (d : DS) (h : Half) (a seq : Int) (l : List UInt8) (mk last : Bool) : DS × Bool :=
  andThen (andThen (if mk = true then wrD d (h.fr + a) (putB (markH h seq l)) else (d, true)) (fun x => packH x h a l)) (fun x => if last = true then zeroH x h (a + takesB l) else (x, true))
def RWr (X : List Nat) (w : World) (p sb sc wb base : Nat) (r : DS × Bool) (x : Ending) (w' : World) : Prop := x = .returned (.bool r.2) ∧ IsR X w' p sb sc wb base r.1 ∧ Only [p, sb, wb] w w'
section
variable {w w' wr : World} {p sb sc wb base q : Nat} {d : DS} {X : List Nat}
theorem rwrite_0 {d D : DS} {b : Bool} {i : Int} {l : List UInt8} (h : IsR X w p sb sc wb base d) (hw : wrD d i l = (D, b)) (A : Option Addr) (n c : Nat) (hb : Bytes w w.heap.size A n l) (hn : n ≤ 1000000) (hdn : d.done < 9223372036854775807) :
    Calls Tryz.prog 78 #[.pointer (some ⟨p, 0, none⟩), .int .i64 i, .slice A n c] w fun x w' => ∃ e : Int, x = .returned (.int .i64 e) ∧ (e == 0) = b ∧ (e != 0) = !b ∧ IsR X w' p sb sc wb base D ∧ Only [p, sb, wb] w w' := by
  refine (rwrite_any h i A n c hb hn hdn).mono ?_
  rintro x w' ⟨e, rfl, h1, h2, h3⟩
  rw [hw] at h1 h2
  have h4 : (e == 0) = b := by
    cases b with
    | true => simpa using h1.2 rfl
    | false =>
      rw [beq_eq_false_iff_ne]
      intro e0
      have := h1.1 e0
      cases this
  exact ⟨e, rfl, h4, by unfold bne; rw [h4], h2, h3⟩
theorem rsync_0 {d D : DS} {b : Bool} (h : IsR X w p sb sc wb base d) (hw : synD d = (D, b)) (hdn : d.done < 9223372036854775807) :
    Calls Tryz.prog 80 #[.pointer (some ⟨p, 0, none⟩)] w fun x w' => ∃ e : Int, x = .returned (.int .i64 e) ∧ (e == 0) = b ∧ (e != 0) = !b ∧ IsR X w' p sb sc wb base D ∧ Only [p, sb, wb] w w' := by
  refine (rsync_any h hdn).mono ?_
  rintro x w' ⟨e, rfl, h1, h2, h3⟩
  rw [hw] at h1 h2
  have h4 : (e == 0) = b := by
    cases b with
    | true => simpa using h1.2 rfl
    | false =>
      rw [beq_eq_false_iff_ne]
      intro e0
      have := h1.1 e0
      cases this
  exact ⟨e, rfl, h4, by unfold bne; rw [h4], h2, h3⟩
theorem IsR.far (h : IsR X w p sb sc wb base d) {t : TypeId} {cs : Array Value} (hb : Blk w q t cs) (h1 : 131 ≠ t) (h2 : 35 ≠ t) : q ∉ [p, sb, wb] := by
  obtain ⟨ss, hs, _⟩ := h.safe
  obtain ⟨vs, hv, _⟩ := h.wait
  obtain ⟨c1, k1⟩ := own_blk hs
  obtain ⟨c2, k2⟩ := own_blk hv
  have e1 : q ≠ p := hb.ne_ h.blk (fun e => h1 e.symm)
  have e2 : q ≠ sb := hb.ne_ k1 (fun e => h2 e.symm)
  have e3 : q ≠ wb := hb.ne_ k2 (fun e => h2 e.symm)
  simp [e1, e2, e3]
theorem IsR.lt3 (h : IsR X w p sb sc wb base d) : ∀ k ∈ [p, sb, wb], k < w.heap.size := by
  have := h.lt
  intro k hk
  simp at hk
  omega
theorem packR_at {d D : DS} {b : Bool} {i : Int} {P : List (List UInt8)} {k : Nat} (hk : P.length ≤ k) (h : putsD d i (P.take k) = (D, b)) : putsD d i P = (D, b) := by
  rwa [List.take_of_length_le hk] at h
set_option maxHeartbeats 8000000 in
theorem rjwrite_nz (hd : IsR X w p sb sc wb base d) (h2 : 8 ≤ d.n) {v1 v2 v3 : Value} (hq : Blk w q 55 #[.pointer (some ⟨p, 0, none⟩), v1, v2, v3]) (gen : Int) (hg : 0 ≤ gen ∧ gen ≤ 4611686018427387904) (a : Int) (ha : 0 ≤ a ∧ a ≤ 100000) (seq : Int) (A : Option Addr) (n c : Nat) (l : List UInt8) (hb : Bytes w w.heap.size A n l) (hn : n ≤ 2000) (hnc : n ≤ c) (hcm : c ≤ maxLen) (hfar : 0 < n → ∀ k ∈ blkOf A, k ∉ [p, sb, wb]) (hdn : d.done ≤ 4611686018427380000) :
    Calls Tryz.prog 84 #[.pointer (some ⟨q, 0, none⟩), .int .i64 gen, .int .i64 a, .int .i64 seq, .slice A n c, .bool false, .bool true] w fun x w' => RWr X w p sb sc wb base (writeR d (halfD d gen) a seq l false true) x w' := by
  have hqf := hd.far hq (by decide) (by decide)
  have hl3 := hd.lt3
  have hbl := hb.len
  have hfr : 0 ≤ (halfD d gen).fr ∧ (halfD d gen).fr ≤ 50000 ∧ 0 ≤ roomD d ∧ roomD d ≤ 40000 := by
    have hn1 := hd.n0
    unfold halfD roomD
    simp only
    have hm : gen % 2 = 0 ∨ gen % 2 = 1 := by omega
    rcases hm with hm | hm <;> rw [hm] <;> omega
  have hnz : 0 ≤ needZ (n : Int) ∧ needZ (n : Int) ≤ 32 := by unfold needZ; split <;> omega
  have hcq := hq.cell 0
  have hroom : (halfD d gen).room = roomD d := rfl
  have hgen : (halfD d gen).gen = gen := rfl
  have HFI := Lib.hid (rfirst_any hd (by omega) gen hg)
  have htb : takesB l = 1 + needZ (n : Int) := by unfold takesB; rw [hbl]
  obtain ⟨h, hh⟩ : ∃ h, halfD d gen = h := ⟨_, rfl⟩
  rw [hh] at hfr HFI hroom hgen ⊢
  have hPL : ((packsB l).length : Int) = needZ (n : Int) := by rw [packsB_len', hbl]; omega
  obtain ⟨P, hP⟩ : ∃ P, packsB l = P := ⟨_, rfl⟩
  have HPP := Lib.hid hP
  have HPM2 : Hid ((packsB l).length = (needZ (n : Int)).toNat) := Lib.hid (by rw [packsB_len', hbl])
  have HTB := Lib.hid htb
  have HD8 := Lib.hid (show 2 ≤ d.n by omega)
  have HL3 := Lib.hid hl3
  have HQF := Lib.hid hqf
  have HDB := Lib.hid hdn
  have HROOM := Lib.hid hroom.symm
  have HWHOLE : Hid (writeR d h a seq l false true = andThen (andThen (d, true) (fun x => packH x h a l)) (fun x => if true = true then zeroH x h (a + takesB l) else (x, true))) := Lib.hid (by
    unfold writeR
    rw [if_neg (by decide)])
  have HPA0 := Lib.hid (fun wx (ho : Only [p, sb, wb] w wx) => rpack_any A n c l wx ((hb.only_pos ho hfar).more ho.size) (by omega))
  have HCQ := Lib.hid hcq
  obtain ⟨hgn, fr, room⟩ := h
  simp only at hfr HFI hroom hgen HROOM
  have hgen := hgen.symm
  subst hgen
  obtain ⟨fr0, fr1, rm0, rm1⟩ := hfr
  rw [← hroom] at rm0 rm1
  obtain ⟨a0, a1⟩ := ha
  have hr3 : IntKind.i64.wrap (fr + a) = fr + a := by rw [IntKind.wrap_i64]; omega
  obtain ⟨nz0, nz1⟩ := hnz
  obtain ⟨M, hMz⟩ := Int.eq_ofNat_of_zero_le nz0
  have HMZ := Lib.hid hMz.symm
  have HPM : Hid ((packsB l).length = M) := Lib.hid (by rw [HPM2.out, hMz]; exact Int.toNat_natCast M)
  have HM32 : Hid (M ≤ 32) := Lib.hid (by omega)
  obtain ⟨D1, hD1⟩ : ∃ D1, d = D1 := ⟨_, rfl⟩
  obtain ⟨b1, hb1⟩ : ∃ b1, true = b1 := ⟨_, rfl⟩
  have HN1 : Hid (D1.n = d.n) := Lib.hid (by rw [hD1])
  have HDN1 : Hid (D1.done ≤ d.done + 1) := Lib.hid (by rw [hD1]; omega)
  have HD1 : Hid (IsR X w p sb sc wb base D1) := Lib.hid (by rw [← hD1]; exact hd)
  have HO1 : Hid (Only [p, sb, wb] w w) := Lib.hid (Only.refl _ _)
  have HPA := Lib.hid (HPA0.out w HO1.out)
  have HCQ3 : Hid (∀ w3, Only [] w w3 → w3.cell? ⟨q, 0, none⟩ = some (.pointer (some ⟨p, 0, none⟩))) := Lib.hid (fun w3 h => h.cell HCQ.out (by simp))
  have HWH2 : Hid (writeR d ⟨gen, fr, room⟩ a seq l false true = andThen (andThen (D1, b1) (fun x => packH x ⟨gen, fr, room⟩ a l)) (fun x => if true = true then zeroH x ⟨gen, fr, room⟩ (a + takesB l) else (x, true))) := Lib.hid (by
    rw [HWHOLE.out, hD1, hb1])
  have HWHOLE := HWH2
  have HB1E := Lib.hid hb1
  clear hd hq hb hfar hqf hl3 hbl hg htb hPL hD1 hdn hP hh h2 nz0 nz1 hMz hroom hn hnc hcm HWH2 hb1
  go_enter Tryz.func84, Tryz.ntmps84
  go_wp2_with (first
  | (go_at_call 79; refine HFI.out.mono ?_; rintro x wx ⟨rfl, hwx⟩; have hwx := hwx.symm; subst hwx)
  | (go_at_call 123; refine HPA.out.mono ?_; rintro x w3 ⟨v3, ss, rfl, hown, hsec, hmap, ho3⟩; obtain ⟨A3, c3, rfl, _, _, _⟩ := hown.shape (by decide); have HOWN := Lib.hid hown; have HSEC := Lib.hid hsec; have HMAP := Lib.hid hmap; have HO3 := Lib.hid ho3; clear hown hsec hmap ho3))
  have hml : ss.length = M := by
    have e := congrArg List.length HMAP.out
    rw [List.length_map] at e
    rw [e]
    exact HPM.out
  rw [hml]
  have HML := Lib.hid hml
  have hM32 : M ≤ 32 := HM32.out
  have HR3 := Lib.hid (show Reads w3 w3.heap.size 1 A3 M (ss.map Sl.val) from reads_own (by have := HOWN.out; rwa [HML.out] at this ⊢) HML.out)
  have HD3 := Lib.hid (HD1.out.only0 HO3.out)
  have HO13 := Lib.hid (HO1.out.trans HO3.out (by simp))
  have HROWF : Hid (∀ k ∈ blkOf A3, k ∉ [p, sb, wb]) := Lib.hid (fun k hk hm => by
    have h1 := HD1.out.lt3 k hm
    rcases HOWN.out.lt k (by cases A3 with | none => cases hk | some ad => simpa [ownL, Value.ownBlock, blkOf] using hk) with ⟨h3, _⟩
    omega)
  have HSF : Hid (∀ s ∈ ss, ∀ k ∈ blkOf s.A, k ∉ [p, sb, wb]) := Lib.hid (fun s hs k hk hm => by
    have h1 := HSEC.out s hs
    have h2 := HD3.out
    obtain ⟨xs, hs1, _⟩ := h2.safe
    obtain ⟨vs, hv1, _⟩ := h2.wait
    obtain ⟨c1, k1⟩ := own_blk hs1
    obtain ⟨c2, k2⟩ := own_blk hv1
    have f1 := sec_far h1 h2.blk (by decide) k hk
    have f2 := sec_far h1 k1 (by decide) k hk
    have f3 := sec_far h1 k2 (by decide) k hk
    simp at hm
    omega)
  clear hml
  go_loopw [16, 18] (fun ok i wr => ∃ (k : Nat) (D : DS) (b : Bool), k ≤ M ∧ i = .int .i64 k ∧ ok = .bool b ∧ IsR X wr p sb sc wb base D ∧ Only [p, sb, wb] w3 wr ∧ D.n = d.n ∧ D.done ≤ d.done + 1 + k ∧ ((b = true ∧ b1 = true ∧ putsD D1 (fr + a + 1) (P.take k) = (D, true)) ∨ (b = false ∧ andThen (D1, b1) (fun x => packH x ⟨gen, fr, room⟩ a l) = (D, false)))) (fun _ i _ => M - (Go.RowKit.intOf i).toNat)
  case atStart => exact ⟨0, D1, b1, by omega, rfl, by first | rfl | rw [← HB1E.out], HD3.out, Only.refl _ _, HN1.out, by have := HDN1.out; omega, by
    cases hb1 : b1 with
    | true => exact .inl ⟨rfl, rfl, rfl⟩
    | false => exact .inr ⟨rfl, by unfold andThen; exact if_neg (by simp)⟩⟩
  case round =>
    obtain ⟨k, D, b, hk, rfl, rfl, hD, ho, hDn, hDd, hcase⟩ := hrel
    have HDD := Lib.hid hD
    have HO := Lib.hid ho
    have HDN := Lib.hid hDn
    have HDC := Lib.hid hcase
    have HDM := Lib.hid hDd
    clear hD ho hDn hcase hDd
    by_cases hgo : k < M ∧ b = true
    · obtain ⟨hlt, rfl⟩ := hgo
      have e1 : decide ((k : Int) < (M : Int)) = true := decide_eq_true (by omega)
      have e1' : decide (k < M) = true := decide_eq_true hlt
      obtain ⟨gb, go, hA3, hgb, s, hs, hsk, hcell⟩ := Reads.sl (reads_pos HR3.out HO.out (fun _ k hk hm => HROWF.out k hk hm)) k hlt
      subst hA3
      have hput := HDC.out.resolve_right (fun h => by cases h.1)
      obtain ⟨_, hb1, hput⟩ := hput
      have hPk : P[k]? = some s.l := by
        have h1 := congrArg (fun x => x[k]?) HMAP.out
        simp only [List.getElem?_map, hsk, Option.map_some] at h1
        rw [show pack l (needZ (l.length : Int)).toNat = P from HPP.out] at h1
        exact h1.symm
      have hstep := puts_step hPk (show (putsD D1 (fr + a + 1) (P.take k)).2 = true by rw [hput])
      rw [hput] at hstep
      simp only at hstep
      obtain ⟨⟨D5, b5⟩, hw5⟩ : ∃ r, wrD D (fr + a + 1 + (k : Int)) s.l = r := ⟨_, rfl⟩
      rw [hw5] at hstep
      simp only at hstep
      have hd5 := wr_done D (fr + a + 1 + (k : Int)) s.l
      have hn5 := wrD_n D (fr + a + 1 + (k : Int)) s.l
      rw [hw5] at hd5 hn5
      simp only at hd5 hn5
      have hsb : Bytes wr wr.heap.size s.A s.n s.l := (((HSEC.out s hs).bytes).only HO.out (HSF.out s hs)).more HO.out.size
      have hsn : s.n ≤ 1000000 := by obtain ⟨_, _, h1, _⟩ := HSEC.out s hs; omega
      have HW9 := Lib.hid (rwrite_0 (HDD.out.only0 (Only.refl [] wr).drew) hw5 s.A s.n s.c hsb.drew hsn (by have h1 := HDM.out; have h2 := HDB.out; omega))
      have HGF : Hid (gb ∉ [p, sb, wb]) := Lib.hid (HROWF.out gb (by simp [blkOf]))
      have cq := HO.out.cell (HCQ3.out w3 HO3.out) HQF.out
      have hr1 : IntKind.i64.wrap (fr + a + 1) = fr + a + 1 := by rw [IntKind.wrap_i64]; omega
      have hr2 : IntKind.i64.wrap (fr + a + 1 + (k : Int)) = fr + a + 1 + (k : Int) := by rw [IntKind.wrap_i64]; omega
      have HST := Lib.hid hstep
      have HD5 := Lib.hid hd5
      have HN5 := Lib.hid hn5
      have HB1T := Lib.hid hb1
      clear hput hPk hstep hw5 hd5 hn5 hsb hsn hs hsk hb1
      go_wp2_with fail
      have hS9 : wr.drew.cell? ⟨q, 0, none⟩ = some (.pointer (some ⟨p, 0, none⟩)) ∧ wr.drew.cell? ⟨gb, go + k, none⟩ = some (.slice s.A s.n s.c) := ⟨cq, hcell⟩
      refine wp_region_hand (S := fun Y => Y.cell? ⟨q, 0, none⟩ = some (.pointer (some ⟨p, 0, none⟩)) ∧ Y.cell? ⟨gb, go + k, none⟩ = some (.slice s.A s.n s.c)) (by kernel_rfl) ?_
      refine takeV 0 (.pointer (some ⟨q, 0, none⟩)) rfl rfl (by kernel_rfl) (fun Y hY => by obtain ⟨y0, y1⟩ := hY; go_simp) hS9 ?_; simp only [s0A, s0B, s0C]
      refine takeV 1 (.pointer (some ⟨q, 0, none⟩)) rfl rfl (by kernel_rfl) (fun Y hY => by obtain ⟨y0, y1⟩ := hY; go_simp) hS9 ?_; simp only [s0A, s0B, s0C]
      refine takeV 2 (.pointer (some ⟨q, 0, none⟩)) rfl rfl (by kernel_rfl) (fun Y hY => by obtain ⟨y0, y1⟩ := hY; go_simp) hS9 ?_; simp only [s0A, s0B, s0C]
      refine takeV 3 (.pointer (some ⟨p, 0, none⟩)) rfl rfl (by kernel_rfl) (fun Y hY => by obtain ⟨y0, y1⟩ := hY; go_simp) hS9 ?_; simp only [s0A, s0B, s0C]
      refine takeV 4 (.int .i64 (fr + a)) rfl rfl (by kernel_rfl) (fun Y hY => by obtain ⟨y0, y1⟩ := hY; go_simp) hS9 ?_; simp only [s0A, s0B, s0C]
      refine takeV 5 (.int .i64 (fr + a + 1)) rfl rfl (by kernel_rfl) (fun Y hY => by obtain ⟨y0, y1⟩ := hY; go_simp) hS9 ?_; simp only [s0A, s0B, s0C]
      refine takeV 6 (.int .i64 (k : Int)) rfl rfl (by kernel_rfl) (fun Y hY => by obtain ⟨y0, y1⟩ := hY; go_simp) hS9 ?_; simp only [s0A, s0B, s0C]
      refine takeV 7 (.int .i64 (fr + a + 1 + (k : Int))) rfl rfl (by kernel_rfl) (fun Y hY => by obtain ⟨y0, y1⟩ := hY; go_simp) hS9 ?_; simp only [s0A, s0B, s0C]
      refine takeV 8 (.slice (some ⟨gb, go, none⟩) M c3) rfl rfl (by kernel_rfl) (fun Y hY => by obtain ⟨y0, y1⟩ := hY; go_simp) hS9 ?_; simp only [s0A, s0B, s0C]
      refine takeV 9 (.int .i64 (k : Int)) rfl rfl (by kernel_rfl) (fun Y hY => by obtain ⟨y0, y1⟩ := hY; go_simp) hS9 ?_; simp only [s0A, s0B, s0C]
      refine takeV 10 (.pointer (some ⟨gb, go + k, none⟩)) rfl rfl (by kernel_rfl) (fun Y hY => by obtain ⟨y0, y1⟩ := hY; go_simp) hS9 ?_; simp only [s0A, s0B, s0C]
      refine takeV 11 (.slice s.A s.n s.c) rfl rfl (by kernel_rfl) (fun Y hY => by obtain ⟨y0, y1⟩ := hY; go_simp) hS9 ?_; simp only [s0A, s0B, s0C]
      refine callW (i := 12) rfl (by kernel_rfl) rfl (by rfl) ?_ (HW9.out) ?_
      · go_simp
      rintro x w6 ⟨e6, rfl, he6, he6n, hd6, ho6⟩
      have HD6 := Lib.hid hd6
      have HO6 := Lib.hid ho6
      have hS6 : w6.cell? ⟨q, 0, none⟩ = some (.pointer (some ⟨p, 0, none⟩)) ∧ w6.cell? ⟨gb, go + k, none⟩ = some (.slice s.A s.n s.c) := ⟨ho6.cell hS9.1 HQF.out, ho6.cell hS9.2 HGF.out⟩
      clear hd6 ho6
      refine ⟨_, rfl, hS6, ?_⟩
      simp only [s0A, s0B, s0C]
      refine takeV 13 (.bool b5) rfl rfl (by kernel_rfl) (fun Y hY => by obtain ⟨y0, y1⟩ := hY; go_simp) hS6 ?_; simp only [s0A, s0B, s0C]
      refine takeV 14 (.bool b5) rfl rfl (by kernel_rfl) (fun Y hY => by obtain ⟨y0, y1⟩ := hY; go_simp) hS6 ?_; simp only [s0A, s0B, s0C]
      refine wpAnyH_done (by kernel_rfl) ?_ _
      clear hS9 hS6 he6 he6n
      go_wp2_with fail
      go_roundw
      case measure => simp [Go.RowKit.intOf]; omega
      case rel =>
        refine ⟨k + 1, D5, b5, by omega, by go_num, rfl, HD6.out, HO.out.trans ((Only.refl [p, sb, wb] wr).drew.trans HO6.out (fun k hk => .inl hk)) (fun k hk => .inl hk), by rw [HN5.out]; exact HDN.out, by have h1 := HDM.out; have h2 := HD5.out; push_cast; omega, ?_⟩
        cases b5 with
        | true => exact .inl ⟨rfl, HB1T.out, by rw [HST.out.1]⟩
        | false =>
          refine .inr ⟨rfl, ?_⟩
          rw [HB1T.out]
          unfold andThen packH
          rw [if_pos rfl, HPP.out]
          exact HST.out.2 rfl
    · have hend : Hid (andThen (D1, b1) (fun x => packH x ⟨gen, fr, room⟩ a l) = (D, b)) := Lib.hid (by
        rcases HDC.out with ⟨hb, hb1, hput⟩ | ⟨hb, hput⟩
        · have hkM : M ≤ k := by
            rcases Nat.lt_or_ge k M with h | h
            · exact absurd ⟨h, hb⟩ hgo
            · exact h
          rw [hb1, hb]
          unfold andThen packH
          rw [if_pos rfl, HPP.out]
          exact packR_at (by rw [← HPP.out, HPM.out]; exact hkM) hput
        · rw [hb]
          exact hput)
      have HRO := Lib.hid (rroom_any HDD.out (by rw [HDN.out]; exact HD8.out))
      rw [show roomD D = room from by unfold roomD; rw [HDN.out]; exact HROOM.out] at HRO
      cases b with
      | false =>
        have HFIN : Hid (RWr X w p sb sc wb base (writeR d ⟨gen, fr, room⟩ a seq l false true) (.returned (.bool false)) wr) := Lib.hid ⟨by rw [HWHOLE.out, hend.out]; rfl, by rw [HWHOLE.out, hend.out]; exact HDD.out, HO13.out.trans HO.out (fun k hk => .inl hk)⟩
        by_cases hlt : k < M
        · have e1 : decide ((k : Int) < (M : Int)) = true := decide_eq_true (by omega)
          have e1' : decide (k < M) = true := decide_eq_true hlt
          clear hgo
          go_wp2_with fail
          go_ret
          exact HFIN.out
        · have e1 : decide ((k : Int) < (M : Int)) = false := decide_eq_false (by omega)
          have e1' : decide (k < M) = false := decide_eq_false hlt
          clear hgo
          go_wp2_with fail
          go_ret
          exact HFIN.out
      | true =>
        have hkM : ¬ k < M := fun h => hgo ⟨h, rfl⟩
        have e1 : decide ((k : Int) < (M : Int)) = false := decide_eq_false (by omega)
        have e1' : decide (k < M) = false := decide_eq_false hkM
        clear hgo
        by_cases hrm : a + 1 + (M : Int) < room
        · have e2 : decide (a + 1 + (M : Int) < room) = true := decide_eq_true hrm
          have hr0 : IntKind.i64.wrap (a + 1) = a + 1 := by rw [IntKind.wrap_i64]; omega
          have hr1 : IntKind.i64.wrap (fr + a + 1) = fr + a + 1 := by rw [IntKind.wrap_i64]; omega
          have hr2 : IntKind.i64.wrap (fr + a + 1 + (M : Int)) = fr + a + 1 + (M : Int) := by rw [IntKind.wrap_i64]; omega
          obtain ⟨⟨D6, b6⟩, hw6⟩ : ∃ r, wrD D (fr + a + 1 + (M : Int)) Journal.zeros = r := ⟨_, rfl⟩
          have HZ : Hid (zeroH D ⟨gen, fr, room⟩ (a + takesB l) = (D6, b6)) := Lib.hid (by
            unfold zeroH
            rw [HTB.out, ← HMZ.out, if_neg (by simp only; omega), ← hw6]
            simp only
            congr 1
            omega)
          have HWD : Hid (writeR d ⟨gen, fr, room⟩ a seq l false true = (D6, b6)) := Lib.hid (by
            rw [HWHOLE.out, hend.out]
            unfold andThen
            rw [if_pos rfl]
            simp only [if_true]
            exact HZ.out)
          obtain ⟨i1, hi1, hy0, hy1, hy2⟩ := info_parts byte_info
          obtain ⟨w5, hrun, hmk, hgk⟩ := run_make_full (P := Tryz.prog) wr.drew wr.drew.heap.size 35 5 i1 _ 1 Tryz.underlying35 hi1 hy0 hy1 .i64 .i64 64 (by rw [hy2]; decide) (by decide) (Nat.le_refl _)
          have ho5 : Only [] wr w5 := ((Only.refl [] wr).drew).trans (Only.of_grown hgk) (by simp)
          have hrun' : Sem.run Tryz.prog (Instr.makeSlice 35 (.int .i64 64) (.int .i64 64)) wr.drew = .ok (.slice (some ⟨wr.heap.size, 0, none⟩) 64 64) w5 := hrun
          have hsec : SecAt w5 ⟨some ⟨wr.heap.size, 0, none⟩, 64, 64, zeros⟩ := ⟨wr.heap.size, rfl, rfl, rfl, made_blk [] hmk, by simp [zeros]⟩
          have hbz : Bytes w5 w5.heap.size (some ⟨wr.heap.size, 0, none⟩) 64 zeros := hsec.bytes
          have HW5 := Lib.hid (rwrite_0 (HDD.out.only0 ho5) hw6 (some ⟨wr.heap.size, 0, none⟩) 64 64 hbz (by decide) (by have h1 := HDM.out; have h2 := HDB.out; omega))
          have cq := HO.out.cell (HCQ3.out w3 HO3.out) HQF.out
          have hS9 : wr.drew.cell? ⟨q, 0, none⟩ = some (.pointer (some ⟨p, 0, none⟩)) := cq
          have hS5 : w5.cell? ⟨q, 0, none⟩ = some (.pointer (some ⟨p, 0, none⟩)) := ho5.cell cq (by simp)
          have HO5 := Lib.hid ho5
          clear hrun hmk hgk hsec hbz hw6 ho5 hi1 hy0 hy1 hy2
          go_wp2_with (first
            | (go_at_call 34; refine HRO.out.mono ?_; rintro x wx ⟨rfl, hwx⟩; have hwx := hwx.symm; subst hwx))
          refine wp_region_hand (S := fun Y => Y.cell? ⟨q, 0, none⟩ = some (.pointer (some ⟨p, 0, none⟩))) (by kernel_rfl) ?_
          refine takeV 0 (.pointer (some ⟨q, 0, none⟩)) rfl rfl (by kernel_rfl) (fun Y hY => by have y0 := hY; go_simp) hS9 ?_; simp only [s0A, s0B, s0C]
          refine takeV 1 (.pointer (some ⟨q, 0, none⟩)) rfl rfl (by kernel_rfl) (fun Y hY => by have y0 := hY; go_simp) hS9 ?_; simp only [s0A, s0B, s0C]
          refine takeV 2 (.pointer (some ⟨q, 0, none⟩)) rfl rfl (by kernel_rfl) (fun Y hY => by have y0 := hY; go_simp) hS9 ?_; simp only [s0A, s0B, s0C]
          refine takeV 3 (.pointer (some ⟨p, 0, none⟩)) rfl rfl (by kernel_rfl) (fun Y hY => by have y0 := hY; go_simp) hS9 ?_; simp only [s0A, s0B, s0C]
          refine takeV 4 (.int .i64 (fr + a)) rfl rfl (by kernel_rfl) (fun Y hY => by have y0 := hY; go_simp) hS9 ?_; simp only [s0A, s0B, s0C]
          refine takeV 5 (.int .i64 (fr + a + 1)) rfl rfl (by kernel_rfl) (fun Y hY => by have y0 := hY; go_simp) hS9 ?_; simp only [s0A, s0B, s0C]
          refine takeV 6 (.slice A3 M c3) rfl rfl (by kernel_rfl) (fun Y hY => by have y0 := hY; go_simp) hS9 ?_; simp only [s0A, s0B, s0C]
          refine takeV 7 (.int .i64 M) rfl rfl (by kernel_rfl) (fun Y hY => by have y0 := hY; go_simp) hS9 ?_; simp only [s0A, s0B, s0C]
          refine takeV 8 (.int .i64 (fr + a + 1 + (M : Int))) rfl rfl (by kernel_rfl) (fun Y hY => by have y0 := hY; go_simp) hS9 ?_; simp only [s0A, s0B, s0C]
          refine oneW (i := 9) (v := .slice (some ⟨wr.heap.size, 0, none⟩) 64 64) (w' := w5) rfl (by kernel_rfl) rfl (by rfl) (by go_simp) hS5 ?_; simp only [s0A, s0B, s0C]
          refine callW (i := 10) rfl (by kernel_rfl) rfl (by rfl) ?_ (HW5.out) ?_
          · go_simp
          rintro x w6 ⟨e6, rfl, he6, he6n, hd6, ho6⟩
          have HD6 := Lib.hid hd6
          have HO6 := Lib.hid ho6
          have hS6 : w6.cell? ⟨q, 0, none⟩ = some (.pointer (some ⟨p, 0, none⟩)) := ho6.cell hS5 HQF.out
          clear hd6 ho6
          refine ⟨_, rfl, hS6, ?_⟩
          simp only [s0A, s0B, s0C]
          refine takeV 11 (.bool b6) rfl rfl (by kernel_rfl) (fun Y hY => by have y0 := hY; go_simp) hS6 ?_; simp only [s0A, s0B, s0C]
          refine takeV 12 (.bool b6) rfl rfl (by kernel_rfl) (fun Y hY => by have y0 := hY; go_simp) hS6 ?_; simp only [s0A, s0B, s0C]
          refine wpAnyH_done (by kernel_rfl) ?_ _
          clear hS9 hS5 hS6 he6 he6n hrun'
          go_wp2_with fail
          go_ret
          exact ⟨by first | (rw [HWD.out]; done) | (rw [HWD.out]; rfl), by rw [HWD.out]; exact HD6.out, (HO13.out.trans HO.out (fun k hk => .inl hk)).trans ((HO5.out.mono (by simp)).trans HO6.out (fun k hk => .inl hk)) (fun k hk => .inl hk)⟩
        · have e2 : decide (a + 1 + (M : Int) < room) = false := decide_eq_false hrm
          have hr0 : IntKind.i64.wrap (a + 1) = a + 1 := by rw [IntKind.wrap_i64]; omega
          have HZ : Hid (zeroH D ⟨gen, fr, room⟩ (a + takesB l) = (D, true)) := Lib.hid (by
            unfold zeroH
            rw [HTB.out, ← HMZ.out, if_pos (by simp only; omega)])
          have HWD : Hid (writeR d ⟨gen, fr, room⟩ a seq l false true = (D, true)) := Lib.hid (by
            rw [HWHOLE.out, hend.out]
            unfold andThen
            rw [if_pos rfl]
            simp only [if_true]
            exact HZ.out)
          have cq := HO.out.cell (HCQ3.out w3 HO3.out) HQF.out
          go_wp2_with (first
            | (go_at_call 34; refine HRO.out.mono ?_; rintro x wx ⟨rfl, hwx⟩; have hwx := hwx.symm; subst hwx))
          go_ret
          exact ⟨by first | (rw [HWD.out]; done) | (rw [HWD.out]; rfl), by rw [HWD.out]; exact HDD.out, HO13.out.trans HO.out (fun k hk => .inl hk)⟩
set_option maxHeartbeats 8000000 in
theorem rjwrite_m (hd : IsR X w p sb sc wb base d) (h2 : 8 ≤ d.n) {v1 v2 v3 : Value} (hq : Blk w q 55 #[.pointer (some ⟨p, 0, none⟩), v1, v2, v3]) (gen : Int) (hg : 0 ≤ gen ∧ gen ≤ 4611686018427387904) (a : Int) (ha : 0 ≤ a ∧ a ≤ 100000) (seq : Int) (A : Option Addr) (n c : Nat) (l : List UInt8) (hb : Bytes w w.heap.size A n l) (hn : n ≤ 2000) (hnc : n ≤ c) (hcm : c ≤ maxLen) (hfar : 0 < n → ∀ k ∈ blkOf A, k ∉ [p, sb, wb]) (hdn : d.done ≤ 4611686018427380000) (last : Bool) :
    Calls Tryz.prog 84 #[.pointer (some ⟨q, 0, none⟩), .int .i64 gen, .int .i64 a, .int .i64 seq, .slice A n c, .bool true, .bool last] w fun x w' => RWr X w p sb sc wb base (writeR d (halfD d gen) a seq l true last) x w' := by
  have hqf := hd.far hq (by decide) (by decide)
  have hl3 := hd.lt3
  have hbl := hb.len
  have hfr : 0 ≤ (halfD d gen).fr ∧ (halfD d gen).fr ≤ 50000 ∧ 0 ≤ roomD d ∧ roomD d ≤ 40000 := by
    have hn1 := hd.n0
    unfold halfD roomD
    simp only
    have hm : gen % 2 = 0 ∨ gen % 2 = 1 := by omega
    rcases hm with hm | hm <;> rw [hm] <;> omega
  have hnz : 0 ≤ needZ (n : Int) ∧ needZ (n : Int) ≤ 32 := by unfold needZ; split <;> omega
  have hcq := hq.cell 0
  have hroom : (halfD d gen).room = roomD d := rfl
  have hgen : (halfD d gen).gen = gen := rfl
  have HFI := Lib.hid (rfirst_any hd (by omega) gen hg)
  have htb : takesB l = 1 + needZ (n : Int) := by unfold takesB; rw [hbl]
  obtain ⟨h, hh⟩ : ∃ h, halfD d gen = h := ⟨_, rfl⟩
  rw [hh] at hfr HFI hroom hgen ⊢
  have hPL : ((packsB l).length : Int) = needZ (n : Int) := by rw [packsB_len', hbl]; omega
  obtain ⟨P, hP⟩ : ∃ P, packsB l = P := ⟨_, rfl⟩
  have HPP := Lib.hid hP
  have HPM2 : Hid ((packsB l).length = (needZ (n : Int)).toNat) := Lib.hid (by rw [packsB_len', hbl])
  have HTB := Lib.hid htb
  have HD8 := Lib.hid (show 2 ≤ d.n by omega)
  have HL3 := Lib.hid hl3
  have HQF := Lib.hid hqf
  have HDB := Lib.hid hdn
  have HROOM := Lib.hid hroom.symm
  obtain ⟨⟨D1, b1⟩, hw1⟩ : ∃ r, wrD d (h.fr + a) (putB (markH h seq l)) = r := ⟨_, rfl⟩
  have hd1 := wr_done d (h.fr + a) (putB (markH h seq l))
  have hn1 := wrD_n d (h.fr + a) (putB (markH h seq l))
  rw [hw1] at hd1 hn1
  simp only at hd1 hn1
  have HMK := Lib.hid (fun wx (ho : Only [] w wx) => rmark_any wx h seq A n c wx.heap.size l ((hb.only ho (by simp)).more ho.size) (by omega))
  have HWHOLE : Hid (writeR d h a seq l true last = andThen (andThen (D1, b1) (fun x => packH x h a l)) (fun x => if last = true then zeroH x h (a + takesB l) else (x, true))) := Lib.hid (by
    unfold writeR
    rw [if_pos rfl, hw1])
  obtain ⟨MK, hMK⟩ : ∃ m, markH h seq l = m := ⟨_, rfl⟩
  rw [hMK] at HMK hw1
  have hpl : (putB MK).length ≤ 1000000 := by have := putB_len MK; omega
  obtain ⟨PB, hPB⟩ : ∃ m, putB MK = m := ⟨_, rfl⟩
  have HPU := Lib.hid (fun wx => rput_any MK wx)
  rw [hPB] at HPU hw1 hpl
  have HW4 := Lib.hid (fun wx (ho : Only [] w wx) A n c hb hn => rwrite_0 (hd.only0 ho) hw1 A n c hb hn (by omega))
  have HPA0 := Lib.hid (fun wx (ho : Only [p, sb, wb] w wx) => rpack_any A n c l wx ((hb.only_pos ho hfar).more ho.size) (by omega))
  have HCQ := Lib.hid hcq
  obtain ⟨hgn, fr, room⟩ := h
  simp only at hfr HFI hroom hgen HROOM hw1
  have hgen := hgen.symm
  subst hgen
  obtain ⟨fr0, fr1, rm0, rm1⟩ := hfr
  rw [← hroom] at rm0 rm1
  obtain ⟨a0, a1⟩ := ha
  have hr3 : IntKind.i64.wrap (fr + a) = fr + a := by rw [IntKind.wrap_i64]; omega
  obtain ⟨nz0, nz1⟩ := hnz
  obtain ⟨M, hMz⟩ := Int.eq_ofNat_of_zero_le nz0
  have HMZ := Lib.hid hMz.symm
  have HPM : Hid ((packsB l).length = M) := Lib.hid (by rw [HPM2.out, hMz]; exact Int.toNat_natCast M)
  have HM32 : Hid (M ≤ 32) := Lib.hid (by omega)
  have HN1 := Lib.hid hn1
  have HDN1 : Hid (D1.done ≤ d.done + 1) := Lib.hid hd1.1
  clear hd hq hb hfar hqf hl3 hbl hg htb hPL hw1 hd1 hn1 hdn hMK hPB hP hh h2 nz0 nz1 hMz hroom hn hnc hcm
  go_enter Tryz.func84, Tryz.ntmps84
  go_wp2_with (first
  | (go_at_call 79; refine HFI.out.mono ?_; rintro x wx ⟨rfl, hwx⟩; have hwx := hwx.symm; subst hwx))
  have hS : w.drew.cell? ⟨q, 0, none⟩ = some (.pointer (some ⟨p, 0, none⟩)) := HCQ.out
  refine wp_region_hand (S := fun Y => Y.cell? ⟨q, 0, none⟩ = some (.pointer (some ⟨p, 0, none⟩))) (by kernel_rfl) ?_
  refine takeV 0 (.pointer (some ⟨q, 0, none⟩)) rfl rfl (by kernel_rfl) (fun Y hY => by have y0 := hY; go_simp) hS ?_; simp only [s0A, s0B, s0C]
  refine takeV 1 (.pointer (some ⟨q, 0, none⟩)) rfl rfl (by kernel_rfl) (fun Y hY => by have y0 := hY; go_simp) hS ?_; simp only [s0A, s0B, s0C]
  refine takeV 2 (.pointer (some ⟨q, 0, none⟩)) rfl rfl (by kernel_rfl) (fun Y hY => by have y0 := hY; go_simp) hS ?_; simp only [s0A, s0B, s0C]
  refine takeV 3 (.pointer (some ⟨p, 0, none⟩)) rfl rfl (by kernel_rfl) (fun Y hY => by have y0 := hY; go_simp) hS ?_; simp only [s0A, s0B, s0C]
  refine takeV 4 (.int .i64 (fr + a)) rfl rfl (by kernel_rfl) (fun Y hY => by have y0 := hY; go_simp) hS ?_; simp only [s0A, s0B, s0C]
  refine takeV 5 (.int .i64 gen) rfl rfl (by kernel_rfl) (fun Y hY => by have y0 := hY; go_simp) hS ?_; simp only [s0A, s0B, s0C]
  refine takeV 6 (.int .i64 seq) rfl rfl (by kernel_rfl) (fun Y hY => by have y0 := hY; go_simp) hS ?_; simp only [s0A, s0B, s0C]
  refine takeV 7 (.slice A n c) rfl rfl (by kernel_rfl) (fun Y hY => by have y0 := hY; go_simp) hS ?_; simp only [s0A, s0B, s0C]
  refine callW (i := 8) rfl (by kernel_rfl) rfl (by rfl) ?_ (HMK.out w.drew (Only.refl [] w).drew) ?_
  · go_simp
  rintro x w2 ⟨rfl, ho2⟩
  have ho2 := (Only.refl [] w).drew.trans ho2 (by simp)
  have hS2 : w2.cell? ⟨q, 0, none⟩ = some (.pointer (some ⟨p, 0, none⟩)) := ho2.cell HCQ.out (by simp)
  refine ⟨_, rfl, hS2, ?_⟩
  simp only [s0A, s0B, s0C]
  refine callW (i := 9) rfl (by kernel_rfl) rfl (by rfl) ?_ (HPU.out w2) ?_
  · go_simp
  rintro x w3 ⟨v3, rfl, hown3, ho3⟩
  obtain ⟨A3, c3, rfl, _, _, hb3, _⟩ := hown3.shape
  have ho3 := ho2.trans ho3 (by simp)
  have hS3 : w3.cell? ⟨q, 0, none⟩ = some (.pointer (some ⟨p, 0, none⟩)) := ho3.cell HCQ.out (by simp)
  have HWW := Lib.hid (HW4.out w3 ho3 A3 _ c3 hb3 hpl)
  have HO3 := Lib.hid ho3
  clear hown3 hb3 ho3
  refine ⟨_, rfl, hS3, ?_⟩
  simp only [s0A, s0B, s0C]
  refine callW (i := 10) rfl (by kernel_rfl) rfl (by rfl) ?_ (HWW.out) ?_
  · go_simp
  rintro x W1 ⟨e4, rfl, he4, he4n, hd4, ho4⟩
  have HD1 := Lib.hid hd4
  have HO1 := Lib.hid ((HO3.out.mono (by simp)).trans ho4 (fun k hk => .inl hk))
  have hS4 : W1.cell? ⟨q, 0, none⟩ = some (.pointer (some ⟨p, 0, none⟩)) := ho4.cell hS3 HQF.out
  clear hd4 ho4
  refine ⟨_, rfl, hS4, ?_⟩
  simp only [s0A, s0B, s0C]
  refine takeV 11 (.bool b1) rfl rfl (by kernel_rfl) (fun Y hY => by have y0 := hY; go_simp) hS4 ?_; simp only [s0A, s0B, s0C]
  refine takeV 12 (.bool b1) rfl rfl (by kernel_rfl) (fun Y hY => by have y0 := hY; go_simp) hS4 ?_; simp only [s0A, s0B, s0C]
  refine wpAnyH_done (by kernel_rfl) ?_ _
  have HCQ1 := Lib.hid hS4
  clear hS hS2 hS3 hS4 he4 he4n ho2 hpl
  have HPA := Lib.hid (HPA0.out W1 HO1.out)
  have HCQ3 : Hid (∀ w3, Only [] W1 w3 → w3.cell? ⟨q, 0, none⟩ = some (.pointer (some ⟨p, 0, none⟩))) := Lib.hid (fun w3 h => h.cell HCQ1.out (by simp))
  go_wp2_with (first
    | (go_at_call 123; refine HPA.out.mono ?_; rintro x w3 ⟨v3, ss, rfl, hown, hsec, hmap, ho3⟩; obtain ⟨A3, c3, rfl, _, _, _⟩ := hown.shape (by decide); have HOWN := Lib.hid hown; have HSEC := Lib.hid hsec; have HMAP := Lib.hid hmap; have HO3 := Lib.hid ho3; clear hown hsec hmap ho3))
  have hml : ss.length = M := by
    have e := congrArg List.length HMAP.out
    rw [List.length_map] at e
    rw [e]
    exact HPM.out
  rw [hml]
  have HML := Lib.hid hml
  have hM32 : M ≤ 32 := HM32.out
  have HR3 := Lib.hid (show Reads w3 w3.heap.size 1 A3 M (ss.map Sl.val) from reads_own (by have := HOWN.out; rwa [HML.out] at this ⊢) HML.out)
  have HD3 := Lib.hid (HD1.out.only0 HO3.out)
  have HO13 := Lib.hid (HO1.out.trans HO3.out (by simp))
  have HROWF : Hid (∀ k ∈ blkOf A3, k ∉ [p, sb, wb]) := Lib.hid (fun k hk hm => by
    have h1 := HD1.out.lt3 k hm
    rcases HOWN.out.lt k (by cases A3 with | none => cases hk | some ad => simpa [ownL, Value.ownBlock, blkOf] using hk) with ⟨h3, _⟩
    omega)
  have HSF : Hid (∀ s ∈ ss, ∀ k ∈ blkOf s.A, k ∉ [p, sb, wb]) := Lib.hid (fun s hs k hk hm => by
    have h1 := HSEC.out s hs
    have h2 := HD3.out
    obtain ⟨xs, hs1, _⟩ := h2.safe
    obtain ⟨vs, hv1, _⟩ := h2.wait
    obtain ⟨c1, k1⟩ := own_blk hs1
    obtain ⟨c2, k2⟩ := own_blk hv1
    have f1 := sec_far h1 h2.blk (by decide) k hk
    have f2 := sec_far h1 k1 (by decide) k hk
    have f3 := sec_far h1 k2 (by decide) k hk
    simp at hm
    omega)
  clear hml
  go_loopw [16, 18] (fun ok i wr => ∃ (k : Nat) (D : DS) (b : Bool), k ≤ M ∧ i = .int .i64 k ∧ ok = .bool b ∧ IsR X wr p sb sc wb base D ∧ Only [p, sb, wb] w3 wr ∧ D.n = d.n ∧ D.done ≤ d.done + 1 + k ∧ ((b = true ∧ b1 = true ∧ putsD D1 (fr + a + 1) (P.take k) = (D, true)) ∨ (b = false ∧ andThen (D1, b1) (fun x => packH x ⟨gen, fr, room⟩ a l) = (D, false)))) (fun _ i _ => M - (Go.RowKit.intOf i).toNat)
  case atStart => exact ⟨0, D1, b1, by omega, rfl, by first | rfl | rw [← HB1E.out], HD3.out, Only.refl _ _, HN1.out, by have := HDN1.out; omega, by
    cases hb1 : b1 with
    | true => exact .inl ⟨rfl, rfl, rfl⟩
    | false => exact .inr ⟨rfl, by unfold andThen; exact if_neg (by simp)⟩⟩
  case round =>
    obtain ⟨k, D, b, hk, rfl, rfl, hD, ho, hDn, hDd, hcase⟩ := hrel
    have HDD := Lib.hid hD
    have HO := Lib.hid ho
    have HDN := Lib.hid hDn
    have HDC := Lib.hid hcase
    have HDM := Lib.hid hDd
    clear hD ho hDn hcase hDd
    by_cases hgo : k < M ∧ b = true
    · obtain ⟨hlt, rfl⟩ := hgo
      have e1 : decide ((k : Int) < (M : Int)) = true := decide_eq_true (by omega)
      have e1' : decide (k < M) = true := decide_eq_true hlt
      obtain ⟨gb, go, hA3, hgb, s, hs, hsk, hcell⟩ := Reads.sl (reads_pos HR3.out HO.out (fun _ k hk hm => HROWF.out k hk hm)) k hlt
      subst hA3
      have hput := HDC.out.resolve_right (fun h => by cases h.1)
      obtain ⟨_, hb1, hput⟩ := hput
      have hPk : P[k]? = some s.l := by
        have h1 := congrArg (fun x => x[k]?) HMAP.out
        simp only [List.getElem?_map, hsk, Option.map_some] at h1
        rw [show pack l (needZ (l.length : Int)).toNat = P from HPP.out] at h1
        exact h1.symm
      have hstep := puts_step hPk (show (putsD D1 (fr + a + 1) (P.take k)).2 = true by rw [hput])
      rw [hput] at hstep
      simp only at hstep
      obtain ⟨⟨D5, b5⟩, hw5⟩ : ∃ r, wrD D (fr + a + 1 + (k : Int)) s.l = r := ⟨_, rfl⟩
      rw [hw5] at hstep
      simp only at hstep
      have hd5 := wr_done D (fr + a + 1 + (k : Int)) s.l
      have hn5 := wrD_n D (fr + a + 1 + (k : Int)) s.l
      rw [hw5] at hd5 hn5
      simp only at hd5 hn5
      have hsb : Bytes wr wr.heap.size s.A s.n s.l := (((HSEC.out s hs).bytes).only HO.out (HSF.out s hs)).more HO.out.size
      have hsn : s.n ≤ 1000000 := by obtain ⟨_, _, h1, _⟩ := HSEC.out s hs; omega
      have HW9 := Lib.hid (rwrite_0 (HDD.out.only0 (Only.refl [] wr).drew) hw5 s.A s.n s.c hsb.drew hsn (by have h1 := HDM.out; have h2 := HDB.out; omega))
      have HGF : Hid (gb ∉ [p, sb, wb]) := Lib.hid (HROWF.out gb (by simp [blkOf]))
      have cq := HO.out.cell (HCQ3.out w3 HO3.out) HQF.out
      have hr1 : IntKind.i64.wrap (fr + a + 1) = fr + a + 1 := by rw [IntKind.wrap_i64]; omega
      have hr2 : IntKind.i64.wrap (fr + a + 1 + (k : Int)) = fr + a + 1 + (k : Int) := by rw [IntKind.wrap_i64]; omega
      have HST := Lib.hid hstep
      have HD5 := Lib.hid hd5
      have HN5 := Lib.hid hn5
      have HB1T := Lib.hid hb1
      clear hput hPk hstep hw5 hd5 hn5 hsb hsn hs hsk hb1
      go_wp2_with fail
      have hS9 : wr.drew.cell? ⟨q, 0, none⟩ = some (.pointer (some ⟨p, 0, none⟩)) ∧ wr.drew.cell? ⟨gb, go + k, none⟩ = some (.slice s.A s.n s.c) := ⟨cq, hcell⟩
      refine wp_region_hand (S := fun Y => Y.cell? ⟨q, 0, none⟩ = some (.pointer (some ⟨p, 0, none⟩)) ∧ Y.cell? ⟨gb, go + k, none⟩ = some (.slice s.A s.n s.c)) (by kernel_rfl) ?_
      refine takeV 0 (.pointer (some ⟨q, 0, none⟩)) rfl rfl (by kernel_rfl) (fun Y hY => by obtain ⟨y0, y1⟩ := hY; go_simp) hS9 ?_; simp only [s0A, s0B, s0C]
      refine takeV 1 (.pointer (some ⟨q, 0, none⟩)) rfl rfl (by kernel_rfl) (fun Y hY => by obtain ⟨y0, y1⟩ := hY; go_simp) hS9 ?_; simp only [s0A, s0B, s0C]
      refine takeV 2 (.pointer (some ⟨q, 0, none⟩)) rfl rfl (by kernel_rfl) (fun Y hY => by obtain ⟨y0, y1⟩ := hY; go_simp) hS9 ?_; simp only [s0A, s0B, s0C]
      refine takeV 3 (.pointer (some ⟨p, 0, none⟩)) rfl rfl (by kernel_rfl) (fun Y hY => by obtain ⟨y0, y1⟩ := hY; go_simp) hS9 ?_; simp only [s0A, s0B, s0C]
      refine takeV 4 (.int .i64 (fr + a)) rfl rfl (by kernel_rfl) (fun Y hY => by obtain ⟨y0, y1⟩ := hY; go_simp) hS9 ?_; simp only [s0A, s0B, s0C]
      refine takeV 5 (.int .i64 (fr + a + 1)) rfl rfl (by kernel_rfl) (fun Y hY => by obtain ⟨y0, y1⟩ := hY; go_simp) hS9 ?_; simp only [s0A, s0B, s0C]
      refine takeV 6 (.int .i64 (k : Int)) rfl rfl (by kernel_rfl) (fun Y hY => by obtain ⟨y0, y1⟩ := hY; go_simp) hS9 ?_; simp only [s0A, s0B, s0C]
      refine takeV 7 (.int .i64 (fr + a + 1 + (k : Int))) rfl rfl (by kernel_rfl) (fun Y hY => by obtain ⟨y0, y1⟩ := hY; go_simp) hS9 ?_; simp only [s0A, s0B, s0C]
      refine takeV 8 (.slice (some ⟨gb, go, none⟩) M c3) rfl rfl (by kernel_rfl) (fun Y hY => by obtain ⟨y0, y1⟩ := hY; go_simp) hS9 ?_; simp only [s0A, s0B, s0C]
      refine takeV 9 (.int .i64 (k : Int)) rfl rfl (by kernel_rfl) (fun Y hY => by obtain ⟨y0, y1⟩ := hY; go_simp) hS9 ?_; simp only [s0A, s0B, s0C]
      refine takeV 10 (.pointer (some ⟨gb, go + k, none⟩)) rfl rfl (by kernel_rfl) (fun Y hY => by obtain ⟨y0, y1⟩ := hY; go_simp) hS9 ?_; simp only [s0A, s0B, s0C]
      refine takeV 11 (.slice s.A s.n s.c) rfl rfl (by kernel_rfl) (fun Y hY => by obtain ⟨y0, y1⟩ := hY; go_simp) hS9 ?_; simp only [s0A, s0B, s0C]
      refine callW (i := 12) rfl (by kernel_rfl) rfl (by rfl) ?_ (HW9.out) ?_
      · go_simp
      rintro x w6 ⟨e6, rfl, he6, he6n, hd6, ho6⟩
      have HD6 := Lib.hid hd6
      have HO6 := Lib.hid ho6
      have hS6 : w6.cell? ⟨q, 0, none⟩ = some (.pointer (some ⟨p, 0, none⟩)) ∧ w6.cell? ⟨gb, go + k, none⟩ = some (.slice s.A s.n s.c) := ⟨ho6.cell hS9.1 HQF.out, ho6.cell hS9.2 HGF.out⟩
      clear hd6 ho6
      refine ⟨_, rfl, hS6, ?_⟩
      simp only [s0A, s0B, s0C]
      refine takeV 13 (.bool b5) rfl rfl (by kernel_rfl) (fun Y hY => by obtain ⟨y0, y1⟩ := hY; go_simp) hS6 ?_; simp only [s0A, s0B, s0C]
      refine takeV 14 (.bool b5) rfl rfl (by kernel_rfl) (fun Y hY => by obtain ⟨y0, y1⟩ := hY; go_simp) hS6 ?_; simp only [s0A, s0B, s0C]
      refine wpAnyH_done (by kernel_rfl) ?_ _
      clear hS9 hS6 he6 he6n
      go_wp2_with fail
      go_roundw
      case measure => simp [Go.RowKit.intOf]; omega
      case rel =>
        refine ⟨k + 1, D5, b5, by omega, by go_num, rfl, HD6.out, HO.out.trans ((Only.refl [p, sb, wb] wr).drew.trans HO6.out (fun k hk => .inl hk)) (fun k hk => .inl hk), by rw [HN5.out]; exact HDN.out, by have h1 := HDM.out; have h2 := HD5.out; push_cast; omega, ?_⟩
        cases b5 with
        | true => exact .inl ⟨rfl, HB1T.out, by rw [HST.out.1]⟩
        | false =>
          refine .inr ⟨rfl, ?_⟩
          rw [HB1T.out]
          unfold andThen packH
          rw [if_pos rfl, HPP.out]
          exact HST.out.2 rfl
    · have hend : Hid (andThen (D1, b1) (fun x => packH x ⟨gen, fr, room⟩ a l) = (D, b)) := Lib.hid (by
        rcases HDC.out with ⟨hb, hb1, hput⟩ | ⟨hb, hput⟩
        · have hkM : M ≤ k := by
            rcases Nat.lt_or_ge k M with h | h
            · exact absurd ⟨h, hb⟩ hgo
            · exact h
          rw [hb1, hb]
          unfold andThen packH
          rw [if_pos rfl, HPP.out]
          exact packR_at (by rw [← HPP.out, HPM.out]; exact hkM) hput
        · rw [hb]
          exact hput)
      have HRO := Lib.hid (rroom_any HDD.out (by rw [HDN.out]; exact HD8.out))
      rw [show roomD D = room from by unfold roomD; rw [HDN.out]; exact HROOM.out] at HRO
      cases b with
      | false =>
        have HFIN : Hid (RWr X w p sb sc wb base (writeR d ⟨gen, fr, room⟩ a seq l true last) (.returned (.bool false)) wr) := Lib.hid ⟨by rw [HWHOLE.out, hend.out]; rfl, by rw [HWHOLE.out, hend.out]; exact HDD.out, HO13.out.trans HO.out (fun k hk => .inl hk)⟩
        by_cases hlt : k < M
        · have e1 : decide ((k : Int) < (M : Int)) = true := decide_eq_true (by omega)
          have e1' : decide (k < M) = true := decide_eq_true hlt
          clear hgo
          go_wp2_with fail
          go_ret
          exact HFIN.out
        · have e1 : decide ((k : Int) < (M : Int)) = false := decide_eq_false (by omega)
          have e1' : decide (k < M) = false := decide_eq_false hlt
          clear hgo
          go_wp2_with fail
          go_ret
          exact HFIN.out
      | true =>
        have hkM : ¬ k < M := fun h => hgo ⟨h, rfl⟩
        have e1 : decide ((k : Int) < (M : Int)) = false := decide_eq_false (by omega)
        have e1' : decide (k < M) = false := decide_eq_false hkM
        clear hgo
        cases last
        · go_wp2_with fail
          go_ret
          exact ⟨by rw [HWHOLE.out, hend.out]; rfl, by rw [HWHOLE.out, hend.out]; exact HDD.out, HO13.out.trans HO.out (fun k hk => .inl hk)⟩
        by_cases hrm : a + 1 + (M : Int) < room
        · have e2 : decide (a + 1 + (M : Int) < room) = true := decide_eq_true hrm
          have hr0 : IntKind.i64.wrap (a + 1) = a + 1 := by rw [IntKind.wrap_i64]; omega
          have hr1 : IntKind.i64.wrap (fr + a + 1) = fr + a + 1 := by rw [IntKind.wrap_i64]; omega
          have hr2 : IntKind.i64.wrap (fr + a + 1 + (M : Int)) = fr + a + 1 + (M : Int) := by rw [IntKind.wrap_i64]; omega
          obtain ⟨⟨D6, b6⟩, hw6⟩ : ∃ r, wrD D (fr + a + 1 + (M : Int)) Journal.zeros = r := ⟨_, rfl⟩
          have HZ : Hid (zeroH D ⟨gen, fr, room⟩ (a + takesB l) = (D6, b6)) := Lib.hid (by
            unfold zeroH
            rw [HTB.out, ← HMZ.out, if_neg (by simp only; omega), ← hw6]
            simp only
            congr 1
            omega)
          have HWD : Hid (writeR d ⟨gen, fr, room⟩ a seq l true true = (D6, b6)) := Lib.hid (by
            rw [HWHOLE.out, hend.out]
            unfold andThen
            rw [if_pos rfl]
            simp only [if_true]
            exact HZ.out)
          obtain ⟨i1, hi1, hy0, hy1, hy2⟩ := info_parts byte_info
          obtain ⟨w5, hrun, hmk, hgk⟩ := run_make_full (P := Tryz.prog) wr.drew wr.drew.heap.size 35 5 i1 _ 1 Tryz.underlying35 hi1 hy0 hy1 .i64 .i64 64 (by rw [hy2]; decide) (by decide) (Nat.le_refl _)
          have ho5 : Only [] wr w5 := ((Only.refl [] wr).drew).trans (Only.of_grown hgk) (by simp)
          have hrun' : Sem.run Tryz.prog (Instr.makeSlice 35 (.int .i64 64) (.int .i64 64)) wr.drew = .ok (.slice (some ⟨wr.heap.size, 0, none⟩) 64 64) w5 := hrun
          have hsec : SecAt w5 ⟨some ⟨wr.heap.size, 0, none⟩, 64, 64, zeros⟩ := ⟨wr.heap.size, rfl, rfl, rfl, made_blk [] hmk, by simp [zeros]⟩
          have hbz : Bytes w5 w5.heap.size (some ⟨wr.heap.size, 0, none⟩) 64 zeros := hsec.bytes
          have HW5 := Lib.hid (rwrite_0 (HDD.out.only0 ho5) hw6 (some ⟨wr.heap.size, 0, none⟩) 64 64 hbz (by decide) (by have h1 := HDM.out; have h2 := HDB.out; omega))
          have cq := HO.out.cell (HCQ3.out w3 HO3.out) HQF.out
          have hS9 : wr.drew.cell? ⟨q, 0, none⟩ = some (.pointer (some ⟨p, 0, none⟩)) := cq
          have hS5 : w5.cell? ⟨q, 0, none⟩ = some (.pointer (some ⟨p, 0, none⟩)) := ho5.cell cq (by simp)
          have HO5 := Lib.hid ho5
          clear hrun hmk hgk hsec hbz hw6 ho5 hi1 hy0 hy1 hy2
          go_wp2_with (first
            | (go_at_call 34; refine HRO.out.mono ?_; rintro x wx ⟨rfl, hwx⟩; have hwx := hwx.symm; subst hwx))
          refine wp_region_hand (S := fun Y => Y.cell? ⟨q, 0, none⟩ = some (.pointer (some ⟨p, 0, none⟩))) (by kernel_rfl) ?_
          refine takeV 0 (.pointer (some ⟨q, 0, none⟩)) rfl rfl (by kernel_rfl) (fun Y hY => by have y0 := hY; go_simp) hS9 ?_; simp only [s0A, s0B, s0C]
          refine takeV 1 (.pointer (some ⟨q, 0, none⟩)) rfl rfl (by kernel_rfl) (fun Y hY => by have y0 := hY; go_simp) hS9 ?_; simp only [s0A, s0B, s0C]
          refine takeV 2 (.pointer (some ⟨q, 0, none⟩)) rfl rfl (by kernel_rfl) (fun Y hY => by have y0 := hY; go_simp) hS9 ?_; simp only [s0A, s0B, s0C]
          refine takeV 3 (.pointer (some ⟨p, 0, none⟩)) rfl rfl (by kernel_rfl) (fun Y hY => by have y0 := hY; go_simp) hS9 ?_; simp only [s0A, s0B, s0C]
          refine takeV 4 (.int .i64 (fr + a)) rfl rfl (by kernel_rfl) (fun Y hY => by have y0 := hY; go_simp) hS9 ?_; simp only [s0A, s0B, s0C]
          refine takeV 5 (.int .i64 (fr + a + 1)) rfl rfl (by kernel_rfl) (fun Y hY => by have y0 := hY; go_simp) hS9 ?_; simp only [s0A, s0B, s0C]
          refine takeV 6 (.slice A3 M c3) rfl rfl (by kernel_rfl) (fun Y hY => by have y0 := hY; go_simp) hS9 ?_; simp only [s0A, s0B, s0C]
          refine takeV 7 (.int .i64 M) rfl rfl (by kernel_rfl) (fun Y hY => by have y0 := hY; go_simp) hS9 ?_; simp only [s0A, s0B, s0C]
          refine takeV 8 (.int .i64 (fr + a + 1 + (M : Int))) rfl rfl (by kernel_rfl) (fun Y hY => by have y0 := hY; go_simp) hS9 ?_; simp only [s0A, s0B, s0C]
          refine oneW (i := 9) (v := .slice (some ⟨wr.heap.size, 0, none⟩) 64 64) (w' := w5) rfl (by kernel_rfl) rfl (by rfl) (by go_simp) hS5 ?_; simp only [s0A, s0B, s0C]
          refine callW (i := 10) rfl (by kernel_rfl) rfl (by rfl) ?_ (HW5.out) ?_
          · go_simp
          rintro x w6 ⟨e6, rfl, he6, he6n, hd6, ho6⟩
          have HD6 := Lib.hid hd6
          have HO6 := Lib.hid ho6
          have hS6 : w6.cell? ⟨q, 0, none⟩ = some (.pointer (some ⟨p, 0, none⟩)) := ho6.cell hS5 HQF.out
          clear hd6 ho6
          refine ⟨_, rfl, hS6, ?_⟩
          simp only [s0A, s0B, s0C]
          refine takeV 11 (.bool b6) rfl rfl (by kernel_rfl) (fun Y hY => by have y0 := hY; go_simp) hS6 ?_; simp only [s0A, s0B, s0C]
          refine takeV 12 (.bool b6) rfl rfl (by kernel_rfl) (fun Y hY => by have y0 := hY; go_simp) hS6 ?_; simp only [s0A, s0B, s0C]
          refine wpAnyH_done (by kernel_rfl) ?_ _
          clear hS9 hS5 hS6 he6 he6n hrun'
          go_wp2_with fail
          go_ret
          exact ⟨by first | (rw [HWD.out]; done) | (rw [HWD.out]; rfl), by rw [HWD.out]; exact HD6.out, (HO13.out.trans HO.out (fun k hk => .inl hk)).trans ((HO5.out.mono (by simp)).trans HO6.out (fun k hk => .inl hk)) (fun k hk => .inl hk)⟩
        · have e2 : decide (a + 1 + (M : Int) < room) = false := decide_eq_false hrm
          have hr0 : IntKind.i64.wrap (a + 1) = a + 1 := by rw [IntKind.wrap_i64]; omega
          have HZ : Hid (zeroH D ⟨gen, fr, room⟩ (a + takesB l) = (D, true)) := Lib.hid (by
            unfold zeroH
            rw [HTB.out, ← HMZ.out, if_pos (by simp only; omega)])
          have HWD : Hid (writeR d ⟨gen, fr, room⟩ a seq l true true = (D, true)) := Lib.hid (by
            rw [HWHOLE.out, hend.out]
            unfold andThen
            rw [if_pos rfl]
            simp only [if_true]
            exact HZ.out)
          have cq := HO.out.cell (HCQ3.out w3 HO3.out) HQF.out
          go_wp2_with (first
            | (go_at_call 34; refine HRO.out.mono ?_; rintro x wx ⟨rfl, hwx⟩; have hwx := hwx.symm; subst hwx))
          go_ret
          exact ⟨by first | (rw [HWD.out]; done) | (rw [HWD.out]; rfl), by rw [HWD.out]; exact HDD.out, HO13.out.trans HO.out (fun k hk => .inl hk)⟩
end
end Go.Proofs.YthgfmoogagldmaaGreat.RefD
