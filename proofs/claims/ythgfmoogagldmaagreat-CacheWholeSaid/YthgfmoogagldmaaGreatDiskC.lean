/- DiskC: Sync and Crash walk; Crash walks. -/
import Derived.Test.YthgfmoogagldmaaGreatDiskB
set_option linter.unusedVariables false
set_option maxRecDepth 100000
namespace Go.Proofs.YthgfmoogagldmaaGreat.Disk
open Go.RowKit Go.Maps
def syncD (d : DS) : DS := stepD { d with safe := syncS d, wait := fun _ => none }
def SyncO (w : World) (p g b : Nat) (W : List Nat) (cap : Nat) (d : DS) (x : Ending) (w' : World) : Prop :=
  if d.off = true ∨ d.left = 0 then x = .returned (.int .i64 3) ∧ Did w p g b W cap { d with off := true } w'
  else x = .returned (.int .i64 0) ∧ Did w p g b W cap (syncD d) w'
section
variable {w w' : World} {p g b cap : Nat} {W : List Nat} {d : DS}
theorem SyncO.no {x : Ending} (hd : d.off = true ∨ d.left = 0) (hx : x = .returned (.int .i64 3)) (h : Did w p g b W cap { d with off := true } w') : SyncO w p g b W cap d x w' := by unfold SyncO; rw [if_pos hd]; exact ⟨hx, h⟩
theorem SyncO.ok {x : Ending} (hd : ¬ (d.off = true ∨ d.left = 0)) (hx : x = .returned (.int .i64 0)) (h : Did w p g b W cap (syncD d) w') : SyncO w p g b W cap d x w' := by unfold SyncO; rw [if_neg hd]; exact ⟨hx, h⟩
theorem sync_any (h : IsD w p g b W cap d) (hd : d.done ≤ 4611686018427387904) : Calls Tryz.prog 59 #[.pointer (some ⟨p, 0, none⟩)] w fun x w' => SyncO w p g b W cap d x w' := by
  have ho := (Only.refl [] w).alloc (.cells #[.pointer (some ⟨p, 0, none⟩)] 26)
  have hb := Blk.new w 26 #[.pointer (some ⟨p, 0, none⟩)]
  have x0 := hb.cell 0
  have h2 := h.only0 ho
  have HNN := Lib.hid (none_is h2)
  have HO := Lib.hid ho
  by_cases hdn : d.off = true ∨ d.left = 0
  · have HD := Lib.hid (deed_noS h2 hdn #[.pointer (some ⟨w.heap.size, 0, none⟩)])
    have HN := Lib.hid hdn
    clear h h2 ho hb hdn
    go_enter Tryz.func59, Tryz.ntmps59
    go_wp2_with (first
      | (go_at_call 72; refine HNN.out.mono ?_; rintro x w4 ⟨rfl, hw4⟩; subst hw4)
      | (go_at_call 104; refine HD.out.mono ?_; rintro x w4 ⟨rfl, hi4, ho4⟩))
    go_ret
    exact SyncO.no HN.out rfl (did_after HO.out ⟨W, hi4, Newer.refl _ _, only_p ho4⟩)
  · obtain ⟨h1, h3⟩ : d.off = false ∧ d.left ≠ 0 := by
      cases hof : d.off
      · exact ⟨rfl, fun e => hdn (.inr e)⟩
      · exact absurd (.inl hof) hdn
    have HD := Lib.hid (deed_yesS h2 h1 h3 hd #[.pointer (some ⟨w.heap.size, 0, none⟩)] _ _ (sync1_any h2 x0 (by simp)))
    have HN := Lib.hid hdn
    clear h h2 ho hb hdn h1 h3
    go_enter Tryz.func59, Tryz.ntmps59
    go_wp2_with (first
      | (go_at_call 72; refine HNN.out.mono ?_; rintro x w4 ⟨rfl, hw4⟩; subst hw4)
      | (go_at_call 104; refine HD.out.mono ?_; rintro x w4 ⟨rfl, hdid⟩))
    go_ret
    exact SyncO.ok HN.out rfl (did_after HO.out hdid)
end
end Go.Proofs.YthgfmoogagldmaaGreat.Disk
namespace Go.Proofs.YthgfmoogagldmaaGreat.Disk
open Go.RowKit Go.Maps
def fateZ (fs : List Int) (k : Nat) : Int := if k < fs.length then bits BinOp.and IntKind.i64 (fs.getD k 0) 3 else 0
def crashL (z : Int) (s l : List UInt8) : List UInt8 := (if z = 1 ∨ z = 2 then l.take 32 else s.take 32) ++ (if z = 1 ∨ z = 3 then l.drop 32 else s.drop 32)
def crashAt (d : DS) (z : Int) (i : Nat) : List UInt8 := match d.wait i with | none => d.safe i | some l => crashL z (d.safe i) l
def crashK (d : DS) (fs : List Int) (ks : List Nat) (k : Nat) : Nat → List UInt8 := fun j => if j ∈ ks.take k then crashAt d (fateZ fs (ks.idxOf j)) j else d.safe j
def crashD (d : DS) (fs : List Int) (ks : List Nat) : DS := { d with safe := crashK d fs ks ks.length, wait := fun _ => none, off := false, left := -1 }
theorem crashK_zero (d : DS) (fs : List Int) (ks : List Nat) : crashK d fs ks 0 = d.safe := by
  funext j
  unfold crashK
  simp
theorem idx_nodup : ∀ {ks : List Nat} {k i : Nat}, ks.Nodup → ks[k]? = some i → ks.idxOf i = k
  | [], k, i, _, h => by simp at h
  | a :: ks, 0, i, hn, h => by
    simp at h
    subst h
    simp
  | a :: ks, k + 1, i, hn, h => by
    rw [List.nodup_cons] at hn
    have h2 : ks[k]? = some i := by simpa using h
    have hne : a ≠ i := fun e => hn.1 (by rw [e]; exact List.mem_of_getElem? h2)
    have hb : (a == i) = false := by simp [hne]
    rw [List.idxOf_cons, hb, idx_nodup hn.2 h2]
    rfl
theorem crashK_step {d : DS} {fs : List Int} {ks : List Nat} {k i : Nat} (hn : ks.Nodup) (h : ks[k]? = some i) : crashK d fs ks (k + 1) = (fun j => if j = i then crashAt d (fateZ fs k) i else crashK d fs ks k j) ∧ crashK d fs ks k i = d.safe i := by
  obtain ⟨hk, hi⟩ := List.getElem?_eq_some_iff.1 h
  have htk : ks.take (k + 1) = ks.take k ++ [i] := by rw [← hi]; exact List.take_succ_eq_append_getElem hk
  have hni : i ∉ ks.take k := by
    intro hm
    obtain ⟨j, hj, he⟩ := List.getElem_of_mem hm
    have hjk : j < k := by rw [List.length_take] at hj; omega
    rw [List.getElem_take] at he
    have h2 : ks[j]? = some i := by rw [List.getElem?_eq_getElem (by omega), he]
    have h3 := idx_nodup hn h2
    have h4 := idx_nodup hn h
    omega
  constructor
  · funext j
    unfold crashK
    rw [htk]
    by_cases e : j = i
    · subst e
      rw [if_pos (by simp), if_pos rfl, idx_nodup hn h]
    · rw [if_neg e]
      by_cases hm : j ∈ ks.take k
      · rw [if_pos hm, if_pos (List.mem_append_left _ hm)]
      · rw [if_neg hm, if_neg (by
          intro h2
          rcases List.mem_append.1 h2 with h2 | h2
          · exact hm h2
          · exact e (List.mem_singleton.1 h2))]
  · unfold crashK
    rw [if_neg hni]
theorem lay_head {s l : List UInt8} (hs : s.length = 64) (hl : l.length = 64) : lay s 0 (l.take 32) = l.take 32 ++ s.drop 32 := by
  unfold lay
  simp [hl]
theorem lay_tail {s l : List UInt8} (hs : s.length = 64) (hl : l.length = 64) : lay s 32 (l.drop 32) = s.take 32 ++ l.drop 32 := by
  have h : s.drop (32 + (l.drop 32).length) = [] := List.drop_eq_nil_of_le (by rw [List.length_drop]; omega)
  unfold lay
  rw [h, List.append_nil]
theorem lay_both {s l : List UInt8} (hs : s.length = 64) (hl : l.length = 64) : lay (lay s 0 (l.take 32)) 32 (l.drop 32) = l.take 32 ++ l.drop 32 := by
  rw [lay_head hs hl, lay_tail (by simp [hs, hl]) hl, List.take_append_of_le_length (by simp [hl]), List.take_of_length_le (by rw [List.length_take]; omega)]
section
variable {w w' : World} {p g b cap : Nat} {W : List Nat} {d : DS}
theorem bytes_tail {B q : Nat} {l : List UInt8} (h : Bytes w B (some ⟨q, 0, none⟩) 64 l) : Bytes w B (some ⟨q, 32, none⟩) 32 (l.drop 32) := by
  have := h.rest (k := 32) (by decide)
  exact this
theorem SafeAt.cong {n : Nat} {safe safe' : Nat → List UInt8} (h : SafeAt w g n cap safe) (he : ∀ j, j < n → safe' j = safe j) : SafeAt w g n cap safe' := by
  obtain ⟨C, h1, h2, h3, h4⟩ := h
  exact ⟨C, h1, h2, h3, fun i hi => by rw [he i hi]; exact h4 i hi⟩
def CrashO (w : World) (p g b : Nat) (W : List Nat) (cap : Nat) (d : DS) (fs : List Int) (x : Ending) (w' : World) : Prop := ∃ ks, waitsD d ks ∧ x = .returned (.tuple #[]) ∧ Did w p g b W cap (crashD d fs ks) w'
theorem fate_cases (z : Int) : (z = 1) ∨ (z = 2) ∨ (z = 3) ∨ (z ≠ 1 ∧ z ≠ 2 ∧ z ≠ 3) := by omega
set_option maxHeartbeats 8000000 in
theorem crash_any (A : Option Addr) (c : Nat) (h : IsD w p g b W cap d) (fs : List Int) (hr : Reads w w.heap.size 1 A fs.length (fs.map (Value.int .i64))) (hm : fs.length ≤ 1000000) (hgA : 0 < fs.length → ∀ q ∈ blkOf A, q ≠ g) : Calls Tryz.prog 21 #[.pointer (some ⟨p, 0, none⟩), .slice A fs.length c] w fun x w' => CrashO w p g b W cap d fs x w' := by
  have HNN := Lib.hid (none_is h)
  have HWT := Lib.hid (waiting_any h)
  obtain ⟨n0, n1⟩ := h.n0
  have HH := Lib.hid h
  have HR := Lib.hid hr
  clear h hr
  go_enter Tryz.func21, Tryz.ntmps21
  go_wp2_with (first
    | (go_at_call 72; refine HNN.out.mono ?_; rintro x w4 ⟨rfl, hw4⟩; subst hw4)
    | (go_at_call 74; refine HWT.out.mono ?_; rintro x w2 ⟨A3, c3, ks, rfl, hwk, hkn, hrk, hkc, hfr, ho2⟩))
  obtain ⟨m, hmk⟩ : ∃ m, ks.length = m := ⟨_, rfl⟩
  rw [hmk] at hkn hrk hkc ⊢
  have hgk : ∀ q ∈ blkOf A3, q ≠ g := fun q hq => by have := hfr q hq; have := HH.out.lt.2.1; omega
  have HRK := Lib.hid hrk
  have HO2 := Lib.hid ho2
  have HI2 := Lib.hid (HH.out.only0 ho2)
  have HR2 := Lib.hid (HR.out.only ho2 (by simp))
  have HWK := Lib.hid hwk
  have HMK := Lib.hid hmk
  have HND : Hid ks.Nodup := Lib.hid (hwk.1.imp (fun h => by omega))
  obtain ⟨mf, hmf⟩ : ∃ m, fs.length = m := ⟨_, rfl⟩
  rw [hmf] at hm HR2 HR hgA ⊢
  have HGA := Lib.hid hgA
  clear hgA
  have HMF := Lib.hid hmf
  clear hrk ho2 hwk HWT HNN HR hmk hmf
  go_loopw [14] (fun i wr => ∃ k : Nat, k ≤ m ∧ i = .int .i64 k ∧ SafeAt wr g d.n cap (crashK d fs ks k) ∧ Only [g] w2 wr) (fun i _ => m - (intOf i).toNat)
  case atStart => exact ⟨0, by omega, rfl, by rw [crashK_zero]; exact HI2.out.safe, Only.refl _ _⟩
  case round =>
    obtain ⟨k, hk, rfl, hsf, ho⟩ := hrel
    have hir := HI2.out.turned ho hsf
    have HSF := Lib.hid hsf
    have HO := Lib.hid ho
    have HIR := Lib.hid hir
    by_cases hlt : k < m
    · have e1 : decide ((k : Int) < (m : Int)) = true := decide_eq_true (by omega)
      have e1' : decide (k < m) = true := decide_eq_true (by omega)
      obtain ⟨i, hki⟩ : ∃ i, ks[k]? = some i := ⟨_, List.getElem?_eq_getElem (by rw [HMK.out]; exact hlt)⟩
      have him : i ∈ ks := List.mem_of_getElem? hki
      obtain ⟨l, hl⟩ := Option.isSome_iff_exists.1 ((HWK.out.2 i).1 him)
      obtain ⟨f, hv, hf⟩ := hir.map
      obtain ⟨hi, hll, q, qc, hq, hqW, hb, hqc, hqm⟩ := hf.some_ i l hl
      have hi : i < d.n := hi
      obtain ⟨hst, hsi⟩ := crashK_step (d := d) (fs := fs) HND.out hki
      obtain ⟨b1, o1, hA1, hl1, hc1⟩ := HRK.out.at1 hlt
      subst hA1
      have hkk : (ks.map (fun k : Nat => Value.int .i64 (k : Int)))[k]? = some (.int .i64 (i : Int)) := by rw [List.getElem?_map, hki]; rfl
      rw [hkk] at hc1
      have y1 := ho.cell hc1 (by simpa [blkOf] using hgk)
      have hat : ∀ n, Calls Tryz.prog 75 #[.pointer (some ⟨p, 0, none⟩), .int .i64 (i : Int)] (wr.drewN n) fun x w' => x = .returned (.slice (some ⟨g, 64 * i, none⟩) 64 (cap - 64 * i)) ∧ w' = wr.drewN n := fun n => at_is (hir.only0 ((Only.refl [] wr).drewN n)) i hi
      have hlook : ∀ n, (Instr.lookup 108 (.map (some b)) (.int .i64 (i : Int)) false).run Tryz.prog (wr.drewN n) = .ok (.slice (some ⟨q, 0, none⟩) 64 qc) (wr.drewN n) := fun n => by
        have := (hv.only ((Only.refl [] wr).drewN n) (by simp)).run_look1 lawI Tryz.underlying108 (zeroBs (wr.drewN n)) (keyI (i := i) (by omega))
        rw [this, hq]
        rfl
      have c4 : ∀ n, (wr.drewN n).cell? ⟨p, 4, none⟩ = some (.map (some b)) := fun n => hir.blk.cell 4
      have c4' := hir.blk.cell 4
      obtain ⟨C, hC, hC2, hC3, hC4⟩ := hsf
      have hlen : (d.safe i).length = 64 := (HI2.out.safe).choose_spec.2.2.2 i hi |>.1
      obtain ⟨z, hz⟩ : ∃ z, fateZ fs k = z := ⟨_, rfl⟩
      rw [hz] at hst
      obtain ⟨cc, hcc⟩ : ∃ cc, cap - 64 * i = cc := ⟨_, rfl⟩
      have hcc64 : 64 ≤ cc := by have h9 : 64 * d.n ≤ cap := hC3; omega
      have hcn : ¬ cc = 32 := by omega
      have hqn : ¬ qc = 32 := by omega
      rw [hcc] at hat
      have HAT := Lib.hid hat
      have HST := Lib.hid hst
      have HSI := Lib.hid hsi
      have HCC := Lib.hid hC
      have HC4 := Lib.hid hC4
      have HB := Lib.hid hb
      have HL := Lib.hid hl
      have HLL := Lib.hid hll
      have HLEN := Lib.hid hlen
      have hC3' : 64 * i + 64 ≤ C.size := by omega
      have HC2 := Lib.hid hC2
      have HC3 := Lib.hid hC3
      have HGN : Hid (∀ x ∈ W, x ≠ g) := Lib.hid (fun x hx => (HH.out.apart x hx).2.1)
      have HQW := Lib.hid hqW
      clear hki him hl hv hf hq hb hst hsi hc1 hkk hat hC hC2 hC3 hC4 hlen hll hir ho hqW hcc
      have HCA : Hid (crashAt d z i = crashL z (d.safe i) l) := Lib.hid (by unfold crashAt; rw [HL.out])
      have HT2 : Hid ((l.drop 32).take 32 = l.drop 32) := Lib.hid (List.take_of_length_le (by have := HLL.out; rw [List.length_drop]; omega))
      have hlll := HLL.out
      by_cases hkf : k < mf
      · have e2 : decide ((k : Int) < (mf : Int)) = true := decide_eq_true (by omega)
        have e2' : decide (k < mf) = true := decide_eq_true (by omega)
        obtain ⟨b2, o2, hA2, hl2, hc2⟩ := HR2.out.at1 hkf
        subst hA2
        have hz' : bits BinOp.and IntKind.i64 (fs.getD k 0) 3 = z := by rw [← hz]; unfold fateZ; rw [if_pos (by rw [HMF.out]; exact hkf)]
        have hff : (fs.map (Value.int .i64))[k]? = some (.int .i64 (fs.getD k 0)) := by { have hkf2 : k < fs.length := (by rw [HMF.out]; exact hkf); rw [List.getElem?_map, List.getElem?_eq_getElem hkf2, List.getD_eq_getElem?_getD, List.getElem?_eq_getElem hkf2]; rfl }
        rw [hff] at hc2
        have y2 := HO.out.cell hc2 (by simpa [blkOf] using HGA.out (by omega))
        obtain ⟨f0, hf0⟩ : ∃ f0, fs.getD k 0 = f0 := ⟨_, rfl⟩
        rw [hf0] at hz' y2
        clear hff hc2 hf0 hz
        rcases fate_cases z with hz1 | hz1 | hz1 | hz1
        · subst hz1
          go_wp2_with fail
          go_quiet ((go_at_call 75; exact Calls.quiet_of_same (HAT.out _)))
          have hCq := HCC.out.drewN nq
          have hBq := HB.out.drewN nq
          have HCQ := Lib.hid hCq
          have HBQ := Lib.hid hBq
          clear hCq hBq
          go_wp2_with (refine wpList_copy_bytes (o := ⟨some 46, _, _, _, _, _⟩) rfl (.tmp 44) (.tmp 45) 35 35 rfl Tryz.underlying35 (by kernel_rfl) rfl rfl HCQ.out HBQ.out (by decide) (by have := hC3'; show 64 * i + 32 ≤ C.size; omega) ?_; intro w5 kk hb5 ho5; have HB5 := Lib.hid hb5; have HO5 := Lib.hid ho5; clear hb5 ho5; go_frame)
          have hs5 := SafeAt.laid (o := 0) (l := l.take 32) HCC.out HC2.out HC3.out HC4.out hi (by rw [List.length_take]; omega) HB5.out
          obtain ⟨C5, hC5, hC52, hC53, hC54⟩ := hs5
          have HC5 := Lib.hid hC5.drew
          have hB5' := bytes_tail (((HB.out.only ((Only.refl [] wr).drewN nq) (by simp)).only HO5.out (by simpa [blkOf] using HGN.out _ HQW.out)))
          have HBT := Lib.hid hB5'.drew
          clear hC5 hB5'
          go_region_law (refine step_copy_bytes (w := w5.drew) (o := ⟨some 57, _, _, _, _, _⟩) rfl (.tmp 54) (.tmp 56) 35 35 rfl Tryz.underlying35 (by kernel_rfl) rfl rfl HC5.out HBT.out (by decide) (by have h9 := hC53; have h8 := hC52; show 64 * i + 32 + 32 ≤ C5.size; omega) ?_; intro w6 kk2 hb6 ho6; rw [HT2.out] at hb6; have HB6 := Lib.hid hb6; have HO6 := Lib.hid ho6; clear hb6 ho6)
          have hs6 := SafeAt.laid (o := 32) (l := l.drop 32) HC5.out hC52 hC53 hC54 hi (by rw [List.length_drop]; omega) HB6.out
          go_wp2_with fail
          have hfinal : SafeAt w6 g d.n cap (crashK d fs ks (k + 1)) := by
            rw [HST.out]
            exact hs6.cong (fun j hj => by
              by_cases e : j = i
              · subst e
                simp only [if_true]
                rw [HCA.out]
                unfold crashL
                rw [if_pos (by omega), if_pos (by omega), HSI.out]
                exact (lay_both HLEN.out HLL.out).symm
              · simp only [if_neg e])
          go_roundw
          case measure => simp [intOf]; omega
          case rel => exact ⟨k + 1, by omega, by go_num, hfinal, ((HO.out.drewN nq).trans HO5.out (fun x hx => .inl hx)).drew.trans HO6.out (fun x hx => .inl hx)⟩
        · subst hz1
          go_wp2_with fail
          go_quiet ((go_at_call 75; exact Calls.quiet_of_same (HAT.out _)))
          have hCq := HCC.out.drewN nq
          have hBq := HB.out.drewN nq
          have HCQ := Lib.hid hCq
          have HBQ := Lib.hid hBq
          clear hCq hBq
          go_wp2_with (refine wpList_copy_bytes (o := ⟨some 46, _, _, _, _, _⟩) rfl (.tmp 44) (.tmp 45) 35 35 rfl Tryz.underlying35 (by kernel_rfl) rfl rfl HCQ.out HBQ.out (by decide) (by have := hC3'; show 64 * i + 32 ≤ C.size; omega) ?_; intro w5 kk hb5 ho5; have HB5 := Lib.hid hb5; have HO5 := Lib.hid ho5; clear hb5 ho5; go_frame)
          have hs5 := SafeAt.laid (o := 0) (l := l.take 32) HCC.out HC2.out HC3.out HC4.out hi (by rw [List.length_take]; omega) HB5.out
          have hfinal : SafeAt w5 g d.n cap (crashK d fs ks (k + 1)) := by
            rw [HST.out]
            exact hs5.cong (fun j hj => by
              by_cases e : j = i
              · subst e
                simp only [if_true]
                rw [HCA.out]
                unfold crashL
                rw [if_pos (by omega), if_neg (by omega), HSI.out]
                exact (lay_head HLEN.out HLL.out).symm
              · simp only [if_neg e])
          go_roundw
          case measure => simp [intOf]; omega
          case rel => exact ⟨k + 1, by omega, by go_num, hfinal, (HO.out.drewN nq).trans HO5.out (fun x hx => .inl hx)⟩
        · subst hz1
          go_wp2_with fail
          go_quiet ((go_at_call 75; exact Calls.quiet_of_same (HAT.out _)))
          have hCq := HCC.out.drewN nq
          have hBq := HB.out.drewN nq
          have HCQ := Lib.hid hCq
          have HBQ := Lib.hid hBq
          clear hCq hBq
          go_wp2_with fail
          have HC5 := Lib.hid HCQ.out.drew
          have hB5' := bytes_tail HBQ.out
          have HBT := Lib.hid hB5'.drew
          clear hB5'
          go_region_law (refine step_copy_bytes (w := (wr.drewN nq).drew) (o := ⟨some 57, _, _, _, _, _⟩) rfl (.tmp 54) (.tmp 56) 35 35 rfl Tryz.underlying35 (by kernel_rfl) rfl rfl HC5.out HBT.out (by decide) (by have h9 := HC3.out; have h8 := HC2.out; show 64 * i + 32 + 32 ≤ C.size; omega) ?_; intro w6 kk2 hb6 ho6; rw [HT2.out] at hb6; have HB6 := Lib.hid hb6; have HO6 := Lib.hid ho6; clear hb6 ho6)
          have hs6 := SafeAt.laid (o := 32) (l := l.drop 32) HC5.out HC2.out HC3.out HC4.out hi (by rw [List.length_drop]; omega) HB6.out
          go_wp2_with fail
          have hfinal : SafeAt w6 g d.n cap (crashK d fs ks (k + 1)) := by
            rw [HST.out]
            exact hs6.cong (fun j hj => by
              by_cases e : j = i
              · subst e
                simp only [if_true]
                rw [HCA.out]
                unfold crashL
                rw [if_neg (by omega), if_pos (by omega), HSI.out]
                exact (lay_tail HLEN.out HLL.out).symm
              · simp only [if_neg e])
          go_roundw
          case measure => simp [intOf]; omega
          case rel => exact ⟨k + 1, by omega, by go_num, hfinal, ((HO.out.drewN nq).drew).trans HO6.out (fun x hx => .inl hx)⟩
        · have z1 : (z == 1) = false := by simp; omega
          have z2 : (z == 2) = false := by simp; omega
          have z3 : (z == 3) = false := by simp; omega
          go_wp2_with fail
          go_quiet ((go_at_call 75; exact Calls.quiet_of_same (HAT.out _)))
          have hCq := HCC.out.drewN nq
          have hBq := HB.out.drewN nq
          have HCQ := Lib.hid hCq
          have HBQ := Lib.hid hBq
          clear hCq hBq
          go_wp2_with fail
          have hfinal : SafeAt (wr.drewN nq) g d.n cap (crashK d fs ks (k + 1)) := by
            rw [HST.out]
            have h0 : SafeAt (wr.drewN nq) g d.n cap (crashK d fs ks k) := HSF.out.only ((Only.refl [] wr).drewN nq) (by simp)
            exact h0.cong (fun j hj => by
              by_cases e : j = i
              · subst e; rw [if_pos rfl, HSI.out, HCA.out]; unfold crashL; rw [if_neg (by omega), if_neg (by omega), List.take_append_drop]
              · rw [if_neg e])
          go_roundw
          case measure => simp [intOf]; omega
          case rel => exact ⟨k + 1, by omega, by go_num, hfinal, HO.out.drewN nq⟩
      · have e2 : decide ((k : Int) < (mf : Int)) = false := decide_eq_false (by omega)
        have e2' : decide (k < mf) = false := decide_eq_false (by omega)
        have hz0 : z = 0 := by rw [← hz]; unfold fateZ; rw [if_neg (by rw [HMF.out]; exact hkf)]
        subst hz0
        clear hz
        go_wp2_with fail
        go_quiet ((go_at_call 75; exact Calls.quiet_of_same (HAT.out _)))
        have hCq := HCC.out.drewN nq
        have hBq := HB.out.drewN nq
        have HCQ := Lib.hid hCq
        have HBQ := Lib.hid hBq
        clear hCq hBq
        go_wp2_with fail
        have hfinal : SafeAt (wr.drewN nq) g d.n cap (crashK d fs ks (k + 1)) := by
          rw [HST.out]
          have h0 : SafeAt (wr.drewN nq) g d.n cap (crashK d fs ks k) := HSF.out.only ((Only.refl [] wr).drewN nq) (by simp)
          exact h0.cong (fun j hj => by
            by_cases e : j = i
            · subst e; rw [if_pos rfl, HSI.out, HCA.out]; unfold crashL; rw [if_neg (by omega), if_neg (by omega), List.take_append_drop]
            · rw [if_neg e])
        go_roundw
        case measure => simp [intOf]; omega
        case rel => exact ⟨k + 1, by omega, by go_num, hfinal, HO.out.drewN nq⟩
    · obtain rfl : k = m := by omega
      have e1 : decide ((k : Int) < (k : Int)) = false := decide_eq_false (by omega)
      have e1' : decide (k < k) = false := decide_eq_false (by omega)
      have c4 := hir.blk.cell 4
      obtain ⟨f, hv, hf⟩ := hir.map
      have HV := Lib.hid hv
      have hfin : ∀ w5, VM Tryz.prog 3 w5 b 0 (fun _ => none) → Only [b] wr w5 → CrashO w4 p g b W cap d fs (.returned (.tuple #[])) ((w5.setCell ⟨p, 2, none⟩ (.bool false)).setCell ⟨p, 0, none⟩ (.int .i64 (-1))) := fun w5 hv5 ho5 => by
        have h5 := hir.cleared ho5 hv5
        have ho6 : Only [p] w5 ((w5.setCell ⟨p, 2, none⟩ (.bool false)).setCell ⟨p, 0, none⟩ (.int .i64 (-1))) := ((Only.refl [p] w5).setCell (p := ⟨p, 2, none⟩) (.inl (by simp)) _).setCell (p := ⟨p, 0, none⟩) (.inl (by simp)) _
        have hb6 := (h5.blk.set_ 2 (.bool false)).set_ 0 (.int .i64 (-1))
        have h6 := h5.head ho6 hb6 ⟨by omega, by omega⟩ h5.done_
        have hcr : crashD d fs ks = { d with safe := crashK d fs ks k, wait := fun _ => none, off := false, left := -1 } := by unfold crashD; rw [HMK.out]
        refine ⟨ks, HWK.out, rfl, W, by rw [hcr]; exact h6, Newer.refl _ _, ?_⟩
        have a1 : Only [p, g, b] w4 wr := (HO2.out.mono (S' := [p, g, b]) (fun x hx => by cases hx)).trans ho (fun x hx => .inl (by simp at hx; simp [hx]))
        have a2 : Only [p, g, b] w4 w5 := a1.trans ho5 (fun x hx => .inl (by simp at hx; simp [hx]))
        exact a2.trans ho6 (fun x hx => .inl (by simp at hx; simp [hx]))
      have HFIN := Lib.hid hfin
      have hblk5 : ∀ w5, Only [b] wr w5 → w5.frozen? ⟨p, 2, none⟩ = false ∧ w5.cell? ⟨p, 2, none⟩ = some (.bool d.off) ∧ w5.cell? ⟨p, 0, none⟩ = some (.int .i64 d.left) ∧ w5.frozen? ⟨p, 0, none⟩ = false := fun w5 ho5 => by
        have hb5 := hir.blk.only ho5 (by simpa using hir.ne.2.1)
        exact ⟨hb5.frozen 2, hb5.cell 2, hb5.cell 0, hb5.frozen 0⟩
      have HB5 := Lib.hid hblk5
      clear hir hv hf hfin hblk5 ho hsf HH
      go_wp2_with (refine wpList_clearV rfl (.tmp 62) 108 rfl 35 Tryz.underlying108 rfl HV.out ?_; intro w5 hv5 ho5; obtain ⟨g1, g2, g3, g4⟩ := HB5.out w5 ho5; have HVV := Lib.hid hv5; have HOO := Lib.hid ho5; clear hv5 ho5)
      go_end0
      exact HFIN.out _ HVV.out HOO.out
end
end Go.Proofs.YthgfmoogagldmaaGreat.Disk
