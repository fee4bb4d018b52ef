/- Write, and what it hands to deed, walk. -/
import Derived.Test.YtgbicimbggdpgaaDisk2
import Derived.Deep.RegionHeld
import Derived.Deep.QuietTactic
import Derived.BigQuiet
import Derived.Deep.DeepFit
namespace Go.Proofs.Ytgbicimbggdpgaa.Disk
open Go.RowKit Go.Maps
set_option linter.unusedVariables false
set_option maxRecDepth 100000
def setW (wait : Nat → Option (List UInt8)) (i : Nat) (l : List UInt8) : Nat → Option (List UInt8) := fun k => if k = i then some l else wait k
theorem WaitF.ks {w : World} {W : List Nat} {n : Nat} {f : Lit → Option Value} {wait : Nat → Option (List UInt8)} (h : WaitF w W n f wait) : ∀ k, (f k).isSome = true → k ∈ (List.range n).map pk := fun k hk => by
  obtain ⟨i, hi, rfl⟩ := h.keys k hk
  exact List.mem_map.2 ⟨i, List.mem_range.2 hi, rfl⟩
section
variable {w w' : World} {p g b cap : Nat} {W : List Nat} {d : DS} {f : Lit → Option Value}
theorem IsD.put {i q c m : Nat} {l : List UInt8} (h : IsD w p g b W cap d) (hf : WaitF w W d.n f d.wait) (ho : Only [b] w w') (hv : VM Try.prog 3 w' b m (upd f (pk i) (some (.slice (some ⟨q, 0, none⟩) 64 c)))) (hB : Bytes w w.heap.size (some ⟨q, 0, none⟩) 64 l) (hc : 64 ≤ c ∧ c ≤ maxLen)
    (hq : q ≠ p ∧ q ≠ g ∧ q ≠ b) (hi : i < d.n) : IsD w' p g b (q :: W) cap { d with wait := setW d.wait i l } := by
  have hqw : q < w.heap.size := hB.blk_lt (by decide) q (by simp [blkOf])
  have hf2 := hf.only ho (fun k hk => by simpa using (h.apart k hk).2.2)
  have hw : WaitF w' (q :: W) d.n (upd f (pk i) (some (.slice (some ⟨q, 0, none⟩) 64 c))) (setW d.wait i l) := by
    refine ⟨fun k hk => ?_, fun j l' hl' => ?_, fun j hj => ?_⟩
    · by_cases e : k = pk i
      · exact ⟨i, hi, e⟩
      · rw [upd_other _ _ e] at hk
        exact hf.keys k hk
    · unfold setW at hl'
      by_cases e : j = i
      · subst e
        rw [if_pos rfl] at hl'
        injection hl' with hl'
        subst hl'
        exact ⟨hi, hB.len, q, c, upd_same _ _ _, List.mem_cons_self, (hB.only ho (fun k hk => by simp [blkOf] at hk; subst hk; simpa using hq.2.2)).more ho.size, hc⟩
      · rw [if_neg e] at hl'
        obtain ⟨h1, h2, q', c', h3, h4, h5⟩ := hf2.some_ j l' hl'
        exact ⟨h1, h2, q', c', by rw [upd_other _ _ (fun e' => e (pk_inj e'))]; exact h3, List.mem_cons_of_mem _ h4, h5⟩
    · unfold setW at hj
      by_cases e : j = i
      · rw [if_pos e] at hj; cases hj
      · rw [if_neg e] at hj
        rw [upd_other _ _ (fun e' => e (pk_inj e'))]
        exact hf.none_ j hj
  have hv2 := hv.tight lawI hw.ks
  rw [List.length_map, List.length_range] at hv2
  refine h.mapped ho hv2 hw ?_ ?_
  · intro k hk
    rcases List.mem_cons.1 hk with rfl | hk
    · exact hq
    · exact h.apart k hk
  · intro k hk
    rcases List.mem_cons.1 hk with rfl | hk
    · exact Nat.lt_of_lt_of_le hqw ho.size
    · exact Nat.lt_of_lt_of_le (h.low k hk) ho.size
theorem IsD.lt (h : IsD w p g b W cap d) : p < w.heap.size ∧ g < w.heap.size ∧ b < w.heap.size := by
  obtain ⟨C, hC, _⟩ := h.safe
  obtain ⟨f, hv, _⟩ := h.map
  exact ⟨h.blk.lt, hC.lt, hv.lt⟩
set_option maxHeartbeats 2000000 in
theorem write1_any (h : IsD w p g b W cap d) {q3 q4 q5 i c B : Nat} {A : Option Addr} {l : List UInt8} (x5 : w.cell? ⟨q5, 0, none⟩ = some (.slice A 64 c)) (x3 : w.cell? ⟨q3, 0, none⟩ = some (.pointer (some ⟨p, 0, none⟩))) (x4 : w.cell? ⟨q4, 0, none⟩ = some (.int .i64 (i : Int)))
    (hr : Bytes w B A 64 l) (hB : B ≤ w.heap.size) (hi : i < d.n) :
    Calls Try.prog 21 #[.pointer (some ⟨q5, 0, none⟩), .pointer (some ⟨q3, 0, none⟩), .pointer (some ⟨q4, 0, none⟩)] w fun x w' => x = .returned (.tuple #[]) ∧ Did w p g b W cap { d with safe := d.safe, wait := setW d.wait i l } w' := by
  have c4 := h.blk.cell 4
  have HH := Lib.hid h
  have HI := Lib.hid hi
  obtain ⟨n0, n1⟩ := h.n0
  have HKY := Lib.hid (keyI (i := i) (by omega))
  have HCL := Lib.hid (clone_any A 64 c B l w.drew hr.drew hB (by decide) (by decide))
  have HOD := Lib.hid ((Only.refl [] w).drew)
  have HX : Hid (∀ w', Only [] w w' → w'.cell? ⟨q5, 0, none⟩ = some (.slice A 64 c) ∧ w'.cell? ⟨q3, 0, none⟩ = some (.pointer (some ⟨p, 0, none⟩)) ∧ w'.cell? ⟨q4, 0, none⟩ = some (.int .i64 (i : Int)) ∧ w'.cell? ⟨p, 4, none⟩ = some (.map (some b))) := Lib.hid (fun w' ho => ⟨ho.cell x5 (by simp), ho.cell x3 (by simp), ho.cell x4 (by simp), ho.cell c4 (by simp)⟩)
  obtain ⟨d5, d3, d4, d6⟩ := HX.out _ HOD.out
  clear h hr hi x5 x3 x4 c4
  go_enter Try.func21, Try.ntmps21
  go_wp2_with fail
  go_region_law (go_simp; go_at_call 22; refine HCL.out.mono ?_; rintro x w2 ⟨q, qc, rfl, hq1, hq2, hown, hqc, hqm, ho2⟩; obtain ⟨e5, e3, e4, e6⟩ := HX.out w2 (HOD.out.trans ho2 (by simp)); obtain ⟨f, hv2, hf2⟩ := (HH.out.only0 (HOD.out.trans ho2 (by simp))).map; obtain ⟨w3, hrun, hv3, ho3⟩ := VM.run_put 45 lawI Try.underlying45 hv2 (by unfold maxLen; omega) (.slice (some ⟨q, 0, none⟩) 64 qc) HKY.out; have HV3 := Lib.hid hv3; have HF2 := Lib.hid hf2; have HO3 := Lib.hid ho3; clear hv2 hf2 hv3 ho3)
  all_goals
    have hox := HOD.out.trans ho2 (by simp)
    have hh2 := HH.out.only0 hox
    obtain ⟨l1, l2, l3⟩ := HH.out.lt
    have hq1' : w.heap.size ≤ q := hq1
    have hfin := hh2.put (l := l) HF2.out HO3.out HV3.out hown.reads ⟨hqc, hqm⟩ ⟨by omega, by omega, by omega⟩ HI.out
    have hnew : Newer w W (q :: W) := fun k hk => by
      rcases List.mem_cons.1 hk with rfl | hk
      · exact .inr hq1'
      · exact .inl hk
    have hon : Only [p, g, b] w w3 := (hox.mono (S' := [p, g, b]) (fun k hk => by cases hk)).trans HO3.out (fun k hk => .inl (by simp at hk; simp [hk]))
    go_wp2_with fail
    go_end0
    exact ⟨rfl, _, hfin, hnew, hon⟩
/-- what Write answers -/
def WriteO (w : World) (p g b : Nat) (W : List Nat) (cap : Nat) (d : DS) (i : Int) (l : List UInt8) (x : Ending) (w' : World) : Prop :=
  if d.off = true ∨ d.left = 0 then x = .returned (.int .i64 3) ∧ Did w p g b W cap { d with off := true } w'
  else if 0 ≤ i ∧ i < d.n ∧ l.length = 64 then x = .returned (.int .i64 0) ∧ Did w p g b W cap (stepD { d with wait := setW d.wait i.toNat l }) w'
  else x = .returned (.int .i64 1) ∧ Did w p g b W cap d w'
theorem WriteO.no {i : Int} {l : List UInt8} {x : Ending} (hd : d.off = true ∨ d.left = 0) (hx : x = .returned (.int .i64 3)) (h : Did w p g b W cap { d with off := true } w') : WriteO w p g b W cap d i l x w' := by unfold WriteO; rw [if_pos hd]; exact ⟨hx, h⟩
theorem WriteO.bad {i : Int} {l : List UInt8} {x : Ending} (hd : ¬ (d.off = true ∨ d.left = 0)) (hi : ¬ (0 ≤ i ∧ i < d.n ∧ l.length = 64)) (hx : x = .returned (.int .i64 1)) (h : Did w p g b W cap d w') : WriteO w p g b W cap d i l x w' := by unfold WriteO; rw [if_neg hd, if_neg hi]; exact ⟨hx, h⟩
theorem WriteO.ok {i : Int} {l : List UInt8} {x : Ending} (hd : ¬ (d.off = true ∨ d.left = 0)) (hi : 0 ≤ i ∧ i < d.n ∧ l.length = 64) (hx : x = .returned (.int .i64 0)) (h : Did w p g b W cap (stepD { d with wait := setW d.wait i.toNat l }) w') : WriteO w p g b W cap d i l x w' := by unfold WriteO; rw [if_neg hd, if_pos hi]; exact ⟨hx, h⟩
theorem did_of {d' : DS} (ho : Only [] w w') (h : IsD w' p g b W cap d') : Did w p g b W cap d' w' := ⟨W, h, Newer.refl _ _, ho.mono (fun k hk => by cases hk)⟩
theorem did_after {w1 : World} {d' : DS} (ho : Only [] w w1) (h : Did w1 p g b W cap d' w') : Did w p g b W cap d' w' := by
  obtain ⟨W', h1, h2, h3⟩ := h
  exact ⟨W', h1, (Newer.refl w W).trans h2 ho, (ho.mono (S' := [p, g, b]) (fun k hk => by cases hk)).trans h3 (fun k hk => .inl hk)⟩
set_option maxHeartbeats 4000000 in
theorem write_any (h : IsD w p g b W cap d) (i : Int) {A : Option Addr} {n c B : Nat} {l : List UInt8} (hr : Bytes w B A n l) (hB : B ≤ w.heap.size) (hd : d.done ≤ 4611686018427387904) (hn : n ≤ 1000000000) :
    Calls Try.prog 8 #[.pointer (some ⟨p, 0, none⟩), .int .i64 i, .slice A n c] w fun x w' => WriteO w p g b W cap d i l x w' := by
  obtain ⟨W3, hW3⟩ : ∃ W3, ((w.alloc (.cells #[.pointer (some ⟨p, 0, none⟩)] 25)).alloc (.cells #[.int .i64 i] 3)).alloc (.cells #[.slice A n c] 29) = W3 := ⟨_, rfl⟩
  have ho3 : Only [] w W3 := by rw [← hW3]; exact (((Only.refl [] w).alloc _).alloc _).alloc _
  have b0 : Blk W3 w.heap.size 25 #[.pointer (some ⟨p, 0, none⟩)] := by rw [← hW3]; exact ((Blk.new w _ _).alloc _).alloc _
  have b1 : Blk W3 (w.heap.size + 1) 3 #[.int .i64 i] := by
    have := (Blk.new (w.alloc (.cells #[.pointer (some ⟨p, 0, none⟩)] 25)) 3 #[.int .i64 i]).alloc (.cells #[.slice A n c] 29)
    rw [World.size_alloc, hW3] at this
    exact this
  have b2 : Blk W3 (w.heap.size + 1 + 1) 29 #[.slice A n c] := by
    have := Blk.new ((w.alloc (.cells #[.pointer (some ⟨p, 0, none⟩)] 25)).alloc (.cells #[.int .i64 i] 3)) 29 #[.slice A n c]
    rw [World.size_alloc, World.size_alloc, hW3] at this
    exact this
  have x0 := b0.cell 0
  have x1 := b1.cell 0
  have x2 := b2.cell 0
  have h3 := h.only0 ho3
  have c0 := h3.blk.cell 0
  have c2 := h3.blk.cell 2
  have f2 := h3.blk.frozen 2
  have HNN := Lib.hid (none_is h3)
  have HSC := Lib.hid (sectors_any h3)
  have HOF := Lib.hid h3.offed
  have HDN : Hid (∀ w1, Only [] W3 w1 → ∀ j : Nat, n = 64 → i = (j : Int) → d.off = false → d.left ≠ 0 → j < d.n → Calls Try.prog 18 #[.pointer (some ⟨p, 0, none⟩), .func (.func 21) #[] #[.pointer (some ⟨w.heap.size + 1 + 1, 0, none⟩), .pointer (some ⟨w.heap.size, 0, none⟩), .pointer (some ⟨w.heap.size + 1, 0, none⟩)]] w1 fun x w' => x = .returned (.int .i64 0) ∧ Did w1 p g b W cap (stepD { d with wait := setW d.wait j l }) w') := Lib.hid (by
    intro w1 ho1 j hn64 hij h1 h2 hj
    subst hn64
    subst hij
    have h1' := h3.only0 ho1
    exact deed_yesW h1' h1 h2 hd _ d.safe (setW d.wait j l) (write1_any h1' (ho1.cell x2 (by simp)) (ho1.cell x0 (by simp)) (ho1.cell x1 (by simp)) ((hr.only ho3 (by simp)).only ho1 (by simp)) (Nat.le_trans hB (Nat.le_trans ho3.size ho1.size)) hj))
  have H3 := Lib.hid h3
  have HW3 := Lib.hid hW3
  have HO3 := Lib.hid ho3
  have hlen := hr.len
  have HL := Lib.hid hlen
  obtain ⟨n0, n1⟩ := h.n0
  clear h hr h3 ho3 b0 b1 b2 hlen
  obtain ⟨n', left, done, off, safe, wait⟩ := d
  simp only at c0 c2 n0 n1 hd HSC HDN HOF H3 HNN ⊢
  by_cases hdn : off = true ∨ left = 0
  · have HDD := Lib.hid hdn
    have hcase : off = true ∨ (off = false ∧ left = 0) := by
      cases off
      · right
        exact ⟨rfl, by simpa using hdn⟩
      · exact .inl rfl
    clear hdn
    rcases hcase with rfl | ⟨rfl, rfl⟩
    all_goals
      go_enter Try.func8, Try.ntmps8
      go_wp2_with (go_at_call 17; refine HNN.out.mono ?_; rintro x w4 ⟨rfl, rfl⟩)
      go_ret
      exact WriteO.no (by simp) rfl ⟨W, HOF.out.1, Newer.refl _ _, (HO3.out.mono (S' := [p, g, b]) (fun k hk => by cases hk)).trans (only_p HOF.out.2) (fun k hk => .inl hk)⟩
  · have HDD := Lib.hid hdn
    obtain ⟨h1, h2⟩ : off = false ∧ left ≠ 0 := by
      cases off
      · exact ⟨rfl, by simpa using hdn⟩
      · simp at hdn
    subst h1
    have e0 : (left == 0) = false := by simp [h2]
    have HD := Lib.hid h2
    clear hdn h2
    have hkey : decide (i < 0) = true ∨ (decide (i < 0) = false ∧ decide ((n' : Int) ≤ i) = true) ∨ (decide (i < 0) = false ∧ decide ((n' : Int) ≤ i) = false ∧ ((n : Int) != 64) = true) ∨ (decide (i < 0) = false ∧ decide ((n' : Int) ≤ i) = false ∧ ((n : Int) != 64) = false) := by
      by_cases a : i < 0
      · exact .inl (decide_eq_true a)
      · by_cases b' : (n' : Int) ≤ i
        · exact .inr (.inl ⟨decide_eq_false a, decide_eq_true b'⟩)
        · by_cases c' : (n : Int) = 64
          · exact .inr (.inr (.inr ⟨decide_eq_false a, decide_eq_false b', by simp [c']⟩))
          · exact .inr (.inr (.inl ⟨decide_eq_false a, decide_eq_false b', by simpa using c'⟩))
    have hno : decide (i < 0) = true ∨ decide ((n' : Int) ≤ i) = true ∨ ((n : Int) != 64) = true → ¬ (0 ≤ i ∧ i < (n' : Int) ∧ l.length = 64) := by
      simp only [decide_eq_true_eq, bne_iff_ne, ne_eq]
      rw [HL.out]
      omega
    have HNO := Lib.hid hno
    clear hno
    have HQ : Hid (∀ k, Calls Try.prog 14 #[.pointer (some ⟨p, 0, none⟩)] (W3.drewN k) fun x w' => x = .returned (.int .i64 n') ∧ w' = W3.drewN k) := Lib.hid (fun k => sectors_any (H3.out.only0 ((Only.refl [] W3).drewN k)))
    rcases hkey with d1 | ⟨d1, d2⟩ | ⟨d1, d2, d3⟩ | ⟨d1, d2, d3⟩
    · have HB := Lib.hid (HNO.out (.inl d1))
      go_enter Try.func8, Try.ntmps8
      go_wp2_with (go_at_call 17; refine HNN.out.mono ?_; rintro x w4 ⟨rfl, rfl⟩)
      go_quiet ((go_at_call 14; exact Calls.quiet_of_same (HQ.out _)))
      go_wp2_with fail
      go_ret
      exact WriteO.bad HDD.out HB.out rfl (did_of (HO3.out.drewN nq) (H3.out.only0 ((Only.refl [] _).drewN nq)))
    · have HB := Lib.hid (HNO.out (.inr (.inl d2)))
      go_enter Try.func8, Try.ntmps8
      go_wp2_with (go_at_call 17; refine HNN.out.mono ?_; rintro x w4 ⟨rfl, rfl⟩)
      go_quiet ((go_at_call 14; exact Calls.quiet_of_same (HQ.out _)))
      go_wp2_with fail
      go_ret
      exact WriteO.bad HDD.out HB.out rfl (did_of (HO3.out.drewN nq) (H3.out.only0 ((Only.refl [] _).drewN nq)))
    · have HB := Lib.hid (HNO.out (.inr (.inr d3)))
      go_enter Try.func8, Try.ntmps8
      go_wp2_with (go_at_call 17; refine HNN.out.mono ?_; rintro x w4 ⟨rfl, rfl⟩)
      go_quiet ((go_at_call 14; exact Calls.quiet_of_same (HQ.out _)))
      go_wp2_with fail
      go_ret
      exact WriteO.bad HDD.out HB.out rfl (did_of (HO3.out.drewN nq) (H3.out.only0 ((Only.refl [] _).drewN nq)))
    · have hb1 : 0 ≤ i ∧ i < (n' : Int) ∧ n = 64 := by
        rw [decide_eq_false_iff_not] at d1 d2
        simp only [bne_eq_false_iff_eq] at d3
        omega
      have HB1 := Lib.hid hb1
      clear hb1
      go_enter Try.func8, Try.ntmps8
      go_wp2_with (go_at_call 17; refine HNN.out.mono ?_; rintro x w4 ⟨rfl, rfl⟩)
      go_quiet ((go_at_call 14; exact Calls.quiet_of_same (HQ.out _)))
      go_wp2_with fail
      refine (HDN.out (w4.drewN nq) ((Only.refl [] w4).drewN nq) i.toNat HB1.out.2.2 (by have := HB1.out.1; omega) (by simp) HD.out (by have := HB1.out; omega)).mono ?_
      rintro x w5 ⟨rfl, hd5⟩
      have HD5 := Lib.hid (did_after (HO3.out.drewN nq) hd5)
      clear hd5
      go_wp2_with fail
      go_ret
      exact WriteO.ok HDD.out ⟨HB1.out.1, HB1.out.2.1, by rw [HL.out]; exact HB1.out.2.2⟩ rfl HD5.out
end
end Go.Proofs.Ytgbicimbggdpgaa.Disk
