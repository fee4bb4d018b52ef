/- RefB: The document's disk: Stop, Sync; The document's disk: New. -/
import Derived.Test.YthgfmoogagldmaaGreatRanges
import Derived.Test.YthgfmoogagldmaaGreatRefA
import Derived.Test.YthgfmoogagldmaaGreatJournalB
set_option linter.unusedVariables false
set_option maxRecDepth 100000
namespace Go.Proofs.YthgfmoogagldmaaGreat.RefD
open Go.RowKit Go.Shelf Disk Journal
section
variable {w w5 w' : World} {p sb sc wb base : Nat} {d : DS} {X : List Nat} {s : Sl} {l : List UInt8}
set_option maxHeartbeats 1000000 in
theorem rstop_any (h : IsR X w p sb sc wb base d) (a : Int) (ha : a ≤ 9223372036854775807) : Calls Tryz.prog 28 #[.pointer (some ⟨p, 0, none⟩), .int .i64 a] w fun x w' => x = .returned (.tuple #[]) ∧ IsR X w' p sb sc wb base (stopD d a) ∧ Only [p] w w' := by
  have c2 : w.cell? ⟨p, 2, none⟩ = some (.int .i64 d.left) := h.blk.cell 2
  have c4 : w.cell? ⟨p, 4, none⟩ = some (.bool d.off) := h.blk.cell 4
  have f2 : w.frozen? ⟨p, 2, none⟩ = false := h.blk.frozen 2
  have f4 : w.frozen? ⟨p, 4, none⟩ = false := h.blk.frozen 4
  have H := Lib.hid h
  have hdn := h.done_
  unfold stopD
  cases ho : d.off with
  | true =>
    rw [if_pos rfl]
    rw [ho] at c4
    clear h
    go_enter Tryz.func28, Tryz.ntmps28
    go_wp2_with fail
    refine bodyPost_ret (results_none rfl _ _ _) rfl ?_
    exact ⟨rfl, H.out, Only.refl _ _⟩
  | false =>
    rw [if_neg (by simp)]
    rw [ho] at c4
    obtain ⟨m, hm⟩ : ∃ m, max a 0 = m := ⟨_, rfl⟩
    have hm0 : 0 ≤ m ∧ m ≤ 9223372036854775807 := by omega
    have HF : Hid (IsR X ((w.setCell ⟨p, 2, none⟩ (.int .i64 m)).setCell ⟨p, 4, none⟩ (.bool (m == 0))) p sb sc wb base { d with left := m, off := m == 0 } ∧ Only [p] w ((w.setCell ⟨p, 2, none⟩ (.int .i64 m)).setCell ⟨p, 4, none⟩ (.bool (m == 0)))) := Lib.hid (by
      have ho := ((Only.refl [p] w).setCell (p := ⟨p, 2, none⟩) (.inl (by simp)) (.int .i64 m)).setCell (p := ⟨p, 4, none⟩) (.inl (by simp)) (.bool (m == 0))
      exact ⟨h.head ho ((h.blk.set_ 2 _).set_ 4 _) (by omega) h.done_, ho⟩)
    have c2' : (w.setCell ⟨p, 2, none⟩ (.int .i64 m)).cell? ⟨p, 2, none⟩ = some (.int .i64 m) := (h.blk.set_ 2 _).cell 2
    have c4' : (w.setCell ⟨p, 2, none⟩ (.int .i64 m)).cell? ⟨p, 4, none⟩ = some (.bool d.off) := (h.blk.set_ 2 _).cell 4
    have f4' : (w.setCell ⟨p, 2, none⟩ (.int .i64 m)).frozen? ⟨p, 4, none⟩ = false := (h.blk.set_ 2 _).frozen 4
    rw [hm]
    clear h
    go_enter Tryz.func28, Tryz.ntmps28
    go_wp2_with fail
    go_end0
    exact ⟨rfl, HF.out.1, HF.out.2⟩
theorem IsR.sync1 (h : IsR X w p sb sc wb base d) {i : Nat} (hi : i < d.n) (hsec : Sec w (p :: sb :: wb :: X) s l) :
    IsR X ((w.setCell ⟨sb, i, none⟩ s.val).setCell ⟨wb, i, none⟩ (.slice none 0 0)) p sb sc wb base { d with safe := fun k => if k = i then l else d.safe k, wait := fun k => if k = i then none else d.wait k } ∧ Only [sb, wb] w ((w.setCell ⟨sb, i, none⟩ s.val).setCell ⟨wb, i, none⟩ (.slice none 0 0)) := by
  have hne := h.p_ne
  have h1o : Only [sb, wb] w (w.setCell ⟨sb, i, none⟩ s.val) := (Only.refl [sb, wb] w).setCell (p := ⟨sb, i, none⟩) (.inl (by simp)) _
  have h2o : Only [sb, wb] w ((w.setCell ⟨sb, i, none⟩ s.val).setCell ⟨wb, i, none⟩ (.slice none 0 0)) := h1o.setCell (p := ⟨wb, i, none⟩) (.inl (by simp)) _
  have hw2 : Only [wb] (w.setCell ⟨sb, i, none⟩ s.val) ((w.setCell ⟨sb, i, none⟩ s.val).setCell ⟨wb, i, none⟩ (.slice none 0 0)) := (Only.refl [wb] _).setCell (p := ⟨wb, i, none⟩) (.inl (by simp)) _
  have hw1 : Only [sb] w (w.setCell ⟨sb, i, none⟩ s.val) := (Only.refl [sb] w).setCell (p := ⟨sb, i, none⟩) (.inl (by simp)) _
  obtain ⟨h1, ⟨ss, h2, h3⟩, ⟨vs, h4, h6⟩, h7, h8, h9, h10, h11, hxl⟩ := h
  have hk : ∀ k ∈ [sb, wb], k ∈ (p :: sb :: wb :: X) ∨ w.heap.size ≤ k := fun k hk => .inl (by simp at hk ⊢; rcases hk with e | e <;> simp [e])
  have hsl : ss.length = d.n := by have := h2.len; rwa [List.length_map] at this
  have hvl : vs.length = d.n := by have := h4.len; rwa [List.length_map] at this
  have hs1 := (h2.put1 hi s.val).only hw2 (by simp [ownL, Value.ownBlock]; exact h7)
  have hs2 : (ss.map fun s => [s.val]).set i [s.val] = (ss.set i s).map fun s => [s.val] := by rw [List.map_set]
  rw [hs2] at hs1
  have hv1 := (h4.only hw1 (by simp [ownL, Value.ownBlock]; exact fun e => h7 e.symm)).put1 hi (.slice none 0 0)
  rw [flat_map1] at hv1
  refine ⟨⟨h1.only h2o (by simp; exact ⟨hne.1, hne.2⟩), ⟨_, hs1, fun j t hj => ?_⟩, ⟨_, hv1, fun j v hj => ?_⟩, h7, h8, fun j hj => ?_, h10, h11, fun k hk => Nat.lt_of_lt_of_le (hxl k hk) h2o.size⟩, h2o⟩
  · by_cases e : j = i
    · subst e
      rw [List.getElem?_set_self (by omega)] at hj
      injection hj with hj
      subst hj
      show Sec _ _ s (if j = j then l else d.safe j)
      rw [if_pos rfl]
      exact hsec.only h2o hk
    · rw [List.getElem?_set_ne (fun h => e h.symm)] at hj
      show Sec _ _ t (if j = i then l else d.safe j)
      rw [if_neg e]
      exact (h3 j t hj).only h2o hk
  · by_cases e : j = i
    · subst e
      rw [List.getElem?_set_self (by omega)] at hj
      injection hj with hj
      exact .inl ⟨if_pos rfl, hj.symm⟩
    · rw [List.getElem?_set_ne (fun h => e h.symm)] at hj
      rcases h6 j v hj with ⟨a, b⟩ | ⟨s2, l2, a, b, c⟩
      · exact .inl ⟨by show (if j = i then none else d.wait j) = none; rw [if_neg e, a], b⟩
      · exact .inr ⟨s2, l2, by show (if j = i then none else d.wait j) = some l2; rw [if_neg e, a], b, c.only h2o hk⟩
  · show (if j = i then none else d.wait j) = none
    split
    · rfl
    · exact h9 j hj
def partR (d : DS) (k : Nat) : DS := { d with safe := fun i => if i < k then syncS d i else d.safe i, wait := fun i => if i < k then none else d.wait i }
theorem partR_zero (d : DS) : partR d 0 = d := by
  cases d
  unfold partR
  simp
theorem partR_none {d : DS} {k : Nat} (h : d.wait k = none) : partR d (k + 1) = partR d k := by
  unfold partR
  congr 1
  · funext i
    by_cases e : i = k
    · subst e
      rw [if_pos (by omega), if_neg (by omega)]
      unfold syncS
      rw [h]
      rfl
    · by_cases e2 : i < k
      · rw [if_pos (by omega), if_pos e2]
      · rw [if_neg (by omega), if_neg e2]
  · funext i
    by_cases e : i = k
    · subst e
      rw [if_pos (by omega), if_neg (by omega), h]
    · by_cases e2 : i < k
      · rw [if_pos (by omega), if_pos e2]
      · rw [if_neg (by omega), if_neg e2]
theorem partR_some {d : DS} {k : Nat} {l : List UInt8} (h : d.wait k = some l) : partR d (k + 1) = { partR d k with safe := fun i => if i = k then l else (partR d k).safe i, wait := fun i => if i = k then none else (partR d k).wait i } := by
  unfold partR
  congr 1
  · funext i
    by_cases e : i = k
    · subst e
      rw [if_pos (by omega), if_pos rfl]
      unfold syncS
      rw [h]
      rfl
    · rw [if_neg e]
      dsimp only
      by_cases e2 : i < k
      · rw [if_pos (by omega), if_pos e2]
      · rw [if_neg (by omega), if_neg e2]
  · funext i
    by_cases e : i = k
    · subst e
      rw [if_pos (by omega), if_pos rfl]
    · rw [if_neg e]
      dsimp only
      by_cases e2 : i < k
      · rw [if_pos (by omega), if_pos e2]
      · rw [if_neg (by omega), if_neg e2]
theorem partR_all {d : DS} (h : ∀ i, d.n ≤ i → d.wait i = none) : stepD (partR d d.n) = syncD d := by
  unfold syncD
  congr 1
  unfold partR
  congr 1
  · funext i
    by_cases e : i < d.n
    · rw [if_pos e]
    · rw [if_neg e]
      unfold syncS
      rw [h i (by omega)]
      rfl
  · funext i
    by_cases e : i < d.n
    · rw [if_pos e]
    · rw [if_neg e, h i (by omega)]
set_option maxHeartbeats 4000000 in
theorem rsync_any (h : IsR X w p sb sc wb base d) (hdn : d.done < 9223372036854775807) :
    Calls Tryz.prog 80 #[.pointer (some ⟨p, 0, none⟩)] w fun x w' => ∃ e : Int, x = .returned (.int .i64 e) ∧ (e = 0 ↔ (synD d).2 = true) ∧ IsR X w' p sb sc wb base (synD d).1 ∧ Only [p, sb, wb] w w' := by
  have HD := Lib.hid (rdeed_any h)
  have H := Lib.hid h
  have hn0 := h.n0
  have hout := h.out_
  by_cases hc : d.off = true ∨ d.left = 0
  · have hs : synD d = ({ d with off := true }, false) := by unfold synD; rw [if_pos hc]
    rw [hs]
    clear h hout
    go_enter Tryz.func80, Tryz.ntmps80
    go_wp2_with fail
    refine HD.out.mono ?_
    rintro x w2 (⟨_, rfl, hr, ho⟩ | ⟨h1, h2, _⟩)
    · have HR := Lib.hid hr
      have HO := Lib.hid ho
      clear hr ho
      go_wp2_with fail
      go_ret
      exact ⟨3, rfl, by simp, HR.out, HO.out.mono (fun k hk => .inl (by simp at hk; simp [hk]))⟩
    · rcases hc with h | h
      · rw [h1] at h; cases h
      · exact absurd h h2
  · have hs : synD d = (syncD d, true) := by unfold synD; rw [if_neg hc]
    rw [hs]
    have hp0 := partR_zero d
    have hall := partR_all hout
    clear h
    go_enter Tryz.func80, Tryz.ntmps80
    go_wp2_with fail
    refine HD.out.mono ?_
    rintro x w2 (⟨hbad, _⟩ | ⟨_, _, rfl, hw2⟩)
    · exact absurd hbad hc
    have hw2 := hw2.symm
    subst hw2
    clear HD hc hs
    obtain ⟨n, hn⟩ : ∃ n, d.n = n := ⟨_, rfl⟩
    have HN := Lib.hid hn
    go_wp2_with fail
    go_loopw [3] (fun i wr => ∃ k : Nat, k ≤ n ∧ i = .int .i64 k ∧ IsR X wr p sb sc wb base (partR d k) ∧ Only [sb, wb] w wr) (fun i _ => n - (Go.RowKit.intOf i).toNat)
    case atStart => exact ⟨0, by omega, rfl, by rw [hp0]; exact H.out, Only.refl _ _⟩
    case round =>
      obtain ⟨k, hk, rfl, hR, ho⟩ := hrel
      have c0 : wr.cell? ⟨p, 0, none⟩ = some (.slice (some ⟨sb, 0, none⟩) d.n sc) := hR.blk.cell 0
      have c1 : wr.cell? ⟨p, 1, none⟩ = some (.slice (some ⟨wb, 0, none⟩) d.n d.n) := hR.blk.cell 1
      rw [hn] at c0 c1
      by_cases hlt : k < n
      · have d1 : decide ((k : Int) < (n : Int)) = true := decide_eq_true (by omega)
        obtain ⟨vs, hw1, hw2⟩ := hR.wait
        obtain ⟨ss, hs1, _⟩ := hR.safe
        have hnn : (partR d k).n = n := hn
        rw [hnn] at hw1 hs1
        have hvl : vs.length = n := by have := hw1.len; rwa [List.length_map] at this
        have hssl : ss.length = n := by have := hs1.len; rwa [List.length_map] at this
        obtain ⟨v, hv⟩ : ∃ v, vs[k]? = some v := ⟨_, List.getElem?_eq_getElem (by omega)⟩
        have cw : wr.cell? ⟨wb, k, none⟩ = some v := by
          have := hw1.cellOf (i := k) (j := 0) hlt (by decide)
          rw [Nat.mul_one, Nat.add_zero, List.getD_eq_getElem?_getD, List.getElem?_map, hv] at this
          exact this
        have hpw : (partR d k).wait k = d.wait k := if_neg (by omega)
        rcases hw2 k v hv with ⟨hwn, rfl⟩ | ⟨s, l, hws, rfl, hsec⟩
        · rw [hpw] at hwn
          have HP := Lib.hid (partR_none hwn)
          have hnil := neq_slice 0 wr none 0 0
          have HR := Lib.hid hR
          have HO := Lib.hid ho
          clear hR ho hw1 hw2 hs1 hvl hssl hv hpw hwn hnn
          go_wp2_with fail
          go_roundw
          case measure => simp [Go.RowKit.intOf]; omega
          case rel => exact ⟨k + 1, by omega, by go_num, by rw [HP.out]; exact HR.out, HO.out⟩
        · rw [hpw] at hws
          have HP := Lib.hid (partR_some hws)
          have HSY := Lib.hid (hR.sync1 (by rw [hnn]; exact hlt) hsec)
          have fs := hs1.frozenOf k
          have fw := hw1.frozenOf k
          obtain ⟨u, hu⟩ : ∃ u, wr.cell? ⟨sb, k, none⟩ = some u := by
            obtain ⟨t, ht⟩ : ∃ t, ss[k]? = some t := ⟨_, List.getElem?_eq_getElem (by omega)⟩
            have := hs1.cellOf (i := k) (j := 0) hlt (by decide)
            rw [Nat.mul_one, Nat.add_zero, List.getD_eq_getElem?_getD, List.getElem?_map, ht] at this
            exact ⟨_, this⟩
          obtain ⟨A, sn, c, sl⟩ := s
          obtain ⟨e1, e2, hb, hc1, hc2, hfar⟩ := hsec
          simp only at e1 e2 hb hc1 hc2
          subst e1
          subst e2
          obtain ⟨gb, off, rfl, _, _⟩ := hb.at_ (k := 0) (by decide)
          have hnil := neq_slice 0 wr (some ⟨gb, off, none⟩) 64 c
          have cw2 : wr.cell? ⟨wb, k, none⟩ = some (.slice (some ⟨gb, off, none⟩) 64 c) := cw
          have hpn := hR.p_ne
          have hswn := hR.ne
          have HR := Lib.hid hR
          have HO := Lib.hid ho
          have HSX : Hid (IsR X ((wr.setCell ⟨sb, k, none⟩ (.slice (some ⟨gb, off, none⟩) 64 c)).setCell ⟨wb, k, none⟩ (.slice none 0 0)) p sb sc wb base (partR d (k + 1)) ∧ Only [sb, wb] wr ((wr.setCell ⟨sb, k, none⟩ (.slice (some ⟨gb, off, none⟩) 64 c)).setCell ⟨wb, k, none⟩ (.slice none 0 0))) := Lib.hid (by rw [HP.out]; exact HSY.out)
          have q1 : (wr.setCell ⟨sb, k, none⟩ (.slice (some ⟨gb, off, none⟩) 64 c)).cell? ⟨p, 1, none⟩ = some (.slice (some ⟨wb, 0, none⟩) n n) := by
            rw [World.cell?_setCell_other _ _ _ _ (fun e => hpn.1 (by injection e with e; exact e.symm))]; exact c1
          have q2 : (wr.setCell ⟨sb, k, none⟩ (.slice (some ⟨gb, off, none⟩) 64 c)).cell? ⟨wb, k, none⟩ = some (.slice (some ⟨gb, off, none⟩) 64 c) := by
            rw [World.cell?_setCell_other _ _ _ _ (fun e => hswn (by injection e))]; exact cw2
          have q0 : (wr.setCell ⟨sb, k, none⟩ (.slice (some ⟨gb, off, none⟩) 64 c)).cell? ⟨p, 0, none⟩ = some (.slice (some ⟨sb, 0, none⟩) n sc) := by
            rw [World.cell?_setCell_other _ _ _ _ (fun e => hpn.1 (by injection e with e; exact e.symm))]; exact c0
          have qf : (wr.setCell ⟨sb, k, none⟩ (.slice (some ⟨gb, off, none⟩) 64 c)).frozen? ⟨wb, k, none⟩ = false := by
            have h5 := hw1.only (w' := wr.setCell ⟨sb, k, none⟩ (.slice (some ⟨gb, off, none⟩) 64 c)) ((Only.refl [sb] wr).setCell (p := ⟨sb, k, none⟩) (.inl (by simp)) _) (by simp [ownL, Value.ownBlock]; exact fun e => hswn e.symm)
            exact h5.frozenOf k
          have hlt2 : (k : Int) < (n : Int) := by omega
          clear hR ho hw1 hw2 hs1 hvl hssl hv hpw hws hnn HSY hb hc1 hc2 hfar cw HP
          go_upto_region 7 with fail
          have hS : wr.drew.cell? ⟨p, 0, none⟩ = some (.slice (some ⟨sb, 0, none⟩) n sc) ∧ wr.drew.cell? ⟨p, 1, none⟩ = some (.slice (some ⟨wb, 0, none⟩) n n) ∧ wr.drew.cell? ⟨wb, k, none⟩ = some (.slice (some ⟨gb, off, none⟩) 64 c) := ⟨c0, c1, cw2⟩
          refine wp_region_hand (S := (fun Y => Y.cell? ⟨p, 0, none⟩ = some (.slice (some ⟨sb, 0, none⟩) n sc) ∧ Y.cell? ⟨p, 1, none⟩ = some (.slice (some ⟨wb, 0, none⟩) n n) ∧ Y.cell? ⟨wb, k, none⟩ = some (.slice (some ⟨gb, off, none⟩) 64 c))) (by kernel_rfl) ?_
          refine takeV 0 (.pointer (some ⟨p, 0, none⟩)) rfl rfl (by kernel_rfl) (fun Y hY => by obtain ⟨y0, y1, y2⟩ := hY; go_simp) hS ?_; simp only [s0A, s0B, s0C]
          refine takeV 1 (.pointer (some ⟨p, 0, none⟩)) rfl rfl (by kernel_rfl) (fun Y hY => by obtain ⟨y0, y1, y2⟩ := hY; go_simp) hS ?_; simp only [s0A, s0B, s0C]
          refine takeV 2 (.pointer (some ⟨p, 0, none⟩)) rfl rfl (by kernel_rfl) (fun Y hY => by obtain ⟨y0, y1, y2⟩ := hY; go_simp) hS ?_; simp only [s0A, s0B, s0C]
          refine takeV 3 (.slice (some ⟨sb, 0, none⟩) n sc) rfl rfl (by kernel_rfl) (fun Y hY => by obtain ⟨y0, y1, y2⟩ := hY; go_simp) hS ?_; simp only [s0A, s0B, s0C]
          refine takeV 4 (.int .i64 (k : Int)) rfl rfl (by kernel_rfl) (fun Y hY => by obtain ⟨y0, y1, y2⟩ := hY; go_simp) hS ?_; simp only [s0A, s0B, s0C]
          refine takeV 5 (.pointer (some ⟨p, 0, none⟩)) rfl rfl (by kernel_rfl) (fun Y hY => by obtain ⟨y0, y1, y2⟩ := hY; go_simp) hS ?_; simp only [s0A, s0B, s0C]
          refine takeV 6 (.pointer (some ⟨p, 0, none⟩)) rfl rfl (by kernel_rfl) (fun Y hY => by obtain ⟨y0, y1, y2⟩ := hY; go_simp) hS ?_; simp only [s0A, s0B, s0C]
          refine takeV 7 (.pointer (some ⟨p, 1, none⟩)) rfl rfl (by kernel_rfl) (fun Y hY => by obtain ⟨y0, y1, y2⟩ := hY; go_simp) hS ?_; simp only [s0A, s0B, s0C]
          refine takeV 8 (.slice (some ⟨wb, 0, none⟩) n n) rfl rfl (by kernel_rfl) (fun Y hY => by obtain ⟨y0, y1, y2⟩ := hY; go_simp) hS ?_; simp only [s0A, s0B, s0C]
          refine takeV 9 (.int .i64 (k : Int)) rfl rfl (by kernel_rfl) (fun Y hY => by obtain ⟨y0, y1, y2⟩ := hY; go_simp) hS ?_; simp only [s0A, s0B, s0C]
          refine takeV 10 (.pointer (some ⟨wb, k, none⟩)) rfl rfl (by kernel_rfl) (fun Y hY => by obtain ⟨y0, y1, y2⟩ := hY; go_simp) hS ?_; simp only [s0A, s0B, s0C]
          refine takeV 11 (.slice (some ⟨gb, off, none⟩) 64 c) rfl rfl (by kernel_rfl) (fun Y hY => by obtain ⟨y0, y1, y2⟩ := hY; go_simp) hS ?_; simp only [s0A, s0B, s0C]
          refine takeV 12 (.pointer (some ⟨sb, k, none⟩)) rfl rfl (by kernel_rfl) (fun Y hY => by obtain ⟨y0, y1, y2⟩ := hY; go_simp) hS ?_; simp only [s0A, s0B, s0C]
          refine oneS (i := 13) (v := undef) (w' := wr.drew.setCell ⟨sb, k, none⟩ (.slice (some ⟨gb, off, none⟩) 64 c)) rfl (by kernel_rfl) rfl (by rfl) (by first | (left; go_simp; done) | (right; go_simp; done)) ⟨q0, q1, q2⟩ ?_
          refine wpAnyH_done (by kernel_rfl) ?_ _
          clear hS
          go_wp2_with fail
          go_roundw
          case measure => simp [Go.RowKit.intOf]; omega
          case rel => exact ⟨k + 1, by omega, by go_num, HSX.out.1.only0 (by first | exact Only.refl _ _ | exact (Only.refl [] _).drew), (HO.out.trans HSX.out.2 (fun g hg => .inl hg)).drew⟩
      · obtain rfl : k = n := by omega
        have d1 : decide ((k : Int) < (k : Int)) = false := decide_eq_false (by omega)
        have HDID := Lib.hid (rdid_any hR hdn)
        have HO := Lib.hid ho
        have hall2 : stepD (partR d k) = syncD d := by rw [← hn]; exact hall
        rw [hall2] at HDID
        clear hR ho
        go_wp2_with (go_at_call 119; refine HDID.out.mono ?_; rintro x w3 ⟨rfl, hr3, ho3⟩; have HR3 := Lib.hid hr3; have HO3 := Lib.hid ho3; clear hr3 ho3)
        go_ret
        exact ⟨0, rfl, by simp, HR3.out, (HO.out.mono (fun g hg => .inl (List.mem_cons_of_mem _ hg))).trans HO3.out (fun g hg => .inl (by simp at hg; simp [hg]))⟩
end
end Go.Proofs.YthgfmoogagldmaaGreat.RefD
namespace Go.Proofs.YthgfmoogagldmaaGreat.RefD
open Go.RowKit Go.Shelf Disk Journal Go.Proofs.YthgfmoogagldmaaGreat.Frame
section
variable {w w5 w' : World} {p sb sc wb base : Nat} {d : DS} {X : List Nat} {s : Sl} {l : List UInt8}
theorem rnew_bad (n : Int) (hn : n < 1 ∨ 65536 < n) (w : World) : Calls Tryz.prog 24 #[.int .i64 n] w fun x w' => x = .returned (.tuple #[.pointer none, .int .i64 1]) ∧ Only [] w w' := by
  have hcase : decide (n < 1) = true ∨ (decide (n < 1) = false ∧ decide (65536 < n) = true) := by
    by_cases a : n < 1
    · exact .inl (decide_eq_true a)
    · exact .inr ⟨decide_eq_false a, decide_eq_true (by omega)⟩
  clear hn
  rcases hcase with d1 | ⟨d1, d2⟩
  all_goals
    go_enter Tryz.func24, Tryz.ntmps24
    go_wp2_with fail
    go_ret2
    exact ⟨rfl, Only.refl _ _⟩
theorem made_nil {base n g : Nat} (h : w.ownsRow base 35 1 (.slice (some ⟨g, 0, none⟩) n n) n (madeCells (Value.slice none 0 0).cells (n * 1)).toList) : OwnR 35 1 w base (.slice (some ⟨g, 0, none⟩) n n) n ((List.replicate n (Value.slice none 0 0)).map fun v => [v]) := by
  rw [Nat.mul_one, show (Value.slice none 0 0).cells = #[.slice none 0 0] from rfl, toList_madeCells_one] at h
  refine ⟨by simp, fun r hr => ?_, ?_⟩
  · obtain ⟨v, _, rfl⟩ := List.mem_map.1 hr
    rfl
  · rw [show ((List.replicate n (Value.slice none 0 0)).map fun v => [v]).flatten = List.replicate n (Value.slice none 0 0) from by rw [← List.flatMap_def]; simp]
    exact h
def NewI (w wr : World) (p wb n k : Nat) : Prop := ∃ (v : Value) (ss : List Sl), Blk wr p 131 #[v, .slice (some ⟨wb, 0, none⟩) n n, .int .i64 (-1), .int .i64 0, .bool false] ∧ OwnR 35 1 wr w.heap.size v k (ss.map fun s => [s.val]) ∧ (∀ s ∈ ss, (SecAt wr s ∧ s.l = zeros) ∧ ∀ k ∈ blkOf s.A, w.heap.size ≤ k) ∧
  OwnR 35 1 wr w.heap.size (.slice (some ⟨wb, 0, none⟩) n n) n ((List.replicate n (Value.slice none 0 0)).map fun v => [v]) ∧ wb ∉ ownL v ∧ Only [] w wr
theorem sec_far {t : TypeId} {cs : Array Value} {g : Nat} {s : Sl} (hs : SecAt w s) (hb : Blk w g t cs) (ht : 5 ≠ t) : ∀ k ∈ blkOf s.A, k ≠ g := by
  obtain ⟨k0, hA, _, _, h4, _⟩ := hs
  intro k hk
  rw [hA] at hk
  simp [blkOf] at hk
  subst hk
  exact h4.ne_ hb ht
theorem own_blk {e base g n cap : Nat} {rows : List (List Value)} (h : OwnR e 1 w base (.slice (some ⟨g, 0, none⟩) n cap) n rows) : ∃ cs, Blk w g e cs := by
  obtain ⟨_, h0⟩ := h.own
  rcases h0 with ⟨hbad, _⟩ | ⟨g', cap', cur, hv, _, hh, _⟩
  · cases hbad
  · injection hv with e1 _ _
    injection e1 with e1
    injection e1 with e1
    rw [e1]
    exact ⟨cur, hh⟩
theorem NewI.next {wr w6 w7 w8 : World} {p wb n k g : Nat} {v v' : Value} {ss : List Sl} {x : Sl} (hb : Blk wr p 131 #[v, .slice (some ⟨wb, 0, none⟩) n n, .int .i64 (-1), .int .i64 0, .bool false]) (ho : OwnR 35 1 wr w.heap.size v k (ss.map fun s => [s.val])) (hs : ∀ s ∈ ss, (SecAt wr s ∧ s.l = zeros) ∧ ∀ k ∈ blkOf s.A, w.heap.size ≤ k)
    (hw : OwnR 35 1 wr w.heap.size (.slice (some ⟨wb, 0, none⟩) n n) n ((List.replicate n (Value.slice none 0 0)).map fun v => [v])) (hwb : wb ∉ ownL v) (hon : Only [] w wr) (hpg : w.heap.size ≤ p)
    (h6 : Only [] wr w6) (hx : SecAt w6 x ∧ x.l = zeros) (hxf : ∀ k ∈ blkOf x.A, w.heap.size ≤ k) (hE : ExtR 35 1 w6 w7 w.heap.size v v' (k + 1) ((ss.map fun s => [s.val]) ++ [[x.val]])) : NewI w (w7.setCell ⟨p, 0, none⟩ v') p wb n (k + 1) := by
  have hpv : p ∉ ownL v := row_ne ho p hb (by decide)
  have hv : ∀ t ∈ ownL v, t < wr.heap.size := fun t ht => (ho.lt t ht).2
  have hb7 := (hb.only h6 (by simp)).only hE.only hpv
  have hb8 : Blk (w7.setCell ⟨p, 0, none⟩ v') p 131 #[v', .slice (some ⟨wb, 0, none⟩) n n, .int .i64 (-1), .int .i64 0, .bool false] := hb7.set_ 0 v'
  have hset : Only [p] w7 (w7.setCell ⟨p, 0, none⟩ v') := (Only.refl [p] w7).setCell (p := ⟨p, 0, none⟩) (.inl (by simp)) _
  have hpv' : p ∉ ownL v' := row_ne hE.own p hb7 (by decide)
  have hw7 := (hw.only h6 (by simp)).only hE.only (by simpa [ownL, Value.ownBlock] using hwb)
  have hpw : p ≠ wb := by
    obtain ⟨cs, hc⟩ := own_blk hw
    exact hb.ne_ hc (by decide)
  have hw8 := hw7.only hset (by simp [ownL, Value.ownBlock]; exact fun e => hpw e.symm)
  have ho8 := hE.own.only hset (fun g hg hm => by simp at hm; rw [hm] at hg; exact hpv' hg)
  have hwl := (hw.lt wb (by simp [ownL, Value.ownBlock])).2
  have hsec : ∀ {u : World} {s : Sl}, SecAt u s → ∀ {S : List Nat} {u' : World}, Only S u u' → (∀ g ∈ S, ∃ t cs, 5 ≠ t ∧ Blk u g t cs) → SecAt u' s := fun {u s} h {S u'} hh hS => h.only hh (fun g ⟨t, cs, ht, hg⟩ hm => by
    obtain ⟨t2, cs2, h2, h3⟩ := hS g hm
    subst ht
    exact (hg.ne_ h3 h2) rfl)
  have hvb : ∀ g ∈ ownL v, ∃ t cs, 5 ≠ t ∧ Blk w6 g t cs := fun g hg => by
    obtain ⟨_, t, cs, hh⟩ := row_blks (ho.only h6 (by simp)) g hg
    refine ⟨35, ?_⟩
    obtain ⟨A, cap, rfl, _, _, _, hA⟩ := (ho.only h6 (by simp)).shape (by decide)
    rcases hA with ⟨rfl, _⟩ | ⟨g2, rfl, _, _⟩
    · simp [ownL, Value.ownBlock] at hg
    · simp [ownL, Value.ownBlock] at hg
      subst hg
      obtain ⟨cs2, h2⟩ := own_blk (ho.only h6 (by simp))
      exact ⟨cs2, by decide, h2⟩
  have hpb : ∀ g ∈ [p], ∃ t cs, 5 ≠ t ∧ Blk w7 g t cs := fun g hg => by
    rw [List.mem_singleton.1 hg]
    exact ⟨_, _, by decide, hb7⟩
  refine ⟨v', ss ++ [x], hb8, by rw [List.map_append]; exact ho8, fun s hm => ?_, hw8, fun hm => ?_, ((hon.trans h6 (by simp)).trans hE.only (fun g hg => .inr ((ho.lt g hg).1))).trans hset (fun g hg => ?_)⟩
  · rcases List.mem_append.1 hm with h | h
    · exact ⟨⟨hsec (hsec (hsec (hs s h).1.1 h6 (by simp)) hE.only hvb) hset hpb, (hs s h).1.2⟩, (hs s h).2⟩
    · rw [List.mem_singleton.1 h]
      exact ⟨⟨hsec (hsec hx.1 hE.only hvb) hset hpb, hx.2⟩, hxf⟩
  · rcases hE.fresh wb hm with h | h
    · exact hwb h
    · have := h6.size; omega
  · simp at hg
    subst hg
    exact .inr hpg
theorem NewI.is {wr : World} {p wb n : Nat} (hX : ∀ k ∈ X, k < w.heap.size) (h : NewI w wr p wb n n) (hn : 0 < n ∧ n ≤ 65536) : ∃ sb sc, w.heap.size ≤ sb ∧ w.heap.size ≤ wb ∧ IsR X wr p sb sc wb w.heap.size (newD n) ∧ Only [] w wr := by
  obtain ⟨v, ss, hb, ho, hs, hw, hwb, hon⟩ := h
  obtain ⟨A, cap, rfl, hc, hm, hrc, hA⟩ := ho.shape (by decide)
  rcases hA with ⟨_, h0⟩ | ⟨g, rfl, hg, hg2⟩
  · omega
  · have hgw : g ≠ wb := fun e => hwb (by simp [ownL, Value.ownBlock]; exact e.symm)
    obtain ⟨c1, k1⟩ := own_blk ho
    obtain ⟨c2, k2⟩ := own_blk hw
    refine ⟨g, cap, hg, (hw.lt wb (by simp [ownL, Value.ownBlock])).1, ⟨hb, ⟨ss, ho, fun i s hi => ?_⟩, ⟨List.replicate n (.slice none 0 0), hw, fun i v hi => ?_⟩, hgw, hn, fun _ _ => rfl, by simp [newD], by simp [newD], fun k hk => Nat.lt_of_lt_of_le (hX k hk) hon.size⟩, hon⟩
    · obtain ⟨⟨h1, h2⟩, h0⟩ := hs s (List.mem_of_getElem? hi)
      have f1 := sec_far h1 hb (by decide)
      have f2 := sec_far h1 k1 (by decide)
      have f3 := sec_far h1 k2 (by decide)
      have hbt := h1.bytes
      obtain ⟨q, _, h4, h5, _, _⟩ := h1
      rw [h4, h2] at hbt
      refine ⟨h2, h4, hbt, by omega, by unfold maxLen; omega, fun k hk => ?_⟩
      simp only [List.mem_cons, not_or]
      exact ⟨f1 k hk, f2 k hk, f3 k hk, fun e => by have := hX k e; have := h0 k hk; omega⟩
    · rw [List.getElem?_replicate] at hi
      split at hi
      · injection hi with hi
        exact .inl ⟨rfl, hi.symm⟩
      · cases hi
def RNewO (X : List Nat) (w : World) (n : Nat) (x : Ending) (w' : World) : Prop := ∃ p sb sc wb, x = .returned (.tuple #[.pointer (some ⟨p, 0, none⟩), .int .i64 0]) ∧ IsR X w' p sb sc wb w.heap.size (newD n) ∧ w.heap.size ≤ p ∧ w.heap.size ≤ sb ∧ w.heap.size ≤ wb ∧ Only [] w w'
set_option maxHeartbeats 4000000 in
theorem rnew_any (n : Nat) (h1 : 1 ≤ n) (h2 : n ≤ 65536) (w : World) (X : List Nat) (hX : ∀ k ∈ X, k < w.heap.size) : Calls Tryz.prog 24 #[.int .i64 (n : Int)] w fun x w' => RNewO X w n x w' := by
  have HX := Lib.hid hX
  clear hX
  obtain ⟨i0, hi0, hz0, hz1, hz2⟩ := info_parts sl_info
  obtain ⟨i1, hi1, hy0, hy1, hy2⟩ := info_parts byte_info
  have d1 : decide ((n : Int) < 1) = false := decide_eq_false (by omega)
  have d2 : decide ((65536 : Int) < (n : Int)) = false := decide_eq_false (by omega)
  go_enter Tryz.func24, Tryz.ntmps24
  go_wp2_with (at_make; refine wpList_make_full w rfl _ _ 34 rfl w.heap.size 35 i0 _ 1 Tryz.underlying34 hi0 hz0 hz1 _ _ _ _ n rfl rfl rfl rfl (by rw [hz2]; omega) (by unfold maxLen; omega) (Nat.le_refl _) ?_; intro w2 hmk hgk)
  have ho2 : Only [] w w2 := Only.of_grown hgk
  have hw2 := made_nil hmk
  have hwl := (hw2.lt w.heap.size (by simp [ownL, Value.ownBlock])).2
  obtain ⟨p, hp⟩ : ∃ p, w2.heap.size = p := ⟨_, rfl⟩
  have hbk := Blk.new w2 131 #[.slice none 0 0, .slice (some ⟨w.heap.size, 0, none⟩) n n, .int .i64 (-1), .int .i64 0, .bool false]
  rw [hp] at hbk
  rw [hp]
  obtain ⟨w3, hw3⟩ : ∃ w3, w2.alloc (.cells #[.slice none 0 0, .slice (some ⟨w.heap.size, 0, none⟩) n n, .int .i64 (-1), .int .i64 0, .bool false] 131) = w3 := ⟨_, rfl⟩
  have h0 : Hid (NewI w w3 p w.heap.size n 0) := Lib.hid (by
    rw [← hw3]
    exact ⟨.slice none 0 0, [], hbk, OwnR.nil_ _ _ _ _, by simp, hw2.alloc _, by simp [ownL, Value.ownBlock], ho2.alloc _⟩)
  have HPG : Hid (w.heap.size ≤ p) := Lib.hid (by omega)
  rw [hw3]
  clear hmk hgk hw2 hbk ho2 hw3 hp hwl hz0 hz1 hz2 hi0 d1 d2
  go_loopw [5] (fun i wr => ∃ k : Nat, k ≤ n ∧ i = .int .i64 k ∧ NewI w wr p w.heap.size n k) (fun i _ => n - (Go.RowKit.intOf i).toNat)
  case atStart => exact ⟨0, by omega, rfl, h0.out⟩
  case round =>
    obtain ⟨k, hk, rfl, hI⟩ := hrel
    by_cases hlt : k < n
    · have dd : decide ((k : Int) < (n : Int)) = true := decide_eq_true (by omega)
      obtain ⟨v, ss, hb, ho, hs, hw, hwb, hon⟩ := hI
      obtain ⟨w5, hrun, hmk, hgk⟩ := run_make_full (P := Tryz.prog) wr.drew wr.drew.heap.size 35 5 i1 _ 1 Tryz.underlying35 hi1 hy0 hy1 .i64 .i64 64 (by rw [hy2]; decide) (by decide) (Nat.le_refl _)
      have ho5 : Only [] wr w5 := ((Only.refl [] wr).drew).trans (Only.of_grown hgk) (by simp)
      have hrun' : Sem.run Tryz.prog (Instr.makeSlice 35 (.int .i64 64) (.int .i64 64)) wr.drew = .ok (.slice (some ⟨wr.heap.size, 0, none⟩) 64 64) w5 := hrun
      have hsec : SecAt w5 ⟨some ⟨wr.heap.size, 0, none⟩, 64, 64, zeros⟩ := ⟨wr.heap.size, rfl, rfl, rfl, made_blk [] hmk, by simp [zeros]⟩
      have HSEC := Lib.hid hsec
      have HO5 := Lib.hid ho5
      have HBS := Lib.hid hon.size
      have HNX := Lib.hid (fun (w6 w7 : World) (v' : Value) (h6 : Only [] wr w6) (hx : SecAt w6 ⟨some ⟨wr.heap.size, 0, none⟩, 64, 64, zeros⟩ ∧ zeros = zeros) (hE : ExtR 35 1 w6 w7 w.heap.size v v' (k + 1) ((ss.map fun s => [s.val]) ++ [[(⟨some ⟨wr.heap.size, 0, none⟩, 64, 64, zeros⟩ : Sl).val]])) => NewI.next (w8 := w7) (g := 0) hb ho hs hw hwb hon HPG.out h6 hx (fun k hk => by have h1 := HBS.out; simp [blkOf] at hk; omega) hE)
      have HOW := Lib.hid (fun (w6 : World) (h6 : Only [] wr w6) => ho.only h6 (by simp))
      have HB := Lib.hid hb
      have HPV := Lib.hid (row_ne ho p hb (by decide))
      have hc := hb.drew.cell 0
      have hlt2 : (k : Int) < (n : Int) := by omega
      clear hrun hmk hgk hsec ho5 hb ho hs hw hwb hon
      go_upto_region 7 with fail
      have hS : wr.drew.cell? ⟨p, 0, none⟩ = some v := hc
      refine wp_region_hand (S := (fun Y => ∃ u, Y.cell? ⟨p, 0, none⟩ = some u)) (by kernel_rfl) ?_
      refine takeV 0 (.pointer (some ⟨p, 0, none⟩)) rfl rfl (by kernel_rfl) (fun _ _ => by go_simp) ⟨_, hc⟩ ?_; simp only [s0A, s0B, s0C]
      refine takeV 1 (.pointer (some ⟨p, 0, none⟩)) rfl rfl (by kernel_rfl) (fun _ _ => by go_simp) ⟨_, hc⟩ ?_; simp only [s0A, s0B, s0C]
      refine takeV 2 (.pointer (some ⟨p, 0, none⟩)) rfl rfl (by kernel_rfl) (fun _ _ => by go_simp) ⟨_, hc⟩ ?_; simp only [s0A, s0B, s0C]
      refine takeV 3 (.pointer (some ⟨p, 0, none⟩)) rfl rfl (by kernel_rfl) (fun _ _ => by go_simp) ⟨_, hc⟩ ?_; simp only [s0A, s0B, s0C]
      refine twoW (i := 4) (j := 5) (vi := v) (wi := wr.drew) (vj := .slice (some ⟨wr.heap.size, 0, none⟩) 64 64) (wj := w5) rfl rfl (by kernel_rfl) rfl rfl (by rfl) (by rfl) (by go_simp) (by go_simp) ⟨_, hc⟩ ⟨_, HO5.out.drew.cell hc (by simp)⟩ ?_ ?_
      · simp only [s0A, s0B, s0C]
        refine oneW (i := 5) (v := .slice (some ⟨wr.heap.size, 0, none⟩) 64 64) (w' := w5) rfl (by kernel_rfl) rfl (by rfl) (by go_simp) ⟨_, HO5.out.cell hc (by simp)⟩ ?_
        have hc5 : w5.cell? ⟨p, 0, none⟩ = some v := HO5.out.cell hc (by simp)
        simp only [s0A, s0B, s0C]
        refine oneW (i := 6) (v := .slice (some ⟨w5.heap.size, 0, none⟩) 1 1) (w' := w5.alloc (.cells #[.slice (some ⟨wr.heap.size, 0, none⟩) 64 64] 35)) rfl (by kernel_rfl) rfl (by rfl) (by go_simp) ⟨_, ((HO5.out.alloc (.cells #[.slice (some ⟨wr.heap.size, 0, none⟩) 64 64] 35))).cell hc (by simp)⟩ ?_; simp only [s0A, s0B, s0C]
        refine oneA (i := 7) rfl (by kernel_rfl) rfl rfl (fun K hK => ?_)
        refine step_append1 (w := w5) rfl (.tmp 25) (.tmp 27) 34 rfl Tryz.underlying34 sl_info rfl (by decide) rfl (HOW.out w5 HO5.out) rfl rfl (row := [(⟨some ⟨wr.heap.size, 0, none⟩, 64, 64, zeros⟩ : Sl).val]) rfl rfl (by intro u hu; rw [List.mem_singleton.1 hu]; rfl) (by omega) (by unfold maxLen; omega) (by have h1 := HBS.out; have h2 := HO5.out.size; omega) ?_
        intro v' w7 hE
        have hb7 := (HB.out.only HO5.out (by simp)).only hE.only HPV.out
        have c7 := hb7.cell 0
        have f7 := hb7.frozen 0
        have HFIN := Lib.hid (HNX.out w5 w7 v' HO5.out ⟨HSEC.out, rfl⟩ hE)
        obtain ⟨g9, cap9, rfl⟩ := ownsRow_succ hE.own.own
        refine hK _ _ ⟨_, c7⟩ ?_
        clear hK K hE
        try simp only [s0A, s0B, s0C]
        refine takeV 8 (.pointer (some ⟨p, 0, none⟩)) rfl rfl (by kernel_rfl) (fun _ _ => by go_simp) ⟨_, c7⟩ ?_; simp only [s0A, s0B, s0C]
        refine takeV 9 (.pointer (some ⟨p, 0, none⟩)) rfl rfl (by kernel_rfl) (fun _ _ => by go_simp) ⟨_, c7⟩ ?_; simp only [s0A, s0B, s0C]
        refine oneS (i := 10) (v := undef) (w' := w7.setCell ⟨p, 0, none⟩ (.slice (some ⟨g9, 0, none⟩) (k + 1) cap9)) rfl (by kernel_rfl) rfl (by rfl) (by first | (left; go_simp; done) | (right; go_simp; done)) ⟨_, (hb7.set_ 0 _).cell 0⟩ ?_
        refine wpAnyH_done (by kernel_rfl) ?_ _
        clear hS
        go_wp2_with fail
        go_roundw
        case measure => simp [Go.RowKit.intOf]; omega
        case rel => exact ⟨k + 1, by omega, by go_num, HFIN.out⟩
      · simp only [s0A, s0B, s0C]
        have hc5 : w5.cell? ⟨p, 0, none⟩ = some v := HO5.out.cell hc (by simp)
        refine twoW (i := 4) (j := 6) (vi := v) (wi := w5) (vj := .slice (some ⟨w5.heap.size, 0, none⟩) 1 1) (wj := w5.alloc (.cells #[.slice (some ⟨wr.heap.size, 0, none⟩) 64 64] 35)) rfl rfl (by kernel_rfl) rfl rfl (by rfl) (by rfl) (by go_simp) (by go_simp) ⟨_, hc5⟩ ⟨_, ((HO5.out.alloc (.cells #[.slice (some ⟨wr.heap.size, 0, none⟩) 64 64] 35))).cell hc (by simp)⟩ ?_ ?_
        · simp only [s0A, s0B, s0C]
          refine oneW (i := 6) (v := .slice (some ⟨w5.heap.size, 0, none⟩) 1 1) (w' := w5.alloc (.cells #[.slice (some ⟨wr.heap.size, 0, none⟩) 64 64] 35)) rfl (by kernel_rfl) rfl (by rfl) (by go_simp) ⟨_, ((HO5.out.alloc (.cells #[.slice (some ⟨wr.heap.size, 0, none⟩) 64 64] 35))).cell hc (by simp)⟩ ?_; simp only [s0A, s0B, s0C]
          refine oneA (i := 7) rfl (by kernel_rfl) rfl rfl (fun K hK => ?_)
          refine step_append1 (w := w5) rfl (.tmp 25) (.tmp 27) 34 rfl Tryz.underlying34 sl_info rfl (by decide) rfl (HOW.out w5 HO5.out) rfl rfl (row := [(⟨some ⟨wr.heap.size, 0, none⟩, 64, 64, zeros⟩ : Sl).val]) rfl rfl (by intro u hu; rw [List.mem_singleton.1 hu]; rfl) (by omega) (by unfold maxLen; omega) (by have h1 := HBS.out; have h2 := HO5.out.size; omega) ?_
          intro v' w7 hE
          have hb7 := (HB.out.only HO5.out (by simp)).only hE.only HPV.out
          have c7 := hb7.cell 0
          have f7 := hb7.frozen 0
          have HFIN := Lib.hid (HNX.out w5 w7 v' HO5.out ⟨HSEC.out, rfl⟩ hE)
          obtain ⟨g9, cap9, rfl⟩ := ownsRow_succ hE.own.own
          refine hK _ _ ⟨_, c7⟩ ?_
          clear hK K hE
          try simp only [s0A, s0B, s0C]
          refine takeV 8 (.pointer (some ⟨p, 0, none⟩)) rfl rfl (by kernel_rfl) (fun _ _ => by go_simp) ⟨_, c7⟩ ?_; simp only [s0A, s0B, s0C]
          refine takeV 9 (.pointer (some ⟨p, 0, none⟩)) rfl rfl (by kernel_rfl) (fun _ _ => by go_simp) ⟨_, c7⟩ ?_; simp only [s0A, s0B, s0C]
          refine oneS (i := 10) (v := undef) (w' := w7.setCell ⟨p, 0, none⟩ (.slice (some ⟨g9, 0, none⟩) (k + 1) cap9)) rfl (by kernel_rfl) rfl (by rfl) (by first | (left; go_simp; done) | (right; go_simp; done)) ⟨_, (hb7.set_ 0 _).cell 0⟩ ?_
          refine wpAnyH_done (by kernel_rfl) ?_ _
          clear hS
          go_wp2_with fail
          go_roundw
          case measure => simp [Go.RowKit.intOf]; omega
          case rel => exact ⟨k + 1, by omega, by go_num, HFIN.out⟩
        · simp only [s0A, s0B, s0C]
          have hc6 : (w5.alloc (.cells #[.slice (some ⟨wr.heap.size, 0, none⟩) 64 64] 35)).cell? ⟨p, 0, none⟩ = some v := (HO5.out.alloc _).cell hc (by simp)
          refine oneW (i := 4) (v := v) (w' := w5.alloc (.cells #[.slice (some ⟨wr.heap.size, 0, none⟩) 64 64] 35)) rfl (by kernel_rfl) rfl (by rfl) (by go_simp) ⟨_, hc6⟩ ?_; simp only [s0A, s0B, s0C]
          refine oneA (i := 7) rfl (by kernel_rfl) rfl rfl (fun K hK => ?_)
          refine step_append1 (w := w5) rfl (.tmp 25) (.tmp 27) 34 rfl Tryz.underlying34 sl_info rfl (by decide) rfl (HOW.out w5 HO5.out) rfl rfl (row := [(⟨some ⟨wr.heap.size, 0, none⟩, 64, 64, zeros⟩ : Sl).val]) rfl rfl (by intro u hu; rw [List.mem_singleton.1 hu]; rfl) (by omega) (by unfold maxLen; omega) (by have h1 := HBS.out; have h2 := HO5.out.size; omega) ?_
          intro v' w7 hE
          have hb7 := (HB.out.only HO5.out (by simp)).only hE.only HPV.out
          have c7 := hb7.cell 0
          have f7 := hb7.frozen 0
          have HFIN := Lib.hid (HNX.out w5 w7 v' HO5.out ⟨HSEC.out, rfl⟩ hE)
          obtain ⟨g9, cap9, rfl⟩ := ownsRow_succ hE.own.own
          refine hK _ _ ⟨_, c7⟩ ?_
          clear hK K hE
          try simp only [s0A, s0B, s0C]
          refine takeV 8 (.pointer (some ⟨p, 0, none⟩)) rfl rfl (by kernel_rfl) (fun _ _ => by go_simp) ⟨_, c7⟩ ?_; simp only [s0A, s0B, s0C]
          refine takeV 9 (.pointer (some ⟨p, 0, none⟩)) rfl rfl (by kernel_rfl) (fun _ _ => by go_simp) ⟨_, c7⟩ ?_; simp only [s0A, s0B, s0C]
          refine oneS (i := 10) (v := undef) (w' := w7.setCell ⟨p, 0, none⟩ (.slice (some ⟨g9, 0, none⟩) (k + 1) cap9)) rfl (by kernel_rfl) rfl (by rfl) (by first | (left; go_simp; done) | (right; go_simp; done)) ⟨_, (hb7.set_ 0 _).cell 0⟩ ?_
          refine wpAnyH_done (by kernel_rfl) ?_ _
          clear hS
          go_wp2_with fail
          go_roundw
          case measure => simp [Go.RowKit.intOf]; omega
          case rel => exact ⟨k + 1, by omega, by go_num, HFIN.out⟩
    · obtain rfl : k = n := by omega
      have dd : decide ((k : Int) < (k : Int)) = false := decide_eq_false (by omega)
      have HF := Lib.hid (NewI.is HX.out hI ⟨by omega, h2⟩)
      clear hI
      go_wp2_with fail
      go_ret2
      obtain ⟨sb, sc, a1, a2, a3, a4⟩ := HF.out
      exact ⟨p, sb, sc, _, rfl, a3, HPG.out, a1, a2, a4⟩
end
end Go.Proofs.YthgfmoogagldmaaGreat.RefD
