/- RefA: The document's disk in memory: its words; deed, did, Stop; The document's disk: Write, Read; The document's disk: Read, Stop. -/
import Derived.Test.YthgfmoogagldmaaGreatDiskC
import Derived.Test.YthgfmoogagldmaaGreatRowCutq
import Derived.Test.YthgfmoogagldmaaGreatConcat
import Derived.Test.YthgfmoogagldmaaGreatRanges
import Derived.Test.YthgfmoogagldmaaGreatJournalA
set_option linter.unusedVariables false
set_option maxRecDepth 100000
namespace Go.Proofs.YthgfmoogagldmaaGreat.RefD
open Go.RowKit Disk
def Sec (w : World) (S : List Nat) (s : Sl) (l : List UInt8) : Prop := s.l = l ∧ s.n = 64 ∧ Bytes w w.heap.size s.A 64 l ∧ 64 ≤ s.c ∧ s.c ≤ maxLen ∧ ∀ k ∈ blkOf s.A, k ∉ S
structure IsR (X : List Nat) (w : World) (p sb sc wb base : Nat) (d : DS) : Prop where
  blk : Blk w p 131 #[.slice (some ⟨sb, 0, none⟩) d.n sc, .slice (some ⟨wb, 0, none⟩) d.n d.n, .int .i64 d.left, .int .i64 d.done, .bool d.off]
  safe : ∃ ss : List Sl, OwnR 35 1 w base (.slice (some ⟨sb, 0, none⟩) d.n sc) d.n (ss.map fun s => [s.val]) ∧ ∀ i s, ss[i]? = some s → Sec w (p :: sb :: wb :: X) s (d.safe i)
  wait : ∃ vs : List Value, OwnR 35 1 w base (.slice (some ⟨wb, 0, none⟩) d.n d.n) d.n (vs.map fun v => [v]) ∧ ∀ i v, vs[i]? = some v → (d.wait i = none ∧ v = .slice none 0 0) ∨ ∃ s l, d.wait i = some l ∧ v = s.val ∧ Sec w (p :: sb :: wb :: X) s l
  ne : sb ≠ wb
  n0 : 0 < d.n ∧ d.n ≤ 65536
  out_ : ∀ i, d.n ≤ i → d.wait i = none
  left_ : -1 ≤ d.left ∧ d.left ≤ 9223372036854775807
  done_ : 0 ≤ d.done ∧ d.done ≤ 9223372036854775807
  xlt : ∀ k ∈ X, k < w.heap.size
section
variable {w w' : World} {p sb sc wb base : Nat} {d : DS} {X : List Nat} {S T : List Nat} {s : Sl} {l : List UInt8}
theorem Sec.only (h : Sec w T s l) (ho : Only S w w') (hS : ∀ k ∈ S, k ∈ T ∨ w.heap.size ≤ k) : Sec w' T s l := by
  obtain ⟨h1, h2, h3, h4, h5, h6⟩ := h
  have hlt := bytes_lt' h3
  refine ⟨h1, h2, (h3.only ho (fun k hk hm => ?_)).more ho.size, h4, h5, h6⟩
  rcases hS k hm with e | e
  · exact h6 k hk e
  · have := hlt k hk; omega
where
  bytes_lt' {B : Nat} {A : Option Addr} (h : Bytes w B A 64 l) : ∀ k ∈ blkOf A, k < B := by
    obtain ⟨b, off, rfl, hb, _⟩ := h.at_ (k := 0) (by decide)
    intro k hk
    simp [blkOf] at hk
    omega
theorem IsR.lt (h : IsR X w p sb sc wb base d) : p < w.heap.size ∧ sb < w.heap.size ∧ wb < w.heap.size ∧ base ≤ sb ∧ base ≤ wb := by
  obtain ⟨ss, h1, _⟩ := h.safe
  obtain ⟨vs, h2, _⟩ := h.wait
  have e1 := h1.lt sb (by simp [ownL, Value.ownBlock])
  have e2 := h2.lt wb (by simp [ownL, Value.ownBlock])
  exact ⟨h.blk.lt, e1.2, e2.2, e1.1, e2.1⟩
theorem IsR.p_ne (h : IsR X w p sb sc wb base d) : p ≠ sb ∧ p ≠ wb := by
  obtain ⟨ss, h1, _⟩ := h.safe
  obtain ⟨vs, h2, _⟩ := h.wait
  have hb := h.blk
  unfold Blk at hb
  refine ⟨fun e => ?_, fun e => ?_⟩
  · obtain ⟨_, h0⟩ := h1.own
    rcases h0 with ⟨hbad, _⟩ | ⟨g, cap, cur, hv, _, hh, _⟩
    · cases hbad
    · injection hv with e1 _ _
      injection e1 with e1
      injection e1 with e1
      rw [e, e1, hh] at hb
      injection hb with hb
      injection hb with _ hb
      exact absurd hb (by decide)
  · obtain ⟨_, h0⟩ := h2.own
    rcases h0 with ⟨hbad, _⟩ | ⟨g, cap, cur, hv, _, hh, _⟩
    · cases hbad
    · injection hv with e1 _ _
      injection e1 with e1
      injection e1 with e1
      rw [e, e1, hh] at hb
      injection hb with hb
      injection hb with _ hb
      exact absurd hb (by decide)
theorem IsR.only (h : IsR X w p sb sc wb base d) (ho : Only S w w') (hS : p ∉ S ∧ sb ∉ S ∧ wb ∉ S) (hs : ∀ k ∈ S, w.heap.size ≤ k) : IsR X w' p sb sc wb base d := by
  obtain ⟨h1, ⟨ss, h2, h3⟩, ⟨vs, h4, h5⟩, h6, h7, h8, h9, h10, h11⟩ := h
  refine ⟨h1.only ho hS.1, ⟨ss, h2.only ho (by simp [ownL, Value.ownBlock]; exact hS.2.1), fun i s hi => (h3 i s hi).only ho (fun k hk => .inr (hs k hk))⟩, ⟨vs, h4.only ho (by simp [ownL, Value.ownBlock]; exact hS.2.2), fun i v hi => ?_⟩, h6, h7, h8, h9, h10, fun k hk => Nat.lt_of_lt_of_le (h11 k hk) ho.size⟩
  rcases h5 i v hi with h | ⟨s, l, a, b, c⟩
  · exact .inl h
  · exact .inr ⟨s, l, a, b, c.only ho (fun k hk => .inr (hs k hk))⟩
theorem IsR.only0 (h : IsR X w p sb sc wb base d) (ho : Only [] w w') : IsR X w' p sb sc wb base d := h.only ho (by simp) (by simp)
theorem IsR.head (h : IsR X w p sb sc wb base d) (ho : Only [p] w w') {left done : Int} {off : Bool} (hb : Blk w' p 131 #[.slice (some ⟨sb, 0, none⟩) d.n sc, .slice (some ⟨wb, 0, none⟩) d.n d.n, .int .i64 left, .int .i64 done, .bool off])
    (hl : -1 ≤ left ∧ left ≤ 9223372036854775807) (hd : 0 ≤ done ∧ done ≤ 9223372036854775807) : IsR X w' p sb sc wb base { d with left := left, done := done, off := off } := by
  have hne := h.p_ne
  obtain ⟨h1, ⟨ss, h2, h3⟩, ⟨vs, h4, h5⟩, h6, h7, h8, h9, h10, h11⟩ := h
  refine ⟨hb, ⟨ss, h2.only ho (by simp [ownL, Value.ownBlock]; exact fun e => hne.1 e.symm), fun i s hi => (h3 i s hi).only ho (fun k hk => .inl (by simp at hk; simp [hk]))⟩, ⟨vs, h4.only ho (by simp [ownL, Value.ownBlock]; exact fun e => hne.2 e.symm), fun i v hi => ?_⟩, h6, h7, h8, hl, hd, fun k hk => Nat.lt_of_lt_of_le (h11 k hk) ho.size⟩
  rcases h5 i v hi with h | ⟨s, l, a, b, c⟩
  · exact .inl h
  · exact .inr ⟨s, l, a, b, c.only ho (fun k hk => .inl (by simp at hk; simp [hk]))⟩
theorem rdeed_any (h : IsR X w p sb sc wb base d) : Calls Tryz.prog 118 #[.pointer (some ⟨p, 0, none⟩)] w fun x w' =>
    ((d.off = true ∨ d.left = 0) ∧ x = .returned (.bool false) ∧ IsR X w' p sb sc wb base { d with off := true } ∧ Only [p] w w') ∨ (d.off = false ∧ d.left ≠ 0 ∧ x = .returned (.bool true) ∧ w' = w) := by
  have c2 : w.cell? ⟨p, 2, none⟩ = some (.int .i64 d.left) := h.blk.cell 2
  have c4 : w.cell? ⟨p, 4, none⟩ = some (.bool d.off) := h.blk.cell 4
  have f4 : w.frozen? ⟨p, 4, none⟩ = false := h.blk.frozen 4
  have HO : Hid (IsR X (w.setCell ⟨p, 4, none⟩ (.bool true)) p sb sc wb base { d with off := true } ∧ Only [p] w (w.setCell ⟨p, 4, none⟩ (.bool true))) := Lib.hid (by
    have ho := (Only.refl [p] w).setCell (p := ⟨p, 4, none⟩) (.inl (by simp)) (.bool true)
    exact ⟨h.head ho (h.blk.set_ 4 (.bool true)) h.left_ h.done_, ho⟩)
  clear h
  obtain ⟨n, left, done, off, safe, wait⟩ := d
  simp only at c2 c4 HO ⊢
  cases off
  · by_cases hl : left = 0
    · subst hl
      go_enter Tryz.func118, Tryz.ntmps118
      go_wp2_with fail
      go_ret
      exact .inl ⟨by simp, rfl, HO.out.1, HO.out.2⟩
    · have e : (left == 0) = false := beq_eq_false_iff_ne.2 hl
      clear HO
      go_enter Tryz.func118, Tryz.ntmps118
      go_wp2_with fail
      go_ret
      exact .inr ⟨by first | rfl | trivial, hl, rfl, rfl⟩
  · go_enter Tryz.func118, Tryz.ntmps118
    go_wp2_with fail
    go_ret
    exact .inl ⟨by simp, rfl, HO.out.1, HO.out.2⟩
theorem rdid_any (h : IsR X w p sb sc wb base d) (hd : d.done < 9223372036854775807) : Calls Tryz.prog 119 #[.pointer (some ⟨p, 0, none⟩)] w fun x w' => x = .returned (.tuple #[]) ∧ IsR X w' p sb sc wb base (stepD d) ∧ Only [p] w w' := by
  have c2 : w.cell? ⟨p, 2, none⟩ = some (.int .i64 d.left) := h.blk.cell 2
  have c3 : w.cell? ⟨p, 3, none⟩ = some (.int .i64 d.done) := h.blk.cell 3
  have f2 : w.frozen? ⟨p, 2, none⟩ = false := h.blk.frozen 2
  have f3 : w.frozen? ⟨p, 3, none⟩ = false := h.blk.frozen 3
  have hl := h.left_
  have hdn := h.done_
  have e0 : wrap64 (d.done + 1) = d.done + 1 := by unfold wrap64; omega
  by_cases hp : 0 < d.left
  · have e1 : decide (0 < d.left) = true := decide_eq_true hp
    have e2 : wrap64 (d.left - 1) = d.left - 1 := by unfold wrap64; omega
    have HF : Hid (IsR X ((w.setCell ⟨p, 3, none⟩ (.int .i64 (d.done + 1))).setCell ⟨p, 2, none⟩ (.int .i64 (d.left - 1))) p sb sc wb base (stepD d) ∧ Only [p] w ((w.setCell ⟨p, 3, none⟩ (.int .i64 (d.done + 1))).setCell ⟨p, 2, none⟩ (.int .i64 (d.left - 1)))) := Lib.hid (by
      have ho := ((Only.refl [p] w).setCell (p := ⟨p, 3, none⟩) (.inl (by simp)) (.int .i64 (d.done + 1))).setCell (p := ⟨p, 2, none⟩) (.inl (by simp)) (.int .i64 (d.left - 1))
      refine ⟨?_, ho⟩
      have := h.head ho ((h.blk.set_ 3 (.int .i64 (d.done + 1))).set_ 2 (.int .i64 (d.left - 1))) (by omega) (by omega)
      unfold stepD
      first | rw [if_pos hp] | skip
      exact this)
    have c2' : (w.setCell ⟨p, 3, none⟩ (.int .i64 (d.done + 1))).cell? ⟨p, 2, none⟩ = some (.int .i64 d.left) := (h.blk.set_ 3 _).cell 2
    clear h
    go_enter Tryz.func119, Tryz.ntmps119
    go_wp2_with fail
    go_end0
    exact ⟨rfl, HF.out.1, HF.out.2⟩
  · have e1 : decide (0 < d.left) = false := decide_eq_false hp
    have HF : Hid (IsR X (w.setCell ⟨p, 3, none⟩ (.int .i64 (d.done + 1))) p sb sc wb base (stepD d) ∧ Only [p] w (w.setCell ⟨p, 3, none⟩ (.int .i64 (d.done + 1)))) := Lib.hid (by
      have ho := (Only.refl [p] w).setCell (p := ⟨p, 3, none⟩) (.inl (by simp)) (.int .i64 (d.done + 1))
      refine ⟨?_, ho⟩
      have := h.head ho (h.blk.set_ 3 (.int .i64 (d.done + 1))) h.left_ (by omega)
      unfold stepD
      first | rw [if_neg hp] | skip
      exact this)
    have c2' : (w.setCell ⟨p, 3, none⟩ (.int .i64 (d.done + 1))).cell? ⟨p, 2, none⟩ = some (.int .i64 d.left) := (h.blk.set_ 3 _).cell 2
    clear h
    go_enter Tryz.func119, Tryz.ntmps119
    go_wp2_with fail
    go_end0
    exact ⟨rfl, HF.out.1, HF.out.2⟩
end
end Go.Proofs.YthgfmoogagldmaaGreat.RefD
namespace Go.Proofs.YthgfmoogagldmaaGreat.RefD
open Go.RowKit Go.Shelf Disk Journal
theorem flat_map1 (vs : List Value) (i : Nat) (v : Value) : (vs.map fun v => [v]).set i [v] = (vs.set i v).map fun v => [v] := by
  rw [List.map_set]
section
variable {w w5 w' : World} {p sb sc wb base : Nat} {d : DS} {X : List Nat} {s : Sl} {l : List UInt8}
theorem IsR.putW (h : IsR X w p sb sc wb base d) (ho : Only [] w w5) {i : Nat} (hi : i < d.n) (hs : Sec w5 (p :: sb :: wb :: X) s l) : IsR X (w5.setCell ⟨wb, i, none⟩ s.val) p sb sc wb base { d with wait := setW d.wait i l } ∧ Only [wb] w (w5.setCell ⟨wb, i, none⟩ s.val) := by
  have h5 := h.only0 ho
  have hne := h5.p_ne
  have hw : Only [wb] w5 (w5.setCell ⟨wb, i, none⟩ s.val) := (Only.refl [wb] w5).setCell (p := ⟨wb, i, none⟩) (.inl (by simp)) _
  obtain ⟨h1, ⟨ss, h2, h3⟩, ⟨vs, h4, h6⟩, h7, h8, h9, h10, h11, hxl⟩ := h5
  have hk : ∀ k ∈ [wb], k ∈ (p :: sb :: wb :: X) ∨ w5.heap.size ≤ k := fun k hk => .inl (by simp at hk; simp [hk])
  have hl : vs.length = d.n := by have := h4.len; rwa [List.length_map] at this
  have h12 := h4.put1 hi s.val
  rw [flat_map1] at h12
  refine ⟨⟨h1.only hw (by simp; exact hne.2), ⟨ss, h2.only hw (by simp [ownL, Value.ownBlock]; exact h7), fun j s hj => (h3 j s hj).only hw hk⟩, ⟨_, h12, fun j v hj => ?_⟩, h7, h8, fun j hj => ?_, h10, h11, fun k hk => Nat.lt_of_lt_of_le (hxl k hk) hw.size⟩, (ho.mono (by simp)).trans hw (fun k hk => .inl hk)⟩
  · by_cases e : j = i
    · subst e
      rw [List.getElem?_set_self (by omega)] at hj
      injection hj with hj
      subst hj
      exact .inr ⟨s, l, by show setW d.wait j l j = some l; unfold setW; rw [if_pos rfl], rfl, hs.only hw hk⟩
    · rw [List.getElem?_set_ne (fun h => e h.symm)] at hj
      have e2 : (setW d.wait i l) j = d.wait j := by unfold setW; rw [if_neg e]
      rcases h6 j v hj with ⟨a, b⟩ | ⟨s2, l2, a, b, c⟩
      · exact .inl ⟨by show (setW d.wait i l) j = none; rw [e2, a], b⟩
      · exact .inr ⟨s2, l2, by show (setW d.wait i l) j = some l2; rw [e2, a], b, c.only hw hk⟩
  · show (setW d.wait i l) j = none
    have hj2 : d.n ≤ j := hj
    have : j ≠ i := by omega
    unfold setW
    rw [if_neg this]
    exact h9 j hj
set_option maxHeartbeats 4000000 in
theorem rwrite_any (h : IsR X w p sb sc wb base d) (i : Int) (A : Option Addr) (n c : Nat) (hb : Bytes w w.heap.size A n l) (hn : n ≤ 1000000) (hdn : d.done < 9223372036854775807) :
    Calls Tryz.prog 78 #[.pointer (some ⟨p, 0, none⟩), .int .i64 i, .slice A n c] w fun x w' => ∃ e : Int, x = .returned (.int .i64 e) ∧ (e = 0 ↔ (wrD d i l).2 = true) ∧ IsR X w' p sb sc wb base (wrD d i l).1 ∧ Only [p, sb, wb] w w' := by
  have c0 : w.cell? ⟨p, 0, none⟩ = some (.slice (some ⟨sb, 0, none⟩) d.n sc) := h.blk.cell 0
  have c1 : w.cell? ⟨p, 1, none⟩ = some (.slice (some ⟨wb, 0, none⟩) d.n d.n) := h.blk.cell 1
  have c2 : w.cell? ⟨p, 2, none⟩ = some (.int .i64 d.left) := h.blk.cell 2
  have c4 : w.cell? ⟨p, 4, none⟩ = some (.bool d.off) := h.blk.cell 4
  have hl := hb.len
  have HD := Lib.hid (rdeed_any h)
  have H := Lib.hid h
  have hn0 := h.n0
  have HPM := Lib.hid (show ∀ w2, Only [p] w w2 → Only [p, sb, wb] w w2 from fun _ h => h.mono (fun k hk => .inl (by simp at hk; simp [hk])))
  by_cases hoff : d.off = true
  · have hw : wrD d i l = ({ d with off := true }, false) := by unfold wrD; rw [if_pos (.inl hoff)]
    have hd : { d with off := true } = d := by cases d; simp only at hoff; subst hoff; rfl
    rw [hw, hd]
    rw [hoff] at c4
    clear h hb HD
    go_enter Tryz.func78, Tryz.ntmps78
    go_wp2_with fail
    go_ret
    exact ⟨3, rfl, by simp, H.out, Only.refl _ _⟩
  · have hoff2 : d.off = false := by simpa using hoff
    rw [hoff2] at c4
    by_cases hl0 : d.left = 0
    · have hw : wrD d i l = ({ d with off := true }, false) := by unfold wrD; rw [if_pos (.inr hl0)]
      rw [hw]
      rw [hl0] at c2
      clear h hb
      go_enter Tryz.func78, Tryz.ntmps78
      go_wp2_with fail
      refine HD.out.mono ?_
      rintro x w2 (⟨_, rfl, hr, ho⟩ | ⟨_, hbad, _⟩)
      · have HR := Lib.hid hr
        have HO := Lib.hid ho
        clear hr ho
        go_wp2_with fail
        go_ret
        exact ⟨3, rfl, by simp, HR.out, HPM.out _ HO.out⟩
      · exact absurd hl0 hbad
    · have hcond : ¬ (d.off = true ∨ d.left = 0) := fun h => h.elim hoff hl0
      have el : (d.left != 0) = true := by simpa using hl0
      by_cases hi0 : i < 0
      · have hw : wrD d i l = (d, false) := by unfold wrD; rw [if_neg hcond, if_neg (by omega)]
        have d1 : decide (i < 0) = true := decide_eq_true hi0
        rw [hw]
        clear h hb HD
        go_enter Tryz.func78, Tryz.ntmps78
        go_wp2_with fail
        go_ret
        exact ⟨1, rfl, by simp, H.out, Only.refl _ _⟩
      · have d1 : decide (i < 0) = false := decide_eq_false hi0
        obtain ⟨j, rfl⟩ := Int.eq_ofNat_of_zero_le (show 0 ≤ i by omega)
        by_cases hin : j < d.n
        · have d2 : decide ((d.n : Int) ≤ (j : Int)) = false := decide_eq_false (by omega)
          have d2' : decide (d.n ≤ j) = false := decide_eq_false (by omega)
          by_cases h64 : n = 64
          · subst h64
            have hw : wrD d (j : Int) l = (stepD { d with wait := setW d.wait j l }, true) := by unfold wrD; rw [if_neg hcond, if_pos ⟨by omega, by omega, hl⟩]; rfl
            rw [hw]
            have hns := OwnB.empty w.drew w.heap.size (Nat.le_refl _)
            have hin2 : (j : Int) < (d.n : Int) := by omega
            have HB := Lib.hid hb
            clear h hb
            go_enter Tryz.func78, Tryz.ntmps78
            go_wp2_with fail
            refine HD.out.mono ?_
            rintro x w2 (⟨hbad, _⟩ | ⟨_, _, rfl, hw2⟩)
            · exact absurd hbad hcond
            have hw2 := hw2.symm
            subst hw2
            go_upto_region 7 with fail
            have hS : w.drew.cell? ⟨p, 1, none⟩ = some (.slice (some ⟨wb, 0, none⟩) d.n d.n) := c1
            refine wp_region_hand (S := (fun Y => Y.cell? ⟨p, 1, none⟩ = some (.slice (some ⟨wb, 0, none⟩) d.n d.n))) (by kernel_rfl) ?_
            refine takeV 0 (.pointer (some ⟨p, 0, none⟩)) rfl rfl (by kernel_rfl) (fun _ _ => by go_simp) hS ?_; simp only [s0A, s0B, s0C]
            refine takeV 1 (.pointer (some ⟨p, 0, none⟩)) rfl rfl (by kernel_rfl) (fun _ _ => by go_simp) hS ?_; simp only [s0A, s0B, s0C]
            refine takeV 2 (.pointer (some ⟨p, 1, none⟩)) rfl rfl (by kernel_rfl) (fun _ _ => by go_simp) hS ?_; simp only [s0A, s0B, s0C]
            refine takeV 3 (.slice (some ⟨wb, 0, none⟩) d.n d.n) rfl rfl (by kernel_rfl) (fun _ _ => by go_simp) hS ?_; simp only [s0A, s0B, s0C]
            refine takeV 4 (.int .i64 (j : Int)) rfl rfl (by kernel_rfl) (fun _ _ => by go_simp) hS ?_; simp only [s0A, s0B, s0C]
            refine takeV 6 (.slice A 64 c) rfl rfl (by kernel_rfl) (fun _ _ => by go_simp) hS ?_; simp only [s0A, s0B, s0C]
            have hEo : Only [] w (w.drew.alloc (.cells #[] 5)) := ((Only.refl [] w).drew).alloc _
            refine oneW (i := 5) (v := .slice (some ⟨w.heap.size, 0, none⟩) 0 0) (w' := w.drew.alloc (.cells #[] 5)) rfl (by kernel_rfl) rfl (by rfl) (by go_simp) (hEo.cell c1 (by simp)) ?_; simp only [s0A, s0B, s0C]
            refine oneA (i := 7) rfl (by kernel_rfl) rfl rfl (fun K hK => ?_)
            refine step_append_bytes (w := w.drew.alloc (.cells #[] 5)) rfl (.tmp 42) (.tmp 43) rfl rfl hns rfl ((HB.out.only hEo (by simp))) (by omega) (by simp) ?_
            intro v2 w2 ho2 hon2 hfr2
            have hon : Only [] w w2 := hEo.trans hon2 (fun g hg => .inr (by have e : g ∈ [w.heap.size] := hg; simp at e; omega))
            have hlt := H.out.lt
            have hs2 := hon.size
            obtain ⟨A2, cap2, rfl, hc2, hm2, hr2, hA2⟩ := ho2.shape
            have HSEC : Hid (Sec w2 (p :: sb :: wb :: X) ⟨A2, 64, cap2, l⟩ l) := Lib.hid ⟨rfl, rfl, by simpa using hr2, by omega, hm2, fun k hk hm => by
              rcases hA2 with ⟨rfl, _⟩ | ⟨g2, rfl, hg2, _⟩
              · cases hk
              · simp [blkOf] at hk
                have h3 : w.heap.size ≤ g2 := hg2
                simp only [List.mem_cons] at hm
                rcases hm with e | e | e | e
                iterate 3 omega
                have := H.out.xlt _ e
                omega⟩
            have HPUT := Lib.hid (H.out.putW hon hin HSEC.out)
            have HON := Lib.hid hon
            refine hK _ _ (hon.cell c1 (by simp)) ?_
            clear hK K ho2 hon2 hfr2 hc2 hm2 hr2 hA2 hon HD HSEC
            try simp only [s0A, s0B, s0C]
            have hfz : w2.frozen? ⟨wb, j, none⟩ = false := by
              obtain ⟨vs, h4, _⟩ := (H.out.only0 HON.out).wait
              exact h4.frozenOf j
            have hcw : ∃ u, w2.cell? ⟨wb, j, none⟩ = some u := by
              obtain ⟨vs, h4, _⟩ := (H.out.only0 HON.out).wait
              have h5 := h4.cellOf (i := j) (j := 0) hin (by decide)
              have h6 : ((vs.map fun v => [v]).getD j []).length = 1 := by
                rw [List.getD_eq_getElem?_getD, List.getElem?_eq_getElem (by have := h4.len; omega)]
                exact h4.each _ (List.getElem_mem _)
              rw [Nat.mul_one, Nat.add_zero, List.getElem?_eq_getElem (by omega)] at h5
              exact ⟨_, h5⟩
            obtain ⟨u, hu⟩ := hcw
            refine takeV 8 (.pointer (some ⟨wb, j, none⟩)) rfl rfl (by kernel_rfl) (fun _ _ => by go_simp) (HON.out.cell c1 (by simp)) ?_; simp only [s0A, s0B, s0C]
            have c1p : (w2.setCell ⟨wb, j, none⟩ (.slice A2 64 cap2)).cell? ⟨p, 1, none⟩ = some (.slice (some ⟨wb, 0, none⟩) d.n d.n) := (HPUT.out.1).blk.cell 1
            refine oneS (i := 9) (v := undef) (w' := w2.setCell ⟨wb, j, none⟩ (.slice A2 64 cap2)) rfl (by kernel_rfl) rfl (by rfl) (by first | (left; go_simp; done) | (right; go_simp; done)) c1p ?_
            refine wpAnyH_done (by kernel_rfl) ?_ _
            have HDID := Lib.hid (rdid_any HPUT.out.1 hdn)
            clear hS hns hfz hu c1p
            go_wp2_with (go_at_call 119; refine HDID.out.mono ?_; rintro x w3 ⟨rfl, hr3, ho3⟩; have HR3 := Lib.hid hr3; have HO3 := Lib.hid ho3; clear hr3 ho3)
            go_ret
            exact ⟨0, rfl, by simp, HR3.out, (HPUT.out.2.mono (fun k hk => .inl (by simp at hk; simp [hk]))).trans HO3.out (fun k hk => .inl (by simp at hk; simp [hk]))⟩
          · have hw : wrD d (j : Int) l = (d, false) := by unfold wrD; rw [if_neg hcond, if_neg (by omega)]
            have d3 : ((n : Int) != 64) = true := by simpa using fun h => h64 (by omega)
            have d3' : (n != 64) = true := by simpa using h64
            rw [hw]
            clear h hb HD
            go_enter Tryz.func78, Tryz.ntmps78
            go_wp2_with fail
            go_ret
            exact ⟨1, rfl, by simp, H.out, Only.refl _ _⟩
        · have hw : wrD d (j : Int) l = (d, false) := by unfold wrD; rw [if_neg hcond, if_neg (by omega)]
          have d2 : decide ((d.n : Int) ≤ (j : Int)) = true := decide_eq_true (by omega)
          have d2' : decide (d.n ≤ j) = true := decide_eq_true (by omega)
          rw [hw]
          clear h hb HD
          go_enter Tryz.func78, Tryz.ntmps78
          go_wp2_with fail
          go_ret
          exact ⟨1, rfl, by simp, H.out, Only.refl _ _⟩
end
end Go.Proofs.YthgfmoogagldmaaGreat.RefD
namespace Go.Proofs.YthgfmoogagldmaaGreat.RefD
open Go.RowKit Go.Shelf Disk Journal
def readE (d : DS) (i : Int) : Int := if d.off = true then 3 else if 0 ≤ i ∧ i < d.n then 0 else 1
theorem neq_slice (t : TypeId) (w : World) (a : Option Addr) (n c : Nat) : (binOp .neq 35 (.slice a n c) (.slice none 0 0)).run Tryz.prog w = .ok (.bool a.isSome) w := by
  cases a <;> kernel_rfl
section
variable {w w5 w' : World} {p sb sc wb base : Nat} {d : DS} {X : List Nat} {s : Sl} {l : List UInt8}
set_option maxHeartbeats 4000000 in
theorem rread_any (h : IsR X w p sb sc wb base d) (i : Int) :
    Calls Tryz.prog 76 #[.pointer (some ⟨p, 0, none⟩), .int .i64 i] w fun x w' => ∃ v n, x = .returned (.tuple #[v, .int .i64 (readE d i)]) ∧ OwnB w' w.heap.size v n (rdD d i) ∧ Only [] w w' := by
  have c0 : w.cell? ⟨p, 0, none⟩ = some (.slice (some ⟨sb, 0, none⟩) d.n sc) := h.blk.cell 0
  have c1 : w.cell? ⟨p, 1, none⟩ = some (.slice (some ⟨wb, 0, none⟩) d.n d.n) := h.blk.cell 1
  have c4 : w.cell? ⟨p, 4, none⟩ = some (.bool d.off) := h.blk.cell 4
  have H := Lib.hid h
  have hn0 := h.n0
  by_cases hoff : d.off = true
  · have hr : rdD d i = [] := by unfold rdD; rw [if_pos hoff]
    have he : readE d i = 3 := by unfold readE; rw [if_pos hoff]
    rw [hr, he]
    rw [hoff] at c4
    clear h hr he
    go_enter Tryz.func76, Tryz.ntmps76
    go_wp2_with fail
    exact bodyPost_ret (v := .tuple #[.slice none 0 0, .int .i64 3]) (by simp [results, Tryz.results76, go_sem]) rfl ⟨_, 0, rfl, OwnB.nil_ _ _, Only.refl _ _⟩
  · have hoff2 : d.off = false := by simpa using hoff
    rw [hoff2] at c4
    by_cases hi0 : i < 0
    · have hr : rdD d i = [] := by unfold rdD; rw [if_neg hoff, if_neg (by omega)]
      have he : readE d i = 1 := by unfold readE; rw [if_neg hoff, if_neg (by omega)]
      have d1 : decide (i < 0) = true := decide_eq_true hi0
      rw [hr, he]
      clear h hr he
      go_enter Tryz.func76, Tryz.ntmps76
      go_wp2_with fail
      exact bodyPost_ret (v := .tuple #[.slice none 0 0, .int .i64 1]) (by simp [results, Tryz.results76, go_sem]) rfl ⟨_, 0, rfl, OwnB.nil_ _ _, Only.refl _ _⟩
    · have d1 : decide (i < 0) = false := decide_eq_false hi0
      obtain ⟨j, rfl⟩ := Int.eq_ofNat_of_zero_le (show 0 ≤ i by omega)
      by_cases hin : j < d.n
      · have hr : rdD d (j : Int) = readD d j := by unfold rdD; rw [if_neg hoff, if_pos ⟨by omega, by omega⟩]; rfl
        have he : readE d (j : Int) = 0 := by unfold readE; rw [if_neg hoff, if_pos ⟨by omega, by omega⟩]
        have d2 : decide ((d.n : Int) ≤ (j : Int)) = false := decide_eq_false (by omega)
        have d2' : decide (d.n ≤ j) = false := decide_eq_false (by omega)
        have hin2 : (j : Int) < (d.n : Int) := by omega
        rw [hr, he]
        have hns := OwnB.empty w w.heap.size (Nat.le_refl _)
        have hEo : Only [] w (w.alloc (.cells #[] 5)) := (Only.refl [] w).alloc _
        have c0a := hEo.cell c0 (by simp)
        have c1a := hEo.cell c1 (by simp)
        obtain ⟨vs, hw1, hw2⟩ := h.wait
        obtain ⟨ss, hs1, hs2⟩ := h.safe
        have hvl : vs.length = d.n := by have := hw1.len; rwa [List.length_map] at this
        have hsl : ss.length = d.n := by have := hs1.len; rwa [List.length_map] at this
        obtain ⟨v, hv⟩ : ∃ v, vs[j]? = some v := ⟨_, List.getElem?_eq_getElem (by omega)⟩
        have cw : w.cell? ⟨wb, j, none⟩ = some v := by
          have := hw1.cellOf (i := j) (j := 0) hin (by decide)
          rw [Nat.mul_one, Nat.add_zero, List.getD_eq_getElem?_getD, List.getElem?_map, hv] at this
          exact this
        rcases hw2 j v hv with ⟨hwn, rfl⟩ | ⟨s, l, hws, rfl, hsec⟩
        · obtain ⟨s, hsj⟩ : ∃ s, ss[j]? = some s := ⟨_, List.getElem?_eq_getElem (by omega)⟩
          have hsec := hs2 j s hsj
          have cs : w.cell? ⟨sb, j, none⟩ = some s.val := by
            have := hs1.cellOf (i := j) (j := 0) hin (by decide)
            rw [Nat.mul_one, Nat.add_zero, List.getD_eq_getElem?_getD, List.getElem?_map, hsj] at this
            exact this
          obtain ⟨A, n, c, l⟩ := s
          obtain ⟨e1, e2, hb, hc1, hc2, hfar⟩ := hsec
          simp only at e1 e2 hb hc1 hc2
          subst e2
          have hrd : readD d j = d.safe j := by unfold readD; rw [hwn]; rfl
          rw [hrd]
          have cs2 : w.cell? ⟨sb, j, none⟩ = some (.slice A 64 c) := cs
          have hb2 := hb.only hEo (by simp)
          have csa := hEo.cell cs2 (by simp)
          have hnil := neq_slice 0 w none 0 0
          have HB := Lib.hid hb2
          clear h hw1 hw2 hs1 hs2 hvl hsl hv hwn hrd hfar hc1 hc2 hb hb2 cs hr he
          go_enter Tryz.func76, Tryz.ntmps76
          go_wp2_with (at_builtin; refine wpList_append_bytes rfl (.tmp 38) (.tmp 45) rfl rfl hns rfl HB.out (by omega) (by simp) ?_; intro v2 w2 ho2 hon2 hfr2)
          have HO2 := Lib.hid (hEo.trans hon2 (fun g hg => .inr (by have e : g ∈ [w.heap.size] := hg; simp at e; omega)))
          have HW2 := Lib.hid ho2
          clear ho2 hon2 hfr2
          exact bodyPost_ret (v := .tuple #[v2, .int .i64 0]) (by simp [results, Tryz.results76, go_sem]) rfl ⟨_, rfl, ⟨_, by simpa using HW2.out⟩, HO2.out⟩
        · obtain ⟨A, n, c, l2⟩ := s
          obtain ⟨e1, e2, hb, hc1, hc2, hfar⟩ := hsec
          simp only at e1 e2 hb hc1 hc2
          subst e1
          subst e2
          obtain ⟨gb, off, rfl, _, _⟩ := hb.at_ (k := 0) (by decide)
          have hrd : readD d j = l2 := by unfold readD; rw [hws]; rfl
          rw [hrd]
          have cw2 : w.cell? ⟨wb, j, none⟩ = some (.slice (some ⟨gb, off, none⟩) 64 c) := cw
          have hb2 := hb.only hEo (by simp)
          have cwa := hEo.cell cw2 (by simp)
          have hnil := neq_slice 0 w (some ⟨gb, off, none⟩) 64 c
          have HB := Lib.hid hb2
          clear h hw1 hw2 hs1 hs2 hvl hsl hv hws hrd hfar hc1 hc2 hb hb2 cw hr he
          go_enter Tryz.func76, Tryz.ntmps76
          go_wp2_with (at_builtin; refine wpList_append_bytes rfl (.tmp 29) (.tmp 36) rfl rfl hns rfl HB.out (by omega) (by simp) ?_; intro v2 w2 ho2 hon2 hfr2)
          have HO2 := Lib.hid (hEo.trans hon2 (fun g hg => .inr (by have e : g ∈ [w.heap.size] := hg; simp at e; omega)))
          have HW2 := Lib.hid ho2
          clear ho2 hon2 hfr2
          exact bodyPost_ret (v := .tuple #[v2, .int .i64 0]) (by simp [results, Tryz.results76, go_sem]) rfl ⟨_, rfl, ⟨_, by simpa using HW2.out⟩, HO2.out⟩
      · have hr : rdD d (j : Int) = [] := by unfold rdD; rw [if_neg hoff, if_neg (by omega)]
        have he : readE d (j : Int) = 1 := by unfold readE; rw [if_neg hoff, if_neg (by omega)]
        have d2 : decide ((d.n : Int) ≤ (j : Int)) = true := decide_eq_true (by omega)
        have d2' : decide (d.n ≤ j) = true := decide_eq_true (by omega)
        rw [hr, he]
        clear h hr he
        go_enter Tryz.func76, Tryz.ntmps76
        go_wp2_with fail
        exact bodyPost_ret (v := .tuple #[.slice none 0 0, .int .i64 1]) (by simp [results, Tryz.results76, go_sem]) rfl ⟨_, rfl, ⟨0, OwnB.nil_ _ _⟩, Only.refl _ _⟩
end
end Go.Proofs.YthgfmoogagldmaaGreat.RefD
