/- The document's journal: Reset: the words; refused. PRINTED by wip/gen_rj8.py. -/
import Derived.Test.YthgfmoogagldmaaGreatRanges
import Derived.Test.YthgfmoogagldmaaGreatRefP
import Derived.Test.YthgfmoogagldmaaGreatJournalE
import Derived.Deep.DeepCutAuto
set_option linter.unusedVariables false
set_option maxRecDepth 100000
namespace Go.Proofs.YthgfmoogagldmaaGreat.RefD
open Go.RowKit Go.Shelf Disk Journal Go.Proofs.YthgfmoogagldmaaGreat.Frame
section
variable {w w' wr : World} {p sb sc wb base q n c : Nat} {d : DS} {X S T T' : List Nat} {A : Option Addr} {l : List UInt8} {ls : List (List UInt8)} {js : JS} {ts : List Sl}
def LZR (d : DS) (h : Half) (ls : List (List UInt8)) : DS × Bool :=
  if ls = [] then wrD d h.fr Journal.zeros else if (layG d h 0 0 ls).2.1 = true then zeroH (layG d h 0 0 ls).1 h (layG d h 0 0 ls).2.2 else ((layG d h 0 0 ls).1, false)
theorem lzr_lay {d : DS} {h : Half} {ls : List (List UInt8)} (hr : 0 < h.room) : layH d h ls = andThen (LZR d h ls) synD := by
  unfold LZR
  by_cases h0 : ls = []
  · subst h0
    rw [if_pos rfl]
    unfold layH
    simp only
    have e : layG d h 0 0 [] = (d, true, 0) := rfl
    rw [e]
    simp only [if_true]
    unfold zeroH
    rw [if_neg (by omega), Int.add_zero]
  · rw [if_neg h0]
    cases e : (layG d h 0 0 ls).2.1 with
    | false =>
      rw [layH_no e, if_neg (by decide)]
      unfold andThen
      exact (if_neg (by simp)).symm
    | true =>
      rw [layH_ok e, if_pos rfl]
theorem writeR_o (d : DS) (h : Half) (a seq : Int) (l : List UInt8) : writeR d h a seq l true false = layR d h a seq l := by
  unfold writeR layR
  rw [if_pos rfl]
  obtain ⟨⟨D1, b1⟩, e1⟩ : ∃ r, wrD d (h.fr + a) (putB (markH h seq l)) = r := ⟨_, rfl⟩
  rw [e1]
  cases b1 with
  | false => simp [andThen]
  | true =>
    obtain ⟨⟨D2, b2⟩, e2⟩ : ∃ r, packH D1 h a l = r := ⟨_, rfl⟩
    cases b2 <;> simp [andThen, e2]
theorem writeR_z (d : DS) (h : Half) (a seq : Int) (l : List UInt8) : writeR d h a seq l true true = andThen (layR d h a seq l) (fun x => zeroH x h (a + takesB l)) := by
  unfold writeR layR
  rw [if_pos rfl]
  rfl
def LayI (d : DS) (h : Half) (ls : List (List UInt8)) (k : Nat) (D : DS) (b : Bool) : Prop :=
  (b = true ∧ (k < ls.length ∨ ls = []) ∧ layG d h 0 0 (ls.take k) = (D, true, takesL (ls.take k))) ∨ (ls ≠ [] ∧ LZR d h ls = (D, b) ∧ (b = true → k = ls.length))
theorem LayI.zero (d : DS) (h : Half) (ls : List (List UInt8)) : LayI d h ls 0 d true := by
  refine .inl ⟨rfl, ?_, rfl⟩
  cases ls with
  | nil => exact .inr rfl
  | cons a t => exact .inl (by simp)
theorem LayI.next {d D : DS} {h : Half} {ls : List (List UInt8)} {k : Nat} {b : List UInt8} (hi : LayI d h ls k D true) (hk : ls[k]? = some b) {last : Bool} (hlast : last = decide (k + 1 = ls.length)) {D' : DS} {b' : Bool} (hw : writeR D h (takesL (ls.take k)) k b true last = (D', b')) : LayI d h ls (k + 1) D' b' := by
  have hlt := (List.getElem?_eq_some_iff.1 hk).1
  have hne : ls ≠ [] := fun e => by rw [e] at hlt; simp at hlt
  have hl : layG d h 0 0 (ls.take k) = (D, true, takesL (ls.take k)) := by
    rcases hi with ⟨_, _, h⟩ | ⟨_, _, h⟩
    · exact h
    · have := h rfl; omega
  have hst := lay_step hk (show (layG d h 0 0 (ls.take k)).2.1 = true by rw [hl])
  rw [hl] at hst
  simp only at hst
  obtain ⟨⟨E, e⟩, hE⟩ : ∃ r, layR D h (takesL (ls.take k)) k b = r := ⟨_, rfl⟩
  rw [hE] at hst
  simp only at hst
  have htk : takesL (ls.take (k + 1)) = takesL (ls.take k) + takesB b := foldl_take hk
  cases last with
  | false =>
    rw [writeR_o, hE] at hw
    injection hw with h1 h2
    subst h1
    subst h2
    cases e with
    | true =>
      refine .inl ⟨rfl, .inl ?_, ?_⟩
      · have : ¬ k + 1 = ls.length := by simpa using hlast.symm
        omega
      · rw [hst.1 rfl, htk]
    | false =>
      refine .inr ⟨hne, ?_, fun h => by cases h⟩
      obtain ⟨h1, h2⟩ := hst.2 rfl
      unfold LZR
      rw [if_neg hne, if_neg (by rw [h2]; decide), h1]
  | true =>
    have hkl : k + 1 = ls.length := by simpa using hlast.symm
    rw [writeR_z, hE] at hw
    refine .inr ⟨hne, ?_, fun _ => hkl⟩
    unfold LZR
    rw [if_neg hne]
    cases e with
    | false =>
      obtain ⟨h1, h2⟩ := hst.2 rfl
      rw [if_neg (by rw [h2]; decide), h1]
      unfold andThen at hw
      rw [if_neg (by simp)] at hw
      exact hw
    | true =>
      have h1 := hst.1 rfl
      rw [hkl, List.take_of_length_le (Nat.le_refl _)] at h1
      rw [h1, if_pos rfl]
      unfold andThen at hw
      rw [if_pos rfl] at hw
      exact hw
theorem LayI.last {d D : DS} {h : Half} {ls : List (List UInt8)} {k : Nat} {b : Bool} (hi : LayI d h ls k D b) (hx : ¬ (k < ls.length ∧ b = true)) : (ls = [] ∧ D = d ∧ b = true) ∨ (ls ≠ [] ∧ LZR d h ls = (D, b)) := by
  rcases hi with ⟨h1, h2, h3⟩ | ⟨h1, h2, _⟩
  · rcases h2 with h2 | h2
    · exact absurd ⟨h2, h1⟩ hx
    · subst h2
      have e : layG d h 0 0 ([].take k) = (d, true, 0) := by rw [List.take_nil]; rfl
      rw [e] at h3
      injection h3 with h3 _
      exact .inl ⟨rfl, h3.symm, h1⟩
  · exact .inr ⟨h1, h2⟩
theorem lzr_done (d : DS) (h : Half) (ls : List (List UInt8)) : (LZR d h ls).1.done ≤ d.done + (takesL ls + 2) ∧ (LZR d h ls).1.n = d.n := by
  have hnn := takesL_nn ls
  unfold LZR
  split
  · have h1 := wr_done d h.fr Journal.zeros
    have h2 := wrD_n d h.fr Journal.zeros
    omega
  · have h1 := layG_done ls d h 0 0
    have h2 := layG_n ls d h 0 0
    split
    · have h3 := zero_done (layG d h 0 0 ls).1 h (layG d h 0 0 ls).2.2
      have h4 : (zeroH (layG d h 0 0 ls).1 h (layG d h 0 0 ls).2.2).1.n = (layG d h 0 0 ls).1.n := by
        unfold zeroH
        split
        · rfl
        · exact wrD_n _ _ _
      omega
    · simp only
      omega
theorem resR {d : DS} {js : JS} {ls : List (List UInt8)} {h : Half} (hh : halfD d (js.half.gen + 1) = h) (hr : 0 < h.room) (hre : refuseJ js ls js.half.room = 0) {D1 D2 D3 D4 : DS} {b1 b2 b3 b4 : Bool} (hL : LZR d h ls = (D1, b1)) (hS : synD D1 = (D2, b2))
    (hM : wrD D2 (h.gen % 2) (putB ⟨1, h.gen, 0, 0⟩) = (D3, b3)) (hS2 : synD D3 = (D4, b4)) :
    resetJ d js ls = if b1 = false then (D1, { js with off := true }, 3) else if b2 = false then (D2, { js with off := true }, 3) else if b3 = false then (D3, { js with off := true }, 3) else if b4 = false then (D4, { js with off := true }, 3) else (D4, { js with half := h, l := ls }, 0) := by
  unfold resetJ
  rw [if_neg (by rw [hre]; decide)]
  simp only
  rw [hh, lzr_lay hr, hL]
  cases b1 with
  | false => simp [andThen]
  | true =>
    have e1 : andThen ((D1, true) : DS × Bool) synD = (D2, b2) := by unfold andThen; rw [if_pos rfl, hS]
    rw [e1]
    cases b2 with
    | false => simp [andThen]
    | true =>
      have e2 : andThen ((D2, true) : DS × Bool) (fun x => leadH x h) = leadH D2 h := by unfold andThen; rw [if_pos rfl]
      have e3 : leadH D2 h = if b3 = true then (D4, b4) else (D3, false) := by
        unfold leadH
        rw [hM]
        simp only
        cases b3 with
        | true => rw [if_pos rfl, if_pos rfl, hS2]
        | false => rw [if_neg (by decide), if_neg (by decide)]
      rw [e2, e3]
      cases b3 with
      | false => simp
      | true => cases b4 <;> simp
theorem rjres_off (hd : IsR X w p sb sc wb base d) (h8 : 8 ≤ d.n) (hj : IsRJ X w p sb wb q js) (hqX : q ∈ X) (hh : js.half = halfD d js.half.gen) (hg : 0 ≤ js.half.gen ∧ js.half.gen ≤ 4611686018427380000) (A : Option Addr) (n c : Nat) (hl : ts.length = n) (hr : Reads w w.heap.size 1 A n (ts.map Sl.val)) (hc : n ≤ c ∧ c ≤ maxLen) (hk : Held w (q :: p :: sb :: wb :: X) ts) (h2k : ∀ s ∈ ts, s.n ≤ 2000) (hn : n ≤ 1000) (hfar : 0 < n → ∀ k ∈ blkOf A, k ∉ q :: p :: sb :: wb :: X) (hdn : d.done ≤ 4611686018427000000) (ho : js.off = true) :
    Calls Tryz.prog 27 #[.pointer (some ⟨q, 0, none⟩), .slice A n c] w fun x w' => RAct X w p sb sc wb base q (resetJ d js (ts.map (·.l))) x w' := by
  have hr3 : resetJ d js (ts.map (·.l)) = (d, js, 3) := by
    have : refuseJ js (ts.map (·.l)) js.half.room = 3 := by unfold refuseJ; rw [if_pos ho]
    unfold resetJ
    rw [if_pos (by rw [this]; decide), this]
  rw [hr3]
  have hj2 := hj
  obtain ⟨A0, n0, c0, hjb, hjl⟩ := hj
  have cq3 := hjb.cell 3
  have cq4 : w.cell? ⟨q, 3, none⟩ = some (.bool true) := by rw [← ho]; exact cq3
  have HF : Hid (RAct X w p sb sc wb base q (d, js, 3) (.returned (.int .i64 3)) w) := Lib.hid ⟨rfl, hj2, hd, Only.refl _ _⟩
  clear hd hj2 hjb hjl hr hfar ho hh cq3 hr3 hl hk h2k
  go_enter Tryz.func27, Tryz.ntmps27
  go_wp2_with fail
  go_ret
  exact HF.out
set_option maxHeartbeats 4000000 in
theorem rjres_full (hd : IsR X w p sb sc wb base d) (h8 : 8 ≤ d.n) (hj : IsRJ X w p sb wb q js) (hqX : q ∈ X) (hh : js.half = halfD d js.half.gen) (hg : 0 ≤ js.half.gen ∧ js.half.gen ≤ 4611686018427380000) (A : Option Addr) (n c : Nat) (hl : ts.length = n) (hr : Reads w w.heap.size 1 A n (ts.map Sl.val)) (hc : n ≤ c ∧ c ≤ maxLen) (hk : Held w (q :: p :: sb :: wb :: X) ts) (h2k : ∀ s ∈ ts, s.n ≤ 2000) (hn : n ≤ 1000) (hfar : 0 < n → ∀ k ∈ blkOf A, k ∉ q :: p :: sb :: wb :: X) (hdn : d.done ≤ 4611686018427000000) (ho : js.off = false) (hre : refuseJ js (ts.map (·.l)) js.half.room ≠ 0) :
    Calls Tryz.prog 27 #[.pointer (some ⟨q, 0, none⟩), .slice A n c] w fun x w' => RAct X w p sb sc wb base q (resetJ d js (ts.map (·.l))) x w' := by
  have hlig0 : ∀ b ∈ ts.map (·.l), b.length ≤ 1048576 := hk.light
  have hno : ¬ ∃ b ∈ ts.map (·.l), 1048576 < b.length := by
    rintro ⟨b, hm, h1⟩
    have := hlig0 b hm
    omega
  have hlt : js.half.room < takesL (ts.map (·.l)) := by
    refine Classical.byContradiction fun hc => hre ?_
    unfold refuseJ
    rw [if_neg (by rw [ho]; decide), if_neg hno, if_neg hc]
  have hr2 : resetJ d js (ts.map (·.l)) = (d, js, 2) := by
    have : refuseJ js (ts.map (·.l)) js.half.room = 2 := by
      unfold refuseJ
      rw [if_neg (by rw [ho]; decide), if_neg hno, if_pos hlt]
    unfold resetJ
    rw [if_pos hre, this]
  rw [hr2]
  have HFF : Hid (∀ wx, Only [] w wx → RAct X w p sb sc wb base q (d, js, 2) (.returned (.int .i64 2)) wx) := Lib.hid (fun wx ho => ⟨rfl, hj.only ho (by simp) (by simp) (fun k hk => .inl hk), hd.only0 ho, ho.mono (by simp)⟩)
  obtain ⟨A0, n0, c0, hjb, hjl⟩ := hj
  have hqf := hd.far hjb (by decide) (by decide)
  have cq0 := hjb.cell 0
  have cq1 := hjb.cell 1
  have cq3 := hjb.cell 3
  rw [ho] at cq3 hjb
  have hlig : ∀ b ∈ ts.map (·.l), b.length ≤ 1048576 := hk.light
  have HTK := Lib.hid (rtakes_any A n c w.heap.size (ts.map (·.l)) w.drew ((hk.only (T' := q :: p :: sb :: wb :: X) ((Only.refl [] w).drew) (by simp) (fun k hk => .inl hk)).gs hl hr.drew) (by omega))
  have HRO := Lib.hid (rroom_any hd.drew (by omega))
  have hroom : js.half.room = roomD d := by rw [hh]; rfl
  have hr0 : 0 ≤ roomD d ∧ roomD d ≤ 40000 ∧ 3 ≤ roomD d := by have := hd.n0; unfold roomD; omega
  have hlenm : (ts.map (·.l)).length = n := by rw [List.length_map, hl]
  have hul := takesL_le (ts.map (·.l)).length (ts.map (·.l)) hlig (Nat.le_refl _)
  rw [List.take_of_length_le (Nat.le_refl _), hlenm] at hul
  have HD := Lib.hid hd
  have HJB := Lib.hid hjb
  have HJL := Lib.hid hjl
  have HQF := Lib.hid hqf
  have HN8 := Lib.hid h8
  have HHF := Lib.hid hh
  have HRD := Lib.hid hr
  have HHE := Lib.hid hk
  have H2K := Lib.hid h2k
  have HTL := Lib.hid hl
  have HFAR := Lib.hid hfar
  have HOFF := Lib.hid ho
  have HUL : Hid (takesL (ts.map (·.l)) ≤ 20000 * (n : Int)) := Lib.hid hul.2
  obtain ⟨U, hU⟩ : ∃ U, takesL (ts.map (·.l)) = U := ⟨_, rfl⟩
  rw [hU] at HTK hul hlt
  obtain ⟨room, hrm⟩ : ∃ r, roomD d = r := ⟨_, rfl⟩
  rw [hrm] at HRO hroom hr0
  obtain ⟨full, hfull⟩ : ∃ b, decide (room < U) = b := ⟨_, rfl⟩
  rw [hroom] at hlt
  have hft : full = true := by rw [← hfull]; exact decide_eq_true hlt
  clear hd hjb hjl hqf h8 hh hlt hr2 hre hno hlig hlig0 hroom hU hrm ho hfar hl hr hk h2k hlenm cq1
  go_enter Tryz.func27, Tryz.ntmps27
  go_wp2_with fail
  go_loopw [5] (fun i wr => ∃ k : Nat, k ≤ n ∧ i = .int .i64 k ∧ wr = w) (fun i _ => n - (Go.RowKit.intOf i).toNat)
  case atStart => exact ⟨0, by omega, rfl, rfl⟩
  case round =>
    obtain ⟨k, hkn, rfl, hwr⟩ := hrel
    have hwr := hwr.symm
    subst hwr
    by_cases hlt : k < n
    · have e1 : decide ((k : Int) < (n : Int)) = true := decide_eq_true (by omega)
      have e1' : decide (k < n) = true := decide_eq_true hlt
      obtain ⟨b, off, hA, hbb, s, hs, hsk, hcc⟩ := Reads.sl HRD.out k hlt
      subst hA
      have h2 := H2K.out s hs
      have e2 : decide ((1048576 : Int) < (s.n : Int)) = false := decide_eq_false (by omega)
      have e2' : decide (1048576 < s.n) = false := decide_eq_false (by omega)
      clear hs hsk hbb
      go_wp2_with fail
      go_roundw
      case measure => simp [Go.RowKit.intOf]; omega
      case rel => exact ⟨k + 1, by omega, by go_num, by first | rfl | trivial⟩
    · obtain rfl : k = n := by omega
      have e1 : decide ((k : Int) < (k : Int)) = false := decide_eq_false (by omega)
      have e1' : decide (k < k) = false := decide_eq_false (by omega)
      go_wp2_with fail
      have hS : w.drew.cell? ⟨q, 0, none⟩ = some (.pointer (some ⟨p, 0, none⟩)) := cq0
      refine wp_region_hand (S := fun Y => Y.cell? ⟨q, 0, none⟩ = some (.pointer (some ⟨p, 0, none⟩))) (by kernel_rfl) ?_
      refine takeV 0 (.slice A k c) rfl rfl (by kernel_rfl) (fun Y hY => by have y0 := hY; go_simp) hS ?_; simp only [s0A, s0B, s0C]
      refine takeV 2 (.pointer (some ⟨q, 0, none⟩)) rfl rfl (by kernel_rfl) (fun Y hY => by have y0 := hY; go_simp) hS ?_; simp only [s0A, s0B, s0C]
      refine takeV 3 (.pointer (some ⟨q, 0, none⟩)) rfl rfl (by kernel_rfl) (fun Y hY => by have y0 := hY; go_simp) hS ?_; simp only [s0A, s0B, s0C]
      refine takeV 4 (.pointer (some ⟨q, 0, none⟩)) rfl rfl (by kernel_rfl) (fun Y hY => by have y0 := hY; go_simp) hS ?_; simp only [s0A, s0B, s0C]
      refine takeV 5 (.pointer (some ⟨p, 0, none⟩)) rfl rfl (by kernel_rfl) (fun Y hY => by have y0 := hY; go_simp) hS ?_; simp only [s0A, s0B, s0C]
      refine callW (i := 1) rfl (by kernel_rfl) rfl (by rfl) ?_ (HTK.out) ?_
      · go_simp
      rintro x w2 ⟨rfl, hw2⟩
      have hw2 := hw2.symm
      subst hw2
      refine ⟨_, rfl, hS, ?_⟩
      simp only [s0A, s0B, s0C]
      refine callW (i := 6) rfl (by kernel_rfl) rfl (by rfl) ?_ (HRO.out) ?_
      · go_simp
      rintro x w2 ⟨rfl, hw2⟩
      have hw2 := hw2.symm
      subst hw2
      refine ⟨_, rfl, hS, ?_⟩
      simp only [s0A, s0B, s0C]
      refine takeV 7 (.bool full) rfl rfl (by kernel_rfl) (fun Y hY => by have y0 := hY; go_simp) hS ?_; simp only [s0A, s0B, s0C]
      refine wpAnyH_done (by kernel_rfl) ?_ _
      clear hS
      subst hft
      go_wp2_with fail
      go_ret
      exact HFF.out _ (Only.refl [] w).drew
end
end Go.Proofs.YthgfmoogagldmaaGreat.RefD
