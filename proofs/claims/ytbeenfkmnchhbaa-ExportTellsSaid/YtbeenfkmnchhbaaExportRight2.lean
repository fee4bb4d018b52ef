/- What a list of functions may be: export.Right, whole. -/
import Derived.Test.YtbeenfkmnchhbaaExportRight
namespace Go.Proofs.Ytbeenfkmnchhbaa.Export
open Go.RowKit
set_option linter.unusedVariables false
set_option maxRecDepth 100000
/-- a list of functions, as it lies -/
structure Sgs (w : World) (A : Option Addr) (m : Nat) (ss : List Sg) : Prop where
  len : ss.length = m
  recs : Recs w w.heap.size 3 A m (ss.map Sg.row)
  each : ∀ s ∈ ss, Bytes w w.heap.size s.A s.n s.ps ∧ s.n ≤ s.c ∧ s.c ≤ maxLen
theorem recs_at {w : World} {B m : Nat} {A : Option Addr} {ss : List Sg} (hr : Recs w B 3 A m (ss.map Sg.row)) (k : Nat) (hk : k < m) : ∃ b off, A = some ⟨b, off, none⟩ ∧ b < B ∧ ∃ s ∈ ss, ss[k]? = some s ∧
    w.cell? ⟨b, off + k * 3, none⟩ = some (.string s.name) ∧ w.cell? ⟨b, off + k * 3 + 1, none⟩ = some (.slice s.A s.n s.c) ∧ w.cell? ⟨b, off + k * 3 + 2, none⟩ = some (.int .u8 (s.res.toNat : Int)) := by
  have hl : ss.length = m := by simpa using hr.1
  obtain ⟨b, off, e, hb, hc⟩ := hr.at_ ⟨ByteArray.empty, none, 0, 0, [], 0⟩ hk
  have hg : ss.getD k ⟨ByteArray.empty, none, 0, 0, [], 0⟩ = ss[k] := by rw [List.getD_eq_getElem?_getD, List.getElem?_eq_getElem (by omega)]; rfl
  refine ⟨b, off, e, hb, ss[k], List.getElem_mem (by omega), List.getElem?_eq_getElem (by omega), ?_⟩
  rw [hg] at hc
  exact ⟨hc 0 (by omega), hc 1 (by omega), hc 2 (by omega)⟩
theorem Sgs.only {w w' : World} {A : Option Addr} {m : Nat} {ss : List Sg} (h : Sgs w A m ss) (ho : Only [] w w') : Sgs w' A m ss :=
  ⟨h.len, (h.recs.only ho (by simp)).more ho.size, fun s hs => ⟨((h.each s hs).1.only ho (by simp)).more ho.size, (h.each s hs).2⟩⟩
set_option maxHeartbeats 1000000 in
theorem closure_any (s : Sg) (g : Nat) (ahead : ByteArray) (w : World) (hr : Bytes w w.heap.size s.A s.n s.ps) (hn : s.n ≤ 1048576) (hg : Blk w g 9 #[.string ahead]) :
    Calls Try.prog 76 #[.agg #[.string s.name, .slice s.A s.n s.c, .int .u8 (s.res.toNat : Int)], .pointer (some ⟨g, 0, none⟩)] w fun x w' =>
      x = .returned (.bool (!sgOk ahead.toList s)) ∧ Only [g] w w' ∧ Blk w' g 9 #[.string s.name] := by
  have hb := Blk.new w 96 #[.string s.name, .slice s.A s.n s.c, .int .u8 (s.res.toNat : Int)]
  have ho1 : Only [] w (w.alloc (.cells #[.string s.name, .slice s.A s.n s.c, .int .u8 (s.res.toNat : Int)] 96)) := (Only.refl _ _).alloc _
  have hR := fun w' (ho : Only [] w w') => right1_any s ahead w' ((hr.only ho (by simp)).more ho.size) hn
  have hlt := hg.lt
  generalize sgOk ahead.toList s = bb at *
  obtain ⟨name, A, n, c, ps, res⟩ := s
  simp only at hb ho1 hR ⊢
  generalize (res.toNat : Int) = rz at *
  have hg1 := hg.only ho1 (by simp)
  have i0 : (w.alloc (.cells #[.string name, .slice A n c, .int .u8 rz] 96)).cell? ⟨w.heap.size, 0, none⟩ = some (.string name) := hb.cell 0
  have i1 : (w.alloc (.cells #[.string name, .slice A n c, .int .u8 rz] 96)).cell? ⟨w.heap.size, 1, none⟩ = some (.slice A n c) := hb.cell 1
  have i2 : (w.alloc (.cells #[.string name, .slice A n c, .int .u8 rz] 96)).cell? ⟨w.heap.size, 2, none⟩ = some (.int .u8 rz) := hb.cell 2
  have i3 : (w.alloc (.cells #[.string name, .slice A n c, .int .u8 rz] 96)).cell? ⟨g, 0, none⟩ = some (.string ahead) := hg1.cell 0
  have HR := Lib.hid hR
  have HO := Lib.hid ho1
  have HB := Lib.hid hb
  have HG := Lib.hid hg1
  clear hR hr hb ho1 hg hg1
  go_enter Try.func76, Try.ntmps76
  go_wp2_with (go_at_call 77; refine (HR.out _ HO.out).mono ?_; rintro x w2 ⟨rfl, ho2⟩; have HO2 := Lib.hid (HO.out.trans ho2 (by simp)); have hb2 := HB.out.only ho2 (by simp); have hg2 := HG.out.only ho2 (by simp); have c0 : w2.cell? ⟨w.heap.size, 0, none⟩ = some (.string name) := hb2.cell 0; have c1 : w2.cell? ⟨g, 0, none⟩ = some (.string ahead) := hg2.cell 0; have c2 : w2.frozen? ⟨g, 0, none⟩ = false := hg2.frozen 0; clear hb2)
  go_ret
  exact ⟨rfl, (HO2.out.mono (fun g hg => by cases hg)).setCell (p := ⟨g, 0, none⟩) (.inl (by simp)) _, hg2.set_ 0 _⟩
theorem chk_step (ss : List Sg) (k : Nat) (s : Sg) (h : ss[k]? = some s) (a : List UInt8) : chk a (ss.drop k) = (sgOk a s && chk s.name.toList (ss.drop (k + 1))) := by
  obtain ⟨hk, rfl⟩ := List.getElem?_eq_some_iff.1 h
  rw [List.drop_eq_getElem_cons hk]
  rfl
set_option maxHeartbeats 2000000 in
theorem index_sig (A : Option Addr) (m c g : Nat) (ss : List Sg) (w : World) (hs : Sgs w A m ss) (hm : m ≤ 1000000) (hg : Blk w g 9 #[.string ByteArray.empty]) (hn : ∀ s ∈ ss, s.n ≤ 1048576) :
    Calls Try.prog 123 #[.slice A m c, .func (.func 76) #[] #[.pointer (some ⟨g, 0, none⟩)]] w fun x w' =>
      ∃ z : Int, x = .returned (.int .i64 z) ∧ (z < 0 ↔ chk [] ss = true) ∧ Only [g] w w' := by
  have HS := Lib.hid hs
  have HN := Lib.hid hn
  have hB := hg
  have HG0 := Lib.hid hg
  clear hs hn hg hB
  obtain ⟨bb, hbb⟩ : ∃ b, chk [] ss = b := ⟨_, rfl⟩
  rw [hbb]
  have HBB := Lib.hid hbb
  clear hbb
  go_enter Try.func123, Try.ntmps123
  go_wp2_with fail
  go_loopw [8] (fun i wr => ∃ (k : Nat) (cur : ByteArray), k ≤ m ∧ i = .int .i64 k ∧ Blk wr g 9 #[.string cur] ∧ Only [g] w wr ∧ chk cur.toList (ss.drop k) = bb) (fun i _ => m - (intOf i).toNat)
  case atStart => exact ⟨0, ByteArray.empty, by omega, rfl, HG0.out, Only.refl _ _, by rw [← HBB.out, Lib.toList_data]; rfl⟩
  case round =>
    obtain ⟨k, cur, hk, rfl, hcur, ho, hch⟩ := hrel
    have HCH := Lib.hid hch
    have HCUR := Lib.hid hcur
    have HO := Lib.hid ho
    clear hch hcur ho
    by_cases hlt : k < m
    · have e1 : decide ((k : Int) < (m : Int)) = true := decide_eq_true (by omega)
      have hgl : g < w.heap.size := HG0.out.lt
      obtain ⟨b, off, rfl, hb, s, hmem, hsk, c0, c1, c2⟩ := recs_at HS.out.recs k hlt
      have hne : b ≠ g := by
        rintro rfl
        have := HG0.out.cell (off + k * 3 + 1)
        rw [c1] at this
        cases hq : (off + k * 3 + 1) with
        | zero => omega
        | succ q => rw [hq] at this; simp at this
      have x0 := HO.out.cell c0 (by simp [hne])
      have x1 := HO.out.cell c1 (by simp [hne])
      have x2 := HO.out.cell c2 (by simp [hne])
      have hbs : Bytes wr wr.heap.size s.A s.n s.ps := by
        refine ((HS.out.each s hmem).1.only_pos HO.out (fun hp gg hgg => ?_)).more HO.out.size
        have hz := (HS.out.each s hmem).1.ne_blk hp HG0.out (fun i z h => by
          cases i with
          | zero => simp at h
          | succ i => simp at h)
        simpa using hz gg hgg
      have hC := closure_any s g cur wr hbs (HN.out s hmem) HCUR.out
      have hst := chk_step ss k s hsk cur.toList
      rw [HCH.out] at hst
      have HST := Lib.hid hst
      clear hst c0 c1 c2 hsk hmem hbs
      generalize sgOk cur.toList s = ok at *
      obtain ⟨name, sA, sn, sc, ps, res⟩ := s
      simp only at x0 x1 x2 hC HST
      generalize (res.toNat : Int) = rz at *
      have HC := Lib.hid hC
      clear hC
      cases ok
      · go_wp2_with (go_at_call 76; refine HC.out.mono ?_; rintro x w2 ⟨rfl, ho2, _⟩)
        go_ret
        refine ⟨_, rfl, ?_, HO.out.trans ho2 (by simp)⟩
        rw [HST.out]
        simp
      · go_wp2_with (go_at_call 76; refine HC.out.mono ?_; rintro x w2 ⟨rfl, ho2, hb2⟩; have HO2 := Lib.hid (HO.out.trans ho2 (by simp)))
        go_roundw
        case rel => exact ⟨k + 1, name, by omega, by go_num, hb2, HO2.out, by rw [HST.out]; simp⟩
        case measure => simp [intOf]; omega
    · obtain rfl : k = m := by omega
      have e1 : decide ((k : Int) < (k : Int)) = false := decide_eq_false (by omega)
      obtain rfl : bb = true := by
        rw [← HCH.out, List.drop_eq_nil_of_le (by rw [HS.out.len]; exact Nat.le_refl _)]
        rfl
      go_wp2_with fail
      go_ret
      exact ⟨_, rfl, by simp, HO.out⟩
theorem contains_sig (A : Option Addr) (m c g : Nat) (ss : List Sg) (w : World) (b : Bool) (hb : chk [] ss = b) (hs : Sgs w A m ss) (hm : m ≤ 1000000) (hg : Blk w g 9 #[.string ByteArray.empty]) (hn : ∀ s ∈ ss, s.n ≤ 1048576) :
    Calls Try.prog 75 #[.slice A m c, .func (.func 76) #[] #[.pointer (some ⟨g, 0, none⟩)]] w fun x w' => x = .returned (.bool (!b)) ∧ Only [g] w w' := by
  have hi := index_sig A m c g ss w hs hm hg hn
  go_enter Try.func75, Try.ntmps75
  go_wp2_with fail
  refine hi.mono ?_
  rintro _ wx ⟨z, rfl, hz, ho⟩
  have hd : decide ((0 : Int) ≤ z) = !b := by
    rw [← hb]
    cases hq : chk [] ss
    · rw [hq] at hz; simp at hz; exact decide_eq_true hz
    · rw [hq] at hz; simp at hz; exact decide_eq_false (by omega)
  clear hz hb hi hs hg hn
  go_wp2_with fail
  go_ret
  exact ⟨by rw [← hd]; rfl, ho⟩
def rightL (ss : List Sg) : Bool := decide (ss.length ≤ 32) && chk [] ss
theorem right_any (A : Option Addr) (m c : Nat) (ss : List Sg) (w : World) (hs : Sgs w A m ss) (hm : m ≤ 1000000) (hn : ∀ s ∈ ss, s.n ≤ 1048576) :
    Calls Try.prog 32 #[.slice A m c] w fun x w' => x = .returned (.bool (rightL ss)) ∧ Only [] w w' := by
  have hb := Blk.new w 9 #[.string ByteArray.empty]
  have ho1 : Only [] w (w.alloc (.cells #[.string ByteArray.empty] 9)) := (Only.refl _ _).alloc _
  have hC := contains_sig A m c w.heap.size ss _ _ rfl (hs.only ho1) hm hb hn
  have hr : rightL ss = (decide ((m : Int) ≤ 32) && chk [] ss) := by
    unfold rightL
    rw [hs.len]
    congr 1
    exact decide_eq_decide.2 (by omega)
  rw [hr]
  generalize chk [] ss = b at *
  have HC : Hid (Calls Try.prog 75 #[.slice A m c, .func (.func 76) #[] #[.pointer (some ⟨w.heap.size, 0, none⟩)]] (w.alloc (.cells #[.string ⟨#[]⟩] 9)) fun x w' => x = .returned (.bool (!b)) ∧ Only [w.heap.size] (w.alloc (.cells #[.string ⟨#[]⟩] 9)) w') := hC
  have HO := Lib.hid ho1
  clear hC hb ho1 hr hs hn
  by_cases h32 : m ≤ 32
  · have d1 : decide ((m : Int) ≤ 32) = true := decide_eq_true (by omega)
    rw [d1]
    go_enter Try.func32, Try.ntmps32
    go_wp2_with (go_at_call 75; refine HC.out.mono ?_; rintro x w2 ⟨rfl, ho2⟩)
    go_ret
    exact ⟨by cases b <;> rfl, HO.out.trans ho2 (by simp)⟩
  · have d1 : decide ((m : Int) ≤ 32) = false := decide_eq_false (by omega)
    rw [d1]
    go_enter Try.func32, Try.ntmps32
    go_wp2_with fail
    go_ret
    exact ⟨rfl, HO.out⟩
end Go.Proofs.Ytbeenfkmnchhbaa.Export
