/- What a list of functions may be: export.Right. -/
import Derived.Test.YtbeenfkmnchhbaaExportName3
import Derived.Test.YtbeenfkmnchhbaaRecs
namespace Go.Proofs.Ytbeenfkmnchhbaa.Export
open Go.RowKit
set_option linter.unusedVariables false
set_option maxRecDepth 100000
/-- what a function is asked with, and tells -/
structure Sg where
  name : ByteArray
  A : Option Addr
  n : Nat
  c : Nat
  ps : List UInt8
  res : UInt8
def Sg.row (s : Sg) : List Value := [.string s.name, .slice s.A s.n s.c, .int .u8 (s.res.toNat : Int)]
def okT (l : List UInt8) : Prop := ∀ c ∈ l, c = 1 ∨ c = 2
instance (l : List UInt8) : Decidable (okT l) := by unfold okT; infer_instance
def sgOk (ahead : List UInt8) (s : Sg) : Bool := nameOk s.name && Op.bytesLess ahead s.name.toList && decide (s.n ≤ 4) && decide (okT s.ps) && decide (s.res.toNat ≤ 2)
def chk (ahead : List UInt8) : List Sg → Bool
  | [] => true
  | s :: r => sgOk ahead s && chk s.name.toList r
theorem less_swap : ∀ (x y : List UInt8), (!(Op.bytesLess x y || x == y)) = Op.bytesLess y x
  | [], [] => rfl
  | [], _ :: _ => rfl
  | _ :: _, [] => rfl
  | a :: x, b :: y => by
    have ih := less_swap x y
    unfold Op.bytesLess
    rw [← ih]
    rcases Nat.lt_trichotomy a.toNat b.toNat with h | h | h
    · have h1 : a < b := h
      have h2 : ¬ b < a := fun h' => by have : b.toNat < a.toNat := h'; omega
      have h3 : ¬ b = a := fun h' => by rw [h'] at h; omega
      simp [h1, h2, h3]
    · obtain rfl : a = b := UInt8.toNat_inj.1 h
      have h2 : ¬ a < a := fun h' => by have : a.toNat < a.toNat := h'; omega
      simp [h2]
    · have h1 : b < a := h
      have h2 : ¬ a < b := fun h' => by have : a.toNat < b.toNat := h'; omega
      have h3 : ¬ a = b := fun h' => by rw [h'] at h; omega
      simp [h1, h2, h3]
theorem typ_is (u : UInt8) (w : World) (b : Bool) (hb : decide (¬ (u = 1 ∨ u = 2)) = b) : Calls Try.prog 124 #[.int .u8 (u.toNat : Int)] w fun x w' => x = .returned (.bool b) ∧ w = w' := by
  by_cases h1 : u = 1
  · subst h1
    subst hb
    go_enter Try.func124, Try.ntmps124
    go_wp2_with fail
    go_ret
    exact ⟨rfl, rfl⟩
  · by_cases h2 : u = 2
    · subst h2
      subst hb
      go_enter Try.func124, Try.ntmps124
      go_wp2_with fail
      go_ret
      exact ⟨rfl, rfl⟩
    · obtain rfl : b = true := by rw [← hb]; exact decide_eq_true (by simp [h1, h2])
      have e1 : decide ((u.toNat : Int) = 1) = false := decide_eq_false (fun h => h1 (UInt8.toNat_inj.1 (by show u.toNat = 1; omega)))
      have e2 : decide ((u.toNat : Int) = 2) = false := decide_eq_false (fun h => h2 (UInt8.toNat_inj.1 (by show u.toNat = 2; omega)))
      clear hb h1 h2
      generalize (u.toNat : Int) = z at *
      go_enter Try.func124, Try.ntmps124
      go_wp2_with fail
      all_goals
        go_ret
        exact ⟨by simp_all, rfl⟩
theorem index_typ (A : Option Addr) (m c B : Nat) (l : List UInt8) (w : World) (hr : Bytes w B A m l) (hm2 : m ≤ 1048576) :
    Calls Try.prog 144 #[.slice A m c, .func (.func 124) #[] #[]] w fun x w' => ∃ z : Int, x = .returned (.int .i64 z) ∧ (0 ≤ z ↔ ¬ okT l) ∧ w = w' := by
  have HM := Lib.hid hr.len
  go_enter Try.func144, Try.ntmps144
  go_wp2_with fail
  go_loop [8] (fun i => ∃ k : Nat, k ≤ m ∧ i = .int .i64 k ∧ okT (l.take k)) (fun i => m - (intOf i).toNat)
  case atStart => exact ⟨0, by omega, rfl, by unfold okT; simp⟩
  case round =>
    obtain ⟨k, hk, rfl, hz⟩ := hrel
    by_cases hlt : k < m
    · have hkz : k < l.length := by rw [HM.out]; exact hlt
      obtain ⟨b, off, rfl, hbB, hc⟩ := hr.at_ hlt
      have hg : l.getD k 0 = l[k] := by rw [List.getD_eq_getElem?_getD, List.getElem?_eq_getElem hkz]; rfl
      have hst : (l.getD k 0 = 1 ∨ l.getD k 0 = 2) → okT (l.take (k + 1)) := fun h c hc => by
        rw [List.take_succ_eq_append_getElem hkz] at hc
        rcases List.mem_append.1 hc with hc | hc
        · exact hz c hc
        · rw [List.mem_singleton.1 hc, ← hg]; exact h
      have hno : ¬ (l.getD k 0 = 1 ∨ l.getD k 0 = 2) → ¬ okT l := fun h h' => h (by rw [hg]; exact h' _ (List.getElem_mem hkz))
      clear hg
      by_cases hx : l.getD k 0 = 1 ∨ l.getD k 0 = 2
      · have ho := typ_is (l.getD k 0) w false (decide_eq_false (fun h => h hx))
        have HO := Lib.hid ho
        have HST := Lib.hid (hst hx)
        clear ho hx hst hno hz
        generalize ((l.getD k 0).toNat : Int) = u at *
        go_wp2_with (go_at_call 124; refine HO.out.mono ?_; rintro _ wx ⟨rfl, rfl⟩)
        go_round
        case rel => exact ⟨k + 1, by omega, by go_num, HST.out⟩
        case measure => simp [intOf]; omega
      · have ho := typ_is (l.getD k 0) w true (decide_eq_true hx)
        have HO := Lib.hid ho
        have HNO := Lib.hid (hno hx)
        clear ho hx hst hno hz
        generalize ((l.getD k 0).toNat : Int) = u at *
        go_wp2_with (go_at_call 124; refine HO.out.mono ?_; rintro _ wx ⟨rfl, rfl⟩)
        go_ret
        exact ⟨_, rfl, ⟨fun _ => HNO.out, fun _ => by omega⟩, rfl⟩
    · obtain rfl : k = m := by omega
      rw [List.take_of_length_le (by rw [HM.out]; exact Nat.le_refl _)] at hz
      have HZ := Lib.hid hz
      clear hz
      go_wp2_with fail
      go_ret
      exact ⟨_, rfl, ⟨fun h => by omega, fun h => absurd HZ.out h⟩, rfl⟩
theorem contains_typ (A : Option Addr) (m c B : Nat) (l : List UInt8) (w : World) (b : Bool) (hb : decide (okT l) = b) (hr : Bytes w B A m l) (hm2 : m ≤ 1048576) :
    Calls Try.prog 126 #[.slice A m c, .func (.func 124) #[] #[]] w fun x w' => x = .returned (.bool (!b)) ∧ w = w' := by
  have hi := index_typ A m c B l w hr hm2
  go_enter Try.func126, Try.ntmps126
  go_wp2_with fail
  refine hi.mono ?_
  rintro _ wx ⟨z, rfl, hz, rfl⟩
  have hd : decide ((0 : Int) ≤ z) = !b := by rw [← hb, ← decide_not]; exact decide_eq_decide.2 hz
  clear hz hb hi
  go_wp2_with fail
  go_ret
  exact ⟨by rw [← hd]; rfl, rfl⟩
set_option maxHeartbeats 2000000 in
theorem right1_any (s : Sg) (ahead : ByteArray) (w : World) (hr : Bytes w w.heap.size s.A s.n s.ps) (hn : s.n ≤ 1048576) :
    Calls Try.prog 77 #[.agg #[.string s.name, .slice s.A s.n s.c, .int .u8 (s.res.toNat : Int)], .string ahead] w fun x w' => x = .returned (.bool (sgOk ahead.toList s)) ∧ Only [] w w' := by
  obtain ⟨name, A, n, c, ps, res⟩ := s
  unfold sgOk
  simp only at hr hn ⊢
  have hN := fun w => name_is name w
  have ha := less_swap name.toList ahead.toList
  have hC := fun w' (ho : Only [] w w') => contains_typ A n c w.heap.size ps w' _ rfl (hr.only ho (by simp)) hn
  have hb := Blk.new w 96 #[.string name, .slice A n c, .int .u8 (res.toNat : Int)]
  have ho1 : Only [] w (w.alloc (.cells #[.string name, .slice A n c, .int .u8 (res.toNat : Int)] 96)) := (Only.refl _ _).alloc _
  have hres : (decide ((res.toNat : Int) ≤ 2)) = decide (res.toNat ≤ 2) := decide_eq_decide.2 (by omega)
  have hn4 : (decide ((n : Int) ≤ 4)) = decide (n ≤ 4) := decide_eq_decide.2 (by omega)
  generalize nameOk name = b1 at *
  generalize decide (okT ps) = b4 at *
  generalize decide (res.toNat ≤ 2) = b5 at *
  generalize decide (n ≤ 4) = b3 at *
  generalize (res.toNat : Int) = rz at *
  have HC := Lib.hid hC
  have HN := Lib.hid hN
  have HB := Lib.hid hb
  have HO := Lib.hid ho1
  have i0 : (w.alloc (.cells #[.string name, .slice A n c, .int .u8 rz] 96)).cell? ⟨w.heap.size, 0, none⟩ = some (.string name) := hb.cell 0
  obtain ⟨b2, hb2⟩ : ∃ b, Op.bytesLess ahead.toList name.toList = b := ⟨_, rfl⟩
  rw [hb2] at ha ⊢
  have hgt : (Op.bytesLess name.toList ahead.toList || name.toList == ahead.toList) = !b2 := by rw [← ha, Bool.not_not]
  clear hC hN hr hb ho1 ha hb2
  have HGT := Lib.hid hgt
  clear hgt
  cases b1 <;> cases b2 <;> cases b3 <;> cases b4
  all_goals
    go_enter Try.func77, Try.ntmps77
    go_wp2_with (first
      | (go_at_call 125; refine (HN.out _).mono ?_; rintro x w2 ⟨rfl, ho2⟩; have HO2 := Lib.hid (HO.out.trans ho2 (by simp)); have hb2 := HB.out.only ho2 (by simp); have c0 : w2.cell? ⟨w.heap.size, 0, none⟩ = some (.string name) := hb2.cell 0; have c1 : w2.cell? ⟨w.heap.size, 1, none⟩ = some (.slice A n c) := hb2.cell 1; have c2 : w2.cell? ⟨w.heap.size, 2, none⟩ = some (.int .u8 rz) := hb2.cell 2; clear hb2)
      | (go_at_call 126; refine (HC.out w2 HO2.out).mono ?_; rintro x w3 ⟨rfl, rfl⟩))
  all_goals
    go_ret
    exact ⟨by first | rfl | (have hq := HGT.out; simp_all; done) | (have hq := HGT.out; simp at hq; simp_all), HO2.out⟩
end Go.Proofs.Ytbeenfkmnchhbaa.Export
