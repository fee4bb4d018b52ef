/- slices.ContainsFunc over entries and over code. -/
import Derived.Test.YtbeenfkmnchhbaaObjOdd
namespace Go.Proofs.Ytbeenfkmnchhbaa.Object
open Go.RowKit
set_option linter.unusedVariables false
set_option maxRecDepth 100000
set_option maxHeartbeats 1000000 in
theorem index_en (A : Option Addr) (m cp : Nat) (g : Nat) (cs : List En) (w : World) (hr : Recs w w.heap.size 2 A m (cs.map En.row)) (hm : m ≤ 9000000000000000000) (z : Int) (hg : w.cell? ⟨g, 0, none⟩ = some (.int .i64 z)) (hgl : g < w.heap.size) :
    Calls Try.prog 133 #[.slice A m cp, .func (.func 89) #[] #[.pointer (some ⟨g, 0, none⟩)]] w fun x w' => ∃ i : Int, x = .returned (.int .i64 i) ∧ decide (0 ≤ i) = (!cs.all (entOk z)) ∧ Only [] w w' := by
  have hl : cs.length = m := by have := hr.1; simpa using this
  have HR := Lib.hid hr
  have HL := Lib.hid hl
  clear hr hl
  go_enter Try.func133, Try.ntmps133
  go_wp2_with fail
  go_loopw [8] (fun i wr => ∃ k : Nat, k ≤ m ∧ i = .int .i64 k ∧ Only [] w wr ∧ (cs.take k).all (entOk z) = true) (fun i _ => m - (intOf i).toNat)
  case atStart => exact ⟨0, by omega, rfl, Only.refl _ _, by simp⟩
  case round =>
    obtain ⟨k, hk, rfl, ho, hall⟩ := hrel
    have HO := Lib.hid ho
    have HALL := Lib.hid hall
    clear ho hall
    by_cases hlt : k < m
    · have e1 : decide ((k : Int) < (m : Int)) = true := decide_eq_true (by omega)
      obtain ⟨b, off, rfl, hb, c, hmem, hck, c0, c1⟩ := en_at HR.out k hlt
      have x0 := HO.out.cell c0 (by simp)
      have x1 := HO.out.cell c1 (by simp)
      have hlt2 := Nat.lt_of_lt_of_le hgl HO.out.size
      have hC := odd_is c z g wr (HO.out.cell hg (by simp)) hlt2
      clear c0 c1
      have HSN := Lib.hid (all_snoc (entOk z) cs k c hck)
      have HNO := Lib.hid (all_no (entOk z) cs c hmem)
      clear hmem hck
      generalize (entOk z) c = ok at *
      have HC := Lib.hid hC
      clear hC
      cases ok
      · have HF := Lib.hid (HNO.out rfl)
        go_wp2_with (go_at_call 89; refine HC.out.mono ?_; rintro x w2 ⟨rfl, ho2⟩)
        go_ret
        exact ⟨_, rfl, by rw [HF.out]; exact decide_eq_true (by omega), HO.out.trans ho2 (by simp)⟩
      · have HF := Lib.hid (HSN.out.trans (by rw [HALL.out, Bool.and_self]))
        go_wp2_with (go_at_call 89; refine HC.out.mono ?_; rintro x w2 ⟨rfl, ho2⟩)
        go_roundw
        case rel => exact ⟨k + 1, by omega, by go_num, HO.out.trans ho2 (by simp), HF.out⟩
        case measure => simp [intOf]; omega
    · obtain rfl : k = m := by omega
      have e1 : decide ((k : Int) < (k : Int)) = false := decide_eq_false (by omega)
      rw [take_all _ _ HL.out] at HALL
      go_wp2_with fail
      go_ret
      exact ⟨_, rfl, by rw [HALL.out]; rfl, HO.out⟩
theorem contains_en (A : Option Addr) (m cp : Nat) (g : Nat) (cs : List En) (w : World) (hr : Recs w w.heap.size 2 A m (cs.map En.row)) (hm : m ≤ 9000000000000000000) (z : Int) (hg : w.cell? ⟨g, 0, none⟩ = some (.int .i64 z)) (hgl : g < w.heap.size) :
    Calls Try.prog 92 #[.slice A m cp, .func (.func 89) #[] #[.pointer (some ⟨g, 0, none⟩)]] w fun x w' => x = .returned (.bool (!cs.all (entOk z))) ∧ Only [] w w' := by
  have HI := Lib.hid (index_en A m cp g cs w hr hm z hg hgl)
  clear hr hm hg hgl
  go_enter Try.func92, Try.ntmps92
  go_wp2_with fail
  refine HI.out.mono ?_
  rintro _ wx ⟨i, rfl, hi, ho⟩
  have HD := Lib.hid hi
  clear hi HI
  go_wp2_with fail
  go_ret
  exact ⟨by rw [← HD.out]; rfl, ho⟩
set_option maxHeartbeats 1000000 in
theorem index_cd (A : Option Addr) (m cp : Nat) (cs : List Cd) (w : World) (hr : Recs w w.heap.size 5 A m (cs.map Cd.row)) (hm : m ≤ 9000000000000000000) :
    Calls Try.prog 134 #[.slice A m cp, .func (.func 91) #[] #[]] w fun x w' => ∃ i : Int, x = .returned (.int .i64 i) ∧ decide (0 ≤ i) = (!cs.all (cleanB)) ∧ Only [] w w' := by
  have hl : cs.length = m := by have := hr.1; simpa using this
  have HR := Lib.hid hr
  have HL := Lib.hid hl
  clear hr hl
  go_enter Try.func134, Try.ntmps134
  go_wp2_with fail
  go_loopw [8] (fun i wr => ∃ k : Nat, k ≤ m ∧ i = .int .i64 k ∧ Only [] w wr ∧ (cs.take k).all (cleanB) = true) (fun i _ => m - (intOf i).toNat)
  case atStart => exact ⟨0, by omega, rfl, Only.refl _ _, by simp⟩
  case round =>
    obtain ⟨k, hk, rfl, ho, hall⟩ := hrel
    have HO := Lib.hid ho
    have HALL := Lib.hid hall
    clear ho hall
    by_cases hlt : k < m
    · have e1 : decide ((k : Int) < (m : Int)) = true := decide_eq_true (by omega)
      obtain ⟨b, off, rfl, hb, c, hmem, hck, c0, c1, c2, c3, c4⟩ := cd_at HR.out k hlt
      have x0 := HO.out.cell c0 (by simp)
      have x1 := HO.out.cell c1 (by simp)
      have x2 := HO.out.cell c2 (by simp)
      have x3 := HO.out.cell c3 (by simp)
      have x4 := HO.out.cell c4 (by simp)
      have hC := dirty_is c wr
      unfold Cd.val at hC
      clear c0 c1 c2 c3 c4
      have HSN := Lib.hid (all_snoc (cleanB) cs k c hck)
      have HNO := Lib.hid (all_no (cleanB) cs c hmem)
      clear hmem hck
      generalize (cleanB) c = ok at *
      have HC := Lib.hid hC
      clear hC
      cases ok
      · have HF := Lib.hid (HNO.out rfl)
        go_wp2_with (go_at_call 91; refine HC.out.mono ?_; rintro x w2 ⟨rfl, ho2⟩)
        go_ret
        exact ⟨_, rfl, by rw [HF.out]; exact decide_eq_true (by omega), HO.out.trans ho2 (by simp)⟩
      · have HF := Lib.hid (HSN.out.trans (by rw [HALL.out, Bool.and_self]))
        go_wp2_with (go_at_call 91; refine HC.out.mono ?_; rintro x w2 ⟨rfl, ho2⟩)
        go_roundw
        case rel => exact ⟨k + 1, by omega, by go_num, HO.out.trans ho2 (by simp), HF.out⟩
        case measure => simp [intOf]; omega
    · obtain rfl : k = m := by omega
      have e1 : decide ((k : Int) < (k : Int)) = false := decide_eq_false (by omega)
      rw [take_all _ _ HL.out] at HALL
      go_wp2_with fail
      go_ret
      exact ⟨_, rfl, by rw [HALL.out]; rfl, HO.out⟩
theorem contains_cd (A : Option Addr) (m cp : Nat) (cs : List Cd) (w : World) (hr : Recs w w.heap.size 5 A m (cs.map Cd.row)) (hm : m ≤ 9000000000000000000) :
    Calls Try.prog 93 #[.slice A m cp, .func (.func 91) #[] #[]] w fun x w' => x = .returned (.bool (!cs.all (cleanB))) ∧ Only [] w w' := by
  have HI := Lib.hid (index_cd A m cp cs w hr hm)
  clear hr hm
  go_enter Try.func93, Try.ntmps93
  go_wp2_with fail
  refine HI.out.mono ?_
  rintro _ wx ⟨i, rfl, hi, ho⟩
  have HD := Lib.hid hi
  clear hi HI
  go_wp2_with fail
  go_ret
  exact ⟨by rw [← HD.out]; rfl, ho⟩
end Go.Proofs.Ytbeenfkmnchhbaa.Object
