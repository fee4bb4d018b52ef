/- What may be a name: the keys, and the words. -/
import Derived.Test.YtbeenfkmnchhbaaExportName
namespace Go.Proofs.Ytbeenfkmnchhbaa.Export
open Go.RowKit
set_option linter.unusedVariables false
set_option maxRecDepth 100000
def Plain (s : ByteArray) : Prop := 1 ≤ s.size ∧ s.size ≤ 16 ∧ isDig ((s.get! 0).toNat : Int) = false ∧ ∀ j, j < s.size → isPart ((s.get! j).toNat : Int) = true
instance (s : ByteArray) : Decidable (Plain s) := by unfold Plain; infer_instance
theorem contains_other (s : ByteArray) (w : World) (b : Bool) (hb : b = true ↔ ∀ j, j < s.size → isPart ((s.get! j).toNat : Int) = true) (hsz : s.size ≤ 16) :
    Calls Try.prog 158 #[.string s, .func (.func 155) #[] #[]] w fun x w' => x = .returned (.bool (!b)) ∧ Only [] w w' := by
  have hI := index_other s w b hb hsz
  have hF : Calls Try.prog 160 #[.string s, .func (.func 155) #[] #[]] w fun x w' => ∃ z : Int, x = .returned (.int .i64 z) ∧ (z < 0 ↔ b = true) ∧ Only [] w w' := by
    go_enter Try.func160, Try.ntmps160
    go_wp2_with (go_at_call 161; refine hI.mono ?_; rintro x w' ⟨z, rfl, hz, ho⟩)
    go_ret
    exact ⟨z, rfl, hz, ho⟩
  clear hI hb
  go_enter Try.func158, Try.ntmps158
  go_wp2_with (go_at_call 160; refine hF.mono ?_; rintro x w' ⟨z, rfl, hz, ho⟩)
  go_ret
  refine ⟨congrArg (fun b => Ending.returned (Value.bool b)) ?_, ho⟩
  cases b
  · simp at hz ⊢; omega
  · simp at hz ⊢; omega
set_option maxHeartbeats 400000 in
theorem plain_is (s : ByteArray) (w : World) (b : Bool) (hb : decide (Plain s) = b) : Calls Try.prog 142 #[.string s] w fun x w' => x = .returned (.bool b) ∧ Only [] w w' := by
  subst hb
  have hl : s.toList.length = s.size := by rw [Lib.toList_data]; simp
  by_cases h0 : s.size = 0
  · have hs : s.toList = [] := List.eq_nil_of_length_eq_zero (by omega)
    have hP : decide (Plain s) = false := decide_eq_false (fun h => by have := h.1; omega)
    rw [hP]
    go_enter Try.func142, Try.ntmps142
    go_wp2_with fail
    go_ret
    exact ⟨rfl, Only.refl _ _⟩
  · have hs : ¬ s.toList = [] := fun h => h0 (by rw [← hl, h]; rfl)
    by_cases h16 : s.size ≤ 16
    · have hD := digit_is ((s.get! 0).toNat : Int) w
      have HW : Hid (wrap32 ((s.get! 0).toNat : Int) = ((s.get! 0).toNat : Int)) := by
        show wrap32 ((s.get! 0).toNat : Int) = ((s.get! 0).toNat : Int)
        have := UInt8.toNat_lt (s.get! 0)
        unfold wrap32
        omega
      have d1 : decide ((s.size : Int) ≤ 16) = true := decide_eq_true (by omega)
      have hP : decide (Plain s) = (!isDig ((s.get! 0).toNat : Int) && decide (∀ j, j < s.size → isPart ((s.get! j).toNat : Int) = true)) := by
        unfold Plain
        rw [Bool.eq_iff_iff]
        simp [h16]
        omega
      rw [hP]
      obtain ⟨ba, hba⟩ : ∃ b, decide (∀ j, j < s.size → isPart ((s.get! j).toNat : Int) = true) = b := ⟨_, rfl⟩
      have hC := contains_other s w ba (by rw [← hba]; simp) h16
      rw [hba]
      clear hba hP
      have hg := get_bang s 0 (by omega)
      generalize isDig ((s.get! 0).toNat : Int) = bd at *
      have HC := Lib.hid hC
      have hsz : 0 < s.size := by omega
      clear hC
      cases bd
      all_goals
        go_enter Try.func142, Try.ntmps142
        go_wp2_with (first
          | (go_at_call 157; rw [HW.out]; refine hD.mono ?_; rintro x w' ⟨rfl, rfl⟩)
          | (go_at_call 158; refine HC.out.mono ?_; rintro x w' ⟨rfl, ho⟩))
        go_ret
        first
          | exact ⟨by cases ba <;> simp [hs], ho⟩
          | exact ⟨by simp, Only.refl _ _⟩
    · have hP : decide (Plain s) = false := decide_eq_false (fun h => by have := h.2.1; omega)
      have d1 : decide ((s.size : Int) ≤ 16) = false := decide_eq_false (by omega)
      rw [hP]
      clear hP hl
      go_enter Try.func142, Try.ntmps142
      go_wp2_with fail
      go_ret
      exact ⟨rfl, Only.refl _ _⟩
def isKey (l : List UInt8) : Bool :=
  (l == [112, 97, 99, 107, 97, 103, 101]) || (l == [105, 109, 112, 111, 114, 116]) || (l == [102, 117, 110, 99]) || (l == [105, 102]) || (l == [101, 108, 115, 101]) || (l == [102, 111, 114]) || (l == [114, 101, 116, 117, 114, 110]) ||
  (l == [112, 114, 105, 110, 116]) || (l == [98, 114, 101, 97, 107]) || (l == [99, 111, 110, 116, 105, 110, 117, 101]) || (l == [105, 110, 116]) || (l == [98, 111, 111, 108]) || (l == [116, 114, 117, 101]) || (l == [102, 97, 108, 115, 101])
theorem key_is (s : ByteArray) (w : World) : Calls Try.prog 143 #[.string s] w fun x w' => x = .returned (.bool (isKey s.toList)) ∧ w = w' := by
  go_enter Try.func143, Try.ntmps143
  go_wp2_with fail
  all_goals first
    | (exfalso; simp_all; done)
    | (go_ret
       refine ⟨congrArg (fun b => Ending.returned (Value.bool b)) ?_, rfl⟩
       unfold isKey
       simp_all)
def nameOk (s : ByteArray) : Bool := decide (Plain s) && !isKey s.toList
theorem name_is (s : ByteArray) (w : World) : Calls Try.prog 125 #[.string s] w fun x w' => x = .returned (.bool (nameOk s)) ∧ Only [] w w' := by
  have hP := plain_is s w _ rfl
  have hK := fun w => key_is s w
  unfold nameOk
  generalize decide (Plain s) = a at *
  generalize isKey s.toList = b at *
  have HK := Lib.hid hK
  clear hK
  cases a
  all_goals
    go_enter Try.func125, Try.ntmps125
    go_wp2_with (first
      | (go_at_call 142; refine hP.mono ?_; rintro x w' ⟨rfl, ho⟩)
      | (go_at_call 143; refine (HK.out _).mono ?_; rintro x w' ⟨rfl, rfl⟩))
    go_ret
    exact ⟨by cases b <;> rfl, ho⟩
set_option maxHeartbeats 2000000 in
theorem word_is (s : ByteArray) (w : World) : Calls Try.prog 127 #[.string s] w fun x w' => x = .returned (.bool (decide (Plain s))) ∧ w = w' := by
  by_cases hb : s.size < 1 ∨ 16 < s.size
  · have hP : decide (Plain s) = false := decide_eq_false (fun h => by have := h.1; have := h.2.1; omega)
    rw [hP]
    clear hP
    by_cases h1 : s.size < 1
    · have d1 : decide ((s.size : Int) < 1) = true := decide_eq_true (by omega)
      go_enter Try.func127, Try.ntmps127
      go_wp2_with fail
      go_ret
      exact ⟨rfl, rfl⟩
    · have d1 : decide ((s.size : Int) < 1) = false := decide_eq_false (by omega)
      have d2 : decide ((16 : Int) < (s.size : Int)) = true := decide_eq_true (by omega)
      go_enter Try.func127, Try.ntmps127
      go_wp2_with fail
      go_ret
      exact ⟨rfl, rfl⟩
  · have d1 : decide ((s.size : Int) < 1) = false := decide_eq_false (by omega)
    have d2 : decide ((16 : Int) < (s.size : Int)) = false := decide_eq_false (by omega)
    have hD := rdigit_is ((s.get! 0).toNat : Int) w
    have hg := get_bang s 0 (by omega)
    have hsz : 0 < s.size := by omega
    cases hbd : isDig ((s.get! 0).toNat : Int)
    · rw [hbd] at hD
      have hP : decide (Plain s) = decide (∀ j, j < s.size → isPart ((s.get! j).toNat : Int) = true) :=
        decide_eq_decide.2 ⟨fun h => h.2.2.2, fun h => ⟨by omega, by omega, hbd, h⟩⟩
      rw [hP]
      obtain ⟨ba, hba⟩ : ∃ b, decide (∀ j, j < s.size → isPart ((s.get! j).toNat : Int) = true) = b := ⟨_, rfl⟩
      rw [hba]
      have HBA := Lib.hid hba
      clear hba
      have HBD := Lib.hid hbd
      clear hP hbd
      go_enter Try.func127, Try.ntmps127
      go_wp2_with (go_at_call 145; refine hD.mono ?_; rintro x w' ⟨rfl, rfl⟩)
      clear hg hsz hD
      go_loopw [3] (fun i wr => ∃ k : Nat, k ≤ s.size ∧ i = .int .i64 k ∧ wr = w ∧ ∀ j, j < k → isPart ((s.get! j).toNat : Int) = true) (fun i _ => s.size - (intOf i).toNat)
      case atStart => exact ⟨0, by omega, rfl, rfl, by omega⟩
      case round =>
        obtain ⟨k, hk, rfl, rfl, hall⟩ := hrel
        by_cases hlt : k < s.size
        · have e1 : decide ((k : Int) < (s.size : Int)) = true := decide_eq_true (by omega)
          have hD := rdigit_is ((s.get! k).toNat : Int) wr
          have hL := rletter_is ((s.get! k).toNat : Int) wr
          have hgk := get_bang s k hlt
          have hpt : isPart ((s.get! k).toNat : Int) = (isLet ((s.get! k).toNat : Int) || isDig ((s.get! k).toNat : Int)) := rfl
          have HPT := Lib.hid hpt
          have HALL := Lib.hid hall
          clear hpt hall
          cases h1 : isLet ((s.get! k).toNat : Int) <;> cases h2 : isDig ((s.get! k).toNat : Int)
          all_goals
            rw [h1] at hL
            rw [h2] at hD
            have H1 := Lib.hid h1
            have H2 := Lib.hid h2
            clear h1 h2
            go_wp2_with (first
              | (go_at_call 146; refine hL.mono ?_; rintro x w' ⟨rfl, rfl⟩)
              | (go_at_call 145; refine hD.mono ?_; rintro x w' ⟨rfl, rfl⟩))
            first
              | (go_ret
                 refine ⟨?_, rfl⟩
                 obtain rfl : ba = false := by
                   rw [← HBA.out]
                   exact decide_eq_false (fun h => by
                     have := h k hlt
                     rw [HPT.out, H1.out, H2.out] at this
                     cases this)
                 rfl
                 done)
              | (go_roundw
                 case rel =>
                   refine ⟨k + 1, by omega, by go_num, trivial, fun j hj => ?_⟩
                   rcases Nat.lt_or_ge j k with h | h
                   · exact HALL.out j h
                   · obtain rfl : j = k := by omega
                     rw [HPT.out, H1.out, H2.out]; rfl
                 case measure => simp [intOf]; omega)
        · obtain rfl : k = s.size := by omega
          have e1 : decide ((s.size : Int) < (s.size : Int)) = false := decide_eq_false (by omega)
          have hT := decide_eq_true hall
          obtain rfl : ba = true := by rw [← HBA.out]; exact hT
          clear hall hT
          go_wp2_with fail
          go_ret
          exact ⟨rfl, rfl⟩
    · rw [hbd] at hD
      have hP : decide (Plain s) = false := decide_eq_false (fun h => by have := h.2.2.1; rw [hbd] at this; cases this)
      rw [hP]
      clear hP hbd
      go_enter Try.func127, Try.ntmps127
      go_wp2_with (go_at_call 145; refine hD.mono ?_; rintro x w' ⟨rfl, rfl⟩)
      go_ret
      exact ⟨rfl, rfl⟩
end Go.Proofs.Ytbeenfkmnchhbaa.Export
