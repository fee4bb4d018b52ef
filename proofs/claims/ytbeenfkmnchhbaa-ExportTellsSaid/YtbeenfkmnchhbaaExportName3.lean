/- The document's Name. -/
import Derived.Test.YtbeenfkmnchhbaaExportName2
namespace Go.Proofs.Ytbeenfkmnchhbaa.Export
open Go.RowKit
set_option linter.unusedVariables false
set_option maxRecDepth 100000
def keysB : List ByteArray := [⟨#[112, 97, 99, 107, 97, 103, 101]⟩, ⟨#[105, 109, 112, 111, 114, 116]⟩, ⟨#[102, 117, 110, 99]⟩, ⟨#[105, 102]⟩, ⟨#[101, 108, 115, 101]⟩, ⟨#[102, 111, 114]⟩, ⟨#[114, 101, 116, 117, 114, 110]⟩,
  ⟨#[112, 114, 105, 110, 116]⟩, ⟨#[98, 114, 101, 97, 107]⟩, ⟨#[99, 111, 110, 116, 105, 110, 117, 101]⟩, ⟨#[105, 110, 116]⟩, ⟨#[98, 111, 111, 108]⟩, ⟨#[116, 114, 117, 101]⟩, ⟨#[102, 97, 108, 115, 101]⟩]
theorem keysB_any (l : List UInt8) : (keysB.any fun x => x.toList == l) = isKey l := by
  unfold keysB isKey
  simp only [List.any_cons, List.any_nil, Lib.toList_data, Bool.or_false, Bool.or_assoc]
  simp only [BEq.comm (b := l)]
set_option maxHeartbeats 1000000 in
theorem in_any (A : Option Addr) (n c B : Nat) (xs : List ByteArray) (s : ByteArray) (w : World) (hl : xs.length = n) (hr : Reads w B 1 A n (xs.map Value.string)) (hn : n ≤ 100000) :
    Calls Try.prog 147 #[.slice A n c, .string s] w fun x w' => x = .returned (.bool (xs.any fun x => x.toList == s.toList)) ∧ w = w' := by
  obtain ⟨ba, hba⟩ : ∃ b, (xs.any fun x => x.toList == s.toList) = b := ⟨_, rfl⟩
  rw [hba]
  have HBA := Lib.hid hba
  have HL := Lib.hid hl
  clear hba hl
  go_enter Try.func147, Try.ntmps147
  go_wp2_with fail
  go_loopw [5] (fun i wr => ∃ k : Nat, k ≤ n ∧ i = .int .i64 k ∧ wr = w ∧ ∀ j x, j < k → xs[j]? = some x → (x.toList == s.toList) = false) (fun i _ => n - (intOf i).toNat)
  case atStart => exact ⟨0, by omega, rfl, rfl, by omega⟩
  case round =>
    obtain ⟨k, hk, rfl, rfl, hall⟩ := hrel
    have HALL := Lib.hid hall
    clear hall
    by_cases hlt : k < n
    · have e1 : decide ((k : Int) < (n : Int)) = true := decide_eq_true (by omega)
      obtain ⟨b, off, rfl, _, hc⟩ := Reads.at1 hr hlt
      have hkl : k < xs.length := by rw [HL.out]; exact hlt
      rw [List.getElem?_map, List.getElem?_eq_getElem hkl] at hc
      have hx : xs[k]? = some xs[k] := List.getElem?_eq_getElem hkl
      generalize xs[k] = x at *
      have HX := Lib.hid hx
      clear hx hr
      cases hq : (x.toList == s.toList)
      · have HQ := Lib.hid hq
        go_wp2_with fail
        go_roundw
        case rel =>
          refine ⟨k + 1, by omega, by go_num, trivial, fun j y hj hy => ?_⟩
          rcases Nat.lt_or_ge j k with h | h
          · exact HALL.out j y h hy
          · obtain rfl : j = k := by omega
            rw [HX.out] at hy
            cases hy
            exact HQ.out
        case measure => simp [intOf]; omega
      · have HQ := Lib.hid hq
        go_wp2_with fail
        go_ret
        obtain rfl : ba = true := by
          rw [← HBA.out, List.any_eq_true]
          exact ⟨x, List.mem_of_getElem? HX.out, HQ.out⟩
        exact ⟨rfl, rfl⟩
    · obtain rfl : k = n := by omega
      have e1 : decide ((k : Int) < (k : Int)) = false := decide_eq_false (by omega)
      obtain rfl : ba = false := by
        rw [← HBA.out, List.any_eq_false]
        intro x hx
        obtain ⟨j, hj, rfl⟩ := List.getElem_of_mem hx
        rw [HALL.out j _ (by rw [← HL.out]; exact hj) (List.getElem?_eq_getElem hj)]
        decide
      go_wp2_with fail
      go_ret
      exact ⟨rfl, rfl⟩
theorem rkeys_any (w : World) : Calls Try.prog 148 #[] w fun x w' => ∃ A, x = .returned (.slice A 14 14) ∧ Reads w' w'.heap.size 1 A 14 (keysB.map Value.string) ∧ Only [] w w' := by
  go_enter Try.func148, Try.ntmps148
  go_wp2_with fail
  go_ret
  refine ⟨_, rfl, (Reads.const w (keysB.map Value.string) _ _ _ rfl).more (by simp), (Only.refl _ _).alloc _⟩
theorem rkey_is (s : ByteArray) (w : World) : Calls Try.prog 128 #[.string s] w fun x w' => x = .returned (.bool (isKey s.toList)) ∧ Only [] w w' := by
  have hK := rkeys_any w
  go_enter Try.func128, Try.ntmps128
  go_wp2_with (first
    | (go_at_call 148; refine hK.mono ?_; rintro x w' ⟨A, rfl, hr, ho⟩)
    | (go_at_call 147; refine (in_any A 14 14 w'.heap.size keysB s w' rfl hr (by omega)).mono ?_; rintro x w'' ⟨rfl, rfl⟩))
  go_ret
  exact ⟨by rw [keysB_any]; rfl, ho⟩
theorem rname_is (s : ByteArray) (w : World) : Calls Try.prog 78 #[.string s] w fun x w' => x = .returned (.bool (nameOk s)) ∧ Only [] w w' := by
  have hP := word_is s w
  have hK := fun w => rkey_is s w
  unfold nameOk
  generalize decide (Plain s) = a at *
  generalize isKey s.toList = b at *
  have HK := Lib.hid hK
  clear hK
  cases a
  all_goals
    go_enter Try.func78, Try.ntmps78
    go_wp2_with (first
      | (go_at_call 127; refine hP.mono ?_; rintro x w' ⟨rfl, rfl⟩)
      | (go_at_call 128; refine (HK.out _).mono ?_; rintro x w' ⟨rfl, ho⟩))
    go_ret
    first
      | exact ⟨by cases b <;> rfl, ho⟩
      | exact ⟨by cases b <;> rfl, Only.refl _ _⟩
end Go.Proofs.Ytbeenfkmnchhbaa.Export
