/- What may be a name: lex.Name, and the document's. -/
import Derived.Test.YtbeenfkmnchhbaaOpenOnes
import Derived.Lib.OthersKept
import Derived.Laws.RangeAny
import Derived.Deep.LoopGhost
namespace Go.Proofs.Ytbeenfkmnchhbaa.Export
open Go.RowKit
set_option linter.unusedVariables false
set_option maxRecDepth 100000
def isDig (r : Int) : Bool := decide (48 ≤ r) && decide (r ≤ 57)
def isLet (r : Int) : Bool := decide (r = 95) || (decide (97 ≤ r) && decide (r ≤ 122)) || (decide (65 ≤ r) && decide (r ≤ 90))
def isPart (r : Int) : Bool := isLet r || isDig r
theorem digit_is (r : Int) (w : World) : Calls Try.prog 157 #[.int .i32 r] w fun x w' => x = .returned (.bool (isDig r)) ∧ w = w' := by
  unfold isDig
  go_enter Try.func157, Try.ntmps157
  go_wp2_with fail
  all_goals
    go_ret
    refine ⟨congrArg (fun b => Ending.returned (Value.bool b)) ?_, rfl⟩
    (rw [Bool.eq_iff_iff]) <;> simp <;> try omega
theorem rdigit_is (r : Int) (w : World) : Calls Try.prog 145 #[.int .u8 r] w fun x w' => x = .returned (.bool (isDig r)) ∧ w = w' := by
  unfold isDig
  go_enter Try.func145, Try.ntmps145
  go_wp2_with fail
  all_goals
    go_ret
    refine ⟨congrArg (fun b => Ending.returned (Value.bool b)) ?_, rfl⟩
    (rw [Bool.eq_iff_iff]) <;> simp <;> try omega
theorem letter_is (r : Int) (w : World) : Calls Try.prog 159 #[.int .i32 r] w fun x w' => x = .returned (.bool (isLet r)) ∧ w = w' := by
  unfold isLet
  go_enter Try.func159, Try.ntmps159
  go_wp2_with fail
  all_goals
    go_ret
    refine ⟨congrArg (fun b => Ending.returned (Value.bool b)) ?_, rfl⟩
    (rw [Bool.eq_iff_iff]) <;> simp <;> try omega
theorem rletter_is (r : Int) (w : World) : Calls Try.prog 146 #[.int .u8 r] w fun x w' => x = .returned (.bool (isLet r)) ∧ w = w' := by
  unfold isLet
  go_enter Try.func146, Try.ntmps146
  go_wp2_with fail
  all_goals
    go_ret
    refine ⟨congrArg (fun b => Ending.returned (Value.bool b)) ?_, rfl⟩
    (rw [Bool.eq_iff_iff]) <;> simp <;> try omega
theorem part_is (r : Int) (w : World) : Calls Try.prog 156 #[.int .i32 r] w fun x w' => x = .returned (.bool (isPart r)) ∧ w = w' := by
  have hL := letter_is r w
  have hD := digit_is r w
  unfold isPart
  generalize isLet r = a at *
  generalize isDig r = b at *
  cases a
  all_goals
    go_enter Try.func156, Try.ntmps156
    go_wp2_with (first
      | (go_at_call 159; refine hL.mono ?_; rintro x w' ⟨rfl, rfl⟩)
      | (go_at_call 157; refine hD.mono ?_; rintro x w' ⟨rfl, rfl⟩))
    go_ret
    exact ⟨rfl, rfl⟩
theorem other_is (r : Int) (w : World) : Calls Try.prog 155 #[.int .i32 r] w fun x w' => x = .returned (.bool (!isPart r)) ∧ w = w' := by
  have hL := part_is r w
  generalize isPart r = a at *
  go_enter Try.func155, Try.ntmps155
  go_wp2_with (go_at_call 156; refine hL.mono ?_; rintro x w' ⟨rfl, rfl⟩)
  go_ret
  exact ⟨by cases a <;> rfl, rfl⟩
/-- all signs from one on may be in a name -/
def partFrom (s : ByteArray) (k : Nat) : Prop := ∀ j, k ≤ j → j < s.size → isPart ((s.get! j).toNat : Int) = true
theorem not_part_high (r : Nat) (h : 128 ≤ r) : isPart (r : Int) = false := by
  unfold isPart isLet isDig
  rw [Bool.eq_false_iff]
  simp
  omega
theorem get_bang (s : ByteArray) (k : Nat) (h : k < s.size) : s[k]'h = s.get! k := by
  show _ = s.get! k
  simp [ByteArray.get!, getElem!_pos, h]
  rfl
set_option maxHeartbeats 2000000 in
theorem index_other (s : ByteArray) (w : World) (b : Bool) (hb : b = true ↔ ∀ j, j < s.size → isPart ((s.get! j).toNat : Int) = true) (hsz : s.size ≤ 16) :
    Calls Try.prog 161 #[.string s, .func (.func 155) #[] #[], .bool true] w fun x w' => ∃ z : Int, x = .returned (.int .i64 z) ∧ (z < 0 ↔ b = true) ∧ Only [] w w' := by
  have HB := Lib.hid hb
  clear hb
  go_enter Try.func161, Try.ntmps161
  go_wp2_with fail
  go_loopg [] s.size (fun gf wx => ∃ pos : Nat, pos + gf = s.size ∧ wx.heap[w.heap.size]? = some (.stringIter s pos) ∧ Below w.heap.size w wx ∧ ∀ j, j < pos → isPart ((s.get! j).toNat : Int) = true)
  case atStart => exact ⟨0, by omega, World.iter_heap w s 0, (Below.refl _ w).alloc (Nat.le_refl _) _, by omega⟩
  case round =>
    obtain ⟨pos, hfu, hit, hbw, hall⟩ := hrel
    by_cases hps : pos < s.size
    · obtain ⟨g', rfl⟩ : ∃ g', gk = g' + 1 := ⟨gk - 1, by omega⟩
      have hnx : ∀ ty, (Instr.next (.pointer (some ⟨w.heap.size, 0, none⟩)) true ty).run Try.prog wr = _ := fun ty => Lib.run_next_any_at wr w.heap.size s pos ty hit hps
      obtain ⟨R, hR⟩ : ∃ R, (Utf8.decode s pos).1 = R := ⟨_, rfl⟩
      obtain ⟨K, hK⟩ : ∃ K, (Utf8.decode s pos).2 = K := ⟨_, rfl⟩
      have hcase : (R = (s.get! pos).toNat ∧ K = 1) ∨ (isPart (R : Int) = false ∧ isPart ((s.get! pos).toNat : Int) = false) := by
        by_cases ha : (s.get! pos).toNat < 128
        · have := decode_ascii s pos hps (by rw [get_bang s pos hps]; exact ha)
          rw [get_bang s pos hps] at this
          rw [this] at hR hK
          exact .inl ⟨hR.symm, hK.symm⟩
        · have := decode_high s pos hps (by rw [get_bang s pos hps]; omega)
          rw [hR] at this
          exact .inr ⟨not_part_high R this.1, not_part_high _ (by omega)⟩
      rw [hR, hK] at hnx
      have hit2 := Lib.iterAt_heap wr w.heap.size s pos (pos + K) hit
      have hbw2 := Lib.below_iterAt hbw (k := w.heap.size) (Nat.le_refl _) s (pos + K)
      obtain ⟨W, hWd⟩ : ∃ W, wr.iterAt w.heap.size s (pos + K) = W := ⟨_, rfl⟩
      rw [hWd] at hnx hit2 hbw2
      have hO := other_is (R : Int) W
      have HBW := Lib.hid hbw2
      have HALL := Lib.hid hall
      have HC := Lib.hid hcase
      clear hR hK hWd hall hcase hbw2 hbw hit
      cases hp : isPart (R : Int)
      · rw [hp] at hO
        go_wp2_with (go_at_call 155; refine hO.mono ?_; rintro x w' ⟨rfl, rfl⟩)
        go_ret
        refine ⟨_, rfl, ?_, Only.of_below HBW.out⟩
        rw [HB.out]
        refine ⟨fun h => by omega, fun h => ?_⟩
        rcases HC.out with ⟨h1, _⟩ | ⟨_, h1⟩
        · rw [h1, h pos hps] at hp; cases hp
        · rw [h pos hps] at h1; cases h1
      · rw [hp] at hO
        go_wp2_with (go_at_call 155; refine hO.mono ?_; rintro x w' ⟨rfl, rfl⟩)
        go_roundg g'
        case measure => omega
        case rel =>
          rcases HC.out with ⟨h1, h2⟩ | ⟨h1, _⟩
          · subst h2
            refine ⟨pos + 1, by omega, hit2, HBW.out, fun j hj => ?_⟩
            rcases Nat.lt_or_ge j pos with h | h
            · exact HALL.out j h
            · obtain rfl : j = pos := by omega
              rw [← h1]; exact hp
          · rw [hp] at h1; cases h1
    · have hnx : ∀ ty, (Instr.next (.pointer (some ⟨w.heap.size, 0, none⟩)) true ty).run Try.prog wr = _ := fun ty => Lib.run_next_end_at wr w.heap.size s pos ty hit hps
      go_wp2_with fail
      go_ret
      refine ⟨_, rfl, ?_, Only.of_below hbw⟩
      rw [HB.out]
      exact ⟨fun _ j hj => hall j (by omega), fun _ => by omega⟩
end Go.Proofs.Ytbeenfkmnchhbaa.Export
