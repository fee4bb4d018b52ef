/- lex.Name of texts of one letter. PRINTED by wip/gen_trname.py. -/
import Derived.Test.YtmjkohlhbboapaaTrSame
import Derived.Lib.OthersKept
import Derived.Deep.LoopGhost
import Derived.Lib.Strings
namespace Go.Proofs.Ytmjkohlhbboapaa.Tree
open Go.RowKit Go.Shelf
set_option linter.unusedVariables false
set_option maxRecDepth 100000
theorem eg_other (args : Array Value) (w : World) : (callFunc 66 args).run Try.prog w = .ok (.enter 66 args) w := by go_simp
theorem only_of_below {w w' : World} (h : Below w.heap.size w w') : Only [] w w' := Only.of_below h
theorem letter_102 (w : World) : Calls Try.prog 80 #[.int .i32 102] w fun e w' => e = .returned (.bool true) ∧ w' = w := by
  go_enter Try.func80, Try.ntmps80
  go_wp2_with fail
  go_ret
  exact ⟨rfl, rfl⟩
theorem digit_102 (w : World) : Calls Try.prog 68 #[.int .i32 102] w fun e w' => e = .returned (.bool false) ∧ w' = w := by
  go_enter Try.func68, Try.ntmps68
  go_wp2_with fail
  go_ret
  exact ⟨rfl, rfl⟩
theorem part_102 (w : World) : Calls Try.prog 67 #[.int .i32 102] w fun e w' => e = .returned (.bool true) ∧ w' = w := by
  have HC0 := Lib.hid (fun wx => letter_102 wx)
  go_enter Try.func67, Try.ntmps67
  go_wp2_with fail
  refine (HC0.out _).mono ?_
  rintro e wn ⟨rfl, hwn⟩
  have hwn := hwn.symm
  subst hwn
  go_wp2_with fail
  go_ret
  exact ⟨rfl, rfl⟩
theorem other_102 (w : World) : Calls Try.prog 66 #[.int .i32 102] w fun e w' => e = .returned (.bool false) ∧ w' = w := by
  have HC0 := Lib.hid (fun wx => part_102 wx)
  go_enter Try.func66, Try.ntmps66
  go_wp2_with fail
  refine (HC0.out _).mono ?_
  rintro e wn ⟨rfl, hwn⟩
  have hwn := hwn.symm
  subst hwn
  go_wp2_with fail
  go_ret
  exact ⟨rfl, rfl⟩
set_option maxHeartbeats 2000000 in
theorem idx_102 (w : World) : Calls Try.prog 85 #[.string ⟨#[102]⟩, .func (.func 66) #[] #[], .bool true] w fun e w' => e = .returned (.int .i64 (-1)) ∧ Only [] w w' := by
  have HP := Lib.hid (fun wx => other_102 wx)
  have heg := eg_other
  obtain ⟨s, hs⟩ : ∃ s : ByteArray, s = ⟨#[102]⟩ := ⟨_, rfl⟩
  rw [← hs]
  have hsz : s.size = 1 := by rw [hs]; rfl
  have hs0 : ∀ h : 0 < s.size, (s[0]'h).toNat = 102 := by subst hs; intro h; rfl
  have HS := Lib.hid (And.intro hsz hs0)
  clear hs hsz hs0
  go_enter Try.func85, Try.ntmps85
  go_wp2_with fail
  go_loopg [] 1 (fun g wx => ∃ pos : Nat, wx.heap[w.heap.size]? = some (.stringIter s pos) ∧ Below w.heap.size w wx ∧ pos + g = 1)
  case atStart => exact ⟨0, World.iter_heap w s 0, (Below.refl _ w).alloc (Nat.le_refl _) _, by omega⟩
  case round =>
    obtain ⟨pos, hit, hbw, hfu⟩ := hrel
    by_cases hp : pos = 0
    · subst hp
      obtain rfl : gk = 1 := by omega
      have hnx : ∀ ty, (Instr.next (.pointer (some ⟨w.heap.size, 0, none⟩)) true ty).run Try.prog wr = .ok (.tuple #[.bool true, .int .i64 0, .int .i32 102]) (wr.iterAt w.heap.size s 1) := fun ty => by
        have hz : 0 < s.size := by rw [HS.out.1]; omega
        have h := Lib.run_next_ascii_at (P := Try.prog) wr w.heap.size s 0 ty hit hz (by rw [HS.out.2 hz]; decide)
        rw [HS.out.2 hz] at h
        exact h
      have hit2 := Lib.iterAt_heap wr w.heap.size s 0 1 hit
      have hbw2 := Lib.below_iterAt hbw (k := w.heap.size) (Nat.le_refl _) s 1
      obtain ⟨W, hWd⟩ : ∃ W, wr.iterAt w.heap.size s 1 = W := ⟨_, rfl⟩
      rw [hWd] at hnx hit2 hbw2
      have HB := Lib.hid (And.intro hit2 hbw2)
      clear hit hbw hWd hit2 hbw2
      go_wp2_with fail
      refine (HP.out _).mono ?_
      rintro e wn ⟨rfl, hwn⟩
      have hwn := hwn.symm
      subst hwn
      go_wp2_with fail
      go_roundg 0
      case measure => omega
      case rel => exact ⟨1, HB.out.1, HB.out.2, by omega⟩
    · obtain rfl : pos = 1 := by omega
      have hnx : ∀ ty, (Instr.next (.pointer (some ⟨w.heap.size, 0, none⟩)) true ty).run Try.prog wr = .ok (.tuple #[.bool false]) wr := fun ty => Lib.run_next_end_at wr w.heap.size s 1 ty hit (by rw [HS.out.1]; omega)
      have HB := Lib.hid hbw
      clear hit hbw
      go_wp2_with fail
      go_ret
      exact ⟨rfl, Only.of_below HB.out⟩
theorem index_102 (w : World) : Calls Try.prog 81 #[.string ⟨#[102]⟩, .func (.func 66) #[] #[]] w fun e w' => e = .returned (.int .i64 (-1)) ∧ Only [] w w' := by
  have HC0 := Lib.hid (fun wx => idx_102 wx)
  have HO := Lib.hid (Only.refl [] w)
  go_enter Try.func81, Try.ntmps81
  go_wp2_with fail
  refine (HC0.out _).mono ?_
  rintro e w2 ⟨rfl, ho2⟩
  replace HO := Lib.hid (HO.out.trans ho2 (by simp))
  clear ho2
  go_wp2_with fail
  go_ret
  exact ⟨rfl, HO.out⟩
theorem cont_102 (w : World) : Calls Try.prog 69 #[.string ⟨#[102]⟩, .func (.func 66) #[] #[]] w fun e w' => e = .returned (.bool false) ∧ Only [] w w' := by
  have HC0 := Lib.hid (fun wx => index_102 wx)
  have HO := Lib.hid (Only.refl [] w)
  go_enter Try.func69, Try.ntmps69
  go_wp2_with fail
  refine (HC0.out _).mono ?_
  rintro e w2 ⟨rfl, ho2⟩
  replace HO := Lib.hid (HO.out.trans ho2 (by simp))
  clear ho2
  go_wp2_with fail
  go_ret
  exact ⟨rfl, HO.out⟩
theorem key_102 (w : World) : Calls Try.prog 31 #[.string ⟨#[102]⟩] w fun e w' => e = .returned (.bool false) ∧ w' = w := by
  go_enter Try.func31, Try.ntmps31
  go_wp2_with fail
  go_ret
  exact ⟨rfl, rfl⟩
theorem plain_102 (w : World) : Calls Try.prog 48 #[.string ⟨#[102]⟩] w fun e w' => e = .returned (.bool true) ∧ Only [] w w' := by
  obtain ⟨s, hs⟩ : ∃ s : ByteArray, s = ⟨#[102]⟩ := ⟨_, rfl⟩
  rw [← hs]
  have hsz : s.size = 1 := by rw [hs]; rfl
  have hw : ∀ h : 0 < s.size, wrap32 (((s[0]'h).toNat : Nat) : Int) = 102 := by subst hs; intro h; show wrap32 ((102 : Nat) : Int) = 102; unfold wrap32; omega
  have he : s.toList.isEmpty = false := by subst hs; rw [Lib.toList_data]; rfl
  have HC0 := Lib.hid (fun wx => digit_102 wx)
  have HC1 : Hid (∀ wx, Calls Try.prog 69 #[.string s, .func (.func 66) #[] #[]] wx fun e w' => e = .returned (.bool false) ∧ Only [] wx w') := Lib.hid (by rw [hs]; exact cont_102)
  clear hs
  go_enter Try.func48, Try.ntmps48
  go_wp2_with fail
  refine (HC0.out _).mono ?_
  rintro e wn ⟨rfl, hwn⟩
  have hwn := hwn.symm
  subst hwn
  go_wp2_with fail
  refine (HC1.out _).mono ?_
  rintro e w3 ⟨rfl, ho3⟩
  have HO := Lib.hid ho3
  clear ho3
  go_wp2_with fail
  go_ret
  exact ⟨rfl, HO.out⟩
theorem name_102 (w : World) : Calls Try.prog 30 #[.string ⟨#[102]⟩] w fun e w' => e = .returned (.bool true) ∧ Only [] w w' := by
  have HC0 := Lib.hid (fun wx => plain_102 wx)
  have HC1 := Lib.hid (fun wx => key_102 wx)
  have HO := Lib.hid (Only.refl [] w)
  go_enter Try.func30, Try.ntmps30
  go_wp2_with fail
  refine (HC0.out _).mono ?_
  rintro e w2 ⟨rfl, ho2⟩
  replace HO := Lib.hid (HO.out.trans ho2 (by simp))
  clear ho2
  go_wp2_with fail
  refine (HC1.out _).mono ?_
  rintro e wn ⟨rfl, hwn⟩
  have hwn := hwn.symm
  subst hwn
  go_wp2_with fail
  go_ret
  exact ⟨rfl, HO.out⟩
theorem letter_113 (w : World) : Calls Try.prog 80 #[.int .i32 113] w fun e w' => e = .returned (.bool true) ∧ w' = w := by
  go_enter Try.func80, Try.ntmps80
  go_wp2_with fail
  go_ret
  exact ⟨rfl, rfl⟩
theorem digit_113 (w : World) : Calls Try.prog 68 #[.int .i32 113] w fun e w' => e = .returned (.bool false) ∧ w' = w := by
  go_enter Try.func68, Try.ntmps68
  go_wp2_with fail
  go_ret
  exact ⟨rfl, rfl⟩
theorem part_113 (w : World) : Calls Try.prog 67 #[.int .i32 113] w fun e w' => e = .returned (.bool true) ∧ w' = w := by
  have HC0 := Lib.hid (fun wx => letter_113 wx)
  go_enter Try.func67, Try.ntmps67
  go_wp2_with fail
  refine (HC0.out _).mono ?_
  rintro e wn ⟨rfl, hwn⟩
  have hwn := hwn.symm
  subst hwn
  go_wp2_with fail
  go_ret
  exact ⟨rfl, rfl⟩
theorem other_113 (w : World) : Calls Try.prog 66 #[.int .i32 113] w fun e w' => e = .returned (.bool false) ∧ w' = w := by
  have HC0 := Lib.hid (fun wx => part_113 wx)
  go_enter Try.func66, Try.ntmps66
  go_wp2_with fail
  refine (HC0.out _).mono ?_
  rintro e wn ⟨rfl, hwn⟩
  have hwn := hwn.symm
  subst hwn
  go_wp2_with fail
  go_ret
  exact ⟨rfl, rfl⟩
set_option maxHeartbeats 2000000 in
theorem idx_113 (w : World) : Calls Try.prog 85 #[.string ⟨#[113]⟩, .func (.func 66) #[] #[], .bool true] w fun e w' => e = .returned (.int .i64 (-1)) ∧ Only [] w w' := by
  have HP := Lib.hid (fun wx => other_113 wx)
  have heg := eg_other
  obtain ⟨s, hs⟩ : ∃ s : ByteArray, s = ⟨#[113]⟩ := ⟨_, rfl⟩
  rw [← hs]
  have hsz : s.size = 1 := by rw [hs]; rfl
  have hs0 : ∀ h : 0 < s.size, (s[0]'h).toNat = 113 := by subst hs; intro h; rfl
  have HS := Lib.hid (And.intro hsz hs0)
  clear hs hsz hs0
  go_enter Try.func85, Try.ntmps85
  go_wp2_with fail
  go_loopg [] 1 (fun g wx => ∃ pos : Nat, wx.heap[w.heap.size]? = some (.stringIter s pos) ∧ Below w.heap.size w wx ∧ pos + g = 1)
  case atStart => exact ⟨0, World.iter_heap w s 0, (Below.refl _ w).alloc (Nat.le_refl _) _, by omega⟩
  case round =>
    obtain ⟨pos, hit, hbw, hfu⟩ := hrel
    by_cases hp : pos = 0
    · subst hp
      obtain rfl : gk = 1 := by omega
      have hnx : ∀ ty, (Instr.next (.pointer (some ⟨w.heap.size, 0, none⟩)) true ty).run Try.prog wr = .ok (.tuple #[.bool true, .int .i64 0, .int .i32 113]) (wr.iterAt w.heap.size s 1) := fun ty => by
        have hz : 0 < s.size := by rw [HS.out.1]; omega
        have h := Lib.run_next_ascii_at (P := Try.prog) wr w.heap.size s 0 ty hit hz (by rw [HS.out.2 hz]; decide)
        rw [HS.out.2 hz] at h
        exact h
      have hit2 := Lib.iterAt_heap wr w.heap.size s 0 1 hit
      have hbw2 := Lib.below_iterAt hbw (k := w.heap.size) (Nat.le_refl _) s 1
      obtain ⟨W, hWd⟩ : ∃ W, wr.iterAt w.heap.size s 1 = W := ⟨_, rfl⟩
      rw [hWd] at hnx hit2 hbw2
      have HB := Lib.hid (And.intro hit2 hbw2)
      clear hit hbw hWd hit2 hbw2
      go_wp2_with fail
      refine (HP.out _).mono ?_
      rintro e wn ⟨rfl, hwn⟩
      have hwn := hwn.symm
      subst hwn
      go_wp2_with fail
      go_roundg 0
      case measure => omega
      case rel => exact ⟨1, HB.out.1, HB.out.2, by omega⟩
    · obtain rfl : pos = 1 := by omega
      have hnx : ∀ ty, (Instr.next (.pointer (some ⟨w.heap.size, 0, none⟩)) true ty).run Try.prog wr = .ok (.tuple #[.bool false]) wr := fun ty => Lib.run_next_end_at wr w.heap.size s 1 ty hit (by rw [HS.out.1]; omega)
      have HB := Lib.hid hbw
      clear hit hbw
      go_wp2_with fail
      go_ret
      exact ⟨rfl, Only.of_below HB.out⟩
theorem index_113 (w : World) : Calls Try.prog 81 #[.string ⟨#[113]⟩, .func (.func 66) #[] #[]] w fun e w' => e = .returned (.int .i64 (-1)) ∧ Only [] w w' := by
  have HC0 := Lib.hid (fun wx => idx_113 wx)
  have HO := Lib.hid (Only.refl [] w)
  go_enter Try.func81, Try.ntmps81
  go_wp2_with fail
  refine (HC0.out _).mono ?_
  rintro e w2 ⟨rfl, ho2⟩
  replace HO := Lib.hid (HO.out.trans ho2 (by simp))
  clear ho2
  go_wp2_with fail
  go_ret
  exact ⟨rfl, HO.out⟩
theorem cont_113 (w : World) : Calls Try.prog 69 #[.string ⟨#[113]⟩, .func (.func 66) #[] #[]] w fun e w' => e = .returned (.bool false) ∧ Only [] w w' := by
  have HC0 := Lib.hid (fun wx => index_113 wx)
  have HO := Lib.hid (Only.refl [] w)
  go_enter Try.func69, Try.ntmps69
  go_wp2_with fail
  refine (HC0.out _).mono ?_
  rintro e w2 ⟨rfl, ho2⟩
  replace HO := Lib.hid (HO.out.trans ho2 (by simp))
  clear ho2
  go_wp2_with fail
  go_ret
  exact ⟨rfl, HO.out⟩
theorem key_113 (w : World) : Calls Try.prog 31 #[.string ⟨#[113]⟩] w fun e w' => e = .returned (.bool false) ∧ w' = w := by
  go_enter Try.func31, Try.ntmps31
  go_wp2_with fail
  go_ret
  exact ⟨rfl, rfl⟩
theorem plain_113 (w : World) : Calls Try.prog 48 #[.string ⟨#[113]⟩] w fun e w' => e = .returned (.bool true) ∧ Only [] w w' := by
  obtain ⟨s, hs⟩ : ∃ s : ByteArray, s = ⟨#[113]⟩ := ⟨_, rfl⟩
  rw [← hs]
  have hsz : s.size = 1 := by rw [hs]; rfl
  have hw : ∀ h : 0 < s.size, wrap32 (((s[0]'h).toNat : Nat) : Int) = 113 := by subst hs; intro h; show wrap32 ((113 : Nat) : Int) = 113; unfold wrap32; omega
  have he : s.toList.isEmpty = false := by subst hs; rw [Lib.toList_data]; rfl
  have HC0 := Lib.hid (fun wx => digit_113 wx)
  have HC1 : Hid (∀ wx, Calls Try.prog 69 #[.string s, .func (.func 66) #[] #[]] wx fun e w' => e = .returned (.bool false) ∧ Only [] wx w') := Lib.hid (by rw [hs]; exact cont_113)
  clear hs
  go_enter Try.func48, Try.ntmps48
  go_wp2_with fail
  refine (HC0.out _).mono ?_
  rintro e wn ⟨rfl, hwn⟩
  have hwn := hwn.symm
  subst hwn
  go_wp2_with fail
  refine (HC1.out _).mono ?_
  rintro e w3 ⟨rfl, ho3⟩
  have HO := Lib.hid ho3
  clear ho3
  go_wp2_with fail
  go_ret
  exact ⟨rfl, HO.out⟩
theorem name_113 (w : World) : Calls Try.prog 30 #[.string ⟨#[113]⟩] w fun e w' => e = .returned (.bool true) ∧ Only [] w w' := by
  have HC0 := Lib.hid (fun wx => plain_113 wx)
  have HC1 := Lib.hid (fun wx => key_113 wx)
  have HO := Lib.hid (Only.refl [] w)
  go_enter Try.func30, Try.ntmps30
  go_wp2_with fail
  refine (HC0.out _).mono ?_
  rintro e w2 ⟨rfl, ho2⟩
  replace HO := Lib.hid (HO.out.trans ho2 (by simp))
  clear ho2
  go_wp2_with fail
  refine (HC1.out _).mono ?_
  rintro e wn ⟨rfl, hwn⟩
  have hwn := hwn.symm
  subst hwn
  go_wp2_with fail
  go_ret
  exact ⟨rfl, HO.out⟩
theorem letter_71 (w : World) : Calls Try.prog 80 #[.int .i32 71] w fun e w' => e = .returned (.bool true) ∧ w' = w := by
  go_enter Try.func80, Try.ntmps80
  go_wp2_with fail
  go_ret
  exact ⟨rfl, rfl⟩
theorem digit_71 (w : World) : Calls Try.prog 68 #[.int .i32 71] w fun e w' => e = .returned (.bool false) ∧ w' = w := by
  go_enter Try.func68, Try.ntmps68
  go_wp2_with fail
  go_ret
  exact ⟨rfl, rfl⟩
theorem part_71 (w : World) : Calls Try.prog 67 #[.int .i32 71] w fun e w' => e = .returned (.bool true) ∧ w' = w := by
  have HC0 := Lib.hid (fun wx => letter_71 wx)
  go_enter Try.func67, Try.ntmps67
  go_wp2_with fail
  refine (HC0.out _).mono ?_
  rintro e wn ⟨rfl, hwn⟩
  have hwn := hwn.symm
  subst hwn
  go_wp2_with fail
  go_ret
  exact ⟨rfl, rfl⟩
theorem other_71 (w : World) : Calls Try.prog 66 #[.int .i32 71] w fun e w' => e = .returned (.bool false) ∧ w' = w := by
  have HC0 := Lib.hid (fun wx => part_71 wx)
  go_enter Try.func66, Try.ntmps66
  go_wp2_with fail
  refine (HC0.out _).mono ?_
  rintro e wn ⟨rfl, hwn⟩
  have hwn := hwn.symm
  subst hwn
  go_wp2_with fail
  go_ret
  exact ⟨rfl, rfl⟩
set_option maxHeartbeats 2000000 in
theorem idx_71 (w : World) : Calls Try.prog 85 #[.string ⟨#[71]⟩, .func (.func 66) #[] #[], .bool true] w fun e w' => e = .returned (.int .i64 (-1)) ∧ Only [] w w' := by
  have HP := Lib.hid (fun wx => other_71 wx)
  have heg := eg_other
  obtain ⟨s, hs⟩ : ∃ s : ByteArray, s = ⟨#[71]⟩ := ⟨_, rfl⟩
  rw [← hs]
  have hsz : s.size = 1 := by rw [hs]; rfl
  have hs0 : ∀ h : 0 < s.size, (s[0]'h).toNat = 71 := by subst hs; intro h; rfl
  have HS := Lib.hid (And.intro hsz hs0)
  clear hs hsz hs0
  go_enter Try.func85, Try.ntmps85
  go_wp2_with fail
  go_loopg [] 1 (fun g wx => ∃ pos : Nat, wx.heap[w.heap.size]? = some (.stringIter s pos) ∧ Below w.heap.size w wx ∧ pos + g = 1)
  case atStart => exact ⟨0, World.iter_heap w s 0, (Below.refl _ w).alloc (Nat.le_refl _) _, by omega⟩
  case round =>
    obtain ⟨pos, hit, hbw, hfu⟩ := hrel
    by_cases hp : pos = 0
    · subst hp
      obtain rfl : gk = 1 := by omega
      have hnx : ∀ ty, (Instr.next (.pointer (some ⟨w.heap.size, 0, none⟩)) true ty).run Try.prog wr = .ok (.tuple #[.bool true, .int .i64 0, .int .i32 71]) (wr.iterAt w.heap.size s 1) := fun ty => by
        have hz : 0 < s.size := by rw [HS.out.1]; omega
        have h := Lib.run_next_ascii_at (P := Try.prog) wr w.heap.size s 0 ty hit hz (by rw [HS.out.2 hz]; decide)
        rw [HS.out.2 hz] at h
        exact h
      have hit2 := Lib.iterAt_heap wr w.heap.size s 0 1 hit
      have hbw2 := Lib.below_iterAt hbw (k := w.heap.size) (Nat.le_refl _) s 1
      obtain ⟨W, hWd⟩ : ∃ W, wr.iterAt w.heap.size s 1 = W := ⟨_, rfl⟩
      rw [hWd] at hnx hit2 hbw2
      have HB := Lib.hid (And.intro hit2 hbw2)
      clear hit hbw hWd hit2 hbw2
      go_wp2_with fail
      refine (HP.out _).mono ?_
      rintro e wn ⟨rfl, hwn⟩
      have hwn := hwn.symm
      subst hwn
      go_wp2_with fail
      go_roundg 0
      case measure => omega
      case rel => exact ⟨1, HB.out.1, HB.out.2, by omega⟩
    · obtain rfl : pos = 1 := by omega
      have hnx : ∀ ty, (Instr.next (.pointer (some ⟨w.heap.size, 0, none⟩)) true ty).run Try.prog wr = .ok (.tuple #[.bool false]) wr := fun ty => Lib.run_next_end_at wr w.heap.size s 1 ty hit (by rw [HS.out.1]; omega)
      have HB := Lib.hid hbw
      clear hit hbw
      go_wp2_with fail
      go_ret
      exact ⟨rfl, Only.of_below HB.out⟩
theorem index_71 (w : World) : Calls Try.prog 81 #[.string ⟨#[71]⟩, .func (.func 66) #[] #[]] w fun e w' => e = .returned (.int .i64 (-1)) ∧ Only [] w w' := by
  have HC0 := Lib.hid (fun wx => idx_71 wx)
  have HO := Lib.hid (Only.refl [] w)
  go_enter Try.func81, Try.ntmps81
  go_wp2_with fail
  refine (HC0.out _).mono ?_
  rintro e w2 ⟨rfl, ho2⟩
  replace HO := Lib.hid (HO.out.trans ho2 (by simp))
  clear ho2
  go_wp2_with fail
  go_ret
  exact ⟨rfl, HO.out⟩
theorem cont_71 (w : World) : Calls Try.prog 69 #[.string ⟨#[71]⟩, .func (.func 66) #[] #[]] w fun e w' => e = .returned (.bool false) ∧ Only [] w w' := by
  have HC0 := Lib.hid (fun wx => index_71 wx)
  have HO := Lib.hid (Only.refl [] w)
  go_enter Try.func69, Try.ntmps69
  go_wp2_with fail
  refine (HC0.out _).mono ?_
  rintro e w2 ⟨rfl, ho2⟩
  replace HO := Lib.hid (HO.out.trans ho2 (by simp))
  clear ho2
  go_wp2_with fail
  go_ret
  exact ⟨rfl, HO.out⟩
theorem key_71 (w : World) : Calls Try.prog 31 #[.string ⟨#[71]⟩] w fun e w' => e = .returned (.bool false) ∧ w' = w := by
  go_enter Try.func31, Try.ntmps31
  go_wp2_with fail
  go_ret
  exact ⟨rfl, rfl⟩
theorem plain_71 (w : World) : Calls Try.prog 48 #[.string ⟨#[71]⟩] w fun e w' => e = .returned (.bool true) ∧ Only [] w w' := by
  obtain ⟨s, hs⟩ : ∃ s : ByteArray, s = ⟨#[71]⟩ := ⟨_, rfl⟩
  rw [← hs]
  have hsz : s.size = 1 := by rw [hs]; rfl
  have hw : ∀ h : 0 < s.size, wrap32 (((s[0]'h).toNat : Nat) : Int) = 71 := by subst hs; intro h; show wrap32 ((71 : Nat) : Int) = 71; unfold wrap32; omega
  have he : s.toList.isEmpty = false := by subst hs; rw [Lib.toList_data]; rfl
  have HC0 := Lib.hid (fun wx => digit_71 wx)
  have HC1 : Hid (∀ wx, Calls Try.prog 69 #[.string s, .func (.func 66) #[] #[]] wx fun e w' => e = .returned (.bool false) ∧ Only [] wx w') := Lib.hid (by rw [hs]; exact cont_71)
  clear hs
  go_enter Try.func48, Try.ntmps48
  go_wp2_with fail
  refine (HC0.out _).mono ?_
  rintro e wn ⟨rfl, hwn⟩
  have hwn := hwn.symm
  subst hwn
  go_wp2_with fail
  refine (HC1.out _).mono ?_
  rintro e w3 ⟨rfl, ho3⟩
  have HO := Lib.hid ho3
  clear ho3
  go_wp2_with fail
  go_ret
  exact ⟨rfl, HO.out⟩
theorem name_71 (w : World) : Calls Try.prog 30 #[.string ⟨#[71]⟩] w fun e w' => e = .returned (.bool true) ∧ Only [] w w' := by
  have HC0 := Lib.hid (fun wx => plain_71 wx)
  have HC1 := Lib.hid (fun wx => key_71 wx)
  have HO := Lib.hid (Only.refl [] w)
  go_enter Try.func30, Try.ntmps30
  go_wp2_with fail
  refine (HC0.out _).mono ?_
  rintro e w2 ⟨rfl, ho2⟩
  replace HO := Lib.hid (HO.out.trans ho2 (by simp))
  clear ho2
  go_wp2_with fail
  refine (HC1.out _).mono ?_
  rintro e wn ⟨rfl, hwn⟩
  have hwn := hwn.symm
  subst hwn
  go_wp2_with fail
  go_ret
  exact ⟨rfl, HO.out⟩
theorem letter_104 (w : World) : Calls Try.prog 80 #[.int .i32 104] w fun e w' => e = .returned (.bool true) ∧ w' = w := by
  go_enter Try.func80, Try.ntmps80
  go_wp2_with fail
  go_ret
  exact ⟨rfl, rfl⟩
theorem digit_104 (w : World) : Calls Try.prog 68 #[.int .i32 104] w fun e w' => e = .returned (.bool false) ∧ w' = w := by
  go_enter Try.func68, Try.ntmps68
  go_wp2_with fail
  go_ret
  exact ⟨rfl, rfl⟩
theorem part_104 (w : World) : Calls Try.prog 67 #[.int .i32 104] w fun e w' => e = .returned (.bool true) ∧ w' = w := by
  have HC0 := Lib.hid (fun wx => letter_104 wx)
  go_enter Try.func67, Try.ntmps67
  go_wp2_with fail
  refine (HC0.out _).mono ?_
  rintro e wn ⟨rfl, hwn⟩
  have hwn := hwn.symm
  subst hwn
  go_wp2_with fail
  go_ret
  exact ⟨rfl, rfl⟩
theorem other_104 (w : World) : Calls Try.prog 66 #[.int .i32 104] w fun e w' => e = .returned (.bool false) ∧ w' = w := by
  have HC0 := Lib.hid (fun wx => part_104 wx)
  go_enter Try.func66, Try.ntmps66
  go_wp2_with fail
  refine (HC0.out _).mono ?_
  rintro e wn ⟨rfl, hwn⟩
  have hwn := hwn.symm
  subst hwn
  go_wp2_with fail
  go_ret
  exact ⟨rfl, rfl⟩
set_option maxHeartbeats 2000000 in
theorem idx_104 (w : World) : Calls Try.prog 85 #[.string ⟨#[104]⟩, .func (.func 66) #[] #[], .bool true] w fun e w' => e = .returned (.int .i64 (-1)) ∧ Only [] w w' := by
  have HP := Lib.hid (fun wx => other_104 wx)
  have heg := eg_other
  obtain ⟨s, hs⟩ : ∃ s : ByteArray, s = ⟨#[104]⟩ := ⟨_, rfl⟩
  rw [← hs]
  have hsz : s.size = 1 := by rw [hs]; rfl
  have hs0 : ∀ h : 0 < s.size, (s[0]'h).toNat = 104 := by subst hs; intro h; rfl
  have HS := Lib.hid (And.intro hsz hs0)
  clear hs hsz hs0
  go_enter Try.func85, Try.ntmps85
  go_wp2_with fail
  go_loopg [] 1 (fun g wx => ∃ pos : Nat, wx.heap[w.heap.size]? = some (.stringIter s pos) ∧ Below w.heap.size w wx ∧ pos + g = 1)
  case atStart => exact ⟨0, World.iter_heap w s 0, (Below.refl _ w).alloc (Nat.le_refl _) _, by omega⟩
  case round =>
    obtain ⟨pos, hit, hbw, hfu⟩ := hrel
    by_cases hp : pos = 0
    · subst hp
      obtain rfl : gk = 1 := by omega
      have hnx : ∀ ty, (Instr.next (.pointer (some ⟨w.heap.size, 0, none⟩)) true ty).run Try.prog wr = .ok (.tuple #[.bool true, .int .i64 0, .int .i32 104]) (wr.iterAt w.heap.size s 1) := fun ty => by
        have hz : 0 < s.size := by rw [HS.out.1]; omega
        have h := Lib.run_next_ascii_at (P := Try.prog) wr w.heap.size s 0 ty hit hz (by rw [HS.out.2 hz]; decide)
        rw [HS.out.2 hz] at h
        exact h
      have hit2 := Lib.iterAt_heap wr w.heap.size s 0 1 hit
      have hbw2 := Lib.below_iterAt hbw (k := w.heap.size) (Nat.le_refl _) s 1
      obtain ⟨W, hWd⟩ : ∃ W, wr.iterAt w.heap.size s 1 = W := ⟨_, rfl⟩
      rw [hWd] at hnx hit2 hbw2
      have HB := Lib.hid (And.intro hit2 hbw2)
      clear hit hbw hWd hit2 hbw2
      go_wp2_with fail
      refine (HP.out _).mono ?_
      rintro e wn ⟨rfl, hwn⟩
      have hwn := hwn.symm
      subst hwn
      go_wp2_with fail
      go_roundg 0
      case measure => omega
      case rel => exact ⟨1, HB.out.1, HB.out.2, by omega⟩
    · obtain rfl : pos = 1 := by omega
      have hnx : ∀ ty, (Instr.next (.pointer (some ⟨w.heap.size, 0, none⟩)) true ty).run Try.prog wr = .ok (.tuple #[.bool false]) wr := fun ty => Lib.run_next_end_at wr w.heap.size s 1 ty hit (by rw [HS.out.1]; omega)
      have HB := Lib.hid hbw
      clear hit hbw
      go_wp2_with fail
      go_ret
      exact ⟨rfl, Only.of_below HB.out⟩
theorem index_104 (w : World) : Calls Try.prog 81 #[.string ⟨#[104]⟩, .func (.func 66) #[] #[]] w fun e w' => e = .returned (.int .i64 (-1)) ∧ Only [] w w' := by
  have HC0 := Lib.hid (fun wx => idx_104 wx)
  have HO := Lib.hid (Only.refl [] w)
  go_enter Try.func81, Try.ntmps81
  go_wp2_with fail
  refine (HC0.out _).mono ?_
  rintro e w2 ⟨rfl, ho2⟩
  replace HO := Lib.hid (HO.out.trans ho2 (by simp))
  clear ho2
  go_wp2_with fail
  go_ret
  exact ⟨rfl, HO.out⟩
theorem cont_104 (w : World) : Calls Try.prog 69 #[.string ⟨#[104]⟩, .func (.func 66) #[] #[]] w fun e w' => e = .returned (.bool false) ∧ Only [] w w' := by
  have HC0 := Lib.hid (fun wx => index_104 wx)
  have HO := Lib.hid (Only.refl [] w)
  go_enter Try.func69, Try.ntmps69
  go_wp2_with fail
  refine (HC0.out _).mono ?_
  rintro e w2 ⟨rfl, ho2⟩
  replace HO := Lib.hid (HO.out.trans ho2 (by simp))
  clear ho2
  go_wp2_with fail
  go_ret
  exact ⟨rfl, HO.out⟩
theorem key_104 (w : World) : Calls Try.prog 31 #[.string ⟨#[104]⟩] w fun e w' => e = .returned (.bool false) ∧ w' = w := by
  go_enter Try.func31, Try.ntmps31
  go_wp2_with fail
  go_ret
  exact ⟨rfl, rfl⟩
theorem plain_104 (w : World) : Calls Try.prog 48 #[.string ⟨#[104]⟩] w fun e w' => e = .returned (.bool true) ∧ Only [] w w' := by
  obtain ⟨s, hs⟩ : ∃ s : ByteArray, s = ⟨#[104]⟩ := ⟨_, rfl⟩
  rw [← hs]
  have hsz : s.size = 1 := by rw [hs]; rfl
  have hw : ∀ h : 0 < s.size, wrap32 (((s[0]'h).toNat : Nat) : Int) = 104 := by subst hs; intro h; show wrap32 ((104 : Nat) : Int) = 104; unfold wrap32; omega
  have he : s.toList.isEmpty = false := by subst hs; rw [Lib.toList_data]; rfl
  have HC0 := Lib.hid (fun wx => digit_104 wx)
  have HC1 : Hid (∀ wx, Calls Try.prog 69 #[.string s, .func (.func 66) #[] #[]] wx fun e w' => e = .returned (.bool false) ∧ Only [] wx w') := Lib.hid (by rw [hs]; exact cont_104)
  clear hs
  go_enter Try.func48, Try.ntmps48
  go_wp2_with fail
  refine (HC0.out _).mono ?_
  rintro e wn ⟨rfl, hwn⟩
  have hwn := hwn.symm
  subst hwn
  go_wp2_with fail
  refine (HC1.out _).mono ?_
  rintro e w3 ⟨rfl, ho3⟩
  have HO := Lib.hid ho3
  clear ho3
  go_wp2_with fail
  go_ret
  exact ⟨rfl, HO.out⟩
theorem name_104 (w : World) : Calls Try.prog 30 #[.string ⟨#[104]⟩] w fun e w' => e = .returned (.bool true) ∧ Only [] w w' := by
  have HC0 := Lib.hid (fun wx => plain_104 wx)
  have HC1 := Lib.hid (fun wx => key_104 wx)
  have HO := Lib.hid (Only.refl [] w)
  go_enter Try.func30, Try.ntmps30
  go_wp2_with fail
  refine (HC0.out _).mono ?_
  rintro e w2 ⟨rfl, ho2⟩
  replace HO := Lib.hid (HO.out.trans ho2 (by simp))
  clear ho2
  go_wp2_with fail
  refine (HC1.out _).mono ?_
  rintro e wn ⟨rfl, hwn⟩
  have hwn := hwn.symm
  subst hwn
  go_wp2_with fail
  go_ret
  exact ⟨rfl, HO.out⟩
theorem letter_112 (w : World) : Calls Try.prog 80 #[.int .i32 112] w fun e w' => e = .returned (.bool true) ∧ w' = w := by
  go_enter Try.func80, Try.ntmps80
  go_wp2_with fail
  go_ret
  exact ⟨rfl, rfl⟩
theorem digit_112 (w : World) : Calls Try.prog 68 #[.int .i32 112] w fun e w' => e = .returned (.bool false) ∧ w' = w := by
  go_enter Try.func68, Try.ntmps68
  go_wp2_with fail
  go_ret
  exact ⟨rfl, rfl⟩
theorem part_112 (w : World) : Calls Try.prog 67 #[.int .i32 112] w fun e w' => e = .returned (.bool true) ∧ w' = w := by
  have HC0 := Lib.hid (fun wx => letter_112 wx)
  go_enter Try.func67, Try.ntmps67
  go_wp2_with fail
  refine (HC0.out _).mono ?_
  rintro e wn ⟨rfl, hwn⟩
  have hwn := hwn.symm
  subst hwn
  go_wp2_with fail
  go_ret
  exact ⟨rfl, rfl⟩
theorem other_112 (w : World) : Calls Try.prog 66 #[.int .i32 112] w fun e w' => e = .returned (.bool false) ∧ w' = w := by
  have HC0 := Lib.hid (fun wx => part_112 wx)
  go_enter Try.func66, Try.ntmps66
  go_wp2_with fail
  refine (HC0.out _).mono ?_
  rintro e wn ⟨rfl, hwn⟩
  have hwn := hwn.symm
  subst hwn
  go_wp2_with fail
  go_ret
  exact ⟨rfl, rfl⟩
set_option maxHeartbeats 2000000 in
theorem idx_112 (w : World) : Calls Try.prog 85 #[.string ⟨#[112]⟩, .func (.func 66) #[] #[], .bool true] w fun e w' => e = .returned (.int .i64 (-1)) ∧ Only [] w w' := by
  have HP := Lib.hid (fun wx => other_112 wx)
  have heg := eg_other
  obtain ⟨s, hs⟩ : ∃ s : ByteArray, s = ⟨#[112]⟩ := ⟨_, rfl⟩
  rw [← hs]
  have hsz : s.size = 1 := by rw [hs]; rfl
  have hs0 : ∀ h : 0 < s.size, (s[0]'h).toNat = 112 := by subst hs; intro h; rfl
  have HS := Lib.hid (And.intro hsz hs0)
  clear hs hsz hs0
  go_enter Try.func85, Try.ntmps85
  go_wp2_with fail
  go_loopg [] 1 (fun g wx => ∃ pos : Nat, wx.heap[w.heap.size]? = some (.stringIter s pos) ∧ Below w.heap.size w wx ∧ pos + g = 1)
  case atStart => exact ⟨0, World.iter_heap w s 0, (Below.refl _ w).alloc (Nat.le_refl _) _, by omega⟩
  case round =>
    obtain ⟨pos, hit, hbw, hfu⟩ := hrel
    by_cases hp : pos = 0
    · subst hp
      obtain rfl : gk = 1 := by omega
      have hnx : ∀ ty, (Instr.next (.pointer (some ⟨w.heap.size, 0, none⟩)) true ty).run Try.prog wr = .ok (.tuple #[.bool true, .int .i64 0, .int .i32 112]) (wr.iterAt w.heap.size s 1) := fun ty => by
        have hz : 0 < s.size := by rw [HS.out.1]; omega
        have h := Lib.run_next_ascii_at (P := Try.prog) wr w.heap.size s 0 ty hit hz (by rw [HS.out.2 hz]; decide)
        rw [HS.out.2 hz] at h
        exact h
      have hit2 := Lib.iterAt_heap wr w.heap.size s 0 1 hit
      have hbw2 := Lib.below_iterAt hbw (k := w.heap.size) (Nat.le_refl _) s 1
      obtain ⟨W, hWd⟩ : ∃ W, wr.iterAt w.heap.size s 1 = W := ⟨_, rfl⟩
      rw [hWd] at hnx hit2 hbw2
      have HB := Lib.hid (And.intro hit2 hbw2)
      clear hit hbw hWd hit2 hbw2
      go_wp2_with fail
      refine (HP.out _).mono ?_
      rintro e wn ⟨rfl, hwn⟩
      have hwn := hwn.symm
      subst hwn
      go_wp2_with fail
      go_roundg 0
      case measure => omega
      case rel => exact ⟨1, HB.out.1, HB.out.2, by omega⟩
    · obtain rfl : pos = 1 := by omega
      have hnx : ∀ ty, (Instr.next (.pointer (some ⟨w.heap.size, 0, none⟩)) true ty).run Try.prog wr = .ok (.tuple #[.bool false]) wr := fun ty => Lib.run_next_end_at wr w.heap.size s 1 ty hit (by rw [HS.out.1]; omega)
      have HB := Lib.hid hbw
      clear hit hbw
      go_wp2_with fail
      go_ret
      exact ⟨rfl, Only.of_below HB.out⟩
theorem index_112 (w : World) : Calls Try.prog 81 #[.string ⟨#[112]⟩, .func (.func 66) #[] #[]] w fun e w' => e = .returned (.int .i64 (-1)) ∧ Only [] w w' := by
  have HC0 := Lib.hid (fun wx => idx_112 wx)
  have HO := Lib.hid (Only.refl [] w)
  go_enter Try.func81, Try.ntmps81
  go_wp2_with fail
  refine (HC0.out _).mono ?_
  rintro e w2 ⟨rfl, ho2⟩
  replace HO := Lib.hid (HO.out.trans ho2 (by simp))
  clear ho2
  go_wp2_with fail
  go_ret
  exact ⟨rfl, HO.out⟩
theorem cont_112 (w : World) : Calls Try.prog 69 #[.string ⟨#[112]⟩, .func (.func 66) #[] #[]] w fun e w' => e = .returned (.bool false) ∧ Only [] w w' := by
  have HC0 := Lib.hid (fun wx => index_112 wx)
  have HO := Lib.hid (Only.refl [] w)
  go_enter Try.func69, Try.ntmps69
  go_wp2_with fail
  refine (HC0.out _).mono ?_
  rintro e w2 ⟨rfl, ho2⟩
  replace HO := Lib.hid (HO.out.trans ho2 (by simp))
  clear ho2
  go_wp2_with fail
  go_ret
  exact ⟨rfl, HO.out⟩
theorem key_112 (w : World) : Calls Try.prog 31 #[.string ⟨#[112]⟩] w fun e w' => e = .returned (.bool false) ∧ w' = w := by
  go_enter Try.func31, Try.ntmps31
  go_wp2_with fail
  go_ret
  exact ⟨rfl, rfl⟩
theorem plain_112 (w : World) : Calls Try.prog 48 #[.string ⟨#[112]⟩] w fun e w' => e = .returned (.bool true) ∧ Only [] w w' := by
  obtain ⟨s, hs⟩ : ∃ s : ByteArray, s = ⟨#[112]⟩ := ⟨_, rfl⟩
  rw [← hs]
  have hsz : s.size = 1 := by rw [hs]; rfl
  have hw : ∀ h : 0 < s.size, wrap32 (((s[0]'h).toNat : Nat) : Int) = 112 := by subst hs; intro h; show wrap32 ((112 : Nat) : Int) = 112; unfold wrap32; omega
  have he : s.toList.isEmpty = false := by subst hs; rw [Lib.toList_data]; rfl
  have HC0 := Lib.hid (fun wx => digit_112 wx)
  have HC1 : Hid (∀ wx, Calls Try.prog 69 #[.string s, .func (.func 66) #[] #[]] wx fun e w' => e = .returned (.bool false) ∧ Only [] wx w') := Lib.hid (by rw [hs]; exact cont_112)
  clear hs
  go_enter Try.func48, Try.ntmps48
  go_wp2_with fail
  refine (HC0.out _).mono ?_
  rintro e wn ⟨rfl, hwn⟩
  have hwn := hwn.symm
  subst hwn
  go_wp2_with fail
  refine (HC1.out _).mono ?_
  rintro e w3 ⟨rfl, ho3⟩
  have HO := Lib.hid ho3
  clear ho3
  go_wp2_with fail
  go_ret
  exact ⟨rfl, HO.out⟩
theorem name_112 (w : World) : Calls Try.prog 30 #[.string ⟨#[112]⟩] w fun e w' => e = .returned (.bool true) ∧ Only [] w w' := by
  have HC0 := Lib.hid (fun wx => plain_112 wx)
  have HC1 := Lib.hid (fun wx => key_112 wx)
  have HO := Lib.hid (Only.refl [] w)
  go_enter Try.func30, Try.ntmps30
  go_wp2_with fail
  refine (HC0.out _).mono ?_
  rintro e w2 ⟨rfl, ho2⟩
  replace HO := Lib.hid (HO.out.trans ho2 (by simp))
  clear ho2
  go_wp2_with fail
  refine (HC1.out _).mono ?_
  rintro e wn ⟨rfl, hwn⟩
  have hwn := hwn.symm
  subst hwn
  go_wp2_with fail
  go_ret
  exact ⟨rfl, HO.out⟩
end Go.Proofs.Ytmjkohlhbboapaa.Tree
