/- No cache, and one that nobody made: CacheNil. -/
import Derived.Test.YthgfmoogagldmaaGreatCacheE
import Derived.Test.YthgfmoogagldmaaGreatJournalF
namespace Go.Proofs.YthgfmoogagldmaaGreat.Cache
open Go.RowKit Go.Maps Go.Shelf Journal Disk
set_option linter.unusedVariables false
set_option maxRecDepth 100000
section
variable {w w' : World} {C : Value}
theorem nilc_get (h : NoneC w C) (s : ByteArray) : Calls Tryz.prog 41 #[C, .string s] w fun x w' => x = .returned (.tuple #[.string ⟨#[]⟩, .bool false]) ∧ w' = w := by
  have HN := Lib.hid (h w (Only.refl _ _))
  clear h
  go_enter Tryz.func41, Tryz.ntmps41
  go_wp2_with (go_at_call 95; refine HN.out.mono ?_; rintro x w2 ⟨rfl, hw2⟩; have hw2 := hw2.symm; subst hw2)
  exact bodyPost_ret (v := .tuple #[.string ⟨#[]⟩, .bool false]) (by simp [results, Tryz.results41, go_sem]) rfl ⟨rfl, rfl⟩
theorem nilc_put (h : NoneC w C) (s t : ByteArray) : Calls Tryz.prog 43 #[C, .string s, .string t] w fun x w' => x = .returned (.int .i64 1) ∧ Only [] w w' := by
  have ho : Only [] w (w.alloc (.cells #[.string s, .string t] 69)) := (Only.refl [] w).alloc _
  have hnb := Blk.new w 69 #[.string ⟨#[]⟩, .string ⟨#[]⟩]
  have n0 := hnb.cell 0
  have n1 := hnb.cell 1
  have f0 := hnb.frozen 0
  have f1 := hnb.frozen 1
  have HN := Lib.hid (h _ ho)
  have HO := Lib.hid ho
  clear h ho hnb
  go_enter Tryz.func43, Tryz.ntmps43
  go_wp2_with (go_at_call 95; refine HN.out.mono ?_; rintro x w2 ⟨rfl, hw2⟩; have hw2 := hw2.symm; subst hw2)
  go_ret
  exact ⟨rfl, HO.out⟩
theorem nilc_entries (h : NoneC w C) : Calls Tryz.prog 44 #[C] w fun x w' => x = .returned (.slice none 0 0) ∧ w' = w := by
  have HN := Lib.hid (h w (Only.refl _ _))
  clear h
  go_enter Tryz.func44, Tryz.ntmps44
  go_wp2_with (go_at_call 95; refine HN.out.mono ?_; rintro x w2 ⟨rfl, hw2⟩; have hw2 := hw2.symm; subst hw2)
  go_ret
  exact ⟨rfl, rfl⟩
theorem nilc_evicted (h : NoneC w C) : Calls Tryz.prog 45 #[C] w fun x w' => x = .returned (.int .i64 0) ∧ w' = w := by
  have HN := Lib.hid (h w (Only.refl _ _))
  clear h
  go_enter Tryz.func45, Tryz.ntmps45
  go_wp2_with (go_at_call 95; refine HN.out.mono ?_; rintro x w2 ⟨rfl, hw2⟩; have hw2 := hw2.symm; subst hw2)
  go_ret
  exact ⟨rfl, rfl⟩
theorem nilc_free (h : NoneC w C) : Calls Tryz.prog 46 #[C] w fun x w' => x = .returned (.int .i64 0) ∧ w' = w := by
  have HN := Lib.hid (h w (Only.refl _ _))
  clear h
  go_enter Tryz.func46, Tryz.ntmps46
  go_wp2_with (go_at_call 95; refine HN.out.mono ?_; rintro x w2 ⟨rfl, hw2⟩; have hw2 := hw2.symm; subst hw2)
  go_ret
  exact ⟨rfl, rfl⟩
theorem nilc_down (h : NoneC w C) : Calls Tryz.prog 47 #[C] w fun x w' => x = .returned (.bool true) ∧ w' = w := by
  have HN := Lib.hid (h w (Only.refl _ _))
  clear h
  go_enter Tryz.func47, Tryz.ntmps47
  go_wp2_with (go_at_call 95; refine HN.out.mono ?_; rintro x w2 ⟨rfl, hw2⟩; have hw2 := hw2.symm; subst hw2)
  go_ret
  exact ⟨rfl, rfl⟩
theorem copen_nil (w : World) : Calls Tryz.prog 48 #[.pointer none] w fun x w' => x = .returned (.tuple #[.pointer none, .int .i64 1]) ∧ w' = w := by
  have HS := Lib.hid (Journal.open_nil w)
  go_enter Tryz.func48, Tryz.ntmps48
  go_wp2_with (go_at_call 13; refine HS.out.mono ?_; rintro x w2 ⟨rfl, hw2⟩; have hw2 := hw2.symm; subst hw2)
  exact bodyPost_ret (v := .tuple #[.pointer none, .int .i64 1]) (by simp [results, Tryz.results48, go_sem]) rfl ⟨rfl, rfl⟩
theorem zeroc (w : World) : (w.alloc (.cells #[.pointer none, .map none, .map none, .int .i64 0, .int .i64 0] 88)).cell? ⟨w.heap.size, 2, none⟩ = some (.map none) := (Blk.new w 88 #[.pointer none, .map none, .map none, .int .i64 0, .int .i64 0]).cell 2
set_option maxHeartbeats 1000000 in
theorem cacheNil_any (s : ByteArray) (w : World) : Calls Tryz.prog 7 #[.string s] w fun x w' => x = .returned (.bool true) ∧ Only [] w w' := by
  have HM := Lib.hid (fun z w => num7_any z w)
  have HK := Lib.hid (fun w => knows7_any w)
  by_cases hn : 500 < s.size
  · have e1 : decide ((500 : Int) < (s.size : Int)) = true := decide_eq_true (by omega)
    have e1' : decide (500 < s.size) = true := decide_eq_true hn
    go_enter Tryz.func7, Tryz.ntmps7
    go_wp2_with (go_at_call 36; refine (HK.out _).mono ?_; rintro x w2 ⟨rfl, ho2⟩)
    go_ret
    exact ⟨rfl, ho2⟩
  · have e1 : decide ((500 : Int) < (s.size : Int)) = false := decide_eq_false (by omega)
    have e1' : decide (500 < s.size) = false := decide_eq_false hn
    have HON := Lib.hid (fun w => copen_nil w)
    go_enter Tryz.func7, Tryz.ntmps7
    go_wp2_with fail
    go_loopw [3, 4] (fun c i wr => ∃ k : Nat, k ≤ 2 ∧ i = .int .i64 k ∧ NoneC wr c ∧ Only [] w wr) (fun _ i _ => 2 - (Go.RowKit.intOf i).toNat)
    case atStart => exact ⟨0, by omega, rfl, noneC_nil w, Only.refl _ _⟩
    case round =>
      obtain ⟨k, hk, rfl, hj, ho⟩ := hrel
      by_cases hlt : k < 2
      · have d1 : decide ((k : Int) < 2) = true := decide_eq_true (by omega)
        have d1' : decide (k < 2) = true := decide_eq_true hlt
        have HJ := Lib.hid hj
        have HO := Lib.hid ho
        have HGT := Lib.hid (nilc_get hj s)
        have HPT := Lib.hid (nilc_put hj s ⟨#[]⟩)
        clear hj ho
        go_wp2_with (first
          | (go_at_call 41; refine HGT.out.mono ?_; rintro x w2 ⟨rfl, hw2⟩; have hw2 := hw2.symm; subst hw2)
          | (go_at_call 43; refine HPT.out.mono ?_; rintro x w3 ⟨rfl, ho3⟩; have HJ3 := Lib.hid (HJ.out.only ho3); have HO3 := Lib.hid (HO.out.trans ho3 (by simp)); clear ho3)
          | (go_at_call 44; refine (nilc_entries HJ3.out).mono ?_; rintro x w4 ⟨rfl, hw4⟩; have hw4 := hw4.symm; subst hw4)
          | (go_at_call 45; refine (nilc_evicted HJ3.out).mono ?_; rintro x w4 ⟨rfl, hw4⟩; have hw4 := hw4.symm; subst hw4)
          | (go_at_call 46; refine (nilc_free HJ3.out).mono ?_; rintro x w4 ⟨rfl, hw4⟩; have hw4 := hw4.symm; subst hw4)
          | (go_at_call 47; refine (nilc_down HJ3.out).mono ?_; rintro x w4 ⟨rfl, hw4⟩; have hw4 := hw4.symm; subst hw4)
          | (go_at_call 42; refine (HM.out _ _).mono ?_; rintro x wn ⟨rfl, hwn⟩; have hwn := hwn.symm; subst hwn))
        go_roundw
        case measure => simp [Go.RowKit.intOf]; omega
        case rel => exact ⟨k + 1, by omega, by go_num, noneC_zero (zeroc w3), HO3.out.alloc _⟩
      · obtain rfl : k = 2 := by omega
        have d1 : decide (((2 : Nat) : Int) < 2) = false := by decide
        have HO := Lib.hid ho
        clear hj ho
        go_wp2_with (first
          | (go_at_call 48; refine (HON.out wr).mono ?_; rintro x w2 ⟨rfl, hw2⟩; have hw2 := hw2.symm; subst hw2)
          | (go_at_call 42; refine (HM.out _ _).mono ?_; rintro x wn ⟨rfl, hwn⟩; have hwn := hwn.symm; subst hwn)
          | (go_at_call 36; refine (HK.out _).mono ?_; rintro x w5 ⟨rfl, ho5⟩))
        go_ret
        exact ⟨rfl, HO.out.trans ho5 (by simp)⟩
end
end Go.Proofs.YthgfmoogagldmaaGreat.Cache
