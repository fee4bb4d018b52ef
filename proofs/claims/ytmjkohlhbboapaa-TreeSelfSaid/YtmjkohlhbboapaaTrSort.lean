/- Two texts that rise: sorted and compact as they are. PRINTED by wip/gen_trsort.py. -/
import Derived.Test.YtmjkohlhbboapaaTrCalls
import Derived.BigRegion
namespace Go.Proofs.Ytmjkohlhbboapaa.Tree
open Go.RowKit Go.Shelf
set_option linter.unusedVariables false
set_option maxRecDepth 100000
theorem len64_two (w : World) : Calls Try.prog 65 #[.int .u64 2] w fun e w' => (∃ z : Int, e = .returned (.int .i64 z)) ∧ w' = w := by
  go_enter Try.func65, Try.ntmps65
  go_wp2_with fail
  go_ret
  exact ⟨⟨_, rfl⟩, rfl⟩
theorem len_two (w : World) : Calls Try.prog 47 #[.int .u64 2] w fun e w' => (∃ z : Int, e = .returned (.int .i64 z)) ∧ w' = w := by
  have HC := Lib.hid (len64_two w)
  go_enter Try.func47, Try.ntmps47
  go_wp2_with fail
  refine HC.out.mono ?_
  rintro e wn ⟨⟨z, rfl⟩, hwn⟩
  have hwn := hwn.symm
  subst hwn
  go_wp2_with fail
  go_ret
  exact ⟨⟨_, rfl⟩, rfl⟩
theorem nan_any (s : ByteArray) (w : World) : Calls Try.prog 79 #[.string s] w fun e w' => e = .returned (.bool false) ∧ w' = w := by
  have e1 : (s.toList == s.toList) = true := by simp
  go_enter Try.func79, Try.ntmps79
  go_wp2_with fail
  go_ret
  exact ⟨rfl, rfl⟩
theorem less_no (s t : ByteArray) (h : Op.bytesLess t.toList s.toList = false) (w : World) : Calls Try.prog 61 #[.string t, .string s] w fun e w' => e = .returned (.bool false) ∧ w' = w := by
  have HN := Lib.hid (nan_any t w)
  go_enter Try.func61, Try.ntmps61
  go_wp2_with fail
  refine HN.out.mono ?_
  rintro e wn ⟨rfl, hwn⟩
  have hwn := hwn.symm
  subst hwn
  go_wp2_with fail
  go_ret
  exact ⟨rfl, rfl⟩
section
variable {w : World} {g cap : Nat} {s t : ByteArray}
set_option maxHeartbeats 4000000 in
theorem ins_two (h0 : w.cell? ⟨g, 0, none⟩ = some (.string s)) (h1 : w.cell? ⟨g, 1, none⟩ = some (.string t)) (h : Op.bytesLess t.toList s.toList = false) :
    Calls Try.prog 55 #[.slice (some ⟨g, 0, none⟩) 2 cap, .int .i64 0, .int .i64 2] w fun e w' => e = .returned (.tuple #[]) ∧ Only [] w w' := by
  have H0 := Lib.hid h0
  have H1 := Lib.hid h1
  have HLS := Lib.hid (fun wx => less_no s t h wx)
  clear h0 h1
  go_enter Try.func55, Try.ntmps55
  go_wp2_with fail
  go_loopw [6] (fun iv wr => ∃ k : Nat, iv = .int .i64 k ∧ 1 ≤ k ∧ k ≤ 2 ∧ Only [] w wr) (fun iv _ => 2 - (intOf iv).toNat)
  case atStart => exact ⟨1, rfl, by omega, by omega, Only.refl _ _⟩
  case round =>
    obtain ⟨k, rfl, hk1, hk2, ho⟩ := hrel
    by_cases hlt : k = 1
    · subst hlt
      obtain ⟨w1, rfl⟩ : ∃ w1, w1 = wr := ⟨_, rfl⟩
      have HO := Lib.hid ho
      clear ho
      go_wp2_with fail
      go_loopw [7] (fun jv w2 => jv = .int .i64 1 ∧ w2 = w1) (fun _ _ => 0)
      case atStart => exact ⟨rfl, rfl⟩
      case round =>
        obtain ⟨rfl, hwr⟩ := hrel
        have hwr := hwr.symm
        subst hwr
        have hS : w1.drew.cell? ⟨g, 0, none⟩ = some (.string s) ∧ w1.drew.cell? ⟨g, 1, none⟩ = some (.string t) := ⟨HO.out.cell H0.out (by simp), HO.out.cell H1.out (by simp)⟩
        have hw0 : IntKind.i64.wrap 0 = 0 := by decide
        go_upto_region 4 with fail
        refine wp_region_hand (S := (fun Y => Y.cell? ⟨g, 0, none⟩ = some (.string s) ∧ Y.cell? ⟨g, 1, none⟩ = some (.string t))) (by kernel_rfl) ?_
        refine takeW (i := 0) rfl (by kernel_rfl) (by kernel_rfl) (by kernel_rfl) (fun _ _ _ h => h) rfl (by rfl) (v := .int .i64 1) (fun Y hY => by obtain ⟨y0, y1⟩ := hY; go_simp) hS ?_
        simp only [List.setIfInBounds_toArray, List.set_cons_zero, List.set_cons_succ]
        refine takeW (i := 1) rfl (by kernel_rfl) (by kernel_rfl) (by kernel_rfl) (fun _ _ _ h => h) rfl (by rfl) (v := .int .i64 0) (fun Y hY => by obtain ⟨y0, y1⟩ := hY; go_simp) hS ?_
        simp only [List.setIfInBounds_toArray, List.set_cons_zero, List.set_cons_succ]
        refine takeW (i := 2) rfl (by kernel_rfl) (by kernel_rfl) (by kernel_rfl) (fun _ _ _ h => h) rfl (by rfl) (v := .bool true) (fun Y hY => by obtain ⟨y0, y1⟩ := hY; go_simp) hS ?_
        simp only [List.setIfInBounds_toArray, List.set_cons_zero, List.set_cons_succ]
        refine takeW (i := 3) rfl (by kernel_rfl) (by kernel_rfl) (by kernel_rfl) (fun _ _ _ h => h) rfl (by rfl) (v := .bool true) (fun Y hY => by obtain ⟨y0, y1⟩ := hY; go_simp) hS ?_
        simp only [List.setIfInBounds_toArray, List.set_cons_zero, List.set_cons_succ]
        refine takeW (i := 4) rfl (by kernel_rfl) (by kernel_rfl) (by kernel_rfl) (fun _ _ _ h => h) rfl (by rfl) (v := .slice (some ⟨g, 0, none⟩) 2 cap) (fun Y hY => by obtain ⟨y0, y1⟩ := hY; go_simp) hS ?_
        simp only [List.setIfInBounds_toArray, List.set_cons_zero, List.set_cons_succ]
        refine takeW (i := 5) rfl (by kernel_rfl) (by kernel_rfl) (by kernel_rfl) (fun _ _ _ h => h) rfl (by rfl) (v := .int .i64 1) (fun Y hY => by obtain ⟨y0, y1⟩ := hY; go_simp) hS ?_
        simp only [List.setIfInBounds_toArray, List.set_cons_zero, List.set_cons_succ]
        refine takeW (i := 6) rfl (by kernel_rfl) (by kernel_rfl) (by kernel_rfl) (fun _ _ _ h => h) rfl (by rfl) (v := .pointer (some ⟨g, 1, none⟩)) (fun Y hY => by obtain ⟨y0, y1⟩ := hY; go_simp) hS ?_
        simp only [List.setIfInBounds_toArray, List.set_cons_zero, List.set_cons_succ]
        refine takeW (i := 7) rfl (by kernel_rfl) (by kernel_rfl) (by kernel_rfl) (fun _ _ _ h => h) rfl (by rfl) (v := .string t) (fun Y hY => by obtain ⟨y0, y1⟩ := hY; go_simp) hS ?_
        simp only [List.setIfInBounds_toArray, List.set_cons_zero, List.set_cons_succ]
        refine takeW (i := 8) rfl (by kernel_rfl) (by kernel_rfl) (by kernel_rfl) (fun _ _ _ h => h) rfl (by rfl) (v := .slice (some ⟨g, 0, none⟩) 2 cap) (fun Y hY => by obtain ⟨y0, y1⟩ := hY; go_simp) hS ?_
        simp only [List.setIfInBounds_toArray, List.set_cons_zero, List.set_cons_succ]
        refine takeW (i := 9) rfl (by kernel_rfl) (by kernel_rfl) (by kernel_rfl) (fun _ _ _ h => h) rfl (by rfl) (v := .int .i64 1) (fun Y hY => by obtain ⟨y0, y1⟩ := hY; go_simp) hS ?_
        simp only [List.setIfInBounds_toArray, List.set_cons_zero, List.set_cons_succ]
        refine takeW (i := 10) rfl (by kernel_rfl) (by kernel_rfl) (by kernel_rfl) (fun _ _ _ h => h) rfl (by rfl) (v := .int .i64 0) (fun Y hY => by obtain ⟨y0, y1⟩ := hY; go_simp) hS ?_
        simp only [List.setIfInBounds_toArray, List.set_cons_zero, List.set_cons_succ]
        refine takeW (i := 11) rfl (by kernel_rfl) (by kernel_rfl) (by kernel_rfl) (fun _ _ _ h => h) rfl (by rfl) (v := .pointer (some ⟨g, 0, none⟩)) (fun Y hY => by obtain ⟨y0, y1⟩ := hY; go_simp) hS ?_
        simp only [List.setIfInBounds_toArray, List.set_cons_zero, List.set_cons_succ]
        refine takeW (i := 12) rfl (by kernel_rfl) (by kernel_rfl) (by kernel_rfl) (fun _ _ _ h => h) rfl (by rfl) (v := .string s) (fun Y hY => by obtain ⟨y0, y1⟩ := hY; go_simp) hS ?_
        simp only [List.setIfInBounds_toArray, List.set_cons_zero, List.set_cons_succ]
        refine callW (i := 13) rfl (by kernel_rfl) rfl (by rfl) ?_ (HLS.out _) ?_
        · go_simp
        rintro x wn ⟨rfl, rfl⟩
        refine ⟨_, rfl, hS, ?_⟩
        simp only [List.setIfInBounds_toArray, List.set_cons_zero, List.set_cons_succ]
        refine takeW (i := 14) rfl (by kernel_rfl) (by kernel_rfl) (by kernel_rfl) (fun _ _ _ h => h) rfl (by rfl) (v := .bool false) (fun Y hY => by obtain ⟨y0, y1⟩ := hY; go_simp) hS ?_
        simp only [List.setIfInBounds_toArray, List.set_cons_zero, List.set_cons_succ]
        refine wpAnyH_done (by kernel_rfl) ?_ _
        go_wp2_with fail
        go_roundw
        case measure => simp [intOf]
        case rel => exact ⟨2, by go_num, by omega, by omega, HO.out.drew⟩
    · obtain rfl : k = 2 := by omega
      have HO := Lib.hid ho
      clear ho
      go_wp2_with fail
      go_end0
      exact ⟨rfl, HO.out⟩
theorem pdq_two (h0 : w.cell? ⟨g, 0, none⟩ = some (.string s)) (h1 : w.cell? ⟨g, 1, none⟩ = some (.string t)) (h : Op.bytesLess t.toList s.toList = false) (lim : Int) :
    Calls Try.prog 46 #[.slice (some ⟨g, 0, none⟩) 2 cap, .int .i64 0, .int .i64 2, .int .i64 lim] w fun e w' => e = .returned (.tuple #[]) ∧ Only [] w w' := by
  have HI := Lib.hid (ins_two (cap := cap) h0 h1 h)
  clear h0 h1 h
  go_enter Try.func46, Try.ntmps46
  go_wp2_with fail
  go_loopw [1, 2, 3] (fun va vb vl wr => va = .int .i64 0 ∧ vb = .int .i64 2 ∧ vl = .int .i64 lim ∧ wr = w) (fun _ _ _ _ => 0)
  case atStart => exact ⟨rfl, rfl, rfl, rfl⟩
  case round =>
    obtain ⟨rfl, rfl, rfl, hwr⟩ := hrel
    have hwr := hwr.symm
    subst hwr
    go_wp2_with fail
    refine HI.out.mono ?_
    rintro e w2 ⟨rfl, ho2⟩
    have HO2 := Lib.hid ho2
    clear ho2
    go_wp2_with fail
    refine bodyPost_ret (results_none rfl _ _ _) rfl ?_
    exact ⟨rfl, HO2.out⟩
theorem sort_two (h0 : w.cell? ⟨g, 0, none⟩ = some (.string s)) (h1 : w.cell? ⟨g, 1, none⟩ = some (.string t)) (h : Op.bytesLess t.toList s.toList = false) :
    Calls Try.prog 27 #[.slice (some ⟨g, 0, none⟩) 2 cap] w fun e w' => e = .returned (.tuple #[]) ∧ Only [] w w' := by
  have HL := Lib.hid (len_two w)
  have HI := Lib.hid (fun z => pdq_two (cap := cap) h0 h1 h z)
  clear h0 h1 h
  go_enter Try.func27, Try.ntmps27
  go_wp2_with fail
  refine HL.out.mono ?_
  rintro e wn ⟨⟨z, rfl⟩, hwn⟩
  have hwn := hwn.symm
  subst hwn
  go_wp2_with fail
  refine (HI.out z).mono ?_
  rintro e w2 ⟨rfl, ho2⟩
  have HO2 := Lib.hid ho2
  clear ho2
  go_wp2_with fail
  go_end0
  exact ⟨rfl, HO2.out⟩
set_option maxHeartbeats 4000000 in
theorem compact_two (h0 : w.cell? ⟨g, 0, none⟩ = some (.string s)) (h1 : w.cell? ⟨g, 1, none⟩ = some (.string t)) (h : (t.toList == s.toList) = false) :
    Calls Try.prog 28 #[.slice (some ⟨g, 0, none⟩) 2 cap] w fun e w' => e = .returned (.slice (some ⟨g, 0, none⟩) 2 cap) ∧ Only [] w w' := by
  have H0 := Lib.hid h0
  have H1 := Lib.hid h1
  clear h0 h1
  go_enter Try.func28, Try.ntmps28
  go_wp2_with fail
  go_loopw [3] (fun iv wr => ∃ k : Nat, iv = .int .i64 k ∧ 1 ≤ k ∧ k ≤ 2 ∧ Only [] w wr) (fun iv _ => 2 - (intOf iv).toNat)
  case atStart => exact ⟨1, rfl, by omega, by omega, Only.refl _ _⟩
  case round =>
    obtain ⟨k, rfl, hk1, hk2, ho⟩ := hrel
    have HO := Lib.hid ho
    by_cases hlt : k = 1
    · subst hlt
      have c0 := ho.cell H0.out (by simp)
      have c1 := ho.cell H1.out (by simp)
      clear ho
      go_wp2_with fail
      go_region
      go_wp2_with fail
      go_roundw
      case measure => simp [intOf]
      case rel => exact ⟨2, by go_num, by omega, by omega, HO.out.drew⟩
    · obtain rfl : k = 2 := by omega
      clear ho
      go_wp2_with fail
      go_ret
      exact ⟨rfl, HO.out⟩
end
end Go.Proofs.Ytmjkohlhbboapaa.Tree
