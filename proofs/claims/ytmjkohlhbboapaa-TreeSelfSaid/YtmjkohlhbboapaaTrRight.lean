/- slices.ContainsFunc that finds nothing. PRINTED by wip/gen_trright.py. -/
import Derived.Test.YtmjkohlhbboapaaTrName
namespace Go.Proofs.Ytmjkohlhbboapaa.Tree
open Go.RowKit Go.Shelf
set_option linter.unusedVariables false
set_option maxRecDepth 100000
theorem noStr_i (q : Nat) (w : World) : Calls Try.prog 49 #[.slice none 0 0, .func (.func 33) #[] #[.pointer (some ⟨q, 0, none⟩)]] w fun e w' => e = .returned (.int .i64 (-1)) ∧ Only [] w w' := by
  have HO := Lib.hid (Only.refl [] w)
  go_enter Try.func49, Try.ntmps49
  go_wp2_with fail
  go_loopw [8] (fun iv wr => iv = .int .i64 0 ∧ wr = w) (fun _ _ => 0)
  case atStart => exact ⟨rfl, rfl⟩
  case round =>
    obtain ⟨rfl, hwr⟩ := hrel
    have hwr := hwr.symm
    subst hwr
    go_wp2_with fail
    go_ret
    exact ⟨rfl, HO.out⟩
theorem noStr (q : Nat) (w : World) : Calls Try.prog 32 #[.slice none 0 0, .func (.func 33) #[] #[.pointer (some ⟨q, 0, none⟩)]] w fun e w' => e = .returned (.bool false) ∧ Only [] w w' := by
  have HC := Lib.hid (noStr_i q w)
  go_enter Try.func32, Try.ntmps32
  go_wp2_with fail
  refine HC.out.mono ?_
  rintro e w2 ⟨rfl, ho2⟩
  have HO := Lib.hid ho2
  clear ho2
  go_wp2_with fail
  go_ret
  exact ⟨rfl, HO.out⟩
theorem noPar_i (w : World) : Calls Try.prog 70 #[.slice none 0 0, .func (.func 51) #[] #[]] w fun e w' => e = .returned (.int .i64 (-1)) ∧ Only [] w w' := by
  have HO := Lib.hid (Only.refl [] w)
  go_enter Try.func70, Try.ntmps70
  go_wp2_with fail
  go_loopw [8] (fun iv wr => iv = .int .i64 0 ∧ wr = w) (fun _ _ => 0)
  case atStart => exact ⟨rfl, rfl⟩
  case round =>
    obtain ⟨rfl, hwr⟩ := hrel
    have hwr := hwr.symm
    subst hwr
    go_wp2_with fail
    go_ret
    exact ⟨rfl, HO.out⟩
theorem noPar (w : World) : Calls Try.prog 52 #[.slice none 0 0, .func (.func 51) #[] #[]] w fun e w' => e = .returned (.bool false) ∧ Only [] w w' := by
  have HC := Lib.hid (noPar_i w)
  go_enter Try.func52, Try.ntmps52
  go_wp2_with fail
  refine HC.out.mono ?_
  rintro e w2 ⟨rfl, ho2⟩
  have HO := Lib.hid ho2
  clear ho2
  go_wp2_with fail
  go_ret
  exact ⟨rfl, HO.out⟩
set_option maxHeartbeats 4000000 in
theorem conX_i (A : Option Addr) (n c B : Nat) (xs : List XT) (w : World) (h1 : Recs w B 5 A n (xs.map XT.row)) (hn : n ≤ maxLen)
    (HP : ∀ wr, Only [] w wr → ∀ x ∈ xs, Calls Try.prog 87 #[x.val] wr fun e w' => e = .returned (.bool false) ∧ Only [] wr w') :
    Calls Try.prog 88 #[.slice A n c, .func (.func 87) #[] #[]] w fun e w' => e = .returned (.int .i64 (-1)) ∧ Only [] w w' := by
  have H1 := Lib.hid h1
  have HPC := Lib.hid HP
  clear h1 HP
  unfold maxLen at hn
  go_enter Try.func88, Try.ntmps88
  go_wp2_with fail
  go_loopw [8] (fun iv wr => ∃ k : Nat, iv = .int .i64 k ∧ k ≤ n ∧ Only [] w wr) (fun iv _ => n - (intOf iv).toNat)
  case atStart => exact ⟨0, rfl, by omega, Only.refl _ _⟩
  case round =>
    obtain ⟨k, rfl, hk, ho⟩ := hrel
    have HO := Lib.hid ho
    by_cases hlt : k < n
    · have d1 : decide ((k : Int) < (n : Int)) = true := decide_eq_true (by omega)
      obtain ⟨b, off, x, rfl, _, hx, _, p0, p1, p2, p3, p4⟩ := x_at H1.out hlt
      replace p0 := ho.cell p0 (by simp)
      replace p1 := ho.cell p1 (by simp)
      replace p2 := ho.cell p2 (by simp)
      replace p3 := ho.cell p3 (by simp)
      replace p4 := ho.cell p4 (by simp)
      have HC := HPC.out wr ho x hx
      unfold XT.val at HC
      have HCH := Lib.hid HC
      clear ho hx HC
      go_wp2_with fail
      refine HCH.out.mono ?_
      rintro e w3 ⟨rfl, ho3⟩
      have HO3 := Lib.hid (HO.out.trans ho3 (by simp))
      clear ho3
      go_wp2_with fail
      go_roundw
      case measure => simp [intOf]; omega
      case rel => exact ⟨k + 1, by go_num, by omega, HO3.out⟩
    · obtain rfl : k = n := by omega
      have d1 : decide ((k : Int) < (k : Int)) = false := decide_eq_false (by omega)
      clear ho
      go_wp2_with fail
      go_ret
      exact ⟨rfl, HO.out⟩
theorem conX (A : Option Addr) (n c B : Nat) (xs : List XT) (w : World) (h1 : Recs w B 5 A n (xs.map XT.row)) (hn : n ≤ maxLen)
    (HP : ∀ wr, Only [] w wr → ∀ x ∈ xs, Calls Try.prog 87 #[x.val] wr fun e w' => e = .returned (.bool false) ∧ Only [] wr w') :
    Calls Try.prog 86 #[.slice A n c, .func (.func 87) #[] #[]] w fun e w' => e = .returned (.bool false) ∧ Only [] w w' := by
  have HC := Lib.hid (conX_i A n c B xs w h1 hn HP)
  clear h1 HP
  go_enter Try.func86, Try.ntmps86
  go_wp2_with fail
  refine HC.out.mono ?_
  rintro e w2 ⟨rfl, ho2⟩
  have HO := Lib.hid ho2
  clear ho2
  go_wp2_with fail
  go_ret
  exact ⟨rfl, HO.out⟩
set_option maxHeartbeats 4000000 in
theorem conS_i (A : Option Addr) (n c B : Nat) (xs : List ST) (w : World) (h1 : Recs w B 9 A n (xs.map ST.row)) (hn : n ≤ maxLen)
    (HP : ∀ wr, Only [] w wr → ∀ x ∈ xs, Calls Try.prog 72 #[x.val] wr fun e w' => e = .returned (.bool false) ∧ Only [] wr w') :
    Calls Try.prog 82 #[.slice A n c, .func (.func 72) #[] #[]] w fun e w' => e = .returned (.int .i64 (-1)) ∧ Only [] w w' := by
  have H1 := Lib.hid h1
  have HPC := Lib.hid HP
  clear h1 HP
  unfold maxLen at hn
  go_enter Try.func82, Try.ntmps82
  go_wp2_with fail
  go_loopw [8] (fun iv wr => ∃ k : Nat, iv = .int .i64 k ∧ k ≤ n ∧ Only [] w wr) (fun iv _ => n - (intOf iv).toNat)
  case atStart => exact ⟨0, rfl, by omega, Only.refl _ _⟩
  case round =>
    obtain ⟨k, rfl, hk, ho⟩ := hrel
    have HO := Lib.hid ho
    by_cases hlt : k < n
    · have d1 : decide ((k : Int) < (n : Int)) = true := decide_eq_true (by omega)
      obtain ⟨b, off, x, rfl, _, hx, _, p0, p1, p2, p3, p4, p5, p6, p7, p8⟩ := st_at H1.out hlt
      replace p0 := ho.cell p0 (by simp)
      replace p1 := ho.cell p1 (by simp)
      replace p2 := ho.cell p2 (by simp)
      replace p3 := ho.cell p3 (by simp)
      replace p4 := ho.cell p4 (by simp)
      replace p5 := ho.cell p5 (by simp)
      replace p6 := ho.cell p6 (by simp)
      replace p7 := ho.cell p7 (by simp)
      replace p8 := ho.cell p8 (by simp)
      have HC := HPC.out wr ho x hx
      unfold ST.val at HC
      have HCH := Lib.hid HC
      clear ho hx HC
      go_wp2_with fail
      refine HCH.out.mono ?_
      rintro e w3 ⟨rfl, ho3⟩
      have HO3 := Lib.hid (HO.out.trans ho3 (by simp))
      clear ho3
      go_wp2_with fail
      go_roundw
      case measure => simp [intOf]; omega
      case rel => exact ⟨k + 1, by go_num, by omega, HO3.out⟩
    · obtain rfl : k = n := by omega
      have d1 : decide ((k : Int) < (k : Int)) = false := decide_eq_false (by omega)
      clear ho
      go_wp2_with fail
      go_ret
      exact ⟨rfl, HO.out⟩
theorem conS (A : Option Addr) (n c B : Nat) (xs : List ST) (w : World) (h1 : Recs w B 9 A n (xs.map ST.row)) (hn : n ≤ maxLen)
    (HP : ∀ wr, Only [] w wr → ∀ x ∈ xs, Calls Try.prog 72 #[x.val] wr fun e w' => e = .returned (.bool false) ∧ Only [] wr w') :
    Calls Try.prog 71 #[.slice A n c, .func (.func 72) #[] #[]] w fun e w' => e = .returned (.bool false) ∧ Only [] w w' := by
  have HC := Lib.hid (conS_i A n c B xs w h1 hn HP)
  clear h1 HP
  go_enter Try.func71, Try.ntmps71
  go_wp2_with fail
  refine HC.out.mono ?_
  rintro e w2 ⟨rfl, ho2⟩
  have HO := Lib.hid ho2
  clear ho2
  go_wp2_with fail
  go_ret
  exact ⟨rfl, HO.out⟩
set_option maxHeartbeats 4000000 in
theorem conF_i (A : Option Addr) (n c B : Nat) (xs : List FT) (w : World) (h1 : Recs w B 4 A n (xs.map FT.row)) (hn : n ≤ maxLen)
    (HP : ∀ wr, Only [] w wr → ∀ x ∈ xs, Calls Try.prog 35 #[x.val] wr fun e w' => e = .returned (.bool false) ∧ Only [] wr w') :
    Calls Try.prog 50 #[.slice A n c, .func (.func 35) #[] #[]] w fun e w' => e = .returned (.int .i64 (-1)) ∧ Only [] w w' := by
  have H1 := Lib.hid h1
  have HPC := Lib.hid HP
  clear h1 HP
  unfold maxLen at hn
  go_enter Try.func50, Try.ntmps50
  go_wp2_with fail
  go_loopw [8] (fun iv wr => ∃ k : Nat, iv = .int .i64 k ∧ k ≤ n ∧ Only [] w wr) (fun iv _ => n - (intOf iv).toNat)
  case atStart => exact ⟨0, rfl, by omega, Only.refl _ _⟩
  case round =>
    obtain ⟨k, rfl, hk, ho⟩ := hrel
    have HO := Lib.hid ho
    by_cases hlt : k < n
    · have d1 : decide ((k : Int) < (n : Int)) = true := decide_eq_true (by omega)
      obtain ⟨b, off, x, rfl, _, hx, _, p0, p1, p2, p3⟩ := ft_at H1.out hlt
      replace p0 := ho.cell p0 (by simp)
      replace p1 := ho.cell p1 (by simp)
      replace p2 := ho.cell p2 (by simp)
      replace p3 := ho.cell p3 (by simp)
      have HC := HPC.out wr ho x hx
      unfold FT.val at HC
      have HCH := Lib.hid HC
      clear ho hx HC
      go_wp2_with fail
      refine HCH.out.mono ?_
      rintro e w3 ⟨rfl, ho3⟩
      have HO3 := Lib.hid (HO.out.trans ho3 (by simp))
      clear ho3
      go_wp2_with fail
      go_roundw
      case measure => simp [intOf]; omega
      case rel => exact ⟨k + 1, by go_num, by omega, HO3.out⟩
    · obtain rfl : k = n := by omega
      have d1 : decide ((k : Int) < (k : Int)) = false := decide_eq_false (by omega)
      clear ho
      go_wp2_with fail
      go_ret
      exact ⟨rfl, HO.out⟩
theorem conF (A : Option Addr) (n c B : Nat) (xs : List FT) (w : World) (h1 : Recs w B 4 A n (xs.map FT.row)) (hn : n ≤ maxLen)
    (HP : ∀ wr, Only [] w wr → ∀ x ∈ xs, Calls Try.prog 35 #[x.val] wr fun e w' => e = .returned (.bool false) ∧ Only [] wr w') :
    Calls Try.prog 34 #[.slice A n c, .func (.func 35) #[] #[]] w fun e w' => e = .returned (.bool false) ∧ Only [] w w' := by
  have HC := Lib.hid (conF_i A n c B xs w h1 hn HP)
  clear h1 HP
  go_enter Try.func34, Try.ntmps34
  go_wp2_with fail
  refine HC.out.mono ?_
  rintro e w2 ⟨rfl, ho2⟩
  have HO := Lib.hid ho2
  clear ho2
  go_wp2_with fail
  go_ret
  exact ⟨rfl, HO.out⟩
end Go.Proofs.Ytmjkohlhbboapaa.Tree
