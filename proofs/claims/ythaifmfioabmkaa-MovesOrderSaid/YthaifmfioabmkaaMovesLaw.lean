/- The law's Own, at and knows walk. -/
import Derived.Test.YthaifmfioabmkaaMovesRefC
namespace Go.Proofs.Ythaifmfioabmkaa.Moves
open Go.RowKit Go.Maps
set_option linter.unusedVariables false
set_option maxRecDepth 100000
/-- what a place has, by the law -/
def last (M : List Mv) (p : Int) : Int := ((M.reverse.find? (fun x => x.dst == p)).map (·.src)).getD p
theorem last_snoc (M : List Mv) (x : Mv) (p : Int) : last (M ++ [x]) p = if p = x.dst then x.src else last M p := by
  unfold last
  rw [List.reverse_append, List.reverse_singleton, List.singleton_append]
  by_cases h : p = x.dst
  · rw [List.find?_cons_of_pos (by simp [h]), if_pos h]
    rfl
  · rw [List.find?_cons_of_neg (by simpa using fun e => h e.symm), if_neg h]
theorem last_out (M : List Mv) (p : Int) : ∀ E : List Mv, (∀ y ∈ E, y.dst ≠ p) → last (M ++ E) p = last M p := by
  intro E
  induction E generalizing M with
  | nil => intro _; rw [List.append_nil]
  | cons x E ih =>
    intro h
    rw [show M ++ x :: E = (M ++ [x]) ++ E from by simp, ih _ (fun y hy => h y (List.mem_cons_of_mem _ hy)), last_snoc, if_neg (fun e => h x List.mem_cons_self e.symm)]
theorem last_at {M : List Mv} {j : Nat} {x : Mv} (h : M[j]? = some x) (hn : ∀ y ∈ M.drop (j + 1), y.dst ≠ x.dst) : last M x.dst = x.src := by
  rw [← List.take_append_drop (j + 1) M, last_out _ _ _ hn, take_snoc h, last_snoc, if_pos rfl]
theorem last_none {M : List Mv} {p : Int} (hn : ∀ y ∈ M.drop 0, y.dst ≠ p) : last M p = p := by
  have := last_out [] p M (by simpa using hn)
  rw [List.nil_append] at this
  rw [this]
  rfl
/-- the moves' values, as the law lays them -/
def laid (O : List Mv) : List Mv := O.foldl (fun M x => M ++ [⟨x.dst, last M x.src⟩]) []
theorem laid_snoc (O : List Mv) (x : Mv) : laid (O ++ [x]) = laid O ++ [⟨x.dst, last (laid O) x.src⟩] := by unfold laid; rw [List.foldl_append]; rfl
theorem last_laid (O : List Mv) : ∀ p, last (laid O) p = vals O p := by
  have : ∀ n (O : List Mv), O.length = n → ∀ p, last (laid O) p = vals O p := by
    intro n
    induction n with
    | zero =>
      intro O hO p
      rw [List.eq_nil_of_length_eq_zero hO]
      rfl
    | succ n ih =>
      intro O hO p
      obtain ⟨O', x, rfl⟩ : ∃ O' x, O = O' ++ [x] := ⟨O.dropLast, O.getLast (by rintro rfl; cases hO), (List.dropLast_concat_getLast _).symm⟩
      rw [laid_snoc, last_snoc, vals_snoc, ih O' (by simpa using hO), ih O' (by simpa using hO)]
  exact this _ O rfl
theorem rmv_info : (Try.prog.info? 35).map (fun i => (i.zero, i.size, i.bytes)) = some (some (.agg #[.int .i64 0, .int .i64 0]), 2, 16) := by kernel_rfl
set_option maxHeartbeats 1000000 in
theorem own_any (A : Option Addr) (m c : Nat) (l : List Mv) (w : World) (hr : Recs w w.heap.size 2 A m (l.map Mv.row)) (hm : m ≤ 100) :
    Calls Try.prog 8 #[.slice A m c] w fun x w' => ∃ v, x = .returned v ∧ OwnR 33 2 w' w.heap.size v m (l.map Mv.row) ∧ Only [] w w' := by
  have hl : l.length = m := by simpa using hr.1
  have HL := Lib.hid hl
  have HR := Lib.hid hr
  clear hr hl
  go_enter Try.func8, Try.ntmps8
  go_wp2_with fail
  go_loopw [3, 4] (fun vv i wr => ∃ (k : Nat), k ≤ m ∧ i = .int .i64 k ∧ OwnR 33 2 wr w.heap.size vv k ((l.take k).map Mv.row) ∧ Only [] w wr) (fun _ i _ => m - (intOf i).toNat)
  case atStart => exact ⟨0, by omega, rfl, OwnR.nil_ _ _ _ _, Only.refl _ _⟩
  case round =>
    rename_i vv _
    obtain ⟨k, hk, rfl, hown, ho⟩ := hrel
    have HO := Lib.hid ho
    have HOW := Lib.hid hown
    obtain ⟨A', cap', rfl, _⟩ := hown.shape (by decide)
    have hsz := ho.size
    by_cases hlt : k < m
    · have e1 : decide ((k : Int) < (m : Int)) = true := decide_eq_true (by omega)
      obtain ⟨b, off, hA, hb, x, hmem, hsk, c0, c1⟩ := mv_at HR.out k hlt
      subst hA
      have y0 := ho.cell c0 (by simp)
      have y1 := ho.cell c1 (by simp)
      have HTS := Lib.hid (take_snoc hsk)
      obtain ⟨xd, xs⟩ := x
      simp only at y0 y1
      clear hsk ho hmem c0 c1 hown
      go_wp2_with (at_builtin; refine wpList_append1 rfl (.tmp 11) (.tmp 16) 25 rfl Try.underlying25 mv_info rfl (by decide) rfl HOW.out rfl rfl (row := [.int .i64 xd, .int .i64 xs]) rfl rfl (by intro u hu; simp at hu; rcases hu with rfl | rfl <;> rfl) (by omega) (by unfold maxLen; omega) (by omega) ?_; intro v' w5 hE)
      go_roundw
      case measure => simp [intOf]; omega
      case rel =>
        refine ⟨k + 1, by omega, by go_num, ?_, HO.out.trans hE.only (fun g hg => .inr (HOW.out.lt g hg).1)⟩
        rw [HTS.out, List.map_append]
        exact hE.own
    · obtain rfl : k = m := by omega
      have e1 : decide ((k : Int) < (k : Int)) = false := decide_eq_false (by omega)
      have hown2 := HOW.out
      rw [← HL.out, List.take_length, HL.out] at hown2
      have HW2 := Lib.hid hown2
      clear hown hown2 ho
      go_wp2_with fail
      go_ret
      exact ⟨_, rfl, HW2.out, HO.out⟩
set_option maxHeartbeats 1000000 in
theorem at_any (A : Option Addr) (m c B : Nat) (l : List Mv) (p : Int) (w : World) (hr : Recs w B 2 A m (l.map Mv.row)) (hm : m ≤ 1000) :
    Calls Try.prog 13 #[.slice A m c, .int .i64 p] w fun x w' => x = .returned (.int .i64 (last l p)) ∧ w' = w := by
  have hl : l.length = m := by simpa using hr.1
  have HL := Lib.hid hl
  have HR := Lib.hid hr
  obtain ⟨z, hz⟩ : ∃ z, last l p = z := ⟨_, rfl⟩
  rw [hz]
  have HZ := Lib.hid hz
  clear hr hl hz
  go_enter Try.func13, Try.ntmps13
  go_wp2_with fail
  go_loop [5] (fun i => ∃ k : Nat, k ≤ m ∧ i = .int .i64 ((k : Int) - 1) ∧ ∀ y ∈ l.drop k, y.dst ≠ p) (fun i => (intOf i + 1).toNat)
  case atStart => exact ⟨m, by omega, rfl, by rw [List.drop_eq_nil_of_le (by rw [HL.out]; exact Nat.le_refl _)]; simp⟩
  case round =>
    obtain ⟨k, hk, rfl, hno⟩ := hrel
    have HNO := Lib.hid hno
    clear hno
    by_cases hlt : 0 < k
    · obtain ⟨j, rfl⟩ : ∃ j, k = j + 1 := ⟨k - 1, by omega⟩
      have e0 : (((j + 1 : Nat) : Int) - 1) = (j : Int) := by omega
      rw [e0]
      have e1 : decide ((0 : Int) ≤ (j : Int)) = true := decide_eq_true (by omega)
      obtain ⟨b, off, hA, hb, x, hmem, hsk, y0, y1⟩ := mv_at HR.out j (by omega)
      subst hA
      have HSK := Lib.hid hsk
      have HDC := Lib.hid (drop_cons hsk)
      clear hsk hmem e0
      obtain ⟨xd, xs⟩ := x
      simp only at y0 y1
      by_cases h1 : xd = p
      · subst h1
        have e2 : (xd == xd) = true := by simp
        have hfv : z = xs := by rw [← HZ.out]; exact last_at HSK.out HNO.out
        subst hfv
        go_wp2_with fail
        go_ret
        exact ⟨rfl, rfl⟩
      · have e2 : (xd == p) = false := by simp [h1]
        have HNE := Lib.hid h1
        clear h1
        go_wp2_with fail
        go_round
        case measure => simp [intOf]
        case rel =>
          refine ⟨j, by omega, rfl, ?_⟩
          rw [HDC.out]
          intro y hy
          rcases List.mem_cons.1 hy with h | h
          · rw [h]; exact HNE.out
          · exact HNO.out y h
    · obtain rfl : k = 0 := by omega
      have hfv : z = p := by rw [← HZ.out]; exact last_none HNO.out
      subst hfv
      go_wp2_with fail
      go_ret
      exact ⟨rfl, rfl⟩
def kw (w : World) : World := w.alloc (.cells #[.int .i64 1, .int .i64 2, .int .i64 2, .int .i64 1] 33)
def kmv : List Mv := [⟨1, 2⟩, ⟨2, 1⟩]
theorem km_recs (w : World) : Recs (kw w) (kw w).heap.size 2 (some ⟨w.heap.size, 0, none⟩) 2 (kmv.map Mv.row) := by
  refine ⟨rfl, fun _ => ⟨_, _, rfl, by show w.heap.size < (kw w).heap.size; unfold kw; rw [World.size_alloc]; omega, fun i hi j hj => ?_⟩⟩
  have hc : ∀ n, (kw w).cell? ⟨w.heap.size, n, none⟩ = #[Value.int .i64 1, .int .i64 2, .int .i64 2, .int .i64 1][n]? := by
    intro n
    unfold World.cell? kw
    rw [heap_alloc_new]
    simp
  rw [hc]
  obtain rfl | rfl : i = 0 ∨ i = 1 := by omega
  · obtain rfl | rfl : j = 0 ∨ j = 1 := by omega
    · exact ⟨rfl, rfl⟩
    · exact ⟨rfl, rfl⟩
  · obtain rfl | rfl : j = 0 ∨ j = 1 := by omega
    · exact ⟨rfl, rfl⟩
    · exact ⟨rfl, rfl⟩
theorem km_ok : AllOk kmv := by
  intro x hx
  simp [kmv] at hx
  rcases hx with rfl | rfl <;> exact ⟨by unfold in64; simp, by unfold in64; simp⟩
theorem km_order : ∃ o, cycs 9 kmv (frees kmv (beg kmv, [])) = some ([], o) ∧ o.length = 3 := ⟨[⟨9, 1⟩, ⟨1, 2⟩, ⟨2, 9⟩], by decide +kernel, rfl⟩
theorem km_cnt : cnt kmv (2 + 1) (frees kmv (beg kmv, [])).1 = 1 := by decide +kernel
set_option maxHeartbeats 1000000 in
theorem knows_any (w : World) : Calls Try.prog 6 #[] w fun x w' => x = .returned (.bool true) ∧ Only [] w w' := by
  obtain ⟨o, ho, hlen⟩ := km_order
  have HO := Lib.hid (fun w : World => order_any (some ⟨w.heap.size, 0, none⟩) 2 2 kmv 9 ([], o) (kw w) (km_recs w) km_ok (by unfold in64; simp) (by omega) (by decide) ho)
  have HC := Lib.hid (fun w : World => cycles_any (some ⟨w.heap.size, 0, none⟩) 2 2 kmv (kw w) (km_recs w) km_ok (by omega) (by decide))
  rw [km_cnt] at HC
  unfold kw at HO HC
  have HLN := Lib.hid hlen
  clear ho hlen
  go_enter Try.func6, Try.ntmps6
  go_wp2_with (first
    | (go_at_call 12; refine (HO.out _).mono ?_; rintro x w2 ⟨v, rfl, hown, ho2⟩; have hown' := hown; rw [HLN.out] at hown'; obtain ⟨A', cap', rfl, _⟩ := hown'.shape (by decide))
    | (go_at_call 10; refine (HC.out _).mono ?_; rintro x w3 ⟨rfl, ho3⟩))
  go_ret
  exact ⟨rfl, ((((Only.refl [] w).alloc _).trans ho2 (by simp)).alloc _).trans ho3 (by simp)⟩
end Go.Proofs.Ythaifmfioabmkaa.Moves
