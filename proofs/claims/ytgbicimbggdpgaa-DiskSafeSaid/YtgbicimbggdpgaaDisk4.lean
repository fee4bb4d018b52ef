/- Read, Stop, New, and nobody's disk, walk. -/
import Derived.Test.YtgbicimbggdpgaaDisk3
namespace Go.Proofs.Ytgbicimbggdpgaa.Disk
open Go.RowKit Go.Maps
set_option linter.unusedVariables false
set_option maxRecDepth 100000
def readD (d : DS) (i : Nat) : List UInt8 := (d.wait i).getD (d.safe i)
/-- what Read answers -/
def ReadO (w : World) (d : DS) (i : Int) (x : Ending) (w' : World) : Prop :=
  if d.off = true then x = .returned (.tuple #[.slice none 0 0, .int .i64 3]) ∧ Only [] w w'
  else if 0 ≤ i ∧ i < d.n then ∃ q c, x = .returned (.tuple #[.slice (some ⟨q, 0, none⟩) 64 c, .int .i64 0]) ∧ w.heap.size ≤ q ∧ OwnB w' w.heap.size (.slice (some ⟨q, 0, none⟩) 64 c) 64 (readD d i.toNat) ∧ 64 ≤ c ∧ c ≤ maxLen ∧ Only [] w w'
  else x = .returned (.tuple #[.slice none 0 0, .int .i64 1]) ∧ Only [] w w'
section
variable {w w' : World} {p g b cap : Nat} {W : List Nat} {d : DS}
theorem ReadO.off {i : Int} {x : Ending} (hd : d.off = true) (hx : x = .returned (.tuple #[.slice none 0 0, .int .i64 3])) (h : Only [] w w') : ReadO w d i x w' := by unfold ReadO; rw [if_pos hd]; exact ⟨hx, h⟩
theorem ReadO.bad {i : Int} {x : Ending} (hd : d.off = false) (hi : ¬ (0 ≤ i ∧ i < d.n)) (hx : x = .returned (.tuple #[.slice none 0 0, .int .i64 1])) (h : Only [] w w') : ReadO w d i x w' := by unfold ReadO; rw [if_neg (by simp [hd]), if_neg hi]; exact ⟨hx, h⟩
theorem ReadO.ok {i : Int} {x : Ending} (hd : d.off = false) (hi : 0 ≤ i ∧ i < d.n) {q c : Nat} {l : List UInt8} (hx : x = .returned (.tuple #[.slice (some ⟨q, 0, none⟩) 64 c, .int .i64 0])) (h1 : w.heap.size ≤ q) (h2 : OwnB w' w.heap.size (.slice (some ⟨q, 0, none⟩) 64 c) 64 l) (hl : l = readD d i.toNat) (h3 : 64 ≤ c) (h4 : c ≤ maxLen) (h : Only [] w w') : ReadO w d i x w' := by
  unfold ReadO
  rw [if_neg (by simp [hd]), if_pos hi]
  subst hl
  exact ⟨q, c, hx, h1, h2, h3, h4, h⟩
set_option maxHeartbeats 4000000 in
theorem read_any (h : IsD w p g b W cap d) (i : Int) : Calls Try.prog 12 #[.pointer (some ⟨p, 0, none⟩), .int .i64 i] w fun x w' => ReadO w d i x w' := by
  have c2 := h.blk.cell 2
  have c4 := h.blk.cell 4
  have HNN := Lib.hid (none_is h)
  have HSC := Lib.hid (sectors_any h)
  have HH := Lib.hid h
  obtain ⟨n0, n1⟩ := h.n0
  clear h
  cases hof : d.off with
  | true =>
    have HF := Lib.hid hof
    rw [hof] at c2
    clear hof
    go_enter Try.func12, Try.ntmps12
    go_wp2_with (go_at_call 17; refine HNN.out.mono ?_; rintro x w4 ⟨rfl, rfl⟩)
    go_ret2
    exact ReadO.off HF.out rfl (Only.refl _ _)
  | false =>
    have HF := Lib.hid hof
    rw [hof] at c2
    clear hof
    by_cases hi : 0 ≤ i ∧ i < (d.n : Int)
    · obtain ⟨j, rfl⟩ : ∃ j : Nat, i = (j : Int) := ⟨i.toNat, by omega⟩
      have hj : j < d.n := by omega
      have d1 : decide ((j : Int) < 0) = false := decide_eq_false (by omega)
      have d2 : decide ((d.n : Int) ≤ (j : Int)) = false := decide_eq_false (by omega)
      have d3 : decide (d.n ≤ j) = false := decide_eq_false (by omega)
      have HI := Lib.hid hi
      obtain ⟨f, hv, hf⟩ := HH.out.map
      have hlook := hv.run_look lawI Try.underlying45 (zeroBs w) (keyI (i := j) (by omega))
      have HAT := Lib.hid (at_any HH.out j hj)
      cases hw : d.wait j with
      | none =>
        rw [hf.none_ j hw] at hlook
        have HRD : Hid (d.safe j = readD d (j : Int).toNat) := Lib.hid (by unfold readD; simp [hw])
        have HBY := Lib.hid (HH.out.safe.bytes hj)
        have HCL := Lib.hid (fun cc => clone_any (some ⟨g, 64 * j, none⟩) 64 cc w.heap.size (d.safe j) w HBY.out (Nat.le_refl _) (by decide) (by decide))
        clear hi hj hf hv hw
        go_enter Try.func12, Try.ntmps12
        go_wp2_with (first
          | (go_at_call 17; refine HNN.out.mono ?_; rintro x w4 ⟨rfl, rfl⟩)
          | (go_at_call 14; refine HSC.out.mono ?_; rintro x w4 ⟨rfl, rfl⟩)
          | (go_at_call 20; refine HAT.out.mono ?_; rintro x w4 ⟨cc, rfl, hc1, hc2, rfl⟩)
          | (go_at_call 22; refine (HCL.out cc).mono ?_; rintro x w2 ⟨r, rc, rfl, hq1, hq2, hown, hrc, hrm, ho2⟩))
        go_ret2
        exact ReadO.ok HF.out HI.out rfl hq1 hown HRD.out hrc hrm ho2
      | some l =>
        obtain ⟨_, _, q, c, hq, hqW, hb, hc1, hc2⟩ := hf.some_ j l hw
        rw [hq] at hlook
        have HRD : Hid (l = readD d (j : Int).toNat) := Lib.hid (by unfold readD; simp [hw])
        have HCL := Lib.hid (clone_any (some ⟨q, 0, none⟩) 64 c w.heap.size l w hb (Nat.le_refl _) (by decide) (by decide))
        clear hi hj hf hv hw hq hqW hb
        go_enter Try.func12, Try.ntmps12
        go_wp2_with (first
          | (go_at_call 17; refine HNN.out.mono ?_; rintro x w4 ⟨rfl, rfl⟩)
          | (go_at_call 14; refine HSC.out.mono ?_; rintro x w4 ⟨rfl, rfl⟩)
          | (go_at_call 22; refine HCL.out.mono ?_; rintro x w2 ⟨r, rc, rfl, hq1, hq2, hown, hrc, hrm, ho2⟩))
        go_ret2
        exact ReadO.ok HF.out HI.out rfl hq1 hown HRD.out hrc hrm ho2
    · have hcase : decide (i < 0) = true ∨ (decide (i < 0) = false ∧ decide ((d.n : Int) ≤ i) = true) := by
        by_cases a : i < 0
        · exact .inl (decide_eq_true a)
        · exact .inr ⟨decide_eq_false a, decide_eq_true (by omega)⟩
      have HI := Lib.hid hi
      clear hi
      rcases hcase with d1 | ⟨d1, d2⟩
      all_goals
        go_enter Try.func12, Try.ntmps12
        go_wp2_with (first
          | (go_at_call 17; refine HNN.out.mono ?_; rintro x w4 ⟨rfl, rfl⟩)
          | (go_at_call 14; refine HSC.out.mono ?_; rintro x w4 ⟨rfl, rfl⟩))
        go_ret2
        exact ReadO.bad HF.out HI.out rfl (Only.refl _ _)
theorem read_nil (w : World) (i : Int) : Calls Try.prog 12 #[.pointer none, .int .i64 i] w fun x w' => x = .returned (.tuple #[.slice none 0 0, .int .i64 1]) ∧ Only [] w w' := by
  have HNN := Lib.hid none_nil
  go_enter Try.func12, Try.ntmps12
  go_wp2_with (go_at_call 17; refine (HNN.out _).mono ?_; rintro x w4 ⟨rfl, hw4⟩; subst hw4)
  go_ret2
  exact ⟨rfl, Only.refl _ _⟩
theorem read_zero (w : World) (p : Nat) (h : ∀ w2, Only [] w w2 → w2.cell? ⟨p, 4, none⟩ = some (.map none)) (i : Int) : Calls Try.prog 12 #[.pointer (some ⟨p, 0, none⟩), .int .i64 i] w fun x w' => x = .returned (.tuple #[.slice none 0 0, .int .i64 1]) ∧ Only [] w w' := by
  have HNN := Lib.hid (fun w2 (ho : Only [] w w2) => none_zero w2 p (h w2 ho))
  clear h
  go_enter Try.func12, Try.ntmps12
  go_wp2_with (go_at_call 17; refine (HNN.out _ (by first | exact Only.refl _ _ | exact (Only.refl [] _).alloc _ | exact (((Only.refl [] _).alloc _).alloc _).alloc _)).mono ?_; rintro x w4 ⟨rfl, hw4⟩; subst hw4)
  go_ret2
  exact ⟨rfl, Only.refl _ _⟩
theorem write_nil (w : World) (i : Int) (A : Option Addr) (n c : Nat) : Calls Try.prog 8 #[.pointer none, .int .i64 i, .slice A n c] w fun x w' => x = .returned (.int .i64 1) ∧ Only [] w w' := by
  have HNN := Lib.hid none_nil
  go_enter Try.func8, Try.ntmps8
  go_wp2_with (go_at_call 17; refine (HNN.out _).mono ?_; rintro x w4 ⟨rfl, hw4⟩; subst hw4)
  go_ret
  exact ⟨rfl, (((Only.refl [] w).alloc _).alloc _).alloc _⟩
theorem write_zero (w : World) (p : Nat) (h : ∀ w2, Only [] w w2 → w2.cell? ⟨p, 4, none⟩ = some (.map none)) (i : Int) (A : Option Addr) (n c : Nat) : Calls Try.prog 8 #[.pointer (some ⟨p, 0, none⟩), .int .i64 i, .slice A n c] w fun x w' => x = .returned (.int .i64 1) ∧ Only [] w w' := by
  have HNN := Lib.hid (fun w2 (ho : Only [] w w2) => none_zero w2 p (h w2 ho))
  clear h
  go_enter Try.func8, Try.ntmps8
  go_wp2_with (go_at_call 17; refine (HNN.out _ (by first | exact Only.refl _ _ | exact (Only.refl [] _).alloc _ | exact (((Only.refl [] _).alloc _).alloc _).alloc _)).mono ?_; rintro x w4 ⟨rfl, hw4⟩; subst hw4)
  go_ret
  exact ⟨rfl, (((Only.refl [] w).alloc _).alloc _).alloc _⟩
theorem sync_nil (w : World) : Calls Try.prog 7 #[.pointer none] w fun x w' => x = .returned (.int .i64 1) ∧ Only [] w w' := by
  have HNN := Lib.hid none_nil
  go_enter Try.func7, Try.ntmps7
  go_wp2_with (go_at_call 17; refine (HNN.out _).mono ?_; rintro x w4 ⟨rfl, hw4⟩; subst hw4)
  go_ret
  exact ⟨rfl, (Only.refl [] w).alloc _⟩
theorem sync_zero (w : World) (p : Nat) (h : ∀ w2, Only [] w w2 → w2.cell? ⟨p, 4, none⟩ = some (.map none)) : Calls Try.prog 7 #[.pointer (some ⟨p, 0, none⟩)] w fun x w' => x = .returned (.int .i64 1) ∧ Only [] w w' := by
  have HNN := Lib.hid (fun w2 (ho : Only [] w w2) => none_zero w2 p (h w2 ho))
  clear h
  go_enter Try.func7, Try.ntmps7
  go_wp2_with (go_at_call 17; refine (HNN.out _ (by first | exact Only.refl _ _ | exact (Only.refl [] _).alloc _ | exact (((Only.refl [] _).alloc _).alloc _).alloc _)).mono ?_; rintro x w4 ⟨rfl, hw4⟩; subst hw4)
  go_ret
  exact ⟨rfl, (Only.refl [] w).alloc _⟩
theorem stop_nil (w : World) (i : Int) : Calls Try.prog 10 #[.pointer none, .int .i64 i] w fun x w' => x = .returned (.tuple #[]) ∧ Only [] w w' := by
  have HNN := Lib.hid none_nil
  go_enter Try.func10, Try.ntmps10
  go_wp2_with (go_at_call 17; refine (HNN.out _).mono ?_; rintro x w4 ⟨rfl, hw4⟩; subst hw4)
  go_end0
  exact ⟨rfl, Only.refl _ _⟩
theorem stop_zero (w : World) (p : Nat) (h : ∀ w2, Only [] w w2 → w2.cell? ⟨p, 4, none⟩ = some (.map none)) (i : Int) : Calls Try.prog 10 #[.pointer (some ⟨p, 0, none⟩), .int .i64 i] w fun x w' => x = .returned (.tuple #[]) ∧ Only [] w w' := by
  have HNN := Lib.hid (fun w2 (ho : Only [] w w2) => none_zero w2 p (h w2 ho))
  clear h
  go_enter Try.func10, Try.ntmps10
  go_wp2_with (go_at_call 17; refine (HNN.out _ (by first | exact Only.refl _ _ | exact (Only.refl [] _).alloc _ | exact (((Only.refl [] _).alloc _).alloc _).alloc _)).mono ?_; rintro x w4 ⟨rfl, hw4⟩; subst hw4)
  go_end0
  exact ⟨rfl, Only.refl _ _⟩
theorem crash_nil (w : World) (A : Option Addr) (n c : Nat) : Calls Try.prog 11 #[.pointer none, .slice A n c] w fun x w' => x = .returned (.tuple #[]) ∧ Only [] w w' := by
  have HNN := Lib.hid none_nil
  go_enter Try.func11, Try.ntmps11
  go_wp2_with (go_at_call 17; refine (HNN.out _).mono ?_; rintro x w4 ⟨rfl, hw4⟩; subst hw4)
  exact bodyPost_ret (v := .tuple #[]) (by simp [results, Try.results11, go_sem]) rfl ⟨rfl, Only.refl _ _⟩
theorem crash_zero (w : World) (p : Nat) (h : ∀ w2, Only [] w w2 → w2.cell? ⟨p, 4, none⟩ = some (.map none)) (A : Option Addr) (n c : Nat) : Calls Try.prog 11 #[.pointer (some ⟨p, 0, none⟩), .slice A n c] w fun x w' => x = .returned (.tuple #[]) ∧ Only [] w w' := by
  have HNN := Lib.hid (fun w2 (ho : Only [] w w2) => none_zero w2 p (h w2 ho))
  clear h
  go_enter Try.func11, Try.ntmps11
  go_wp2_with (go_at_call 17; refine (HNN.out _ (by first | exact Only.refl _ _ | exact (Only.refl [] _).alloc _ | exact (((Only.refl [] _).alloc _).alloc _).alloc _)).mono ?_; rintro x w4 ⟨rfl, hw4⟩; subst hw4)
  exact bodyPost_ret (v := .tuple #[]) (by simp [results, Try.results11, go_sem]) rfl ⟨rfl, Only.refl _ _⟩
theorem waiting_nil (w : World) : Calls Try.prog 16 #[.pointer none] w fun x w' => x = .returned (.slice none 0 0) ∧ Only [] w w' := by
  have HNN := Lib.hid none_nil
  go_enter Try.func16, Try.ntmps16
  go_wp2_with (go_at_call 17; refine (HNN.out _).mono ?_; rintro x w4 ⟨rfl, hw4⟩; subst hw4)
  go_ret
  exact ⟨rfl, Only.refl _ _⟩
theorem waiting_zero (w : World) (p : Nat) (h : ∀ w2, Only [] w w2 → w2.cell? ⟨p, 4, none⟩ = some (.map none)) : Calls Try.prog 16 #[.pointer (some ⟨p, 0, none⟩)] w fun x w' => x = .returned (.slice none 0 0) ∧ Only [] w w' := by
  have HNN := Lib.hid (fun w2 (ho : Only [] w w2) => none_zero w2 p (h w2 ho))
  clear h
  go_enter Try.func16, Try.ntmps16
  go_wp2_with (go_at_call 17; refine (HNN.out _ (by first | exact Only.refl _ _ | exact (Only.refl [] _).alloc _ | exact (((Only.refl [] _).alloc _).alloc _).alloc _)).mono ?_; rintro x w4 ⟨rfl, hw4⟩; subst hw4)
  go_ret
  exact ⟨rfl, Only.refl _ _⟩
end
end Go.Proofs.Ytgbicimbggdpgaa.Disk
