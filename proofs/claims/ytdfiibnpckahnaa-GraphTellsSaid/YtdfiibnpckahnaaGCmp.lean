/- slices.Compact of sorted paths. -/
import Derived.Test.YtdfiibnpckahnaaGOwn2
namespace Go.Proofs.Ytdfiibnpckahnaa.Graph
open Go.RowKit Go.Shelf
set_option linter.unusedVariables false
set_option maxRecDepth 100000
theorem zeroStr (w : World) : (zeroValue 9).run Try.prog w = .ok (.string ⟨#[]⟩) w := by kernel_rfl
theorem svs_take (l : List Path) (i : Nat) : (svs l).take i = svs (l.take i) := by unfold svs; rw [List.map_take]
theorem svs_drop (l : List Path) (i : Nat) : (svs l).drop i = svs (l.drop i) := by unfold svs; rw [List.map_drop]
/-- the rows while they are put together: ahead of k what is kept of the first j; from j - 1 on what was there -/
structure CmpAt (l : List Path) (k j : Nat) (rs : List (List Value)) : Prop where
  len : rs.length = l.length
  le : k + 1 ≤ j ∧ j ≤ l.length
  take : rs.take k = svs (cmpL (l.take j))
  drop : rs.drop (j - 1) = (svs l).drop (j - 1)
theorem last_take {l : List Path} {j : Nat} (h0 : 0 < j) (hj : j ≤ l.length) : (l.take j).getLast? = some (hat l (j - 1)) := by
  rw [List.getLast?_eq_getElem?, List.length_take, Nat.min_eq_left hj, List.getElem?_take_of_lt (by omega), List.getElem?_eq_getElem (by omega), hat_eq (by omega)]
theorem take_hat {l : List Path} {j : Nat} (h : j < l.length) : l.take (j + 1) = l.take j ++ [hat l j] := by
  rw [List.take_succ_eq_append_getElem h, hat_eq h]
section
variable {l : List Path} {k j : Nat} {rs : List (List Value)}
theorem CmpAt.get (h : CmpAt l k j rs) {i : Nat} (hi : j - 1 ≤ i) (hl : i < l.length) : (rs.getD i [])[0]? = some (sv (hat l i)) := by
  have h1 : (rs.drop (j - 1))[i - (j - 1)]? = ((svs l).drop (j - 1))[i - (j - 1)]? := by rw [h.drop]
  rw [List.getElem?_drop, List.getElem?_drop, show j - 1 + (i - (j - 1)) = i by omega] at h1
  have h2 := svs_get (hs := l) hl
  rw [List.getD_eq_getElem?_getD] at h2 ⊢
  rw [h1]
  exact h2
theorem CmpAt.pass (h : CmpAt l k j rs) (hj : j < l.length) (he : hat l j = hat l (j - 1)) : CmpAt l k (j + 1) rs := by
  have hle := h.le
  refine ⟨h.len, by omega, ?_, ?_⟩
  · rw [take_hat hj, cmpL_snoc, last_take (by omega) (by omega), if_pos (by rw [he]), h.take]
  · have h1 := congrArg (List.drop 1) h.drop
    rw [List.drop_drop, List.drop_drop] at h1
    rw [show j + 1 - 1 = j - 1 + 1 by omega]
    exact h1
theorem CmpAt.keep (h : CmpAt l k j rs) (hj : j < l.length) (he : hat l j ≠ hat l (j - 1)) : CmpAt l (k + 1) (j + 1) (rs.set k [sv (hat l j)]) := by
  have hle := h.le
  have hl := h.len
  refine ⟨by rw [List.length_set]; exact hl, by omega, ?_, ?_⟩
  · rw [take_hat hj, cmpL_snoc, last_take (by omega) (by omega), if_neg (fun e => he (by injection e with e; exact e.symm)), List.take_succ_eq_append_getElem (by rw [List.length_set]; omega), List.getElem_set_self, List.take_set_of_le (Nat.le_refl _), h.take]
    unfold svs
    simp
  · have h1 := congrArg (List.drop 1) h.drop
    rw [List.drop_drop, List.drop_drop] at h1
    rw [show j + 1 - 1 = j - 1 + 1 by omega, List.drop_set_of_lt (by omega)]
    exact h1
theorem CmpAt.done (h : CmpAt l k l.length rs) : rs.take k = svs (cmpL l) := by
  rw [h.take, List.take_of_length_le (Nat.le_refl _)]
theorem CmpAt.start (hj : j < l.length) (h0 : 0 < j) (ha : cmpL (l.take j) = l.take j) (he : hat l j = hat l (j - 1)) : CmpAt l j (j + 1) (svs l) := by
  refine ⟨by simp [svs], by omega, ?_, rfl⟩
  rw [take_hat hj, cmpL_snoc, last_take h0 (by omega), if_pos (by rw [he]), ha, svs_take]
theorem all_next (hj : j < l.length) (h0 : 0 < j) (ha : cmpL (l.take j) = l.take j) (he : hat l j ≠ hat l (j - 1)) : cmpL (l.take (j + 1)) = l.take (j + 1) := by
  rw [take_hat hj, cmpL_snoc, last_take h0 (by omega), if_neg (fun e => he (by injection e with e; exact e.symm)), ha]
theorem all_one (h : 1 ≤ l.length) : cmpL (l.take 1) = l.take 1 := by
  cases l with
  | nil => rfl
  | cons a t => rfl
end
section
variable {w w' : World} {base n : Nat} {l : List Path} {v : Value}
theorem str_eqb (a b : Path) : ((str a).toList == (str b).toList) = decide (a = b) := by
  rw [Lib.toList_data, Lib.toList_data, str_data, str_data]
  by_cases h : a = b
  · subst h; simp
  · rw [decide_eq_false h]; simpa using h
theorem short_cmp (h : l.length < 2) : cmpL l = l := by
  match l, h with
  | [], _ => rfl
  | [a], _ => rfl
set_option maxHeartbeats 4000000 in
theorem compact_any (hown : OwnR 9 1 w base v n (svs l)) (hl : l.length = n) (hn : n ≤ 100000) : Calls Try.prog 40 #[v] w fun e w' => ∃ v', e = .returned v' ∧ OwnR 9 1 w' base v' (cmpL l).length (svs (cmpL l)) ∧ Only (ownL v) w w' := by
  obtain ⟨A, cap, rfl, hcap, hmx, _, hA⟩ := hown.shape (by decide)
  by_cases h2 : n < 2
  · have d1 : decide ((n : Int) < 2) = true := decide_eq_true (by omega)
    have d1' : decide (n < 2) = true := decide_eq_true h2
    have HO := Lib.hid hown
    have HC : Hid (cmpL l = l) := Lib.hid (short_cmp (by omega))
    have HL := Lib.hid hl
    clear hown hl
    go_enter Try.func40, Try.ntmps40
    go_wp2_with fail
    go_ret
    exact ⟨_, rfl, by rw [HC.out, HL.out]; exact HO.out, Only.refl _ _⟩
  obtain ⟨g, rfl⟩ : ∃ g, A = some ⟨g, 0, none⟩ := by
    rcases hA with ⟨rfl, h0⟩ | ⟨g, rfl, _⟩
    · omega
    · exact ⟨g, rfl⟩
  have d1 : decide ((n : Int) < 2) = false := decide_eq_false (by omega)
  have d1' : decide (n < 2) = false := decide_eq_false h2
  have HOWN := Lib.hid hown
  have HL := Lib.hid hl
  have hog : ownL (.slice (some ⟨g, 0, none⟩) n cap) = [g] := rfl
  have HG := Lib.hid hog
  clear hown hl hog hA
  go_enter Try.func40, Try.ntmps40
  go_wp2_with fail
  go_loopw [3] (fun kv wr => ∃ k : Nat, kv = .int .i64 k ∧ 1 ≤ k ∧ k ≤ n ∧ cmpL (l.take k) = l.take k ∧ Only [] w wr) (fun kv _ => n - (intOf kv).toNat)
  case atStart => exact ⟨1, rfl, by omega, by omega, all_one (by rw [HL.out]; omega), Only.refl _ _⟩
  case round =>
    obtain ⟨k, rfl, hk1, hkn, hall, ho⟩ := hrel
    have HALL := Lib.hid hall
    have HO := Lib.hid ho
    have hown := HOWN.out.only ho (by simp)
    clear hall ho
    by_cases hlt : k < n
    · have e1 : decide ((k : Int) < (n : Int)) = true := decide_eq_true (by omega)
      have e1' : decide (k < n) = true := decide_eq_true hlt
      obtain ⟨km, hkm⟩ : ∃ km, k = km + 1 := ⟨k - 1, by omega⟩
      subst hkm
      have q1 := hown.cellOf (i := km + 1) (j := 0) hlt (by decide)
      have q0 := hown.cellOf (i := km) (j := 0) (by omega) (by decide)
      rw [svs_get (by rw [HL.out]; omega)] at q0 q1
      simp only [Nat.mul_one, Nat.add_zero, sv] at q0 q1
      have z1 : ((km + 1 : Nat) : Int) - 1 = (km : Int) := by omega
      have HW := Lib.hid hown
      clear hown
      by_cases heq : hat l (km + 1) = hat l km
      · have HEQ := Lib.hid heq
        rw [heq] at q1
        have e5 : ((str (hat l km)).toList == (str (hat l km)).toList) = true := by simp
        clear heq
        go_wp2_with fail
        go_region
        have hcn : ¬ (cap = km + 1) := by omega
        go_wp2_with fail
        have HST : Hid (CmpAt l (km + 1) (km + 1 + 1) (svs l)) := Lib.hid (CmpAt.start (by rw [HL.out]; omega) (by omega) HALL.out HEQ.out)
        clear q0 q1 e5 HEQ z1
        go_loopw [3, 5] (fun kv k2v wr2 => ∃ (k k2 : Nat) (rs : List (List Value)), kv = .int .i64 k ∧ k2v = .int .i64 k2 ∧ 1 ≤ k2 ∧ km + 1 + k2 ≤ n ∧ CmpAt l k (km + 1 + k2) rs ∧ OwnR 9 1 wr2 base (.slice (some ⟨g, 0, none⟩) n cap) n rs ∧ Only [g] w wr2) (fun _ k2v _ => n - (intOf k2v).toNat)
        case atStart => exact ⟨km + 1, 1, svs l, rfl, rfl, by omega, by omega, HST.out, HW.out.only ((Only.refl [] wr).drew) (by simp), (HO.out.drew).mono (by simp)⟩
        case round =>
          obtain ⟨k, k2, rs, rfl, rfl, hk2, hkn2, hst, hrow, ho2⟩ := hrel
          clear HST HW HO
          have HST := Lib.hid hst
          have HROW := Lib.hid hrow
          have HO2 := Lib.hid ho2
          have hle := hst.le
          clear hst hrow ho2
          by_cases hlt2 : km + 1 + k2 < n
          · have e1 : decide ((k2 : Int) < ((n - (km + 1) : Nat) : Int)) = true := decide_eq_true (by omega)
            have e1' : decide (k2 < n - (km + 1)) = true := decide_eq_true (by omega)
            obtain ⟨k3, hk3⟩ : ∃ k3, k2 = k3 + 1 := ⟨k2 - 1, by omega⟩
            subst hk3
            have q1 := HROW.out.cellOf (i := km + 1 + (k3 + 1)) (j := 0) hlt2 (by decide)
            have q0 := HROW.out.cellOf (i := km + 1 + k3) (j := 0) (by omega) (by decide)
            have qk := HROW.out.cellOf (i := k) (j := 0) (by omega) (by decide)
            rw [HST.out.get (by omega) (by rw [HL.out]; omega)] at q0 q1
            simp only [Nat.mul_one, Nat.add_zero, sv] at q0 q1 qk
            have z1 : ((k3 + 1 : Nat) : Int) - 1 = (k3 : Int) := by omega
            by_cases heq : hat l (km + 1 + (k3 + 1)) = hat l (km + 1 + k3)
            · have HEQ := Lib.hid heq
              rw [heq] at q1
              have e5 : ((str (hat l (km + 1 + k3))).toList == (str (hat l (km + 1 + k3))).toList) = true := by simp
              clear heq qk
              go_wp2_with fail
              go_region
              go_wp2_with fail
              go_roundw
              case measure => simp [intOf]; omega
              case rel => exact ⟨k, k3 + 1 + 1, rs, rfl, by go_num, by omega, by omega, HST.out.pass (by rw [HL.out]; omega) HEQ.out, HROW.out.only ((Only.refl [] wr).drew) (by simp), HO2.out.drew⟩
            · have e5 : ((str (hat l (km + 1 + (k3 + 1)))).toList == (str (hat l (km + 1 + k3))).toList) = false := by rw [str_eqb]; exact decide_eq_false heq
              have HEQ := Lib.hid heq
              have hlen := HST.out.len
              rw [HL.out] at hlen
              have hk1n : (rs.getD k []).length = 1 := by
                rw [List.getD_eq_getElem?_getD, List.getElem?_eq_getElem (by omega)]
                exact HROW.out.each _ (List.getElem_mem _)
              obtain ⟨uk, huk⟩ : ∃ uk, wr.cell? ⟨g, k, none⟩ = some uk := by rw [qk, List.getElem?_eq_getElem (by omega)]; exact ⟨_, rfl⟩
              have fk := HROW.out.frozenOf k
              have hkn3 : k < n := by omega
              clear heq qk hlen hk1n
              go_wp2_with fail
              go_region
              go_wp2_with fail
              go_roundw
              case measure => simp [intOf]; omega
              case rel => exact ⟨k + 1, k3 + 1 + 1, _, by go_num, by go_num, by omega, by omega, HST.out.keep (by rw [HL.out]; omega) HEQ.out, (HROW.out.only ((Only.refl [] wr).drew) (by simp)).put1 hkn3 _, (HO2.out.drew).setCell (.inl (by simp)) _⟩
          · have hkk : km + 1 + k2 = n := by omega
            have e1 : decide ((k2 : Int) < ((n - (km + 1) : Nat) : Int)) = false := decide_eq_false (by omega)
            have e1' : decide (k2 < n - (km + 1)) = false := decide_eq_false (by omega)
            have hkn3 : k < n := by omega
            have hck : ¬ (cap = k) := by omega
            obtain ⟨w5, hrun, hown5, ho5⟩ := run_clear_row (P := Try.prog) (ty := 0) Try.underlying25 (fun w => zeroStr w) (size := 1) rfl (by decide) (by decide) HROW.out hkn3 (cap - k)
            simp only [Nat.mul_one] at hrun
            have HF : Hid (OwnR 9 1 w5 base (.slice (some ⟨g, 0, none⟩) (cmpL l).length cap) (cmpL l).length (svs (cmpL l)) ∧ (cmpL l).length = k) := Lib.hid (by
              have hst := HST.out
              rw [hkk, ← HL.out] at hst
              have hd := hst.done
              have hlen := hown5.len
              rw [hd] at hlen hown5
              have hl5 : (cmpL l).length = k := by rw [← hlen]; simp [svs]
              exact ⟨by rw [hl5]; exact hown5, hl5⟩)
            have HO5 := Lib.hid (HO2.out.trans ho5 (fun g hg => .inl hg))
            clear hown5 ho5
            go_wp2_with fail
            go_ret
            obtain ⟨r1, r2⟩ := HF.out
            refine ⟨_, rfl, ?_, HO5.out⟩
            rw [r2] at r1 ⊢
            exact r1
      · have e5 : ((str (hat l (km + 1))).toList == (str (hat l km)).toList) = false := by rw [str_eqb]; exact decide_eq_false heq
        have HEQ := Lib.hid heq
        clear heq
        go_wp2_with fail
        go_region
        go_wp2_with fail
        go_roundw
        case measure => simp [intOf]; omega
        case rel => exact ⟨km + 1 + 1, by go_num, by omega, by omega, all_next (by rw [HL.out]; omega) (by omega) HALL.out HEQ.out, HO.out.drew⟩
    · obtain rfl : k = n := by omega
      have e1 : decide ((k : Int) < (k : Int)) = false := decide_eq_false (by omega)
      have HW := Lib.hid hown
      clear hown
      go_wp2_with fail
      go_ret
      have h1 := HALL.out
      rw [List.take_of_length_le (by rw [HL.out]; exact Nat.le_refl _)] at h1
      exact ⟨_, rfl, by rw [h1, HL.out]; exact HW.out, HO.out.mono (by simp)⟩
end
end Go.Proofs.Ytdfiibnpckahnaa.Graph
