/- The walks of frame: how many sectors; the bytes of sectors, by the document. -/
import Derived.Test.YthgfmoogagldmaaGreatConcat
namespace Go.Proofs.YthgfmoogagldmaaGreat.Frame
open Go.RowKit
set_option linter.unusedVariables false
set_option maxRecDepth 100000
def needZ (n : Int) : Int := if n ≤ 0 then 0 else (n - 1) / 64 + 1
theorem need_int (n : Int) (w : World) (h0 : -9223372036854775808 ≤ n) (h1 : n < 9223372036854775808) : Calls Tryz.prog 110 #[.int .i64 n] w fun x w' => x = .returned (.int .i64 (needZ n)) ∧ w = w' := by
  by_cases h : n ≤ 0
  · have hv : needZ n = 0 := if_pos h
    have d1 : decide (n ≤ 0) = true := decide_eq_true h
    rw [hv]
    clear hv
    go_enter Tryz.func110, Tryz.ntmps110
    go_wp2_with fail
    go_ret
    exact ⟨rfl, rfl⟩
  · obtain ⟨k, rfl⟩ : ∃ k : Nat, n = (k : Int) + 1 := ⟨(n - 1).toNat, by omega⟩
    have hv : needZ ((k : Int) + 1) = (k : Int) / 64 + 1 := by unfold needZ; rw [if_neg h]; omega
    have d1 : decide ((k : Int) + 1 ≤ 0) = false := decide_eq_false h
    rw [hv]
    clear hv
    go_enter Tryz.func110, Tryz.ntmps110
    go_wp2_with fail
    go_ret
    exact ⟨rfl, rfl⟩
theorem rneed_int (n : Int) (w : World) (h0 : -9223372036854775808 ≤ n) (h1 : n < 9223372036854775808) : Calls Tryz.prog 83 #[.int .i64 n] w fun x w' => x = .returned (.int .i64 (needZ n)) ∧ w = w' := by
  by_cases h : n ≤ 0
  · have hv : needZ n = 0 := if_pos h
    have d1 : decide (n ≤ 0) = true := decide_eq_true h
    rw [hv]
    clear hv
    go_enter Tryz.func83, Tryz.ntmps83
    go_wp2_with fail
    go_ret
    exact ⟨rfl, rfl⟩
  · obtain ⟨k, rfl⟩ : ∃ k : Nat, n = (k : Int) + 1 := ⟨(n - 1).toNat, by omega⟩
    have hv : needZ ((k : Int) + 1) = (k : Int) / 64 + 1 := by unfold needZ; rw [if_neg h]; omega
    have d1 : decide ((k : Int) + 1 ≤ 0) = false := decide_eq_false h
    rw [hv]
    clear hv
    go_enter Tryz.func83, Tryz.ntmps83
    go_wp2_with fail
    go_ret
    exact ⟨rfl, rfl⟩
/-- sectors as bytes: the document -/
def allZ (l : List UInt8) : Prop := ∀ c ∈ l, c = 0
instance (l : List UInt8) : Decidable (allZ l) := by unfold allZ; infer_instance
def all64 (ss : List Sl) : Prop := ∀ s ∈ ss, s.n = 64
instance (ss : List Sl) : Decidable (all64 ss) := by unfold all64; infer_instance
def unp (ss : List Sl) (n : Int) : Option (List UInt8) :=
  if n < 0 ∨ 1048576 < n ∨ (ss.length : Int) ≠ needZ n then none
  else if ¬ all64 ss then none
  else if ¬ allZ ((flat ss).drop n.toNat) then none
  else some ((flat ss).take n.toNat)
/-- what Unpack hands back -/
def unpOut (u : Option (List UInt8)) (w : World) (x : Ending) (w' : World) : Prop :=
  ∃ A n c, x = .returned (.tuple #[.slice A n c, .bool u.isSome]) ∧ Bytes w' w'.heap.size A n (u.getD []) ∧ n ≤ c ∧ c ≤ maxLen ∧ Only [] w w'
theorem unpOut_none (w w' : World) (ho : Only [] w w') : unpOut none w (.returned (.tuple #[.slice none 0 0, .bool false])) w' := ⟨none, 0, 0, rfl, Bytes.nil_, Nat.le_refl _, by simp [maxLen], ho⟩
theorem flat_len (ss : List Sl) (w : World) (B : Nat) (hok : ∀ s ∈ ss, Bytes w B s.A s.n s.l) (h : all64 ss) : (flat ss).length = 64 * ss.length := by
  induction ss with
  | nil => rfl
  | cons s ss ih =>
    have h1 := (hok s (by simp)).len
    have h2 := h s (by simp)
    have h3 := ih (fun s hs => hok s (by simp [hs])) (fun s hs => h s (by simp [hs]))
    show (s.l ++ flat ss).length = _
    rw [List.length_append, h3, h1, h2, List.length_cons]
    omega
theorem allZ_step (l : List UInt8) (a j : Nat) (haj : a ≤ j) (hj : j < l.length) (h : allZ ((l.drop a).take (j - a))) (h0 : l.getD j 0 = 0) : allZ ((l.drop a).take (j + 1 - a)) := by
  intro c hc
  rw [show j + 1 - a = (j - a) + 1 by omega, List.take_succ_eq_append_getElem (by rw [List.length_drop]; omega)] at hc
  rcases List.mem_append.1 hc with hc | hc
  · exact h c hc
  · rw [List.mem_singleton.1 hc, List.getElem_drop]
    rw [List.getD_eq_getElem?_getD, List.getElem?_eq_getElem hj] at h0
    simp only [show a + (j - a) = j by omega]
    exact h0
theorem not_allZ (l : List UInt8) (a j : Nat) (haj : a ≤ j) (hj : j < l.length) (h0 : l.getD j 0 ≠ 0) : ¬ allZ (l.drop a) := by
  intro h
  apply h0
  rw [List.getD_eq_getElem?_getD, List.getElem?_eq_getElem hj]
  apply h
  rw [List.mem_iff_getElem]
  exact ⟨j - a, by rw [List.length_drop]; omega, by rw [List.getElem_drop]; congr 1; omega⟩
set_option maxHeartbeats 1000000 in
theorem runpack_bad (A : Option Addr) (m c : Nat) (ss : List Sl) (n : Int) (w : World) (hm : ss.length = m) (hm2 : m ≤ 1048576) (h0 : -9223372036854775808 ≤ n) (h1 : n < 9223372036854775808)
    (hb : n < 0 ∨ 1048576 < n ∨ (m : Int) ≠ needZ n) :
    Calls Tryz.prog 122 #[.slice A m c, .int .i64 n] w fun x w' => unpOut (unp ss n) w x w' := by
  have hu : unp ss n = none := by unfold unp; rw [if_pos (by rw [hm]; exact hb)]
  rw [hu]
  have hN := rneed_int n w h0 h1
  have HN := Lib.hid hN
  have HO := Lib.hid (unpOut_none w w (Only.refl _ _))
  clear hu hN hm
  by_cases c1 : n < 0
  · have d1 : decide (n < 0) = true := decide_eq_true c1
    clear hb c1
    go_enter Tryz.func122, Tryz.ntmps122
    go_wp2_with fail
    exact bodyPost_ret (v := .tuple #[.slice none 0 0, .bool false]) (by simp [results, Tryz.results122, go_sem]) rfl HO.out
  · have d1 : decide (n < 0) = false := decide_eq_false c1
    by_cases c2 : 1048576 < n
    · have d2 : decide (1048576 < n) = true := decide_eq_true c2
      clear hb c1 c2
      go_enter Tryz.func122, Tryz.ntmps122
      go_wp2_with fail
      exact bodyPost_ret (v := .tuple #[.slice none 0 0, .bool false]) (by simp [results, Tryz.results122, go_sem]) rfl HO.out
    · have d2 : decide (1048576 < n) = false := decide_eq_false c2
      have c3 : ¬ (m : Int) = needZ n := by omega
      have d3 := beq_eq_false_iff_ne.2 c3
      generalize needZ n = z at *
      clear hb c1 c2
      go_enter Tryz.func122, Tryz.ntmps122
      go_wp2_with (go_at_call 83; refine HN.out.mono ?_; rintro x wx ⟨rfl, rfl⟩)
      exact bodyPost_ret (v := .tuple #[.slice none 0 0, .bool false]) (by simp [results, Tryz.results122, go_sem]) rfl HO.out
theorem need_le (n : Int) (m : Nat) (h0 : 0 ≤ n) (h : (m : Int) = needZ n) : n ≤ 64 * (m : Int) := by
  unfold needZ at h
  split at h <;> omega
set_option maxHeartbeats 1000000 in
theorem runpack_any (A : Option Addr) (m c B : Nat) (ss : List Sl) (n : Int) (w : World) (hm : ss.length = m) (hm2 : m ≤ 16384) (hr : Reads w B 1 A m (ss.map Sl.val)) (hB : B ≤ w.heap.size) (hok : ∀ s ∈ ss, Bytes w w.heap.size s.A s.n s.l)
    (h0 : -9223372036854775808 ≤ n) (h1 : n < 9223372036854775808) (hsz : ∀ s ∈ ss, s.n ≤ 1048576) :
    Calls Tryz.prog 122 #[.slice A m c, .int .i64 n] w fun x w' => unpOut (unp ss n) w x w' := by
  by_cases hb : n < 0 ∨ 1048576 < n ∨ (m : Int) ≠ needZ n
  · exact runpack_bad A m c ss n w hm (by omega) h0 h1 hb
  · have hu : unp ss n = if ¬ all64 ss then none else if ¬ allZ ((flat ss).drop n.toNat) then none else some ((flat ss).take n.toNat) := by unfold unp; rw [if_neg (by rw [hm]; exact hb)]
    have HU := Lib.hid hu
    have d1 : decide (n < 0) = false := decide_eq_false (by omega)
    have d2 : decide (1048576 < n) = false := decide_eq_false (by omega)
    have d3 : (m : Int) = needZ n := by omega
    have hle := need_le n m (by omega) d3
    obtain ⟨q, rfl⟩ := Int.eq_ofNat_of_zero_le (show 0 ≤ n by omega)
    have hq : q ≤ 64 * m := by omega
    rw [Int.toNat_natCast] at HU
    have hN := rneed_int (q : Int) w h0 h1
    rw [← d3] at hN
    have HN := Lib.hid hN
    have HM := Lib.hid hm
    clear hu hN hb d3 hle hm h0 h1
    go_enter Tryz.func122, Tryz.ntmps122
    go_wp2_with (go_at_call 83; refine HN.out.mono ?_; rintro x wx ⟨rfl, rfl⟩)
    go_loopw [6, 7] (fun v i wr => ∃ k : Nat, k ≤ m ∧ i = .int .i64 k ∧ all64 (ss.take k) ∧ OwnB wr w.heap.size v (flat (ss.take k)).length (flat (ss.take k)) ∧ Only [] w wr) (fun _ i _ => m - (intOf i).toNat)
    case atStart => exact ⟨0, by omega, rfl, by unfold all64; simp, OwnB.nil_ _ _, Only.refl _ _⟩
    case round =>
      obtain ⟨k, hk, rfl, h64, hv, ho⟩ := hrel
      by_cases hlt : k < m
      · have hkz : k < ss.length := by rw [HM.out]; exact hlt
        obtain ⟨b, off, rfl, hbB, hc⟩ := (hr.only ho (by simp)).at1 hlt
        rw [map_get _ _ ⟨none, 0, 0, []⟩ _ hkz] at hc
        have HF := Lib.hid (flat_take ss k hkz)
        have hbm : ss.getD k ⟨none, 0, 0, []⟩ ∈ ss := by rw [List.getD_eq_getElem?_getD, List.getElem?_eq_getElem hkz]; exact List.getElem_mem hkz
        have hbx := (hok _ hbm).only ho (by simp)
        have HBM := Lib.hid hbm
        have hfl := flat_len (ss.take k) w w.heap.size (fun s hs => hok s (List.mem_of_mem_take hs)) h64
        rw [List.length_take, HM.out, Nat.min_eq_left (by omega)] at hfl
        have H64 := Lib.hid (fun (hx : (ss.getD k ⟨none, 0, 0, []⟩).n = 64) (s : Sl) (hs : s ∈ ss.take (k + 1)) => show s.n = 64 from by
          rw [List.take_succ_eq_append_getElem hkz] at hs
          rcases List.mem_append.1 hs with hs | hs
          · exact h64 s hs
          · rw [List.mem_singleton.1 hs]
            rw [List.getD_eq_getElem?_getD, List.getElem?_eq_getElem hkz] at hx
            exact hx)
        clear hbm
        generalize ss.getD k ⟨none, 0, 0, []⟩ = x at *
        obtain ⟨xA, xn, xc, xl⟩ := x
        simp only [Sl.val] at hc hbx HF H64 HBM
        have hws := ho.size
        by_cases hx : xn = 64
        · subst hx
          go_wp2_with (at_builtin; refine wpList_append_bytes rfl (.tmp 34) (.tmp 38) rfl rfl hv rfl hbx (by rw [hfl]; omega) (by omega) ?_; intro v2 w2 ho2 hon2 hfr2)
          go_roundw
          case rel =>
            refine ⟨k + 1, by omega, by go_num, H64.out rfl, ?_, ho.trans hon2 (fun g hg => .inr (hv.lt g hg).1)⟩
            rw [HF.out, List.length_append, hbx.len]
            exact ho2
          case measure => simp [intOf]; omega
        · have hnn : ¬ ((xn : Int) = 64) := by omega
          have hun : unp ss (q : Int) = none := by rw [HU.out, if_pos (fun h => hx (h _ HBM.out))]
          have HUN := Lib.hid hun
          clear hun hx
          go_wp2_with fail
          rw [HUN.out]
          exact bodyPost_ret (v := .tuple #[.slice none 0 0, .bool false]) (by simp [results, Tryz.results122, go_sem]) rfl (unpOut_none _ _ ho)
      · obtain rfl : k = m := by omega
        rw [List.take_of_length_le (by rw [HM.out]; exact Nat.le_refl _)] at hv h64
        have hfl := flat_len ss w w.heap.size hok h64
        rw [HM.out] at hfl
        rw [if_neg (fun h => h h64)] at HU
        have HOL := Lib.hid hfl
        have hqL : q ≤ (flat ss).length := by omega
        have hL20 : (flat ss).length ≤ 1048576 := by omega
        obtain ⟨A6, cap6, rfl, hc6, hm6, hr6, _⟩ := hv.shape
        unfold maxLen at hm6
        have hown := hv.lt
        clear hfl hv hr hq hsz hok
        generalize flat ss = F at *
        go_wp2_with fail
        go_loop [8] (fun i => ∃ j : Nat, q ≤ j ∧ j ≤ F.length ∧ i = .int .i64 j ∧ allZ ((F.drop q).take (j - q))) (fun i => F.length - (intOf i).toNat)
        case atStart => exact ⟨q, by omega, hqL, rfl, by rw [Nat.sub_self]; unfold allZ; simp⟩
        case round =>
          obtain ⟨j, hqj, hjF, rfl, hz⟩ := hrel
          by_cases hjl : j < F.length
          · obtain ⟨bk, off, rfl, hbk, hcj⟩ := hr6.at_ hjl
            have hst := allZ_step F q j hqj hjl hz
            have hno := not_allZ F q j hqj hjl
            by_cases hz0 : F.getD j 0 = 0
            · have HST := Lib.hid (hst hz0)
              rw [hz0] at hcj
              have hcj' : wr.cell? ⟨bk, off + j, none⟩ = some (.int .u8 0) := hcj
              clear hcj hst hno hz hz0
              have hjF' : (F.length : Nat) ≤ cap6 := hc6
              go_wp2_with fail
              go_round
              case rel => exact ⟨j + 1, by omega, by omega, by go_num, HST.out⟩
              case measure => simp [intOf]; omega
            · have HNO := Lib.hid (hno hz0)
              have hne : ¬ (((F.getD j 0).toNat : Int) = 0) := fun h => hz0 (by
                have h2 : (F.getD j 0).toNat = 0 := by omega
                exact UInt8.toNat_inj.1 (by rw [h2]; rfl))
              generalize (F.getD j 0).toNat = cc at *
              rw [if_pos HNO.out] at HU
              clear hst hno hz hz0
              go_wp2_with fail
              rw [HU.out]
              exact bodyPost_ret (v := .tuple #[.slice none 0 0, .bool false]) (by simp [results, Tryz.results122, go_sem]) rfl (unpOut_none _ _ ho)
          · obtain rfl : j = F.length := by omega
            have hza : allZ (F.drop q) := by
              rw [List.take_of_length_le (by rw [List.length_drop]; exact Nat.le_refl _)] at hz
              exact hz
            rw [if_neg (fun h => h hza)] at HU
            have hqc : q ≤ cap6 := by omega
            have hqc' : (q : Int) ≤ (cap6 : Int) := by omega
            have hhd := hr6.head hqL
            have HHD := Lib.hid hhd
            clear hz hza hhd hr6
            go_wp2_with fail
            rw [HU.out]
            exact bodyPost_ret (v := .tuple #[.slice A6 q cap6, .bool true]) (by simp [results, Tryz.results122, go_sem]) rfl ⟨A6, q, cap6, rfl, HHD.out, hqc, by unfold maxLen; omega, ho⟩
end Go.Proofs.YthgfmoogagldmaaGreat.Frame
