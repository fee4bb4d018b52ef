/- The walks of frame: the bytes of sectors, by the program. -/
import Derived.Test.YthgfmoogagldmaaGreatFrameB
set_option linter.unusedVariables false
set_option maxRecDepth 100000
namespace Go.Proofs.YthgfmoogagldmaaGreat.Frame
open Go.RowKit
def idxOut (P : Prop) (w : World) (x : Ending) (w' : World) : Prop := ∃ z : Int, x = .returned (.int .i64 z) ∧ (0 ≤ z ↔ P) ∧ w = w'
theorem odd_is (A : Option Addr) (n c : Nat) (w : World) (b : Bool) (hb : decide (n ≠ 64) = b) : Calls Tryz.prog 152 #[.slice A n c] w fun x w' => x = .returned (.bool b) ∧ w = w' := by
  subst hb
  by_cases h : n = 64
  · subst h
    go_enter Tryz.func152, Tryz.ntmps152
    go_wp2_with fail
    go_ret
    exact ⟨by simp, rfl⟩
  · have h' : ¬ ((n : Int) = 64) := by omega
    have h2 := beq_eq_false_iff_ne.2 h'
    go_enter Tryz.func152, Tryz.ntmps152
    go_wp2_with fail
    go_ret
    exact ⟨by simp [h, h'], rfl⟩
theorem nonz_is (u : UInt8) (w : World) (b : Bool) (hb : decide (u ≠ 0) = b) : Calls Tryz.prog 155 #[.int .u8 (u.toNat : Int)] w fun x w' => x = .returned (.bool b) ∧ w = w' := by
  subst hb
  by_cases h : u = 0
  · subst h
    have h0 : ((0 : UInt8).toNat : Int) = 0 := rfl
    rw [h0]
    go_enter Tryz.func155, Tryz.ntmps155
    go_wp2_with fail
    go_ret
    exact ⟨by simp, rfl⟩
  · have h' : ¬ ((u.toNat : Int) = 0) := fun h3 => h (by
      have h2 : u.toNat = 0 := by omega
      exact UInt8.toNat_inj.1 (by rw [h2]; rfl))
    have h2 := beq_eq_false_iff_ne.2 h'
    generalize (u.toNat : Int) = z at *
    have HH := Lib.hid h
    go_enter Tryz.func155, Tryz.ntmps155
    go_wp2_with fail
    go_ret
    exact ⟨by simp [h, h'], rfl⟩
theorem index_odd (A : Option Addr) (m c B : Nat) (ss : List Sl) (w : World) (hm : ss.length = m) (hm2 : m ≤ 1048576) (hr : Reads w B 1 A m (ss.map Sl.val)) :
    Calls Tryz.prog 162 #[.slice A m c, .func (.func 152) #[] #[]] w fun x w' => idxOut (¬ all64 ss) w x w' := by
  have HM := Lib.hid hm
  clear hm
  go_enter Tryz.func162, Tryz.ntmps162
  go_wp2_with fail
  go_loop [8] (fun i => ∃ k : Nat, k ≤ m ∧ i = .int .i64 k ∧ all64 (ss.take k)) (fun i => m - (intOf i).toNat)
  case atStart => exact ⟨0, by omega, rfl, by unfold all64; simp⟩
  case round =>
    obtain ⟨k, hk, rfl, h64⟩ := hrel
    by_cases hlt : k < m
    · have hkz : k < ss.length := by rw [HM.out]; exact hlt
      obtain ⟨b, off, rfl, hbB, hc⟩ := hr.at1 hlt
      rw [map_get _ _ ⟨none, 0, 0, []⟩ _ hkz] at hc
      have hbm : ss.getD k ⟨none, 0, 0, []⟩ ∈ ss := by rw [List.getD_eq_getElem?_getD, List.getElem?_eq_getElem hkz]; exact List.getElem_mem hkz
      have HBM := Lib.hid hbm
      have H64 := Lib.hid (fun (hx : (ss.getD k ⟨none, 0, 0, []⟩).n = 64) (s : Sl) (hs : s ∈ ss.take (k + 1)) => show s.n = 64 from by
        rw [List.take_succ_eq_append_getElem hkz] at hs
        rcases List.mem_append.1 hs with hs | hs
        · exact h64 s hs
        · rw [List.mem_singleton.1 hs]
          rw [List.getD_eq_getElem?_getD, List.getElem?_eq_getElem hkz] at hx
          exact hx)
      clear hbm
      generalize ss.getD k ⟨none, 0, 0, []⟩ = x at *
      obtain ⟨xA, xn, xc, xl⟩ := x
      simp only [Sl.val] at hc H64 HBM
      by_cases hx : xn = 64
      · have ho := odd_is xA xn xc w false (by rw [hx]; rfl)
        have HO := Lib.hid ho
        have HX := Lib.hid hx
        clear ho hx
        go_wp2_with (go_at_call 152; refine HO.out.mono ?_; rintro _ wx ⟨rfl, rfl⟩)
        go_round
        case rel => exact ⟨k + 1, by omega, by go_num, H64.out HX.out⟩
        case measure => simp [intOf]; omega
      · have ho := odd_is xA xn xc w true (decide_eq_true hx)
        have HO := Lib.hid ho
        have hn : ¬ all64 ss := fun h => hx (h _ HBM.out)
        clear ho hx
        go_wp2_with (go_at_call 152; refine HO.out.mono ?_; rintro _ wx ⟨rfl, rfl⟩)
        go_ret
        exact ⟨_, rfl, ⟨fun _ => hn, fun _ => by omega⟩, rfl⟩
    · obtain rfl : k = m := by omega
      rw [List.take_of_length_le (by rw [HM.out]; exact Nat.le_refl _)] at h64
      go_wp2_with fail
      go_ret
      exact ⟨_, rfl, ⟨fun h => by omega, fun h => h.elim⟩, rfl⟩
theorem index_nonz (A : Option Addr) (m c B : Nat) (l : List UInt8) (w : World) (hr : Bytes w B A m l) (hm2 : m ≤ 1048576) :
    Calls Tryz.prog 163 #[.slice A m c, .func (.func 155) #[] #[]] w fun x w' => idxOut (¬ allZ l) w x w' := by
  have HM := Lib.hid hr.len
  go_enter Tryz.func163, Tryz.ntmps163
  go_wp2_with fail
  go_loop [8] (fun i => ∃ k : Nat, k ≤ m ∧ i = .int .i64 k ∧ allZ (l.take k)) (fun i => m - (intOf i).toNat)
  case atStart => exact ⟨0, by omega, rfl, by unfold allZ; simp⟩
  case round =>
    obtain ⟨k, hk, rfl, hz⟩ := hrel
    by_cases hlt : k < m
    · have hkz : k < l.length := by rw [HM.out]; exact hlt
      obtain ⟨b, off, rfl, hbB, hc⟩ := hr.at_ hlt
      have hst := allZ_step l 0 k (by omega) hkz (by simpa using hz)
      have hno := not_allZ l 0 k (by omega) hkz
      rw [List.drop_zero, Nat.sub_zero] at hst
      rw [List.drop_zero] at hno
      by_cases hx : l.getD k 0 = 0
      · have ho := nonz_is (l.getD k 0) w false (by rw [hx]; rfl)
        have HO := Lib.hid ho
        have HST := Lib.hid (hst hx)
        clear ho hx hst hno hz
        generalize ((l.getD k 0).toNat : Int) = u at *
        go_wp2_with (go_at_call 155; refine HO.out.mono ?_; rintro _ wx ⟨rfl, rfl⟩)
        go_round
        case rel => exact ⟨k + 1, by omega, by go_num, HST.out⟩
        case measure => simp [intOf]; omega
      · have ho := nonz_is (l.getD k 0) w true (decide_eq_true hx)
        have HO := Lib.hid ho
        have HNO := Lib.hid (hno hx)
        clear ho hx hst hno hz
        generalize ((l.getD k 0).toNat : Int) = u at *
        go_wp2_with (go_at_call 155; refine HO.out.mono ?_; rintro _ wx ⟨rfl, rfl⟩)
        go_ret
        exact ⟨_, rfl, ⟨fun _ => HNO.out, fun _ => by omega⟩, rfl⟩
    · obtain rfl : k = m := by omega
      rw [List.take_of_length_le (by rw [HM.out]; exact Nat.le_refl _)] at hz
      go_wp2_with fail
      go_ret
      exact ⟨_, rfl, ⟨fun h => by omega, fun h => h.elim⟩, rfl⟩
theorem contains_odd (A : Option Addr) (m c B : Nat) (ss : List Sl) (w : World) (b : Bool) (hb : decide (¬ all64 ss) = b) (hm : ss.length = m) (hm2 : m ≤ 1048576) (hr : Reads w B 1 A m (ss.map Sl.val)) :
    Calls Tryz.prog 153 #[.slice A m c, .func (.func 152) #[] #[]] w fun x w' => x = .returned (.bool b) ∧ w = w' := by
  have hi := index_odd A m c B ss w hm hm2 hr
  go_enter Tryz.func153, Tryz.ntmps153
  go_wp2_with fail
  refine hi.mono ?_
  rintro _ wx ⟨z, rfl, hz, rfl⟩
  have hd : decide ((0 : Int) ≤ z) = b := by rw [← hb]; exact decide_eq_decide.2 hz
  clear hz hb hi
  go_wp2_with fail
  go_ret
  exact ⟨by rw [← hd]; rfl, rfl⟩
theorem contains_nonz (A : Option Addr) (m c B : Nat) (l : List UInt8) (w : World) (b : Bool) (hb : decide (¬ allZ l) = b) (hr : Bytes w B A m l) (hm2 : m ≤ 1048576) :
    Calls Tryz.prog 154 #[.slice A m c, .func (.func 155) #[] #[]] w fun x w' => x = .returned (.bool b) ∧ w = w' := by
  have hi := index_nonz A m c B l w hr hm2
  go_enter Tryz.func154, Tryz.ntmps154
  go_wp2_with fail
  refine hi.mono ?_
  rintro _ wx ⟨z, rfl, hz, rfl⟩
  have hd : decide ((0 : Int) ≤ z) = b := by rw [← hb]; exact decide_eq_decide.2 hz
  clear hz hb hi
  go_wp2_with fail
  go_ret
  exact ⟨by rw [← hd]; rfl, rfl⟩
def unpFresh (u : Option (List UInt8)) (w : World) (x : Ending) (w' : World) : Prop :=
  ∃ A n c, x = .returned (.tuple #[.slice A n c, .bool u.isSome]) ∧ Bytes w' w'.heap.size A n (u.getD []) ∧ n ≤ c ∧ c ≤ maxLen ∧ Only [] w w' ∧ ∀ k ∈ blkOf A, w.heap.size ≤ k ∧ ∃ cs, Blk w' k 5 cs
theorem unpFresh_none (w w' : World) (ho : Only [] w w') : unpFresh none w (.returned (.tuple #[.slice none 0 0, .bool false])) w' := ⟨none, 0, 0, rfl, Bytes.nil_, Nat.le_refl _, by simp [maxLen], ho, fun k hk => by cases hk⟩
set_option maxHeartbeats 1000000 in
theorem unpackF_bad (A : Option Addr) (m c : Nat) (ss : List Sl) (n : Int) (w : World) (hm : ss.length = m) (h0 : -9223372036854775808 ≤ n) (h1 : n < 9223372036854775808)
    (hb : n < 0 ∨ 1048576 < n ∨ (m : Int) ≠ needZ n) :
    Calls Tryz.prog 138 #[.slice A m c, .int .i64 n] w fun x w' => unpFresh (unp ss n) w x w' := by
  have hu : unp ss n = none := by unfold unp; rw [if_pos (by rw [hm]; exact hb)]
  rw [hu]
  have hN := need_int n w h0 h1
  have HN := Lib.hid hN
  have HO := Lib.hid (unpFresh_none w w (Only.refl _ _))
  clear hu hN hm
  by_cases c1 : n < 0
  · have d1 : decide (n < 0) = true := decide_eq_true c1
    clear hb c1
    go_enter Tryz.func138, Tryz.ntmps138
    go_wp2_with fail
    exact bodyPost_ret (v := .tuple #[.slice none 0 0, .bool false]) (by simp [results, Tryz.results138, go_sem]) rfl HO.out
  · have d1 : decide (n < 0) = false := decide_eq_false c1
    by_cases c2 : 1048576 < n
    · have d2 : decide (1048576 < n) = true := decide_eq_true c2
      clear hb c1 c2
      go_enter Tryz.func138, Tryz.ntmps138
      go_wp2_with fail
      exact bodyPost_ret (v := .tuple #[.slice none 0 0, .bool false]) (by simp [results, Tryz.results138, go_sem]) rfl HO.out
    · have d2 : decide (1048576 < n) = false := decide_eq_false c2
      have c3 : ¬ (m : Int) = needZ n := by omega
      have d3 := beq_eq_false_iff_ne.2 c3
      generalize needZ n = z at *
      clear hb c1 c2
      go_enter Tryz.func138, Tryz.ntmps138
      go_wp2_with (go_at_call 110; refine HN.out.mono ?_; rintro x wx ⟨rfl, rfl⟩)
      exact bodyPost_ret (v := .tuple #[.slice none 0 0, .bool false]) (by simp [results, Tryz.results138, go_sem]) rfl HO.out
set_option maxHeartbeats 1000000 in
theorem unpackF_any (A : Option Addr) (m c B : Nat) (ss : List Sl) (n : Int) (w : World) (hm : ss.length = m) (hm2 : m ≤ 16384) (hr : Reads w B 1 A m (ss.map Sl.val)) (hB : B ≤ w.heap.size) (hok : ∀ s ∈ ss, Bytes w w.heap.size s.A s.n s.l)
    (h0 : -9223372036854775808 ≤ n) (h1 : n < 9223372036854775808) :
    Calls Tryz.prog 138 #[.slice A m c, .int .i64 n] w fun x w' => unpFresh (unp ss n) w x w' := by
  by_cases hb : n < 0 ∨ 1048576 < n ∨ (m : Int) ≠ needZ n
  · exact unpackF_bad A m c ss n w hm h0 h1 hb
  · have hu : unp ss n = if ¬ all64 ss then none else if ¬ allZ ((flat ss).drop n.toNat) then none else some ((flat ss).take n.toNat) := by unfold unp; rw [if_neg (by rw [hm]; exact hb)]
    have d1 : decide (n < 0) = false := decide_eq_false (by omega)
    have d2 : decide (1048576 < n) = false := decide_eq_false (by omega)
    have d3 : (m : Int) = needZ n := by omega
    have hle := need_le n m (by omega) d3
    obtain ⟨q, rfl⟩ := Int.eq_ofNat_of_zero_le (show 0 ≤ n by omega)
    have hq : q ≤ 64 * m := by omega
    rw [Int.toNat_natCast] at hu
    have HU := Lib.hid hu
    have hN := need_int (q : Int) w h0 h1
    rw [← d3] at hN
    have HN := Lib.hid hN
    clear hu hN hb d3 hle h0 h1
    by_cases h64 : all64 ss
    · have hC := contains_odd A m c B ss w false (decide_eq_false (fun h => h h64)) hm (by omega) hr
      have HC := Lib.hid hC
      have hfl := flat_len ss w w.heap.size hok h64
      rw [hm] at hfl
      have hcc := concat_any A m c B ss w hm hr hB hok (by omega) (by omega)
      have HCC := Lib.hid hcc
      rw [if_neg (fun h => h h64)] at HU
      have hqL : q ≤ (flat ss).length := by omega
      have hL20 : (flat ss).length ≤ 1048576 := by omega
      clear hC hcc hfl hm hr hq hok h64
      generalize flat ss = F at *
      go_enter Tryz.func138, Tryz.ntmps138
      go_wp2_with (first
        | (go_at_call 110; refine HN.out.mono ?_; rintro x wx ⟨rfl, rfl⟩)
        | (go_at_call 153; refine HC.out.mono ?_; rintro x wx ⟨rfl, rfl⟩))
      refine HCC.out.mono ?_
      rintro _ w1 ⟨v, rfl, hv, ho1⟩
      obtain ⟨A6, cap6, rfl, hc6, hm6, hr6, hfr6⟩ := hv.shape
      have HFR := Lib.hid (show ∀ k ∈ blkOf A6, w.heap.size ≤ k ∧ ∃ cs, Blk w1 k 5 cs from by
        intro k hk
        obtain ⟨_, h0⟩ := hv
        rcases h0 with ⟨e, _⟩ | ⟨g6, cap', cur, e, e2, hh, _⟩
        · injection e with e1 _ _
          rw [e1] at hk
          cases hk
        · injection e with e1 _ _
          rw [e1] at hk
          simp [blkOf] at hk
          subst hk
          exact ⟨e2, _, hh⟩)
      clear hfr6
      unfold maxLen at hm6
      have hqc : q ≤ cap6 := by omega
      have hqi : (q : Int) ≤ (F.length : Int) := by omega
      have hqi2 : (q : Int) ≤ (cap6 : Int) := by omega
      have hhd := hr6.head hqL
      have hct := hr6.cut (cap := cap6) hqL hc6
      have HHD := Lib.hid hhd
      clear hr6 hv hhd
      have HCT := Lib.hid hct
      clear hct
      by_cases hcq : cap6 = q
      · have hby : Bytes w1 w1.heap.size A6 (F.length - q) (F.drop q) := by have := HCT.out; rw [if_pos hcq] at this; exact this
        go_wp2_with fail
        by_cases hz : allZ (F.drop q)
        · rw [if_neg (fun h => h hz)] at HU
          refine (contains_nonz A6 (F.length - q) _ _ (F.drop q) w1 false (decide_eq_false (fun h => h hz)) hby (by omega)).mono ?_
          rintro _ wx ⟨rfl, rfl⟩
          clear hby hz
          go_wp2_with fail
          rw [HU.out]
          exact bodyPost_ret (v := .tuple #[.slice A6 q q, .bool true]) (by simp [results, Tryz.results138, go_sem]) rfl ⟨A6, q, q, rfl, HHD.out, Nat.le_refl _, by unfold maxLen; omega, ho1, HFR.out⟩
        · rw [if_pos hz] at HU
          refine (contains_nonz A6 (F.length - q) _ _ (F.drop q) w1 true (decide_eq_true hz) hby (by omega)).mono ?_
          rintro _ wx ⟨rfl, rfl⟩
          clear hby hz
          go_wp2_with fail
          rw [HU.out]
          exact bodyPost_ret (v := .tuple #[.slice none 0 0, .bool false]) (by simp [results, Tryz.results138, go_sem]) rfl (unpFresh_none _ _ ho1)
      · have hby : Bytes w1 w1.heap.size (A6.map (fun x => x.add q)) (F.length - q) (F.drop q) := by have := HCT.out; rw [if_neg hcq] at this; simpa using this
        go_wp2_with fail
        by_cases hz : allZ (F.drop q)
        · rw [if_neg (fun h => h hz)] at HU
          refine (contains_nonz _ (F.length - q) _ _ (F.drop q) w1 false (decide_eq_false (fun h => h hz)) hby (by omega)).mono ?_
          rintro _ wx ⟨rfl, rfl⟩
          clear hby hz
          go_wp2_with fail
          rw [HU.out]
          exact bodyPost_ret (v := .tuple #[.slice A6 q q, .bool true]) (by simp [results, Tryz.results138, go_sem]) rfl ⟨A6, q, q, rfl, HHD.out, Nat.le_refl _, by unfold maxLen; omega, ho1, HFR.out⟩
        · rw [if_pos hz] at HU
          refine (contains_nonz _ (F.length - q) _ _ (F.drop q) w1 true (decide_eq_true hz) hby (by omega)).mono ?_
          rintro _ wx ⟨rfl, rfl⟩
          clear hby hz
          go_wp2_with fail
          rw [HU.out]
          exact bodyPost_ret (v := .tuple #[.slice none 0 0, .bool false]) (by simp [results, Tryz.results138, go_sem]) rfl (unpFresh_none _ _ ho1)
    · have hC := contains_odd A m c B ss w true (decide_eq_true h64) hm (by omega) hr
      have HC := Lib.hid hC
      rw [if_pos h64] at HU
      have HO := Lib.hid (unpFresh_none w w (Only.refl _ _))
      clear hC hm hr hok h64 hq hB hm2
      go_enter Tryz.func138, Tryz.ntmps138
      go_wp2_with (first
        | (go_at_call 110; refine HN.out.mono ?_; rintro x wx ⟨rfl, rfl⟩)
        | (go_at_call 153; refine HC.out.mono ?_; rintro x wx ⟨rfl, rfl⟩))
      rw [HU.out]
      exact bodyPost_ret (v := .tuple #[.slice none 0 0, .bool false]) (by simp [results, Tryz.results138, go_sem]) rfl HO.out
end Go.Proofs.YthgfmoogagldmaaGreat.Frame
