/- FrameB: The walks of frame: how many sectors; the bytes of sectors, by the document; The walks of frame: bytes in sectors, by the document. -/
import Derived.Test.YthgfmoogagldmaaGreatConcat
import Derived.Test.YthgfmoogagldmaaGreatRows2
set_option linter.unusedVariables false
set_option maxRecDepth 100000
namespace Go.Proofs.YthgfmoogagldmaaGreat.Frame
open Go.RowKit
def needZ (n : Int) : Int := if n ≤ 0 then 0 else (n - 1) / 64 + 1
theorem need_int (n : Int) (w : World) (h0 : -9223372036854775808 ≤ n) (h1 : n < 9223372036854775808) : Calls Tryz.prog 110 #[.int .i64 n] w fun x w' => x = .returned (.int .i64 (needZ n)) ∧ w = w' := by
  by_cases h : n ≤ 0
  · have hv : needZ n = 0 := if_pos h
    have d1 : decide (n ≤ 0) = true := decide_eq_true h
    rw [hv]
    clear hv
    go_enter Tryz.func110, Tryz.ntmps110
    go_wp2_with fail
    go_ret
    exact ⟨rfl, rfl⟩
  · obtain ⟨k, rfl⟩ : ∃ k : Nat, n = (k : Int) + 1 := ⟨(n - 1).toNat, by omega⟩
    have hv : needZ ((k : Int) + 1) = (k : Int) / 64 + 1 := by unfold needZ; rw [if_neg h]; omega
    have d1 : decide ((k : Int) + 1 ≤ 0) = false := decide_eq_false h
    rw [hv]
    clear hv
    go_enter Tryz.func110, Tryz.ntmps110
    go_wp2_with fail
    go_ret
    exact ⟨rfl, rfl⟩
theorem rneed_int (n : Int) (w : World) (h0 : -9223372036854775808 ≤ n) (h1 : n < 9223372036854775808) : Calls Tryz.prog 83 #[.int .i64 n] w fun x w' => x = .returned (.int .i64 (needZ n)) ∧ w = w' := by
  by_cases h : n ≤ 0
  · have hv : needZ n = 0 := if_pos h
    have d1 : decide (n ≤ 0) = true := decide_eq_true h
    rw [hv]
    clear hv
    go_enter Tryz.func83, Tryz.ntmps83
    go_wp2_with fail
    go_ret
    exact ⟨rfl, rfl⟩
  · obtain ⟨k, rfl⟩ : ∃ k : Nat, n = (k : Int) + 1 := ⟨(n - 1).toNat, by omega⟩
    have hv : needZ ((k : Int) + 1) = (k : Int) / 64 + 1 := by unfold needZ; rw [if_neg h]; omega
    have d1 : decide ((k : Int) + 1 ≤ 0) = false := decide_eq_false h
    rw [hv]
    clear hv
    go_enter Tryz.func83, Tryz.ntmps83
    go_wp2_with fail
    go_ret
    exact ⟨rfl, rfl⟩
def allZ (l : List UInt8) : Prop := ∀ c ∈ l, c = 0
instance (l : List UInt8) : Decidable (allZ l) := by unfold allZ; infer_instance
def all64 (ss : List Sl) : Prop := ∀ s ∈ ss, s.n = 64
instance (ss : List Sl) : Decidable (all64 ss) := by unfold all64; infer_instance
def unp (ss : List Sl) (n : Int) : Option (List UInt8) :=
  if n < 0 ∨ 1048576 < n ∨ (ss.length : Int) ≠ needZ n then none
  else if ¬ all64 ss then none
  else if ¬ allZ ((flat ss).drop n.toNat) then none
  else some ((flat ss).take n.toNat)
def unpOut (u : Option (List UInt8)) (w : World) (x : Ending) (w' : World) : Prop :=
  ∃ A n c, x = .returned (.tuple #[.slice A n c, .bool u.isSome]) ∧ Bytes w' w'.heap.size A n (u.getD []) ∧ n ≤ c ∧ c ≤ maxLen ∧ Only [] w w'
theorem unpOut_none (w w' : World) (ho : Only [] w w') : unpOut none w (.returned (.tuple #[.slice none 0 0, .bool false])) w' := ⟨none, 0, 0, rfl, Bytes.nil_, Nat.le_refl _, by simp [maxLen], ho⟩
theorem flat_len (ss : List Sl) (w : World) (B : Nat) (hok : ∀ s ∈ ss, Bytes w B s.A s.n s.l) (h : all64 ss) : (flat ss).length = 64 * ss.length := by
  induction ss with
  | nil => rfl
  | cons s ss ih =>
    have h1 := (hok s (by simp)).len
    have h2 := h s (by simp)
    have h3 := ih (fun s hs => hok s (by simp [hs])) (fun s hs => h s (by simp [hs]))
    show (s.l ++ flat ss).length = _
    rw [List.length_append, h3, h1, h2, List.length_cons]
    omega
theorem allZ_step (l : List UInt8) (a j : Nat) (haj : a ≤ j) (hj : j < l.length) (h : allZ ((l.drop a).take (j - a))) (h0 : l.getD j 0 = 0) : allZ ((l.drop a).take (j + 1 - a)) := by
  intro c hc
  rw [show j + 1 - a = (j - a) + 1 by omega, List.take_succ_eq_append_getElem (by rw [List.length_drop]; omega)] at hc
  rcases List.mem_append.1 hc with hc | hc
  · exact h c hc
  · rw [List.mem_singleton.1 hc, List.getElem_drop]
    rw [List.getD_eq_getElem?_getD, List.getElem?_eq_getElem hj] at h0
    simp only [show a + (j - a) = j by omega]
    exact h0
theorem not_allZ (l : List UInt8) (a j : Nat) (haj : a ≤ j) (hj : j < l.length) (h0 : l.getD j 0 ≠ 0) : ¬ allZ (l.drop a) := by
  intro h
  apply h0
  rw [List.getD_eq_getElem?_getD, List.getElem?_eq_getElem hj]
  apply h
  rw [List.mem_iff_getElem]
  exact ⟨j - a, by rw [List.length_drop]; omega, by rw [List.getElem_drop]; congr 1; omega⟩
set_option maxHeartbeats 1000000 in
theorem runpack_bad (A : Option Addr) (m c : Nat) (ss : List Sl) (n : Int) (w : World) (hm : ss.length = m) (hm2 : m ≤ 1048576) (h0 : -9223372036854775808 ≤ n) (h1 : n < 9223372036854775808)
    (hb : n < 0 ∨ 1048576 < n ∨ (m : Int) ≠ needZ n) :
    Calls Tryz.prog 122 #[.slice A m c, .int .i64 n] w fun x w' => unpOut (unp ss n) w x w' := by
  have hu : unp ss n = none := by unfold unp; rw [if_pos (by rw [hm]; exact hb)]
  rw [hu]
  have hN := rneed_int n w h0 h1
  have HN := Lib.hid hN
  have HO := Lib.hid (unpOut_none w w (Only.refl _ _))
  clear hu hN hm
  by_cases c1 : n < 0
  · have d1 : decide (n < 0) = true := decide_eq_true c1
    clear hb c1
    go_enter Tryz.func122, Tryz.ntmps122
    go_wp2_with fail
    exact bodyPost_ret (v := .tuple #[.slice none 0 0, .bool false]) (by simp [results, Tryz.results122, go_sem]) rfl HO.out
  · have d1 : decide (n < 0) = false := decide_eq_false c1
    by_cases c2 : 1048576 < n
    · have d2 : decide (1048576 < n) = true := decide_eq_true c2
      clear hb c1 c2
      go_enter Tryz.func122, Tryz.ntmps122
      go_wp2_with fail
      exact bodyPost_ret (v := .tuple #[.slice none 0 0, .bool false]) (by simp [results, Tryz.results122, go_sem]) rfl HO.out
    · have d2 : decide (1048576 < n) = false := decide_eq_false c2
      have c3 : ¬ (m : Int) = needZ n := by omega
      have d3 := beq_eq_false_iff_ne.2 c3
      generalize needZ n = z at *
      clear hb c1 c2
      go_enter Tryz.func122, Tryz.ntmps122
      go_wp2_with (go_at_call 83; refine HN.out.mono ?_; rintro x wx ⟨rfl, rfl⟩)
      exact bodyPost_ret (v := .tuple #[.slice none 0 0, .bool false]) (by simp [results, Tryz.results122, go_sem]) rfl HO.out
theorem need_le (n : Int) (m : Nat) (h0 : 0 ≤ n) (h : (m : Int) = needZ n) : n ≤ 64 * (m : Int) := by
  unfold needZ at h
  split at h <;> omega
set_option maxHeartbeats 1000000 in
theorem runpack_any (A : Option Addr) (m c B : Nat) (ss : List Sl) (n : Int) (w : World) (hm : ss.length = m) (hm2 : m ≤ 16384) (hr : Reads w B 1 A m (ss.map Sl.val)) (hB : B ≤ w.heap.size) (hok : ∀ s ∈ ss, Bytes w w.heap.size s.A s.n s.l)
    (h0 : -9223372036854775808 ≤ n) (h1 : n < 9223372036854775808) (hsz : ∀ s ∈ ss, s.n ≤ 1048576) :
    Calls Tryz.prog 122 #[.slice A m c, .int .i64 n] w fun x w' => unpOut (unp ss n) w x w' := by
  by_cases hb : n < 0 ∨ 1048576 < n ∨ (m : Int) ≠ needZ n
  · exact runpack_bad A m c ss n w hm (by omega) h0 h1 hb
  · have hu : unp ss n = if ¬ all64 ss then none else if ¬ allZ ((flat ss).drop n.toNat) then none else some ((flat ss).take n.toNat) := by unfold unp; rw [if_neg (by rw [hm]; exact hb)]
    have HU := Lib.hid hu
    have d1 : decide (n < 0) = false := decide_eq_false (by omega)
    have d2 : decide (1048576 < n) = false := decide_eq_false (by omega)
    have d3 : (m : Int) = needZ n := by omega
    have hle := need_le n m (by omega) d3
    obtain ⟨q, rfl⟩ := Int.eq_ofNat_of_zero_le (show 0 ≤ n by omega)
    have hq : q ≤ 64 * m := by omega
    rw [Int.toNat_natCast] at HU
    have hN := rneed_int (q : Int) w h0 h1
    rw [← d3] at hN
    have HN := Lib.hid hN
    have HM := Lib.hid hm
    clear hu hN hb d3 hle hm h0 h1
    go_enter Tryz.func122, Tryz.ntmps122
    go_wp2_with (go_at_call 83; refine HN.out.mono ?_; rintro x wx ⟨rfl, rfl⟩)
    go_loopw [6, 7] (fun v i wr => ∃ k : Nat, k ≤ m ∧ i = .int .i64 k ∧ all64 (ss.take k) ∧ OwnB wr w.heap.size v (flat (ss.take k)).length (flat (ss.take k)) ∧ Only [] w wr) (fun _ i _ => m - (intOf i).toNat)
    case atStart => exact ⟨0, by omega, rfl, by unfold all64; simp, OwnB.nil_ _ _, Only.refl _ _⟩
    case round =>
      obtain ⟨k, hk, rfl, h64, hv, ho⟩ := hrel
      by_cases hlt : k < m
      · have hkz : k < ss.length := by rw [HM.out]; exact hlt
        obtain ⟨b, off, rfl, hbB, hc⟩ := (hr.only ho (by simp)).at1 hlt
        rw [map_get _ _ ⟨none, 0, 0, []⟩ _ hkz] at hc
        have HF := Lib.hid (flat_take ss k hkz)
        have hbm : ss.getD k ⟨none, 0, 0, []⟩ ∈ ss := by rw [List.getD_eq_getElem?_getD, List.getElem?_eq_getElem hkz]; exact List.getElem_mem hkz
        have hbx := (hok _ hbm).only ho (by simp)
        have HBM := Lib.hid hbm
        have hfl := flat_len (ss.take k) w w.heap.size (fun s hs => hok s (List.mem_of_mem_take hs)) h64
        rw [List.length_take, HM.out, Nat.min_eq_left (by omega)] at hfl
        have H64 := Lib.hid (fun (hx : (ss.getD k ⟨none, 0, 0, []⟩).n = 64) (s : Sl) (hs : s ∈ ss.take (k + 1)) => show s.n = 64 from by
          rw [List.take_succ_eq_append_getElem hkz] at hs
          rcases List.mem_append.1 hs with hs | hs
          · exact h64 s hs
          · rw [List.mem_singleton.1 hs]
            rw [List.getD_eq_getElem?_getD, List.getElem?_eq_getElem hkz] at hx
            exact hx)
        clear hbm
        generalize ss.getD k ⟨none, 0, 0, []⟩ = x at *
        obtain ⟨xA, xn, xc, xl⟩ := x
        simp only [Sl.val] at hc hbx HF H64 HBM
        have hws := ho.size
        by_cases hx : xn = 64
        · subst hx
          go_wp2_with (at_builtin; refine wpList_append_bytes rfl (.tmp 34) (.tmp 38) rfl rfl hv rfl hbx (by rw [hfl]; omega) (by omega) ?_; intro v2 w2 ho2 hon2 hfr2)
          go_roundw
          case rel =>
            refine ⟨k + 1, by omega, by go_num, H64.out rfl, ?_, ho.trans hon2 (fun g hg => .inr (hv.lt g hg).1)⟩
            rw [HF.out, List.length_append, hbx.len]
            exact ho2
          case measure => simp [intOf]; omega
        · have hnn : ¬ ((xn : Int) = 64) := by omega
          have hun : unp ss (q : Int) = none := by rw [HU.out, if_pos (fun h => hx (h _ HBM.out))]
          have HUN := Lib.hid hun
          clear hun hx
          go_wp2_with fail
          rw [HUN.out]
          exact bodyPost_ret (v := .tuple #[.slice none 0 0, .bool false]) (by simp [results, Tryz.results122, go_sem]) rfl (unpOut_none _ _ ho)
      · obtain rfl : k = m := by omega
        rw [List.take_of_length_le (by rw [HM.out]; exact Nat.le_refl _)] at hv h64
        have hfl := flat_len ss w w.heap.size hok h64
        rw [HM.out] at hfl
        rw [if_neg (fun h => h h64)] at HU
        have HOL := Lib.hid hfl
        have hqL : q ≤ (flat ss).length := by omega
        have hL20 : (flat ss).length ≤ 1048576 := by omega
        obtain ⟨A6, cap6, rfl, hc6, hm6, hr6, _⟩ := hv.shape
        unfold maxLen at hm6
        have hown := hv.lt
        clear hfl hv hr hq hsz hok
        generalize flat ss = F at *
        go_wp2_with fail
        go_loop [8] (fun i => ∃ j : Nat, q ≤ j ∧ j ≤ F.length ∧ i = .int .i64 j ∧ allZ ((F.drop q).take (j - q))) (fun i => F.length - (intOf i).toNat)
        case atStart => exact ⟨q, by omega, hqL, rfl, by rw [Nat.sub_self]; unfold allZ; simp⟩
        case round =>
          obtain ⟨j, hqj, hjF, rfl, hz⟩ := hrel
          by_cases hjl : j < F.length
          · obtain ⟨bk, off, rfl, hbk, hcj⟩ := hr6.at_ hjl
            have hst := allZ_step F q j hqj hjl hz
            have hno := not_allZ F q j hqj hjl
            by_cases hz0 : F.getD j 0 = 0
            · have HST := Lib.hid (hst hz0)
              rw [hz0] at hcj
              have hcj' : wr.cell? ⟨bk, off + j, none⟩ = some (.int .u8 0) := hcj
              clear hcj hst hno hz hz0
              have hjF' : (F.length : Nat) ≤ cap6 := hc6
              go_wp2_with fail
              go_round
              case rel => exact ⟨j + 1, by omega, by omega, by go_num, HST.out⟩
              case measure => simp [intOf]; omega
            · have HNO := Lib.hid (hno hz0)
              have hne : ¬ (((F.getD j 0).toNat : Int) = 0) := fun h => hz0 (by
                have h2 : (F.getD j 0).toNat = 0 := by omega
                exact UInt8.toNat_inj.1 (by rw [h2]; rfl))
              generalize (F.getD j 0).toNat = cc at *
              rw [if_pos HNO.out] at HU
              clear hst hno hz hz0
              go_wp2_with fail
              rw [HU.out]
              exact bodyPost_ret (v := .tuple #[.slice none 0 0, .bool false]) (by simp [results, Tryz.results122, go_sem]) rfl (unpOut_none _ _ ho)
          · obtain rfl : j = F.length := by omega
            have hza : allZ (F.drop q) := by
              rw [List.take_of_length_le (by rw [List.length_drop]; exact Nat.le_refl _)] at hz
              exact hz
            rw [if_neg (fun h => h hza)] at HU
            have hqc : q ≤ cap6 := by omega
            have hqc' : (q : Int) ≤ (cap6 : Int) := by omega
            have hhd := hr6.head hqL
            have HHD := Lib.hid hhd
            clear hz hza hhd hr6
            go_wp2_with fail
            rw [HU.out]
            exact bodyPost_ret (v := .tuple #[.slice A6 q cap6, .bool true]) (by simp [results, Tryz.results122, go_sem]) rfl ⟨A6, q, cap6, rfl, HHD.out, hqc, by unfold maxLen; omega, ho⟩
end Go.Proofs.YthgfmoogagldmaaGreat.Frame
namespace Go.Proofs.YthgfmoogagldmaaGreat.Frame
open Go.RowKit
def sec (l : List UInt8) (i : Nat) : List UInt8 := (l.drop (64 * i)).take 64
def fill (s : List UInt8) (j : Nat) : List UInt8 := s.take j ++ List.replicate (64 - j) 0
def pad (s : List UInt8) : List UInt8 := fill s s.length
theorem fill_len (s : List UInt8) (j : Nat) (hj : j ≤ s.length) (hs : s.length ≤ 64) : (fill s j).length = 64 := by
  unfold fill
  rw [List.length_append, List.length_take, List.length_replicate]
  omega
theorem fill_set (s : List UInt8) (j : Nat) (hj : j < s.length) (hs : s.length ≤ 64) : (fill s j).set j (s.getD j 0) = fill s (j + 1) := by
  have h1 : (s.take j).length = j := by rw [List.length_take]; omega
  unfold fill
  rw [List.set_append_right _ _ (by omega), h1, Nat.sub_self]
  obtain ⟨r, hr⟩ : ∃ r, 64 - j = r + 1 := ⟨63 - j, by omega⟩
  rw [hr, List.replicate_succ, List.set_cons_zero, List.take_succ_eq_append_getElem hj, List.append_assoc, show 64 - (j + 1) = r by omega]
  rw [List.getD_eq_getElem?_getD, List.getElem?_eq_getElem hj]
  rfl
theorem sec_len (l : List UInt8) (i : Nat) : (sec l i).length ≤ 64 := by unfold sec; rw [List.length_take]; omega
theorem sec_at (l : List UInt8) (i j : Nat) (hj : j < 64) (h : 64 * i + j < l.length) : j < (sec l i).length ∧ (sec l i).getD j 0 = l.getD (64 * i + j) 0 := by
  unfold sec
  refine ⟨by rw [List.length_take, List.length_drop]; omega, ?_⟩
  rw [List.getD_eq_getElem?_getD, List.getD_eq_getElem?_getD, List.getElem?_take, if_pos hj, List.getElem?_drop]
def SecAt (w : World) (s : Sl) : Prop := ∃ g, s.A = some ⟨g, 0, none⟩ ∧ s.n = 64 ∧ s.c = 64 ∧ Blk w g 5 (s.l.map B8).toArray ∧ s.l.length = 64
theorem SecAt.only {w w' : World} {s : Sl} {S : List Nat} (h : SecAt w s) (ho : Only S w w') (hS : ∀ g, (∃ t cs, t = 5 ∧ Blk w g t cs) → g ∉ S) : SecAt w' s := by
  obtain ⟨g, h1, h2, h3, h4, h5⟩ := h
  exact ⟨g, h1, h2, h3, h4.only ho (hS g ⟨_, _, rfl, h4⟩), h5⟩
theorem SecAt.bytes {w : World} {s : Sl} (h : SecAt w s) : Bytes w w.heap.size s.A s.n s.l := by
  obtain ⟨g, h1, h2, h3, h4, h5⟩ := h
  rw [h1, h2]
  refine ⟨h5, by simp [h5], fun _ => ⟨_, rfl, h4.lt, fun j u hu => ?_⟩⟩
  rw [add_zero_block, h4.cell j]
  simpa using hu
theorem row_ne {w : World} {base e size n : Nat} {v : Value} {rows : List (List Value)} (h : OwnR e size w base v n rows) (g : Nat) {t : TypeId} {cs : Array Value} (hb : Blk w g t cs) (ht : t ≠ e) : g ∉ ownL v := by
  intro hg
  obtain ⟨_, h0⟩ := h.own
  rcases h0 with ⟨rfl, _⟩ | ⟨g', cap, cur, rfl, _, hh, _⟩
  · simp [ownL, Value.ownBlock] at hg
  · simp [ownL, Value.ownBlock] at hg
    subst hg
    exact Blk.ne_ (t := e) hh hb (fun h => ht h.symm) rfl
theorem sl_info : (Tryz.prog.info? 35).map (fun i => (i.zero, i.size, i.bytes)) = some (some (.slice none 0 0), 1, 24) := by kernel_rfl
def pack (l : List UInt8) (k : Nat) : List (List UInt8) := (List.range k).map fun i => pad (sec l i)
def packOut (l : List UInt8) (w : World) (x : Ending) (w' : World) : Prop :=
  ∃ (v : Value) (ss : List Sl), x = .returned v ∧ OwnR 35 1 w' w.heap.size v ss.length (ss.map fun s => [s.val]) ∧ (∀ s ∈ ss, SecAt w' s) ∧ ss.map (·.l) = pack l (needZ l.length).toNat ∧ Only [] w w'
theorem made64 : (madeCells #[.int .u8 0] (64 * 1)).toList = (List.replicate 64 (0 : UInt8)).map B8 := by kernel_rfl
theorem made_blk {w : World} {base g : Nat} (s : List UInt8) (h : w.ownsRow base 5 1 (.slice (some ⟨g, 0, none⟩) 64 64) 64 (madeCells #[.int .u8 0] (64 * 1)).toList) : Blk w g 5 ((fill s 0).map B8).toArray := by
  obtain ⟨_, h0⟩ := h
  rcases h0 with ⟨h1, _⟩ | ⟨g', cap, cur, hv, _, hh, _, _, hsz, ht⟩
  · cases h1
  · injection hv with hv h64 hcap
    injection hv with hv
    injection hv with hg
    subst hg
    subst hcap
    have hc : cur = ((fill s 0).map B8).toArray := by
      apply Array.ext'
      have hl : cur.toList.length = 64 := by simpa using hsz
      rw [List.take_of_length_le (by rw [hl]; exact Nat.le_refl _), made64] at ht
      rw [ht]
      simp [fill]
    rw [← hc]
    exact hh
theorem set_B8 (xs : List UInt8) (j : Nat) (c : UInt8) : ((xs.map B8).toArray).setIfInBounds j (.int .u8 (c.toNat : Int)) = ((xs.set j c).map B8).toArray := by
  apply Array.ext'
  rw [Array.toList_setIfInBounds]
  simp [List.map_set, B8]
theorem sec_size (l : List UInt8) (k : Nat) : (sec l k).length = min 64 (l.length - 64 * k) := by unfold sec; rw [List.length_take, List.length_drop]
set_option maxHeartbeats 1000000 in
theorem rpack_any (A : Option Addr) (n c : Nat) (l : List UInt8) (w : World) (hr : Bytes w w.heap.size A n l) (hn : n ≤ 100000) :
    Calls Tryz.prog 123 #[.slice A n c] w fun x w' => packOut l w x w' := by
  have HL := Lib.hid hr.len
  have d1 : decide ((1048576 : Int) < (n : Int)) = false := decide_eq_false (by omega)
  have hN := fun w => rneed_int (n : Int) w (by omega) (by omega)
  have HN := Lib.hid hN
  obtain ⟨K, hK⟩ : ∃ K : Nat, needZ (n : Int) = (K : Int) := ⟨(needZ n).toNat, by unfold needZ; split <;> omega⟩
  have hKb : K ≤ 2000 ∧ (∀ i, i < K → 64 * i < n) := by
    unfold needZ at hK
    split at hK
    · exact ⟨by omega, fun i hi => by omega⟩
    · exact ⟨by omega, fun i hi => by omega⟩
  rw [hK] at hN
  have HK := Lib.hid hK
  have HN2 := Lib.hid hN
  clear hN hK HN
  go_enter Tryz.func123, Tryz.ntmps123
  go_wp2_with fail
  go_loopw [3, 4] (fun v i wr => ∃ (k : Nat) (ss : List Sl), k ≤ K ∧ i = .int .i64 k ∧ ss.length = k ∧ OwnR 35 1 wr w.heap.size v ss.length (ss.map fun s => [s.val]) ∧ (∀ s ∈ ss, SecAt wr s) ∧ ss.map (·.l) = pack l k ∧ Only [] w wr) (fun _ i _ => K - (intOf i).toNat)
  case atStart => exact ⟨0, [], by omega, rfl, rfl, OwnR.nil_ _ _ _ _, by simp, rfl, Only.refl _ _⟩
  case round =>
    obtain ⟨k, ss, hk, rfl, hsk, hv, hsec, hpk, ho⟩ := hrel
    have HSK := Lib.hid hsk
    have HPK := Lib.hid hpk
    clear hsk hpk
    by_cases hlt : k < K
    · have dk : decide ((k : Int) < (K : Int)) = true := decide_eq_true (by omega)
      obtain ⟨i0, hi0, hz0, hz1, hz2⟩ := info_parts byte_info
      have hws := ho.size
      go_wp2_with (first
        | (go_at_call 83; refine (HN2.out _).mono ?_; rintro x wx ⟨rfl, rfl⟩)
        | (at_make; refine wpList_make_full wr rfl _ _ 35 rfl w.heap.size 5 i0 _ 1 Tryz.underlying35 hi0 hz0 hz1 _ _ _ _ 64 rfl rfl rfl rfl (by rw [hz2]; decide) (by decide) hws ?_; intro w2 hmk hgk; have hgo : Only [] wr w2 := Only.of_grown hgk))
      have hB0 := made_blk (sec l k) hmk
      have hgs : wr.heap.size = wr.heap.size := rfl
      have hv2 := hv.only hgo (by simp)
      have hvl : ∀ g ∈ ownL u3, g < wr.heap.size := fun g hg => (hv.lt g hg).2
      have hsec2 : ∀ s ∈ ss, ∀ wx, Only [wr.heap.size] w2 wx → SecAt wx s := fun s hs wx hx => by
        obtain ⟨g, h1, h2, h3, h4, h5⟩ := hsec s hs
        exact ⟨g, h1, h2, h3, (h4.only hgo (by simp)).only hx (by have := h4.lt; simp; omega), h5⟩
      have ho2 := ho.trans hgo (by simp)
      have hgl : w.heap.size ≤ wr.heap.size := ho.size
      have hn0 := hKb.2 k hlt
      have hSL := sec_size l k
      rw [HL.out] at hSL
      have HSEC := Lib.hid hsec2
      clear hmk hgk hv hsec hsec2 ho hi0 hz0 hz1 hz2 hgo
      obtain ⟨S, hS⟩ : ∃ S, sec l k = S := ⟨_, rfl⟩
      have hat : ∀ j, j < 64 → 64 * k + j < n → j < S.length ∧ S.getD j 0 = l.getD (64 * k + j) 0 := fun j h1 h2 => by
        rw [← hS]
        exact sec_at l k j h1 (by rw [HL.out]; exact h2)
      rw [hS] at hB0 hSL
      have HS := Lib.hid hS
      have HAT := Lib.hid hat
      clear hS hat hgs
      generalize wr.heap.size = g at *
      go_loopw [6] (fun i wx => ∃ j : Nat, j ≤ S.length ∧ i = .int .i64 j ∧ Blk wx g 5 ((fill S j).map B8).toArray ∧ Only [g] w2 wx) (fun i _ => 64 - (intOf i).toNat)
      case atStart => exact ⟨0, by omega, rfl, hB0, Only.refl _ _⟩
      case round =>
        obtain ⟨j, hj, rfl, hbj, hox⟩ := hrel
        have e1 : IntKind.i64.wrap ((k : Int) * 64) = (k : Int) * 64 := IntWalk.i64_in _ (by omega)
        by_cases hj64 : j < 64
        · have dj : decide ((j : Int) < 64) = true := decide_eq_true (by omega)
          by_cases hjn : 64 * k + j < n
          · have dn : decide ((k : Int) * 64 + (j : Int) < (n : Int)) = true := decide_eq_true (by omega)
            obtain ⟨hjS, hjv⟩ := HAT.out j hj64 hjn
            have hrx := (hr.only ho2 (by simp)).only_pos hox (fun hn g' hg' => by have := (hr.only ho2 (by simp)).blk_lt hn g' hg'; simp; omega)
            obtain ⟨bk, off, hAe, hbk, hcj⟩ := hrx.at_ (k := 64 * k + j) hjn
            obtain rfl := hAe
            have e2 : ((k : Int) * 64 + (j : Int)).toNat = 64 * k + j := by omega
            have e3 : IntKind.i64.wrap ((k : Int) * 64 + (j : Int)) = (k : Int) * 64 + (j : Int) := IntWalk.i64_in _ (by omega)
            have e4 : (0 : Int) ≤ (k : Int) * 64 + (j : Int) := by omega
            have e5 : (k : Int) * 64 + (j : Int) < (n : Int) := by omega
            have hlen := fill_len S j hj (by omega)
            obtain ⟨uc, huc⟩ : ∃ uc, wr.cell? ⟨g, j, none⟩ = some uc := by
              rw [hbj.cell j, List.getElem?_toArray, List.getElem?_map, List.getElem?_eq_getElem (by omega)]
              exact ⟨_, rfl⟩
            have hfz := hbj.frozen j
            have hbn := hbj.set_ j (.int .u8 ((S.getD j 0).toNat : Int))
            rw [set_B8, fill_set S j hjS (by omega), hjv] at hbn
            have HBN := Lib.hid hbn
            have HOX := Lib.hid hox
            clear hbn hbj hox hlen hjv
            generalize ((l.getD (64 * k + j) 0).toNat : Int) = cc at *
            go_wp2_with fail
            go_roundw
            case rel => exact ⟨j + 1, by omega, by go_num, HBN.out, HOX.out.setCell (p := ⟨g, j, none⟩) (.inl (by simp)) _⟩
            case measure => simp [intOf]; omega
          · have dn : decide ((k : Int) * 64 + (j : Int) < (n : Int)) = false := decide_eq_false (by omega)
            have e3 : IntKind.i64.wrap ((k : Int) * 64 + (j : Int)) = (k : Int) * 64 + (j : Int) := IntWalk.i64_in _ (by omega)
            have hjS : j = S.length := by omega
            have hfin : fill S j = pad S := by unfold pad; rw [show j = S.length by omega]
            rw [hfin] at hbj
            have hlen64 : (pad S).length = 64 := by unfold pad; exact fill_len S S.length (Nat.le_refl _) (by omega)
            have hv3 := hv2.only hox (fun g' hg' => by have := hvl g' hg'; simp; omega)
            have hox' := ho2.trans hox (by simp; omega)
            have hwsx := hox'.size
            have hK2 := hKb.1
            have hnews : SecAt wr ⟨some ⟨g, 0, none⟩, 64, 64, pad S⟩ := ⟨g, rfl, rfl, rfl, hbj, hlen64⟩
            have HNEW := Lib.hid hnews
            have HHX := Lib.hid hox
            have hss := HSK.out
            have HV3 := Lib.hid hv3
            clear hfin hbj hnews hv2 hox hB0 hlen64
            go_wp2_with (at_builtin; refine wpList_append1 (w := wr) rfl (.tmp 41) (.tmp 43) 34 rfl Tryz.underlying34 sl_info rfl (by decide) rfl hv3 rfl rfl (row := [(⟨some ⟨g, 0, none⟩, 64, 64, pad S⟩ : Sl).val]) rfl rfl (by intro u hu; rw [List.mem_singleton.1 hu]; rfl) (by omega) (by unfold maxLen; omega) (by omega) ?_; intro v' w' hE)
            go_roundw
            case rel =>
              refine ⟨k + 1, ss ++ [⟨some ⟨g, 0, none⟩, 64, 64, pad S⟩], by omega, by go_num, by rw [List.length_append, HSK.out]; rfl, ?_, ?_, ?_, hox'.trans hE.only (fun g' hg' => .inr (HV3.out.lt g' hg').1)⟩
              · rw [List.length_append, List.map_append]
                exact hE.own
              · intro s hs
                have hsx : SecAt wr s := by
                  rcases List.mem_append.1 hs with hs | hs
                  · exact HSEC.out s hs wr HHX.out
                  · rw [List.mem_singleton.1 hs]; exact HNEW.out
                exact hsx.only hE.only (fun g' ⟨t, cs, ht, hb⟩ => row_ne HV3.out g' hb (by rw [ht]; decide))
              · rw [List.map_append, HPK.out]
                unfold pack
                rw [List.range_succ, List.map_append]
                show _ ++ [pad S] = _ ++ [pad (sec l k)]
                rw [HS.out]
            case measure => simp [intOf]; omega
        · have dj : decide ((j : Int) < 64) = false := decide_eq_false (by omega)
          have hjS : j = S.length := by omega
          have hfin : fill S j = pad S := by unfold pad; rw [show j = S.length by omega]
          rw [hfin] at hbj
          have hlen64 : (pad S).length = 64 := by unfold pad; exact fill_len S S.length (Nat.le_refl _) (by omega)
          have hv3 := hv2.only hox (fun g' hg' => by have := hvl g' hg'; simp; omega)
          have hox' := ho2.trans hox (by simp; omega)
          have hwsx := hox'.size
          have hK2 := hKb.1
          have hnews : SecAt wr ⟨some ⟨g, 0, none⟩, 64, 64, pad S⟩ := ⟨g, rfl, rfl, rfl, hbj, hlen64⟩
          have HNEW := Lib.hid hnews
          have HHX := Lib.hid hox
          have hss := HSK.out
          have HV3 := Lib.hid hv3
          clear hfin hbj hnews hv2 hox hB0 hlen64
          go_wp2_with (at_builtin; refine wpList_append1 (w := wr) rfl (.tmp 41) (.tmp 43) 34 rfl Tryz.underlying34 sl_info rfl (by decide) rfl hv3 rfl rfl (row := [(⟨some ⟨g, 0, none⟩, 64, 64, pad S⟩ : Sl).val]) rfl rfl (by intro u hu; rw [List.mem_singleton.1 hu]; rfl) (by omega) (by unfold maxLen; omega) (by omega) ?_; intro v' w' hE)
          go_roundw
          case rel =>
            refine ⟨k + 1, ss ++ [⟨some ⟨g, 0, none⟩, 64, 64, pad S⟩], by omega, by go_num, by rw [List.length_append, HSK.out]; rfl, ?_, ?_, ?_, hox'.trans hE.only (fun g' hg' => .inr (HV3.out.lt g' hg').1)⟩
            · rw [List.length_append, List.map_append]
              exact hE.own
            · intro s hs
              have hsx : SecAt wr s := by
                rcases List.mem_append.1 hs with hs | hs
                · exact HSEC.out s hs wr HHX.out
                · rw [List.mem_singleton.1 hs]; exact HNEW.out
              exact hsx.only hE.only (fun g' ⟨t, cs, ht, hb⟩ => row_ne HV3.out g' hb (by rw [ht]; decide))
            · rw [List.map_append, HPK.out]
              unfold pack
              rw [List.range_succ, List.map_append]
              show _ ++ [pad S] = _ ++ [pad (sec l k)]
              rw [HS.out]
          case measure => simp [intOf]; omega
    · obtain rfl : k = K := by omega
      have dk : decide ((k : Int) < (k : Int)) = false := decide_eq_false (by omega)
      have HP := Lib.hid (show ss.map (·.l) = pack l (needZ l.length).toNat by rw [HPK.out, HL.out, HK.out]; rfl)
      go_wp2_with (go_at_call 83; refine (HN2.out _).mono ?_; rintro x wx ⟨rfl, rfl⟩)
      go_ret
      exact ⟨_, ss, rfl, hv, hsec, HP.out, ho⟩
end Go.Proofs.YthgfmoogagldmaaGreat.Frame
