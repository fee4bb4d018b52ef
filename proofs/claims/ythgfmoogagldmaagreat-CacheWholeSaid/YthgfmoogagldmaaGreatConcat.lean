/- slices.Grow of nothing, slices.Concat of slices of bytes, bytes.Equal. -/
import Derived.Test.YthgfmoogagldmaaGreatBytes
import Derived.Lib.AppendZeros
import Derived.Lib.Strings
set_option linter.unusedVariables false
set_option maxRecDepth 100000
namespace Go.Proofs.YthgfmoogagldmaaGreat
open Go.RowKit

theorem grow_nil (n : Nat) (w : World) (h0 : 0 < n) (hn : n ≤ 140737488355328) :
    Calls Tryz.prog 141 #[.slice none 0 0, .int .i64 (n : Int)] w fun e w' => ∃ v, e = .returned v ∧ OwnB w' w.heap.size v 0 [] ∧ Only [] w w' := by
  obtain ⟨i0, hi0, hz0, hz1, hz2⟩ := info_parts byte_info
  have hrun := fun ty => Lib.run_append_nil_zeros (P := Tryz.prog) w 35 3 ty 5 i0 _ .i64 .i64 Tryz.underlying35 Tryz.underlying3 hi0 hz0 n h0 (by rw [hz1]; decide) (by omega) (by rw [hz2]; omega)
  have hge := grownCap_ge w n 0 5
  have hle := grownCap_le_maxLen w n 0 5 (by unfold maxLen; omega)
  have hown : OwnB (w.drew.alloc (.cells (Builtin.zeroCells #[.int .u8 0] n ++ Builtin.zeroCells #[.int .u8 0] (grownCap w n 0 5 - n)) 5)) w.heap.size (.slice (some ⟨w.heap.size, 0, none⟩) 0 (grownCap w n 0 5)) 0 [] := by
    refine ⟨rfl, .inr ⟨w.heap.size, _, _, rfl, Nat.le_refl _, heap_alloc_new w.drew _, Nat.zero_le _, hle, ?_, by simp⟩⟩
    simp only [Array.size_append, size_zeroCells]
    simp
    omega
  have ho : Only [] w (w.drew.alloc (.cells (Builtin.zeroCells #[.int .u8 0] n ++ Builtin.zeroCells #[.int .u8 0] (grownCap w n 0 5 - n)) 5)) := ((Only.refl [] w).drew).alloc _
  have hrun' : ∀ ty, (Builtin.append_ #[35, 3] ty #[.slice none 0 0, .int .i64 (n : Int)]).run Tryz.prog w = .ok (.slice (some ⟨w.heap.size, 0, none⟩) n (grownCap w n 0 5)) (w.drew.alloc (.cells (Builtin.zeroCells #[.int .u8 0] n ++ Builtin.zeroCells #[.int .u8 0] (grownCap w n 0 5 - n)) 5)) := hrun
  have HR := Lib.hid hrun'
  have HO := Lib.hid (And.intro hown ho)
  clear hrun hrun' hown ho hi0 hz0 hz1 hz2
  generalize grownCap w n 0 5 = cap at *
  generalize w.drew.alloc (.cells (Builtin.zeroCells #[.int .u8 0] n ++ Builtin.zeroCells #[.int .u8 0] (cap - n)) 5) = w1 at *
  go_enter Tryz.func141, Tryz.ntmps141
  go_wp2_with (at_builtin; refine Lib.wpList_append_run _ rfl (.tmp 20) (.tmp 21) 35 3 rfl _ _ rfl rfl _ _ (HR.out _) ?_)
  go_ret
  exact ⟨_, rfl, HO.out.1, HO.out.2⟩

theorem grow_any (n : Nat) (w : World) (hn : n ≤ 140737488355328) :
    Calls Tryz.prog 141 #[.slice none 0 0, .int .i64 (n : Int)] w fun e w' => ∃ v, e = .returned v ∧ OwnB w' w.heap.size v 0 [] ∧ Only [] w w' := by
  rcases Nat.eq_zero_or_pos n with rfl | h0
  · go_enter Tryz.func141, Tryz.ntmps141
    go_wp2_with fail
    go_ret
    exact ⟨_, rfl, OwnB.nil_ _ _, Only.refl _ _⟩
  · exact grow_nil n w h0 hn

structure Sl where
  A : Option Addr
  n : Nat
  c : Nat
  l : List UInt8
def Sl.val (s : Sl) : Value := .slice s.A s.n s.c
def flat (ss : List Sl) : List UInt8 := ss.flatMap (·.l)
theorem flat_take (ss : List Sl) (k : Nat) (h : k < ss.length) : flat (ss.take (k + 1)) = flat (ss.take k) ++ (ss.getD k ⟨none, 0, 0, []⟩).l := flatMap_take_succ _ ss _ k h
theorem flat_take_le (ss : List Sl) (k : Nat) : (flat (ss.take k)).length ≤ (flat ss).length := by
  have h : flat ss = flat (ss.take k) ++ flat (ss.drop k) := by
    unfold flat
    rw [← List.flatMap_append, List.take_append_drop]
  rw [h, List.length_append]
  omega
set_option maxHeartbeats 1000000 in
theorem concat_any (A : Option Addr) (m c B : Nat) (ss : List Sl) (w : World) (hm : ss.length = m) (hr : Reads w B 1 A m (ss.map Sl.val)) (hB : B ≤ w.heap.size) (hok : ∀ s ∈ ss, Bytes w w.heap.size s.A s.n s.l) (hsum : (flat ss).length ≤ 140737488355328) (hm2 : m ≤ 140737488355328) :
    Calls Tryz.prog 113 #[.slice A m c] w fun e w' => ∃ v, e = .returned v ∧ OwnB w' w.heap.size v (flat ss).length (flat ss) ∧ Only [] w w' := by
  have HM := Lib.hid hm
  have hpos := grow_any (flat ss).length w hsum
  have HG := Lib.hid hpos
  clear hpos
  clear hm
  have hlens : ∀ k, (flat (ss.take k)).length ≤ 140737488355328 := fun k => Nat.le_trans (flat_take_le ss k) hsum
  have HLS := Lib.hid hlens
  clear hlens
  go_enter Tryz.func113, Tryz.ntmps113
  go_wp2_with fail
  go_loop [3, 11] (fun z i => ∃ k : Nat, k ≤ m ∧ i = .int .i64 k ∧ z = .int .i64 ((flat (ss.take k)).length : Nat)) (fun _ i => m - (intOf i).toNat)
  case atStart => exact ⟨0, by omega, rfl, rfl⟩
  case round =>
    obtain ⟨k, hk, rfl, rfl⟩ := hrel
    by_cases hlt : k < m
    · have hkz : k < ss.length := by rw [HM.out]; exact hlt
      obtain ⟨b, off, rfl, hbB, hc⟩ := hr.at1 hlt
      rw [map_get _ _ ⟨none, 0, 0, []⟩ _ hkz] at hc
      have HF := Lib.hid (flat_take ss k hkz)
      have hb := hok (ss.getD k ⟨none, 0, 0, []⟩) (by rw [List.getD_eq_getElem?_getD, List.getElem?_eq_getElem hkz]; exact List.getElem_mem hkz)
      have h1 := HLS.out (k + 1)
      rw [HF.out] at h1
      generalize ss.getD k ⟨none, 0, 0, []⟩ = x at *
      obtain ⟨xA, xn, xc, xl⟩ := x
      simp only [Sl.val] at hc hb h1 HF
      rw [List.length_append, hb.len] at h1
      have HX := Lib.hid hb.len
      generalize hz : (flat (ss.take k)).length = z at *
      have HZ := Lib.hid hz
      clear hz hb
      go_wp2_with fail
      go_round
      case rel => exact ⟨k + 1, by omega, by go_num, by rw [HF.out, List.length_append, HZ.out, HX.out]; go_num⟩
      case measure => simp [intOf]; omega
    · obtain rfl : k = m := by omega
      rw [List.take_of_length_le (by rw [HM.out]; exact Nat.le_refl _)]
      clear hsum
      generalize hz : (flat ss).length = z at *
      have HZ := Lib.hid hz
      clear hz
      go_wp2_with fail
      refine HG.out.mono ?_
      rintro e w1 ⟨v1, rfl, hv1, ho1⟩
      go_wp2_with fail
      go_loopw [6, 27] (fun v i wr => ∃ j : Nat, j ≤ k ∧ i = .int .i64 j ∧ OwnB wr w.heap.size v (flat (ss.take j)).length (flat (ss.take j)) ∧ Only [] w wr) (fun _ i _ => k - (intOf i).toNat)
      case atStart => exact ⟨0, by omega, rfl, hv1, ho1⟩
      case round =>
        obtain ⟨j, hj, rfl, hv, ho⟩ := hrel
        by_cases hlt : j < k
        · have hkz : j < ss.length := by rw [HM.out]; exact hlt
          obtain ⟨b, off, rfl, hbB, hc⟩ := (hr.only ho (by simp)).at1 hlt
          rw [map_get _ _ ⟨none, 0, 0, []⟩ _ hkz] at hc
          have HF := Lib.hid (flat_take ss j hkz)
          have hb := (hok (ss.getD j ⟨none, 0, 0, []⟩) (by rw [List.getD_eq_getElem?_getD, List.getElem?_eq_getElem hkz]; exact List.getElem_mem hkz)).only ho (by simp)
          have h1 := HLS.out (j + 1)
          rw [HF.out] at h1
          generalize ss.getD j ⟨none, 0, 0, []⟩ = x at *
          obtain ⟨xA, xn, xc, xl⟩ := x
          simp only [Sl.val] at hc hb h1 HF
          rw [List.length_append, hb.len] at h1
          have HX := Lib.hid hb.len
          have hws := ho.size
          generalize hz : (flat (ss.take j)).length = y at *
          have HY := Lib.hid hz
          clear hz
          go_wp2_with (at_builtin; refine wpList_append_bytes rfl (.tmp 31) (.tmp 32) rfl rfl hv rfl hb h1 (by omega) ?_; intro v2 w2 ho2 hon2 hfr2)
          go_roundw
          case rel =>
            refine ⟨j + 1, by omega, by go_num, ?_, ho.trans hon2 (fun g hg => .inr (hv.lt g hg).1)⟩
            rw [HF.out, List.length_append, HX.out, HY.out]
            exact ho2
          case measure => simp [intOf]; omega
        · obtain rfl : j = k := by omega
          rw [List.take_of_length_le (by rw [HM.out]; exact Nat.le_refl _), HZ.out] at hv
          go_wp2_with fail
          go_ret
          exact ⟨_, rfl, by rw [HZ.out]; exact hv, ho⟩
theorem equal_any (A1 A2 : Option Addr) (n1 n2 c1 c2 B1 B2 : Nat) (l1 l2 : List UInt8) (w : World) (h1 : Bytes w B1 A1 n1 l1) (h2 : Bytes w B2 A2 n2 l2) :
    Calls Tryz.prog 134 #[.slice A1 n1 c1, .slice A2 n2 c2] w fun e w' => e = .returned (.bool (decide (l1 = l2))) ∧ w = w' := by
  have hs1 := run_str h1 c1
  have hs2 := run_str h2 c2
  have hq : ((str l1).toList == (str l2).toList) = decide (l1 = l2) := by
    rw [Lib.toList_data, Lib.toList_data]
    by_cases h : l1 = l2
    · subst h; simp
    · rw [decide_eq_false h]
      refine beq_eq_false_iff_ne.2 (fun he => h ?_)
      simpa [str] using he
  go_enter Tryz.func134, Tryz.ntmps134
  go_wp2_with fail
  go_ret
  exact ⟨rfl, rfl⟩
end Go.Proofs.YthgfmoogagldmaaGreat
