/- FrameC: The walks of frame: the document's Right, half, Put; The walks of the reference's Reader. -/
import Derived.Test.YthgfmoogagldmaaGreatFrameA
import Derived.Test.YthgfmoogagldmaaGreatBufs
import Derived.Test.YthgfmoogagldmaaGreatCodecA
import Derived.Deep.RegionHeld3
import Derived.Deep.RegionLaw
set_option linter.unusedVariables false
set_option maxRecDepth 100000
namespace Go.Proofs.YthgfmoogagldmaaGreat.Frame
open Go.RowKit Codec

set_option maxHeartbeats 1000000 in
theorem rright_any (m : Mark) (w : World) : Calls Tryz.prog 120 #[m.val] w fun x w' => boolOut m.right w x w' := by
  obtain ⟨k, g, s, n⟩ := m
  unfold Mark.val
  simp only
  have hR : (⟨k, g, s, n⟩ : Mark).right ↔ (1 ≤ k ∧ k ≤ 255 ∧ 0 ≤ g ∧ 0 ≤ s ∧ 0 ≤ n) := Iff.rfl
  have HR := Lib.hid hR
  clear hR
  go_enter Tryz.func120, Tryz.ntmps120
  go_wp2_with fail
  all_goals
    go_ret
    refine ⟨_, rfl, ?_, (Only.refl _ _).alloc _⟩
    rw [HR.out]
    simp only [decide_eq_true_eq, Bool.false_eq_true]
    first | omega | (constructor <;> intro h <;> first | exact h.elim | omega)
theorem rright_is (m : Mark) (b : Bool) (w : World) (hb : decide m.right = b) : Calls Tryz.prog 120 #[m.val] w fun x w' => x = .returned (.bool b) ∧ Only [] w w' := by
  refine (rright_any m w).mono ?_
  rintro x w' ⟨b', rfl, hbb, ho⟩
  refine ⟨?_, ho⟩
  cases b' with
  | true => rw [← hb, decide_eq_true (hbb.1 rfl)]
  | false => rw [← hb, decide_eq_false (fun h => by have := hbb.2 h; cases this)]
theorem crc_same (l : List UInt8) : Sums.rbits 4294967295 (Sums.nats l) (8 * l.length) ^^^ 4294967295 = Sums.crc (Sums.nats l) := by
  rw [Sums.rbits_fold _ _ (Sums.nats_lt l) l.length (by unfold Sums.nats; rw [List.length_map]; exact Nat.le_refl _), List.take_of_length_le (by unfold Sums.nats; rw [List.length_map]; exact Nat.le_refl _)]
  unfold Sums.crc Sums.more
  rw [Nat.zero_xor]
theorem byte2 (x : Nat) : IntKind.u8.wrap ((x : Int) / 65536) = ((byteAt x 2).toNat : Int) := by
  have := byteAt_wrap x 2
  simpa using this
theorem byte3 (x : Nat) : IntKind.u8.wrap ((x : Int) / 16777216) = ((byteAt x 3).toNat : Int) := by
  have := byteAt_wrap x 3
  simpa using this
theorem le_four (x : Nat) : le x 4 = [byteAt x 0, byteAt x 1, byteAt x 2, byteAt x 3] := rfl
theorem rhalf_any (m : Mark) (w : World) (hr : m.right) : Calls Tryz.prog 121 #[m.val] w fun x w' => ∃ v, x = .returned v ∧ OwnB w' w.heap.size v 32 (halfB m) ∧ Only [] w w' := by
  obtain ⟨k, g, s, n⟩ := m
  have hb := Blk.new w 134 #[.int .i64 k, .int .i64 g, .int .i64 s, .int .i64 n]
  have ho : Only [] w (w.alloc (.cells #[.int .i64 k, .int .i64 g, .int .i64 s, .int .i64 n] 134)) := (Only.refl _ _).alloc _
  unfold Mark.val
  unfold Mark.right at hr
  simp only at hr ⊢
  obtain ⟨x, rfl⟩ : ∃ x : Nat, k = (x : Int) := ⟨k.toNat, by omega⟩
  have hx : x ≤ 255 := by omega
  have hcl : clamp (x : Int) = x := by unfold clamp; omega
  have hH : halfB ⟨x, g, s, n⟩ = [84, 77] ++ le x 2 ++ le (u64 g) 8 ++ le (u64 s) 8 ++ le (u64 n) 8 ++ le (Sums.crc (Sums.nats ([84, 77] ++ le x 2 ++ le (u64 g) 8 ++ le (u64 s) 8 ++ le (u64 n) 8))) 4 := by
    unfold halfB headB
    simp [smalls, nums, hcl]
  have HH := Lib.hid hH
  clear hH hr hcl
  have kc := Lib.run_convert_bytes_const (P := Tryz.prog) (w.alloc (.cells #[.int .i64 x, .int .i64 g, .int .i64 s, .int .i64 n] 134)) 35 5 #[.int .u8 84, .int .u8 77] 2 2 Tryz.underlying35 Tryz.underlying5
  have hcb : Bytes ((w.alloc (.cells #[.int .i64 x, .int .i64 g, .int .i64 s, .int .i64 n] 134)).alloc (.cells #[.int .u8 84, .int .u8 77] 5 (2, 3))) (w.heap.size + 1 + 1) (some ⟨w.heap.size + 1, 0, none⟩) 2 [84, 77] := by
    have := Bytes.const (w.alloc (.cells #[.int .i64 x, .int .i64 g, .int .i64 s, .int .i64 n] 134)) [84, 77] #[.int .u8 84, .int .u8 77] 5 (2, 3) rfl
    rw [alloc_size] at this
    exact this
  rw [alloc_size] at kc
  have hb2 := hb.alloc (.cells #[.int .u8 84, .int .u8 77] 5 (2, 3))
  have ho2 := ho.alloc (.cells #[.int .u8 84, .int .u8 77] 5 (2, 3))
  have hs2 : ((w.alloc (.cells #[.int .i64 x, .int .i64 g, .int .i64 s, .int .i64 n] 134)).alloc (.cells #[.int .u8 84, .int .u8 77] 5 (2, 3))).heap.size = w.heap.size + 1 + 1 := by rw [alloc_size, alloc_size]
  clear hb ho
  go_enter Tryz.func121, Tryz.ntmps121
  go_wp2_with fail
  generalize (w.alloc (.cells #[.int .i64 x, .int .i64 g, .int .i64 s, .int .i64 n] 134)).alloc (.cells #[.int .u8 84, .int .u8 77] 5 (2, 3)) = w2 at *
  refine (ref_small_grow (w.heap.size + 1) 2 _ x [84, 77] w2 (by decide) hcb (by omega) (by decide) (by omega)).mono ?_
  rintro e w3 ⟨v3, rfl, hv3, ho3⟩
  have h3 : BI w2 w3 v3 4 ([84, 77] ++ le x 2) := BI.of_own hv3 ho3
  have hc : ∀ w', Only [] w2 w' → Only [] w w' ∧ (w'.cell? ⟨w.heap.size, 1, none⟩ = some (.int .i64 g) ∧ w'.cell? ⟨w.heap.size, 2, none⟩ = some (.int .i64 s) ∧ w'.cell? ⟨w.heap.size, 3, none⟩ = some (.int .i64 n)) := fun w' h =>
    ⟨ho2.trans h (by simp), ⟨(hb2.only h (by simp)).cell 1, (hb2.only h (by simp)).cell 2, (hb2.only h (by simp)).cell 3⟩⟩
  have HC := Lib.hid hc
  clear hc hb2 hcb hv3 kc hs2
  obtain ⟨_, ⟨x1, x2, x3⟩⟩ := HC.out w3 ho3
  have h3d := h3.drew
  go_wp2_with fail
  go_region_held3 (fun w' => w'.cell? ⟨w.heap.size, 1, none⟩ = some (.int .i64 g) ∧ w'.cell? ⟨w.heap.size, 2, none⟩ = some (.int .i64 s) ∧ w'.cell? ⟨w.heap.size, 3, none⟩ = some (.int .i64 n)) (first | go_keep | (refine ⟨?_, ?_, ?_⟩ <;> assumption)) ((first
    | (go_at_call 94; refine (num_bi h5 n (by decide)).mono ?_; rintro e w6 ⟨v6, rfl, h6⟩; obtain ⟨o6, ⟨q1, q2, q3⟩⟩ := HC.out w6 h6.only0)
    | (go_at_call 94; refine (num_bi h4 s (by decide)).mono ?_; rintro e w5 ⟨v5, rfl, h5⟩; obtain ⟨o5, ⟨z1, z2, z3⟩⟩ := HC.out w5 h5.only0)
    | (go_at_call 94; refine (num_bi h3d g (by decide)).mono ?_; rintro e w4 ⟨v4, rfl, h4⟩; obtain ⟨o4, ⟨y1, y2, y3⟩⟩ := HC.out w4 h4.only0)))
  all_goals
    obtain ⟨A6, cap6, rfl, hc6, hm6, hr6⟩ := h6.shape
    have hl28 : ([84, 77] ++ le x 2 ++ le (u64 g) 8 ++ le (u64 s) 8 ++ le (u64 n) 8).length = 28 := by simp [le_len]
    have hcs := crc_same ([84, 77] ++ le x 2 ++ le (u64 g) 8 ++ le (u64 s) 8 ++ le (u64 n) 8)
    have hlt := Sums.more_lt (s := 0) (by decide) (Sums.nats ([84, 77] ++ le x 2 ++ le (u64 g) 8 ++ le (u64 s) 8 ++ le (u64 n) 8)) (Sums.nats_lt _)
    generalize [84, 77] ++ le x 2 ++ le (u64 g) 8 ++ le (u64 s) 8 ++ le (u64 n) 8 = hd at *
    have hcrc := Sums.rcrc_any A6 cap6 hd _ w6 hd.length hr6 (by rw [hl28]; decide)
    rw [hcs] at hcrc
    have hlt' : Sums.crc (Sums.nats hd) < 4294967296 := hlt
    obtain ⟨nn, hnn, hv6, _⟩ := h6
    obtain rfl := hv6.len
    have hv6' := hv6.mono ho2.size
    rw [hl28] at hcrc hv6' hc6
    have HCR := Lib.hid hcrc
    clear hcs hlt hv6 hcrc hr6
    generalize Sums.crc (Sums.nats hd) = S at *
    rw [hl28]
    have HL28 := Lib.hid hl28
    clear hl28
    go_wp2_with fail
    refine HCR.out.mono ?_
    rintro _ wx ⟨rfl, rfl⟩
    clear HCR
    have e0 := byte0 S
    have e1 := byte1 S
    have e2 := byte2 S
    have e3 := byte3 S
    rw [le_four] at HH
    generalize byteAt S 0 = b0 at *
    generalize byteAt S 1 = b1 at *
    generalize byteAt S 2 = b2 at *
    generalize byteAt S 3 = b3 at *
    have hB := Bytes.const w6 [b0, b1, b2, b3] #[.int .u8 (b0.toNat : Int), .int .u8 (b1.toNat : Int), .int .u8 (b2.toNat : Int), .int .u8 (b3.toNat : Int)] 5 (0, 0) rfl
    have hO := hv6'.alloc (.cells #[.int .u8 (b0.toNat : Int), .int .u8 (b1.toNat : Int), .int .u8 (b2.toNat : Int), .int .u8 (b3.toNat : Int)] 5)
    have hws := (o6.alloc (.cells #[.int .u8 (b0.toNat : Int), .int .u8 (b1.toNat : Int), .int .u8 (b2.toNat : Int), .int .u8 (b3.toNat : Int)] 5)).size
    go_wp2_with (at_builtin; refine wpList_append_bytes rfl (.tmp 22) (.tmp 34) rfl rfl hO rfl hB (by decide) hws ?_; intro v2 w9 ho9 hon9 hfr9)
    go_ret
    exact ⟨_, rfl, by rw [HH.out]; exact ho9, (o6.alloc _).trans hon9 (fun g hg => .inr (hv6'.lt g hg).1)⟩
theorem rput_any (m : Mark) (w : World) : Calls Tryz.prog 81 #[m.val] w fun x w' => ∃ v, x = .returned v ∧ OwnB w' w.heap.size v (putB m).length (putB m) ∧ Only [] w w' := by
  have hb := Blk.new w 134 m.cells
  have ho : Only [] w (w.alloc (.cells m.cells 134)) := (Only.refl _ _).alloc _
  have hl := halfB_len m
  by_cases hR : m.right
  · have hp : putB m = halfB m ++ halfB m := if_pos hR
    have hRt := fun w => rright_is m true w (decide_eq_true hR)
    have hH := fun w => rhalf_any m w hR
    rw [hp]
    generalize halfB m = H at *
    clear hp hR
    obtain ⟨k, g, s, n⟩ := m
    unfold Mark.val at *
    unfold Mark.cells at *
    simp only at *
    have HH := Lib.hid hH
    have HL := Lib.hid hl
    clear hH hl
    go_enter Tryz.func81, Tryz.ntmps81
    go_wp2_with fail
    generalize w.alloc (.cells #[.int .i64 k, .int .i64 g, .int .i64 s, .int .i64 n] 134) = w1 at *
    have hc : ∀ w', Only [] w1 w' → Only [] w w' ∧ (w'.cell? ⟨w.heap.size, 0, none⟩ = some (.int .i64 k) ∧ w'.cell? ⟨w.heap.size, 1, none⟩ = some (.int .i64 g) ∧ w'.cell? ⟨w.heap.size, 2, none⟩ = some (.int .i64 s) ∧ w'.cell? ⟨w.heap.size, 3, none⟩ = some (.int .i64 n)) := fun w' h =>
      ⟨ho.trans h (by simp), ⟨(hb.only h (by simp)).cell 0, (hb.only h (by simp)).cell 1, (hb.only h (by simp)).cell 2, (hb.only h (by simp)).cell 3⟩⟩
    have HC := Lib.hid hc
    clear hc hb
    refine (hRt w1).mono ?_
    rintro x w2 ⟨rfl, ho2⟩
    obtain ⟨o2, ⟨x0, x1, x2, x3⟩⟩ := HC.out w2 ho2
    have ho2d := ho2.drew
    go_wp2_with fail
    go_region_law (first
      | (go_simp; go_at_call 121; refine (HH.out w4).mono ?_; rintro e w5 ⟨v5, rfl, hv5, hoo5⟩; have hoq5 := hoq4.trans hoo5 (by simp); obtain ⟨o5, ⟨z0, z1, z2, z3⟩⟩ := HC.out w5 hoq5; obtain ⟨A5, cap5, rfl, _, _, hr5, _⟩ := hv5.shape; have hv4 := (hvv4.only hoo5 (by simp)).mono o3.size)
      | (go_simp; go_at_call 121; refine (HH.out w2.drew).mono ?_; rintro e w4 ⟨v4, rfl, hvv4, hoo4⟩; have hoq4 := ho2d.trans hoo4 (by simp); have o3 := o2; obtain ⟨o4, ⟨y0, y1, y2, y3⟩⟩ := HC.out w4 hoq4)
      | (refine step_append_bytes rfl (.tmp 7) (.tmp 9) rfl rfl hv4 rfl hr5 (by decide) o5.size ?_; intro v6 w6 ho6 hon6 hfr6))
    all_goals
      go_wp2_with fail
      go_ret
      refine ⟨_, rfl, ?_, o5.trans hon6 (fun g hg => .inr (hv4.lt g hg).1)⟩
      rw [List.length_append, HL.out]
      exact ho6
  · have hp : putB m = [] := if_neg hR
    have hRt := fun w => rright_is m false w (decide_eq_false hR)
    rw [hp]
    clear hp hR
    obtain ⟨k, g, s, n⟩ := m
    unfold Mark.val at *
    unfold Mark.cells at *
    simp only at *
    go_enter Tryz.func81, Tryz.ntmps81
    go_wp2_with fail
    generalize w.alloc (.cells #[.int .i64 k, .int .i64 g, .int .i64 s, .int .i64 n] 134) = w1 at *
    refine (hRt w1).mono ?_
    rintro x w2 ⟨rfl, ho2⟩
    go_wp2_with fail
    go_ret
    exact ⟨_, rfl, OwnB.nil_ _ _, ho.trans ho2 (by simp)⟩
end Go.Proofs.YthgfmoogagldmaaGreat.Frame
namespace Go.Proofs.YthgfmoogagldmaaGreat.Codec
open Go.RowKit

theorem two_cells (A : Option Addr) (n c : Nat) (b : Bool) : ∀ (i : Nat) (z : Int), (#[Value.slice A n c, Value.bool b] : Array Value)[i]? ≠ some (Value.int .u8 z) := by
  intro i z h
  match i with
  | 0 => cases h
  | 1 => cases h
  | i + 2 => cases h
def RRd (w : World) (p : Nat) (st : Option (List UInt8)) : Prop :=
  ∃ A n c, Blk w p 148 #[.slice A n c, .bool st.isNone] ∧ n ≤ c ∧ c ≤ maxLen ∧ Bytes w p A n (st.getD [])
theorem RRd.later {w w' : World} {p : Nat} {st : Option (List UInt8)} {S : List Nat} (h : RRd w p st) (ho : Only S w w') (hS : ∀ g ∈ S, p < g) : RRd w' p st := by
  obtain ⟨A, n, c, hb, hc, hm, hr⟩ := h
  refine ⟨A, n, c, hb.only ho (fun hp => by have := hS p hp; omega), hc, hm, hr.only_pos ho (fun hn g hg hgS => ?_)⟩
  have h1 := hr.blk_lt hn g hg
  have h2 := hS g hgS
  omega
theorem RRd.other {w w' : World} {p q : Nat} {st st' : Option (List UInt8)} (h : RRd w p st) (hq : Rd w q st') (ho : Only [q] w w') (hne : p ≠ q) : RRd w' p st := by
  obtain ⟨A, n, c, hb, hc, hm, hr⟩ := h
  obtain ⟨A', n', c', hb', _⟩ := hq
  exact ⟨A, n, c, hb.only ho (by simpa using hne), hc, hm, hr.only_pos ho (fun hn g hg => by simpa using hr.ne_blk hn hb' (two_cells _ _ _ _) g hg)⟩
theorem Rd.other {w w' : World} {p q : Nat} {st st' : Option (List UInt8)} (h : Rd w p st) (hq : RRd w q st') (ho : Only [q] w w') (hne : p ≠ q) : Rd w' p st := by
  obtain ⟨A, n, c, hb, hc, hm, hr, hp⟩ := h
  obtain ⟨A', n', c', hb', _⟩ := hq
  exact ⟨A, n, c, hb.only ho (by simpa using hne), hc, hm, hr.only_pos ho (fun hn g hg => by simpa using hr.ne_blk hn hb' (two_cells _ _ _ _) g hg), hp⟩
theorem RRd.drew {w : World} {p : Nat} {st : Option (List UInt8)} (h : RRd w p st) : RRd w.drew p st := h
theorem Rd.drew {w : World} {p : Nat} {st : Option (List UInt8)} (h : Rd w p st) : Rd w.drew p st := h
theorem rref_get (p k : Nat) (st : Option (List UInt8)) (w : World) (h : RRd w p st) (hk : k ≤ 9223372036854775807) :
    Calls Tryz.prog 127 #[.pointer (some ⟨p, 0, none⟩), .int .i64 (k : Int)] w fun e w' => ∃ A n c, e = .returned (.slice A n c) ∧ n ≤ c ∧ c ≤ maxLen ∧ Bytes w' w'.heap.size A n (rget k st) ∧ RRd w' p (rgot k st) ∧ Only [p] w w' := by
  obtain ⟨A, n, c, hb, hc, hm, hr⟩ := h
  unfold maxLen at hm
  have c0 : w.cell? ⟨p, 0, none⟩ = some (.slice A n c) := hb.cell 0
  have f0 := hb.frozen 0
  have f1 := hb.frozen 1
  have HL := Lib.hid hr.len
  have hbad : ∀ V : Value, RRd ((w.setCell ⟨p, 1, none⟩ (.bool true)).setCell ⟨p, 0, none⟩ (.slice none 0 0)) p none ∧ Only [p] w ((w.setCell ⟨p, 1, none⟩ (.bool true)).setCell ⟨p, 0, none⟩ (.slice none 0 0)) :=
    fun _ => ⟨⟨none, 0, 0, (hb.set_ 1 (.bool true)).set_ 0 (.slice none 0 0), Nat.le_refl _, by simp [maxLen], Bytes.nil_⟩, ((Only.refl [p] w).setCell (p := ⟨p, 1, none⟩) (.inl (by simp)) _).setCell (p := ⟨p, 0, none⟩) (.inl (by simp)) _⟩
  have HBAD := Lib.hid (hbad undef)
  clear hbad
  cases st with
  | none =>
    have d1 : w.cell? ⟨p, 1, none⟩ = some (.bool true) := hb.cell 1
    go_enter Tryz.func127, Tryz.ntmps127
    go_wp2_with fail
    go_ret
    exact ⟨none, 0, 0, rfl, Nat.le_refl _, by simp [maxLen], Bytes.nil_, HBAD.out.1, HBAD.out.2⟩
  | some l =>
    have d1 : w.cell? ⟨p, 1, none⟩ = some (.bool false) := hb.cell 1
    have hl : Hid (l.length = n) := HL.out
    by_cases hlt : n < k
    · have hg : rget k (some l) = [] := rget_bad (by rw [hl.out]; exact hlt)
      have hg2 : rgot k (some l) = none := rgot_bad (by rw [hl.out]; exact hlt)
      rw [hg, hg2]
      clear hg hg2
      go_enter Tryz.func127, Tryz.ntmps127
      go_wp2_with fail
      go_ret
      exact ⟨none, 0, 0, rfl, Nat.le_refl _, by simp [maxLen], Bytes.nil_, HBAD.out.1, HBAD.out.2⟩
    · have hg : rget k (some l) = l.take k := rget_ok (by rw [hl.out]; exact hlt)
      have hg2 : rgot k (some l) = some (l.drop k) := rgot_ok (by rw [hl.out]; exact hlt)
      rw [hg, hg2]
      clear hg hg2
      have hr' : Bytes w p A n l := hr
      have hpA : 0 < n → ∀ g ∈ blkOf A, g ∉ [p] := fun hn g hg => by simpa using hr'.ne_blk hn hb (two_cells _ _ _ _) g hg
      have HP := Lib.hid hpA
      clear hpA hr
      by_cases hck : c = k
      · have hnk : n = k := by omega
        subst hck
        obtain rfl : n = c := hnk
        go_enter Tryz.func127, Tryz.ntmps127
        go_wp2_with fail
        go_ret
        have hS := (Only.refl [p] w).setCell (p := ⟨p, 0, none⟩) (.inl (by simp)) (.slice A 0 0)
        refine ⟨A, n, n, rfl, Nat.le_refl _, by simp only [maxLen]; omega, ?_, ⟨A, 0, 0, hb.set_ 0 _, Nat.le_refl _, by simp [maxLen], ?_⟩, hS⟩
        · have := hr'.head (k := n) (Nat.le_refl _)
          exact (this.only_pos hS HP.out).more (by have := hb.lt; simp [World.setCell]; omega)
        · have : List.drop n l = [] := List.drop_eq_nil_of_le (by rw [hl.out]; exact Nat.le_refl _)
          show Bytes _ _ _ _ (List.drop n l)
          rw [this]
          exact ⟨rfl, rfl, fun h => absurd h (by omega)⟩
      · go_enter Tryz.func127, Tryz.ntmps127
        go_wp2_with fail
        go_ret
        have hS := (Only.refl [p] w).setCell (p := ⟨p, 0, none⟩) (.inl (by simp)) (.slice (Option.map (fun x => x.add k) A) (n - k) (c - k))
        refine ⟨A, k, c, rfl, by omega, by simp only [maxLen]; omega, ?_, ⟨_, n - k, c - k, hb.set_ 0 _, by omega, by simp only [maxLen]; omega, ?_⟩, hS⟩
        · have := hr'.head (k := k) (by omega)
          exact (this.only_pos hS (fun hk0 => HP.out (by omega))).more (by have := hb.lt; simp [World.setCell]; omega)
        · have := hr'.rest (k := k) (by omega)
          exact this.only_pos hS (fun hk0 => by rw [blkOf_map]; exact HP.out (by omega))
set_option maxHeartbeats 1000000 in
theorem rref_num (p : Nat) (st : Option (List UInt8)) (w : World) (h : RRd w p st) :
    Calls Tryz.prog 91 #[.pointer (some ⟨p, 0, none⟩)] w fun e w' => e = .returned (.int .i64 (s64 (vle (rget 8 st)))) ∧ RRd w' p (rgot 8 st) ∧ Only [p] w w' := by
  have hg := rref_get p 8 st w h (by omega)
  rw [show ((8 : Nat) : Int) = 8 from rfl] at hg
  have HG := Lib.hid hg
  clear hg
  have hlen := rget_len 8 st
  go_enter Tryz.func91, Tryz.ntmps91
  go_wp2_with fail
  refine Calls.mono HG.out ?_
  rintro e w1 ⟨A, n, c, rfl, hnc, hm, hr, hR, hO⟩
  have hn : n ≤ 8 := by have := hr.len; omega
  have HL := Lib.hid hr.len
  generalize hll : rget 8 st = l at *
  have HLL := Lib.hid hll
  clear hll hlen
  go_wp2_with fail
  go_loop [4, 5] (fun v i => ∃ k : Nat, k ≤ n ∧ i = .int .i64 k ∧ v = .int .u64 (vle (l.take k) : Nat)) (fun _ i => n - (intOf i).toNat)
  case atStart => exact ⟨0, by omega, rfl, rfl⟩
  case round =>
    obtain ⟨k, hk, rfl, rfl⟩ := hrel
    by_cases hlt : k < n
    · obtain ⟨b, off, rfl, hB, hc⟩ := hr.at_ hlt
      have hkl : k < l.length := by rw [HL.out]; exact hlt
      have HS := Lib.hid (vle_take_succ l k hkl)
      have hx := vle_lt (l.take k)
      rw [List.length_take, Nat.min_eq_left (by omega)] at hx
      have hy := vle_lt (l.take (k + 1))
      rw [HS.out, List.length_take, Nat.min_eq_left (by omega)] at hy
      have hc8 := (l.getD k 0).toNat_lt
      generalize vle (l.take k) = x at *
      generalize (l.getD k 0).toNat = d at *
      have e1 : IntKind.i64.wrap (8 * (k : Int)) = 8 * (k : Int) := IntWalk.i64_in _ (by omega)
      have e2 : (0 : Int) ≤ 8 * (k : Int) := by omega
      have e3 : (8 * (k : Int)).toNat = 8 * k := by omega
      have e4 : min (8 * k) 64 = 8 * k := Nat.min_eq_left (by omega)
      have hp64 : 2 ^ (8 * (k + 1)) ≤ 18446744073709551616 := Nat.le_trans (Nat.pow_le_pow_right (by decide) (show 8 * (k + 1) ≤ 64 by omega)) (by decide)
      have hor := or_low x d (8 * k) hx
      have hb := u64_or_nat x (d * 2 ^ (8 * k)) (by omega) (by omega)
      rw [hor] at hb
      have hw : Hid (bits .or .u64 (x : Int) (IntKind.u64.wrap ((d : Int) * 2 ^ (8 * k))) = ((x + d * 2 ^ (8 * k) : Nat) : Int)) := by
        have e : ((2 ^ (8 * k) : Nat) : Int) = (2 : Int) ^ (8 * k) := by norm_cast
        unfold Hid
        rw [← hb, ← e, ← Int.natCast_mul, IntKind.wrap_u64]
        congr 1
        omega
      clear hb hor hp64 hy hx
      go_wp2_with fail
      go_round
      case rel => exact ⟨k + 1, by omega, by go_num, by rw [HS.out, hw.out]⟩
      case measure => simp [intOf]; omega
    · obtain rfl : k = n := by omega
      have HX := Lib.hid (congrArg vle (List.take_of_length_le (show l.length ≤ k by rw [HL.out]; exact Nat.le_refl _)))
      have hx := vle_lt (l.take k)
      rw [List.length_take, Nat.min_eq_left (by rw [HL.out]; exact Nat.le_refl _)] at hx
      generalize hxx : vle (l.take k) = x at *
      have HXX := Lib.hid hxx
      clear hxx hx
      go_wp2_with fail
      go_ret
      exact ⟨by rw [HLL.out, ← HX.out]; rfl, hR, hO⟩
theorem rc_none {m : Int} {st : Option (List UInt8)} (h : rgot 2 st = none) : rcount m st = 0 ∧ rcounted m st = none := by
  unfold rcount rcounted
  rw [rgot_none h, h]
  exact ⟨by split <;> rfl, by split <;> rfl⟩
theorem st_cases (st : Option (List UInt8)) : rgot 2 st = none ∨ ∃ a b t, st = some (a :: b :: t) := by
  match st with
  | none => exact .inl rfl
  | some [] => exact .inl rfl
  | some [a] => exact .inl rfl
  | some (a :: b :: t) => exact .inr ⟨a, b, t, rfl⟩
set_option maxHeartbeats 1000000 in
theorem rref_count (p : Nat) (m : Int) (st : Option (List UInt8)) (w : World) (h : RRd w p st) :
    Calls Tryz.prog 117 #[.pointer (some ⟨p, 0, none⟩), .int .i64 m] w fun e w' => e = .returned (.int .i64 (rcount m st : Nat)) ∧ RRd w' p (rcounted m st) ∧ Only [p] w w' := by
  have hg := rref_get p 2 st w h (by omega)
  rw [show ((2 : Nat) : Int) = 2 from rfl] at hg
  have HG := Lib.hid hg
  clear hg h
  rcases st_cases st with hn | ⟨a, b, t, rfl⟩
  · rw [(rc_none hn).1, (rc_none hn).2]
    have HN := Lib.hid hn
    clear hn
    go_enter Tryz.func117, Tryz.ntmps117
    go_wp2_with fail
    refine Calls.mono HG.out ?_
    rintro e w1 ⟨A, n, c, rfl, hnc, hm, hr, hR, hO⟩
    rw [HN.out] at hR
    obtain ⟨A1, n1, c1, hb1, hrest⟩ := hR
    have d1 : w1.cell? ⟨p, 1, none⟩ = some (.bool true) := hb1.cell 1
    go_wp2_with fail
    go_ret
    exact ⟨rfl, ⟨A1, n1, c1, hb1, hrest⟩, hO⟩
  · have hv : vle (rget 2 (some (a :: b :: t))) = a.toNat + 256 * b.toNat := by
      rw [rget_ok (by simp)]
      simp [vle]
    have hrg : rgot 2 (some (a :: b :: t)) = some t := by rw [rgot_ok (by simp)]; rfl
    have hrt : rget 2 (some (a :: b :: t)) = [a, b] := by rw [rget_ok (by simp)]; rfl
    have ha := a.toNat_lt
    have hb8 := b.toNat_lt
    have HRG := Lib.hid hrg
    have HRT := Lib.hid hrt
    have HV := Lib.hid hv
    have hif : Hid ((rcount m (some (a :: b :: t)) = if ((a.toNat + 256 * b.toNat : Nat) : Int) ≤ m then a.toNat + 256 * b.toNat else 0) ∧ rcounted m (some (a :: b :: t)) = if ((a.toNat + 256 * b.toNat : Nat) : Int) ≤ m then some t else none) := by
      unfold Hid rcount rcounted
      rw [hv, hrg]
      exact ⟨rfl, rfl⟩
    clear hv hrg hrt
    rw [hif.out.1, hif.out.2]
    clear hif
    by_cases hm : ((a.toNat + 256 * b.toNat : Nat) : Int) ≤ m
    · rw [if_pos hm, if_pos hm]
      go_enter Tryz.func117, Tryz.ntmps117
      go_wp2_with fail
      refine Calls.mono HG.out ?_
      rintro e w1 ⟨A, n, c, rfl, hnc, hmm, hr, hR, hO⟩
      rw [HRG.out] at hR
      rw [HRT.out] at hr
      have hR' := hR
      obtain ⟨A1, n1, c1, hb1, _⟩ := hR
      have d1 : w1.cell? ⟨p, 1, none⟩ = some (.bool false) := hb1.cell 1
      obtain rfl : 2 = n := hr.len
      obtain ⟨bk, off, rfl, _, hc0⟩ := hr.at_ (k := 0) (by omega)
      obtain ⟨bk', off', hA, _, hc1⟩ := hr.at_ (k := 1) (by omega)
      injection hA with hA
      injection hA with hA1 hA2
      subst hA1; subst hA2
      have hc0' : w1.cell? ⟨bk, off, none⟩ = some (.int .u8 (a.toNat : Int)) := hc0
      have hc1' : w1.cell? ⟨bk, off + 1, none⟩ = some (.int .u8 (b.toNat : Int)) := hc1
      clear hc0 hc1 hr HG HRG HRT HV
      have d0 : w1.cell? ⟨p, 0, none⟩ = some (.slice A1 n1 c1) := hb1.cell 0
      generalize hax : a.toNat = x at *
      generalize hby : b.toNat = y at *
      have HAX := Lib.hid hax
      have HBY := Lib.hid hby
      clear hax hby
      go_wp2_with fail
      go_quiet (fail)
      go_wp2_with fail
      go_ret
      exact ⟨by rw [HAX.out, HBY.out]; simp, hR', Only.drewN hO _⟩
    · rw [if_neg hm, if_neg hm]
      go_enter Tryz.func117, Tryz.ntmps117
      go_wp2_with fail
      refine Calls.mono HG.out ?_
      rintro e w1 ⟨A, n, c, rfl, hnc, hmm, hr, hR, hO⟩
      rw [HRG.out] at hR
      rw [HRT.out] at hr
      have hR' := hR
      obtain ⟨A1, n1, c1, hb1, _⟩ := hR
      have f0 := hb1.frozen 0
      have f1 := hb1.frozen 1
      have HB1 := Lib.hid hb1
      have d1 : w1.cell? ⟨p, 1, none⟩ = some (.bool false) := hb1.cell 1
      obtain rfl : 2 = n := hr.len
      obtain ⟨bk, off, rfl, _, hc0⟩ := hr.at_ (k := 0) (by omega)
      obtain ⟨bk', off', hA, _, hc1⟩ := hr.at_ (k := 1) (by omega)
      injection hA with hA
      injection hA with hA1 hA2
      subst hA1; subst hA2
      have hc0' : w1.cell? ⟨bk, off, none⟩ = some (.int .u8 (a.toNat : Int)) := hc0
      have hc1' : w1.cell? ⟨bk, off + 1, none⟩ = some (.int .u8 (b.toNat : Int)) := hc1
      clear hc0 hc1 hr HG HRG HRT HV
      have d0 : w1.cell? ⟨p, 0, none⟩ = some (.slice A1 n1 c1) := hb1.cell 0
      generalize hax : a.toNat = x at *
      generalize hby : b.toNat = y at *
      have HAX := Lib.hid hax
      have HBY := Lib.hid hby
      clear hax hby
      go_wp2_with fail
      go_quiet (fail)
      go_wp2_with fail
      go_ret
      refine ⟨rfl, ⟨none, 0, 0, ?_, Nat.le_refl _, by simp [maxLen], Bytes.nil_⟩, ?_⟩
      · exact (Blk.set_ (Blk.drewN HB1.out _) 1 (.bool true)).set_ 0 (.slice none 0 0)
      · exact ((Only.drewN hO _).setCell (p := ⟨p, 1, none⟩) (.inl (by simp)) _).setCell (p := ⟨p, 0, none⟩) (.inl (by simp)) _
end Go.Proofs.YthgfmoogagldmaaGreat.Codec
