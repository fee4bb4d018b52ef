/- The walks of frame: whether a mark is one, and its half of a sector; by the program. -/
import Derived.Test.YthgfmoogagldmaaGreatConcat
import Derived.Test.YthgfmoogagldmaaGreatWriter
import Derived.Test.YthgfmoogagldmaaGreatGrow
import Derived.Test.YthgfmoogagldmaaGreatSums
import Derived.Test.YthgfmoogagldmaaGreatCodecMath
namespace Go.Proofs.YthgfmoogagldmaaGreat.Frame
open Go.RowKit Codec
set_option linter.unusedVariables false
set_option maxRecDepth 100000

theorem alloc_size (w : World) (o : Obj) : (w.alloc o).heap.size = w.heap.size + 1 := Array.size_push _
structure Mark where
  k : Int
  g : Int
  s : Int
  n : Int
def Mark.val (m : Mark) : Value := .agg #[.int .i64 m.k, .int .i64 m.g, .int .i64 m.s, .int .i64 m.n]
def Mark.cells (m : Mark) : Array Value := #[.int .i64 m.k, .int .i64 m.g, .int .i64 m.s, .int .i64 m.n]
def Mark.right (m : Mark) : Prop := 1 ≤ m.k ∧ m.k ≤ 255 ∧ 0 ≤ m.g ∧ 0 ≤ m.s ∧ 0 ≤ m.n
instance (m : Mark) : Decidable m.right := by unfold Mark.right; infer_instance
def headB (m : Mark) : List UInt8 := [84, 77] ++ smalls [m.k] ++ nums [m.g, m.s, m.n]
def halfB (m : Mark) : List UInt8 := headB m ++ le (Sums.crc (Sums.nats (headB m))) 4
theorem headB_len (m : Mark) : (headB m).length = 28 := by
  unfold headB
  simp [smalls, nums_len, le_len]
theorem halfB_len (m : Mark) : (halfB m).length = 32 := by
  unfold halfB
  rw [List.length_append, headB_len, le_len]
def putB (m : Mark) : List UInt8 := if m.right then halfB m ++ halfB m else []
theorem putB_len (m : Mark) : (putB m).length ≤ 64 := by unfold putB; split <;> simp [halfB_len]
def boolOut (P : Prop) (w : World) (x : Ending) (w' : World) : Prop := ∃ b, x = .returned (.bool b) ∧ (b = true ↔ P) ∧ Only [] w w'
set_option maxHeartbeats 1000000 in
theorem right_any (m : Mark) (w : World) : Calls Tryz.prog 111 #[m.val] w fun x w' => boolOut m.right w x w' := by
  obtain ⟨k, g, s, n⟩ := m
  unfold Mark.val
  simp only
  have hR : (⟨k, g, s, n⟩ : Mark).right ↔ (1 ≤ k ∧ k ≤ 255 ∧ 0 ≤ g ∧ 0 ≤ s ∧ 0 ≤ n) := Iff.rfl
  have HR := Lib.hid hR
  clear hR
  go_enter Tryz.func111, Tryz.ntmps111
  go_wp2_with fail
  all_goals
    go_ret
    refine ⟨_, rfl, ?_, (Only.refl _ _).alloc _⟩
    rw [HR.out]
    simp only [decide_eq_true_eq, Bool.false_eq_true]
    first | omega | (constructor <;> intro h <;> first | exact h.elim | omega) | (split at * <;> omega)
/-- half: its bytes, and their sum -/
theorem half_any (m : Mark) (w : World) : Calls Tryz.prog 112 #[m.val] w fun x w' => ∃ v, x = .returned v ∧ OwnB w' w.heap.size v 32 (halfB m) ∧ Only [] w w' := by
  obtain ⟨k, g, s, n⟩ := m
  have hb := Blk.new w 123 #[.int .i64 k, .int .i64 g, .int .i64 s, .int .i64 n]
  have ho : Only [] w (w.alloc (.cells #[.int .i64 k, .int .i64 g, .int .i64 s, .int .i64 n] 123)) := (Only.refl _ _).alloc _
  unfold Mark.val
  simp only
  have kc := fun (w : World) (C : Array Value) (n c : Nat) => Lib.run_convert_bytes_const (P := Tryz.prog) w 35 5 C n c Tryz.underlying35 Tryz.underlying5
  go_enter Tryz.func112, Tryz.ntmps112
  go_wp2_with fail
  have h1 : WI (w.alloc (.cells #[.int .i64 k, .int .i64 g, .int .i64 s, .int .i64 n] 123)) ((w.alloc (.cells #[.int .i64 k, .int .i64 g, .int .i64 s, .int .i64 n] 123)).alloc (.cells #[.slice none 0 0] 151)) (w.heap.size + 1) 0 [] := by
    have := WI.new (w.alloc (.cells #[.int .i64 k, .int .i64 g, .int .i64 s, .int .i64 n] 123))
    rw [alloc_size] at this
    exact this
  have hs1 : ((w.alloc (.cells #[.int .i64 k, .int .i64 g, .int .i64 s, .int .i64 n] 123)).alloc (.cells #[.slice none 0 0] 151)).heap.size = w.heap.size + 1 + 1 := by rw [alloc_size, alloc_size]
  refine (small_in h1 [k] _ _ _ 1 1 _ rfl hs1 rfl (by decide)).mono ?_
  rintro e w3 ⟨rfl, h3⟩
  clear h1 hs1
  generalize w.alloc (.cells #[.int .i64 k, .int .i64 g, .int .i64 s, .int .i64 n] 123) = w1 at *
  have hb3 := hb.only h3.only0 (by simp)
  have c1 : w3.cell? ⟨w.heap.size, 1, none⟩ = some (.int .i64 g) := hb3.cell 1
  have c2 : w3.cell? ⟨w.heap.size, 2, none⟩ = some (.int .i64 s) := hb3.cell 2
  have c3 : w3.cell? ⟨w.heap.size, 3, none⟩ = some (.int .i64 n) := hb3.cell 3
  go_wp2_with fail
  refine (num_in h3 [g, s, n] _ _ _ 3 3 _ rfl rfl rfl (by decide)).mono ?_
  rintro e w4 ⟨rfl, h4⟩
  clear h3 hb3 c1 c2 c3
  rw [List.nil_append] at h4
  have h4a := (h4.from ho).alloc (.cells #[.int .u8 84, .int .u8 77] 5 (2, 3))
  have hcb : Bytes (w4.alloc (.cells #[.int .u8 84, .int .u8 77] 5 (2, 3))) (w4.heap.size + 1) (some ⟨w4.heap.size, 0, none⟩) 2 [84, 77] := Bytes.const w4 [84, 77] #[.int .u8 84, .int .u8 77] 5 (2, 3) rfl
  obtain ⟨v, m, hm, hw, hoA, hp, hv⟩ := h4a
  have hml := hw.own.len
  rw [show (smalls [k] ++ nums [g, s, n]).length = 26 by simp [smalls, nums_len, le_len]] at hml
  subst hml
  have hbl := bytes_any (w.heap.size + 1) 26 v _ _ hw (by decide)
  have HB := Lib.hid hbl
  have hL : headB ⟨k, g, s, n⟩ = [84, 77] ++ (smalls [k] ++ nums [g, s, n]) := by unfold headB; rw [List.append_assoc]
  have hH : halfB ⟨k, g, s, n⟩ = headB ⟨k, g, s, n⟩ ++ le (Sums.crc (Sums.nats (headB ⟨k, g, s, n⟩))) 4 := rfl
  rw [hL] at hH
  have HH := Lib.hid hH
  clear hbl hw hv h4 hb ho hm hp hL hH
  go_wp2_with (first
    | (go_at_call 93; refine Calls.mono HB.out ?_; rintro e' w5 ⟨v5, rfl, ho5, hon5⟩; obtain ⟨A5, cap5, rfl, hc5, hm5, hr5, hb5⟩ := ho5.shape; have hcb5 := hcb.only hon5 (by simp))
    | (at_builtin; refine wpList_append_bytes_grow rfl (.tmp 24) (.tmp 26) rfl rfl (by decide) hcb5 rfl (by decide) hr5 (by decide) ?_; intro v6 w6 hv6 hon6))
  have hoB := hoA.trans hon5 (by simp)
  have hoC := hoB.trans hon6 (by simp)
  have hv6' := hv6.mono hoB.size
  obtain ⟨A6, cap6, rfl, hc6, hm6, hr6, _⟩ := hv6'.shape
  have hcrc := Sums.crc_any A6 cap6 _ _ w6 28 hr6 (by decide)
  have hlt := Sums.more_lt (s := 0) (by decide) (Sums.nats ([84, 77] ++ (smalls [k] ++ nums [g, s, n]))) (Sums.nats_lt _)
  clear hcb hr5 hcb5 hv6 hon6 hon5 HB hr6 hc5 hm5
  generalize hhd : [84, 77] ++ (smalls [k] ++ nums [g, s, n]) = hd at *
  refine hcrc.mono ?_
  rintro _ wx ⟨rfl, rfl⟩
  have hlt' : Sums.crc (Sums.nats hd) < 4294967296 := hlt
  clear hlt hcrc hhd kc
  generalize Sums.crc (Sums.nats hd) = S at *
  go_wp2_with fail
  go_loopw [4, 30] (fun v i wr => ∃ j : Nat, j ≤ 4 ∧ i = .int .i64 j ∧ OwnB wr w.heap.size v (28 + j) (hd ++ le S j) ∧ Only [] w wr) (fun _ i _ => 4 - (intOf i).toNat)
  case atStart => exact ⟨0, by omega, rfl, by simpa [le] using hv6', hoC⟩
  case round =>
    obtain ⟨j, hj, rfl, hv, ho⟩ := hrel
    by_cases hlt : j < 4
    · have e1 : IntKind.i64.wrap (8 * (j : Int)) = 8 * (j : Int) := IntWalk.i64_in _ (by omega)
      have e2 : (0 : Int) ≤ 8 * (j : Int) := by omega
      have e3 : (8 * (j : Int)).toNat = 8 * j := by omega
      have e4 : min (8 * j) 32 = 8 * j := Nat.min_eq_left (by omega)
      have e5 := byteAt_wrap S j
      have HLE := Lib.hid (le_succ S j)
      generalize byteAt S j = c at *
      have hB := Bytes.const wr [c] #[.int .u8 (c.toNat : Int)] 5 (0, 0) rfl
      have hO := hv.alloc (.cells #[.int .u8 (c.toNat : Int)] 5)
      have hws := ho.size
      have hws' : w.heap.size ≤ (wr.alloc (.cells #[.int .u8 (c.toNat : Int)] 5)).heap.size := by rw [alloc_size]; omega
      go_wp2_with (at_builtin; refine wpList_append_bytes rfl (.tmp 33) (.tmp 39) rfl rfl hO rfl hB (by show 28 + j + 1 ≤ _; omega) hws' ?_; intro v2 w2 ho2 hon2 hfr2)
      go_roundw
      case rel =>
        refine ⟨j + 1, by omega, by go_num, by rw [HLE.out, ← List.append_assoc]; exact ho2, (ho.alloc _).trans hon2 (fun g hg => .inr (hv.lt g hg).1)⟩
      case measure => simp [intOf]; omega
    · obtain rfl : j = 4 := by omega
      go_wp2_with fail
      go_ret
      exact ⟨_, rfl, by rw [HH.out]; exact hv, ho⟩
end Go.Proofs.YthgfmoogagldmaaGreat.Frame
