/- FrameA: The walks of frame: whether a mark is one, and its half of a sector; by the program; The walks of frame: a mark's sector, and the mark of a sector; by the program. -/
import Derived.Test.YthgfmoogagldmaaGreatConcat
import Derived.Test.YthgfmoogagldmaaGreatWriterq
import Derived.Test.YthgfmoogagldmaaGreatBufs
import Derived.Test.YthgfmoogagldmaaGreatSums
import Derived.Test.YthgfmoogagldmaaGreatCodecA
import Derived.Test.YthgfmoogagldmaaGreatCodecB
import Derived.Deep.RegionHeld3
set_option linter.unusedVariables false
set_option maxRecDepth 100000
namespace Go.Proofs.YthgfmoogagldmaaGreat.Frame
open Go.RowKit Codec

theorem alloc_size (w : World) (o : Obj) : (w.alloc o).heap.size = w.heap.size + 1 := Array.size_push _
structure Mark where
  k : Int
  g : Int
  s : Int
  n : Int
def Mark.val (m : Mark) : Value := .agg #[.int .i64 m.k, .int .i64 m.g, .int .i64 m.s, .int .i64 m.n]
def Mark.cells (m : Mark) : Array Value := #[.int .i64 m.k, .int .i64 m.g, .int .i64 m.s, .int .i64 m.n]
def Mark.right (m : Mark) : Prop := 1 ≤ m.k ∧ m.k ≤ 255 ∧ 0 ≤ m.g ∧ 0 ≤ m.s ∧ 0 ≤ m.n
instance (m : Mark) : Decidable m.right := by unfold Mark.right; infer_instance
def headB (m : Mark) : List UInt8 := [84, 77] ++ smalls [m.k] ++ nums [m.g, m.s, m.n]
def halfB (m : Mark) : List UInt8 := headB m ++ le (Sums.crc (Sums.nats (headB m))) 4
theorem headB_len (m : Mark) : (headB m).length = 28 := by
  unfold headB
  simp [smalls, nums_len, le_len]
theorem halfB_len (m : Mark) : (halfB m).length = 32 := by
  unfold halfB
  rw [List.length_append, headB_len, le_len]
def putB (m : Mark) : List UInt8 := if m.right then halfB m ++ halfB m else []
theorem putB_len (m : Mark) : (putB m).length ≤ 64 := by unfold putB; split <;> simp [halfB_len]
def boolOut (P : Prop) (w : World) (x : Ending) (w' : World) : Prop := ∃ b, x = .returned (.bool b) ∧ (b = true ↔ P) ∧ Only [] w w'
set_option maxHeartbeats 1000000 in
theorem right_any (m : Mark) (w : World) : Calls Tryz.prog 111 #[m.val] w fun x w' => boolOut m.right w x w' := by
  obtain ⟨k, g, s, n⟩ := m
  unfold Mark.val
  simp only
  have hR : (⟨k, g, s, n⟩ : Mark).right ↔ (1 ≤ k ∧ k ≤ 255 ∧ 0 ≤ g ∧ 0 ≤ s ∧ 0 ≤ n) := Iff.rfl
  have HR := Lib.hid hR
  clear hR
  go_enter Tryz.func111, Tryz.ntmps111
  go_wp2_with fail
  all_goals
    go_ret
    refine ⟨_, rfl, ?_, (Only.refl _ _).alloc _⟩
    rw [HR.out]
    simp only [decide_eq_true_eq, Bool.false_eq_true]
    first | omega | (constructor <;> intro h <;> first | exact h.elim | omega) | (split at * <;> omega)
theorem half_any (m : Mark) (w : World) : Calls Tryz.prog 112 #[m.val] w fun x w' => ∃ v, x = .returned v ∧ OwnB w' w.heap.size v 32 (halfB m) ∧ Only [] w w' := by
  obtain ⟨k, g, s, n⟩ := m
  have hb := Blk.new w 123 #[.int .i64 k, .int .i64 g, .int .i64 s, .int .i64 n]
  have ho : Only [] w (w.alloc (.cells #[.int .i64 k, .int .i64 g, .int .i64 s, .int .i64 n] 123)) := (Only.refl _ _).alloc _
  unfold Mark.val
  simp only
  have kc := fun (w : World) (C : Array Value) (n c : Nat) => Lib.run_convert_bytes_const (P := Tryz.prog) w 35 5 C n c Tryz.underlying35 Tryz.underlying5
  go_enter Tryz.func112, Tryz.ntmps112
  go_wp2_with fail
  have h1 : WI (w.alloc (.cells #[.int .i64 k, .int .i64 g, .int .i64 s, .int .i64 n] 123)) ((w.alloc (.cells #[.int .i64 k, .int .i64 g, .int .i64 s, .int .i64 n] 123)).alloc (.cells #[.slice none 0 0] 151)) (w.heap.size + 1) 0 [] := by
    have := WI.new (w.alloc (.cells #[.int .i64 k, .int .i64 g, .int .i64 s, .int .i64 n] 123))
    rw [alloc_size] at this
    exact this
  have hs1 : ((w.alloc (.cells #[.int .i64 k, .int .i64 g, .int .i64 s, .int .i64 n] 123)).alloc (.cells #[.slice none 0 0] 151)).heap.size = w.heap.size + 1 + 1 := by rw [alloc_size, alloc_size]
  refine (small_in h1 [k] _ _ _ 1 1 _ rfl hs1 rfl (by decide)).mono ?_
  rintro e w3 ⟨rfl, h3⟩
  clear h1 hs1
  generalize w.alloc (.cells #[.int .i64 k, .int .i64 g, .int .i64 s, .int .i64 n] 123) = w1 at *
  have hb3 := hb.only h3.only0 (by simp)
  have c1 : w3.cell? ⟨w.heap.size, 1, none⟩ = some (.int .i64 g) := hb3.cell 1
  have c2 : w3.cell? ⟨w.heap.size, 2, none⟩ = some (.int .i64 s) := hb3.cell 2
  have c3 : w3.cell? ⟨w.heap.size, 3, none⟩ = some (.int .i64 n) := hb3.cell 3
  go_wp2_with fail
  refine (num_in h3 [g, s, n] _ _ _ 3 3 _ rfl rfl rfl (by decide)).mono ?_
  rintro e w4 ⟨rfl, h4⟩
  clear h3 hb3 c1 c2 c3
  rw [List.nil_append] at h4
  have h4a := (h4.from ho).alloc (.cells #[.int .u8 84, .int .u8 77] 5 (2, 3))
  have hcb : Bytes (w4.alloc (.cells #[.int .u8 84, .int .u8 77] 5 (2, 3))) (w4.heap.size + 1) (some ⟨w4.heap.size, 0, none⟩) 2 [84, 77] := Bytes.const w4 [84, 77] #[.int .u8 84, .int .u8 77] 5 (2, 3) rfl
  obtain ⟨v, m, hm, hw, hoA, hp, hv⟩ := h4a
  have hml := hw.own.len
  rw [show (smalls [k] ++ nums [g, s, n]).length = 26 by simp [smalls, nums_len, le_len]] at hml
  subst hml
  have hbl := bytes_any (w.heap.size + 1) 26 v _ _ hw (by decide)
  have HB := Lib.hid hbl
  have hL : headB ⟨k, g, s, n⟩ = [84, 77] ++ (smalls [k] ++ nums [g, s, n]) := by unfold headB; rw [List.append_assoc]
  have hH : halfB ⟨k, g, s, n⟩ = headB ⟨k, g, s, n⟩ ++ le (Sums.crc (Sums.nats (headB ⟨k, g, s, n⟩))) 4 := rfl
  rw [hL] at hH
  have HH := Lib.hid hH
  clear hbl hw hv h4 hb ho hm hp hL hH
  go_wp2_with (first
    | (go_at_call 93; refine Calls.mono HB.out ?_; rintro e' w5 ⟨v5, rfl, ho5, hon5⟩; obtain ⟨A5, cap5, rfl, hc5, hm5, hr5, hb5⟩ := ho5.shape; have hcb5 := hcb.only hon5 (by simp))
    | (at_builtin; refine wpList_append_bytes_grow rfl (.tmp 24) (.tmp 26) rfl rfl (by decide) hcb5 rfl (by decide) hr5 (by decide) ?_; intro v6 w6 hv6 hon6))
  have hoB := hoA.trans hon5 (by simp)
  have hoC := hoB.trans hon6 (by simp)
  have hv6' := hv6.mono hoB.size
  obtain ⟨A6, cap6, rfl, hc6, hm6, hr6, _⟩ := hv6'.shape
  have hcrc := Sums.crc_any A6 cap6 _ _ w6 28 hr6 (by decide)
  have hlt := Sums.more_lt (s := 0) (by decide) (Sums.nats ([84, 77] ++ (smalls [k] ++ nums [g, s, n]))) (Sums.nats_lt _)
  clear hcb hr5 hcb5 hv6 hon6 hon5 HB hr6 hc5 hm5
  generalize hhd : [84, 77] ++ (smalls [k] ++ nums [g, s, n]) = hd at *
  refine hcrc.mono ?_
  rintro _ wx ⟨rfl, rfl⟩
  have hlt' : Sums.crc (Sums.nats hd) < 4294967296 := hlt
  clear hlt hcrc hhd kc
  generalize Sums.crc (Sums.nats hd) = S at *
  go_wp2_with fail
  go_loopw [4, 30] (fun v i wr => ∃ j : Nat, j ≤ 4 ∧ i = .int .i64 j ∧ OwnB wr w.heap.size v (28 + j) (hd ++ le S j) ∧ Only [] w wr) (fun _ i _ => 4 - (intOf i).toNat)
  case atStart => exact ⟨0, by omega, rfl, by simpa [le] using hv6', hoC⟩
  case round =>
    obtain ⟨j, hj, rfl, hv, ho⟩ := hrel
    by_cases hlt : j < 4
    · have e1 : IntKind.i64.wrap (8 * (j : Int)) = 8 * (j : Int) := IntWalk.i64_in _ (by omega)
      have e2 : (0 : Int) ≤ 8 * (j : Int) := by omega
      have e3 : (8 * (j : Int)).toNat = 8 * j := by omega
      have e4 : min (8 * j) 32 = 8 * j := Nat.min_eq_left (by omega)
      have e5 := byteAt_wrap S j
      have HLE := Lib.hid (le_succ S j)
      generalize byteAt S j = c at *
      have hB := Bytes.const wr [c] #[.int .u8 (c.toNat : Int)] 5 (0, 0) rfl
      have hO := hv.alloc (.cells #[.int .u8 (c.toNat : Int)] 5)
      have hws := ho.size
      have hws' : w.heap.size ≤ (wr.alloc (.cells #[.int .u8 (c.toNat : Int)] 5)).heap.size := by rw [alloc_size]; omega
      go_wp2_with (at_builtin; refine wpList_append_bytes rfl (.tmp 33) (.tmp 39) rfl rfl hO rfl hB (by show 28 + j + 1 ≤ _; omega) hws' ?_; intro v2 w2 ho2 hon2 hfr2)
      go_roundw
      case rel =>
        refine ⟨j + 1, by omega, by go_num, by rw [HLE.out, ← List.append_assoc]; exact ho2, (ho.alloc _).trans hon2 (fun g hg => .inr (hv.lt g hg).1)⟩
      case measure => simp [intOf]; omega
    · obtain rfl : j = 4 := by omega
      go_wp2_with fail
      go_ret
      exact ⟨_, rfl, by rw [HH.out]; exact hv, ho⟩
end Go.Proofs.YthgfmoogagldmaaGreat.Frame
namespace Go.Proofs.YthgfmoogagldmaaGreat.Frame
open Go.RowKit Codec

theorem put_any (m : Mark) (w : World) : Calls Tryz.prog 67 #[m.val] w fun x w' => ∃ v, x = .returned v ∧ OwnB w' w.heap.size v (putB m).length (putB m) ∧ Only [] w w' := by
  have hb := Blk.new w 123 m.cells
  have ho : Only [] w (w.alloc (.cells m.cells 123)) := (Only.refl _ _).alloc _
  have hR := fun w => right_any m w
  have hH := fun w => half_any m w
  have hp : (m.right → putB m = halfB m ++ halfB m) ∧ (¬ m.right → putB m = []) := ⟨fun h => if_pos h, fun h => if_neg h⟩
  have hl := halfB_len m
  have HL := Lib.hid hl
  clear hl
  generalize putB m = P at *
  generalize halfB m = H at *
  obtain ⟨k, g, s, n⟩ := m
  unfold Mark.val at *
  unfold Mark.cells at *
  simp only at *
  generalize (⟨k, g, s, n⟩ : Mark).right = R at *
  have HP := Lib.hid hp
  clear hp
  go_enter Tryz.func67, Tryz.ntmps67
  go_wp2_with fail
  generalize w.alloc (.cells #[.int .i64 k, .int .i64 g, .int .i64 s, .int .i64 n] 123) = w1 at *
  refine (hR w1).mono ?_
  rintro x w2 ⟨b, rfl, hbR, ho2⟩
  have hb2 := hb.only ho2 (by simp)
  have c0 : w2.cell? ⟨w.heap.size, 0, none⟩ = some (.int .i64 k) := hb2.cell 0
  have c1 : w2.cell? ⟨w.heap.size, 1, none⟩ = some (.int .i64 g) := hb2.cell 1
  have c2 : w2.cell? ⟨w.heap.size, 2, none⟩ = some (.int .i64 s) := hb2.cell 2
  have c3 : w2.cell? ⟨w.heap.size, 3, none⟩ = some (.int .i64 n) := hb2.cell 3
  have ho2 := ho.trans ho2 (by simp)
  clear hb hb2 ho hR
  cases b with
  | false =>
    have hn : P = [] := HP.out.2 (fun h => by have := hbR.2 h; cases this)
    subst hn
    clear hbR
    go_wp2_with fail
    go_ret
    exact ⟨_, rfl, OwnB.nil_ _ _, ho2⟩
  | true =>
    have hn : P = H ++ H := HP.out.1 (hbR.1 rfl)
    subst hn
    clear hbR HP
    go_wp2_with fail
    refine (hH w2).mono ?_
    rintro x w3 ⟨v, rfl, hv, ho3⟩
    have ho3 := ho2.trans ho3 (by simp)
    clear c0 c1 c2 c3 hH
    obtain ⟨A3, cap3, rfl, hc3, hm3, hr3, _⟩ := hv.shape
    go_wp2_with fail
    have hr4 := Reads.const w3 ([(⟨A3, 32, cap3, H⟩ : Sl), ⟨A3, 32, cap3, H⟩].map Sl.val) #[.slice A3 32 cap3, .slice A3 32 cap3] 35 (0, 0) rfl
    have ho4 : Only [] w3 (w3.alloc (.cells #[.slice A3 32 cap3, .slice A3 32 cap3] 35)) := (Only.refl _ _).alloc _
    have hb4 : Bytes (w3.alloc (.cells #[.slice A3 32 cap3, .slice A3 32 cap3] 35)) (w3.alloc (.cells #[.slice A3 32 cap3, .slice A3 32 cap3] 35)).heap.size A3 32 H := (hr3.only ho4 (by simp)).more ho4.size
    refine (concat_any _ 2 2 (w3.heap.size + 1) [⟨A3, 32, cap3, H⟩, ⟨A3, 32, cap3, H⟩] _ rfl hr4 (by rw [alloc_size]; exact Nat.le_refl _) (by intro s hs; simp at hs; subst hs; exact hb4) (by simp [flat, HL.out]) (by decide)).mono ?_
    rintro x w5 ⟨v5, rfl, hv5, ho5⟩
    have hfl : flat [(⟨A3, 32, cap3, H⟩ : Sl), ⟨A3, 32, cap3, H⟩] = H ++ H := by simp [flat]
    rw [hfl] at hv5
    have hfin := (ho3.trans ho4 (by simp)).trans ho5 (by simp)
    have hvf := hv5.mono (ho3.trans ho4 (by simp)).size
    clear hr4 ho4 hb4 hv5 ho5
    go_wp2_with fail
    go_ret
    exact ⟨_, rfl, hvf, hfin⟩

def readM (l : List UInt8) : Mark :=
  ⟨(vle (rget 2 (some ((l.drop 2).take 30))) : Nat), s64 (vle (rget 8 (rgot 2 (some ((l.drop 2).take 30))))), s64 (vle (rget 8 (rgot 8 (rgot 2 (some ((l.drop 2).take 30)))))),
    s64 (vle (rget 8 (rgot 8 (rgot 8 (rgot 2 (some ((l.drop 2).take 30)))))))⟩
def zeroM : Mark := ⟨0, 0, 0, 0⟩
def getR (l : List UInt8) : Mark × Bool := if l.length = 64 ∧ l.take 32 = l.drop 32 ∧ (readM l).right ∧ halfB (readM l) = l.take 32 then (readM l, true) else (zeroM, false)
theorem getR_no {l : List UInt8} (h : ¬ (l.length = 64 ∧ l.take 32 = l.drop 32 ∧ (readM l).right ∧ halfB (readM l) = l.take 32)) : getR l = (zeroM, false) := if_neg h
theorem blk4 {w : World} {g : Nat} {t : TypeId} {a b c d : Value} (h : Blk w g t #[a, b, c, d]) (x y z u : Value) :
    Blk ((((w.setCell ⟨g, 0, none⟩ x).setCell ⟨g, 1, none⟩ y).setCell ⟨g, 2, none⟩ z).setCell ⟨g, 3, none⟩ u) g t #[x, y, z, u] :=
  (((h.set_ 0 x).set_ 1 y).set_ 2 z).set_ 3 u
theorem mark_ret {f : Func} (T : Array Value) (w : World) (g : Nat) (x y z u e : Value) (hf : f.results = Tryz.f103.results) (h2 : T[2]?.getD undef = .pointer (some ⟨g, 0, none⟩)) (h3 : T[3]?.getD undef = e)
    (hb : Blk w g 123 #[x, y, z, u]) :
    (results f T).run Tryz.prog w = .ok (.tuple #[.agg #[x, y, z, u], e]) w := by
  have d0 : w.cell? ⟨g, 0, none⟩ = some x := hb.cell 0
  have d1 : w.cell? ⟨g, 1, none⟩ = some y := hb.cell 1
  have d2 : w.cell? ⟨g, 2, none⟩ = some z := hb.cell 2
  have d3 : w.cell? ⟨g, 3, none⟩ = some u := hb.cell 3
  unfold results
  rw [hf]
  simp [Tryz.results103, h2, h3, go_sem, d0, d1, d2, d3]
theorem only4 {w wr : World} {g : Nat} (h0 : Only [] w wr) (hg : w.heap.size ≤ g) (x y z u : Value) : Only [] w ((((wr.setCell ⟨g, 0, none⟩ x).setCell ⟨g, 1, none⟩ y).setCell ⟨g, 2, none⟩ z).setCell ⟨g, 3, none⟩ u) :=
  (((h0.setCell (.inr hg) _).setCell (.inr hg) _).setCell (.inr hg) _).setCell (.inr hg) _
theorem right_is (m : Mark) (b : Bool) (w : World) (hb : decide m.right = b) : Calls Tryz.prog 111 #[m.val] w fun x w' => x = .returned (.bool b) ∧ Only [] w w' := by
  refine (right_any m w).mono ?_
  rintro x w' ⟨b', rfl, hbb, ho⟩
  refine ⟨?_, ho⟩
  cases b' with
  | true => rw [← hb, decide_eq_true (hbb.1 rfl)]
  | false => rw [← hb, decide_eq_false (fun h => by have := hbb.2 h; cases this)]
theorem equal_is (A1 A2 : Option Addr) (n1 n2 c1 c2 B1 B2 : Nat) (l1 l2 : List UInt8) (w : World) (b : Bool) (hb : decide (l1 = l2) = b) (h1 : Bytes w B1 A1 n1 l1) (h2 : Bytes w B2 A2 n2 l2) :
    Calls Tryz.prog 134 #[.slice A1 n1 c1, .slice A2 n2 c2] w fun e w' => e = .returned (.bool b) ∧ w = w' := by
  subst hb
  exact equal_any A1 A2 n1 n2 c1 c2 B1 B2 l1 l2 w h1 h2
set_option maxHeartbeats 4000000 in
theorem get_any (A : Option Addr) (n c B : Nat) (l : List UInt8) (w : World) (hr : Bytes w B A n l) (hB : B ≤ w.heap.size) (hnc : n ≤ c) (hcm : c ≤ maxLen) :
    Calls Tryz.prog 103 #[.slice A n c] w fun x w' => x = .returned (.tuple #[(getR l).1.val, .bool (getR l).2]) ∧ Only [] w w' := by
  have hb0 : Blk (w.alloc (.cells #[.int .i64 0, .int .i64 0, .int .i64 0, .int .i64 0] 123)) w.heap.size 123 #[.int .i64 0, .int .i64 0, .int .i64 0, .int .i64 0] := Blk.new _ _ _
  have ho0 : Only [] w (w.alloc (.cells #[.int .i64 0, .int .i64 0, .int .i64 0, .int .i64 0] 123)) := (Only.refl _ _).alloc _
  have hlen := hr.len
  have hr0 := hr.only ho0 (by simp)
  unfold maxLen at hcm
  by_cases h64 : n = 64
  · subst h64
    have hck : ¬ c = 32 := by omega
    have hck2 : ¬ c = 2 := by omega
    by_cases heq : l.take 32 = l.drop 32
    · have hE := fun k => equal_any A _ 32 _ c (c - 32) _ _ _ _ ((w.alloc (.cells #[.int .i64 0, .int .i64 0, .int .i64 0, .int .i64 0] 123)).drewN k) ((hr0.head (k := 32) (by omega)).drewN k) ((hr0.rest (k := 32) (by omega)).drewN k)
      rw [decide_eq_true heq] at hE
      have HE := Lib.hid hE
      have hmid : Bytes (w.alloc (.cells #[.int .i64 0, .int .i64 0, .int .i64 0, .int .i64 0] 123)) B (A.map (fun x => x.add 2)) 30 ((l.drop 2).take 30) := (hr0.rest (k := 2) (by omega)).head (k := 30) (by omega)
      have hhd := hr0.head (k := 32) (by omega)
      have hgr : getR l = if (readM l).right ∧ halfB (readM l) = l.take 32 then (readM l, true) else (zeroM, false) := by
        unfold getR
        by_cases h : (readM l).right ∧ halfB (readM l) = l.take 32
        · rw [if_pos ⟨by omega, heq, h⟩, if_pos h]
        · rw [if_neg (fun h' => h h'.2.2), if_neg h]
      have HGR := Lib.hid hgr
      clear hE heq hr0 hr hlen hgr
      go_enter Tryz.func103, Tryz.ntmps103
      go_wp2_with fail
      go_quiet ((go_at_call 134; exact quiet_left (HE.out _)))
      go_wp2_with fail
      have hb1 := hb0.drewN nq
      have ho1 := Only.drewN ho0 nq
      have hm1 := hmid.drewN nq
      have hh1 := hhd.drewN nq
      clear hb0 ho0 hmid hhd HE
      generalize (w.alloc (.cells #[.int .i64 0, .int .i64 0, .int .i64 0, .int .i64 0] 123)).drewN nq = w1 at *
      refine (read_any _ 30 (c - 2) B _ w1 hm1 (by decide)).mono ?_
      rintro x w2 ⟨p, rfl, hR2, ho2, hp⟩
      have hpw : w.heap.size < p := by have := hb1.lt; omega
      have hb2 := hb1.only ho2 (by simp)
      have hh2 := hh1.only ho2 (by simp)
      have ho2 := ho1.trans ho2 (by simp)
      have hBp : B ≤ p := by omega
      clear hb1 ho1 hm1 hh1 hp
      have hrm : readM l = ⟨(vle (rget 2 (some ((l.drop 2).take 30))) : Nat), s64 (vle (rget 8 (rgot 2 (some ((l.drop 2).take 30))))), s64 (vle (rget 8 (rgot 8 (rgot 2 (some ((l.drop 2).take 30)))))),
        s64 (vle (rget 8 (rgot 8 (rgot 8 (rgot 2 (some ((l.drop 2).take 30)))))))⟩ := rfl
      rw [hrm] at HGR
      clear hrm
      generalize some ((l.drop 2).take 30) = st0 at *
      go_wp2_with fail
      refine (small_r p _ w2 hR2).mono ?_
      rintro x w3 ⟨rfl, hR3, ho3⟩
      have hb3 := hb2.only ho3 (by simp; omega)
      have hh3 := hh2.only_pos ho3 (fun hn g hg => by have := hh2.blk_lt hn g hg; simp; omega)
      have ho3 := ho2.trans ho3 (by simp; omega)
      clear hR2 hb2 hh2 ho2
      generalize vle (rget 2 st0) = mk at *
      generalize rgot 2 st0 = st1 at *
      go_wp2_with fail
      refine (num_r p _ w3 hR3).mono ?_
      rintro x w4 ⟨rfl, hR4, ho4⟩
      have hb4 := hb3.only ho4 (by simp; omega)
      have hh4 := hh3.only_pos ho4 (fun hn g hg => by have := hh3.blk_lt hn g hg; simp; omega)
      have ho4 := ho3.trans ho4 (by simp; omega)
      clear hR3 hb3 hh3 ho3
      generalize s64 (vle (rget 8 st1)) = mg at *
      generalize rgot 8 st1 = st2 at *
      go_wp2_with fail
      refine (num_r p _ w4 hR4).mono ?_
      rintro x w5 ⟨rfl, hR5, ho5⟩
      have hb5 := hb4.only ho5 (by simp; omega)
      have hh5 := hh4.only_pos ho5 (fun hn g hg => by have := hh4.blk_lt hn g hg; simp; omega)
      have ho5 := ho4.trans ho5 (by simp; omega)
      clear hR4 hb4 hh4 ho4
      generalize s64 (vle (rget 8 st2)) = ms at *
      generalize rgot 8 st2 = st3 at *
      go_wp2_with fail
      refine (num_r p _ w5 hR5).mono ?_
      rintro x w6 ⟨rfl, hR6, ho6⟩
      have hb6 := (hb5.only ho6 (by simp; omega)).alloc (.cells #[.int .i64 mk, .int .i64 mg, .int .i64 ms, .int .i64 (s64 (vle (rget 8 st3)))] 123)
      have hh6 := (hh5.only_pos ho6 (fun hn g hg => by have := hh5.blk_lt hn g hg; simp; omega)).only ((Only.refl [] w6).alloc (.cells #[.int .i64 mk, .int .i64 mg, .int .i64 ms, .int .i64 (s64 (vle (rget 8 st3)))] 123)) (by simp)
      have hm6 := Blk.new w6 123 #[.int .i64 mk, .int .i64 mg, .int .i64 ms, .int .i64 (s64 (vle (rget 8 st3)))]
      have ho6 := (ho5.trans ho6 (by simp; omega)).alloc (.cells #[.int .i64 mk, .int .i64 mg, .int .i64 ms, .int .i64 (s64 (vle (rget 8 st3)))] 123)
      clear hR5 hb5 hh5 ho5 hR6
      generalize s64 (vle (rget 8 st3)) = mn at *
      go_wp2_with fail
      generalize w6.alloc (.cells #[.int .i64 mk, .int .i64 mg, .int .i64 ms, .int .i64 mn] 123) = w7 at *
      generalize w6.heap.size = q at *
      have hc : ∀ w', Only [] w7 w' → (Only [] w w' ∧ Blk w' w.heap.size 123 #[.int .i64 0, .int .i64 0, .int .i64 0, .int .i64 0] ∧ Bytes w' B A 32 (l.take 32)) ∧
          (w'.cell? ⟨q, 0, none⟩ = some (.int .i64 mk) ∧ w'.cell? ⟨q, 1, none⟩ = some (.int .i64 mg) ∧ w'.cell? ⟨q, 2, none⟩ = some (.int .i64 ms) ∧ w'.cell? ⟨q, 3, none⟩ = some (.int .i64 mn)) := fun w' h =>
        ⟨⟨ho6.trans h (by simp), hb6.only h (by simp), hh6.only h (by simp)⟩, ⟨(hm6.only h (by simp)).cell 0, (hm6.only h (by simp)).cell 1, (hm6.only h (by simp)).cell 2, (hm6.only h (by simp)).cell 3⟩⟩
      have HC := Lib.hid hc
      clear hc hb6 hh6 hm6 ho6
      have hMv : (⟨mk, mg, ms, mn⟩ : Mark).val = .agg #[.int .i64 mk, .int .i64 mg, .int .i64 ms, .int .i64 mn] := rfl
      have hHf := fun w' => half_any ⟨mk, mg, ms, mn⟩ w'
      by_cases hR : (⟨mk, mg, ms, mn⟩ : Mark).right
      · have hRt := right_is ⟨mk, mg, ms, mn⟩ true w7.drew (decide_eq_true hR)
        rw [hMv] at hRt hHf
        have HRT := Lib.hid hRt
        have HHF := Lib.hid hHf
        clear hRt hHf hMv
        obtain ⟨_, ⟨x0, x1, x2, x3⟩⟩ := HC.out w7 (Only.refl _ _)
        have hod : Only [] w7 w7.drew := (Only.refl _ _).drew
        have HOD := Lib.hid hod
        clear hod
        by_cases hE : halfB ⟨mk, mg, ms, mn⟩ = l.take 32
        · have hdE : decide (halfB ⟨mk, mg, ms, mn⟩ = l.take 32) = true := decide_eq_true hE
          rw [if_pos ⟨hR, hE⟩] at HGR
          have HDE := Lib.hid hdE
          clear hR hE hdE
          generalize halfB ⟨mk, mg, ms, mn⟩ = H at *
          go_region_with (first
            | (go_at_call 111; refine Calls.mono HRT.out ?_; rintro x wa ⟨rfl, hoa⟩; have hoa' := HOD.out.trans hoa (by simp); obtain ⟨⟨hoA, hbA, hhA⟩, ⟨y0, y1, y2, y3⟩⟩ := HC.out wa hoa')
            | (go_at_call 112; refine (HHF.out wa).mono ?_; rintro x wb ⟨v, rfl, hv, hob⟩; obtain ⟨A3, cap3, rfl, hc3, hm3, hr3, _⟩ := hv.shape; obtain ⟨⟨hoB, hbB, hhB⟩, ⟨z0, z1, z2, z3⟩⟩ := HC.out wb (hoa'.trans hob (by simp)))
            | (go_at_call 134; refine (equal_is _ _ 32 32 _ _ _ _ _ _ wb true HDE.out hr3 hhB).mono ?_; rintro x wx ⟨rfl, rfl⟩))
          all_goals
            have b0 : wb.cell? ⟨w.heap.size, 0, none⟩ = some (.int .i64 0) := hbB.cell 0
            have b1 : wb.cell? ⟨w.heap.size, 1, none⟩ = some (.int .i64 0) := hbB.cell 1
            have b2 : wb.cell? ⟨w.heap.size, 2, none⟩ = some (.int .i64 0) := hbB.cell 2
            have b3 : wb.cell? ⟨w.heap.size, 3, none⟩ = some (.int .i64 0) := hbB.cell 3
            have f0 := hbB.frozen 0
            have f1 := hbB.frozen 1
            have f2 := hbB.frozen 2
            have f3 := hbB.frozen 3
            go_wp2_with fail
            exact bodyPost_ret (mark_ret _ _ w.heap.size _ _ _ _ _ rfl rfl rfl (blk4 hbB _ _ _ _)) rfl ⟨by rw [HGR.out]; rfl, only4 hoB (Nat.le_refl _) _ _ _ _⟩
        · have hdE : decide (halfB ⟨mk, mg, ms, mn⟩ = l.take 32) = false := decide_eq_false hE
          rw [if_neg (fun h => hE h.2)] at HGR
          have HDE := Lib.hid hdE
          clear hR hE hdE
          generalize halfB ⟨mk, mg, ms, mn⟩ = H at *
          go_region_with (first
            | (go_at_call 111; refine Calls.mono HRT.out ?_; rintro x wa ⟨rfl, hoa⟩; have hoa' := HOD.out.trans hoa (by simp); obtain ⟨⟨hoA, hbA, hhA⟩, ⟨y0, y1, y2, y3⟩⟩ := HC.out wa hoa')
            | (go_at_call 112; refine (HHF.out wa).mono ?_; rintro x wb ⟨v, rfl, hv, hob⟩; obtain ⟨A3, cap3, rfl, hc3, hm3, hr3, _⟩ := hv.shape; obtain ⟨⟨hoB, hbB, hhB⟩, ⟨z0, z1, z2, z3⟩⟩ := HC.out wb (hoa'.trans hob (by simp)))
            | (go_at_call 134; refine (equal_is _ _ 32 32 _ _ _ _ _ _ wb false HDE.out hr3 hhB).mono ?_; rintro x wx ⟨rfl, rfl⟩))
          all_goals
            have b0 : wb.cell? ⟨w.heap.size, 0, none⟩ = some (.int .i64 0) := hbB.cell 0
            have b1 : wb.cell? ⟨w.heap.size, 1, none⟩ = some (.int .i64 0) := hbB.cell 1
            have b2 : wb.cell? ⟨w.heap.size, 2, none⟩ = some (.int .i64 0) := hbB.cell 2
            have b3 : wb.cell? ⟨w.heap.size, 3, none⟩ = some (.int .i64 0) := hbB.cell 3
            have f0 := hbB.frozen 0
            have f1 := hbB.frozen 1
            have f2 := hbB.frozen 2
            have f3 := hbB.frozen 3
            go_wp2_with fail
            exact bodyPost_ret (mark_ret _ _ w.heap.size _ _ _ _ _ rfl rfl rfl (blk4 hbB _ _ _ _)) rfl ⟨by rw [HGR.out]; rfl, only4 hoB (Nat.le_refl _) _ _ _ _⟩
      · have hRt := right_is ⟨mk, mg, ms, mn⟩ false w7.drew (decide_eq_false hR)
        rw [if_neg (fun h => hR h.1)] at HGR
        rw [hMv] at hRt
        have HRT := Lib.hid hRt
        clear hRt hHf hMv hR
        obtain ⟨_, ⟨x0, x1, x2, x3⟩⟩ := HC.out w7 (Only.refl _ _)
        have hod : Only [] w7 w7.drew := (Only.refl _ _).drew
        have HOD := Lib.hid hod
        clear hod
        first
          | (go_region_with (go_at_call 111; refine Calls.mono HRT.out ?_; rintro x wa ⟨rfl, hoa⟩; obtain ⟨⟨hoA, hbA, hhA⟩, ⟨y0, y1, y2, y3⟩⟩ := HC.out wa (HOD.out.trans hoa (by simp))))
          | fail
        all_goals
          have b0 : wa.cell? ⟨w.heap.size, 0, none⟩ = some (.int .i64 0) := hbA.cell 0
          have b1 : wa.cell? ⟨w.heap.size, 1, none⟩ = some (.int .i64 0) := hbA.cell 1
          have b2 : wa.cell? ⟨w.heap.size, 2, none⟩ = some (.int .i64 0) := hbA.cell 2
          have b3 : wa.cell? ⟨w.heap.size, 3, none⟩ = some (.int .i64 0) := hbA.cell 3
          have f0 := hbA.frozen 0
          have f1 := hbA.frozen 1
          have f2 := hbA.frozen 2
          have f3 := hbA.frozen 3
          go_wp2_with fail
          exact bodyPost_ret (mark_ret _ _ w.heap.size _ _ _ _ _ rfl rfl rfl (blk4 hbA _ _ _ _)) rfl ⟨by rw [HGR.out]; rfl, only4 hoA (Nat.le_refl _) _ _ _ _⟩
    · have hg : getR l = (zeroM, false) := getR_no (fun h => heq h.2.1)
      have HG : Hid ((.returned (.tuple #[.agg #[.int .i64 0, .int .i64 0, .int .i64 0, .int .i64 0], .bool false]) : Ending) = .returned (.tuple #[(getR l).1.val, .bool (getR l).2])) := by unfold Hid; rw [hg]; rfl
      have hE := fun k => equal_any A _ 32 _ c (c - 32) _ _ _ _ ((w.alloc (.cells #[.int .i64 0, .int .i64 0, .int .i64 0, .int .i64 0] 123)).drewN k) ((hr0.head (k := 32) (by omega)).drewN k) ((hr0.rest (k := 32) (by omega)).drewN k)
      rw [decide_eq_false heq] at hE
      have HE := Lib.hid hE
      clear hE hg heq hr0 hr hlen
      go_enter Tryz.func103, Tryz.ntmps103
      go_wp2_with fail
      go_quiet ((go_at_call 134; exact quiet_left (HE.out _)))
      go_wp2_with fail
      exact bodyPost_ret (mark_ret _ _ w.heap.size _ _ _ _ _ rfl rfl rfl (blk4 (hb0.drewN _) _ _ _ _)) rfl ⟨HG.out, only4 (Only.drewN ho0 _) (Nat.le_refl _) _ _ _ _⟩
  · have h64' : ¬ ((n : Int) = 64) := by omega
    have hg : getR l = (zeroM, false) := getR_no (fun h => h64 (by omega))
    have HG : Hid ((.returned (.tuple #[.agg #[.int .i64 0, .int .i64 0, .int .i64 0, .int .i64 0], .bool false]) : Ending) = .returned (.tuple #[(getR l).1.val, .bool (getR l).2])) := by unfold Hid; rw [hg]; rfl
    clear hg hr0 hr hlen
    go_enter Tryz.func103, Tryz.ntmps103
    go_wp2_with fail
    go_quiet (fail)
    go_wp2_with fail
    exact bodyPost_ret (mark_ret _ _ w.heap.size _ _ _ _ _ rfl rfl rfl (blk4 (hb0.drewN _) _ _ _ _)) rfl ⟨HG.out, only4 (Only.drewN ho0 _) (Nat.le_refl _) _ _ _ _⟩
end Go.Proofs.YthgfmoogagldmaaGreat.Frame
