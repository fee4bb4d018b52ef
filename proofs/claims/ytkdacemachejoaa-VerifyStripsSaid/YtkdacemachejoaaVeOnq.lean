/- Where an instruction leads on, as an iterator: verify.on. -/
import Derived.Test.YtkdacemachejoaaReachA
import Derived.Test.YtkdacemachejoaaRanges
import Derived.Test.YtkdacemachejoaaVeStoreq
namespace Go.Proofs.Ytkdacemachejoaa.Vm
open Go.RowKit Go.Shelf Object
set_option linter.unusedVariables false
set_option maxRecDepth 100000
attribute [local go_sem] Oper.semAt_some
theorem on_any (A : Option Addr) (n c : Nat) (i : Int) (w : World) : Calls Try.prog 54 #[.slice A n c, .int .i64 i] w fun e w' =>
    e = .returned (.func (.func 75) #[] #[.pointer (some ⟨w.heap.size, 0, none⟩), .pointer (some ⟨w.heap.size + 1, 0, none⟩)]) ∧ Blk w' w.heap.size 22 #[.slice A n c] ∧ Blk w' (w.heap.size + 1) 3 #[.int .i64 i] ∧ Only [] w w' := by
  have HF : Hid (Blk ((w.alloc (.cells #[.slice A n c] 22)).alloc (.cells #[.int .i64 i] 3)) w.heap.size 22 #[.slice A n c] ∧ Blk ((w.alloc (.cells #[.slice A n c] 22)).alloc (.cells #[.int .i64 i] 3)) (w.heap.size + 1) 3 #[.int .i64 i] ∧ Only [] w ((w.alloc (.cells #[.slice A n c] 22)).alloc (.cells #[.int .i64 i] 3))) := by
    refine Lib.hid ⟨(Blk.new w _ _).alloc _, ?_, ((Only.refl [] w).alloc _).alloc _⟩
    have h := Blk.new (w.alloc (.cells #[.slice A n c] 22)) 3 #[.int .i64 i]
    rw [World.size_alloc] at h
    exact h
  go_enter Try.func54, Try.ntmps54
  go_wp2_with fail
  go_ret
  exact ⟨by simp [World.size_alloc], HF.out⟩
/-- what on's iterator reads -/
def OnK (A : Option Addr) (n cc pb : Nat) (B i : Nat) (cs : List Cd) (X : World) : Prop := Blk X pb 22 #[.slice A n cc] ∧ Blk X (pb + 1) 3 #[.int .i64 (i : Int)] ∧ Recs X B 5 A n (cs.map Cd.row)
/-- what a loop's round over on's iterator keeps -/
def KpV (pb i : Nat) (X Y : World) : Prop := (∀ g cs, Blk X g 27 cs → Blk Y g 27 cs) ∧ (Blk X (pb + 1) 3 #[.int .i64 (i : Int)] → Blk Y (pb + 1) 3 #[.int .i64 (i : Int)])
theorem KpV.trans {pb i : Nat} {X Y Z : World} (h : KpV pb i X Y) (k : KpV pb i Y Z) : KpV pb i X Z := ⟨fun g cs hb => k.1 g cs (h.1 g cs hb), fun hb => k.2 (h.2 hb)⟩
theorem leadsZ_16 {a b c n : Int} {i : Nat} : leadsZ ⟨16, a, b, c, n⟩ i = [n] := rfl
theorem leadsZ_17 {a b c n : Int} {i : Nat} : leadsZ ⟨17, a, b, c, n⟩ i = [n, (i : Int) + 1] := rfl
theorem leadsZ_19 {a b c n : Int} {i : Nat} : leadsZ ⟨19, a, b, c, n⟩ i = [] := rfl
theorem leadsZ_21 {a b c n : Int} {i : Nat} : leadsZ ⟨21, a, b, c, n⟩ i = [] := rfl
theorem leadsZ_on {op a b c n : Int} {i : Nat} (h1 : op ≠ 16) (h2 : op ≠ 17) (h3 : op ≠ 19) (h4 : op ≠ 21) : leadsZ ⟨op, a, b, c, n⟩ i = [(i : Int) + 1] := by
  unfold leadsZ
  simp [h1, h2, h3, h4]
set_option maxHeartbeats 4000000 in
theorem on1_seq (m : Nat) (hm : 1 ≤ m) (A : Option Addr) (n cc pb B i : Nat) (cs : List Cd) (c : Cd) (hi : i < n) (hc : cs[i]? = some c) (hn : n ≤ 65536) (w0 : World) (hk0 : OnK A n cc pb B i cs w0) :
    SeqKp Fence.wide m Try.prog 75 #[.pointer (some ⟨pb, 0, none⟩), .pointer (some ⟨pb + 1, 0, none⟩)] (fun z : Int => #[.int .i64 z]) (KpV pb i) (fun ys => ys = leadsZ c i) (leadsZ c i) w0 := by
  intro lp J W0 hoW hJo hY h0
  obtain ⟨k1, k2, k3⟩ := hk0
  have k1 := k1.only hoW (by simp)
  have k2 := k2.only hoW (by simp)
  have k3 := k3.only hoW (by simp)
  obtain ⟨b, off, rfl, hbB, c', _, hc', q0, q1, q2, q3, q4⟩ := cd_at k3 i hi
  obtain rfl : c' = c := by rw [hc] at hc'; exact (Option.some.inj hc').symm
  have x1 : W0.cell? ⟨pb, 0, none⟩ = some (.slice (some ⟨b, off, none⟩) n cc) := k1.cell 0
  have x2 : W0.cell? ⟨pb + 1, 0, none⟩ = some (.int .i64 (i : Int)) := k2.cell 0
  obtain ⟨op, a, bb, c3, z⟩ := c'
  simp only at q0 q1 q2 q3 q4
  obtain ⟨w1, hw1⟩ : ∃ w1, (((((W0.alloc (.cells #[.int .i64 0, .int .i64 0, .int .i64 0, .int .i64 0, .int .i64 0] 27)).setCell ⟨W0.heap.size, 0, none⟩ (.int .i64 op)).setCell ⟨W0.heap.size, 1, none⟩ (.int .i64 a)).setCell ⟨W0.heap.size, 2, none⟩ (.int .i64 bb)).setCell ⟨W0.heap.size, 3, none⟩ (.int .i64 c3)).setCell ⟨W0.heap.size, 4, none⟩ (.int .i64 z) = w1 := ⟨_, rfl⟩
  have b1 : Blk w1 W0.heap.size 27 #[.int .i64 op, .int .i64 a, .int .i64 bb, .int .i64 c3, .int .i64 z] := by rw [← hw1]; exact (((((Blk.new W0 _ _).set_ 0 _).set_ 1 _).set_ 2 _).set_ 3 _).set_ 4 _
  have o1 : Only [] W0 w1 := by rw [← hw1]; exact ((((((Only.refl [] W0).alloc _).setCell (.inr (Nat.le_refl _)) _).setCell (.inr (Nat.le_refl _)) _).setCell (.inr (Nat.le_refl _)) _).setCell (.inr (Nat.le_refl _)) _).setCell (.inr (Nat.le_refl _)) _
  have HJ := Lib.hid (hJo _ _ _ h0 o1)
  have HB := Lib.hid (And.intro b1 (k2.only o1 (by simp)))
  have HY := Lib.hid hY
  have y0 : w1.cell? ⟨W0.heap.size, 0, none⟩ = some (.int .i64 op) := b1.cell 0
  have y4 : w1.cell? ⟨W0.heap.size, 4, none⟩ = some (.int .i64 z) := b1.cell 4
  have yi : w1.cell? ⟨pb + 1, 0, none⟩ = some (.int .i64 (i : Int)) := (k2.only o1 (by simp)).cell 0
  have hwr : wrap64 ((i : Int) + 1) = (i : Int) + 1 := wrap_le (by omega) (by omega)
  obtain ⟨w2, hw2⟩ : ∃ w2, W0.alloc (.cells #[.int .i64 0, .int .i64 0, .int .i64 0, .int .i64 0, .int .i64 0] 27) = w2 := ⟨_, rfl⟩
  have bz : Blk w2 W0.heap.size 27 #[.int .i64 0, .int .i64 0, .int .i64 0, .int .i64 0, .int .i64 0] := by rw [← hw2]; exact Blk.new W0 _ _
  have t0 : w2.cell? ⟨W0.heap.size, 0, none⟩ = some (.int .i64 0) := bz.cell 0
  have t1 : w2.cell? ⟨W0.heap.size, 1, none⟩ = some (.int .i64 0) := bz.cell 1
  have t2 : w2.cell? ⟨W0.heap.size, 2, none⟩ = some (.int .i64 0) := bz.cell 2
  have t3 : w2.cell? ⟨W0.heap.size, 3, none⟩ = some (.int .i64 0) := bz.cell 3
  have t4 : w2.cell? ⟨W0.heap.size, 4, none⟩ = some (.int .i64 0) := bz.cell 4
  have v0 := bz.frozen 0
  have v1 := bz.frozen 1
  have v2 := bz.frozen 2
  have v3 := bz.frozen 3
  have v4 := bz.frozen 4
  rw [hw2] at hw1
  clear hY h0 k1 k2 k3 b1 o1 hbB hc' hc hn hoW hJo bz
  have hop : op = 16 ∨ op = 17 ∨ op = 19 ∨ op = 21 ∨ (op ≠ 16 ∧ op ≠ 17 ∧ op ≠ 19 ∧ op ≠ 21) := by omega
  refine callsIn_of_wp Try.func75 rfl trivial ?_ rfl
  simp only [Try.ntmps75, List.size_toArray, List.length_cons, List.length_nil, Nat.reduceAdd, Nat.reduceSub, Array.replicate_succ, Array.replicate_zero, List.push_toArray, List.append_toArray, List.nil_append, List.cons_append]
  rcases hop with rfl | rfl | rfl | rfl | ⟨n1, n2, n3, n4⟩
  · obtain ⟨fn, tmps, assign, body, hy, hR⟩ := HY.out [] z w1 HJ.out (by rw [leadsZ_16]; exact List.prefix_refl _)
    have HRR := Lib.hid hR
    clear hR HY
    simp only [List.nil_append] at HRR
    gi_wp2
    repeat (refine ⟨fun f hf => (by cases hf), ?_⟩; try gi_wp2)
    refine HRR.out.mono ?_
    rintro x W3 ⟨rfl, hJ3, hK3⟩
    have HJ3 := Lib.hid hJ3
    have z0 : W3.cell? ⟨W0.heap.size, 0, none⟩ = some (.int .i64 16) := (hK3.1 _ _ HB.out.1).cell 0
    clear hJ3 hK3 hy HRR
    gi_wp2
    repeat (refine ⟨fun f hf => (by cases hf), ?_⟩; try gi_wp2)
    go_end0
    exact ⟨⟨_, rfl⟩, _, leadsZ_16.symm, HJ3.out⟩
  · obtain ⟨fn, tmps, assign, body, hy, hR⟩ := HY.out [] z w1 HJ.out (by rw [leadsZ_17]; exact ⟨[(i : Int) + 1], rfl⟩)
    have HRR := Lib.hid hR
    clear hR
    simp only [List.nil_append] at HRR
    gi_wp2
    repeat (refine ⟨fun f hf => (by cases hf), ?_⟩; try gi_wp2)
    refine HRR.out.mono ?_
    rintro x W3 ⟨rfl, hJ3, hK3⟩
    have z0 : W3.cell? ⟨W0.heap.size, 0, none⟩ = some (.int .i64 17) := (hK3.1 _ _ HB.out.1).cell 0
    have zi : W3.cell? ⟨pb + 1, 0, none⟩ = some (.int .i64 (i : Int)) := (hK3.2 HB.out.2).cell 0
    obtain ⟨fn2, tmps2, assign2, body2, hy2, hR2⟩ := HY.out [z] ((i : Int) + 1) W3 hJ3 (by rw [leadsZ_17]; exact List.prefix_refl _)
    have HRR2 := Lib.hid hR2
    clear hJ3 hK3 hy HRR hR2 HY
    gi_wp2
    repeat (refine ⟨fun f hf => (by cases hf), ?_⟩; try gi_wp2)
    refine HRR2.out.mono ?_
    rintro x W4 ⟨rfl, hJ4, hK4⟩
    have HJ4 := Lib.hid hJ4
    clear hJ4 hK4 hy2 HRR2
    gi_wp2
    repeat (refine ⟨fun f hf => (by cases hf), ?_⟩; try gi_wp2)
    go_end0
    exact ⟨⟨_, rfl⟩, _, leadsZ_17.symm, HJ4.out⟩
  · clear HY
    gi_wp2
    repeat (refine ⟨fun f hf => (by cases hf), ?_⟩; try gi_wp2)
    go_end0
    exact ⟨⟨_, rfl⟩, _, leadsZ_19.symm, HJ.out⟩
  · clear HY
    gi_wp2
    repeat (refine ⟨fun f hf => (by cases hf), ?_⟩; try gi_wp2)
    go_end0
    exact ⟨⟨_, rfl⟩, _, leadsZ_21.symm, HJ.out⟩
  · have e1 : (op == 16) = false := by simpa using n1
    have e2 : (op == 17) = false := by simpa using n2
    have e3 : (op == 19) = false := by simpa using n3
    have e4 : (op == 21) = false := by simpa using n4
    have HN := Lib.hid (leadsZ_on (a := a) (b := bb) (c := c3) (n := z) (i := i) n1 n2 n3 n4)
    have g1 : (op != 16) = true := by simpa using n1
    have g3 : (op != 19) = true := by simpa using n3
    have g4 : (op != 21) = true := by simpa using n4
    have f1 : decide (op = 16) = false := decide_eq_false n1
    have f2 : decide (op = 17) = false := decide_eq_false n2
    have f3 : decide (op = 19) = false := decide_eq_false n3
    have f4 : decide (op = 21) = false := decide_eq_false n4
    obtain ⟨fn, tmps, assign, body, hy, hR⟩ := HY.out [] ((i : Int) + 1) w1 HJ.out (by rw [HN.out]; exact List.prefix_refl _)
    have HRR := Lib.hid hR
    clear hR HY
    simp only [List.nil_append] at HRR
    gi_wp2
    repeat (refine ⟨fun f hf => (by cases hf), ?_⟩; try gi_wp2)
    refine HRR.out.mono ?_
    rintro x W3 ⟨rfl, hJ3, hK3⟩
    have HJ3 := Lib.hid hJ3
    clear hJ3 hK3 hy HRR
    gi_wp2
    repeat (refine ⟨fun f hf => (by cases hf), ?_⟩; try gi_wp2)
    go_end0
    exact ⟨⟨_, rfl⟩, _, HN.out.symm, HJ3.out⟩
end Go.Proofs.Ytkdacemachejoaa.Vm
