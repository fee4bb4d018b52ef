/- verify.Strip. -/
import Derived.Test.YtkdacemachejoaaVeGrownq
namespace Go.Proofs.Ytkdacemachejoaa.Vm
open Go.RowKit Go.Maps Go.Shelf Object
set_option linter.unusedVariables false
set_option maxRecDepth 100000
theorem halt_ok (m : Int) : codeOk m haltC = true := by
  unfold codeOk haltC
  rfl
theorem strip_mem {cs : List Cd} {c : Cd} (h : c ∈ stripL cs) : c ∈ cs ∨ c = haltC := by
  classical
  unfold stripL at h
  obtain ⟨i, hi, rfl⟩ := List.mem_map.1 h
  rw [List.mem_range] at hi
  by_cases hd : Rd cs i
  · left
    simp only [hd, if_true]
    rw [List.getD_eq_getElem?_getD, List.getElem?_eq_getElem hi]
    exact List.getElem_mem hi
  · right
    simp only [hd, if_false]
theorem right_strip {cs : List Cd} (h : vmRight cs = true) : vmRight (stripL cs) = true := by
  obtain ⟨h1, h2, h3, h4⟩ := right_len h
  unfold vmRight
  simp only [Bool.and_eq_true, decide_eq_true_eq, List.all_eq_true]
  rw [stripL_len]
  refine ⟨⟨⟨h1, h2⟩, fun c hc => ?_⟩, ?_⟩
  · rcases strip_mem hc with hc | rfl
    · exact h4 c hc
    · exact halt_ok _
  · have hl : (stripL cs).length = cs.length := stripL_len
    have hlt : cs.length - 1 < cs.length := by omega
    have hs := stripL_at (cs := cs) hlt
    by_cases hd : Rd cs (cs.length - 1)
    · have h5 := hs.1 hd
      rw [List.getElem?_eq_getElem hlt] at h5
      rw [last_at (stripL cs) cs.length _ hl h5, ← last_at cs cs.length _ rfl (List.getElem?_eq_getElem hlt)]
      exact h3
    · rw [last_at (stripL cs) cs.length _ hl (hs.2 hd)]
      decide
theorem strip_runs {cs : List Cd} (h : vmRight cs = true) (n : Nat) (s : MS) (hi : Inv cs s) : runP cs n s = runP (stripL cs) n s :=
  run_strip (fun i hi => (stripL_at (right_rd h hi)).1 hi) (fun i hi => right_some h hi) n s hi
theorem code_info : (Try.prog.info? 27).map (fun i => (i.zero, i.size, i.bytes)) = some (some (.agg #[.int .i64 0, .int .i64 0, .int .i64 0, .int .i64 0, .int .i64 0]), 5, 40) := by kernel_rfl
theorem Bl.at_ {w : World} {A : Option Addr} {R : List Bool} (h : Bl w A R) {j : Nat} (hj : j < R.length) : ∃ b off x, A = some ⟨b, off, none⟩ ∧ R[j]? = some x ∧ w.cell? ⟨b, off + j, none⟩ = some (.bool x) := by
  obtain ⟨b, off, hA, _, hc⟩ := Reads.at1 h hj
  rw [List.getElem?_map, List.getElem?_eq_getElem hj] at hc
  exact ⟨b, off, R[j], hA, List.getElem?_eq_getElem hj, hc⟩
theorem take_snoc {α : Type} {l : List α} {k : Nat} {x : α} (h : l[k]? = some x) : l.take (k + 1) = l.take k ++ [x] := by
  obtain ⟨h1, h2⟩ := List.getElem?_eq_some_iff.1 h
  rw [List.take_succ_eq_append_getElem h1, h2]
theorem row_cells (c : Cd) : ∀ u ∈ c.row, u.oneCell' = true := by
  intro u hu
  simp only [Cd.row, List.mem_cons, List.not_mem_nil, or_false] at hu
  rcases hu with rfl | rfl | rfl | rfl | rfl <;> rfl
def StripO (cs : List Cd) (w : World) (y : Ending) (w' : World) : Prop := ∃ v, y = .returned v ∧ OwnR 27 5 w' w.heap.size v cs.length ((stripL cs).map Cd.row) ∧ Only [] w w'
def code5 (c : Cd) : Array Value := #[.int .i64 c.op, .int .i64 c.a, .int .i64 c.b, .int .i64 c.c, .int .i64 c.n]
set_option maxHeartbeats 4000000 in
theorem strip_any (A : Option Addr) (n cc : Nat) (cs : List Cd) (w : World) (hr : Recs w w.heap.size 5 A n (cs.map Cd.row)) (hR : vmRight cs = true) :
    Calls Try.prog 7 #[.slice A n cc] w (StripO cs w) := by
  have hl : cs.length = n := by have := hr.1; simpa using this
  have hlen := (right_len hR).2.1
  have HG := Lib.hid (reach_any A n cc cs w hr hR)
  have HR := Lib.hid (And.intro hr hR)
  have HL := Lib.hid (And.intro hl hlen)
  have hn6 : n ≤ 65536 := by omega
  have HN := Lib.hid hn6
  clear hr hR hl hlen hn6
  go_enter Try.func7, Try.ntmps7
  go_wp2_with (go_at_call 18; refine HG.out.mono ?_; rintro y w1 ⟨g, rfl, hbl, ho1⟩; have HBL := Lib.hid hbl; have HO1 := Lib.hid ho1; clear hbl ho1)
  go_loopw [3, 10] (fun v i wr => ∃ k : Nat, i = .int .i64 k ∧ k ≤ n ∧ OwnR 27 5 wr w1.heap.size v k (((stripL cs).take k).map Cd.row) ∧ Only [] w1 wr) (fun _ i _ => n - (intOf i).toNat)
  case atStart => exact ⟨0, rfl, by omega, OwnR.nil_ _ _ _ _, Only.refl _ _⟩
  case round =>
    rename_i v _
    obtain ⟨k, rfl, hk, hown, ho⟩ := hrel
    by_cases hlt : k < n
    · have d1 : decide ((k : Int) < (n : Int)) = true := decide_eq_true (by omega)
      have d1' : decide (k < n) = true := decide_eq_true hlt
      obtain ⟨b, off, x, hA, hx, hcell⟩ := (HBL.out.only0 ho).at_ (j := k) (by rw [reachL_len, HL.out.1]; exact hlt)
      injection hA with hA
      injection hA with hA1 hA2 hA3
      subst hA1
      subst hA2
      rw [Nat.zero_add] at hcell
      obtain ⟨x', hx1, hx2⟩ := reachL_at (cs := cs) (i := k) (by rw [HL.out.1]; exact hlt)
      obtain rfl : x' = x := by rw [hx1] at hx; exact Option.some.inj hx
      have hst := stripL_at (cs := cs) (i := k) (by rw [HL.out.1]; exact hlt)
      have hor : Only [] w wr := HO1.out.trans ho (by simp)
      obtain ⟨cb, co, rfl, hcb, c, _, hc, q0, q1, q2, q3, q4⟩ := cd_at (HR.out.1.only hor (by simp)) k hlt
      obtain ⟨w2, hw2⟩ : ∃ w2, wr.alloc (.cells #[.int .i64 0, .int .i64 0, .int .i64 0, .int .i64 0, .int .i64 0] 27) = w2 := ⟨_, rfl⟩
      have bz : Blk w2 wr.heap.size 27 #[.int .i64 0, .int .i64 0, .int .i64 0, .int .i64 0, .int .i64 0] := by rw [← hw2]; exact Blk.new wr _ _
      have o2 : Only [] wr w2 := by rw [← hw2]; exact (Only.refl [] wr).alloc _
      have t0 : w2.cell? ⟨wr.heap.size, 0, none⟩ = some (.int .i64 0) := bz.cell 0
      have t1 : w2.cell? ⟨wr.heap.size, 1, none⟩ = some (.int .i64 0) := bz.cell 1
      have t2 : w2.cell? ⟨wr.heap.size, 2, none⟩ = some (.int .i64 0) := bz.cell 2
      have t3 : w2.cell? ⟨wr.heap.size, 3, none⟩ = some (.int .i64 0) := bz.cell 3
      have t4 : w2.cell? ⟨wr.heap.size, 4, none⟩ = some (.int .i64 0) := bz.cell 4
      have v0 := bz.frozen 0
      have v1 := bz.frozen 1
      have v2 := bz.frozen 2
      have v3 := bz.frozen 3
      have v4 := bz.frozen 4
      obtain ⟨w3, hw3⟩ : ∃ w3, ((((w2.setCell ⟨wr.heap.size, 0, none⟩ (.int .i64 21)).setCell ⟨wr.heap.size, 1, none⟩ (.int .i64 0)).setCell ⟨wr.heap.size, 2, none⟩ (.int .i64 0)).setCell ⟨wr.heap.size, 3, none⟩ (.int .i64 0)).setCell ⟨wr.heap.size, 4, none⟩ (.int .i64 0) = w3 := ⟨_, rfl⟩
      have b3 : Blk w3 wr.heap.size 27 (code5 haltC) := by rw [← hw3]; exact ((((bz.set_ 0 _).set_ 1 _).set_ 2 _).set_ 3 _).set_ 4 _
      have o3 : Only [] wr w3 := by rw [← hw3]; exact ((((o2.setCell (.inr (Nat.le_refl _)) _).setCell (.inr (Nat.le_refl _)) _).setCell (.inr (Nat.le_refl _)) _).setCell (.inr (Nat.le_refl _)) _).setCell (.inr (Nat.le_refl _)) _
      have HN2 : Hid (w1.heap.size ≤ wr.heap.size) := Lib.hid ho.size
      have HO := Lib.hid ho
      have HOWN := Lib.hid hown
      have HB3 := Lib.hid (And.intro b3 o3)
      have HK := Lib.hid hlt
      obtain ⟨A3, c3, rfl, hs1, hs2, hs3, hs4⟩ := hown.shape (by decide)
      cases x' with
      | false =>
        have hx3 := hst.2 (fun h => by have := hx2.2 h; cases this)
        have HST := Lib.hid hx3
        have s0 : w3.cell? ⟨wr.heap.size, 0, none⟩ = some (.int .i64 21) := b3.cell 0
        have s1 : w3.cell? ⟨wr.heap.size, 1, none⟩ = some (.int .i64 0) := b3.cell 1
        have s2 : w3.cell? ⟨wr.heap.size, 2, none⟩ = some (.int .i64 0) := b3.cell 2
        have s3 : w3.cell? ⟨wr.heap.size, 3, none⟩ = some (.int .i64 0) := b3.cell 3
        have s4 : w3.cell? ⟨wr.heap.size, 4, none⟩ = some (.int .i64 0) := b3.cell 4
        have HOWX := Lib.hid (hown.only o3 (by simp))
        have HLEX : Hid (w1.heap.size ≤ w3.heap.size) := Lib.hid (Nat.le_trans ho.size o3.size)
        have HOX : Hid (Only [] w1 w3) := Lib.hid (ho.trans o3 (by simp))
        clear hk hlt hown ho hx hx1 hx2 hst hor hcb hc q0 q1 q2 q3 q4 bz o2 b3 o3 hx3 hs1 hs2 hs3 hs4
        have hc3 : k + 1 ≤ 65536 := by have := HN.out; have := HK.out; omega
        have HC3 := Lib.hid hc3
        clear hc3
        go_wp2_with (at_builtin; refine wpList_append1 (w := w3) rfl (.tmp 21) (.tmp 23) 22 rfl Try.underlying22 code_info rfl (by decide) rfl HOWX.out rfl rfl (row := haltC.row) rfl rfl (row_cells _) (by have := HC3.out; omega) (by have := HC3.out; unfold maxLen; omega) (Nat.le_succ_of_le HLEX.out) ?_; intro v' w5 hE; obtain ⟨A5, c5, e5, _⟩ := hE.own.shape (by decide); subst e5; have HE := Lib.hid hE; clear hE)
        have HO5 := Lib.hid (HOX.out.trans HE.out.only (fun q hq => .inr (HOWX.out.lt q hq).1))
        have hw : wrap64 ((k : Int) + 1) = ((k + 1 : Nat) : Int) := by have := HC3.out; rw [wrap_le (by omega) (by omega)]; omega
        go_roundw
        case measure => rw [hw]; have := HK.out; simp [intOf]; omega
        case rel =>
          refine ⟨k + 1, by rw [hw], HK.out, ?_, HO5.out⟩
          rw [take_snoc HST.out, List.map_append]
          exact HE.out.own
      | true =>
        have hx3 := hst.1 (hx2.1 rfl)
        rw [hc] at hx3
        have HST := Lib.hid hx3
        have s0 : w3.cell? ⟨wr.heap.size, 0, none⟩ = some (.int .i64 21) := b3.cell 0
        have s1 : w3.cell? ⟨wr.heap.size, 1, none⟩ = some (.int .i64 0) := b3.cell 1
        have s2 : w3.cell? ⟨wr.heap.size, 2, none⟩ = some (.int .i64 0) := b3.cell 2
        have s3 : w3.cell? ⟨wr.heap.size, 3, none⟩ = some (.int .i64 0) := b3.cell 3
        have s4 : w3.cell? ⟨wr.heap.size, 4, none⟩ = some (.int .i64 0) := b3.cell 4
        have y0 := b3.frozen 0
        have y1 := b3.frozen 1
        have y2 := b3.frozen 2
        have y3 := b3.frozen 3
        have y4 := b3.frozen 4
        have r0 := o3.cell q0 (by simp)
        have r1 := o3.cell q1 (by simp)
        have r2 := o3.cell q2 (by simp)
        have r3 := o3.cell q3 (by simp)
        have r4 := o3.cell q4 (by simp)
        obtain ⟨w4, hw4⟩ : ∃ w4, ((((w3.setCell ⟨wr.heap.size, 0, none⟩ (.int .i64 c.op)).setCell ⟨wr.heap.size, 1, none⟩ (.int .i64 c.a)).setCell ⟨wr.heap.size, 2, none⟩ (.int .i64 c.b)).setCell ⟨wr.heap.size, 3, none⟩ (.int .i64 c.c)).setCell ⟨wr.heap.size, 4, none⟩ (.int .i64 c.n) = w4 := ⟨_, rfl⟩
        have b4 : Blk w4 wr.heap.size 27 (code5 c) := by rw [← hw4]; exact ((((b3.set_ 0 _).set_ 1 _).set_ 2 _).set_ 3 _).set_ 4 _
        have o4 : Only [] wr w4 := by rw [← hw4]; exact ((((o3.setCell (.inr (Nat.le_refl _)) _).setCell (.inr (Nat.le_refl _)) _).setCell (.inr (Nat.le_refl _)) _).setCell (.inr (Nat.le_refl _)) _).setCell (.inr (Nat.le_refl _)) _
        have e0 : w4.cell? ⟨wr.heap.size, 0, none⟩ = some (.int .i64 c.op) := b4.cell 0
        have e1 : w4.cell? ⟨wr.heap.size, 1, none⟩ = some (.int .i64 c.a) := b4.cell 1
        have e2 : w4.cell? ⟨wr.heap.size, 2, none⟩ = some (.int .i64 c.b) := b4.cell 2
        have e3 : w4.cell? ⟨wr.heap.size, 3, none⟩ = some (.int .i64 c.c) := b4.cell 3
        have e4 : w4.cell? ⟨wr.heap.size, 4, none⟩ = some (.int .i64 c.n) := b4.cell 4
        have HOWX := Lib.hid (hown.only o4 (by simp))
        have HLEX : Hid (w1.heap.size ≤ w4.heap.size) := Lib.hid (Nat.le_trans ho.size o4.size)
        have HOX : Hid (Only [] w1 w4) := Lib.hid (ho.trans o4 (by simp))
        have hkn : k < n := hlt
        clear hk hlt hown ho hx hx1 hx2 hst hor hcb hc q0 q1 q2 q3 q4 bz o2 b3 o3 hx3 hs1 hs2 hs3 hs4 b4 o4
        have hc3 : k + 1 ≤ 65536 := by have := HN.out; have := HK.out; omega
        have HC3 := Lib.hid hc3
        clear hc3
        go_wp2_with (at_builtin; refine wpList_append1 (w := w4) rfl (.tmp 21) (.tmp 23) 22 rfl Try.underlying22 code_info rfl (by decide) rfl HOWX.out rfl rfl (row := c.row) rfl rfl (row_cells _) (by have := HC3.out; omega) (by have := HC3.out; unfold maxLen; omega) (Nat.le_succ_of_le HLEX.out) ?_; intro v' w5 hE; obtain ⟨A5, c5, e5, _⟩ := hE.own.shape (by decide); subst e5; have HE := Lib.hid hE; clear hE)
        have HO5 := Lib.hid (HOX.out.trans HE.out.only (fun q hq => .inr (HOWX.out.lt q hq).1))
        have hw : wrap64 ((k : Int) + 1) = ((k + 1 : Nat) : Int) := by have := HC3.out; rw [wrap_le (by omega) (by omega)]; omega
        go_roundw
        case measure => rw [hw]; have := HK.out; simp [intOf]; omega
        case rel =>
          refine ⟨k + 1, by rw [hw], HK.out, ?_, HO5.out⟩
          rw [take_snoc HST.out, List.map_append]
          exact HE.out.own
    · obtain rfl : k = n := by omega
      have d1 : decide ((k : Int) < (k : Int)) = false := decide_eq_false (by omega)
      rw [List.take_of_length_le (by rw [stripL_len, HL.out.1]; exact Nat.le_refl _)] at hown
      have HF := Lib.hid (And.intro hown ho)
      clear hown ho hk hlt
      go_wp2_with fail
      go_ret
      exact ⟨_, rfl, by rw [HL.out.1]; exact HF.out.1.mono HO1.out.size, HO1.out.trans HF.out.2 (by simp)⟩
end Go.Proofs.Ytkdacemachejoaa.Vm
