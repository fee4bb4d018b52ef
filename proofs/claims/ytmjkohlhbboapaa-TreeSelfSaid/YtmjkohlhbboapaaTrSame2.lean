/- Statements, functions and files: the same as themselves. PRINTED by wip/gen_trsame2.py. -/
import Derived.Test.YtmjkohlhbboapaaTrSame
import Derived.BigRegion
namespace Go.Proofs.Ytmjkohlhbboapaa.Tree
open Go.RowKit Go.Shelf
set_option linter.unusedVariables false
set_option maxRecDepth 100000
theorem guard_par : Try.prog.eqGuardType Try.prog.depth 43 = false := by kernel_rfl
theorem neq_par (s : ByteArray) (t : Int) (w : World) : (binOp .neq 43 (.agg #[.string s, .int .u8 t]) (.agg #[.string s, .int .u8 t])).run Try.prog w = .ok (.bool false) w := by
  have u_ty := Try.underlying33
  have a_ty : ∀ w, (isAgg 33).run Try.prog w = .ok false w := fun _ => by kernel_rfl
  have z_ty : ∀ w, (Go.sizeOf 33).run Try.prog w = .ok 1 w := fun _ => by kernel_rfl
  have u_string := Try.underlying9
  have a_string : ∀ w, (isAgg 9).run Try.prog w = .ok false w := fun _ => by kernel_rfl
  have z_string : ∀ w, (Go.sizeOf 9).run Try.prog w = .ok 1 w := fun _ => by kernel_rfl
  have hS : Try.prog.underlying 43 = some (.struct (Try.prog.fieldsOf 43)) := by kernel_rfl
  have hp : Try.prog.stoodInHeld 43 = false := by kernel_rfl
  rw [run_neq_struct, show (10000 : Nat) = 9999 + 1 from rfl, run_equalIn_agg w 9999 _ _ _ hS hp]
  simp only [Program.fieldsOf, Try.underlying43]
  go_simp
section
variable {w w' : World} {B d d2 : Nat}
set_option maxHeartbeats 4000000 in
theorem eqStr_self (A : Option Addr) (n c c2 B : Nat) (xs : List ByteArray) (w : World) (h1 : Recs w B 1 A n (xs.map srow)) (hn : n ≤ maxLen) :
    Calls Try.prog 15 #[.slice A n c, .slice A n c2] w fun e w' => e = .returned (.bool true) ∧ Only [] w w' := by
  have H1 := Lib.hid h1
  clear h1
  unfold maxLen at hn
  go_enter Try.func15, Try.ntmps15
  have hne : ((n : Int) != (n : Int)) = false := by simp
  go_wp2_with fail
  go_loopw [13] (fun iv wr => ∃ k : Nat, iv = .int .i64 k ∧ k ≤ n ∧ Only [] w wr) (fun iv _ => n - (intOf iv).toNat)
  case atStart => exact ⟨0, rfl, by omega, Only.refl _ _⟩
  case round =>
    obtain ⟨k, rfl, hk, ho⟩ := hrel
    have HO := Lib.hid ho
    by_cases hlt : k < n
    · have d1 : decide ((k : Int) < (n : Int)) = true := decide_eq_true (by omega)
      obtain ⟨b, off, x, rfl, _, _, _, hc⟩ := recs_row H1.out hlt
      have p0 : w.cell? ⟨b, off + k, none⟩ = some (.string x) := by have := hc 0 (by decide); rwa [Nat.mul_one, Nat.add_zero] at this
      replace p0 := ho.cell p0 (by simp)
      have e5 : (x.toList == x.toList) = true := by simp
      clear hc
      clear ho
      go_wp2_with fail
      go_region
      go_wp2_with fail
      go_roundw
      case measure => simp [intOf]; omega
      case rel => exact ⟨k + 1, by go_num, by omega, HO.out.drew⟩
    · obtain rfl : k = n := by omega
      have d1 : decide ((k : Int) < (k : Int)) = false := decide_eq_false (by omega)
      clear ho
      go_wp2_with fail
      go_ret
      exact ⟨rfl, HO.out⟩
set_option maxHeartbeats 4000000 in
theorem eqPar_self (A : Option Addr) (n c c2 B : Nat) (xs : List PT) (w : World) (h1 : Recs w B 2 A n (xs.map PT.row)) (hn : n ≤ maxLen) :
    Calls Try.prog 37 #[.slice A n c, .slice A n c2] w fun e w' => e = .returned (.bool true) ∧ Only [] w w' := by
  have H1 := Lib.hid h1
  clear h1
  unfold maxLen at hn
  go_enter Try.func37, Try.ntmps37
  have hne : ((n : Int) != (n : Int)) = false := by simp
  go_wp2_with fail
  go_loopw [13] (fun iv wr => ∃ k : Nat, iv = .int .i64 k ∧ k ≤ n ∧ Only [] w wr) (fun iv _ => n - (intOf iv).toNat)
  case atStart => exact ⟨0, rfl, by omega, Only.refl _ _⟩
  case round =>
    obtain ⟨k, rfl, hk, ho⟩ := hrel
    have HO := Lib.hid ho
    by_cases hlt : k < n
    · have d1 : decide ((k : Int) < (n : Int)) = true := decide_eq_true (by omega)
      obtain ⟨b, off, x, rfl, _, _, _, hc⟩ := recs_row H1.out hlt
      have p0 : w.cell? ⟨b, off + k * 2, none⟩ = some (.string x.name) := hc 0 (by decide)
      have p1 : w.cell? ⟨b, off + k * 2 + 1, none⟩ = some (.int .u8 x.t) := hc 1 (by decide)
      replace p0 := ho.cell p0 (by simp)
      replace p1 := ho.cell p1 (by simp)
      have hq := fun w => neq_par x.name x.t w
      have hg := guard_par
      clear hc
      clear ho
      go_wp2_with fail
      go_region
      go_wp2_with fail
      go_roundw
      case measure => simp [intOf]; omega
      case rel => exact ⟨k + 1, by go_num, by omega, HO.out.drew⟩
    · obtain rfl : k = n := by omega
      have d1 : decide ((k : Int) < (k : Int)) = false := decide_eq_false (by omega)
      clear ho
      go_wp2_with fail
      go_ret
      exact ⟨rfl, HO.out⟩
set_option maxHeartbeats 8000000 in
theorem sameStmt_self : ∀ (d : Nat) (x : ST) (w : World), ST.In w w.heap.size d x → Calls Try.prog 39 #[x.val, x.val] w fun e w' => e = .returned (.bool true) ∧ Only [] w w' := by
  intro d
  induction d with
  | zero => intro x w hx; exact hx.elim
  | succ d ih =>
    intro x w hx
    obtain ⟨w1, hw1⟩ : ∃ w1, w.alloc (.cells #[.int .i64 x.op, .string x.s, .int .i64 x.e.op, .int .i64 x.e.n, .string x.e.s, .string x.e.q, .slice x.e.A x.e.X.length x.e.c, .slice x.bA x.body.length x.bc, .slice x.eA x.els.length x.ec] 31) = w1 := ⟨_, rfl⟩
    have b1 : Blk w1 w.heap.size 31 #[.int .i64 x.op, .string x.s, .int .i64 x.e.op, .int .i64 x.e.n, .string x.e.s, .string x.e.q, .slice x.e.A x.e.X.length x.e.c, .slice x.bA x.body.length x.bc, .slice x.eA x.els.length x.ec] := by rw [← hw1]; exact Blk.new w _ _
    have o1 : Only [] w w1 := by rw [← hw1]; exact (Only.refl [] w).alloc _
    obtain ⟨w2, hw2⟩ : ∃ w2, w1.alloc (.cells #[.int .i64 x.op, .string x.s, .int .i64 x.e.op, .int .i64 x.e.n, .string x.e.s, .string x.e.q, .slice x.e.A x.e.X.length x.e.c, .slice x.bA x.body.length x.bc, .slice x.eA x.els.length x.ec] 31) = w2 := ⟨_, rfl⟩
    have b2 : Blk w2 w1.heap.size 31 #[.int .i64 x.op, .string x.s, .int .i64 x.e.op, .int .i64 x.e.n, .string x.e.s, .string x.e.q, .slice x.e.A x.e.X.length x.e.c, .slice x.bA x.body.length x.bc, .slice x.eA x.els.length x.ec] := by rw [← hw2]; exact Blk.new w1 _ _
    have o2 : Only [] w1 w2 := by rw [← hw2]; exact (Only.refl [] w1).alloc _
    replace b1 := b1.only o2 (by simp)
    have ho := o1.trans o2 (by simp)
    have p0 := b1.cell 0
    have p1 := b1.cell 1
    have p2 := b1.cell 2
    have p3 := b1.cell 3
    have p4 := b1.cell 4
    have p5 := b1.cell 5
    have p6 := b1.cell 6
    have p7 := b1.cell 7
    have p8 := b1.cell 8
    have q0 := b2.cell 0
    have q1 := b2.cell 1
    have q2 := b2.cell 2
    have q3 := b2.cell 3
    have q4 := b2.cell 4
    have q5 := b2.cell 5
    have q6 := b2.cell 6
    have q7 := b2.cell 7
    have q8 := b2.cell 8
    have HEX := Lib.hid (fun (wr : World) (hor : Only [] w2 wr) => sameExpr_any (d + 1) x.e x.e (d + 1) wr (hx.1.only (ho.trans hor (by simp)) (ho.trans hor (by simp)).size) (hx.1.only (ho.trans hor (by simp)) (ho.trans hor (by simp)).size))
    have hex := sameX_refl hx.1
    rw [hex] at HEX
    have HEB := Lib.hid (fun (wr : World) (hor : Only [] w2 wr) => eqS_any x.bA x.bA x.body.length x.body.length x.bc x.bc w.heap.size w.heap.size x.body x.body (fun _ _ => true) wr (hx.2.1.1.only (ho.trans hor (by simp)) (by simp)) (hx.2.1.1.only (ho.trans hor (by simp)) (by simp)) hx.2.1.2
      (fun wq hoq x' hx' y' hy' hk => by
        obtain ⟨k, h1, h2⟩ := hk
        rw [h1] at h2
        injection h2 with h2
        subst h2
        have ho4 := ho.trans (hor.trans hoq (by simp)) (by simp)
        exact ih x' wq ((hx.2.2.2.1 x' hx').only ho4 ho4.size)))
    rw [show sameL (fun _ _ : ST => true) x.body x.body = true from sameL_refl (fun _ _ => rfl)] at HEB
    have HEE := Lib.hid (fun (wr : World) (hor : Only [] w2 wr) => eqS_any x.eA x.eA x.els.length x.els.length x.ec x.ec w.heap.size w.heap.size x.els x.els (fun _ _ => true) wr (hx.2.2.1.1.only (ho.trans hor (by simp)) (by simp)) (hx.2.2.1.1.only (ho.trans hor (by simp)) (by simp)) hx.2.2.1.2
      (fun wq hoq x' hx' y' hy' hk => by
        obtain ⟨k, h1, h2⟩ := hk
        rw [h1] at h2
        injection h2 with h2
        subst h2
        have ho4 := ho.trans (hor.trans hoq (by simp)) (by simp)
        exact ih x' wq ((hx.2.2.2.2 x' hx').only ho4 ho4.size)))
    rw [show sameL (fun _ _ : ST => true) x.els x.els = true from sameL_refl (fun _ _ => rfl)] at HEE
    have HO := Lib.hid ho
    unfold XT.val at HEX
    unfold ST.val
    have e1 : (x.op == x.op) = true := by simp
    have e2 : (x.s.toList == x.s.toList) = true := by simp
    have KEEP : Hid (∀ wr, Only [] w2 wr → wr.cell? ⟨w.heap.size, 0, none⟩ = some (.int .i64 x.op) ∧ wr.cell? ⟨w1.heap.size, 0, none⟩ = some (.int .i64 x.op) ∧ wr.cell? ⟨w.heap.size, 1, none⟩ = some (.string x.s) ∧ wr.cell? ⟨w1.heap.size, 1, none⟩ = some (.string x.s) ∧ wr.cell? ⟨w.heap.size, 2, none⟩ = some (.int .i64 x.e.op) ∧ wr.cell? ⟨w1.heap.size, 2, none⟩ = some (.int .i64 x.e.op) ∧ wr.cell? ⟨w.heap.size, 3, none⟩ = some (.int .i64 x.e.n) ∧ wr.cell? ⟨w1.heap.size, 3, none⟩ = some (.int .i64 x.e.n) ∧ wr.cell? ⟨w.heap.size, 4, none⟩ = some (.string x.e.s) ∧ wr.cell? ⟨w1.heap.size, 4, none⟩ = some (.string x.e.s) ∧ wr.cell? ⟨w.heap.size, 5, none⟩ = some (.string x.e.q) ∧ wr.cell? ⟨w1.heap.size, 5, none⟩ = some (.string x.e.q) ∧ wr.cell? ⟨w.heap.size, 6, none⟩ = some (.slice x.e.A x.e.X.length x.e.c) ∧ wr.cell? ⟨w1.heap.size, 6, none⟩ = some (.slice x.e.A x.e.X.length x.e.c) ∧ wr.cell? ⟨w.heap.size, 7, none⟩ = some (.slice x.bA x.body.length x.bc) ∧ wr.cell? ⟨w1.heap.size, 7, none⟩ = some (.slice x.bA x.body.length x.bc) ∧ wr.cell? ⟨w.heap.size, 8, none⟩ = some (.slice x.eA x.els.length x.ec) ∧ wr.cell? ⟨w1.heap.size, 8, none⟩ = some (.slice x.eA x.els.length x.ec)) := Lib.hid (fun wr hor => ⟨hor.cell p0 (by simp), hor.cell q0 (by simp), hor.cell p1 (by simp), hor.cell q1 (by simp), hor.cell p2 (by simp), hor.cell q2 (by simp), hor.cell p3 (by simp), hor.cell q3 (by simp), hor.cell p4 (by simp), hor.cell q4 (by simp), hor.cell p5 (by simp), hor.cell q5 (by simp), hor.cell p6 (by simp), hor.cell q6 (by simp), hor.cell p7 (by simp), hor.cell q7 (by simp), hor.cell p8 (by simp), hor.cell q8 (by simp)⟩)
    clear hx ih b1 b2 o1 o2 ho hex
    go_enter Try.func39, Try.ntmps39
    go_wp2_with fail
    refine (HEX.out w2 (Only.refl _ _)).mono ?_
    rintro e w3 ⟨rfl, ho3⟩
    have HO3 := Lib.hid ho3
    have HK3 := KEEP.out w3 ho3
    obtain ⟨r0, t0, r1, t1, r2, t2, r3, t3, r4, t4, r5, t5, r6, t6, r7, t7, r8, t8⟩ := HK3
    clear ho3
    go_wp2_with fail
    refine (HEB.out w3 HO3.out).mono ?_
    rintro e w4 ⟨rfl, ho4⟩
    have HO4 := Lib.hid (HO3.out.trans ho4 (by simp))
    have HK4 := KEEP.out w4 HO4.out
    obtain ⟨rr0, tt0, rr1, tt1, rr2, tt2, rr3, tt3, rr4, tt4, rr5, tt5, rr6, tt6, rr7, tt7, rr8, tt8⟩ := HK4
    clear ho4
    go_wp2_with fail
    refine (HEE.out w4 HO4.out).mono ?_
    rintro e w5 ⟨rfl, ho5⟩
    have HO5 := Lib.hid ((HO.out.trans HO4.out (by simp)).trans ho5 (by simp))
    clear ho5
    go_wp2_with fail
    go_ret
    exact ⟨rfl, HO5.out⟩
set_option maxHeartbeats 8000000 in
theorem sameFunc_self (d : Nat) (x : FT) (w : World) (hx : FT.In w w.heap.size d x) : Calls Try.prog 17 #[x.val, x.val] w fun e w' => e = .returned (.bool true) ∧ Only [] w w' := by
  obtain ⟨w1, hw1⟩ : ∃ w1, w.alloc (.cells #[.string x.name, .slice x.pA x.ps.length x.pc, .int .u8 x.r, .slice x.bA x.body.length x.bc] 35) = w1 := ⟨_, rfl⟩
  have b1 : Blk w1 w.heap.size 35 #[.string x.name, .slice x.pA x.ps.length x.pc, .int .u8 x.r, .slice x.bA x.body.length x.bc] := by rw [← hw1]; exact Blk.new w _ _
  have o1 : Only [] w w1 := by rw [← hw1]; exact (Only.refl [] w).alloc _
  obtain ⟨w2, hw2⟩ : ∃ w2, w1.alloc (.cells #[.string x.name, .slice x.pA x.ps.length x.pc, .int .u8 x.r, .slice x.bA x.body.length x.bc] 35) = w2 := ⟨_, rfl⟩
  have b2 : Blk w2 w1.heap.size 35 #[.string x.name, .slice x.pA x.ps.length x.pc, .int .u8 x.r, .slice x.bA x.body.length x.bc] := by rw [← hw2]; exact Blk.new w1 _ _
  have o2 : Only [] w1 w2 := by rw [← hw2]; exact (Only.refl [] w1).alloc _
  replace b1 := b1.only o2 (by simp)
  have ho := o1.trans o2 (by simp)
  have p0 := b1.cell 0
  have p1 := b1.cell 1
  have p2 := b1.cell 2
  have p3 := b1.cell 3
  have q0 := b2.cell 0
  have q1 := b2.cell 1
  have q2 := b2.cell 2
  have q3 := b2.cell 3
  have HEP := Lib.hid (eqPar_self x.pA x.ps.length x.pc x.pc w.heap.size x.ps w2 (hx.1.1.only ho (by simp)) hx.1.2)
  have HEB := Lib.hid (fun (wr : World) (hor : Only [] w2 wr) => eqS_any x.bA x.bA x.body.length x.body.length x.bc x.bc w.heap.size w.heap.size x.body x.body (fun _ _ => true) wr (hx.2.1.1.only (ho.trans hor (by simp)) (by simp)) (hx.2.1.1.only (ho.trans hor (by simp)) (by simp)) hx.2.1.2
    (fun wq hoq x' hx' y' hy' hk => by
      obtain ⟨k, h1, h2⟩ := hk
      rw [h1] at h2
      injection h2 with h2
      subst h2
      have ho4 := ho.trans (hor.trans hoq (by simp)) (by simp)
      exact sameStmt_self d x' wq ((hx.2.2 x' hx').only ho4 ho4.size)))
  rw [show sameL (fun _ _ : ST => true) x.body x.body = true from sameL_refl (fun _ _ => rfl)] at HEB
  have HO := Lib.hid ho
  unfold FT.val
  have e1 : (x.r == x.r) = true := by simp
  have e2 : (x.name.toList == x.name.toList) = true := by simp
  have KEEP : Hid (∀ wr, Only [] w2 wr → wr.cell? ⟨w.heap.size, 0, none⟩ = some (.string x.name) ∧ wr.cell? ⟨w1.heap.size, 0, none⟩ = some (.string x.name) ∧ wr.cell? ⟨w.heap.size, 1, none⟩ = some (.slice x.pA x.ps.length x.pc) ∧ wr.cell? ⟨w1.heap.size, 1, none⟩ = some (.slice x.pA x.ps.length x.pc) ∧ wr.cell? ⟨w.heap.size, 2, none⟩ = some (.int .u8 x.r) ∧ wr.cell? ⟨w1.heap.size, 2, none⟩ = some (.int .u8 x.r) ∧ wr.cell? ⟨w.heap.size, 3, none⟩ = some (.slice x.bA x.body.length x.bc) ∧ wr.cell? ⟨w1.heap.size, 3, none⟩ = some (.slice x.bA x.body.length x.bc)) := Lib.hid (fun wr hor => ⟨hor.cell p0 (by simp), hor.cell q0 (by simp), hor.cell p1 (by simp), hor.cell q1 (by simp), hor.cell p2 (by simp), hor.cell q2 (by simp), hor.cell p3 (by simp), hor.cell q3 (by simp)⟩)
  clear hx b1 b2 o1 o2 ho
  go_enter Try.func17, Try.ntmps17
  go_wp2_with fail
  refine HEP.out.mono ?_
  rintro e w3 ⟨rfl, ho3⟩
  have HO3 := Lib.hid ho3
  have HK3 := KEEP.out w3 ho3
  obtain ⟨r0, t0, r1, t1, r2, t2, r3, t3⟩ := HK3
  clear ho3
  go_wp2_with fail
  refine (HEB.out w3 HO3.out).mono ?_
  rintro e w4 ⟨rfl, ho4⟩
  have HO4 := Lib.hid ((HO.out.trans HO3.out (by simp)).trans ho4 (by simp))
  clear ho4
  go_wp2_with fail
  go_ret
  exact ⟨rfl, HO4.out⟩
set_option maxHeartbeats 8000000 in
/-- a file, and one with functions more -/
theorem same_more (d : Nat) (x y : DT) (w : World) (hx : DT.In w w.heap.size d x) (hy : DT.In w w.heap.size d y) (hn : y.name = x.name) (hi : y.iA = x.iA ∧ y.imps = x.imps) (zs : List FT) (hz : y.fs = x.fs ++ zs) :
    Calls Try.prog 6 #[x.val, y.val] w fun e w' => e = .returned (.bool (decide (zs = []))) ∧ Only [] w w' := by
  obtain ⟨w1, hw1⟩ : ∃ w1, w.alloc (.cells #[.string x.name, .slice x.iA x.imps.length x.ic, .slice x.fA x.fs.length x.fc] 25) = w1 := ⟨_, rfl⟩
  have b1 : Blk w1 w.heap.size 25 #[.string x.name, .slice x.iA x.imps.length x.ic, .slice x.fA x.fs.length x.fc] := by rw [← hw1]; exact Blk.new w _ _
  have o1 : Only [] w w1 := by rw [← hw1]; exact (Only.refl [] w).alloc _
  obtain ⟨w2, hw2⟩ : ∃ w2, w1.alloc (.cells #[.string y.name, .slice y.iA y.imps.length y.ic, .slice y.fA y.fs.length y.fc] 25) = w2 := ⟨_, rfl⟩
  have b2 : Blk w2 w1.heap.size 25 #[.string y.name, .slice y.iA y.imps.length y.ic, .slice y.fA y.fs.length y.fc] := by rw [← hw2]; exact Blk.new w1 _ _
  have o2 : Only [] w1 w2 := by rw [← hw2]; exact (Only.refl [] w1).alloc _
  replace b1 := b1.only o2 (by simp)
  have ho := o1.trans o2 (by simp)
  have p0 := b1.cell 0
  have p1 := b1.cell 1
  have p2 := b1.cell 2
  have q0 := b2.cell 0
  have q1 := b2.cell 1
  have q2 := b2.cell 2
  have HES := Lib.hid (eqStr_self x.iA x.imps.length x.ic y.ic w.heap.size x.imps w2 (hx.1.1.only ho (by simp)) hx.1.2)
  have HEF := Lib.hid (fun (wr : World) (hor : Only [] w2 wr) => eqF_any x.fA y.fA x.fs.length y.fs.length x.fc y.fc w.heap.size w.heap.size x.fs y.fs (fun _ _ => true) wr (hx.2.1.1.only (ho.trans hor (by simp)) (by simp)) (hy.2.1.1.only (ho.trans hor (by simp)) (by simp)) hx.2.1.2
    (fun wq hoq x' hx' y' hy' hk => by
      obtain ⟨k, h1, h2⟩ := hk
      rw [hz, List.getElem?_append_left (List.getElem?_eq_some_iff.1 h1).1, h1] at h2
      injection h2 with h2
      subst h2
      have ho4 := ho.trans (hor.trans hoq (by simp)) (by simp)
      exact sameFunc_self d x' wq ((hx.2.2 x' hx').only ho4 ho4.size)))
  have hres : sameL (fun _ _ : FT => true) x.fs y.fs = decide (zs = []) := by
    cases zs with
    | nil => rw [hz, List.append_nil]; exact sameL_refl (fun _ _ => rfl)
    | cons z zs => rw [hz]; exact sameL_len (by rw [List.length_append, List.length_cons]; omega)
  rw [hres] at HEF
  obtain ⟨r, hr⟩ : ∃ r, decide (zs = []) = r := ⟨_, rfl⟩
  rw [hr] at HEF ⊢
  have HO := Lib.hid ho
  unfold DT.val
  rw [hn, hi.1, hi.2] at *
  have e2 : (x.name.toList == x.name.toList) = true := by simp
  have KEEP : Hid (∀ wr, Only [] w2 wr → wr.cell? ⟨w.heap.size, 2, none⟩ = some (.slice x.fA x.fs.length x.fc) ∧ wr.cell? ⟨w1.heap.size, 2, none⟩ = some (.slice y.fA y.fs.length y.fc)) := Lib.hid (fun wr hor => ⟨hor.cell p2 (by simp), hor.cell q2 (by simp)⟩)
  clear hx hy b1 b2 o1 o2 ho hn hi hz hres hr
  go_enter Try.func6, Try.ntmps6
  go_wp2_with fail
  refine HES.out.mono ?_
  rintro e w3 ⟨rfl, ho3⟩
  have HO3 := Lib.hid ho3
  have HK3 := KEEP.out w3 ho3
  obtain ⟨r2, t2⟩ := HK3
  clear ho3
  go_wp2_with fail
  refine (HEF.out w3 HO3.out).mono ?_
  rintro e w4 ⟨rfl, ho4⟩
  have HO4 := Lib.hid ((HO.out.trans HO3.out (by simp)).trans ho4 (by simp))
  clear ho4
  go_wp2_with fail
  go_ret
  exact ⟨rfl, HO4.out⟩
end
end Go.Proofs.Ytmjkohlhbboapaa.Tree
