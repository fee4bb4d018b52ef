/- Count: what is counted; the closures; inExpr. -/
import Derived.Test.YtmjkohlhbboapaaTrSame
namespace Go.Proofs.Ytmjkohlhbboapaa.Tree
open Go.RowKit Go.Shelf
set_option linter.unusedVariables false
set_option maxRecDepth 100000
/-- the zero expression? -/
def noneX (x : XT) : Bool := (x.op == 0) && ((x.n == 0) && ((x.s.toList == (⟨#[]⟩ : ByteArray).toList) && ((x.q.toList == (⟨#[]⟩ : ByteArray).toList) && x.X.isEmpty)))
theorem sameL_nil {α : Type} {f : α → α → Bool} (xs : List α) : sameL f xs [] = xs.isEmpty := by cases xs <;> rfl
theorem same_zero (d : Nat) (x : XT) : sameX (d + 1) x zeroX = noneX x := by
  show ((x.op == 0) && ((x.n == 0) && ((x.s.toList == (⟨#[]⟩ : ByteArray).toList) && ((x.q.toList == (⟨#[]⟩ : ByteArray).toList) && sameL (sameX d) x.X [])))) = _
  rw [sameL_nil]
  rfl
def hasS (s : ST) : Bool := (s.op != 8) && ((s.op != 9) && !((s.op == 5) && noneX s.e))
def cntS : Nat → ST → Nat
  | 0, _ => 0
  | d + 1, s => 1 + (if hasS s = true then cntX (d + 1) s.e else 0) + (s.body.map (cntS d)).sum + (s.els.map (cntS d)).sum
def cntF (d : Nat) (f : FT) : Nat := 1 + (f.body.map (cntS d)).sum
def cntD (d : Nat) (x : DT) : Nat := (x.fs.map (cntF d)).sum
theorem sum_take {α : Type} {f : α → Nat} {l : List α} {k : Nat} {x : α} (h : l[k]? = some x) : ((l.take (k + 1)).map f).sum = ((l.take k).map f).sum + f x := by
  obtain ⟨h1, h2⟩ := List.getElem?_eq_some_iff.1 h
  rw [List.take_succ_eq_append_getElem h1, h2, List.map_append, List.sum_append]
  simp
theorem sum_le {α : Type} {f : α → Nat} {l : List α} {k : Nat} {x : α} (h : l[k]? = some x) : ((l.take k).map f).sum + f x ≤ (l.map f).sum := by
  rw [← sum_take h]
  conv => rhs; rw [← List.take_append_drop (k + 1) l]
  rw [List.map_append, List.sum_append]
  omega
section
variable {w w' : World} {B d d2 nb mb fb n most : Nat}
theorem XT.In.below {x : XT} (h : XT.In w B d x) (ho : Below B w w') : XT.In w' B d x := by
  induction d generalizing x with
  | zero => exact h.elim
  | succ d ih => exact ⟨h.1.below ho, h.2.1, fun y hy => ih (h.2.2 y hy)⟩
theorem XT.In.more {B' : Nat} {x : XT} (h : XT.In w B d x) (hB : B ≤ B') : XT.In w B' d x := h.only (Only.refl [] w) hB
theorem ST.In.below {x : ST} (h : ST.In w B d x) (ho : Below B w w') : ST.In w' B d x := by
  induction d generalizing x with
  | zero => exact h.elim
  | succ d ih => exact ⟨h.1.below ho, ⟨h.2.1.1.below ho, h.2.1.2⟩, ⟨h.2.2.1.1.below ho, h.2.2.1.2⟩, fun y hy => ih (h.2.2.2.1 y hy), fun y hy => ih (h.2.2.2.2 y hy)⟩
theorem ST.In.more {B' : Nat} {x : ST} (h : ST.In w B d x) (hB : B ≤ B') : ST.In w B' d x := h.only (Only.refl [] w) hB
/-- the counter in memory -/
structure CT (w : World) (nb mb fb n most : Nat) : Prop where
  a : Blk w nb 3 #[.int .i64 (n : Int)]
  b : Blk w mb 3 #[.int .i64 (most : Int)]
  f : Blk w fb 37 #[.func (.func 19) #[] #[.pointer (some ⟨nb, 0, none⟩), .pointer (some ⟨mb, 0, none⟩)]]
  ne : nb ≠ mb ∧ nb ≠ fb
theorem CT.only (h : CT w nb mb fb n most) (ho : Only [] w w') : CT w' nb mb fb n most := ⟨h.a.only ho (by simp), h.b.only ho (by simp), h.f.only ho (by simp), h.ne⟩
/-- what a step of the counter leaves -/
def CO (w : World) (nb mb fb n most c : Nat) (y : Ending) (w' : World) : Prop := y = .returned (.bool (decide (n + c ≤ most))) ∧ CT w' nb mb fb (min (n + c) (most + 1)) most ∧ Only [nb] w w'
theorem more_any (h : CT w nb mb fb n most) (hn : n ≤ most) (hm : most ≤ 1000000) : Calls Try.prog 19 #[.pointer (some ⟨nb, 0, none⟩), .pointer (some ⟨mb, 0, none⟩)] w fun y w' => CO w nb mb fb n most 1 y w' := by
  have ha := h.a
  have q0 := ha.cell 0
  have f0 := ha.frozen 0
  obtain ⟨w1, hw1⟩ : ∃ w1, w.setCell ⟨nb, 0, none⟩ (.int .i64 ((n : Int) + 1)) = w1 := ⟨_, rfl⟩
  have a1 : Blk w1 nb 3 #[.int .i64 ((n : Int) + 1)] := by rw [← hw1]; exact ha.set_ 0 _
  have b1 : Blk w1 mb 3 #[.int .i64 (most : Int)] := by rw [← hw1]; exact h.b.far (p := ⟨nb, 0, none⟩) (fun e => h.ne.1 e.symm) _
  have c1 : Blk w1 fb 37 #[.func (.func 19) #[] #[.pointer (some ⟨nb, 0, none⟩), .pointer (some ⟨mb, 0, none⟩)]] := by rw [← hw1]; exact h.f.far (p := ⟨nb, 0, none⟩) (fun e => h.ne.2 e.symm) _
  have o1 : Only [nb] w w1 := by rw [← hw1]; exact (Only.refl [nb] w).setCell (p := ⟨nb, 0, none⟩) (.inl (by simp)) _
  have q1 := a1.cell 0
  have q2 := b1.cell 0
  have HF : Hid (CT w1 nb mb fb (min (n + 1) (most + 1)) most ∧ Only [nb] w w1) := Lib.hid ⟨⟨by rw [show min (n + 1) (most + 1) = n + 1 by omega]; exact a1, b1, c1, h.ne⟩, o1⟩
  have hwr : wrap64 ((n : Int) + 1) = (n : Int) + 1 := by
    unfold wrap64
    omega
  clear h ha a1 b1 c1 o1
  go_enter Try.func19, Try.ntmps19
  go_wp2_with fail
  go_ret
  exact ⟨ret_bool (decide_eq_decide.2 ⟨fun h => by omega, fun h => by omega⟩), HF.out⟩
set_option maxHeartbeats 4000000 in
theorem stmtF_any (h : CT w nb mb fb n most) (hn : n ≤ most) (hm : most ≤ 1000000) (s : ST) : Calls Try.prog 21 #[s.val, .pointer (some ⟨fb, 0, none⟩)] w fun y w' => CO w nb mb fb n most 1 y w' := by
  obtain ⟨w1, hw1⟩ : ∃ w1, w.alloc (.cells #[.int .i64 s.op, .string s.s, .int .i64 s.e.op, .int .i64 s.e.n, .string s.e.s, .string s.e.q, .slice s.e.A s.e.X.length s.e.c, .slice s.bA s.body.length s.bc, .slice s.eA s.els.length s.ec] 31) = w1 := ⟨_, rfl⟩
  have o1 : Only [] w w1 := by rw [← hw1]; exact (Only.refl [] w).alloc _
  have h1 := h.only o1
  have q0 := h1.f.cell 0
  have HC := Lib.hid (more_any h1 hn hm)
  have HO := Lib.hid o1
  unfold ST.val
  clear h h1 o1
  go_enter Try.func21, Try.ntmps21
  go_wp2_with fail
  refine HC.out.mono ?_
  rintro y w2 ⟨rfl, h2, ho2⟩
  have HF := Lib.hid (And.intro h2 ((HO.out.mono (S' := [nb]) (by simp)).trans ho2 (by simp)))
  clear h2 ho2
  go_wp2_with fail
  go_ret
  exact ⟨rfl, HF.out⟩
set_option maxHeartbeats 4000000 in
theorem exprF_any (h : CT w nb mb fb n most) (hn : n ≤ most) (hm : most ≤ 1000000) (x : XT) : Calls Try.prog 22 #[x.val, .pointer (some ⟨fb, 0, none⟩)] w fun y w' => CO w nb mb fb n most 1 y w' := by
  obtain ⟨w1, hw1⟩ : ∃ w1, w.alloc (.cells #[.int .i64 x.op, .int .i64 x.n, .string x.s, .string x.q, .slice x.A x.X.length x.c] 28) = w1 := ⟨_, rfl⟩
  have o1 : Only [] w w1 := by rw [← hw1]; exact (Only.refl [] w).alloc _
  have h1 := h.only o1
  have q0 := h1.f.cell 0
  have HC := Lib.hid (more_any h1 hn hm)
  have HO := Lib.hid o1
  unfold XT.val
  clear h h1 o1
  go_enter Try.func22, Try.ntmps22
  go_wp2_with fail
  refine HC.out.mono ?_
  rintro y w2 ⟨rfl, h2, ho2⟩
  have HF := Lib.hid (And.intro h2 ((HO.out.mono (S' := [nb]) (by simp)).trans ho2 (by simp)))
  clear h2 ho2
  go_wp2_with fail
  go_ret
  exact ⟨rfl, HF.out⟩
theorem CO.after {w0 : World} {c : Nat} {y : Ending} (ho : Only [nb] w0 w) (h : CO w nb mb fb n most c y w') : CO w0 nb mb fb n most c y w' := ⟨h.1, h.2.1, ho.trans h.2.2 (by simp)⟩
theorem CO.no {w0 : World} {c c' : Nat} (h : CT w' nb mb fb (most + 1) most) (ho : Only [nb] w0 w') (hc : most < n + c) : CO w0 nb mb fb n most c (.returned (.bool false)) w' := ⟨by rw [decide_eq_false (by omega)], by rw [show min (n + c) (most + 1) = most + 1 by omega]; exact h, ho⟩
theorem CO.yes {w0 : World} {c n' : Nat} (h : CT w' nb mb fb n' most) (ho : Only [nb] w0 w') (hn : n' = n + c) (hc : n + c ≤ most) : CO w0 nb mb fb n most c (.returned (.bool true)) w' := ⟨by rw [decide_eq_true hc], by rw [show min (n + c) (most + 1) = n' by omega]; exact h, ho⟩
set_option maxHeartbeats 8000000 in
theorem inExpr_any : ∀ (d : Nat) (x : XT) (n B : Nat) (w : World), XT.In w B d x → B ≤ nb → CT w nb mb fb n most → n ≤ most → most ≤ 1000000 →
    Calls Try.prog 41 #[x.val, .func (.func 22) #[] #[.pointer (some ⟨fb, 0, none⟩)]] w fun y w' => CO w nb mb fb n most (cntX d x) y w' := by
  intro d
  induction d with
  | zero => intro x n B w hx; exact hx.elim
  | succ d ih =>
    intro x n B w hx hB hct hn hm
    have hnb := hct.a.lt
    have hxl := hx.2.1
    have HY := fun (wx : World) (ho : Only [] w wx) => exprF_any (hct.only ho) hn hm x
    obtain ⟨xo, xn, xs, xq, xA, xc, xX⟩ := x
    obtain ⟨hx1, _, hx2⟩ := hx
    simp only [XT.A, XT.X, XT.val, XT.op, XT.n, XT.s, XT.q, XT.c] at hxl hx1 hx2 HY ⊢
    unfold maxLen at hxl
    obtain ⟨w1, hw1⟩ : ∃ w1, w.alloc (.cells #[.int .i64 xo, .int .i64 xn, .string xs, .string xq, .slice xA xX.length xc] 28) = w1 := ⟨_, rfl⟩
    have b1 : Blk w1 w.heap.size 28 #[.int .i64 xo, .int .i64 xn, .string xs, .string xq, .slice xA xX.length xc] := by rw [← hw1]; exact Blk.new w _ _
    have o1 : Only [] w w1 := by rw [← hw1]; exact (Only.refl [] w).alloc _
    have p0 := b1.cell 0
    have p1 := b1.cell 1
    have p2 := b1.cell 2
    have p3 := b1.cell 3
    have p4 := b1.cell 4
    replace HY := Lib.hid (HY w1 o1)
    have HX := Lib.hid (And.intro hx1 hx2)
    have HB1 := Lib.hid b1
    have HO1 := Lib.hid (o1.mono (S' := [nb]) (by simp))
    have HIH := Lib.hid ih
    have HCX : Hid (cntX (d + 1) (.mk xo xn xs xq xA xc xX) = 1 + (xX.map (cntX d)).sum) := Lib.hid rfl
    obtain ⟨C, hC⟩ : ∃ C, cntX (d + 1) (.mk xo xn xs xq xA xc xX) = C := ⟨_, rfl⟩
    rw [hC] at HCX ⊢
    clear hx1 hx2 b1 o1 ih hC hct
    go_enter Try.func41, Try.ntmps41
    go_wp2_with fail
    refine HY.out.mono ?_
    rintro y w2 ⟨rfl, hct2, ho2⟩
    have b2 := HB1.out.only ho2 (by simp; omega)
    have r4 := b2.cell 4
    have HO2 := Lib.hid (HO1.out.trans ho2 (by simp))
    obtain ⟨r, hr⟩ : ∃ r, decide (n + 1 ≤ most) = r := ⟨_, rfl⟩
    rw [hr]
    have HR := Lib.hid hr
    have HC2 := Lib.hid hct2
    clear hct2 ho2 hr b2
    cases r
    · have hno := of_decide_eq_false HR.out
      have hc := HC2.out
      rw [show min (n + 1) (most + 1) = most + 1 by omega] at hc
      have HF := Lib.hid (CO.no (n := n) (c := C) (c' := 0) hc HO2.out (by rw [HCX.out]; omega))
      clear hno hc
      go_wp2_with fail
      go_ret
      exact HF.out
    · have hyes := of_decide_eq_true HR.out
      have hc := HC2.out
      rw [show min (n + 1) (most + 1) = n + 1 by omega] at hc
      have HC3 := Lib.hid hc
      clear hc
      go_wp2_with fail
      go_loopw [14] (fun iv wr => ∃ k : Nat, iv = .int .i64 k ∧ k ≤ xX.length ∧ n + 1 + ((xX.take k).map (cntX d)).sum ≤ most ∧ CT wr nb mb fb (n + 1 + ((xX.take k).map (cntX d)).sum) most ∧ Only [nb] w wr) (fun iv _ => xX.length - (intOf iv).toNat)
      case atStart => exact ⟨0, rfl, by omega, by simpa using hyes, by simpa using HC3.out, HO2.out⟩
      case round =>
        obtain ⟨k, rfl, hk, hle, hct, ho⟩ := hrel
        by_cases hlt : k < xX.length
        · have d1 : decide ((k : Int) < (xX.length : Int)) = true := decide_eq_true (by omega)
          have hbel : Below B w wr := ho.to_below (by omega) (by simp; omega)
          obtain ⟨b, off, y, rfl, _, hy, hyk, q0, q1, q2, q3, q4⟩ := x_at (HX.out.1.below hbel) hlt
          obtain ⟨w3, hw3⟩ : ∃ w3, wr.alloc (.cells #[.int .i64 y.op, .int .i64 y.n, .string y.s, .string y.q, .slice y.A y.X.length y.c] 28) = w3 := ⟨_, rfl⟩
          have b3 : Blk w3 wr.heap.size 28 #[.int .i64 y.op, .int .i64 y.n, .string y.s, .string y.q, .slice y.A y.X.length y.c] := by rw [← hw3]; exact Blk.new wr _ _
          have o3 : Only [] wr w3 := by rw [← hw3]; exact (Only.refl [] wr).alloc _
          have s0 := b3.cell 0
          have s1 := b3.cell 1
          have s2 := b3.cell 2
          have s3 := b3.cell 3
          have s4 := b3.cell 4
          have HNX := Lib.hid (sum_take (f := cntX d) hyk)
          have HLE := Lib.hid (sum_le (f := cntX d) hyk)
          obtain ⟨m, hm2⟩ : ∃ m, n + 1 + ((xX.take k).map (cntX d)).sum = m := ⟨_, rfl⟩
          rw [hm2] at hle hct
          have HI := HIH.out y m B w3 (((HX.out.2 y hy).below hbel).only o3 (Nat.le_refl _)) hB (hct.only o3) hle hm
          obtain ⟨r2, hr2⟩ : ∃ r, decide (m + cntX d y ≤ most) = r := ⟨_, rfl⟩
          unfold CO at HI
          rw [hr2] at HI
          unfold XT.val at HI
          have HI2 := Lib.hid HI
          have HR2 := Lib.hid hr2
          have HM := Lib.hid hm2
          have HO3 := Lib.hid (ho.trans (o3.mono (S' := [nb]) (by simp)) (by simp))
          clear HI hr2 hm2 b3 o3 hct ho hbel hy hyk
          cases r2
          · go_wp2_with (go_at_call 41; refine HI2.out.mono ?_; rintro y5 w5 ⟨rfl, hc5, ho5⟩; have HC5 := Lib.hid (And.intro hc5 (HO3.out.trans ho5 (by simp))); clear hc5 ho5)
            have hno := of_decide_eq_false HR2.out
            have hc := HC5.out.1
            rw [show min (m + cntX d y) (most + 1) = most + 1 by omega] at hc
            have h1 := HM.out
            have h2 := HLE.out
            go_ret
            exact CO.no (n := n) (c := C) (c' := 0) hc HC5.out.2 (by rw [HCX.out]; omega)
          · go_wp2_with (go_at_call 41; refine HI2.out.mono ?_; rintro y5 w5 ⟨rfl, hc5, ho5⟩; have HC5 := Lib.hid (And.intro hc5 (HO3.out.trans ho5 (by simp))); clear hc5 ho5)
            go_roundw
            case measure => simp [intOf]; omega
            case rel =>
              have hyes2 := of_decide_eq_true HR2.out
              have hc := HC5.out.1
              have h1 := HM.out
              rw [show min (m + cntX d y) (most + 1) = m + cntX d y by omega] at hc
              refine ⟨k + 1, by go_num, by omega, by rw [HNX.out]; omega, ?_, HC5.out.2⟩
              rw [HNX.out, ← Nat.add_assoc, h1]
              exact hc
        · obtain rfl : k = xX.length := by omega
          have d1 : decide ((xX.length : Int) < (xX.length : Int)) = false := decide_eq_false (by omega)
          rw [List.take_length] at hle hct
          have HF := Lib.hid (CO.yes (n := n) (c := C) hct ho (by rw [HCX.out]; omega) (by rw [HCX.out]; omega))
          clear hct ho
          go_wp2_with fail
          go_ret
          exact HF.out
end
end Go.Proofs.Ytmjkohlhbboapaa.Tree
