/- Are two objects the same? PRINTED by wip/gen_objsame.py -/
import Derived.Test.YtbeenfkmnchhbaaObjRight
namespace Go.Proofs.Ytbeenfkmnchhbaa.Object
open Go.RowKit
set_option linter.unusedVariables false
set_option maxRecDepth 100000
theorem toList_eq {a b : ByteArray} : (a.toList = b.toList) ↔ a = b := by
  rw [Lib.toList_data, Lib.toList_data]
  exact ⟨fun h => ByteArray.ext (Array.ext' h), fun h => by rw [h]⟩
theorem guard_ent : Try.prog.eqGuardType Try.prog.depth 73 = false := by kernel_rfl
theorem guard_call : Try.prog.eqGuardType Try.prog.depth 75 = false := by kernel_rfl
theorem take_eq {α : Type} (l r : List α) (k : Nat) (a b : α) (hl : l[k]? = some a) (hr : r[k]? = some b) (h : l.take k = r.take k) (hab : a = b) : l.take (k + 1) = r.take (k + 1) := by
  obtain ⟨h1, e1⟩ := List.getElem?_eq_some_iff.1 hl
  obtain ⟨h2, e2⟩ := List.getElem?_eq_some_iff.1 hr
  rw [List.take_succ_eq_append_getElem h1, List.take_succ_eq_append_getElem h2, h, e1, e2, hab]
theorem get_ne {α : Type} (l r : List α) (k : Nat) (a b : α) (hl : l[k]? = some a) (hr : r[k]? = some b) (hab : ¬ a = b) : ¬ l = r := by
  rintro rfl
  rw [hl] at hr
  injection hr with hr
  exact hab hr
theorem neq_ent (x y : En) (w : World) : (binOp .neq 73 (.agg #[.string x.name, .int .i64 x.pos]) (.agg #[.string y.name, .int .i64 y.pos])).run Try.prog w = .ok (.bool (!decide (x = y))) w := by
  have u_int := Try.underlying3
  have a_int : ∀ w, (isAgg 3).run Try.prog w = .ok false w := fun _ => by kernel_rfl
  have z_int : ∀ w, (Go.sizeOf 3).run Try.prog w = .ok 1 w := fun _ => by kernel_rfl
  have u_string := Try.underlying9
  have a_string : ∀ w, (isAgg 9).run Try.prog w = .ok false w := fun _ => by kernel_rfl
  have z_string : ∀ w, (Go.sizeOf 9).run Try.prog w = .ok 1 w := fun _ => by kernel_rfl
  have hS : Try.prog.underlying 73 = some (.struct (Try.prog.fieldsOf 73)) := by kernel_rfl
  have hp : Try.prog.stoodInHeld 73 = false := by kernel_rfl
  obtain ⟨a, b⟩ := x
  obtain ⟨a', b'⟩ := y
  simp only
  rw [run_neq_struct, show (10000 : Nat) = 9999 + 1 from rfl, run_equalIn_agg w 9999 _ _ _ hS hp]
  simp only [Program.fieldsOf, Try.underlying73]
  go_simp
  by_cases h1 : a = a' <;> by_cases h2 : b = b' <;> simp [h1, h2, toList_eq]
theorem neq_call (x y : En) (w : World) : (binOp .neq 75 (.agg #[.int .i64 x.pos, .string x.name]) (.agg #[.int .i64 y.pos, .string y.name])).run Try.prog w = .ok (.bool (!decide (x = y))) w := by
  have u_int := Try.underlying3
  have a_int : ∀ w, (isAgg 3).run Try.prog w = .ok false w := fun _ => by kernel_rfl
  have z_int : ∀ w, (Go.sizeOf 3).run Try.prog w = .ok 1 w := fun _ => by kernel_rfl
  have u_string := Try.underlying9
  have a_string : ∀ w, (isAgg 9).run Try.prog w = .ok false w := fun _ => by kernel_rfl
  have z_string : ∀ w, (Go.sizeOf 9).run Try.prog w = .ok 1 w := fun _ => by kernel_rfl
  have hS : Try.prog.underlying 75 = some (.struct (Try.prog.fieldsOf 75)) := by kernel_rfl
  have hp : Try.prog.stoodInHeld 75 = false := by kernel_rfl
  obtain ⟨a, b⟩ := x
  obtain ⟨a', b'⟩ := y
  simp only
  rw [run_neq_struct, show (10000 : Nat) = 9999 + 1 from rfl, run_equalIn_agg w 9999 _ _ _ hS hp]
  simp only [Program.fieldsOf, Try.underlying75]
  go_simp
  by_cases h1 : a = a' <;> by_cases h2 : b = b' <;> simp [h1, h2, toList_eq]
set_option maxHeartbeats 1000000 in
theorem equal_code (A1 A2 : Option Addr) (n m c1 c2 B1 B2 : Nat) (xs ys : List Cd) (w : World) (h1 : Recs w B1 5 A1 n (xs.map Cd.row)) (h2 : Recs w B2 5 A2 m (ys.map Cd.row)) (hn : n ≤ 9000000000000000000) (hm : m ≤ 9000000000000000000) :
    Calls Try.prog 97 #[.slice A1 n c1, .slice A2 m c2] w fun x w' => x = .returned (.bool (decide (xs = ys))) ∧ Only [] w w' := by
  have hl1 : xs.length = n := by have := h1.1; simpa using this
  have hl2 : ys.length = m := by have := h2.1; simpa using this
  obtain ⟨bb, hbb⟩ : ∃ b, decide (xs = ys) = b := ⟨_, rfl⟩
  rw [hbb]
  have HBB := Lib.hid hbb
  have H1 := Lib.hid h1
  have H2 := Lib.hid h2
  have HL1 := Lib.hid hl1
  have HL2 := Lib.hid hl2
  clear hbb h1 h2 hl1 hl2
  by_cases hnm : n = m
  · subst hnm
    have e0 : ((n : Int) != (n : Int)) = false := by simp
    go_enter Try.func97, Try.ntmps97
    go_wp2_with fail
    go_loopw [13] (fun i wr => ∃ k : Nat, k ≤ n ∧ i = .int .i64 k ∧ Only [] w wr ∧ xs.take k = ys.take k) (fun i _ => n - (intOf i).toNat)
    case atStart => exact ⟨0, by omega, rfl, Only.refl _ _, by simp⟩
    case round =>
      obtain ⟨k, hk, rfl, ho, htk⟩ := hrel
      have HO := Lib.hid ho
      have HTK := Lib.hid htk
      clear ho htk
      by_cases hlt : k < n
      · have e1 : decide ((k : Int) < (n : Int)) = true := decide_eq_true (by omega)
        obtain ⟨b1, o1, rfl, _, x, _, hx, x0, x1, x2, x3, x4⟩ := cd_at H1.out k hlt
        obtain ⟨b2, o2, rfl, _, y, _, hy, y0, y1, y2, y3, y4⟩ := cd_at H2.out k hlt
        have px0 := HO.out.cell x0 (by simp)
        have px1 := HO.out.cell x1 (by simp)
        have px2 := HO.out.cell x2 (by simp)
        have px3 := HO.out.cell x3 (by simp)
        have px4 := HO.out.cell x4 (by simp)
        have py0 := HO.out.cell y0 (by simp)
        have py1 := HO.out.cell y1 (by simp)
        have py2 := HO.out.cell y2 (by simp)
        have py3 := HO.out.cell y3 (by simp)
        have py4 := HO.out.cell y4 (by simp)
        have hb1 : (0 : Int) ≤ (k : Int) := by omega
        have HST := Lib.hid (take_eq xs ys k x y hx hy HTK.out)
        have HNE := Lib.hid (get_ne xs ys k x y hx hy)
        have hq := fun w => neq_code x y w
        have hgd := guard_code
        clear hx hy x0 x1 x2 x3 x4 y0 y1 y2 y3 y4
        cases hd : decide (x = y)
        · have HF := Lib.hid (HNE.out (of_decide_eq_false hd))
          rw [hd] at hq
          have hq : ∀ w, (binOp .neq 59 (.agg #[.int .i64 x.op, .int .i64 x.a, .int .i64 x.b, .int .i64 x.c, .int .i64 x.n]) (.agg #[.int .i64 y.op, .int .i64 y.a, .int .i64 y.b, .int .i64 y.c, .int .i64 y.n])).run Try.prog w = .ok (.bool true) w := hq
          clear hd
          go_wp2_with fail
          go_quiet (fail)
          go_wp2_with fail
          go_ret
          exact ⟨by rw [← HBB.out, decide_eq_false HF.out]; rfl, HO.out.drewN _⟩
        · have HF := Lib.hid (HST.out (of_decide_eq_true hd))
          rw [hd] at hq
          have hq : ∀ w, (binOp .neq 59 (.agg #[.int .i64 x.op, .int .i64 x.a, .int .i64 x.b, .int .i64 x.c, .int .i64 x.n]) (.agg #[.int .i64 y.op, .int .i64 y.a, .int .i64 y.b, .int .i64 y.c, .int .i64 y.n])).run Try.prog w = .ok (.bool false) w := hq
          clear hd
          go_wp2_with fail
          go_quiet (fail)
          go_wp2_with fail
          go_roundw
          case rel => exact ⟨k + 1, by omega, by go_num, HO.out.drewN _, HF.out⟩
          case measure => simp [intOf]; omega
      · obtain rfl : k = n := by omega
        have e1 : decide ((k : Int) < (k : Int)) = false := decide_eq_false (by omega)
        rw [take_all _ _ HL1.out, take_all _ _ HL2.out] at HTK
        go_wp2_with fail
        go_ret
        exact ⟨by rw [← HBB.out, decide_eq_true HTK.out]; rfl, HO.out⟩
  · have e0 : ((n : Int) != (m : Int)) = true := by simp; omega
    have HF := Lib.hid (show ¬ xs = ys from fun h => hnm (by rw [← HL1.out, ← HL2.out, h]))
    clear hnm
    go_enter Try.func97, Try.ntmps97
    go_wp2_with fail
    go_ret
    exact ⟨by rw [← HBB.out, decide_eq_false HF.out]; rfl, Only.refl _ _⟩
set_option maxHeartbeats 1000000 in
theorem equal_ent (A1 A2 : Option Addr) (n m c1 c2 B1 B2 : Nat) (xs ys : List En) (w : World) (h1 : Recs w B1 2 A1 n (xs.map En.row)) (h2 : Recs w B2 2 A2 m (ys.map En.row)) (hn : n ≤ 9000000000000000000) (hm : m ≤ 9000000000000000000) :
    Calls Try.prog 98 #[.slice A1 n c1, .slice A2 m c2] w fun x w' => x = .returned (.bool (decide (xs = ys))) ∧ Only [] w w' := by
  have hl1 : xs.length = n := by have := h1.1; simpa using this
  have hl2 : ys.length = m := by have := h2.1; simpa using this
  obtain ⟨bb, hbb⟩ : ∃ b, decide (xs = ys) = b := ⟨_, rfl⟩
  rw [hbb]
  have HBB := Lib.hid hbb
  have H1 := Lib.hid h1
  have H2 := Lib.hid h2
  have HL1 := Lib.hid hl1
  have HL2 := Lib.hid hl2
  clear hbb h1 h2 hl1 hl2
  by_cases hnm : n = m
  · subst hnm
    have e0 : ((n : Int) != (n : Int)) = false := by simp
    go_enter Try.func98, Try.ntmps98
    go_wp2_with fail
    go_loopw [13] (fun i wr => ∃ k : Nat, k ≤ n ∧ i = .int .i64 k ∧ Only [] w wr ∧ xs.take k = ys.take k) (fun i _ => n - (intOf i).toNat)
    case atStart => exact ⟨0, by omega, rfl, Only.refl _ _, by simp⟩
    case round =>
      obtain ⟨k, hk, rfl, ho, htk⟩ := hrel
      have HO := Lib.hid ho
      have HTK := Lib.hid htk
      clear ho htk
      by_cases hlt : k < n
      · have e1 : decide ((k : Int) < (n : Int)) = true := decide_eq_true (by omega)
        obtain ⟨b1, o1, rfl, _, x, _, hx, x0, x1⟩ := en_at H1.out k hlt
        obtain ⟨b2, o2, rfl, _, y, _, hy, y0, y1⟩ := en_at H2.out k hlt
        have px0 := HO.out.cell x0 (by simp)
        have px1 := HO.out.cell x1 (by simp)
        have py0 := HO.out.cell y0 (by simp)
        have py1 := HO.out.cell y1 (by simp)
        have hb1 : (0 : Int) ≤ (k : Int) := by omega
        have HST := Lib.hid (take_eq xs ys k x y hx hy HTK.out)
        have HNE := Lib.hid (get_ne xs ys k x y hx hy)
        have hq := fun w => neq_ent x y w
        have hgd := guard_ent
        clear hx hy x0 x1 y0 y1
        cases hd : decide (x = y)
        · have HF := Lib.hid (HNE.out (of_decide_eq_false hd))
          rw [hd] at hq
          have hq : ∀ w, (binOp .neq 73 (.agg #[.string x.name, .int .i64 x.pos]) (.agg #[.string y.name, .int .i64 y.pos])).run Try.prog w = .ok (.bool true) w := hq
          clear hd
          go_wp2_with fail
          go_quiet (fail)
          go_wp2_with fail
          go_ret
          exact ⟨by rw [← HBB.out, decide_eq_false HF.out]; rfl, HO.out.drewN _⟩
        · have HF := Lib.hid (HST.out (of_decide_eq_true hd))
          rw [hd] at hq
          have hq : ∀ w, (binOp .neq 73 (.agg #[.string x.name, .int .i64 x.pos]) (.agg #[.string y.name, .int .i64 y.pos])).run Try.prog w = .ok (.bool false) w := hq
          clear hd
          go_wp2_with fail
          go_quiet (fail)
          go_wp2_with fail
          go_roundw
          case rel => exact ⟨k + 1, by omega, by go_num, HO.out.drewN _, HF.out⟩
          case measure => simp [intOf]; omega
      · obtain rfl : k = n := by omega
        have e1 : decide ((k : Int) < (k : Int)) = false := decide_eq_false (by omega)
        rw [take_all _ _ HL1.out, take_all _ _ HL2.out] at HTK
        go_wp2_with fail
        go_ret
        exact ⟨by rw [← HBB.out, decide_eq_true HTK.out]; rfl, HO.out⟩
  · have e0 : ((n : Int) != (m : Int)) = true := by simp; omega
    have HF := Lib.hid (show ¬ xs = ys from fun h => hnm (by rw [← HL1.out, ← HL2.out, h]))
    clear hnm
    go_enter Try.func98, Try.ntmps98
    go_wp2_with fail
    go_ret
    exact ⟨by rw [← HBB.out, decide_eq_false HF.out]; rfl, Only.refl _ _⟩
set_option maxHeartbeats 1000000 in
theorem equal_call (A1 A2 : Option Addr) (n m c1 c2 B1 B2 : Nat) (xs ys : List En) (w : World) (h1 : Recs w B1 2 A1 n (xs.map En.rowC)) (h2 : Recs w B2 2 A2 m (ys.map En.rowC)) (hn : n ≤ 9000000000000000000) (hm : m ≤ 9000000000000000000) :
    Calls Try.prog 99 #[.slice A1 n c1, .slice A2 m c2] w fun x w' => x = .returned (.bool (decide (xs = ys))) ∧ Only [] w w' := by
  have hl1 : xs.length = n := by have := h1.1; simpa using this
  have hl2 : ys.length = m := by have := h2.1; simpa using this
  obtain ⟨bb, hbb⟩ : ∃ b, decide (xs = ys) = b := ⟨_, rfl⟩
  rw [hbb]
  have HBB := Lib.hid hbb
  have H1 := Lib.hid h1
  have H2 := Lib.hid h2
  have HL1 := Lib.hid hl1
  have HL2 := Lib.hid hl2
  clear hbb h1 h2 hl1 hl2
  by_cases hnm : n = m
  · subst hnm
    have e0 : ((n : Int) != (n : Int)) = false := by simp
    go_enter Try.func99, Try.ntmps99
    go_wp2_with fail
    go_loopw [13] (fun i wr => ∃ k : Nat, k ≤ n ∧ i = .int .i64 k ∧ Only [] w wr ∧ xs.take k = ys.take k) (fun i _ => n - (intOf i).toNat)
    case atStart => exact ⟨0, by omega, rfl, Only.refl _ _, by simp⟩
    case round =>
      obtain ⟨k, hk, rfl, ho, htk⟩ := hrel
      have HO := Lib.hid ho
      have HTK := Lib.hid htk
      clear ho htk
      by_cases hlt : k < n
      · have e1 : decide ((k : Int) < (n : Int)) = true := decide_eq_true (by omega)
        obtain ⟨b1, o1, rfl, _, x, _, hx, x0, x1⟩ := cl_at H1.out k hlt
        obtain ⟨b2, o2, rfl, _, y, _, hy, y0, y1⟩ := cl_at H2.out k hlt
        have px0 := HO.out.cell x0 (by simp)
        have px1 := HO.out.cell x1 (by simp)
        have py0 := HO.out.cell y0 (by simp)
        have py1 := HO.out.cell y1 (by simp)
        have hb1 : (0 : Int) ≤ (k : Int) := by omega
        have HST := Lib.hid (take_eq xs ys k x y hx hy HTK.out)
        have HNE := Lib.hid (get_ne xs ys k x y hx hy)
        have hq := fun w => neq_call x y w
        have hgd := guard_call
        clear hx hy x0 x1 y0 y1
        cases hd : decide (x = y)
        · have HF := Lib.hid (HNE.out (of_decide_eq_false hd))
          rw [hd] at hq
          have hq : ∀ w, (binOp .neq 75 (.agg #[.int .i64 x.pos, .string x.name]) (.agg #[.int .i64 y.pos, .string y.name])).run Try.prog w = .ok (.bool true) w := hq
          clear hd
          go_wp2_with fail
          go_quiet (fail)
          go_wp2_with fail
          go_ret
          exact ⟨by rw [← HBB.out, decide_eq_false HF.out]; rfl, HO.out.drewN _⟩
        · have HF := Lib.hid (HST.out (of_decide_eq_true hd))
          rw [hd] at hq
          have hq : ∀ w, (binOp .neq 75 (.agg #[.int .i64 x.pos, .string x.name]) (.agg #[.int .i64 y.pos, .string y.name])).run Try.prog w = .ok (.bool false) w := hq
          clear hd
          go_wp2_with fail
          go_quiet (fail)
          go_wp2_with fail
          go_roundw
          case rel => exact ⟨k + 1, by omega, by go_num, HO.out.drewN _, HF.out⟩
          case measure => simp [intOf]; omega
      · obtain rfl : k = n := by omega
        have e1 : decide ((k : Int) < (k : Int)) = false := decide_eq_false (by omega)
        rw [take_all _ _ HL1.out, take_all _ _ HL2.out] at HTK
        go_wp2_with fail
        go_ret
        exact ⟨by rw [← HBB.out, decide_eq_true HTK.out]; rfl, HO.out⟩
  · have e0 : ((n : Int) != (m : Int)) = true := by simp; omega
    have HF := Lib.hid (show ¬ xs = ys from fun h => hnm (by rw [← HL1.out, ← HL2.out, h]))
    clear hnm
    go_enter Try.func99, Try.ntmps99
    go_wp2_with fail
    go_ret
    exact ⟨by rw [← HBB.out, decide_eq_false HF.out]; rfl, Only.refl _ _⟩
end Go.Proofs.Ytbeenfkmnchhbaa.Object
