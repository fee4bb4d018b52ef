/- The looks of object.Right: odd entries, dirty instructions. -/
import Derived.Test.YtbeenfkmnchhbaaObjClean
import Derived.Deep.RegionHeld3
import Derived.Laws.StructEq
namespace Go.Proofs.Ytbeenfkmnchhbaa.Object
open Go.RowKit
set_option linter.unusedVariables false
set_option maxRecDepth 100000
def namedB (s : ByteArray) : Bool := !(s.toList == []) && decide ((s.size : Int) ≤ 255)
theorem named_is (s : ByteArray) (w : World) : Calls Try.prog 90 #[.string s] w fun x w' => x = .returned (.bool (namedB s)) ∧ w = w' := by
  unfold namedB
  cases h : s.toList == []
  all_goals
    go_enter Try.func90, Try.ntmps90
    go_wp2_with fail
    go_ret
    exact ⟨rfl, rfl⟩
theorem name_is (s : ByteArray) (w : World) : Calls Try.prog 96 #[.string s] w fun x w' => x = .returned (.bool (namedB s)) ∧ w = w' := by
  unfold namedB
  have hz : (s.toList == []) = decide (¬ (1 ≤ (s.size : Int))) := by
    rw [Lib.toList_data, Bool.eq_iff_iff]
    simp only [beq_iff_eq, decide_eq_true_eq]
    rw [← List.length_eq_zero_iff, data_len]
    omega
  rw [hz]
  clear hz
  by_cases h : 1 ≤ (s.size : Int)
  · have d : decide (1 ≤ (s.size : Int)) = true := decide_eq_true h
    have d2 : decide (¬ 1 ≤ (s.size : Int)) = false := decide_eq_false (fun h' => h' h)
    rw [d2]
    clear d2
    go_enter Try.func96, Try.ntmps96
    go_wp2_with fail
    go_ret
    exact ⟨rfl, rfl⟩
  · have d : decide (1 ≤ (s.size : Int)) = false := decide_eq_false h
    have d2 : decide (¬ 1 ≤ (s.size : Int)) = true := decide_eq_true h
    rw [d2]
    clear d2
    go_enter Try.func96, Try.ntmps96
    go_wp2_with fail
    go_ret
    exact ⟨rfl, rfl⟩
def entOk (n : Int) (e : En) : Bool := namedB e.name && decide (0 ≤ e.pos) && decide (e.pos < n)
theorem odd_is (e : En) (n : Int) (g : Nat) (w : World) (hg : w.cell? ⟨g, 0, none⟩ = some (.int .i64 n)) (hlt : g < w.heap.size) :
    Calls Try.prog 89 #[.agg #[.string e.name, .int .i64 e.pos], .pointer (some ⟨g, 0, none⟩)] w fun x w' => x = .returned (.bool (!entOk n e)) ∧ Only [] w w' := by
  obtain ⟨s, z⟩ := e
  unfold entOk
  simp only
  have HN := Lib.hid (named_is s)
  have hn1 := ((Only.refl [] w).alloc (.cells #[.string s, .int .i64 z] 73)).cell hg (by simp)
  have HO := Lib.hid ((Only.refl [] w).alloc (.cells #[.string s, .int .i64 z] 73))
  clear hg
  generalize namedB s = nb at *
  cases nb
  all_goals
    go_enter Try.func89, Try.ntmps89
    go_wp2_with (go_at_call 90; refine (HN.out _).mono ?_; rintro x w2 ⟨rfl, rfl⟩)
  all_goals
    go_ret
    refine ⟨congrArg (fun b => Ending.returned (Value.bool b)) ?_, HO.out⟩
    first | rfl | (simp_all; done) | (rw [Bool.eq_iff_iff]; simp; omega) | (rw [Bool.eq_iff_iff]; simp_all; omega)
theorem guard_code : Try.prog.eqGuardType Try.prog.depth 59 = false := by kernel_rfl
theorem neq_code (x y : Cd) (w : World) : (binOp .neq 59 (.agg #[.int .i64 x.op, .int .i64 x.a, .int .i64 x.b, .int .i64 x.c, .int .i64 x.n]) (.agg #[.int .i64 y.op, .int .i64 y.a, .int .i64 y.b, .int .i64 y.c, .int .i64 y.n])).run Try.prog w = .ok (.bool (!decide (x = y))) w := by
  have u3 := Try.underlying3
  have u2 := Try.underlying2
  have a3 : ∀ w, (isAgg 3).run Try.prog w = .ok false w := fun _ => by kernel_rfl
  have a2 : ∀ w, (isAgg 2).run Try.prog w = .ok false w := fun _ => by kernel_rfl
  have z3 : ∀ w, (Go.sizeOf 3).run Try.prog w = .ok 1 w := fun _ => by kernel_rfl
  have z2 : ∀ w, (Go.sizeOf 2).run Try.prog w = .ok 1 w := fun _ => by kernel_rfl
  have hS : Try.prog.underlying 59 = some (.struct (Try.prog.fieldsOf 59)) := by kernel_rfl
  have hp : Try.prog.stoodInHeld 59 = false := by kernel_rfl
  obtain ⟨a, b, c, d, e⟩ := x
  obtain ⟨a', b', c', d', e'⟩ := y
  simp only
  rw [run_neq_struct, show (10000 : Nat) = 9999 + 1 from rfl, run_equalIn_agg w 9999 _ _ _ hS hp]
  simp only [Program.fieldsOf, Try.underlying59]
  go_simp
  by_cases h1 : a = a' <;> by_cases h2 : b = b' <;> by_cases h3 : c = c' <;> by_cases h4 : d = d' <;> by_cases h5 : e = e' <;> simp [h1, h2, h3, h4, h5]
def cleanB (c : Cd) : Bool := decide (clean c = c)
set_option maxHeartbeats 1000000 in
theorem dirty_is (c : Cd) (w : World) :
    Calls Try.prog 91 #[c.val] w fun x w' => x = .returned (.bool (!cleanB c)) ∧ Only [] w w' := by
  have hb := Blk.new w 59 #[.int .i64 c.op, .int .i64 c.a, .int .i64 c.b, .int .i64 c.c, .int .i64 c.n]
  have HO := Lib.hid ((Only.refl [] w).alloc (.cells #[.int .i64 c.op, .int .i64 c.a, .int .i64 c.b, .int .i64 c.c, .int .i64 c.n] 59))
  have HB := Lib.hid hb
  have HC := Lib.hid (clean_is c)
  have hq : ∀ w, (binOp .neq 59 (.agg #[.int .i64 (clean c).op, .int .i64 (clean c).a, .int .i64 (clean c).b, .int .i64 (clean c).c, .int .i64 (clean c).n]) (.agg #[.int .i64 c.op, .int .i64 c.a, .int .i64 c.b, .int .i64 c.c, .int .i64 c.n])).run Try.prog w = .ok (.bool (!cleanB c)) w := fun w => neq_code (clean c) c w
  have hgd := guard_code
  unfold Cd.val
  unfold Cd.val at HC
  clear hb
  obtain ⟨c', hc'⟩ : ∃ c', clean c = c' := ⟨_, rfl⟩
  rw [hc'] at HC hq
  clear hc'
  generalize cleanB c = cb at *
  go_enter Try.func91, Try.ntmps91
  go_wp2_with fail
  go_region_held3 (fun w' => w'.cell? ⟨w.heap.size, 0, none⟩ = some (.int .i64 c.op) ∧ w'.cell? ⟨w.heap.size, 1, none⟩ = some (.int .i64 c.a) ∧ w'.cell? ⟨w.heap.size, 2, none⟩ = some (.int .i64 c.b) ∧ w'.cell? ⟨w.heap.size, 3, none⟩ = some (.int .i64 c.c) ∧ w'.cell? ⟨w.heap.size, 4, none⟩ = some (.int .i64 c.n)) (first | go_keep | (refine ⟨?_, ?_, ?_, ?_, ?_⟩ <;> assumption)) ((first
    | (go_at_call 45; refine (HC.out _).mono ?_; rintro x w2 ⟨rfl, ho2⟩; have hb2 := (Blk.drew HB.out).only ho2 (by simp); have i0 : w2.cell? ⟨w.heap.size, 0, none⟩ = some (.int .i64 c.op) := hb2.cell 0; have i1 : w2.cell? ⟨w.heap.size, 1, none⟩ = some (.int .i64 c.a) := hb2.cell 1; have i2 : w2.cell? ⟨w.heap.size, 2, none⟩ = some (.int .i64 c.b) := hb2.cell 2; have i3 : w2.cell? ⟨w.heap.size, 3, none⟩ = some (.int .i64 c.c) := hb2.cell 3; have i4 : w2.cell? ⟨w.heap.size, 4, none⟩ = some (.int .i64 c.n) := hb2.cell 4; have HO2 := Lib.hid (HO.out.drew.trans ho2 (by simp)); clear hb2 ho2)))
  go_wp2
  go_ret
  exact ⟨rfl, HO2.out⟩
end Go.Proofs.Ytbeenfkmnchhbaa.Object
