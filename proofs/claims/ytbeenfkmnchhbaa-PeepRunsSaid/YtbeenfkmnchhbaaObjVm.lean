/- What code may be: the parts of vm.Right. -/
import Derived.Test.YtbeenfkmnchhbaaBytes
import Derived.Test.YtbeenfkmnchhbaaRow
import Derived.Lib.AppendStr
namespace Go.Proofs.Ytbeenfkmnchhbaa.Object
open Go.RowKit
set_option linter.unusedVariables false
set_option maxRecDepth 100000
/-- an instruction -/
structure Cd where
  op : Int
  a : Int
  b : Int
  c : Int
  n : Int
deriving DecidableEq
def Cd.val (x : Cd) : Value := .agg #[.int .i64 x.op, .int .i64 x.a, .int .i64 x.b, .int .i64 x.c, .int .i64 x.n]
def Cd.cells (x : Cd) : Array Value := #[.int .i64 x.op, .int .i64 x.a, .int .i64 x.b, .int .i64 x.c, .int .i64 x.n]
def Cd.row (x : Cd) : List Value := [.int .i64 x.op, .int .i64 x.a, .int .i64 x.b, .int .i64 x.c, .int .i64 x.n]
def wordOk (op : Int) : Bool := decide (1 ≤ op) && decide (op ≤ 23)
def partsOf (op : Int) : List UInt8 :=
  if op = 1 then [65, 110] else if op = 2 ∨ op = 3 ∨ op = 4 then [65, 66] else if op = 14 then [65, 115] else if op = 15 then [115, 65] else if op = 16 then [116] else if op = 17 then [65, 116] else
  if op = 18 then [97, 116] else if op = 19 then [97] else if op = 20 then [65] else if op = 21 then [] else if op = 22 then [112, 65] else if op = 23 then [65, 112] else [65, 66, 67]
def regOk (z : Int) : Bool := decide (0 ≤ z) && decide (z < 8)
def belowOk (z m : Int) : Bool := decide (0 ≤ z) && decide (z < m)
def partOk (c : Cd) (m : Int) (p : Int) : Bool :=
  if p = 65 then regOk c.a else if p = 66 then regOk c.b else if p = 67 then regOk c.c else if p = 97 then decide (c.a < 8) else if p = 115 then belowOk c.n 16384 else if p = 116 then belowOk c.n m else if p = 112 then belowOk c.n 4 else true
theorem reg_is (z : Int) (w : World) : Calls Try.prog 150 #[.int .i64 z] w fun x w' => x = .returned (.bool (regOk z)) ∧ w = w' := by
  unfold regOk
  go_enter Try.func150, Try.ntmps150
  go_wp2_with fail
  all_goals
    go_ret
    refine ⟨congrArg (fun b => Ending.returned (Value.bool b)) ?_, rfl⟩
    (rw [Bool.eq_iff_iff]) <;> simp <;> try omega
theorem below_is (m z : Int) (g : Nat) (w : World) (h : w.cell? ⟨g, 4, none⟩ = some (.int .i64 z)) : Calls Try.prog 149 #[.int .i64 m, .pointer (some ⟨g, 0, none⟩)] w fun x w' => x = .returned (.bool (belowOk z m)) ∧ w = w' := by
  unfold belowOk
  go_enter Try.func149, Try.ntmps149
  go_wp2_with fail
  all_goals
    go_ret
    refine ⟨congrArg (fun b => Ending.returned (Value.bool b)) ?_, rfl⟩
    (rw [Bool.eq_iff_iff]) <;> simp <;> try omega
set_option maxHeartbeats 1000000 in
theorem parts_is (op : Int) (w : World) : Calls Try.prog 130 #[.int .i64 op] w fun x w' => x = .returned (.string (str (partsOf op))) ∧ w = w' := by
  go_enter Try.func130, Try.ntmps130
  go_wp2_with fail
  all_goals first
    | (exfalso; simp_all; done)
    | (exfalso; omega)
    | (go_ret
       refine ⟨congrArg (fun l => Ending.returned (Value.string (str l))) (show _ = partsOf op from ?_), rfl⟩
       unfold partsOf
       simp_all
       done)
set_option maxHeartbeats 2000000 in
theorem part_is (c : Cd) (p m : Int) (w : World) : Calls Try.prog 131 #[c.val, .int .u8 p, .int .i64 m] w fun x w' => x = .returned (.bool (partOk c m p)) ∧ Only [] w w' := by
  obtain ⟨op, a, b, cc, n⟩ := c
  unfold Cd.val partOk
  simp only
  have hb := Blk.new w 59 #[.int .i64 op, .int .i64 a, .int .i64 b, .int .i64 cc, .int .i64 n]
  have ho : Only [] w (w.alloc (.cells #[.int .i64 op, .int .i64 a, .int .i64 b, .int .i64 cc, .int .i64 n] 59)) := (Only.refl _ _).alloc _
  have HB := Lib.hid (fun mm => below_is mm n w.heap.size _ (hb.cell 4))
  have HR := Lib.hid reg_is
  have HO := Lib.hid ho
  clear hb ho
  go_enter Try.func131, Try.ntmps131
  go_wp2_with (first
    | (go_at_call 150; refine (HR.out _ _).mono ?_; rintro x w' ⟨rfl, rfl⟩)
    | (go_at_call 149; refine (HB.out _).mono ?_; rintro x w' ⟨rfl, rfl⟩))
  all_goals first
    | (exfalso; simp_all; done)
    | (go_ret
       refine ⟨congrArg (fun b => Ending.returned (Value.bool b)) ?_, HO.out⟩
       simp_all
       done)
end Go.Proofs.Ytbeenfkmnchhbaa.Object
