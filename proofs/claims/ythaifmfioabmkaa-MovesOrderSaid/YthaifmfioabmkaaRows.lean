/-
  No cell of these rows narrows 'for every input' (looked for: loops, veiled, ifaces, maps, wideKeys, modest, calm, conditions, laid).
  DERIVED. THE GIVEN ROWS OF THIS SEAT. 3 by the template 'for every input the law returns true; each argument reads behind the call as it read before'; 0 by the template 'total and deterministic' (their statements: YthaifmfioabmkaaTotals.lean).
  GIVEN WITH THE SEED: the statements are not yours to turn. If you find one false, say at which input.
  Laid BY PROGRAM, IN A SANDBOX (cutbox-rows.mjs): the forced cells as the released guide's own fill.sh prints them over the translation 5e1c1d519a41a7b2… (all of the seat's roots in one cut). By AI agents, Wed Nov 11 2026. No macro, syntax, notation, axiom, sorry.
-/
import Derived.Test.YthaifmfioabmkaaChecked
import GoSem.Claim
import GoSem.ClaimJoined
import GoSem.ClaimMapViews
import Derived.JoinedTies
import Derived.KernelRfl
namespace Go.Proofs.Ythaifmfioabmkaa
/- THE CELL 'sum', in the pinned program and in every row, IS THE sha256 OF THE DUMP (.gsa) THAT YthaifmfioabmkaaProg.lean LOADS. Nothing in Lean hashes anything: it is a label: what it is worth is what the hold of that sum in a sandbox is worth. -/
noncomputable def Try.pinned : Pinned := { name := "ythaifmfioabmkaa", sum := "5e1c1d519a41a7b2c1cd7d9179b3c93e07ef886f0346e23ab608958bd26ed200", checked := Try.checked }
namespace Rows
def none {H : Type} : Left H := { results := [], args := [] }

/-- 'treadmilllaw26.MovesRight': WHATEVER THE INPUT: true; the input reads as it did. -/
def movesRightSpec : ChangeSpec := { name := "movesRight", fn := fun _ => fun
  | [d1, d2] => { results := [.lit (.bool true)], args := [d1, d2] }
  | _ => none }
def movesRightRow : OpenClaim := { program := "ythaifmfioabmkaa", sum := "5e1c1d519a41a7b2c1cd7d9179b3c93e07ef886f0346e23ab608958bd26ed200", func := "treadmill/treadmilllaw26.MovesRight", spec := "movesRight", unfollowed := true, recurses := true, apart := false }
def MovesRightSaid : Prop := movesRightRow.holds Try.pinned (OpenSpec.ofChange movesRightSpec)

/-- ITS FALSE NEIGHBOUR: 'it returns false'. Refute it at one input. -/
def movesRightWrong : ChangeSpec := { name := "movesRight", fn := fun _ => fun
  | [d1, d2] => { results := [.lit (.bool false)], args := [d1, d2] }
  | _ => none }
def MovesRightWrongFalsely : Prop := movesRightRow.holds Try.pinned (OpenSpec.ofChange movesRightWrong)

/-- 'treadmilllaw26.MovesOrder': WHATEVER THE INPUT: true; the input reads as it did. -/
def movesOrderSpec : ChangeSpec := { name := "movesOrder", fn := fun _ => fun
  | [d1, d2] => { results := [.lit (.bool true)], args := [d1, d2] }
  | _ => none }
def movesOrderRow : OpenClaim := { program := "ythaifmfioabmkaa", sum := "5e1c1d519a41a7b2c1cd7d9179b3c93e07ef886f0346e23ab608958bd26ed200", func := "treadmill/treadmilllaw26.MovesOrder", spec := "movesOrder", unfollowed := true, recurses := true, apart := false }
def MovesOrderSaid : Prop := movesOrderRow.holds Try.pinned (OpenSpec.ofChange movesOrderSpec)

/-- ITS FALSE NEIGHBOUR: 'it returns false'. Refute it at one input. -/
def movesOrderWrong : ChangeSpec := { name := "movesOrder", fn := fun _ => fun
  | [d1, d2] => { results := [.lit (.bool false)], args := [d1, d2] }
  | _ => none }
def MovesOrderWrongFalsely : Prop := movesOrderRow.holds Try.pinned (OpenSpec.ofChange movesOrderWrong)

/-- 'treadmilllaw26.MovesApart': WHATEVER THE INPUT: true; the input reads as it did. -/
def movesApartSpec : ChangeSpec := { name := "movesApart", fn := fun _ => fun
  | [d1, d2] => { results := [.lit (.bool true)], args := [d1, d2] }
  | _ => none }
def movesApartRow : OpenClaim := { program := "ythaifmfioabmkaa", sum := "5e1c1d519a41a7b2c1cd7d9179b3c93e07ef886f0346e23ab608958bd26ed200", func := "treadmill/treadmilllaw26.MovesApart", spec := "movesApart", unfollowed := true, recurses := true, apart := false }
def MovesApartSaid : Prop := movesApartRow.holds Try.pinned (OpenSpec.ofChange movesApartSpec)

/-- ITS FALSE NEIGHBOUR: 'it returns false'. Refute it at one input. -/
def movesApartWrong : ChangeSpec := { name := "movesApart", fn := fun _ => fun
  | [d1, d2] => { results := [.lit (.bool false)], args := [d1, d2] }
  | _ => none }
def MovesApartWrongFalsely : Prop := movesApartRow.holds Try.pinned (OpenSpec.ofChange movesApartWrong)

/- THE SECOND FORM. 'bulk': how many values and letters a reading holds, each counted each time it is reached (what is shared counts as often as it is met; a slice's spare places count too). A statement '..UptoSaid' is the law's where the arguments, and the package variables that the reading takes, are together of bulk at most 1048576: NARROWER than '..Said'. Prove '..Said' where nothing that the law and all that it calls make is longer than what came in: it says more and counts as full. Else prove '..UptoSaid'. A law counts once. -/
mutual
def uptoBulk {H : Type} : DataW H → Nat
  | .lit (.string bytes) => bytes.length + 1
  | .lit _ => 1
  | .nil => 1
  | .ptr d => uptoBulk d + 1
  | .slice elems spare => uptoBulkAll elems + uptoBulkAll spare + 1
  | .agg parts => uptoBulkAll parts + 1
  | .iface _ d => uptoBulk d + 1
  | .map entries => uptoBulkEntries entries + 1
  | .held _ => 1
def uptoBulkAll {H : Type} : List (DataW H) → Nat
  | [] => 0
  | d :: r => uptoBulk d + uptoBulkAll r
def uptoBulkEntries {H : Type} : List (Lit × DataW H) → Nat
  | [] => 0
  | x :: r => uptoBulkEntry x + uptoBulkEntries r
def uptoBulkEntry {H : Type} : Lit × DataW H → Nat
  | (.string bytes, d) => bytes.length + uptoBulk d + 1
  | (_, d) => uptoBulk d + 1
 end
def uptoSmall : (H : Type) → List (DataW H) → Bool := fun _ ds => decide (uptoBulkAll ds ≤ 1048576)
def OpenSpec.upto (s : _root_.Go.ChangeSpec) : _root_.Go.OpenSpec := { _root_.Go.OpenSpec.ofChange s with cond := some uptoSmall }

/-- 'treadmilllaw26.MovesRight', WHERE WHAT IT READS IS OF BULK AT MOST 1048576: true; the input reads as it did. -/
def movesRightUptoRow : OpenClaim := { program := "ythaifmfioabmkaa", sum := "5e1c1d519a41a7b2c1cd7d9179b3c93e07ef886f0346e23ab608958bd26ed200", func := "treadmill/treadmilllaw26.MovesRight", spec := "movesRight", unfollowed := true, recurses := true, apart := false, narrowed := true }
def MovesRightUptoSaid : Prop := movesRightUptoRow.holds Try.pinned (OpenSpec.upto movesRightSpec)

/-- 'treadmilllaw26.MovesOrder', WHERE WHAT IT READS IS OF BULK AT MOST 1048576: true; the input reads as it did. -/
def movesOrderUptoRow : OpenClaim := { program := "ythaifmfioabmkaa", sum := "5e1c1d519a41a7b2c1cd7d9179b3c93e07ef886f0346e23ab608958bd26ed200", func := "treadmill/treadmilllaw26.MovesOrder", spec := "movesOrder", unfollowed := true, recurses := true, apart := false, narrowed := true }
def MovesOrderUptoSaid : Prop := movesOrderUptoRow.holds Try.pinned (OpenSpec.upto movesOrderSpec)

/-- 'treadmilllaw26.MovesApart', WHERE WHAT IT READS IS OF BULK AT MOST 1048576: true; the input reads as it did. -/
def movesApartUptoRow : OpenClaim := { program := "ythaifmfioabmkaa", sum := "5e1c1d519a41a7b2c1cd7d9179b3c93e07ef886f0346e23ab608958bd26ed200", func := "treadmill/treadmilllaw26.MovesApart", spec := "movesApart", unfollowed := true, recurses := true, apart := false, narrowed := true }
def MovesApartUptoSaid : Prop := movesApartUptoRow.holds Try.pinned (OpenSpec.upto movesApartSpec)

end Rows
end Go.Proofs.Ythaifmfioabmkaa
