/-
  No cell of these rows narrows 'for every input' (looked for: loops, veiled, ifaces, maps, wideKeys, modest, calm, conditions, laid).
  DERIVED. THE GIVEN ROWS OF THIS SEAT. 8 by the template 'for every input the law returns true; each argument reads behind the call as it read before'; 0 by the template 'total and deterministic' (their statements: YtbeenfkmnchhbaaTotals.lean).
  GIVEN WITH THE SEED: the statements are not yours to turn. If you find one false, say at which input.
  Laid BY PROGRAM, IN A SANDBOX (cutbox-rows.mjs): the forced cells as the released guide's own fill.sh prints them over the translation 767bad7512d63f42… (all of the seat's roots in one cut). By AI agents, Wed Nov 11 2026. No macro, syntax, notation, axiom, sorry.
-/
import Derived.Test.YtbeenfkmnchhbaaChecked
import GoSem.Claim
import GoSem.ClaimJoined
import GoSem.ClaimMapViews
import Derived.JoinedTies
import Derived.KernelRfl
namespace Go.Proofs.Ytbeenfkmnchhbaa
/- THE CELL 'sum', in the pinned program and in every row, IS THE sha256 OF THE DUMP (.gsa) THAT YtbeenfkmnchhbaaProg.lean LOADS. Nothing in Lean hashes anything: it is a label: what it is worth is what the hold of that sum in a sandbox is worth. -/
noncomputable def Try.pinned : Pinned := { name := "ytbeenfkmnchhbaa", sum := "767bad7512d63f42134dbfebc3a908a2f6996c842c57eadd8d868c6abad72571", checked := Try.checked }
namespace Rows
def none {H : Type} : Left H := { results := [], args := [] }

/-- 'treadmilllaw05.FrameMarks': WHATEVER THE INPUT: true; the input reads as it did. -/
def frameMarksSpec : ChangeSpec := { name := "frameMarks", fn := fun _ => fun
  | [d1, d2] => { results := [.lit (.bool true)], args := [d1, d2] }
  | _ => none }
def frameMarksRow : OpenClaim := { program := "ytbeenfkmnchhbaa", sum := "767bad7512d63f42134dbfebc3a908a2f6996c842c57eadd8d868c6abad72571", func := "treadmill/treadmilllaw05.FrameMarks", spec := "frameMarks", apart := false }
def FrameMarksSaid : Prop := frameMarksRow.holds Try.pinned (OpenSpec.ofChange frameMarksSpec)

/-- ITS FALSE NEIGHBOUR: 'it returns false'. Refute it at one input. -/
def frameMarksWrong : ChangeSpec := { name := "frameMarks", fn := fun _ => fun
  | [d1, d2] => { results := [.lit (.bool false)], args := [d1, d2] }
  | _ => none }
def FrameMarksWrongFalsely : Prop := frameMarksRow.holds Try.pinned (OpenSpec.ofChange frameMarksWrong)

/-- 'treadmilllaw05.FrameTorn': WHATEVER THE INPUT: true; the input reads as it did. -/
def frameTornSpec : ChangeSpec := { name := "frameTorn", fn := fun _ => fun
  | [d1, d2, d3] => { results := [.lit (.bool true)], args := [d1, d2, d3] }
  | _ => none }
def frameTornRow : OpenClaim := { program := "ytbeenfkmnchhbaa", sum := "767bad7512d63f42134dbfebc3a908a2f6996c842c57eadd8d868c6abad72571", func := "treadmill/treadmilllaw05.FrameTorn", spec := "frameTorn", apart := false }
def FrameTornSaid : Prop := frameTornRow.holds Try.pinned (OpenSpec.ofChange frameTornSpec)

/-- ITS FALSE NEIGHBOUR: 'it returns false'. Refute it at one input. -/
def frameTornWrong : ChangeSpec := { name := "frameTorn", fn := fun _ => fun
  | [d1, d2, d3] => { results := [.lit (.bool false)], args := [d1, d2, d3] }
  | _ => none }
def FrameTornWrongFalsely : Prop := frameTornRow.holds Try.pinned (OpenSpec.ofChange frameTornWrong)

/-- 'treadmilllaw05.FramePacks': WHATEVER THE INPUT: true; the input reads as it did. -/
def framePacksSpec : ChangeSpec := { name := "framePacks", fn := fun _ => fun
  | [d1, d2, d3] => { results := [.lit (.bool true)], args := [d1, d2, d3] }
  | _ => none }
def framePacksRow : OpenClaim := { program := "ytbeenfkmnchhbaa", sum := "767bad7512d63f42134dbfebc3a908a2f6996c842c57eadd8d868c6abad72571", func := "treadmill/treadmilllaw05.FramePacks", spec := "framePacks", unfollowed := true, recurses := true, apart := false }
def FramePacksSaid : Prop := framePacksRow.holds Try.pinned (OpenSpec.ofChange framePacksSpec)

/-- ITS FALSE NEIGHBOUR: 'it returns false'. Refute it at one input. -/
def framePacksWrong : ChangeSpec := { name := "framePacks", fn := fun _ => fun
  | [d1, d2, d3] => { results := [.lit (.bool false)], args := [d1, d2, d3] }
  | _ => none }
def FramePacksWrongFalsely : Prop := framePacksRow.holds Try.pinned (OpenSpec.ofChange framePacksWrong)

/-- 'treadmilllaw13.ExportTells': WHATEVER THE INPUT: true; the input reads as it did. -/
def exportTellsSpec : ChangeSpec := { name := "exportTells", fn := fun _ => fun
  | [d1, d2] => { results := [.lit (.bool true)], args := [d1, d2] }
  | _ => none }
def exportTellsRow : OpenClaim := { program := "ytbeenfkmnchhbaa", sum := "767bad7512d63f42134dbfebc3a908a2f6996c842c57eadd8d868c6abad72571", func := "treadmill/treadmilllaw13.ExportTells", spec := "exportTells", unfollowed := true, recurses := true, apart := false }
def ExportTellsSaid : Prop := exportTellsRow.holds Try.pinned (OpenSpec.ofChange exportTellsSpec)

/-- ITS FALSE NEIGHBOUR: 'it returns false'. Refute it at one input. -/
def exportTellsWrong : ChangeSpec := { name := "exportTells", fn := fun _ => fun
  | [d1, d2] => { results := [.lit (.bool false)], args := [d1, d2] }
  | _ => none }
def ExportTellsWrongFalsely : Prop := exportTellsRow.holds Try.pinned (OpenSpec.ofChange exportTellsWrong)

/-- 'treadmilllaw13.ExportBack': WHATEVER THE INPUT: true; the input reads as it did. -/
def exportBackSpec : ChangeSpec := { name := "exportBack", fn := fun _ => fun
  | [d1, d2] => { results := [.lit (.bool true)], args := [d1, d2] }
  | _ => none }
def exportBackRow : OpenClaim := { program := "ytbeenfkmnchhbaa", sum := "767bad7512d63f42134dbfebc3a908a2f6996c842c57eadd8d868c6abad72571", func := "treadmill/treadmilllaw13.ExportBack", spec := "exportBack", unfollowed := true, recurses := true, apart := false }
def ExportBackSaid : Prop := exportBackRow.holds Try.pinned (OpenSpec.ofChange exportBackSpec)

/-- ITS FALSE NEIGHBOUR: 'it returns false'. Refute it at one input. -/
def exportBackWrong : ChangeSpec := { name := "exportBack", fn := fun _ => fun
  | [d1, d2] => { results := [.lit (.bool false)], args := [d1, d2] }
  | _ => none }
def ExportBackWrongFalsely : Prop := exportBackRow.holds Try.pinned (OpenSpec.ofChange exportBackWrong)

/-- 'treadmilllaw30.ObjectTells': WHATEVER THE INPUT: true; the input reads as it did. -/
def objectTellsSpec : ChangeSpec := { name := "objectTells", fn := fun _ => fun
  | [d1, d2, d3, d4] => { results := [.lit (.bool true)], args := [d1, d2, d3, d4] }
  | _ => none }
def objectTellsRow : OpenClaim := { program := "ytbeenfkmnchhbaa", sum := "767bad7512d63f42134dbfebc3a908a2f6996c842c57eadd8d868c6abad72571", func := "treadmill/treadmilllaw30.ObjectTells", spec := "objectTells", unfollowed := true, recurses := true, apart := false }
def ObjectTellsSaid : Prop := objectTellsRow.holds Try.pinned (OpenSpec.ofChange objectTellsSpec)

/-- ITS FALSE NEIGHBOUR: 'it returns false'. Refute it at one input. -/
def objectTellsWrong : ChangeSpec := { name := "objectTells", fn := fun _ => fun
  | [d1, d2, d3, d4] => { results := [.lit (.bool false)], args := [d1, d2, d3, d4] }
  | _ => none }
def ObjectTellsWrongFalsely : Prop := objectTellsRow.holds Try.pinned (OpenSpec.ofChange objectTellsWrong)

/-- 'treadmilllaw30.ObjectBack': WHATEVER THE INPUT: true; the input reads as it did. -/
def objectBackSpec : ChangeSpec := { name := "objectBack", fn := fun _ => fun
  | [d1, d2] => { results := [.lit (.bool true)], args := [d1, d2] }
  | _ => none }
def objectBackRow : OpenClaim := { program := "ytbeenfkmnchhbaa", sum := "767bad7512d63f42134dbfebc3a908a2f6996c842c57eadd8d868c6abad72571", func := "treadmill/treadmilllaw30.ObjectBack", spec := "objectBack", unfollowed := true, recurses := true, apart := false }
def ObjectBackSaid : Prop := objectBackRow.holds Try.pinned (OpenSpec.ofChange objectBackSpec)

/-- ITS FALSE NEIGHBOUR: 'it returns false'. Refute it at one input. -/
def objectBackWrong : ChangeSpec := { name := "objectBack", fn := fun _ => fun
  | [d1, d2] => { results := [.lit (.bool false)], args := [d1, d2] }
  | _ => none }
def ObjectBackWrongFalsely : Prop := objectBackRow.holds Try.pinned (OpenSpec.ofChange objectBackWrong)

/-- 'treadmilllaw40.PeepRuns': WHATEVER THE INPUT: true; the input reads as it did. -/
def peepRunsSpec : ChangeSpec := { name := "peepRuns", fn := fun _ => fun
  | [d] => { results := [.lit (.bool true)], args := [d] }
  | _ => none }
def peepRunsRow : OpenClaim := { program := "ytbeenfkmnchhbaa", sum := "767bad7512d63f42134dbfebc3a908a2f6996c842c57eadd8d868c6abad72571", func := "treadmill/treadmilllaw40.PeepRuns", spec := "peepRuns", unfollowed := true, recurses := true, apart := false }
def PeepRunsSaid : Prop := peepRunsRow.holds Try.pinned (OpenSpec.ofChange peepRunsSpec)

/-- ITS FALSE NEIGHBOUR: 'it returns false'. Refute it at one input. -/
def peepRunsWrong : ChangeSpec := { name := "peepRuns", fn := fun _ => fun
  | [d] => { results := [.lit (.bool false)], args := [d] }
  | _ => none }
def PeepRunsWrongFalsely : Prop := peepRunsRow.holds Try.pinned (OpenSpec.ofChange peepRunsWrong)

/- THE SECOND FORM. 'bulk': how many values and letters a reading holds, each counted each time it is reached (what is shared counts as often as it is met; a slice's spare places count too). A statement '..UptoSaid' is the law's where the arguments, and the package variables that the reading takes, are together of bulk at most 1048576: NARROWER than '..Said'. Prove '..Said' where nothing that the law and all that it calls make is longer than what came in: it says more and counts as full. Else prove '..UptoSaid'. A law counts once. -/
mutual
def uptoBulk {H : Type} : DataW H → Nat
  | .lit (.string bytes) => bytes.length + 1
  | .lit _ => 1
  | .nil => 1
  | .ptr d => uptoBulk d + 1
  | .slice elems spare => uptoBulkAll elems + uptoBulkAll spare + 1
  | .agg parts => uptoBulkAll parts + 1
  | .iface _ d => uptoBulk d + 1
  | .map entries => uptoBulkEntries entries + 1
  | .held _ => 1
def uptoBulkAll {H : Type} : List (DataW H) → Nat
  | [] => 0
  | d :: r => uptoBulk d + uptoBulkAll r
def uptoBulkEntries {H : Type} : List (Lit × DataW H) → Nat
  | [] => 0
  | x :: r => uptoBulkEntry x + uptoBulkEntries r
def uptoBulkEntry {H : Type} : Lit × DataW H → Nat
  | (.string bytes, d) => bytes.length + uptoBulk d + 1
  | (_, d) => uptoBulk d + 1
 end
def uptoSmall : (H : Type) → List (DataW H) → Bool := fun _ ds => decide (uptoBulkAll ds ≤ 1048576)
def OpenSpec.upto (s : _root_.Go.ChangeSpec) : _root_.Go.OpenSpec := { _root_.Go.OpenSpec.ofChange s with cond := some uptoSmall }

/-- 'treadmilllaw05.FrameMarks', WHERE WHAT IT READS IS OF BULK AT MOST 1048576: true; the input reads as it did. -/
def frameMarksUptoRow : OpenClaim := { program := "ytbeenfkmnchhbaa", sum := "767bad7512d63f42134dbfebc3a908a2f6996c842c57eadd8d868c6abad72571", func := "treadmill/treadmilllaw05.FrameMarks", spec := "frameMarks", apart := false, narrowed := true }
def FrameMarksUptoSaid : Prop := frameMarksUptoRow.holds Try.pinned (OpenSpec.upto frameMarksSpec)

/-- 'treadmilllaw05.FrameTorn', WHERE WHAT IT READS IS OF BULK AT MOST 1048576: true; the input reads as it did. -/
def frameTornUptoRow : OpenClaim := { program := "ytbeenfkmnchhbaa", sum := "767bad7512d63f42134dbfebc3a908a2f6996c842c57eadd8d868c6abad72571", func := "treadmill/treadmilllaw05.FrameTorn", spec := "frameTorn", apart := false, narrowed := true }
def FrameTornUptoSaid : Prop := frameTornUptoRow.holds Try.pinned (OpenSpec.upto frameTornSpec)

/-- 'treadmilllaw05.FramePacks', WHERE WHAT IT READS IS OF BULK AT MOST 1048576: true; the input reads as it did. -/
def framePacksUptoRow : OpenClaim := { program := "ytbeenfkmnchhbaa", sum := "767bad7512d63f42134dbfebc3a908a2f6996c842c57eadd8d868c6abad72571", func := "treadmill/treadmilllaw05.FramePacks", spec := "framePacks", unfollowed := true, recurses := true, apart := false, narrowed := true }
def FramePacksUptoSaid : Prop := framePacksUptoRow.holds Try.pinned (OpenSpec.upto framePacksSpec)

/-- 'treadmilllaw13.ExportTells', WHERE WHAT IT READS IS OF BULK AT MOST 1048576: true; the input reads as it did. -/
def exportTellsUptoRow : OpenClaim := { program := "ytbeenfkmnchhbaa", sum := "767bad7512d63f42134dbfebc3a908a2f6996c842c57eadd8d868c6abad72571", func := "treadmill/treadmilllaw13.ExportTells", spec := "exportTells", unfollowed := true, recurses := true, apart := false, narrowed := true }
def ExportTellsUptoSaid : Prop := exportTellsUptoRow.holds Try.pinned (OpenSpec.upto exportTellsSpec)

/-- 'treadmilllaw13.ExportBack', WHERE WHAT IT READS IS OF BULK AT MOST 1048576: true; the input reads as it did. -/
def exportBackUptoRow : OpenClaim := { program := "ytbeenfkmnchhbaa", sum := "767bad7512d63f42134dbfebc3a908a2f6996c842c57eadd8d868c6abad72571", func := "treadmill/treadmilllaw13.ExportBack", spec := "exportBack", unfollowed := true, recurses := true, apart := false, narrowed := true }
def ExportBackUptoSaid : Prop := exportBackUptoRow.holds Try.pinned (OpenSpec.upto exportBackSpec)

/-- 'treadmilllaw30.ObjectTells', WHERE WHAT IT READS IS OF BULK AT MOST 1048576: true; the input reads as it did. -/
def objectTellsUptoRow : OpenClaim := { program := "ytbeenfkmnchhbaa", sum := "767bad7512d63f42134dbfebc3a908a2f6996c842c57eadd8d868c6abad72571", func := "treadmill/treadmilllaw30.ObjectTells", spec := "objectTells", unfollowed := true, recurses := true, apart := false, narrowed := true }
def ObjectTellsUptoSaid : Prop := objectTellsUptoRow.holds Try.pinned (OpenSpec.upto objectTellsSpec)

/-- 'treadmilllaw30.ObjectBack', WHERE WHAT IT READS IS OF BULK AT MOST 1048576: true; the input reads as it did. -/
def objectBackUptoRow : OpenClaim := { program := "ytbeenfkmnchhbaa", sum := "767bad7512d63f42134dbfebc3a908a2f6996c842c57eadd8d868c6abad72571", func := "treadmill/treadmilllaw30.ObjectBack", spec := "objectBack", unfollowed := true, recurses := true, apart := false, narrowed := true }
def ObjectBackUptoSaid : Prop := objectBackUptoRow.holds Try.pinned (OpenSpec.upto objectBackSpec)

/-- 'treadmilllaw40.PeepRuns', WHERE WHAT IT READS IS OF BULK AT MOST 1048576: true; the input reads as it did. -/
def peepRunsUptoRow : OpenClaim := { program := "ytbeenfkmnchhbaa", sum := "767bad7512d63f42134dbfebc3a908a2f6996c842c57eadd8d868c6abad72571", func := "treadmill/treadmilllaw40.PeepRuns", spec := "peepRuns", unfollowed := true, recurses := true, apart := false, narrowed := true }
def PeepRunsUptoSaid : Prop := peepRunsUptoRow.holds Try.pinned (OpenSpec.upto peepRunsSpec)

end Rows
end Go.Proofs.Ytbeenfkmnchhbaa
