/-
  No cell of these rows narrows 'for every input' (looked for: loops, veiled, ifaces, maps, wideKeys, modest, calm, conditions, laid).
  DERIVED. THE GIVEN ROWS OF THIS SEAT. 7 by the template 'for every input the law returns true; each argument reads behind the call as it read before'; 0 by the template 'total and deterministic' (their statements: YthgfmoogagldmaaGreatTotals.lean).
  GIVEN WITH THE SEED: the statements are not yours to turn. If you find one false, say at which input.
  Laid BY PROGRAM, IN A SANDBOX (cutbox-rows.mjs): the forced cells as the released guide's own fill.sh prints them over the translation ed3f6924cec2491e… (all of the seat's roots in one cut). By AI agents, Wed Nov 11 2026. No macro, syntax, notation, axiom, sorry.
-/
import Derived.Test.YthgfmoogagldmaaGreatChecked
import GoSem.Claim
import GoSem.ClaimJoined
import GoSem.ClaimMapViews
import Derived.JoinedTies
import Derived.KernelRfl
namespace Go.Proofs.YthgfmoogagldmaaGreat
/- THE CELL 'sum', in the pinned program and in every row, IS THE sha256 OF THE DUMP (.gsa) THAT YthgfmoogagldmaaGreatProg.lean LOADS. Nothing in Lean hashes anything: it is a label: what it is worth is what the hold of that sum in a sandbox is worth. -/
noncomputable def Tryz.pinned : Pinned := { name := "ythgfmoogagldmaagreat", sum := "ed3f6924cec2491e989f0d758780626cf5b21a9033bee63b2b7d7c49b45bbd35", checked := Tryz.checked }
namespace Rows
def none {H : Type} : Left H := { results := [], args := [] }

/-- 'treadmilllaw06.JournalWholly': WHATEVER THE INPUT: true; the input reads as it did. -/
def journalWhollySpec : ChangeSpec := { name := "journalWholly", fn := fun _ => fun
  | [d1, d2] => { results := [.lit (.bool true)], args := [d1, d2] }
  | _ => none }
def journalWhollyRow : OpenClaim := { program := "ythgfmoogagldmaagreat", sum := "ed3f6924cec2491e989f0d758780626cf5b21a9033bee63b2b7d7c49b45bbd35", func := "treadmill/treadmilllaw06.JournalWholly", spec := "journalWholly", unfollowed := true, recurses := true, apart := false }
def JournalWhollySaid : Prop := journalWhollyRow.holds Tryz.pinned (OpenSpec.ofChange journalWhollySpec)

/-- ITS FALSE NEIGHBOUR: 'it returns false'. Refute it at one input. -/
def journalWhollyWrong : ChangeSpec := { name := "journalWholly", fn := fun _ => fun
  | [d1, d2] => { results := [.lit (.bool false)], args := [d1, d2] }
  | _ => none }
def JournalWhollyWrongFalsely : Prop := journalWhollyRow.holds Tryz.pinned (OpenSpec.ofChange journalWhollyWrong)

/-- 'treadmilllaw06.JournalPlays': WHATEVER THE INPUT: true; the input reads as it did. -/
def journalPlaysSpec : ChangeSpec := { name := "journalPlays", fn := fun _ => fun
  | [d1, d2] => { results := [.lit (.bool true)], args := [d1, d2] }
  | _ => none }
def journalPlaysRow : OpenClaim := { program := "ythgfmoogagldmaagreat", sum := "ed3f6924cec2491e989f0d758780626cf5b21a9033bee63b2b7d7c49b45bbd35", func := "treadmill/treadmilllaw06.JournalPlays", spec := "journalPlays", unfollowed := true, recurses := true, apart := false }
def JournalPlaysSaid : Prop := journalPlaysRow.holds Tryz.pinned (OpenSpec.ofChange journalPlaysSpec)

/-- ITS FALSE NEIGHBOUR: 'it returns false'. Refute it at one input. -/
def journalPlaysWrong : ChangeSpec := { name := "journalPlays", fn := fun _ => fun
  | [d1, d2] => { results := [.lit (.bool false)], args := [d1, d2] }
  | _ => none }
def JournalPlaysWrongFalsely : Prop := journalPlaysRow.holds Tryz.pinned (OpenSpec.ofChange journalPlaysWrong)

/-- 'treadmilllaw06.JournalNil': WHATEVER THE INPUT: true; the input reads as it did. -/
def journalNilSpec : ChangeSpec := { name := "journalNil", fn := fun _ => fun
  | [d] => { results := [.lit (.bool true)], args := [d] }
  | _ => none }
def journalNilRow : OpenClaim := { program := "ythgfmoogagldmaagreat", sum := "ed3f6924cec2491e989f0d758780626cf5b21a9033bee63b2b7d7c49b45bbd35", func := "treadmill/treadmilllaw06.JournalNil", spec := "journalNil", unfollowed := true, recurses := true, apart := false }
def JournalNilSaid : Prop := journalNilRow.holds Tryz.pinned (OpenSpec.ofChange journalNilSpec)

/-- ITS FALSE NEIGHBOUR: 'it returns false'. Refute it at one input. -/
def journalNilWrong : ChangeSpec := { name := "journalNil", fn := fun _ => fun
  | [d] => { results := [.lit (.bool false)], args := [d] }
  | _ => none }
def JournalNilWrongFalsely : Prop := journalNilRow.holds Tryz.pinned (OpenSpec.ofChange journalNilWrong)

/-- 'treadmilllaw07.CachePacks': WHATEVER THE INPUT: true; the input reads as it did. -/
def cachePacksSpec : ChangeSpec := { name := "cachePacks", fn := fun _ => fun
  | [d1, d2] => { results := [.lit (.bool true)], args := [d1, d2] }
  | _ => none }
def cachePacksRow : OpenClaim := { program := "ythgfmoogagldmaagreat", sum := "ed3f6924cec2491e989f0d758780626cf5b21a9033bee63b2b7d7c49b45bbd35", func := "treadmill/treadmilllaw07.CachePacks", spec := "cachePacks", unfollowed := true, recurses := true, apart := false }
def CachePacksSaid : Prop := cachePacksRow.holds Tryz.pinned (OpenSpec.ofChange cachePacksSpec)

/-- ITS FALSE NEIGHBOUR: 'it returns false'. Refute it at one input. -/
def cachePacksWrong : ChangeSpec := { name := "cachePacks", fn := fun _ => fun
  | [d1, d2] => { results := [.lit (.bool false)], args := [d1, d2] }
  | _ => none }
def CachePacksWrongFalsely : Prop := cachePacksRow.holds Tryz.pinned (OpenSpec.ofChange cachePacksWrong)

/-- 'treadmilllaw07.CacheNil': WHATEVER THE INPUT: true; the input reads as it did. -/
def cacheNilSpec : ChangeSpec := { name := "cacheNil", fn := fun _ => fun
  | [d] => { results := [.lit (.bool true)], args := [d] }
  | _ => none }
def cacheNilRow : OpenClaim := { program := "ythgfmoogagldmaagreat", sum := "ed3f6924cec2491e989f0d758780626cf5b21a9033bee63b2b7d7c49b45bbd35", func := "treadmill/treadmilllaw07.CacheNil", spec := "cacheNil", unfollowed := true, recurses := true, apart := false }
def CacheNilSaid : Prop := cacheNilRow.holds Tryz.pinned (OpenSpec.ofChange cacheNilSpec)

/-- ITS FALSE NEIGHBOUR: 'it returns false'. Refute it at one input. -/
def cacheNilWrong : ChangeSpec := { name := "cacheNil", fn := fun _ => fun
  | [d] => { results := [.lit (.bool false)], args := [d] }
  | _ => none }
def CacheNilWrongFalsely : Prop := cacheNilRow.holds Tryz.pinned (OpenSpec.ofChange cacheNilWrong)

/-- 'treadmilllaw07.CachePlays': WHATEVER THE INPUT: true; the input reads as it did. -/
def cachePlaysSpec : ChangeSpec := { name := "cachePlays", fn := fun _ => fun
  | [d1, d2] => { results := [.lit (.bool true)], args := [d1, d2] }
  | _ => none }
def cachePlaysRow : OpenClaim := { program := "ythgfmoogagldmaagreat", sum := "ed3f6924cec2491e989f0d758780626cf5b21a9033bee63b2b7d7c49b45bbd35", func := "treadmill/treadmilllaw07.CachePlays", spec := "cachePlays", unfollowed := true, recurses := true, apart := false }
def CachePlaysSaid : Prop := cachePlaysRow.holds Tryz.pinned (OpenSpec.ofChange cachePlaysSpec)

/-- ITS FALSE NEIGHBOUR: 'it returns false'. Refute it at one input. -/
def cachePlaysWrong : ChangeSpec := { name := "cachePlays", fn := fun _ => fun
  | [d1, d2] => { results := [.lit (.bool false)], args := [d1, d2] }
  | _ => none }
def CachePlaysWrongFalsely : Prop := cachePlaysRow.holds Tryz.pinned (OpenSpec.ofChange cachePlaysWrong)

/-- 'treadmilllaw07.CacheWhole': WHATEVER THE INPUT: true; the input reads as it did. -/
def cacheWholeSpec : ChangeSpec := { name := "cacheWhole", fn := fun _ => fun
  | [d] => { results := [.lit (.bool true)], args := [d] }
  | _ => none }
def cacheWholeRow : OpenClaim := { program := "ythgfmoogagldmaagreat", sum := "ed3f6924cec2491e989f0d758780626cf5b21a9033bee63b2b7d7c49b45bbd35", func := "treadmill/treadmilllaw07.CacheWhole", spec := "cacheWhole", unfollowed := true, recurses := true, apart := false }
def CacheWholeSaid : Prop := cacheWholeRow.holds Tryz.pinned (OpenSpec.ofChange cacheWholeSpec)

/-- ITS FALSE NEIGHBOUR: 'it returns false'. Refute it at one input. -/
def cacheWholeWrong : ChangeSpec := { name := "cacheWhole", fn := fun _ => fun
  | [d] => { results := [.lit (.bool false)], args := [d] }
  | _ => none }
def CacheWholeWrongFalsely : Prop := cacheWholeRow.holds Tryz.pinned (OpenSpec.ofChange cacheWholeWrong)

/- THE SECOND FORM. 'bulk': how many values and letters a reading holds, each counted each time it is reached (what is shared counts as often as it is met; a slice's spare places count too). A statement '..UptoSaid' is the law's where the arguments, and the package variables that the reading takes, are together of bulk at most 1048576: NARROWER than '..Said'. Prove '..Said' where nothing that the law and all that it calls make is longer than what came in: it says more and counts as full. Else prove '..UptoSaid'. A law counts once. -/
mutual
def uptoBulk {H : Type} : DataW H → Nat
  | .lit (.string bytes) => bytes.length + 1
  | .lit _ => 1
  | .nil => 1
  | .ptr d => uptoBulk d + 1
  | .slice elems spare => uptoBulkAll elems + uptoBulkAll spare + 1
  | .agg parts => uptoBulkAll parts + 1
  | .iface _ d => uptoBulk d + 1
  | .map entries => uptoBulkEntries entries + 1
  | .held _ => 1
def uptoBulkAll {H : Type} : List (DataW H) → Nat
  | [] => 0
  | d :: r => uptoBulk d + uptoBulkAll r
def uptoBulkEntries {H : Type} : List (Lit × DataW H) → Nat
  | [] => 0
  | x :: r => uptoBulkEntry x + uptoBulkEntries r
def uptoBulkEntry {H : Type} : Lit × DataW H → Nat
  | (.string bytes, d) => bytes.length + uptoBulk d + 1
  | (_, d) => uptoBulk d + 1
 end
def uptoSmall : (H : Type) → List (DataW H) → Bool := fun _ ds => decide (uptoBulkAll ds ≤ 1048576)
def OpenSpec.upto (s : _root_.Go.ChangeSpec) : _root_.Go.OpenSpec := { _root_.Go.OpenSpec.ofChange s with cond := some uptoSmall }

/-- 'treadmilllaw06.JournalWholly', WHERE WHAT IT READS IS OF BULK AT MOST 1048576: true; the input reads as it did. -/
def journalWhollyUptoRow : OpenClaim := { program := "ythgfmoogagldmaagreat", sum := "ed3f6924cec2491e989f0d758780626cf5b21a9033bee63b2b7d7c49b45bbd35", func := "treadmill/treadmilllaw06.JournalWholly", spec := "journalWholly", unfollowed := true, recurses := true, apart := false, narrowed := true }
def JournalWhollyUptoSaid : Prop := journalWhollyUptoRow.holds Tryz.pinned (OpenSpec.upto journalWhollySpec)

/-- 'treadmilllaw06.JournalPlays', WHERE WHAT IT READS IS OF BULK AT MOST 1048576: true; the input reads as it did. -/
def journalPlaysUptoRow : OpenClaim := { program := "ythgfmoogagldmaagreat", sum := "ed3f6924cec2491e989f0d758780626cf5b21a9033bee63b2b7d7c49b45bbd35", func := "treadmill/treadmilllaw06.JournalPlays", spec := "journalPlays", unfollowed := true, recurses := true, apart := false, narrowed := true }
def JournalPlaysUptoSaid : Prop := journalPlaysUptoRow.holds Tryz.pinned (OpenSpec.upto journalPlaysSpec)

/-- 'treadmilllaw06.JournalNil', WHERE WHAT IT READS IS OF BULK AT MOST 1048576: true; the input reads as it did. -/
def journalNilUptoRow : OpenClaim := { program := "ythgfmoogagldmaagreat", sum := "ed3f6924cec2491e989f0d758780626cf5b21a9033bee63b2b7d7c49b45bbd35", func := "treadmill/treadmilllaw06.JournalNil", spec := "journalNil", unfollowed := true, recurses := true, apart := false, narrowed := true }
def JournalNilUptoSaid : Prop := journalNilUptoRow.holds Tryz.pinned (OpenSpec.upto journalNilSpec)

/-- 'treadmilllaw07.CachePacks', WHERE WHAT IT READS IS OF BULK AT MOST 1048576: true; the input reads as it did. -/
def cachePacksUptoRow : OpenClaim := { program := "ythgfmoogagldmaagreat", sum := "ed3f6924cec2491e989f0d758780626cf5b21a9033bee63b2b7d7c49b45bbd35", func := "treadmill/treadmilllaw07.CachePacks", spec := "cachePacks", unfollowed := true, recurses := true, apart := false, narrowed := true }
def CachePacksUptoSaid : Prop := cachePacksUptoRow.holds Tryz.pinned (OpenSpec.upto cachePacksSpec)

/-- 'treadmilllaw07.CacheNil', WHERE WHAT IT READS IS OF BULK AT MOST 1048576: true; the input reads as it did. -/
def cacheNilUptoRow : OpenClaim := { program := "ythgfmoogagldmaagreat", sum := "ed3f6924cec2491e989f0d758780626cf5b21a9033bee63b2b7d7c49b45bbd35", func := "treadmill/treadmilllaw07.CacheNil", spec := "cacheNil", unfollowed := true, recurses := true, apart := false, narrowed := true }
def CacheNilUptoSaid : Prop := cacheNilUptoRow.holds Tryz.pinned (OpenSpec.upto cacheNilSpec)

/-- 'treadmilllaw07.CachePlays', WHERE WHAT IT READS IS OF BULK AT MOST 1048576: true; the input reads as it did. -/
def cachePlaysUptoRow : OpenClaim := { program := "ythgfmoogagldmaagreat", sum := "ed3f6924cec2491e989f0d758780626cf5b21a9033bee63b2b7d7c49b45bbd35", func := "treadmill/treadmilllaw07.CachePlays", spec := "cachePlays", unfollowed := true, recurses := true, apart := false, narrowed := true }
def CachePlaysUptoSaid : Prop := cachePlaysUptoRow.holds Tryz.pinned (OpenSpec.upto cachePlaysSpec)

/-- 'treadmilllaw07.CacheWhole', WHERE WHAT IT READS IS OF BULK AT MOST 1048576: true; the input reads as it did. -/
def cacheWholeUptoRow : OpenClaim := { program := "ythgfmoogagldmaagreat", sum := "ed3f6924cec2491e989f0d758780626cf5b21a9033bee63b2b7d7c49b45bbd35", func := "treadmill/treadmilllaw07.CacheWhole", spec := "cacheWhole", unfollowed := true, recurses := true, apart := false, narrowed := true }
def CacheWholeUptoSaid : Prop := cacheWholeUptoRow.holds Tryz.pinned (OpenSpec.upto cacheWholeSpec)

end Rows
end Go.Proofs.YthgfmoogagldmaaGreat
