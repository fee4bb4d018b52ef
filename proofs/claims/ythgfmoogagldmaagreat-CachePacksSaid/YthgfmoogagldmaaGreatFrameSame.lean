/- The law's same: two lists of sectors. -/
import Derived.Test.YthgfmoogagldmaaGreatFramePack2
namespace Go.Proofs.YthgfmoogagldmaaGreat.Frame
open Go.RowKit
set_option linter.unusedVariables false
set_option maxRecDepth 100000
theorem Reads.sl {w : World} {B m : Nat} {A : Option Addr} {ss : List Sl} (hr : Reads w B 1 A m (ss.map Sl.val)) (k : Nat) (hk : k < m) : ∃ b off, A = some ⟨b, off, none⟩ ∧ b < B ∧ ∃ s ∈ ss, ss[k]? = some s ∧ w.cell? ⟨b, off + k, none⟩ = some (.slice s.A s.n s.c) := by
  obtain ⟨b, off, e, hb, hc⟩ := Reads.at1 hr hk
  have hl : ss.length = m := by simpa using hr.1
  rw [List.getElem?_map, List.getElem?_eq_getElem (by omega)] at hc
  exact ⟨b, off, e, hb, _, List.getElem_mem (by omega), List.getElem?_eq_getElem (by omega), hc⟩
end Go.Proofs.YthgfmoogagldmaaGreat.Frame
