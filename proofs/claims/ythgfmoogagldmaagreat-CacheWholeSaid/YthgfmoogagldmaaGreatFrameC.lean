/- FrameC: The walks of the reference's Reader; The walks of frame: the document's Right, half, Put. -/
import Derived.Test.YthgfmoogagldmaaGreatCodecA
import Derived.Test.YthgfmoogagldmaaGreatFrameA
import Derived.Test.YthgfmoogagldmaaGreatBufs
import Derived.Deep.RegionHeld3
import Derived.Deep.RegionLaw
set_option linter.unusedVariables false
set_option maxRecDepth 100000
namespace Go.Proofs.YthgfmoogagldmaaGreat.Codec
open Go.RowKit

theorem two_cells (A : Option Addr) (n c : Nat) (b : Bool) : ∀ (i : Nat) (z : Int), (#[Value.slice A n c, Value.bool b] : Array Value)[i]? ≠ some (Value.int .u8 z) := by
  intro i z h
  match i with
  | 0 => cases h
  | 1 => cases h
  | i + 2 => cases h
def RRd (w : World) (p : Nat) (st : Option (List UInt8)) : Prop :=
  ∃ A n c, Blk w p 148 #[.slice A n c, .bool st.isNone] ∧ n ≤ c ∧ c ≤ maxLen ∧ Bytes w p A n (st.getD [])
theorem RRd.other {w w' : World} {p q : Nat} {st st' : Option (List UInt8)} (h : RRd w p st) (hq : Rd w q st') (ho : Only [q] w w') (hne : p ≠ q) : RRd w' p st := by
  obtain ⟨A, n, c, hb, hc, hm, hr⟩ := h
  obtain ⟨A', n', c', hb', _⟩ := hq
  exact ⟨A, n, c, hb.only ho (by simpa using hne), hc, hm, hr.only_pos ho (fun hn g hg => by simpa using hr.ne_blk hn hb' (two_cells _ _ _ _) g hg)⟩
theorem Rd.other {w w' : World} {p q : Nat} {st st' : Option (List UInt8)} (h : Rd w p st) (hq : RRd w q st') (ho : Only [q] w w') (hne : p ≠ q) : Rd w' p st := by
  obtain ⟨A, n, c, hb, hc, hm, hr, hp⟩ := h
  obtain ⟨A', n', c', hb', _⟩ := hq
  exact ⟨A, n, c, hb.only ho (by simpa using hne), hc, hm, hr.only_pos ho (fun hn g hg => by simpa using hr.ne_blk hn hb' (two_cells _ _ _ _) g hg), hp⟩
theorem RRd.drew {w : World} {p : Nat} {st : Option (List UInt8)} (h : RRd w p st) : RRd w.drew p st := h
theorem Rd.drew {w : World} {p : Nat} {st : Option (List UInt8)} (h : Rd w p st) : Rd w.drew p st := h
end Go.Proofs.YthgfmoogagldmaaGreat.Codec
namespace Go.Proofs.YthgfmoogagldmaaGreat.Frame
open Go.RowKit Codec

end Go.Proofs.YthgfmoogagldmaaGreat.Frame
