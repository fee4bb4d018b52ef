/- FrameTorn, joined. -/
import Derived.Test.YtbeenfkmnchhbaaFrameTornT
import Derived.Test.YtbeenfkmnchhbaaFrameTornE
import Derived.Test.YtbeenfkmnchhbaaFrameTornD
import Derived.Test.YtbeenfkmnchhbaaFrameTornS
namespace Go.Proofs.Ytbeenfkmnchhbaa.Frame
open Go.RowKit Codec
set_option linter.unusedVariables false
set_option maxRecDepth 100000
theorem torn_any (m o : Mark) (hfm : m.fits) (hfo : o.fits) (none : Bool) (w : World) :
    Calls Try.prog 4 #[m.val, o.val, .bool none] w fun x w' => x = .returned (.bool true) ∧ Only [] w w' := by
  obtain ⟨mk, mg, ms, mn⟩ := m
  obtain ⟨ok, og, os, on⟩ := o
  unfold Mark.val
  simp only
  by_cases hm : (⟨mk, mg, ms, mn⟩ : Mark).right
  · cases none with
    | true => exact torn_t mk mg ms mn ok og os on w hm hfm
    | false =>
      by_cases ho : (⟨ok, og, os, on⟩ : Mark).right
      · by_cases he : mk = ok ∧ mg = og ∧ ms = os ∧ mn = on
        · obtain ⟨rfl, rfl, rfl, rfl⟩ := he
          exact torn_e mk mg ms mn w hm hfm
        · refine torn_d mk mg ms mn ok og os on w hm hfm ho (fun h => he ?_) he
          have := half_inj _ _ hm hfm ho hfo h
          injection this with a b c d
          exact ⟨a, b, c, d⟩
      · exact torn_no mk mg ms mn ok og os on w hm ho
  · cases none with
    | true => exact torn_nt mk mg ms mn ok og os on w hm
    | false => exact torn_nf mk mg ms mn ok og os on w hm
end Go.Proofs.Ytbeenfkmnchhbaa.Frame
