/- Sync and Crash walk. -/
import Derived.Test.YtgbicimbggdpgaaDisk6
namespace Go.Proofs.Ytgbicimbggdpgaa.Disk
open Go.RowKit Go.Maps
set_option linter.unusedVariables false
set_option maxRecDepth 100000
def syncD (d : DS) : DS := stepD { d with safe := syncS d, wait := fun _ => none }
def SyncO (w : World) (p g b : Nat) (W : List Nat) (cap : Nat) (d : DS) (x : Ending) (w' : World) : Prop :=
  if d.off = true ∨ d.left = 0 then x = .returned (.int .i64 3) ∧ Did w p g b W cap { d with off := true } w'
  else x = .returned (.int .i64 0) ∧ Did w p g b W cap (syncD d) w'
section
variable {w w' : World} {p g b cap : Nat} {W : List Nat} {d : DS}
theorem SyncO.no {x : Ending} (hd : d.off = true ∨ d.left = 0) (hx : x = .returned (.int .i64 3)) (h : Did w p g b W cap { d with off := true } w') : SyncO w p g b W cap d x w' := by unfold SyncO; rw [if_pos hd]; exact ⟨hx, h⟩
theorem SyncO.ok {x : Ending} (hd : ¬ (d.off = true ∨ d.left = 0)) (hx : x = .returned (.int .i64 0)) (h : Did w p g b W cap (syncD d) w') : SyncO w p g b W cap d x w' := by unfold SyncO; rw [if_neg hd]; exact ⟨hx, h⟩
theorem sync_any (h : IsD w p g b W cap d) (hd : d.done ≤ 4611686018427387904) : Calls Try.prog 7 #[.pointer (some ⟨p, 0, none⟩)] w fun x w' => SyncO w p g b W cap d x w' := by
  have ho := (Only.refl [] w).alloc (.cells #[.pointer (some ⟨p, 0, none⟩)] 25)
  have hb := Blk.new w 25 #[.pointer (some ⟨p, 0, none⟩)]
  have x0 := hb.cell 0
  have h2 := h.only0 ho
  have HNN := Lib.hid (none_is h2)
  have HO := Lib.hid ho
  by_cases hdn : d.off = true ∨ d.left = 0
  · have HD := Lib.hid (deed_noS h2 hdn #[.pointer (some ⟨w.heap.size, 0, none⟩)])
    have HN := Lib.hid hdn
    clear h h2 ho hb hdn
    go_enter Try.func7, Try.ntmps7
    go_wp2_with (first
      | (go_at_call 17; refine HNN.out.mono ?_; rintro x w4 ⟨rfl, hw4⟩; subst hw4)
      | (go_at_call 18; refine HD.out.mono ?_; rintro x w4 ⟨rfl, hi4, ho4⟩))
    go_ret
    exact SyncO.no HN.out rfl (did_after HO.out ⟨W, hi4, Newer.refl _ _, only_p ho4⟩)
  · obtain ⟨h1, h3⟩ : d.off = false ∧ d.left ≠ 0 := by
      cases hof : d.off
      · exact ⟨rfl, fun e => hdn (.inr e)⟩
      · exact absurd (.inl hof) hdn
    have HD := Lib.hid (deed_yesS h2 h1 h3 hd #[.pointer (some ⟨w.heap.size, 0, none⟩)] _ _ (sync1_any h2 x0 (by simp)))
    have HN := Lib.hid hdn
    clear h h2 ho hb hdn h1 h3
    go_enter Try.func7, Try.ntmps7
    go_wp2_with (first
      | (go_at_call 17; refine HNN.out.mono ?_; rintro x w4 ⟨rfl, hw4⟩; subst hw4)
      | (go_at_call 18; refine HD.out.mono ?_; rintro x w4 ⟨rfl, hdid⟩))
    go_ret
    exact SyncO.ok HN.out rfl (did_after HO.out hdid)
end
end Go.Proofs.Ytgbicimbggdpgaa.Disk
