/- deed walks, for each of the two closures that come to it. PRINTED by wip/gen_disk2.py. -/
import Derived.Test.YtgbicimbggdpgaaDisk1
namespace Go.Proofs.Ytgbicimbggdpgaa.Disk
open Go.RowKit Go.Maps
set_option linter.unusedVariables false
set_option maxRecDepth 100000
/-- what became of a disk -/
def Did (w : World) (p g b : Nat) (W : List Nat) (cap : Nat) (d' : DS) (w' : World) : Prop := ∃ W', IsD w' p g b W' cap d' ∧ Newer w W W' ∧ Only [p, g, b] w w'
theorem Did.trans {w w' w'' : World} {p g b : Nat} {W W' : List Nat} {cap : Nat} {d'' : DS} (hn : Newer w W W') (ho : Only [p, g, b] w w') (h : Did w' p g b W' cap d'' w'') : Did w p g b W cap d'' w'' := by
  obtain ⟨W2, h1, h2, h3⟩ := h
  exact ⟨W2, h1, hn.trans h2 ho, ho.trans h3 (fun g hg => .inl hg)⟩
def stepD (d : DS) : DS := { d with done := d.done + 1, left := if 0 < d.left then d.left - 1 else d.left }
section
variable {w : World} {p g b cap : Nat} {W : List Nat} {d : DS}
theorem IsD.offed (h : IsD w p g b W cap d) : IsD (w.setCell ⟨p, 2, none⟩ (.bool true)) p g b W cap { d with off := true } ∧ Only [p] w (w.setCell ⟨p, 2, none⟩ (.bool true)) := by
  have ho : Only [p] w (w.setCell ⟨p, 2, none⟩ (.bool true)) := (Only.refl [p] w).setCell (p := ⟨p, 2, none⟩) (.inl (by simp)) _
  exact ⟨h.head ho (h.blk.set_ 2 (.bool true)) h.left_ h.done_, ho⟩
theorem only_p {w w' : World} (h : Only [p] w w') : Only [p, g, b] w w' := h.mono (fun k hk => .inl (by simp at hk; simp [hk]))
set_option maxHeartbeats 1000000 in
theorem deed_noS (h : IsD w p g b W cap d) (hd : d.off = true ∨ d.left = 0) (binds : Array Value) :
    Calls Try.prog 18 #[.pointer (some ⟨p, 0, none⟩), .func (.func 19) #[] binds] w fun x w' => x = .returned (.int .i64 3) ∧ IsD w' p g b W cap { d with off := true } ∧ Only [p] w w' := by
  have c0 := h.blk.cell 0
  have c2 := h.blk.cell 2
  have f2 := h.blk.frozen 2
  have HS := Lib.hid h.offed
  obtain ⟨n, left, done, off, safe, wait⟩ := d
  simp only at hd c0 c2
  have hcase : off = true ∨ (off = false ∧ left = 0) := by
    cases off
    · right
      exact ⟨rfl, by simpa using hd⟩
    · exact .inl rfl
  clear h hd
  rcases hcase with rfl | ⟨rfl, rfl⟩
  all_goals
    go_enter Try.func18, Try.ntmps18
    go_wp2_with fail
    go_ret
    exact ⟨rfl, HS.out⟩
set_option maxHeartbeats 2000000 in
theorem deed_yesS (h : IsD w p g b W cap d) (h1 : d.off = false) (h2 : d.left ≠ 0) (hd : d.done ≤ 4611686018427387904) (binds : Array Value) (sf : Nat → List UInt8) (wt : Nat → Option (List UInt8))
    (HC : Calls Try.prog 19 binds w fun x w' => x = .returned (.tuple #[]) ∧ Did w p g b W cap { d with safe := sf, wait := wt } w') :
    Calls Try.prog 18 #[.pointer (some ⟨p, 0, none⟩), .func (.func 19) #[] binds] w fun x w' => x = .returned (.int .i64 0) ∧ Did w p g b W cap (stepD { d with safe := sf, wait := wt }) w' := by
  have c0 := h.blk.cell 0
  have c2 := h.blk.cell 2
  have hl := h.left_
  have hdn := h.done_
  have HC := Lib.hid HC
  obtain ⟨n, left, done, off, safe, wait⟩ := d
  simp only at h1 h2 hd c0 c2 hl hdn HC
  subst h1
  have e0 : (left == 0) = false := by simp [h2]
  unfold stepD
  simp only
  have hw1 : IntKind.i64.wrap (done + 1) = done + 1 := IntWalk.i64_in _ (by omega)
  clear h
  by_cases hpos : 0 < left
  · have e1 : decide (0 < left) = true := decide_eq_true hpos
    rw [if_pos hpos]
    clear h2
    go_enter Try.func18, Try.ntmps18
    go_wp2_with (go_at_call 19; refine HC.out.mono ?_; rintro x w2 ⟨rfl, W2, hi2, hn2, ho2⟩; have d0 := hi2.blk.cell 0; have d1 := hi2.blk.cell 1; have f0 := hi2.blk.frozen 0; have f1 := hi2.blk.frozen 1; have HI2 := Lib.hid hi2; have HN2 := Lib.hid hn2; have HO2 := Lib.hid ho2; clear hi2 hn2 ho2)
    have ho : Only [p] w2 ((w2.setCell ⟨p, 1, none⟩ (.int .i64 (done + 1))).setCell ⟨p, 0, none⟩ (.int .i64 (left - 1))) := ((Only.refl [p] w2).setCell (p := ⟨p, 1, none⟩) (.inl (by simp)) _).setCell (p := ⟨p, 0, none⟩) (.inl (by simp)) _
    have hb := (HI2.out.blk.set_ 1 (.int .i64 (done + 1))).set_ 0 (.int .i64 (left - 1))
    have hf := HI2.out.head ho hb (by omega) (by omega)
    go_ret
    exact ⟨rfl, W2, hf, HN2.out, HO2.out.trans (only_p ho) (fun g hg => .inl hg)⟩
  · have e1 : decide (0 < left) = false := decide_eq_false hpos
    rw [if_neg hpos]
    clear h2
    go_enter Try.func18, Try.ntmps18
    go_wp2_with (go_at_call 19; refine HC.out.mono ?_; rintro x w2 ⟨rfl, W2, hi2, hn2, ho2⟩; have d0 := hi2.blk.cell 0; have d1 := hi2.blk.cell 1; have f0 := hi2.blk.frozen 0; have f1 := hi2.blk.frozen 1; have HI2 := Lib.hid hi2; have HN2 := Lib.hid hn2; have HO2 := Lib.hid ho2; clear hi2 hn2 ho2)
    have ho : Only [p] w2 (w2.setCell ⟨p, 1, none⟩ (.int .i64 (done + 1))) := (Only.refl [p] w2).setCell (p := ⟨p, 1, none⟩) (.inl (by simp)) _
    have hb := HI2.out.blk.set_ 1 (.int .i64 (done + 1))
    have hf := HI2.out.head ho hb (by omega) (by omega)
    go_ret
    exact ⟨rfl, W2, hf, HN2.out, HO2.out.trans (only_p ho) (fun g hg => .inl hg)⟩
set_option maxHeartbeats 1000000 in
theorem deed_noW (h : IsD w p g b W cap d) (hd : d.off = true ∨ d.left = 0) (binds : Array Value) :
    Calls Try.prog 18 #[.pointer (some ⟨p, 0, none⟩), .func (.func 21) #[] binds] w fun x w' => x = .returned (.int .i64 3) ∧ IsD w' p g b W cap { d with off := true } ∧ Only [p] w w' := by
  have c0 := h.blk.cell 0
  have c2 := h.blk.cell 2
  have f2 := h.blk.frozen 2
  have HS := Lib.hid h.offed
  obtain ⟨n, left, done, off, safe, wait⟩ := d
  simp only at hd c0 c2
  have hcase : off = true ∨ (off = false ∧ left = 0) := by
    cases off
    · right
      exact ⟨rfl, by simpa using hd⟩
    · exact .inl rfl
  clear h hd
  rcases hcase with rfl | ⟨rfl, rfl⟩
  all_goals
    go_enter Try.func18, Try.ntmps18
    go_wp2_with fail
    go_ret
    exact ⟨rfl, HS.out⟩
set_option maxHeartbeats 2000000 in
theorem deed_yesW (h : IsD w p g b W cap d) (h1 : d.off = false) (h2 : d.left ≠ 0) (hd : d.done ≤ 4611686018427387904) (binds : Array Value) (sf : Nat → List UInt8) (wt : Nat → Option (List UInt8))
    (HC : Calls Try.prog 21 binds w fun x w' => x = .returned (.tuple #[]) ∧ Did w p g b W cap { d with safe := sf, wait := wt } w') :
    Calls Try.prog 18 #[.pointer (some ⟨p, 0, none⟩), .func (.func 21) #[] binds] w fun x w' => x = .returned (.int .i64 0) ∧ Did w p g b W cap (stepD { d with safe := sf, wait := wt }) w' := by
  have c0 := h.blk.cell 0
  have c2 := h.blk.cell 2
  have hl := h.left_
  have hdn := h.done_
  have HC := Lib.hid HC
  obtain ⟨n, left, done, off, safe, wait⟩ := d
  simp only at h1 h2 hd c0 c2 hl hdn HC
  subst h1
  have e0 : (left == 0) = false := by simp [h2]
  unfold stepD
  simp only
  have hw1 : IntKind.i64.wrap (done + 1) = done + 1 := IntWalk.i64_in _ (by omega)
  clear h
  by_cases hpos : 0 < left
  · have e1 : decide (0 < left) = true := decide_eq_true hpos
    rw [if_pos hpos]
    clear h2
    go_enter Try.func18, Try.ntmps18
    go_wp2_with (go_at_call 21; refine HC.out.mono ?_; rintro x w2 ⟨rfl, W2, hi2, hn2, ho2⟩; have d0 := hi2.blk.cell 0; have d1 := hi2.blk.cell 1; have f0 := hi2.blk.frozen 0; have f1 := hi2.blk.frozen 1; have HI2 := Lib.hid hi2; have HN2 := Lib.hid hn2; have HO2 := Lib.hid ho2; clear hi2 hn2 ho2)
    have ho : Only [p] w2 ((w2.setCell ⟨p, 1, none⟩ (.int .i64 (done + 1))).setCell ⟨p, 0, none⟩ (.int .i64 (left - 1))) := ((Only.refl [p] w2).setCell (p := ⟨p, 1, none⟩) (.inl (by simp)) _).setCell (p := ⟨p, 0, none⟩) (.inl (by simp)) _
    have hb := (HI2.out.blk.set_ 1 (.int .i64 (done + 1))).set_ 0 (.int .i64 (left - 1))
    have hf := HI2.out.head ho hb (by omega) (by omega)
    go_ret
    exact ⟨rfl, W2, hf, HN2.out, HO2.out.trans (only_p ho) (fun g hg => .inl hg)⟩
  · have e1 : decide (0 < left) = false := decide_eq_false hpos
    rw [if_neg hpos]
    clear h2
    go_enter Try.func18, Try.ntmps18
    go_wp2_with (go_at_call 21; refine HC.out.mono ?_; rintro x w2 ⟨rfl, W2, hi2, hn2, ho2⟩; have d0 := hi2.blk.cell 0; have d1 := hi2.blk.cell 1; have f0 := hi2.blk.frozen 0; have f1 := hi2.blk.frozen 1; have HI2 := Lib.hid hi2; have HN2 := Lib.hid hn2; have HO2 := Lib.hid ho2; clear hi2 hn2 ho2)
    have ho : Only [p] w2 (w2.setCell ⟨p, 1, none⟩ (.int .i64 (done + 1))) := (Only.refl [p] w2).setCell (p := ⟨p, 1, none⟩) (.inl (by simp)) _
    have hb := HI2.out.blk.set_ 1 (.int .i64 (done + 1))
    have hf := HI2.out.head ho hb (by omega) (by omega)
    go_ret
    exact ⟨rfl, W2, hf, HN2.out, HO2.out.trans (only_p ho) (fun g hg => .inl hg)⟩
end
end Go.Proofs.Ytgbicimbggdpgaa.Disk
