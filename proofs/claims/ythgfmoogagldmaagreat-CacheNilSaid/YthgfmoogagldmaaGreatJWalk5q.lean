/- A half's head is written, and synced. -/
import Derived.Test.YthgfmoogagldmaaGreatJournalB
namespace Go.Proofs.YthgfmoogagldmaaGreat.Journal
open Go.RowKit Disk Go.Proofs.YthgfmoogagldmaaGreat.Frame
set_option linter.unusedVariables false
set_option maxRecDepth 100000
/-- a deed's error, told ahead -/
def errW (d : DS) (i : Int) (l : List UInt8) : Int := if d.off = true ∨ d.left = 0 then 3 else if 0 ≤ i ∧ i < d.n ∧ l.length = 64 then 0 else 1
def errS (d : DS) : Int := if d.off = true ∨ d.left = 0 then 3 else 0
theorem errW_is (d : DS) (i : Int) (l : List UInt8) : (errW d i l = 0 ∧ (wrD d i l).2 = true) ∨ (errW d i l = 1 ∧ (wrD d i l).2 = false) ∨ (errW d i l = 3 ∧ (wrD d i l).2 = false) := by
  unfold errW wrD
  split
  · exact .inr (.inr ⟨rfl, rfl⟩)
  · split
    · exact .inl ⟨rfl, rfl⟩
    · exact .inr (.inl ⟨rfl, rfl⟩)
theorem errS_is (d : DS) : (errS d = 0 ∧ (synD d).2 = true) ∨ (errS d = 3 ∧ (synD d).2 = false) := by
  unfold errS synD
  split
  · exact .inr ⟨rfl, rfl⟩
  · exact .inl ⟨rfl, rfl⟩
section
variable {w w' : World} {p g b cap : Nat} {W : List Nat} {d : DS}
theorem write_e (h : IsD w p g b W cap d) (i : Int) {A : Option Addr} {n c B : Nat} {l : List UInt8} (hr : Bytes w B A n l) (hB : B ≤ w.heap.size) (hd : d.done ≤ 4611686018427387904) (hn : n ≤ 1000000000) :
    Calls Tryz.prog 106 #[.pointer (some ⟨p, 0, none⟩), .int .i64 i, .slice A n c] w fun x w' => x = .returned (.int .i64 (errW d i l)) ∧ Did w p g b W cap (wrD d i l).1 w' :=
  (write_any h i hr hB hd hn).mono fun x w' hx => by
    unfold WriteO at hx
    unfold errW wrD
    split at hx
    · rename_i ho
      rw [if_pos ho, if_pos ho]
      exact hx
    · rename_i ho
      rw [if_neg ho, if_neg ho]
      split at hx
      · rename_i hi
        rw [if_pos hi, if_pos hi]
        exact hx
      · rename_i hi
        rw [if_neg hi, if_neg hi]
        exact hx
theorem sync_e (h : IsD w p g b W cap d) (hd : d.done ≤ 4611686018427387904) : Calls Tryz.prog 59 #[.pointer (some ⟨p, 0, none⟩)] w fun x w' => x = .returned (.int .i64 (errS d)) ∧ Did w p g b W cap (synD d).1 w' :=
  (sync_any h hd).mono fun x w' hx => by
    unfold SyncO at hx
    unfold errS synD
    split at hx
    · rename_i ho
      rw [if_pos ho, if_pos ho]
      exact hx
    · rename_i ho
      rw [if_neg ho, if_neg ho]
      exact hx
/-- what Write answers, at an error that is known -/
theorem write_0 (h : IsD w p g b W cap d) (i : Int) {A : Option Addr} {n c B : Nat} {l : List UInt8} {e : Int} {D : DS} (he : errW d i l = e) (hD : (wrD d i l).1 = D) (hr : Bytes w B A n l) (hB : B ≤ w.heap.size) (hd : d.done ≤ 4611686018427387904) (hn : n ≤ 1000000000) :
    Calls Tryz.prog 106 #[.pointer (some ⟨p, 0, none⟩), .int .i64 i, .slice A n c] w fun x w' => x = .returned (.int .i64 e) ∧ Did w p g b W cap D w' := by
  rw [← he, ← hD]
  exact write_e h i hr hB hd hn
theorem sync_0 (h : IsD w p g b W cap d) {e : Int} {D : DS} (he : errS d = e) (hD : (synD d).1 = D) (hd : d.done ≤ 4611686018427387904) : Calls Tryz.prog 59 #[.pointer (some ⟨p, 0, none⟩)] w fun x w' => x = .returned (.int .i64 e) ∧ Did w p g b W cap D w' := by
  rw [← he, ← hD]
  exact sync_e h hd
set_option maxHeartbeats 2000000 in
theorem lead_any (hd : IsD w p g b W cap d) (h : Half) (hs : h.small) (hdn : d.done ≤ 4611686018427380000) :
    Calls Tryz.prog 60 #[h.val p] w fun x w' => BoolJ w p g b W cap (leadH d h) x w' := by
  obtain ⟨w1, hw1⟩ : ∃ w1, w.alloc (.cells #[.pointer (some ⟨p, 0, none⟩), .int .i64 h.gen, .int .i64 h.fr, .int .i64 h.room] 63) = w1 := ⟨_, rfl⟩
  have ho : Only [] w w1 := by rw [← hw1]; exact (Only.refl [] w).alloc _
  have hbk : Blk w1 w.heap.size 63 #[.pointer (some ⟨p, 0, none⟩), .int .i64 h.gen, .int .i64 h.fr, .int .i64 h.room] := by rw [← hw1]; exact Blk.new w _ _
  have hwp : w.heap.size ∉ [p, g, b] := by
    have h2 := hd.blk.lt
    obtain ⟨C, c1, _⟩ := hd.safe
    have h3 := c1.lt
    have h4 := isD_map_lt hd
    simp; omega
  have h1 := i64_and1 h.gen
  have hle := putB_len ⟨1, h.gen, 0, 0⟩
  have HP := Lib.hid (Frame.put_any ⟨1, h.gen, 0, 0⟩ w1.drew)
  unfold leadH
  obtain ⟨L, hL⟩ : ∃ L, putB ⟨1, h.gen, 0, 0⟩ = L := ⟨_, rfl⟩
  rw [hL] at hle HP ⊢
  obtain ⟨i, hi⟩ : ∃ i, h.gen % 2 = i := ⟨_, rfl⟩
  rw [hi] at h1 ⊢
  have hdone := wr_done d i L
  have hcase := errW_is d i L
  obtain ⟨e, he⟩ : ∃ e, errW d i L = e := ⟨_, rfl⟩
  obtain ⟨D1, hD1⟩ : ∃ D1, (wrD d i L).1 = D1 := ⟨_, rfl⟩
  have hcs := errS_is D1
  obtain ⟨e2, he2⟩ : ∃ e, errS D1 = e := ⟨_, rfl⟩
  obtain ⟨D2, hD2⟩ : ∃ D2, (synD D1).1 = D2 := ⟨_, rfl⟩
  rw [he] at hcase
  rw [hD1] at hdone ⊢
  have HW := Lib.hid (fun (wx wy : World) (h : Only [] w1.drew wx) (A : Option Addr) (n c : Nat) (hb : Bytes wx wx.heap.size A n L) (hn : n = L.length) => (write_0 ((hd.only0 ho.drew).only0 h) i (c := c) he hD1 hb (Nat.le_refl _) (by omega) (by omega)))
  have HS := Lib.hid (fun (wx wy : World) (h : Only [] w1.drew wx) (hh : Did wx p g b W cap D1 wy) => (show ∃ W', Newer wx W W' ∧ Only [p, g, b] wx wy ∧ Calls Tryz.prog 59 #[.pointer (some ⟨p, 0, none⟩)] wy fun x w' => x = .returned (.int .i64 e2) ∧ Did wy p g b W' cap D2 w' from by
    obtain ⟨W', k1, k2, k3⟩ := hh
    exact ⟨W', k2, k3, sync_0 k1 he2 hD2 (by omega)⟩))
  have HB := Lib.hid (fun (wx : World) (h : Only [] w1.drew wx) => (hbk.drew.only h (by simp)))
  have HB3 := Lib.hid (fun (wx wy : World) (h : Only [] w1.drew wx) (k : Only [p, g, b] wx wy) => ((hbk.drew.only h (by simp)).only k hwp))
  have HO := Lib.hid ho.drew
  have y0 := hbk.drew.cell 0
  have y1 := hbk.drew.cell 1
  have HC := Lib.hid hcase
  have HCS := Lib.hid hcs
  have HD2 := Lib.hid hD2
  have HE2 := Lib.hid he2
  clear hd ho hbk hs hwp hL hi hdone he hD1 hcase hcs he2 hD2
  obtain ⟨gen, fr, room⟩ := h
  unfold Half.val
  simp only at hw1 y0 y1 h1 HB HB3 HP hle ⊢
  have hke := HC.out
  rcases hke with ⟨rfl, hk⟩ | ⟨rfl, hk⟩ | ⟨rfl, hk⟩
  · rw [if_pos hk]
    clear HC
    have hks := HCS.out
    rw [HE2.out] at hks
    rw [show synD D1 = (D2, (synD D1).2) from by rw [← HD2.out]]
    rcases hks with ⟨rfl, hk2⟩ | ⟨rfl, hk2⟩
    all_goals
      rw [hk2]
      clear hk hk2 HCS HE2
      go_enter Tryz.func60, Tryz.ntmps60
      go_wp2_with fail
      go_region_held3 (fun w' => w'.cell? ⟨w.heap.size, 0, none⟩ = some (.pointer (some ⟨p, 0, none⟩)) ∧ w'.cell? ⟨w.heap.size, 1, none⟩ = some (.int .i64 gen)) (first | go_keep | (refine ⟨?_, ?_⟩ <;> assumption)) ((first
        | (go_at_call 67; refine HP.out.mono ?_; rintro x w2 ⟨v, rfl, hown, ho2⟩; obtain ⟨A, vc, rfl, hvc, hvm, hrd, _⟩ := hown.shape; have hb2 := HB.out w2 ho2; have x0 := hb2.cell 0; have x1 := hb2.cell 1; have HO2 := Lib.hid ho2; have HW2 := Lib.hid (HW.out w2 w2 ho2 A _ vc hrd rfl); clear hown ho2 hrd hb2)
        | (go_at_call 106; refine HW2.out.mono ?_; rintro x w3 ⟨rfl, hdid⟩; obtain ⟨W', hn3, ho3, hsy⟩ := HS.out w2 w3 HO2.out hdid; have hb3 := HB3.out w2 w3 HO2.out ho3; have z0 := hb3.cell 0; have z1 := hb3.cell 1; have HSY := Lib.hid hsy; have HN3 := Lib.hid hn3; have HO3 := Lib.hid ho3; clear hdid hn3 ho3 hsy hb3)
        | (go_at_call 59; refine HSY.out.mono ?_; rintro x w4 ⟨rfl, hdid⟩; have HD4 := Lib.hid (Did.trans HN3.out HO3.out hdid); obtain ⟨W4, _, _, ho4⟩ := HD4.out; have hb4 := HB3.out w2 w4 HO2.out ho4; have u0 := hb4.cell 0; have u1 := hb4.cell 1; clear hdid ho4 hb4)))
      all_goals
        go_wp2_with fail
        go_ret
        exact ⟨rfl, did_after (HO.out.trans HO2.out (by simp)) HD4.out⟩
  all_goals
    rw [if_neg (by rw [hk]; decide)]
    clear HC hk HCS HE2 HS
    go_enter Tryz.func60, Tryz.ntmps60
    go_wp2_with fail
    first
      | (go_region_law (first
        | (go_simp; go_at_call 67; refine HP.out.mono ?_; rintro x w2 ⟨v, rfl, hown, ho2⟩; obtain ⟨A, vc, rfl, hvc, hvm, hrd, _⟩ := hown.shape; have hb2 := HB.out w2 ho2; have x0 := hb2.cell 0; have x1 := hb2.cell 1; have HO2 := Lib.hid ho2; have HW2 := Lib.hid (HW.out w2 w2 ho2 A _ vc hrd rfl); clear hown ho2 hrd hb2)
        | (go_simp; go_at_call 106; refine HW2.out.mono ?_; rintro x w3 ⟨rfl, hdid⟩)))
      | fail
    all_goals
      go_wp2_with fail
      go_ret
      exact ⟨rfl, did_after (HO.out.trans HO2.out (by simp)) hdid⟩
end
end Go.Proofs.YthgfmoogagldmaaGreat.Journal
