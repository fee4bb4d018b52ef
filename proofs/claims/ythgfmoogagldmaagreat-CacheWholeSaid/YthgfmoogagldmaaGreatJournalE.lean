/- JournalE: Reset, refused; Reset, where the head is not written; Reset, to its end; Reset, whole. -/
import Derived.Test.YthgfmoogagldmaaGreatRanges
import Derived.Test.YthgfmoogagldmaaGreatJWalk13q
set_option linter.unusedVariables false
set_option maxRecDepth 100000
namespace Go.Proofs.YthgfmoogagldmaaGreat.Journal
open Go.RowKit Go.Shelf Disk Go.Proofs.YthgfmoogagldmaaGreat.Frame
section
variable {w w' w7 w8 w9 : World} {p g b cap q base : Nat} {W : List Nat} {d : DS} {js : JS} {v v' : Value} {ss : List Sl} {l : List UInt8}
theorem layH_done (d : DS) (h : Half) (l : List (List UInt8)) : (layH d h l).1.done ≤ d.done + takesL l + 2 ∧ d.done ≤ (layH d h l).1.done := by
  have h1 := layG_done l d h 0 0
  cases e : (layG d h 0 0 l).2.1 with
  | false =>
    rw [layH_no e]
    simp only
    omega
  | true =>
    rw [layH_ok e]
    have h2 := zero_done (layG d h 0 0 l).1 h (layG d h 0 0 l).2.2
    have h3 := syn_done (zeroH (layG d h 0 0 l).1 h (layG d h 0 0 l).2.2).1
    unfold andThen
    split
    · omega
    · show (zeroH (layG d h 0 0 l).1 h (layG d h 0 0 l).2.2).1.done ≤ _ ∧ _ ≤ (zeroH (layG d h 0 0 l).1 h (layG d h 0 0 l).2.2).1.done
      omega
theorem resJ {d : DS} {js : JS} {ls : List (List UInt8)} (hre : refuseJ js ls js.half.room = 0) {D1 D2 : DS} {b1 b2 : Bool} (hL : layH d (halfD d (js.half.gen + 1)) ls = (D1, b1)) (hE : leadH D1 (halfD d (js.half.gen + 1)) = (D2, b2)) :
    resetJ d js ls = if b1 = false then (D1, { js with off := true }, 3) else if b2 = false then (D2, { js with off := true }, 3) else (D2, { js with half := halfD d (js.half.gen + 1), l := ls }, 0) := by
  unfold resetJ
  rw [if_neg (by rw [hre]; decide)]
  simp only
  rw [hL]
  cases b1 with
  | false => simp [andThen]
  | true =>
    rw [andThen_ok (x := (D1, true)) rfl]
    simp only
    rw [hE]
    cases b2 <;> simp
theorem rfits_of {ls : List (List UInt8)} {left : Int} (hre : refuseJ js ls left = 0) : takesL ls ≤ left := by
  unfold refuseJ at hre
  split at hre
  · cases hre
  · split at hre
    · cases hre
    · split at hre
      · cases hre
      · omega
set_option maxHeartbeats 1000000 in
theorem reset_refused (hd : IsD w p g b W cap d) (hn2 : 2 ≤ d.n) (hj : IsJ w p g b q base js v ss) (hWT : ∀ k ∈ W, k ∉ q :: ownL v) (A : Option Addr) (n c : Nat) (ts : List Sl) (hl : ts.length = n) (hr : Reads w w.heap.size 1 A n (ts.map Sl.val)) (hh : Held w (JT p g b q v) ts) (h2k : ∀ s ∈ ts, s.n ≤ 2000) (hn : n ≤ 100000) (hfar : 0 < n → ∀ k ∈ blkOf A, k ∉ JT p g b q v) (hbase : base ≤ w.heap.size) (hdn : d.done ≤ 4611686018426000000)
    (hroom : js.half.room = roomD d) (hgen : 0 ≤ js.half.gen ∧ js.half.gen ≤ 4611686018427380000) (hsmall : (halfD d (js.half.gen + 1)).small) (hre : refuseJ js (ts.map (·.l)) js.half.room ≠ 0) :
    Calls Tryz.prog 17 #[.pointer (some ⟨q, 0, none⟩), .slice A n c] w fun x w' => AppO w p g b W cap q base v ss (resetJ d js (ts.map (·.l))) x w' := by
  have HRF := Lib.hid (refuse_is hj A n c w.heap.size _ ts js.half.room hl hr hh (by omega))
  have HRM := Lib.hid (room_is hj)
  have happ : resetJ d js (ts.map (·.l)) = (d, js, refuseJ js (ts.map (·.l)) js.half.room) := by unfold resetJ; rw [if_pos hre]
  rw [happ]
  obtain ⟨R, hR⟩ : ∃ R, refuseJ js (ts.map (·.l)) js.half.room = R := ⟨_, rfl⟩
  rw [hR] at hre HRF ⊢
  have e1 : (R != 0) = true := by simp [hre]
  have HF := Lib.hid (show AppO w p g b W cap q base v ss (d, js, R) (.returned (.int .i64 R)) w from ⟨rfl, W, v, ss, hd, Newer.refl _ _, hj, Only.refl _ _, FreshV.refl _ _, hWT, NewS.refl _ _⟩)
  clear hd hj hWT hr hfar hh happ hR hroom hgen hsmall hdn h2k hl
  go_enter Tryz.func17, Tryz.ntmps17
  go_wp2_with (first
    | (go_at_call 33; refine HRM.out.mono ?_; rintro x wa ⟨rfl, hwa⟩; have hwa := hwa.symm; subst hwa)
    | (go_at_call 62; refine HRF.out.mono ?_; rintro x wc ⟨rfl, hwc⟩; have hwc := hwc.symm; subst hwc))
  go_ret
  exact HF.out
set_option maxHeartbeats 1000000 in
theorem reset_no0 (hd : IsD w p g b W cap d) (hn2 : 2 ≤ d.n) (hj : IsJ w p g b q base js v ss) (hWT : ∀ k ∈ W, k ∉ q :: ownL v) (A : Option Addr) (n c : Nat) (ts : List Sl) (hl : ts.length = n) (hr : Reads w w.heap.size 1 A n (ts.map Sl.val)) (hh : Held w (JT p g b q v) ts) (h2k : ∀ s ∈ ts, s.n ≤ 2000) (hn : n ≤ 100000) (hfar : 0 < n → ∀ k ∈ blkOf A, k ∉ JT p g b q v) (hbase : base ≤ w.heap.size) (hdn : d.done ≤ 4611686018426000000)
    (hroom : js.half.room = roomD d) (hgen : 0 ≤ js.half.gen ∧ js.half.gen ≤ 4611686018427380000) (hsmall : (halfD d (js.half.gen + 1)).small) (hre : refuseJ js (ts.map (·.l)) js.half.room = 0) {D1 D2 : DS} {b1 b2 : Bool} (hL : layH d (halfD d (js.half.gen + 1)) (ts.map (·.l)) = (D1, b1)) (hE : leadH D1 (halfD d (js.half.gen + 1)) = (D2, b2)) (hb : b1 = false) :
    Calls Tryz.prog 17 #[.pointer (some ⟨q, 0, none⟩), .slice A n c] w fun x w' => AppO w p g b W cap q base v ss (resetJ d js (ts.map (·.l))) x w' := by
  have HRF := Lib.hid (refuse_is hj A n c w.heap.size _ ts js.half.room hl hr hh (by omega))
  have HRM := Lib.hid (room_is hj)
  rw [hre] at HRF
  have hfit := rfits_of hre
  have happ := resJ hre hL hE
  have hld := layH_done d (halfD d (js.half.gen + 1)) (ts.map (·.l))
  rw [hL] at hld
  simp only at hld
  have hrd : roomD d ≤ 100000 := by rw [← hroom]; exact hj.sm.2.2.2
  have HHO := Lib.hid (fun (wx : World) (ho : Only [] w wx) => halfOf_any (hd.only0 ho) (js.half.gen + 1) (by omega) hn2)
  have HLY := Lib.hid (fun (wx : World) (ho : Only [] w wx) => (show Calls Tryz.prog 70 #[(halfD d (js.half.gen + 1)).val p, .slice A n c] wx fun x w' => BoolJ wx p g b W cap (D1, b1) x w' from by
    have := lay_any (hd.only0 ho) hn2 (halfD d (js.half.gen + 1)) hsmall A n c w.heap.size ts hl (hr.only ho (by simp)) (fun h k hk hm => hfar h k hk (jt_of k hm)) ((hh.only ho (by simp) (fun k hk => .inl hk)).sub (fun k hk => jt_of k hk)) hn h2k (by show _ ≤ roomD d; omega) (by omega)
    rw [hL] at this
    exact this))
  have HLD := Lib.hid (fun (wx : World) (Wx : List Nat) (hd : IsD wx p g b Wx cap D1) => (show Calls Tryz.prog 60 #[(halfD d (js.half.gen + 1)).val p] wx fun x w' => BoolJ wx p g b Wx cap (D2, b2) x w' from by
    have := lead_any hd (halfD d (js.half.gen + 1)) hsmall (by omega)
    rw [hE] at this
    exact this))
  have HFO := Lib.hid (fun (Dx : DS) (w1 wx : World) (ho : Only [] w w1) (h : Did w1 p g b W cap Dx wx) => fail_out hd ho hj hWT h)
  have HBJ := Lib.hid (fun (wx : World) (ho : Only [p, g, b] w wx) => hj.blk.only ho (hj.q_far hd))
  have yj := hj.blk
  have x0 := yj.cell 0
  have x1 := yj.cell 1
  have HAPP := Lib.hid happ
  have HPB := Lib.hid (show p < w.heap.size ∧ g < w.heap.size ∧ b < w.heap.size from by
    have h2 := hd.blk.lt
    obtain ⟨C, c1, _⟩ := hd.safe
    have h3 := c1.lt
    have h4 := isD_map_lt hd
    omega)
  obtain ⟨G, hG⟩ : ∃ G, js.half.gen = G := ⟨_, rfl⟩
  rw [hG] at HHO HLY HLD hgen x1
  have hwr : IntKind.i64.wrap (G + 1) = G + 1 := by rw [IntKind.wrap_i64]; omega
  obtain ⟨h, hhd⟩ : ∃ h, halfD d (G + 1) = h := ⟨_, rfl⟩
  rw [hhd] at HHO HLY HLD
  obtain ⟨gen, fr, room⟩ := h
  unfold Half.val at HHO HLY HLD
  simp only at HHO HLY HLD
  subst hb
  clear hr hfar hh happ hld hfit hL hE hhd hre hsmall yj h2k hl
  have HD := Lib.hid hd
  have HJ := Lib.hid hj
  have HWT := Lib.hid hWT
  clear hd hj hWT hroom hG
  go_enter Tryz.func17, Tryz.ntmps17
  go_wp2_with (first
    | (go_at_call 33; refine HRM.out.mono ?_; rintro x wa ⟨rfl, hwa⟩; have hwa := hwa.symm; subst hwa)
    | (go_at_call 62; refine HRF.out.mono ?_; rintro x wc ⟨rfl, hwc⟩; have hwc := hwc.symm; subst hwc))
  refine wp_region_hand (S := fun Y => Y.cell? ⟨q, 0, none⟩ = some (.pointer (some ⟨p, 0, none⟩)) ∧ Y.cell? ⟨q, 1, none⟩ = some (.int .i64 G)) (by kernel_rfl) ?_
  have hS := (show w.drew.cell? ⟨q, 0, none⟩ = some (.pointer (some ⟨p, 0, none⟩)) ∧ w.drew.cell? ⟨q, 1, none⟩ = some (.int .i64 G) from ⟨x0, x1⟩)
  refine takeV 0 (.pointer (some ⟨q, 0, none⟩)) rfl rfl (by kernel_rfl) (fun Y hY => by obtain ⟨y0, y1⟩ := hY; go_simp) hS ?_; simp only [s0A, s0B, s0C]
  refine takeV 1 (.pointer (some ⟨q, 0, none⟩)) rfl rfl (by kernel_rfl) (fun Y hY => by obtain ⟨y0, y1⟩ := hY; go_simp) hS ?_; simp only [s0A, s0B, s0C]
  refine takeV 2 (.pointer (some ⟨q, 0, none⟩)) rfl rfl (by kernel_rfl) (fun Y hY => by obtain ⟨y0, y1⟩ := hY; go_simp) hS ?_; simp only [s0A, s0B, s0C]
  refine takeV 3 (.pointer (some ⟨q, 0, none⟩)) rfl rfl (by kernel_rfl) (fun Y hY => by obtain ⟨y0, y1⟩ := hY; go_simp) hS ?_; simp only [s0A, s0B, s0C]
  refine takeV 4 (.pointer (some ⟨p, 0, none⟩)) rfl rfl (by kernel_rfl) (fun Y hY => by obtain ⟨y0, y1⟩ := hY; go_simp) hS ?_; simp only [s0A, s0B, s0C]
  refine takeV 5 (.pointer (some ⟨q, 0, none⟩)) rfl rfl (by kernel_rfl) (fun Y hY => by obtain ⟨y0, y1⟩ := hY; go_simp) hS ?_; simp only [s0A, s0B, s0C]
  refine takeV 6 (.pointer (some ⟨q, 0, none⟩)) rfl rfl (by kernel_rfl) (fun Y hY => by obtain ⟨y0, y1⟩ := hY; go_simp) hS ?_; simp only [s0A, s0B, s0C]
  refine takeV 7 (.pointer (some ⟨q, 0, none⟩)) rfl rfl (by kernel_rfl) (fun Y hY => by obtain ⟨y0, y1⟩ := hY; go_simp) hS ?_; simp only [s0A, s0B, s0C]
  refine takeV 8 (.pointer (some ⟨q, 1, none⟩)) rfl rfl (by kernel_rfl) (fun Y hY => by obtain ⟨y0, y1⟩ := hY; go_simp) hS ?_; simp only [s0A, s0B, s0C]
  refine takeV 9 (.int .i64 G) rfl rfl (by kernel_rfl) (fun Y hY => by obtain ⟨y0, y1⟩ := hY; go_simp) hS ?_; simp only [s0A, s0B, s0C]
  refine takeV 10 (.int .i64 (G + 1)) rfl rfl (by kernel_rfl) (fun Y hY => by obtain ⟨y0, y1⟩ := hY; go_simp) hS ?_; simp only [s0A, s0B, s0C]
  refine twoH (i := 11) (j := 12) rfl rfl (by kernel_rfl) rfl rfl ?_ ?_
  · skip
    refine call_if rfl (by rfl) ?_ (HHO.out w.drew (Only.refl [] w).drew) ?_
    · go_simp
    rintro x w5 ⟨rfl, ho5⟩
    have ho05 := (Only.refl [] w).drew.trans ho5 (by simp)
    have hS5 := (show w5.cell? ⟨q, 0, none⟩ = some (.pointer (some ⟨p, 0, none⟩)) ∧ w5.cell? ⟨q, 1, none⟩ = some (.int .i64 G) from ⟨ho05.cell x0 (by simp), ho05.cell x1 (by simp)⟩)
    refine ⟨_, rfl, hS5, ?_⟩
    simp only [s0A, s0B, s0C]
    refine oneH (i := 12) rfl (by kernel_rfl) rfl ?_
    go_simp
    refine ⟨⟨(ho05.alloc _).cell x0 (by simp), (ho05.alloc _).cell x1 (by simp)⟩, ?_⟩
    have bz := Blk.new w5 63 #[.pointer none, .int .i64 0, .int .i64 0, .int .i64 0]
    have f0 := bz.frozen 0
    have f1 := bz.frozen 1
    have f2 := bz.frozen 2
    have f3 := bz.frozen 3
    refine oneH (i := 13) rfl (by kernel_rfl) rfl ?_
    go_simp
    refine ⟨⟨(ho05.alloc _).cell x0 (by simp), (ho05.alloc _).cell x1 (by simp)⟩, ?_⟩
    refine wpAnyH_done (by kernel_rfl) ?_ _
    obtain ⟨wy, hwy⟩ : ∃ wy, w5.alloc (.cells #[.pointer (some ⟨p, 0, none⟩), .int .i64 gen, .int .i64 fr, .int .i64 room] 63) = wy := ⟨_, rfl⟩
    rw [hwy]
    have HOY := Lib.hid (show Only [] w wy from by rw [← hwy]; exact ho05.alloc _)
    have bY : Blk wy w5.heap.size 63 #[.pointer (some ⟨p, 0, none⟩), .int .i64 gen, .int .i64 fr, .int .i64 room] := by rw [← hwy]; exact Blk.new w5 _ _
    obtain ⟨r, hrr⟩ : ∃ r, w5.heap.size = r := ⟨_, rfl⟩
    have HRW := Lib.hid (show w.heap.size ≤ r from by rw [← hrr]; exact ho05.size)
    rw [hrr] at bY ⊢
    clear hwy hrr hS5 bz f0 f1 f2 f3 ho5 ho05 hS
    have z0 := bY.cell 0
    have z1 := bY.cell 1
    have z2 := bY.cell 2
    have z3 := bY.cell 3
    go_wp2_with (first
      | (go_at_call 70; refine (HLY.out wy HOY.out).mono ?_; rintro x w6 ⟨rfl, hdid⟩; have HD6 := Lib.hid hdid; clear hdid)
      | (go_at_call 65; refine (HFO.out _ wy _ HOY.out HD6.out).mono ?_; rintro x wz ⟨rfl, hz⟩; have HZZ := Lib.hid hz; clear hz))
    go_ret
    rw [HAPP.out]
    exact ⟨rfl, HZZ.out⟩
  · skip
    go_simp
    refine ⟨⟨((Only.refl [] w).alloc _).cell x0 (by simp), ((Only.refl [] w).alloc _).cell x1 (by simp)⟩, ?_⟩
    rw [show (w.alloc (.cells #[.pointer none, .int .i64 0, .int .i64 0, .int .i64 0] 63)).drew = w.drew.alloc (.cells #[.pointer none, .int .i64 0, .int .i64 0, .int .i64 0] 63) from rfl]
    refine callW (i := 11) rfl (by kernel_rfl) rfl (by rfl) ?_ (HHO.out _ ((Only.refl [] w).drew.alloc _)) ?_
    · go_simp
    rintro x w5 ⟨rfl, ho5⟩
    have ho05 := ((Only.refl [] w).drew.alloc (.cells #[.pointer none, .int .i64 0, .int .i64 0, .int .i64 0] 63)).trans ho5 (by simp)
    have hS5 := (show w5.cell? ⟨q, 0, none⟩ = some (.pointer (some ⟨p, 0, none⟩)) ∧ w5.cell? ⟨q, 1, none⟩ = some (.int .i64 G) from ⟨ho05.cell x0 (by simp), ho05.cell x1 (by simp)⟩)
    have bz : Blk w5 w.heap.size 63 #[.pointer none, .int .i64 0, .int .i64 0, .int .i64 0] := (Blk.new w.drew 63 #[.pointer none, .int .i64 0, .int .i64 0, .int .i64 0]).only ho5 (by simp)
    refine ⟨_, rfl, hS5, ?_⟩
    simp only [s0A, s0B, s0C]
    have e0 := bz.cell 0
    have e1 := bz.cell 1
    have e2 := bz.cell 2
    have e3 := bz.cell 3
    have f0 := bz.frozen 0
    have f1 := bz.frozen 1
    have f2 := bz.frozen 2
    have f3 := bz.frozen 3
    refine oneH (i := 13) rfl (by kernel_rfl) rfl ?_
    go_simp
    have hx0 := (ho05.setCell (p := ⟨w.heap.size, 0, none⟩) (.inr (Nat.le_refl _)) (.pointer (some ⟨p, 0, none⟩))).cell x0 (by simp)
    have hx1 := ((ho05.setCell (p := ⟨w.heap.size, 0, none⟩) (.inr (Nat.le_refl _)) (.pointer (some ⟨p, 0, none⟩))).setCell (p := ⟨w.heap.size, 1, none⟩) (.inr (Nat.le_refl _)) (.int .i64 gen)).cell x1 (by simp)
    refine ⟨⟨hx0, hx1⟩, ?_⟩
    refine wpAnyH_done (by kernel_rfl) ?_ _
    obtain ⟨wy, hwy⟩ : ∃ wy, ((((w5.setCell ⟨w.heap.size, 0, none⟩ (.pointer (some ⟨p, 0, none⟩))).setCell ⟨w.heap.size, 1, none⟩ (.int .i64 gen)).setCell ⟨w.heap.size, 2, none⟩ (.int .i64 fr)).setCell ⟨w.heap.size, 3, none⟩ (.int .i64 room)) = wy := ⟨_, rfl⟩
    rw [hwy]
    have HOY := Lib.hid (show Only [] w wy from by rw [← hwy]; exact only4 ho05 (Nat.le_refl _) _ _ _ _)
    have bY : Blk wy w.heap.size 63 #[.pointer (some ⟨p, 0, none⟩), .int .i64 gen, .int .i64 fr, .int .i64 room] := by rw [← hwy]; exact blk4 bz _ _ _ _
    obtain ⟨r, hrr⟩ : ∃ r, w.heap.size = r := ⟨_, rfl⟩
    have HRW := Lib.hid (show w.heap.size ≤ r from by omega)
    rw [hrr] at bY ⊢
    clear hwy hrr hS5 bz e0 e1 e2 e3 f0 f1 f2 f3 ho5 ho05 hS
    have z0 := bY.cell 0
    have z1 := bY.cell 1
    have z2 := bY.cell 2
    have z3 := bY.cell 3
    go_wp2_with (first
      | (go_at_call 70; refine (HLY.out wy HOY.out).mono ?_; rintro x w6 ⟨rfl, hdid⟩; have HD6 := Lib.hid hdid; clear hdid)
      | (go_at_call 65; refine (HFO.out _ wy _ HOY.out HD6.out).mono ?_; rintro x wz ⟨rfl, hz⟩; have HZZ := Lib.hid hz; clear hz))
    go_ret
    rw [HAPP.out]
    exact ⟨rfl, HZZ.out⟩
end
end Go.Proofs.YthgfmoogagldmaaGreat.Journal
namespace Go.Proofs.YthgfmoogagldmaaGreat.Journal
open Go.RowKit Go.Shelf Disk Go.Proofs.YthgfmoogagldmaaGreat.Frame
section
variable {w w' w7 w8 w9 : World} {p g b cap q base : Nat} {W : List Nat} {d : DS} {js : JS} {v v' : Value} {ss : List Sl} {l : List UInt8}
set_option maxHeartbeats 1000000 in
theorem reset_no1 (hd : IsD w p g b W cap d) (hn2 : 2 ≤ d.n) (hj : IsJ w p g b q base js v ss) (hWT : ∀ k ∈ W, k ∉ q :: ownL v) (A : Option Addr) (n c : Nat) (ts : List Sl) (hl : ts.length = n) (hr : Reads w w.heap.size 1 A n (ts.map Sl.val)) (hh : Held w (JT p g b q v) ts) (h2k : ∀ s ∈ ts, s.n ≤ 2000) (hn : n ≤ 100000) (hfar : 0 < n → ∀ k ∈ blkOf A, k ∉ JT p g b q v) (hbase : base ≤ w.heap.size) (hdn : d.done ≤ 4611686018426000000)
    (hroom : js.half.room = roomD d) (hgen : 0 ≤ js.half.gen ∧ js.half.gen ≤ 4611686018427380000) (hsmall : (halfD d (js.half.gen + 1)).small) (hre : refuseJ js (ts.map (·.l)) js.half.room = 0) {D1 D2 : DS} {b1 b2 : Bool} (hL : layH d (halfD d (js.half.gen + 1)) (ts.map (·.l)) = (D1, b1)) (hE : leadH D1 (halfD d (js.half.gen + 1)) = (D2, b2)) (hb : b1 = true ∧ b2 = false) :
    Calls Tryz.prog 17 #[.pointer (some ⟨q, 0, none⟩), .slice A n c] w fun x w' => AppO w p g b W cap q base v ss (resetJ d js (ts.map (·.l))) x w' := by
  have HRF := Lib.hid (refuse_is hj A n c w.heap.size _ ts js.half.room hl hr hh (by omega))
  have HRM := Lib.hid (room_is hj)
  rw [hre] at HRF
  have hfit := rfits_of hre
  have happ := resJ hre hL hE
  have hld := layH_done d (halfD d (js.half.gen + 1)) (ts.map (·.l))
  rw [hL] at hld
  simp only at hld
  have hrd : roomD d ≤ 100000 := by rw [← hroom]; exact hj.sm.2.2.2
  have HHO := Lib.hid (fun (wx : World) (ho : Only [] w wx) => halfOf_any (hd.only0 ho) (js.half.gen + 1) (by omega) hn2)
  have HLY := Lib.hid (fun (wx : World) (ho : Only [] w wx) => (show Calls Tryz.prog 70 #[(halfD d (js.half.gen + 1)).val p, .slice A n c] wx fun x w' => BoolJ wx p g b W cap (D1, b1) x w' from by
    have := lay_any (hd.only0 ho) hn2 (halfD d (js.half.gen + 1)) hsmall A n c w.heap.size ts hl (hr.only ho (by simp)) (fun h k hk hm => hfar h k hk (jt_of k hm)) ((hh.only ho (by simp) (fun k hk => .inl hk)).sub (fun k hk => jt_of k hk)) hn h2k (by show _ ≤ roomD d; omega) (by omega)
    rw [hL] at this
    exact this))
  have HLD := Lib.hid (fun (wx : World) (Wx : List Nat) (hd : IsD wx p g b Wx cap D1) => (show Calls Tryz.prog 60 #[(halfD d (js.half.gen + 1)).val p] wx fun x w' => BoolJ wx p g b Wx cap (D2, b2) x w' from by
    have := lead_any hd (halfD d (js.half.gen + 1)) hsmall (by omega)
    rw [hE] at this
    exact this))
  have HFO := Lib.hid (fun (Dx : DS) (w1 wx : World) (ho : Only [] w w1) (h : Did w1 p g b W cap Dx wx) => fail_out hd ho hj hWT h)
  have HBJ := Lib.hid (fun (wx : World) (ho : Only [p, g, b] w wx) => hj.blk.only ho (hj.q_far hd))
  have yj := hj.blk
  have x0 := yj.cell 0
  have x1 := yj.cell 1
  have HAPP := Lib.hid happ
  have HPB := Lib.hid (show p < w.heap.size ∧ g < w.heap.size ∧ b < w.heap.size from by
    have h2 := hd.blk.lt
    obtain ⟨C, c1, _⟩ := hd.safe
    have h3 := c1.lt
    have h4 := isD_map_lt hd
    omega)
  obtain ⟨G, hG⟩ : ∃ G, js.half.gen = G := ⟨_, rfl⟩
  rw [hG] at HHO HLY HLD hgen x1
  have hwr : IntKind.i64.wrap (G + 1) = G + 1 := by rw [IntKind.wrap_i64]; omega
  obtain ⟨h, hhd⟩ : ∃ h, halfD d (G + 1) = h := ⟨_, rfl⟩
  rw [hhd] at HHO HLY HLD
  obtain ⟨gen, fr, room⟩ := h
  unfold Half.val at HHO HLY HLD
  simp only at HHO HLY HLD
  obtain ⟨rfl, rfl⟩ := hb
  clear hr hfar hh happ hld hfit hL hE hhd hre hsmall yj h2k hl
  have HD := Lib.hid hd
  have HJ := Lib.hid hj
  have HWT := Lib.hid hWT
  clear hd hj hWT hroom hG
  go_enter Tryz.func17, Tryz.ntmps17
  go_wp2_with (first
    | (go_at_call 33; refine HRM.out.mono ?_; rintro x wa ⟨rfl, hwa⟩; have hwa := hwa.symm; subst hwa)
    | (go_at_call 62; refine HRF.out.mono ?_; rintro x wc ⟨rfl, hwc⟩; have hwc := hwc.symm; subst hwc))
  refine wp_region_hand (S := fun Y => Y.cell? ⟨q, 0, none⟩ = some (.pointer (some ⟨p, 0, none⟩)) ∧ Y.cell? ⟨q, 1, none⟩ = some (.int .i64 G)) (by kernel_rfl) ?_
  have hS := (show w.drew.cell? ⟨q, 0, none⟩ = some (.pointer (some ⟨p, 0, none⟩)) ∧ w.drew.cell? ⟨q, 1, none⟩ = some (.int .i64 G) from ⟨x0, x1⟩)
  refine takeV 0 (.pointer (some ⟨q, 0, none⟩)) rfl rfl (by kernel_rfl) (fun Y hY => by obtain ⟨y0, y1⟩ := hY; go_simp) hS ?_; simp only [s0A, s0B, s0C]
  refine takeV 1 (.pointer (some ⟨q, 0, none⟩)) rfl rfl (by kernel_rfl) (fun Y hY => by obtain ⟨y0, y1⟩ := hY; go_simp) hS ?_; simp only [s0A, s0B, s0C]
  refine takeV 2 (.pointer (some ⟨q, 0, none⟩)) rfl rfl (by kernel_rfl) (fun Y hY => by obtain ⟨y0, y1⟩ := hY; go_simp) hS ?_; simp only [s0A, s0B, s0C]
  refine takeV 3 (.pointer (some ⟨q, 0, none⟩)) rfl rfl (by kernel_rfl) (fun Y hY => by obtain ⟨y0, y1⟩ := hY; go_simp) hS ?_; simp only [s0A, s0B, s0C]
  refine takeV 4 (.pointer (some ⟨p, 0, none⟩)) rfl rfl (by kernel_rfl) (fun Y hY => by obtain ⟨y0, y1⟩ := hY; go_simp) hS ?_; simp only [s0A, s0B, s0C]
  refine takeV 5 (.pointer (some ⟨q, 0, none⟩)) rfl rfl (by kernel_rfl) (fun Y hY => by obtain ⟨y0, y1⟩ := hY; go_simp) hS ?_; simp only [s0A, s0B, s0C]
  refine takeV 6 (.pointer (some ⟨q, 0, none⟩)) rfl rfl (by kernel_rfl) (fun Y hY => by obtain ⟨y0, y1⟩ := hY; go_simp) hS ?_; simp only [s0A, s0B, s0C]
  refine takeV 7 (.pointer (some ⟨q, 0, none⟩)) rfl rfl (by kernel_rfl) (fun Y hY => by obtain ⟨y0, y1⟩ := hY; go_simp) hS ?_; simp only [s0A, s0B, s0C]
  refine takeV 8 (.pointer (some ⟨q, 1, none⟩)) rfl rfl (by kernel_rfl) (fun Y hY => by obtain ⟨y0, y1⟩ := hY; go_simp) hS ?_; simp only [s0A, s0B, s0C]
  refine takeV 9 (.int .i64 G) rfl rfl (by kernel_rfl) (fun Y hY => by obtain ⟨y0, y1⟩ := hY; go_simp) hS ?_; simp only [s0A, s0B, s0C]
  refine takeV 10 (.int .i64 (G + 1)) rfl rfl (by kernel_rfl) (fun Y hY => by obtain ⟨y0, y1⟩ := hY; go_simp) hS ?_; simp only [s0A, s0B, s0C]
  refine twoH (i := 11) (j := 12) rfl rfl (by kernel_rfl) rfl rfl ?_ ?_
  · skip
    refine call_if rfl (by rfl) ?_ (HHO.out w.drew (Only.refl [] w).drew) ?_
    · go_simp
    rintro x w5 ⟨rfl, ho5⟩
    have ho05 := (Only.refl [] w).drew.trans ho5 (by simp)
    have hS5 := (show w5.cell? ⟨q, 0, none⟩ = some (.pointer (some ⟨p, 0, none⟩)) ∧ w5.cell? ⟨q, 1, none⟩ = some (.int .i64 G) from ⟨ho05.cell x0 (by simp), ho05.cell x1 (by simp)⟩)
    refine ⟨_, rfl, hS5, ?_⟩
    simp only [s0A, s0B, s0C]
    refine oneH (i := 12) rfl (by kernel_rfl) rfl ?_
    go_simp
    refine ⟨⟨(ho05.alloc _).cell x0 (by simp), (ho05.alloc _).cell x1 (by simp)⟩, ?_⟩
    have bz := Blk.new w5 63 #[.pointer none, .int .i64 0, .int .i64 0, .int .i64 0]
    have f0 := bz.frozen 0
    have f1 := bz.frozen 1
    have f2 := bz.frozen 2
    have f3 := bz.frozen 3
    refine oneH (i := 13) rfl (by kernel_rfl) rfl ?_
    go_simp
    refine ⟨⟨(ho05.alloc _).cell x0 (by simp), (ho05.alloc _).cell x1 (by simp)⟩, ?_⟩
    refine wpAnyH_done (by kernel_rfl) ?_ _
    obtain ⟨wy, hwy⟩ : ∃ wy, w5.alloc (.cells #[.pointer (some ⟨p, 0, none⟩), .int .i64 gen, .int .i64 fr, .int .i64 room] 63) = wy := ⟨_, rfl⟩
    rw [hwy]
    have HOY := Lib.hid (show Only [] w wy from by rw [← hwy]; exact ho05.alloc _)
    have bY : Blk wy w5.heap.size 63 #[.pointer (some ⟨p, 0, none⟩), .int .i64 gen, .int .i64 fr, .int .i64 room] := by rw [← hwy]; exact Blk.new w5 _ _
    obtain ⟨r, hrr⟩ : ∃ r, w5.heap.size = r := ⟨_, rfl⟩
    have HRW := Lib.hid (show w.heap.size ≤ r from by rw [← hrr]; exact ho05.size)
    rw [hrr] at bY ⊢
    clear hwy hrr hS5 bz f0 f1 f2 f3 ho5 ho05 hS
    have z0 := bY.cell 0
    have z1 := bY.cell 1
    have z2 := bY.cell 2
    have z3 := bY.cell 3
    go_wp2_with (first
      | (go_at_call 70; refine (HLY.out wy HOY.out).mono ?_; rintro x w6 ⟨rfl, hdid⟩; have HD6 := Lib.hid hdid; obtain ⟨W6, hd6, hn6, ho6⟩ := HD6.out; have hrl := bY.lt; have bY6 := bY.only ho6 (by have hz := HPB.out; have hw := HRW.out; simp; omega); have u0 := bY6.cell 0; have u1 := bY6.cell 1; have u2 := bY6.cell 2; have u3 := bY6.cell 3; have HLD6 := Lib.hid (HLD.out w6 W6 hd6); have HN6 := Lib.hid hn6; have HO6 := Lib.hid ho6; have BY6 := Lib.hid bY6; clear hdid hd6 hn6 ho6 bY6)
      | (go_at_call 60; refine HLD6.out.mono ?_; rintro x w7 ⟨rfl, hdid⟩; have HD7 := Lib.hid (Did.trans HN6.out HO6.out hdid); clear hdid)
      | (go_at_call 65; refine (HFO.out _ wy _ HOY.out HD7.out).mono ?_; rintro x wz ⟨rfl, hz⟩; have HZZ := Lib.hid hz; clear hz))
    go_ret
    rw [HAPP.out]
    exact ⟨rfl, HZZ.out⟩
  · skip
    go_simp
    refine ⟨⟨((Only.refl [] w).alloc _).cell x0 (by simp), ((Only.refl [] w).alloc _).cell x1 (by simp)⟩, ?_⟩
    rw [show (w.alloc (.cells #[.pointer none, .int .i64 0, .int .i64 0, .int .i64 0] 63)).drew = w.drew.alloc (.cells #[.pointer none, .int .i64 0, .int .i64 0, .int .i64 0] 63) from rfl]
    refine callW (i := 11) rfl (by kernel_rfl) rfl (by rfl) ?_ (HHO.out _ ((Only.refl [] w).drew.alloc _)) ?_
    · go_simp
    rintro x w5 ⟨rfl, ho5⟩
    have ho05 := ((Only.refl [] w).drew.alloc (.cells #[.pointer none, .int .i64 0, .int .i64 0, .int .i64 0] 63)).trans ho5 (by simp)
    have hS5 := (show w5.cell? ⟨q, 0, none⟩ = some (.pointer (some ⟨p, 0, none⟩)) ∧ w5.cell? ⟨q, 1, none⟩ = some (.int .i64 G) from ⟨ho05.cell x0 (by simp), ho05.cell x1 (by simp)⟩)
    have bz : Blk w5 w.heap.size 63 #[.pointer none, .int .i64 0, .int .i64 0, .int .i64 0] := (Blk.new w.drew 63 #[.pointer none, .int .i64 0, .int .i64 0, .int .i64 0]).only ho5 (by simp)
    refine ⟨_, rfl, hS5, ?_⟩
    simp only [s0A, s0B, s0C]
    have e0 := bz.cell 0
    have e1 := bz.cell 1
    have e2 := bz.cell 2
    have e3 := bz.cell 3
    have f0 := bz.frozen 0
    have f1 := bz.frozen 1
    have f2 := bz.frozen 2
    have f3 := bz.frozen 3
    refine oneH (i := 13) rfl (by kernel_rfl) rfl ?_
    go_simp
    have hx0 := (ho05.setCell (p := ⟨w.heap.size, 0, none⟩) (.inr (Nat.le_refl _)) (.pointer (some ⟨p, 0, none⟩))).cell x0 (by simp)
    have hx1 := ((ho05.setCell (p := ⟨w.heap.size, 0, none⟩) (.inr (Nat.le_refl _)) (.pointer (some ⟨p, 0, none⟩))).setCell (p := ⟨w.heap.size, 1, none⟩) (.inr (Nat.le_refl _)) (.int .i64 gen)).cell x1 (by simp)
    refine ⟨⟨hx0, hx1⟩, ?_⟩
    refine wpAnyH_done (by kernel_rfl) ?_ _
    obtain ⟨wy, hwy⟩ : ∃ wy, ((((w5.setCell ⟨w.heap.size, 0, none⟩ (.pointer (some ⟨p, 0, none⟩))).setCell ⟨w.heap.size, 1, none⟩ (.int .i64 gen)).setCell ⟨w.heap.size, 2, none⟩ (.int .i64 fr)).setCell ⟨w.heap.size, 3, none⟩ (.int .i64 room)) = wy := ⟨_, rfl⟩
    rw [hwy]
    have HOY := Lib.hid (show Only [] w wy from by rw [← hwy]; exact only4 ho05 (Nat.le_refl _) _ _ _ _)
    have bY : Blk wy w.heap.size 63 #[.pointer (some ⟨p, 0, none⟩), .int .i64 gen, .int .i64 fr, .int .i64 room] := by rw [← hwy]; exact blk4 bz _ _ _ _
    obtain ⟨r, hrr⟩ : ∃ r, w.heap.size = r := ⟨_, rfl⟩
    have HRW := Lib.hid (show w.heap.size ≤ r from by omega)
    rw [hrr] at bY ⊢
    clear hwy hrr hS5 bz e0 e1 e2 e3 f0 f1 f2 f3 ho5 ho05 hS
    have z0 := bY.cell 0
    have z1 := bY.cell 1
    have z2 := bY.cell 2
    have z3 := bY.cell 3
    go_wp2_with (first
      | (go_at_call 70; refine (HLY.out wy HOY.out).mono ?_; rintro x w6 ⟨rfl, hdid⟩; have HD6 := Lib.hid hdid; obtain ⟨W6, hd6, hn6, ho6⟩ := HD6.out; have hrl := bY.lt; have bY6 := bY.only ho6 (by have hz := HPB.out; have hw := HRW.out; simp; omega); have u0 := bY6.cell 0; have u1 := bY6.cell 1; have u2 := bY6.cell 2; have u3 := bY6.cell 3; have HLD6 := Lib.hid (HLD.out w6 W6 hd6); have HN6 := Lib.hid hn6; have HO6 := Lib.hid ho6; have BY6 := Lib.hid bY6; clear hdid hd6 hn6 ho6 bY6)
      | (go_at_call 60; refine HLD6.out.mono ?_; rintro x w7 ⟨rfl, hdid⟩; have HD7 := Lib.hid (Did.trans HN6.out HO6.out hdid); clear hdid)
      | (go_at_call 65; refine (HFO.out _ wy _ HOY.out HD7.out).mono ?_; rintro x wz ⟨rfl, hz⟩; have HZZ := Lib.hid hz; clear hz))
    go_ret
    rw [HAPP.out]
    exact ⟨rfl, HZZ.out⟩
end
end Go.Proofs.YthgfmoogagldmaaGreat.Journal
namespace Go.Proofs.YthgfmoogagldmaaGreat.Journal
open Go.RowKit Go.Shelf Disk Go.Proofs.YthgfmoogagldmaaGreat.Frame
section
variable {w w' w7 w8 w9 : World} {p g b cap q base : Nat} {W : List Nat} {d : DS} {js : JS} {v v' : Value} {ss : List Sl} {l : List UInt8}
theorem reads_pos {B n : Nat} {A : Option Addr} {xs : List Value} {S : List Nat} (hr : Reads w B 1 A n xs) (ho : Only S w w') (hn : 0 < n → ∀ k ∈ blkOf A, k ∉ S) : Reads w' B 1 A n xs := by
  rcases Nat.eq_zero_or_pos n with rfl | h
  · exact ⟨hr.1, fun h => absurd h (by omega)⟩
  · exact hr.only ho (hn h)
set_option maxHeartbeats 1000000 in
theorem clones_sep (A : Option Addr) (n c B : Nat) (T : List Nat) (ss : List Sl) (w : World) (hl : ss.length = n) (hr : Reads w B 1 A n (ss.map Sl.val)) (hh : Held w T ss) (hn : n ≤ 1000000) :
    Calls Tryz.prog 71 #[.slice A n c] w fun x w' => ∃ (v : Value) (ts : List Sl), x = .returned v ∧ ts.length = n ∧ OwnR 35 1 w' w.heap.size v n (ts.map fun s => [s.val]) ∧ ts.map (·.l) = ss.map (·.l) ∧
      (∀ t ∈ ts, Bytes w' w'.heap.size t.A t.n t.l ∧ t.n ≤ t.c ∧ t.c ≤ maxLen ∧ t.n ≤ 1048576 ∧ (∀ k ∈ blkOf t.A, w.heap.size ≤ k) ∧ (0 < t.n → ∀ k ∈ blkOf t.A, k ∉ ownL v)) ∧ Only [] w w' := by
  have HR := Lib.hid hr
  have HH := Lib.hid hh
  have HL := Lib.hid hl
  clear hr hh hl
  go_enter Tryz.func71, Tryz.ntmps71
  go_wp2_with fail
  go_loopw [3, 8] (fun v i wr => ∃ (k : Nat) (ts : List Sl), k ≤ n ∧ i = .int .i64 k ∧ ts.length = k ∧ OwnR 35 1 wr w.heap.size v k (ts.map fun s => [s.val]) ∧ ts.map (·.l) = (ss.take k).map (·.l) ∧
      (∀ t ∈ ts, Bytes wr wr.heap.size t.A t.n t.l ∧ t.n ≤ t.c ∧ t.c ≤ maxLen ∧ t.n ≤ 1048576 ∧ (∀ k ∈ blkOf t.A, w.heap.size ≤ k) ∧ (0 < t.n → ∀ k ∈ blkOf t.A, k ∉ ownL v)) ∧ Only [] w wr) (fun _ i _ => n - (intOf i).toNat)
  case atStart => exact ⟨0, [], by omega, rfl, rfl, OwnR.nil_ _ _ _ _, by simp, by simp, Only.refl _ _⟩
  case round =>
    obtain ⟨k, ts, hk, rfl, htl, hown, hmap, hts, ho⟩ := hrel
    by_cases hlt : k < n
    · have e1 : decide ((k : Int) < (n : Int)) = true := decide_eq_true (by omega)
      have e1' : decide (k < n) = true := decide_eq_true hlt
      obtain ⟨bb, off, hA, hbb, s, hs, hsk, hc⟩ := Reads.sl (HR.out.only ho (by simp)) k hlt
      subst hA
      obtain ⟨s1, s2, s3, s4, _⟩ := HH.out s hs
      have HC := Lib.hid (clone_all s.A s.n s.c w.heap.size s.l wr (s1.only ho (by simp)) ho.size (by omega))
      have HTL := Lib.hid htl
      have HMAP := Lib.hid hmap
      have HTS := Lib.hid hts
      have HO := Lib.hid ho
      have HSK := Lib.hid hsk
      have hws := ho.size
      clear s1 htl hmap hts ho hsk hs
      go_wp2_with (first
        | (go_at_call 69; refine HC.out.mono ?_; rintro x w2 ⟨A', c', rfl, hb2, hc1, hc2, ho2, hf2⟩; have ho02 := HO.out.trans ho2 (by simp); have hown2 := hown.only ho2 (by simp); have hws2 := ho2.size)
        | (at_builtin; refine wpList_append1 (w := w2) rfl (.tmp 12) (.tmp 15) 34 rfl Tryz.underlying34 sl_info rfl (by decide) rfl hown2 rfl rfl (row := [(⟨A', s.n, c', s.l⟩ : Sl).val]) rfl rfl (by intro u hu; rw [List.mem_singleton.1 hu]; rfl) (by omega) (by unfold maxLen; omega) (by omega) ?_; intro v' w3 hE))
      go_roundw
      case measure => simp [intOf]; omega
      case rel =>
        have hlt2 := bytes_lt hb2
        have hself : ∀ t : Sl, Bytes w2 w2.heap.size t.A t.n t.l → (0 < t.n → ∀ k ∈ blkOf t.A, k ∉ ownL u3) → 0 < t.n → ∀ k ∈ blkOf t.A, k ∉ ownL v' := fun t h1 h2 hn k hk hm => by
          rcases hE.fresh k hm with e | e
          · exact h2 hn k hk e
          · have := bytes_lt h1 hn k hk; omega
        have hnew : 0 < s.n → ∀ k ∈ blkOf A', k ∉ ownL u3 := fun hn k hk hm => by
          have h1 := hf2 k hk
          obtain ⟨_, t', cs', hb'⟩ := row_blks hown2 k hm
          have h2 := hown.lt k hm
          omega
        refine ⟨k + 1, ts ++ [⟨A', s.n, c', s.l⟩], by omega, by go_num, by rw [List.length_append, HTL.out]; rfl, by rw [List.map_append]; exact hE.own, ?_, ?_, ho02.trans hE.only (fun g hg => .inr (hown2.lt g hg).1)⟩
        · obtain ⟨hks, hks2⟩ := List.getElem?_eq_some_iff.1 HSK.out
          rw [List.map_append, HMAP.out, List.take_succ_eq_append_getElem hks, List.map_append, hks2]
          rfl
        · intro t ht
          rcases List.mem_append.1 ht with ht | ht
          · obtain ⟨t1, t2, t3, t4, t5, t6⟩ := HTS.out t ht
            have t1' := (t1.only ho2 (by simp)).more ho2.size
            exact ⟨(t1'.only_pos hE.only t6).more hE.only.size, t2, t3, t4, t5, hself t t1' t6⟩
          · rw [List.mem_singleton.1 ht]
            exact ⟨(hb2.only_pos hE.only hnew).more hE.only.size, hc1, hc2, s4, fun k hk => Nat.le_trans hws (hf2 k hk), hself ⟨A', s.n, c', s.l⟩ hb2 hnew⟩
    · obtain rfl : k = n := by omega
      have e1 : decide ((k : Int) < (k : Int)) = false := decide_eq_false (by omega)
      have e1' : decide (k < k) = false := decide_eq_false (by omega)
      have hta : ss.take k = ss := List.take_of_length_le (by rw [HL.out]; exact Nat.le_refl _)
      rw [hta] at hmap
      have HTS := Lib.hid hts
      have HO := Lib.hid ho
      clear hts ho
      go_wp2_with fail
      go_ret
      exact ⟨_, rfl, ts, htl, hown, hmap, fun t ht => HTS.out t ht, HO.out⟩
theorem res_out {w1 : World} {Dx : DS} {h : Half} {ls : List (List UInt8)} {n : Nat} {ts : List Sl} (hd : IsD w p g b W cap d) (ho1 : Only [] w w1) (hj : IsJ w p g b q base js v ss) (hWT : ∀ k ∈ W, k ∉ q :: ownL v) (hbase : base ≤ w.heap.size) (hdid : Did w1 p g b W cap Dx w7) (ho8 : Only [] w7 w8) (hl : ts.length = n)
    (hown : OwnR 35 1 w8 w7.heap.size v' n (ts.map fun s => [s.val])) (hmap : ts.map (·.l) = ls) (hts : ∀ t ∈ ts, Bytes w8 w8.heap.size t.A t.n t.l ∧ t.n ≤ t.c ∧ t.c ≤ maxLen ∧ t.n ≤ 1048576 ∧ (∀ k ∈ blkOf t.A, w7.heap.size ≤ k) ∧ (0 < t.n → ∀ k ∈ blkOf t.A, k ∉ ownL v')) (ho9 : Only [q] w8 w9) (hsm : h.small)
    (hblk : Blk w9 q 65 #[.pointer (some ⟨p, 0, none⟩), .int .i64 h.gen, .int .i64 h.fr, .int .i64 h.room, v', .bool js.off]) : AppO w p g b W cap q base v ss (Dx, { js with half := h, l := ls }, 0) (.returned (.int .i64 0)) w9 := by
  obtain ⟨W', k1, k2, k3⟩ := did_after ho1 hdid
  have hq := hj.q_far hd
  have hql := hj.lt
  have h7 := k3.size
  have h8 := ho8.size
  have hpp : p < w7.heap.size ∧ g < w7.heap.size ∧ b < w7.heap.size := by
    have e2 := k1.blk.lt
    obtain ⟨C, c1, _⟩ := k1.safe
    have e3 := c1.lt
    have e4 := isD_map_lt k1
    omega
  have hWx : ∀ k ∈ W', k ≠ q := fun k hk e => by
    rcases k2 k hk with h | h
    · exact hWT k h (by simp [e])
    · omega
  have hqv : q ∉ ownL v' := fun hm => by have := (hown.lt q hm).1; omega
  have h79 : Only [q] w7 w9 := ho8.mono (by simp) |>.trans ho9 (fun k hk => .inl hk)
  subst hl
  refine ⟨rfl, W', v', ts, k1.only h79 ?_ (fun k hk hm => hWx k hk (by simpa using hm)), k2, ⟨hblk, (hown.only ho9 (fun k hk hm => hqv (by rw [List.mem_singleton.1 hm] at hk; exact hk))).mono (by omega), fun t ht => ?_, hmap, hsm⟩, ?_, fun k hk => .inr (by have := (hown.lt k hk).1; omega), fun k hk hm => ?_, fun t ht => .inr fun k hk => Nat.le_trans h7 ((hts t ht).2.2.2.2.1 k hk)⟩
  · simp only [List.mem_cons, not_or, List.not_mem_nil, not_false_eq_true, and_true] at hq ⊢
    exact ⟨fun e => hq.1 e.symm, fun e => hq.2.1 e.symm, fun e => hq.2.2 e.symm⟩
  · obtain ⟨t1, t2, t3, t4, t5, t6⟩ := hts t ht
    refine ⟨(t1.only ho9 (fun k hk hm => by have := t5 k hk; have e := List.mem_singleton.1 hm; omega)).more ho9.size, t2, t3, t4, fun hn k hk hm => ?_⟩
    have h6 := t5 k hk
    unfold JT at hm
    simp only [List.mem_cons] at hm
    rcases hm with e | e | e | e | e
    · omega
    · omega
    · omega
    · omega
    · exact t6 hn k hk e
  · refine (k3.mono (fun k hk => .inl (jt_of k hk))).trans h79 (fun k hk => .inl ?_)
    unfold JT
    simp at hk
    simp [hk]
  · rcases List.mem_cons.1 hm with e | e
    · exact hWx k hk e
    · have := (hown.lt k e).1
      have := k1.low k hk
      omega
set_option maxHeartbeats 1000000 in
theorem reset_ok (hd : IsD w p g b W cap d) (hn2 : 2 ≤ d.n) (hj : IsJ w p g b q base js v ss) (hWT : ∀ k ∈ W, k ∉ q :: ownL v) (A : Option Addr) (n c : Nat) (ts : List Sl) (hl : ts.length = n) (hr : Reads w w.heap.size 1 A n (ts.map Sl.val)) (hh : Held w (JT p g b q v) ts) (h2k : ∀ s ∈ ts, s.n ≤ 2000) (hn : n ≤ 100000) (hfar : 0 < n → ∀ k ∈ blkOf A, k ∉ JT p g b q v) (hbase : base ≤ w.heap.size) (hdn : d.done ≤ 4611686018426000000)
    (hroom : js.half.room = roomD d) (hgen : 0 ≤ js.half.gen ∧ js.half.gen ≤ 4611686018427380000) (hsmall : (halfD d (js.half.gen + 1)).small) (hre : refuseJ js (ts.map (·.l)) js.half.room = 0) {D1 D2 : DS} {b1 b2 : Bool} (hL : layH d (halfD d (js.half.gen + 1)) (ts.map (·.l)) = (D1, b1)) (hE : leadH D1 (halfD d (js.half.gen + 1)) = (D2, b2)) (hb : b1 = true ∧ b2 = true) :
    Calls Tryz.prog 17 #[.pointer (some ⟨q, 0, none⟩), .slice A n c] w fun x w' => AppO w p g b W cap q base v ss (resetJ d js (ts.map (·.l))) x w' := by
  have HRF := Lib.hid (refuse_is hj A n c w.heap.size _ ts js.half.room hl hr hh (by omega))
  have HRM := Lib.hid (room_is hj)
  rw [hre] at HRF
  have hfit := rfits_of hre
  have happ := resJ hre hL hE
  have hld := layH_done d (halfD d (js.half.gen + 1)) (ts.map (·.l))
  rw [hL] at hld
  simp only at hld
  have hrd : roomD d ≤ 100000 := by rw [← hroom]; exact hj.sm.2.2.2
  have HHO := Lib.hid (fun (wx : World) (ho : Only [] w wx) => halfOf_any (hd.only0 ho) (js.half.gen + 1) (by omega) hn2)
  have HLY := Lib.hid (fun (wx : World) (ho : Only [] w wx) => (show Calls Tryz.prog 70 #[(halfD d (js.half.gen + 1)).val p, .slice A n c] wx fun x w' => BoolJ wx p g b W cap (D1, b1) x w' from by
    have := lay_any (hd.only0 ho) hn2 (halfD d (js.half.gen + 1)) hsmall A n c w.heap.size ts hl (hr.only ho (by simp)) (fun h k hk hm => hfar h k hk (jt_of k hm)) ((hh.only ho (by simp) (fun k hk => .inl hk)).sub (fun k hk => jt_of k hk)) hn h2k (by show _ ≤ roomD d; omega) (by omega)
    rw [hL] at this
    exact this))
  have HLD := Lib.hid (fun (wx : World) (Wx : List Nat) (hd : IsD wx p g b Wx cap D1) => (show Calls Tryz.prog 60 #[(halfD d (js.half.gen + 1)).val p] wx fun x w' => BoolJ wx p g b Wx cap (D2, b2) x w' from by
    have := lead_any hd (halfD d (js.half.gen + 1)) hsmall (by omega)
    rw [hE] at this
    exact this))
  have HFO := Lib.hid (fun (Dx : DS) (w1 wx : World) (ho : Only [] w w1) (h : Did w1 p g b W cap Dx wx) => fail_out hd ho hj hWT h)
  have HBJ := Lib.hid (fun (wx : World) (ho : Only [p, g, b] w wx) => hj.blk.only ho (hj.q_far hd))
  have yj := hj.blk
  have x0 := yj.cell 0
  have x1 := yj.cell 1
  have HAPP := Lib.hid happ
  have HCS := Lib.hid (fun (wx : World) (ho : Only [p, g, b] w wx) => clones_sep A n c wx.drew.heap.size _ ts wx.drew hl ((reads_pos hr ho (fun h k hk hm => hfar h k hk (jt_of k hm))).more ho.size).drew (hh.only ho.drew (fun k hk => .inl (jt_of k hk)) (fun k hk => .inl hk)) (by omega))
  have HRO := Lib.hid (fun (w1 w7 w8 w9 : World) (v' : Value) (ts' : List Sl) (ho1 : Only [] w w1) (hdid : Did w1 p g b W cap D2 w7) (ho8 : Only [] w7 w8) (h1 : ts'.length = n) (hown : OwnR 35 1 w8 w7.heap.size v' n (ts'.map fun s => [s.val])) (hmap : ts'.map (·.l) = ts.map (·.l)) (hts : ∀ t ∈ ts', Bytes w8 w8.heap.size t.A t.n t.l ∧ t.n ≤ t.c ∧ t.c ≤ maxLen ∧ t.n ≤ 1048576 ∧ (∀ k ∈ blkOf t.A, w7.heap.size ≤ k) ∧ (0 < t.n → ∀ k ∈ blkOf t.A, k ∉ ownL v')) (ho9 : Only [q] w8 w9) (hblk : Blk w9 q 65 #[.pointer (some ⟨p, 0, none⟩), .int .i64 (halfD d (js.half.gen + 1)).gen, .int .i64 (halfD d (js.half.gen + 1)).fr, .int .i64 (halfD d (js.half.gen + 1)).room, v', .bool js.off]) => res_out hd ho1 hj hWT hbase hdid ho8 h1 hown hmap hts ho9 hsmall hblk)
  have HPB := Lib.hid (show p < w.heap.size ∧ g < w.heap.size ∧ b < w.heap.size from by
    have h2 := hd.blk.lt
    obtain ⟨C, c1, _⟩ := hd.safe
    have h3 := c1.lt
    have h4 := isD_map_lt hd
    omega)
  obtain ⟨G, hG⟩ : ∃ G, js.half.gen = G := ⟨_, rfl⟩
  rw [hG] at HHO HLY HLD HRO HAPP hgen x1
  have hwr : IntKind.i64.wrap (G + 1) = G + 1 := by rw [IntKind.wrap_i64]; omega
  obtain ⟨h, hhd⟩ : ∃ h, halfD d (G + 1) = h := ⟨_, rfl⟩
  rw [hhd] at HHO HLY HLD HRO HAPP
  obtain ⟨gen, fr, room⟩ := h
  unfold Half.val at HHO HLY HLD
  simp only at HHO HLY HLD HRO
  obtain ⟨rfl, rfl⟩ := hb
  clear hr hfar hh happ hld hfit hL hE hhd hre hsmall yj h2k hl
  have HD := Lib.hid hd
  have HJ := Lib.hid hj
  have HWT := Lib.hid hWT
  clear hd hj hWT hroom hG
  go_enter Tryz.func17, Tryz.ntmps17
  go_wp2_with (first
    | (go_at_call 33; refine HRM.out.mono ?_; rintro x wa ⟨rfl, hwa⟩; have hwa := hwa.symm; subst hwa)
    | (go_at_call 62; refine HRF.out.mono ?_; rintro x wc ⟨rfl, hwc⟩; have hwc := hwc.symm; subst hwc))
  refine wp_region_hand (S := fun Y => Y.cell? ⟨q, 0, none⟩ = some (.pointer (some ⟨p, 0, none⟩)) ∧ Y.cell? ⟨q, 1, none⟩ = some (.int .i64 G)) (by kernel_rfl) ?_
  have hS := (show w.drew.cell? ⟨q, 0, none⟩ = some (.pointer (some ⟨p, 0, none⟩)) ∧ w.drew.cell? ⟨q, 1, none⟩ = some (.int .i64 G) from ⟨x0, x1⟩)
  refine takeV 0 (.pointer (some ⟨q, 0, none⟩)) rfl rfl (by kernel_rfl) (fun Y hY => by obtain ⟨y0, y1⟩ := hY; go_simp) hS ?_; simp only [s0A, s0B, s0C]
  refine takeV 1 (.pointer (some ⟨q, 0, none⟩)) rfl rfl (by kernel_rfl) (fun Y hY => by obtain ⟨y0, y1⟩ := hY; go_simp) hS ?_; simp only [s0A, s0B, s0C]
  refine takeV 2 (.pointer (some ⟨q, 0, none⟩)) rfl rfl (by kernel_rfl) (fun Y hY => by obtain ⟨y0, y1⟩ := hY; go_simp) hS ?_; simp only [s0A, s0B, s0C]
  refine takeV 3 (.pointer (some ⟨q, 0, none⟩)) rfl rfl (by kernel_rfl) (fun Y hY => by obtain ⟨y0, y1⟩ := hY; go_simp) hS ?_; simp only [s0A, s0B, s0C]
  refine takeV 4 (.pointer (some ⟨p, 0, none⟩)) rfl rfl (by kernel_rfl) (fun Y hY => by obtain ⟨y0, y1⟩ := hY; go_simp) hS ?_; simp only [s0A, s0B, s0C]
  refine takeV 5 (.pointer (some ⟨q, 0, none⟩)) rfl rfl (by kernel_rfl) (fun Y hY => by obtain ⟨y0, y1⟩ := hY; go_simp) hS ?_; simp only [s0A, s0B, s0C]
  refine takeV 6 (.pointer (some ⟨q, 0, none⟩)) rfl rfl (by kernel_rfl) (fun Y hY => by obtain ⟨y0, y1⟩ := hY; go_simp) hS ?_; simp only [s0A, s0B, s0C]
  refine takeV 7 (.pointer (some ⟨q, 0, none⟩)) rfl rfl (by kernel_rfl) (fun Y hY => by obtain ⟨y0, y1⟩ := hY; go_simp) hS ?_; simp only [s0A, s0B, s0C]
  refine takeV 8 (.pointer (some ⟨q, 1, none⟩)) rfl rfl (by kernel_rfl) (fun Y hY => by obtain ⟨y0, y1⟩ := hY; go_simp) hS ?_; simp only [s0A, s0B, s0C]
  refine takeV 9 (.int .i64 G) rfl rfl (by kernel_rfl) (fun Y hY => by obtain ⟨y0, y1⟩ := hY; go_simp) hS ?_; simp only [s0A, s0B, s0C]
  refine takeV 10 (.int .i64 (G + 1)) rfl rfl (by kernel_rfl) (fun Y hY => by obtain ⟨y0, y1⟩ := hY; go_simp) hS ?_; simp only [s0A, s0B, s0C]
  refine twoH (i := 11) (j := 12) rfl rfl (by kernel_rfl) rfl rfl ?_ ?_
  · skip
    refine call_if rfl (by rfl) ?_ (HHO.out w.drew (Only.refl [] w).drew) ?_
    · go_simp
    rintro x w5 ⟨rfl, ho5⟩
    have ho05 := (Only.refl [] w).drew.trans ho5 (by simp)
    have hS5 := (show w5.cell? ⟨q, 0, none⟩ = some (.pointer (some ⟨p, 0, none⟩)) ∧ w5.cell? ⟨q, 1, none⟩ = some (.int .i64 G) from ⟨ho05.cell x0 (by simp), ho05.cell x1 (by simp)⟩)
    refine ⟨_, rfl, hS5, ?_⟩
    simp only [s0A, s0B, s0C]
    refine oneH (i := 12) rfl (by kernel_rfl) rfl ?_
    go_simp
    refine ⟨⟨(ho05.alloc _).cell x0 (by simp), (ho05.alloc _).cell x1 (by simp)⟩, ?_⟩
    have bz := Blk.new w5 63 #[.pointer none, .int .i64 0, .int .i64 0, .int .i64 0]
    have f0 := bz.frozen 0
    have f1 := bz.frozen 1
    have f2 := bz.frozen 2
    have f3 := bz.frozen 3
    refine oneH (i := 13) rfl (by kernel_rfl) rfl ?_
    go_simp
    refine ⟨⟨(ho05.alloc _).cell x0 (by simp), (ho05.alloc _).cell x1 (by simp)⟩, ?_⟩
    refine wpAnyH_done (by kernel_rfl) ?_ _
    obtain ⟨wy, hwy⟩ : ∃ wy, w5.alloc (.cells #[.pointer (some ⟨p, 0, none⟩), .int .i64 gen, .int .i64 fr, .int .i64 room] 63) = wy := ⟨_, rfl⟩
    rw [hwy]
    have HOY := Lib.hid (show Only [] w wy from by rw [← hwy]; exact ho05.alloc _)
    have bY : Blk wy w5.heap.size 63 #[.pointer (some ⟨p, 0, none⟩), .int .i64 gen, .int .i64 fr, .int .i64 room] := by rw [← hwy]; exact Blk.new w5 _ _
    obtain ⟨r, hrr⟩ : ∃ r, w5.heap.size = r := ⟨_, rfl⟩
    have HRW := Lib.hid (show w.heap.size ≤ r from by rw [← hrr]; exact ho05.size)
    rw [hrr] at bY ⊢
    clear hwy hrr hS5 bz f0 f1 f2 f3 ho5 ho05 hS
    have z0 := bY.cell 0
    have z1 := bY.cell 1
    have z2 := bY.cell 2
    have z3 := bY.cell 3
    go_wp2_with (first
      | (go_at_call 70; refine (HLY.out wy HOY.out).mono ?_; rintro x w6 ⟨rfl, hdid⟩; have HD6 := Lib.hid hdid; obtain ⟨W6, hd6, hn6, ho6⟩ := HD6.out; have hrl := bY.lt; have bY6 := bY.only ho6 (by have hz := HPB.out; have hw := HRW.out; simp; omega); have u0 := bY6.cell 0; have u1 := bY6.cell 1; have u2 := bY6.cell 2; have u3 := bY6.cell 3; have HLD6 := Lib.hid (HLD.out w6 W6 hd6); have HN6 := Lib.hid hn6; have HO6 := Lib.hid ho6; have BY6 := Lib.hid bY6; clear hdid hd6 hn6 ho6 bY6)
      | (go_at_call 60; refine HLD6.out.mono ?_; rintro x w7 ⟨rfl, hdid⟩; have HD7 := Lib.hid (Did.trans HN6.out HO6.out hdid); clear hdid)
      | fail)
    have hz := HPB.out
    have hw := HRW.out
    obtain ⟨W7, hd7, hn7, ho7⟩ := HD7.out
    have bY7 := bY.only ho7 (by simp; omega)
    have hqr : q ≠ r := by have := HJ.out.lt; omega
    have hrq : r ≠ q := fun e => hqr e.symm
    have ho37 : Only [p, g, b] w w7 := (HOY.out.mono (S' := [p, g, b]) (by simp)).trans ho7 (fun k hk => .inl hk)
    have bJ7 := HBJ.out w7 ho37
    have HCL := Lib.hid (HCS.out w7 ho37)
    refine wp_region_hand (S := fun Y => Y.cell? ⟨r, 0, none⟩ = some (.pointer (some ⟨p, 0, none⟩)) ∧ Y.cell? ⟨r, 1, none⟩ = some (.int .i64 gen) ∧ Y.cell? ⟨r, 2, none⟩ = some (.int .i64 fr) ∧ Y.cell? ⟨r, 3, none⟩ = some (.int .i64 room)) (by kernel_rfl) ?_
    have hS7 := (show w7.drew.cell? ⟨r, 0, none⟩ = some (.pointer (some ⟨p, 0, none⟩)) ∧ w7.drew.cell? ⟨r, 1, none⟩ = some (.int .i64 gen) ∧ w7.drew.cell? ⟨r, 2, none⟩ = some (.int .i64 fr) ∧ w7.drew.cell? ⟨r, 3, none⟩ = some (.int .i64 room) from ⟨bY7.cell 0, bY7.cell 1, bY7.cell 2, bY7.cell 3⟩)
    refine takeV 0 (.pointer (some ⟨q, 0, none⟩)) rfl rfl (by kernel_rfl) (fun Y hY => by obtain ⟨y0, y1, y2, y3⟩ := hY; go_simp) hS7 ?_; simp only [s0A, s0B, s0C]
    refine takeV 1 (.pointer (some ⟨q, 0, none⟩)) rfl rfl (by kernel_rfl) (fun Y hY => by obtain ⟨y0, y1, y2, y3⟩ := hY; go_simp) hS7 ?_; simp only [s0A, s0B, s0C]
    refine takeV 2 (.agg #[.pointer (some ⟨p, 0, none⟩), .int .i64 gen, .int .i64 fr, .int .i64 room]) rfl rfl (by kernel_rfl) (fun Y hY => by obtain ⟨y0, y1, y2, y3⟩ := hY; go_simp) hS7 ?_; simp only [s0A, s0B, s0C]
    refine takeV 3 (.slice A n c) rfl rfl (by kernel_rfl) (fun Y hY => by obtain ⟨y0, y1, y2, y3⟩ := hY; go_simp) hS7 ?_; simp only [s0A, s0B, s0C]
    refine callW (i := 4) rfl (by kernel_rfl) rfl (by rfl) ?_ HCL.out ?_
    · go_simp
    rintro x w8 ⟨v2, ts2, rfl, htl, hown8, hmap8, hts8, ho8⟩
    have bY8 := bY7.drew.only ho8 (by simp)
    have hS8 := (show w8.cell? ⟨r, 0, none⟩ = some (.pointer (some ⟨p, 0, none⟩)) ∧ w8.cell? ⟨r, 1, none⟩ = some (.int .i64 gen) ∧ w8.cell? ⟨r, 2, none⟩ = some (.int .i64 fr) ∧ w8.cell? ⟨r, 3, none⟩ = some (.int .i64 room) from ⟨bY8.cell 0, bY8.cell 1, bY8.cell 2, bY8.cell 3⟩)
    have bJ8 := bJ7.drew.only ho8 (by simp)
    refine ⟨_, rfl, hS8, ?_⟩
    simp only [s0A, s0B, s0C]
    refine takeV 5 (.pointer (some ⟨q, 0, none⟩)) rfl rfl (by kernel_rfl) (fun Y hY => by obtain ⟨y0, y1, y2, y3⟩ := hY; go_simp) hS8 ?_; simp only [s0A, s0B, s0C]
    refine takeV 6 (.pointer (some ⟨q, 0, none⟩)) rfl rfl (by kernel_rfl) (fun Y hY => by obtain ⟨y0, y1, y2, y3⟩ := hY; go_simp) hS8 ?_; simp only [s0A, s0B, s0C]
    have c0 := bJ8.cell 0
    have c1 := bJ8.cell 1
    have c2 := bJ8.cell 2
    have c3 := bJ8.cell 3
    have g0 := bJ8.frozen 0
    have g1 := bJ8.frozen 1
    have g2 := bJ8.frozen 2
    have g3 := bJ8.frozen 3
    have s0 := bY8.cell 0
    have s1 := bY8.cell 1
    have s2 := bY8.cell 2
    have s3 := bY8.cell 3
    refine oneH (i := 7) rfl (by kernel_rfl) rfl ?_
    go_simp
    obtain ⟨w9, hw9⟩ : ∃ w9, ((((w8.setCell ⟨q, 0, none⟩ (.pointer (some ⟨p, 0, none⟩))).setCell ⟨q, 1, none⟩ (.int .i64 gen)).setCell ⟨q, 2, none⟩ (.int .i64 fr)).setCell ⟨q, 3, none⟩ (.int .i64 room)) = w9 := ⟨_, rfl⟩
    rw [hw9]
    have ho89 : Only [q] w8 w9 := by
      rw [← hw9]
      exact ((((Only.refl [q] w8).setCell (p := ⟨q, 0, none⟩) (.inl (by simp)) _).setCell (p := ⟨q, 1, none⟩) (.inl (by simp)) _).setCell (p := ⟨q, 2, none⟩) (.inl (by simp)) _).setCell (p := ⟨q, 3, none⟩) (.inl (by simp)) _
    have bJ9 : Blk w9 q 65 #[.pointer (some ⟨p, 0, none⟩), .int .i64 gen, .int .i64 fr, .int .i64 room, v, .bool js.off] := by
      rw [← hw9]
      exact (((bJ8.set_ 0 _).set_ 1 _).set_ 2 _).set_ 3 _
    have bY9 := bY8.only ho89 (by simp; exact hrq)
    have hS9 := (show w9.cell? ⟨r, 0, none⟩ = some (.pointer (some ⟨p, 0, none⟩)) ∧ w9.cell? ⟨r, 1, none⟩ = some (.int .i64 gen) ∧ w9.cell? ⟨r, 2, none⟩ = some (.int .i64 fr) ∧ w9.cell? ⟨r, 3, none⟩ = some (.int .i64 room) from ⟨bY9.cell 0, bY9.cell 1, bY9.cell 2, bY9.cell 3⟩)
    clear hw9

    refine takeV 8 (.pointer (some ⟨q, 0, none⟩)) rfl rfl (by kernel_rfl) (fun Y hY => by obtain ⟨y0, y1, y2, y3⟩ := hY; go_simp) hS9 ?_; simp only [s0A, s0B, s0C]
    refine takeV 9 (.pointer (some ⟨q, 4, none⟩)) rfl rfl (by kernel_rfl) (fun Y hY => by obtain ⟨y0, y1, y2, y3⟩ := hY; go_simp) hS9 ?_; simp only [s0A, s0B, s0C]
    have c4 := bJ9.cell 4
    have g4 := bJ9.frozen 4
    have k0 := bY9.cell 0
    have k1 := bY9.cell 1
    have k2 := bY9.cell 2
    have k3 := bY9.cell 3
    obtain ⟨A2, c2', rfl, _, _, _, _⟩ := hown8.shape (by decide)
    refine oneH (i := 10) rfl (by kernel_rfl) rfl ?_
    go_simp
    refine ⟨by kernel_rfl, ?_⟩
    have HF := Lib.hid (HRO.out wy w7 w8 _ _ ts2 HOY.out HD7.out ((Only.refl [] w7).drew.trans ho8 (by simp)) htl hown8 hmap8 hts8 (ho89.setCell (p := ⟨q, 4, none⟩) (.inl (by simp)) _) (bJ9.set_ 4 _))
    go_wp2_with fail
    go_ret
    rw [HAPP.out]
    exact HF.out
  · skip
    go_simp
    refine ⟨⟨((Only.refl [] w).alloc _).cell x0 (by simp), ((Only.refl [] w).alloc _).cell x1 (by simp)⟩, ?_⟩
    rw [show (w.alloc (.cells #[.pointer none, .int .i64 0, .int .i64 0, .int .i64 0] 63)).drew = w.drew.alloc (.cells #[.pointer none, .int .i64 0, .int .i64 0, .int .i64 0] 63) from rfl]
    refine callW (i := 11) rfl (by kernel_rfl) rfl (by rfl) ?_ (HHO.out _ ((Only.refl [] w).drew.alloc _)) ?_
    · go_simp
    rintro x w5 ⟨rfl, ho5⟩
    have ho05 := ((Only.refl [] w).drew.alloc (.cells #[.pointer none, .int .i64 0, .int .i64 0, .int .i64 0] 63)).trans ho5 (by simp)
    have hS5 := (show w5.cell? ⟨q, 0, none⟩ = some (.pointer (some ⟨p, 0, none⟩)) ∧ w5.cell? ⟨q, 1, none⟩ = some (.int .i64 G) from ⟨ho05.cell x0 (by simp), ho05.cell x1 (by simp)⟩)
    have bz : Blk w5 w.heap.size 63 #[.pointer none, .int .i64 0, .int .i64 0, .int .i64 0] := (Blk.new w.drew 63 #[.pointer none, .int .i64 0, .int .i64 0, .int .i64 0]).only ho5 (by simp)
    refine ⟨_, rfl, hS5, ?_⟩
    simp only [s0A, s0B, s0C]
    have e0 := bz.cell 0
    have e1 := bz.cell 1
    have e2 := bz.cell 2
    have e3 := bz.cell 3
    have f0 := bz.frozen 0
    have f1 := bz.frozen 1
    have f2 := bz.frozen 2
    have f3 := bz.frozen 3
    refine oneH (i := 13) rfl (by kernel_rfl) rfl ?_
    go_simp
    have hx0 := (ho05.setCell (p := ⟨w.heap.size, 0, none⟩) (.inr (Nat.le_refl _)) (.pointer (some ⟨p, 0, none⟩))).cell x0 (by simp)
    have hx1 := ((ho05.setCell (p := ⟨w.heap.size, 0, none⟩) (.inr (Nat.le_refl _)) (.pointer (some ⟨p, 0, none⟩))).setCell (p := ⟨w.heap.size, 1, none⟩) (.inr (Nat.le_refl _)) (.int .i64 gen)).cell x1 (by simp)
    refine ⟨⟨hx0, hx1⟩, ?_⟩
    refine wpAnyH_done (by kernel_rfl) ?_ _
    obtain ⟨wy, hwy⟩ : ∃ wy, ((((w5.setCell ⟨w.heap.size, 0, none⟩ (.pointer (some ⟨p, 0, none⟩))).setCell ⟨w.heap.size, 1, none⟩ (.int .i64 gen)).setCell ⟨w.heap.size, 2, none⟩ (.int .i64 fr)).setCell ⟨w.heap.size, 3, none⟩ (.int .i64 room)) = wy := ⟨_, rfl⟩
    rw [hwy]
    have HOY := Lib.hid (show Only [] w wy from by rw [← hwy]; exact only4 ho05 (Nat.le_refl _) _ _ _ _)
    have bY : Blk wy w.heap.size 63 #[.pointer (some ⟨p, 0, none⟩), .int .i64 gen, .int .i64 fr, .int .i64 room] := by rw [← hwy]; exact blk4 bz _ _ _ _
    obtain ⟨r, hrr⟩ : ∃ r, w.heap.size = r := ⟨_, rfl⟩
    have HRW := Lib.hid (show w.heap.size ≤ r from by omega)
    rw [hrr] at bY ⊢
    clear hwy hrr hS5 bz e0 e1 e2 e3 f0 f1 f2 f3 ho5 ho05 hS
    have z0 := bY.cell 0
    have z1 := bY.cell 1
    have z2 := bY.cell 2
    have z3 := bY.cell 3
    go_wp2_with (first
      | (go_at_call 70; refine (HLY.out wy HOY.out).mono ?_; rintro x w6 ⟨rfl, hdid⟩; have HD6 := Lib.hid hdid; obtain ⟨W6, hd6, hn6, ho6⟩ := HD6.out; have hrl := bY.lt; have bY6 := bY.only ho6 (by have hz := HPB.out; have hw := HRW.out; simp; omega); have u0 := bY6.cell 0; have u1 := bY6.cell 1; have u2 := bY6.cell 2; have u3 := bY6.cell 3; have HLD6 := Lib.hid (HLD.out w6 W6 hd6); have HN6 := Lib.hid hn6; have HO6 := Lib.hid ho6; have BY6 := Lib.hid bY6; clear hdid hd6 hn6 ho6 bY6)
      | (go_at_call 60; refine HLD6.out.mono ?_; rintro x w7 ⟨rfl, hdid⟩; have HD7 := Lib.hid (Did.trans HN6.out HO6.out hdid); clear hdid)
      | fail)
    have hz := HPB.out
    have hw := HRW.out
    obtain ⟨W7, hd7, hn7, ho7⟩ := HD7.out
    have bY7 := bY.only ho7 (by simp; omega)
    have hqr : q ≠ r := by have := HJ.out.lt; omega
    have hrq : r ≠ q := fun e => hqr e.symm
    have ho37 : Only [p, g, b] w w7 := (HOY.out.mono (S' := [p, g, b]) (by simp)).trans ho7 (fun k hk => .inl hk)
    have bJ7 := HBJ.out w7 ho37
    have HCL := Lib.hid (HCS.out w7 ho37)
    refine wp_region_hand (S := fun Y => Y.cell? ⟨r, 0, none⟩ = some (.pointer (some ⟨p, 0, none⟩)) ∧ Y.cell? ⟨r, 1, none⟩ = some (.int .i64 gen) ∧ Y.cell? ⟨r, 2, none⟩ = some (.int .i64 fr) ∧ Y.cell? ⟨r, 3, none⟩ = some (.int .i64 room)) (by kernel_rfl) ?_
    have hS7 := (show w7.drew.cell? ⟨r, 0, none⟩ = some (.pointer (some ⟨p, 0, none⟩)) ∧ w7.drew.cell? ⟨r, 1, none⟩ = some (.int .i64 gen) ∧ w7.drew.cell? ⟨r, 2, none⟩ = some (.int .i64 fr) ∧ w7.drew.cell? ⟨r, 3, none⟩ = some (.int .i64 room) from ⟨bY7.cell 0, bY7.cell 1, bY7.cell 2, bY7.cell 3⟩)
    refine takeV 0 (.pointer (some ⟨q, 0, none⟩)) rfl rfl (by kernel_rfl) (fun Y hY => by obtain ⟨y0, y1, y2, y3⟩ := hY; go_simp) hS7 ?_; simp only [s0A, s0B, s0C]
    refine takeV 1 (.pointer (some ⟨q, 0, none⟩)) rfl rfl (by kernel_rfl) (fun Y hY => by obtain ⟨y0, y1, y2, y3⟩ := hY; go_simp) hS7 ?_; simp only [s0A, s0B, s0C]
    refine takeV 2 (.agg #[.pointer (some ⟨p, 0, none⟩), .int .i64 gen, .int .i64 fr, .int .i64 room]) rfl rfl (by kernel_rfl) (fun Y hY => by obtain ⟨y0, y1, y2, y3⟩ := hY; go_simp) hS7 ?_; simp only [s0A, s0B, s0C]
    refine takeV 3 (.slice A n c) rfl rfl (by kernel_rfl) (fun Y hY => by obtain ⟨y0, y1, y2, y3⟩ := hY; go_simp) hS7 ?_; simp only [s0A, s0B, s0C]
    refine callW (i := 4) rfl (by kernel_rfl) rfl (by rfl) ?_ HCL.out ?_
    · go_simp
    rintro x w8 ⟨v2, ts2, rfl, htl, hown8, hmap8, hts8, ho8⟩
    have bY8 := bY7.drew.only ho8 (by simp)
    have hS8 := (show w8.cell? ⟨r, 0, none⟩ = some (.pointer (some ⟨p, 0, none⟩)) ∧ w8.cell? ⟨r, 1, none⟩ = some (.int .i64 gen) ∧ w8.cell? ⟨r, 2, none⟩ = some (.int .i64 fr) ∧ w8.cell? ⟨r, 3, none⟩ = some (.int .i64 room) from ⟨bY8.cell 0, bY8.cell 1, bY8.cell 2, bY8.cell 3⟩)
    have bJ8 := bJ7.drew.only ho8 (by simp)
    refine ⟨_, rfl, hS8, ?_⟩
    simp only [s0A, s0B, s0C]
    refine takeV 5 (.pointer (some ⟨q, 0, none⟩)) rfl rfl (by kernel_rfl) (fun Y hY => by obtain ⟨y0, y1, y2, y3⟩ := hY; go_simp) hS8 ?_; simp only [s0A, s0B, s0C]
    refine takeV 6 (.pointer (some ⟨q, 0, none⟩)) rfl rfl (by kernel_rfl) (fun Y hY => by obtain ⟨y0, y1, y2, y3⟩ := hY; go_simp) hS8 ?_; simp only [s0A, s0B, s0C]
    have c0 := bJ8.cell 0
    have c1 := bJ8.cell 1
    have c2 := bJ8.cell 2
    have c3 := bJ8.cell 3
    have g0 := bJ8.frozen 0
    have g1 := bJ8.frozen 1
    have g2 := bJ8.frozen 2
    have g3 := bJ8.frozen 3
    have s0 := bY8.cell 0
    have s1 := bY8.cell 1
    have s2 := bY8.cell 2
    have s3 := bY8.cell 3
    refine oneH (i := 7) rfl (by kernel_rfl) rfl ?_
    go_simp
    obtain ⟨w9, hw9⟩ : ∃ w9, ((((w8.setCell ⟨q, 0, none⟩ (.pointer (some ⟨p, 0, none⟩))).setCell ⟨q, 1, none⟩ (.int .i64 gen)).setCell ⟨q, 2, none⟩ (.int .i64 fr)).setCell ⟨q, 3, none⟩ (.int .i64 room)) = w9 := ⟨_, rfl⟩
    rw [hw9]
    have ho89 : Only [q] w8 w9 := by
      rw [← hw9]
      exact ((((Only.refl [q] w8).setCell (p := ⟨q, 0, none⟩) (.inl (by simp)) _).setCell (p := ⟨q, 1, none⟩) (.inl (by simp)) _).setCell (p := ⟨q, 2, none⟩) (.inl (by simp)) _).setCell (p := ⟨q, 3, none⟩) (.inl (by simp)) _
    have bJ9 : Blk w9 q 65 #[.pointer (some ⟨p, 0, none⟩), .int .i64 gen, .int .i64 fr, .int .i64 room, v, .bool js.off] := by
      rw [← hw9]
      exact (((bJ8.set_ 0 _).set_ 1 _).set_ 2 _).set_ 3 _
    have bY9 := bY8.only ho89 (by simp; exact hrq)
    have hS9 := (show w9.cell? ⟨r, 0, none⟩ = some (.pointer (some ⟨p, 0, none⟩)) ∧ w9.cell? ⟨r, 1, none⟩ = some (.int .i64 gen) ∧ w9.cell? ⟨r, 2, none⟩ = some (.int .i64 fr) ∧ w9.cell? ⟨r, 3, none⟩ = some (.int .i64 room) from ⟨bY9.cell 0, bY9.cell 1, bY9.cell 2, bY9.cell 3⟩)
    clear hw9

    refine takeV 8 (.pointer (some ⟨q, 0, none⟩)) rfl rfl (by kernel_rfl) (fun Y hY => by obtain ⟨y0, y1, y2, y3⟩ := hY; go_simp) hS9 ?_; simp only [s0A, s0B, s0C]
    refine takeV 9 (.pointer (some ⟨q, 4, none⟩)) rfl rfl (by kernel_rfl) (fun Y hY => by obtain ⟨y0, y1, y2, y3⟩ := hY; go_simp) hS9 ?_; simp only [s0A, s0B, s0C]
    have c4 := bJ9.cell 4
    have g4 := bJ9.frozen 4
    have k0 := bY9.cell 0
    have k1 := bY9.cell 1
    have k2 := bY9.cell 2
    have k3 := bY9.cell 3
    obtain ⟨A2, c2', rfl, _, _, _, _⟩ := hown8.shape (by decide)
    refine oneH (i := 10) rfl (by kernel_rfl) rfl ?_
    go_simp
    refine ⟨by kernel_rfl, ?_⟩
    have HF := Lib.hid (HRO.out wy w7 w8 _ _ ts2 HOY.out HD7.out ((Only.refl [] w7).drew.trans ho8 (by simp)) htl hown8 hmap8 hts8 (ho89.setCell (p := ⟨q, 4, none⟩) (.inl (by simp)) _) (bJ9.set_ 4 _))
    go_wp2_with fail
    go_ret
    rw [HAPP.out]
    exact HF.out
end
end Go.Proofs.YthgfmoogagldmaaGreat.Journal
namespace Go.Proofs.YthgfmoogagldmaaGreat.Journal
open Go.RowKit Go.Shelf Disk Go.Proofs.YthgfmoogagldmaaGreat.Frame
section
variable {w w' w7 w8 w9 : World} {p g b cap q base : Nat} {W : List Nat} {d : DS} {js : JS} {v v' : Value} {ss : List Sl} {l : List UInt8}
theorem reset_any (hd : IsD w p g b W cap d) (hn2 : 2 ≤ d.n) (hj : IsJ w p g b q base js v ss) (hWT : ∀ k ∈ W, k ∉ q :: ownL v) (A : Option Addr) (n c : Nat) (ts : List Sl) (hl : ts.length = n) (hr : Reads w w.heap.size 1 A n (ts.map Sl.val)) (hh : Held w (JT p g b q v) ts) (h2k : ∀ s ∈ ts, s.n ≤ 2000) (hn : n ≤ 100000) (hfar : 0 < n → ∀ k ∈ blkOf A, k ∉ JT p g b q v) (hbase : base ≤ w.heap.size) (hdn : d.done ≤ 4611686018426000000)
    (hroom : js.half.room = roomD d) (hgen : 0 ≤ js.half.gen ∧ js.half.gen ≤ 4611686018427380000) (hsmall : (halfD d (js.half.gen + 1)).small) :
    Calls Tryz.prog 17 #[.pointer (some ⟨q, 0, none⟩), .slice A n c] w fun x w' => AppO w p g b W cap q base v ss (resetJ d js (ts.map (·.l))) x w' := by
  by_cases hre : refuseJ js (ts.map (·.l)) js.half.room = 0
  · obtain ⟨⟨D1, b1⟩, hL⟩ : ∃ r, layH d (halfD d (js.half.gen + 1)) (ts.map (·.l)) = r := ⟨_, rfl⟩
    obtain ⟨⟨D2, b2⟩, hE⟩ : ∃ r, leadH D1 (halfD d (js.half.gen + 1)) = r := ⟨_, rfl⟩
    cases e1 : b1 with
    | false => exact reset_no0 hd hn2 hj hWT A n c ts hl hr hh h2k hn hfar hbase hdn hroom hgen hsmall hre hL hE e1
    | true =>
      cases e2 : b2 with
      | false => exact reset_no1 hd hn2 hj hWT A n c ts hl hr hh h2k hn hfar hbase hdn hroom hgen hsmall hre hL hE ⟨e1, e2⟩
      | true => exact reset_ok hd hn2 hj hWT A n c ts hl hr hh h2k hn hfar hbase hdn hroom hgen hsmall hre hL hE ⟨e1, e2⟩
  · exact reset_refused hd hn2 hj hWT A n c ts hl hr hh h2k hn hfar hbase hdn hroom hgen hsmall hre
end
end Go.Proofs.YthgfmoogagldmaaGreat.Journal
