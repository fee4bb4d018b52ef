/- Append, where it stops early: PRINTED by wip/gen_append.py. -/
import Derived.Test.YthgfmoogagldmaaGreatJWalk13q
namespace Go.Proofs.YthgfmoogagldmaaGreat.Journal
open Go.RowKit Go.Shelf Disk Go.Proofs.YthgfmoogagldmaaGreat.Frame
set_option linter.unusedVariables false
set_option maxRecDepth 100000
section
variable {w w' w7 w8 w9 : World} {p g b cap q base : Nat} {W : List Nat} {d : DS} {js : JS} {v v' : Value} {ss : List Sl} {l : List UInt8}
set_option maxHeartbeats 2000000 in
theorem append_no1 (hd : IsD w p g b W cap d) (hn2 : 2 ≤ d.n) (hj : IsJ w p g b q base js v ss) (hWT : ∀ k ∈ W, k ∉ q :: ownL v) (A : Option Addr) (n c : Nat) (l : List UInt8) (hr : Bytes w w.heap.size A n l) (hn : n ≤ 2000) (hnc : n ≤ c) (hcm : c ≤ maxLen) (hfar : 0 < n → ∀ k ∈ blkOf A, k ∉ JT p g b q v) (hsl : ss.length ≤ 100000) (hdn : d.done ≤ 4611686018427000000) (hre : refuseJ js [l] (js.half.room - usedJ js) = 0) {D1 D2 D3 D4 D5 : DS} {b1 b2 b3 b4 b5 : Bool} (hP : packH d js.half (usedJ js) l = (D1, b1)) (hZ : zeroH D1 js.half (usedJ js + takesB l) = (D2, b2)) (hS : synD D2 = (D3, b3))
    (hM : wrD D3 (js.half.fr + usedJ js) (putB (markH js.half js.l.length l)) = (D4, b4)) (hS2 : synD D4 = (D5, b5)) (hb : b1 = true ∧ b2 = false) :
    Calls Tryz.prog 15 #[.pointer (some ⟨q, 0, none⟩), .slice A n c] w fun x w' => AppO w p g b W cap q base v (appendJ d js l) x w' := by
  obtain ⟨w1, hw1⟩ : ∃ w1, w.alloc (.cells #[.slice A n c] 35) = w1 := ⟨_, rfl⟩
  have ho1 : Only [] w w1 := by rw [← hw1]; exact (Only.refl [] w).alloc _
  have hs1 : w1.heap.size = w.heap.size + 1 := by rw [← hw1, World.size_alloc]
  have hj1 := hj.only0 ho1
  have hub := used_le hj hsl
  have hrr : Reads w1 (w.heap.size + 1) 1 (some ⟨w.heap.size, 0, none⟩) 1 ([(⟨A, n, c, l⟩ : Sl)].map Sl.val) := by rw [← hw1]; exact Reads.const w [(⟨A, n, c, l⟩ : Sl).val] _ _ _ rfl
  have hr1 := (hr.only ho1 (by simp)).more ho1.size
  have hhd : Held w1 [] [⟨A, n, c, l⟩] := fun s hs => by
    rw [List.mem_singleton.1 hs]
    exact ⟨hr1, hnc, hcm, by show n ≤ 1048576; omega, fun _ k _ => by simp⟩
  have HRF := Lib.hid (refuse_is hj1 (some ⟨w.heap.size, 0, none⟩) 1 1 _ [] [⟨A, n, c, l⟩] (js.half.room - usedJ js) rfl hrr hhd (by omega))
  have HRM := Lib.hid (room_is hj1)
  have HUS := Lib.hid (used_is hj1 (by omega))
  have hsm := hj.sm
  obtain ⟨_, ⟨fr0, fr1⟩, room0, room1⟩ := hsm
  have hfit := fits_of hre
  have hbl := hr.len
  have htb : takesB l = 1 + needZ (n : Int) := by unfold takesB; rw [hbl]
  have hzz : 1 ≤ 1 + needZ (n : Int) ∧ 1 + needZ (n : Int) ≤ 20000 := by unfold needZ; split <;> omega
  have HTK := Lib.hid (fun w => takes_any A n c w (by omega))
  have hd1 := hd.only0 ho1.drew
  have happ := appJ hre hP hZ hS hM hS2
  have hpd := packH_done d js.half (usedJ js) l
  rw [hP] at hpd
  have hzd := zero_done D1 js.half (usedJ js + takesB l)
  rw [hZ] at hzd
  have hsd := syn_done D2
  rw [hS] at hsd
  have hmd := wr_done D3 (js.half.fr + usedJ js) (putB (markH js.half js.l.length l))
  rw [hM] at hmd
  simp only at hpd hzd hsd hmd
  have htt := takesB_le (b := l) (by omega)
  have HPK := Lib.hid (show Calls Tryz.prog 63 #[js.half.val p, .int .i64 (usedJ js), .slice A n c] w1.drew fun x w' => BoolJ w1.drew p g b W cap (D1, b1) x w' from by
    have := hpack_any hd1 hn2 js.half hj.sm (usedJ js) (by omega) A n c l hr1 hn hnc hcm (by omega)
    rw [hP] at this
    exact this)
  have HZR := Lib.hid (fun (wx : World) (Wx : List Nat) (hd : IsD wx p g b Wx cap D1) => (show Calls Tryz.prog 58 #[js.half.val p, .int .i64 (usedJ js + takesB l)] wx fun x w' => BoolJ wx p g b Wx cap (D2, b2) x w' from by
    have := zero_any hd js.half hj.sm (usedJ js + takesB l) (by omega) (by omega)
    rw [hZ] at this
    exact this))
  have hcs := errS_is D2
  rw [hS] at hcs
  obtain ⟨e3, he3⟩ : ∃ e, errS D2 = e := ⟨_, rfl⟩
  rw [he3] at hcs
  have HSY := Lib.hid (fun (wx : World) (Wx : List Nat) (hd : IsD wx p g b Wx cap D2) => sync_0 hd he3 (show (synD D2).1 = D3 by rw [hS]) (by omega))
  have HBJ := Lib.hid (fun (wx : World) (ho : Only [p, g, b] w1.drew wx) => hj1.blk.drew.only ho (hj1.q_far (hd.only0 ho1)))
  have HFO := Lib.hid (fun (Dx : DS) (wx : World) (h : Did w1.drew p g b W cap Dx wx) => fail_out hd ho1.drew hj hWT h)
  simp only [List.map_cons, List.map_nil] at HRF
  rw [hre] at HRF
  have yj := hj1.blk.drew
  have x0 := yj.cell 0
  have x1 := yj.cell 1
  have x2 := yj.cell 2
  have x3 := yj.cell 3
  have HAPP := Lib.hid happ
  rw [htb] at HZR
  obtain ⟨U, hU⟩ : ∃ U, usedJ js = U := ⟨_, rfl⟩
  rw [hU] at hub HRF HUS HPK HZR hfit
  obtain ⟨z, hz⟩ : ∃ z, 1 + needZ (n : Int) = z := ⟨_, rfl⟩
  rw [hz] at htb hzz HTK HZR
  rw [htb] at hfit
  obtain ⟨⟨gen, fr, room⟩, hh⟩ : ∃ h, js.half = h := ⟨_, rfl⟩
  rw [hh] at HPK HZR HRM HRF HBJ hfit room0 room1 fr0 fr1 x0 x1 x2 x3
  unfold Half.val at HPK HZR
  simp only at HPK HZR HRM HRF HBJ hfit room0 room1 fr0 fr1 x0 x1 x2 x3
  obtain ⟨u0, u1⟩ := hub
  obtain ⟨z0, z1⟩ := hzz
  have hwr : IntKind.i64.wrap (U + z) = U + z := by rw [IntKind.wrap_i64]; omega
  obtain ⟨rfl, rfl⟩ := hb
  clear hd hj hWT hr hfar hj1 hr1 hhd hrr happ hU ho1 hs1 hd1 hpd hzd hsd hmd htt hcs he3 hP hZ hS hM hS2 yj htb hz hh hre hbl
  go_enter Tryz.func15, Tryz.ntmps15
  go_wp2_with (first
    | (go_at_call 33; refine HRM.out.mono ?_; rintro x wa ⟨rfl, hwa⟩; have hwa := hwa.symm; subst hwa)
    | (go_at_call 31; refine HUS.out.mono ?_; rintro x wb ⟨rfl, hwb⟩; have hwb := hwb.symm; subst hwb)
    | (go_at_call 62; refine HRF.out.mono ?_; rintro x wc ⟨rfl, hwc⟩; have hwc := hwc.symm; subst hwc))
  refine wp_region_hand (S := fun Y => Y.cell? ⟨q, 0, none⟩ = some (.pointer (some ⟨p, 0, none⟩)) ∧ Y.cell? ⟨q, 1, none⟩ = some (.int .i64 gen) ∧ Y.cell? ⟨q, 2, none⟩ = some (.int .i64 fr) ∧ Y.cell? ⟨q, 3, none⟩ = some (.int .i64 room)) (by kernel_rfl) ?_
  have hS := (show w1.drew.cell? ⟨q, 0, none⟩ = some (.pointer (some ⟨p, 0, none⟩)) ∧ w1.drew.cell? ⟨q, 1, none⟩ = some (.int .i64 gen) ∧ w1.drew.cell? ⟨q, 2, none⟩ = some (.int .i64 fr) ∧ w1.drew.cell? ⟨q, 3, none⟩ = some (.int .i64 room) from ⟨x0, x1, x2, x3⟩)
  refine takeW (i := 0) rfl (by kernel_rfl) (by kernel_rfl) (by kernel_rfl) (fun _ _ _ h => h) rfl (by rfl) (v := .pointer (some ⟨q, 0, none⟩)) (fun Y hY => by obtain ⟨y0, y1, y2, y3⟩ := hY; go_simp) hS ?_
  simp only [List.setIfInBounds_toArray, List.set_cons_zero, List.set_cons_succ]
  refine takeW (i := 1) rfl (by kernel_rfl) (by kernel_rfl) (by kernel_rfl) (fun _ _ _ h => h) rfl (by rfl) (v := .pointer (some ⟨q, 0, none⟩)) (fun Y hY => by obtain ⟨y0, y1, y2, y3⟩ := hY; go_simp) hS ?_
  simp only [List.setIfInBounds_toArray, List.set_cons_zero, List.set_cons_succ]
  refine takeW (i := 2) rfl (by kernel_rfl) (by kernel_rfl) (by kernel_rfl) (fun _ _ _ h => h) rfl (by rfl) (v := .pointer (some ⟨q, 0, none⟩)) (fun Y hY => by obtain ⟨y0, y1, y2, y3⟩ := hY; go_simp) hS ?_
  simp only [List.setIfInBounds_toArray, List.set_cons_zero, List.set_cons_succ]
  refine takeW (i := 3) rfl (by kernel_rfl) (by kernel_rfl) (by kernel_rfl) (fun _ _ _ h => h) rfl (by rfl) (v := .agg #[.pointer (some ⟨p, 0, none⟩), .int .i64 gen, .int .i64 fr, .int .i64 room]) (fun Y hY => by obtain ⟨y0, y1, y2, y3⟩ := hY; go_simp) hS ?_
  simp only [List.setIfInBounds_toArray, List.set_cons_zero, List.set_cons_succ]
  refine takeW (i := 4) rfl (by kernel_rfl) (by kernel_rfl) (by kernel_rfl) (fun _ _ _ h => h) rfl (by rfl) (v := .int .i64 U) (fun Y hY => by obtain ⟨y0, y1, y2, y3⟩ := hY; go_simp) hS ?_
  simp only [List.setIfInBounds_toArray, List.set_cons_zero, List.set_cons_succ]
  refine takeW (i := 5) rfl (by kernel_rfl) (by kernel_rfl) (by kernel_rfl) (fun _ _ _ h => h) rfl (by rfl) (v := .slice A n c) (fun Y hY => by obtain ⟨y0, y1, y2, y3⟩ := hY; go_simp) hS ?_
  simp only [List.setIfInBounds_toArray, List.set_cons_zero, List.set_cons_succ]
  refine callW (i := 6) rfl (by kernel_rfl) rfl (by rfl) ?_ (HPK.out) ?_
  · go_simp
  rintro x w2 ⟨rfl, hdid⟩
  have HD2 := Lib.hid hdid
  obtain ⟨W2, hd2, hn2', ho2⟩ := HD2.out
  have hb2 := HBJ.out w2 ho2
  have hS2 := (show _ ∧ _ ∧ _ ∧ _ from ⟨hb2.cell 0, hb2.cell 1, hb2.cell 2, hb2.cell 3⟩)
  have HZ2 := Lib.hid (HZR.out w2 W2 hd2)
  have HN2 := Lib.hid hn2'
  have HO2 := Lib.hid ho2
  clear hdid hd2 hn2' ho2 hb2
  refine ⟨_, rfl, hS2, ?_⟩
  simp only [List.setIfInBounds_toArray, List.set_cons_zero, List.set_cons_succ]
  refine takeW (i := 7) rfl (by kernel_rfl) (by kernel_rfl) (by kernel_rfl) (fun _ _ _ h => h) rfl (by rfl) (v := .bool false) (fun Y hY => by obtain ⟨y0, y1, y2, y3⟩ := hY; go_simp) hS2 ?_
  simp only [List.setIfInBounds_toArray, List.set_cons_zero, List.set_cons_succ]
  refine takeW (i := 8) rfl (by kernel_rfl) (by kernel_rfl) (by kernel_rfl) (fun _ _ _ h => h) rfl (by rfl) (v := .bool false) (fun Y hY => by obtain ⟨y0, y1, y2, y3⟩ := hY; go_simp) hS2 ?_
  simp only [List.setIfInBounds_toArray, List.set_cons_zero, List.set_cons_succ]
  refine takeW (i := 9) rfl (by kernel_rfl) (by kernel_rfl) (by kernel_rfl) (fun _ _ _ h => h) rfl (by rfl) (v := .pointer (some ⟨q, 0, none⟩)) (fun Y hY => by obtain ⟨y0, y1, y2, y3⟩ := hY; go_simp) hS2 ?_
  simp only [List.setIfInBounds_toArray, List.set_cons_zero, List.set_cons_succ]
  refine takeW (i := 10) rfl (by kernel_rfl) (by kernel_rfl) (by kernel_rfl) (fun _ _ _ h => h) rfl (by rfl) (v := .pointer (some ⟨q, 0, none⟩)) (fun Y hY => by obtain ⟨y0, y1, y2, y3⟩ := hY; go_simp) hS2 ?_
  simp only [List.setIfInBounds_toArray, List.set_cons_zero, List.set_cons_succ]
  refine takeW (i := 11) rfl (by kernel_rfl) (by kernel_rfl) (by kernel_rfl) (fun _ _ _ h => h) rfl (by rfl) (v := .pointer (some ⟨q, 0, none⟩)) (fun Y hY => by obtain ⟨y0, y1, y2, y3⟩ := hY; go_simp) hS2 ?_
  simp only [List.setIfInBounds_toArray, List.set_cons_zero, List.set_cons_succ]
  refine takeW (i := 12) rfl (by kernel_rfl) (by kernel_rfl) (by kernel_rfl) (fun _ _ _ h => h) rfl (by rfl) (v := .agg #[.pointer (some ⟨p, 0, none⟩), .int .i64 gen, .int .i64 fr, .int .i64 room]) (fun Y hY => by obtain ⟨y0, y1, y2, y3⟩ := hY; go_simp) hS2 ?_
  simp only [List.setIfInBounds_toArray, List.set_cons_zero, List.set_cons_succ]
  refine takeW (i := 13) rfl (by kernel_rfl) (by kernel_rfl) (by kernel_rfl) (fun _ _ _ h => h) rfl (by rfl) (v := .int .i64 U) (fun Y hY => by obtain ⟨y0, y1, y2, y3⟩ := hY; go_simp) hS2 ?_
  simp only [List.setIfInBounds_toArray, List.set_cons_zero, List.set_cons_succ]
  refine takeW (i := 14) rfl (by kernel_rfl) (by kernel_rfl) (by kernel_rfl) (fun _ _ _ h => h) rfl (by rfl) (v := .slice A n c) (fun Y hY => by obtain ⟨y0, y1, y2, y3⟩ := hY; go_simp) hS2 ?_
  simp only [List.setIfInBounds_toArray, List.set_cons_zero, List.set_cons_succ]
  refine callW (i := 15) rfl (by kernel_rfl) rfl (by rfl) ?_ (HTK.out w2) ?_
  · go_simp
  rintro x wt ⟨rfl, hwt⟩
  have hwt := hwt.symm
  subst hwt
  refine ⟨_, rfl, hS2, ?_⟩
  simp only [List.setIfInBounds_toArray, List.set_cons_zero, List.set_cons_succ]
  refine takeW (i := 16) rfl (by kernel_rfl) (by kernel_rfl) (by kernel_rfl) (fun _ _ _ h => h) rfl (by rfl) (v := .int .i64 (U + z)) (fun Y hY => by obtain ⟨y0, y1, y2, y3⟩ := hY; go_simp) hS2 ?_
  simp only [List.setIfInBounds_toArray, List.set_cons_zero, List.set_cons_succ]
  refine callW (i := 17) rfl (by kernel_rfl) rfl (by rfl) ?_ (HZ2.out) ?_
  · go_simp
  rintro x w3 ⟨rfl, hdid⟩
  have HD3 := Lib.hid (Did.trans HN2.out HO2.out hdid)
  obtain ⟨W3, hd3, hn3', ho3⟩ := HD3.out
  have hb3 := HBJ.out w3 ho3
  have hS3 := (show _ ∧ _ ∧ _ ∧ _ from ⟨hb3.cell 0, hb3.cell 1, hb3.cell 2, hb3.cell 3⟩)
  have HS3 := Lib.hid (HSY.out w3 W3 hd3)
  have HN3 := Lib.hid hn3'
  have HO3 := Lib.hid ho3
  clear hdid hd3 hn3' ho3 hb3
  refine ⟨_, rfl, hS3, ?_⟩
  simp only [List.setIfInBounds_toArray, List.set_cons_zero, List.set_cons_succ]
  refine takeW (i := 18) rfl (by kernel_rfl) (by kernel_rfl) (by kernel_rfl) (fun _ _ _ h => h) rfl (by rfl) (v := .bool true) (fun Y hY => by obtain ⟨y0, y1, y2, y3⟩ := hY; go_simp) hS3 ?_
  simp only [List.setIfInBounds_toArray, List.set_cons_zero, List.set_cons_succ]
  refine takeW (i := 19) rfl (by kernel_rfl) (by kernel_rfl) (by kernel_rfl) (fun _ _ _ h => h) rfl (by rfl) (v := .bool true) (fun Y hY => by obtain ⟨y0, y1, y2, y3⟩ := hY; go_simp) hS3 ?_
  simp only [List.setIfInBounds_toArray, List.set_cons_zero, List.set_cons_succ]
  refine takeW (i := 20) rfl (by kernel_rfl) (by kernel_rfl) (by kernel_rfl) (fun _ _ _ h => h) rfl (by rfl) (v := .bool true) (fun Y hY => by obtain ⟨y0, y1, y2, y3⟩ := hY; go_simp) hS3 ?_
  simp only [List.setIfInBounds_toArray, List.set_cons_zero, List.set_cons_succ]
  refine passW (i := 21) rfl (by kernel_rfl) (by kernel_rfl) (by kernel_rfl) (fun _ _ _ h => h) rfl (by rfl) hS3 ?_
  simp only [List.setIfInBounds_toArray, List.set_cons_zero, List.set_cons_succ]
  refine passW (i := 22) rfl (by kernel_rfl) (by kernel_rfl) (by kernel_rfl) (fun _ _ _ h => h) rfl (by rfl) hS3 ?_
  simp only [List.setIfInBounds_toArray, List.set_cons_zero, List.set_cons_succ]
  refine passW (i := 23) rfl (by kernel_rfl) (by kernel_rfl) (by kernel_rfl) (fun _ _ _ h => h) rfl (by rfl) hS3 ?_
  simp only [List.setIfInBounds_toArray, List.set_cons_zero, List.set_cons_succ]
  refine passW (i := 24) rfl (by kernel_rfl) (by kernel_rfl) (by kernel_rfl) (fun _ _ _ h => h) rfl (by rfl) hS3 ?_
  simp only [List.setIfInBounds_toArray, List.set_cons_zero, List.set_cons_succ]
  refine passW (i := 25) rfl (by kernel_rfl) (by kernel_rfl) (by kernel_rfl) (fun _ _ _ h => h) rfl (by rfl) hS3 ?_
  simp only [List.setIfInBounds_toArray, List.set_cons_zero, List.set_cons_succ]
  refine passW (i := 26) rfl (by kernel_rfl) (by kernel_rfl) (by kernel_rfl) (fun _ _ _ h => h) rfl (by rfl) hS3 ?_
  simp only [List.setIfInBounds_toArray, List.set_cons_zero, List.set_cons_succ]
  refine passW (i := 27) rfl (by kernel_rfl) (by kernel_rfl) (by kernel_rfl) (fun _ _ _ h => h) rfl (by rfl) hS3 ?_
  simp only [List.setIfInBounds_toArray, List.set_cons_zero, List.set_cons_succ]
  refine takeW (i := 28) rfl (by kernel_rfl) (by kernel_rfl) (by kernel_rfl) (fun _ _ _ h => h) rfl (by rfl) (v := .bool true) (fun Y hY => by obtain ⟨y0, y1, y2, y3⟩ := hY; go_simp) hS3 ?_
  simp only [List.setIfInBounds_toArray, List.set_cons_zero, List.set_cons_succ]
  refine wpAnyH_done (by kernel_rfl) ?_ _
  go_wp2_with (go_at_call 65; refine (HFO.out _ _ HD3.out).mono ?_; rintro x wz ⟨rfl, hz⟩; have HZZ := Lib.hid hz; clear hz)
  go_ret
  rw [HAPP.out]
  exact ⟨rfl, HZZ.out⟩
set_option maxHeartbeats 2000000 in
theorem append_no2 (hd : IsD w p g b W cap d) (hn2 : 2 ≤ d.n) (hj : IsJ w p g b q base js v ss) (hWT : ∀ k ∈ W, k ∉ q :: ownL v) (A : Option Addr) (n c : Nat) (l : List UInt8) (hr : Bytes w w.heap.size A n l) (hn : n ≤ 2000) (hnc : n ≤ c) (hcm : c ≤ maxLen) (hfar : 0 < n → ∀ k ∈ blkOf A, k ∉ JT p g b q v) (hsl : ss.length ≤ 100000) (hdn : d.done ≤ 4611686018427000000) (hre : refuseJ js [l] (js.half.room - usedJ js) = 0) {D1 D2 D3 D4 D5 : DS} {b1 b2 b3 b4 b5 : Bool} (hP : packH d js.half (usedJ js) l = (D1, b1)) (hZ : zeroH D1 js.half (usedJ js + takesB l) = (D2, b2)) (hS : synD D2 = (D3, b3))
    (hM : wrD D3 (js.half.fr + usedJ js) (putB (markH js.half js.l.length l)) = (D4, b4)) (hS2 : synD D4 = (D5, b5)) (hb : b1 = true ∧ b2 = true ∧ b3 = false) :
    Calls Tryz.prog 15 #[.pointer (some ⟨q, 0, none⟩), .slice A n c] w fun x w' => AppO w p g b W cap q base v (appendJ d js l) x w' := by
  obtain ⟨w1, hw1⟩ : ∃ w1, w.alloc (.cells #[.slice A n c] 35) = w1 := ⟨_, rfl⟩
  have ho1 : Only [] w w1 := by rw [← hw1]; exact (Only.refl [] w).alloc _
  have hs1 : w1.heap.size = w.heap.size + 1 := by rw [← hw1, World.size_alloc]
  have hj1 := hj.only0 ho1
  have hub := used_le hj hsl
  have hrr : Reads w1 (w.heap.size + 1) 1 (some ⟨w.heap.size, 0, none⟩) 1 ([(⟨A, n, c, l⟩ : Sl)].map Sl.val) := by rw [← hw1]; exact Reads.const w [(⟨A, n, c, l⟩ : Sl).val] _ _ _ rfl
  have hr1 := (hr.only ho1 (by simp)).more ho1.size
  have hhd : Held w1 [] [⟨A, n, c, l⟩] := fun s hs => by
    rw [List.mem_singleton.1 hs]
    exact ⟨hr1, hnc, hcm, by show n ≤ 1048576; omega, fun _ k _ => by simp⟩
  have HRF := Lib.hid (refuse_is hj1 (some ⟨w.heap.size, 0, none⟩) 1 1 _ [] [⟨A, n, c, l⟩] (js.half.room - usedJ js) rfl hrr hhd (by omega))
  have HRM := Lib.hid (room_is hj1)
  have HUS := Lib.hid (used_is hj1 (by omega))
  have hsm := hj.sm
  obtain ⟨_, ⟨fr0, fr1⟩, room0, room1⟩ := hsm
  have hfit := fits_of hre
  have hbl := hr.len
  have htb : takesB l = 1 + needZ (n : Int) := by unfold takesB; rw [hbl]
  have hzz : 1 ≤ 1 + needZ (n : Int) ∧ 1 + needZ (n : Int) ≤ 20000 := by unfold needZ; split <;> omega
  have HTK := Lib.hid (fun w => takes_any A n c w (by omega))
  have hd1 := hd.only0 ho1.drew
  have happ := appJ hre hP hZ hS hM hS2
  have hpd := packH_done d js.half (usedJ js) l
  rw [hP] at hpd
  have hzd := zero_done D1 js.half (usedJ js + takesB l)
  rw [hZ] at hzd
  have hsd := syn_done D2
  rw [hS] at hsd
  have hmd := wr_done D3 (js.half.fr + usedJ js) (putB (markH js.half js.l.length l))
  rw [hM] at hmd
  simp only at hpd hzd hsd hmd
  have htt := takesB_le (b := l) (by omega)
  have HPK := Lib.hid (show Calls Tryz.prog 63 #[js.half.val p, .int .i64 (usedJ js), .slice A n c] w1.drew fun x w' => BoolJ w1.drew p g b W cap (D1, b1) x w' from by
    have := hpack_any hd1 hn2 js.half hj.sm (usedJ js) (by omega) A n c l hr1 hn hnc hcm (by omega)
    rw [hP] at this
    exact this)
  have HZR := Lib.hid (fun (wx : World) (Wx : List Nat) (hd : IsD wx p g b Wx cap D1) => (show Calls Tryz.prog 58 #[js.half.val p, .int .i64 (usedJ js + takesB l)] wx fun x w' => BoolJ wx p g b Wx cap (D2, b2) x w' from by
    have := zero_any hd js.half hj.sm (usedJ js + takesB l) (by omega) (by omega)
    rw [hZ] at this
    exact this))
  have hcs := errS_is D2
  rw [hS] at hcs
  obtain ⟨e3, he3⟩ : ∃ e, errS D2 = e := ⟨_, rfl⟩
  rw [he3] at hcs
  have HSY := Lib.hid (fun (wx : World) (Wx : List Nat) (hd : IsD wx p g b Wx cap D2) => sync_0 hd he3 (show (synD D2).1 = D3 by rw [hS]) (by omega))
  have HBJ := Lib.hid (fun (wx : World) (ho : Only [p, g, b] w1.drew wx) => hj1.blk.drew.only ho (hj1.q_far (hd.only0 ho1)))
  have HFO := Lib.hid (fun (Dx : DS) (wx : World) (h : Did w1.drew p g b W cap Dx wx) => fail_out hd ho1.drew hj hWT h)
  simp only [List.map_cons, List.map_nil] at HRF
  rw [hre] at HRF
  have yj := hj1.blk.drew
  have x0 := yj.cell 0
  have x1 := yj.cell 1
  have x2 := yj.cell 2
  have x3 := yj.cell 3
  have HAPP := Lib.hid happ
  rw [htb] at HZR
  obtain ⟨U, hU⟩ : ∃ U, usedJ js = U := ⟨_, rfl⟩
  rw [hU] at hub HRF HUS HPK HZR hfit
  obtain ⟨z, hz⟩ : ∃ z, 1 + needZ (n : Int) = z := ⟨_, rfl⟩
  rw [hz] at htb hzz HTK HZR
  rw [htb] at hfit
  obtain ⟨⟨gen, fr, room⟩, hh⟩ : ∃ h, js.half = h := ⟨_, rfl⟩
  rw [hh] at HPK HZR HRM HRF HBJ hfit room0 room1 fr0 fr1 x0 x1 x2 x3
  unfold Half.val at HPK HZR
  simp only at HPK HZR HRM HRF HBJ hfit room0 room1 fr0 fr1 x0 x1 x2 x3
  obtain ⟨u0, u1⟩ := hub
  obtain ⟨z0, z1⟩ := hzz
  have hwr : IntKind.i64.wrap (U + z) = U + z := by rw [IntKind.wrap_i64]; omega
  obtain ⟨rfl, rfl, rfl⟩ := hb
  obtain rfl : e3 = 3 := by
    rcases hcs with h | h
    · cases h.2
    · exact h.1
  clear hd hj hWT hr hfar hj1 hr1 hhd hrr happ hU ho1 hs1 hd1 hpd hzd hsd hmd htt hcs he3 hP hZ hS hM hS2 yj htb hz hh hre hbl
  go_enter Tryz.func15, Tryz.ntmps15
  go_wp2_with (first
    | (go_at_call 33; refine HRM.out.mono ?_; rintro x wa ⟨rfl, hwa⟩; have hwa := hwa.symm; subst hwa)
    | (go_at_call 31; refine HUS.out.mono ?_; rintro x wb ⟨rfl, hwb⟩; have hwb := hwb.symm; subst hwb)
    | (go_at_call 62; refine HRF.out.mono ?_; rintro x wc ⟨rfl, hwc⟩; have hwc := hwc.symm; subst hwc))
  refine wp_region_hand (S := fun Y => Y.cell? ⟨q, 0, none⟩ = some (.pointer (some ⟨p, 0, none⟩)) ∧ Y.cell? ⟨q, 1, none⟩ = some (.int .i64 gen) ∧ Y.cell? ⟨q, 2, none⟩ = some (.int .i64 fr) ∧ Y.cell? ⟨q, 3, none⟩ = some (.int .i64 room)) (by kernel_rfl) ?_
  have hS := (show w1.drew.cell? ⟨q, 0, none⟩ = some (.pointer (some ⟨p, 0, none⟩)) ∧ w1.drew.cell? ⟨q, 1, none⟩ = some (.int .i64 gen) ∧ w1.drew.cell? ⟨q, 2, none⟩ = some (.int .i64 fr) ∧ w1.drew.cell? ⟨q, 3, none⟩ = some (.int .i64 room) from ⟨x0, x1, x2, x3⟩)
  refine takeW (i := 0) rfl (by kernel_rfl) (by kernel_rfl) (by kernel_rfl) (fun _ _ _ h => h) rfl (by rfl) (v := .pointer (some ⟨q, 0, none⟩)) (fun Y hY => by obtain ⟨y0, y1, y2, y3⟩ := hY; go_simp) hS ?_
  simp only [List.setIfInBounds_toArray, List.set_cons_zero, List.set_cons_succ]
  refine takeW (i := 1) rfl (by kernel_rfl) (by kernel_rfl) (by kernel_rfl) (fun _ _ _ h => h) rfl (by rfl) (v := .pointer (some ⟨q, 0, none⟩)) (fun Y hY => by obtain ⟨y0, y1, y2, y3⟩ := hY; go_simp) hS ?_
  simp only [List.setIfInBounds_toArray, List.set_cons_zero, List.set_cons_succ]
  refine takeW (i := 2) rfl (by kernel_rfl) (by kernel_rfl) (by kernel_rfl) (fun _ _ _ h => h) rfl (by rfl) (v := .pointer (some ⟨q, 0, none⟩)) (fun Y hY => by obtain ⟨y0, y1, y2, y3⟩ := hY; go_simp) hS ?_
  simp only [List.setIfInBounds_toArray, List.set_cons_zero, List.set_cons_succ]
  refine takeW (i := 3) rfl (by kernel_rfl) (by kernel_rfl) (by kernel_rfl) (fun _ _ _ h => h) rfl (by rfl) (v := .agg #[.pointer (some ⟨p, 0, none⟩), .int .i64 gen, .int .i64 fr, .int .i64 room]) (fun Y hY => by obtain ⟨y0, y1, y2, y3⟩ := hY; go_simp) hS ?_
  simp only [List.setIfInBounds_toArray, List.set_cons_zero, List.set_cons_succ]
  refine takeW (i := 4) rfl (by kernel_rfl) (by kernel_rfl) (by kernel_rfl) (fun _ _ _ h => h) rfl (by rfl) (v := .int .i64 U) (fun Y hY => by obtain ⟨y0, y1, y2, y3⟩ := hY; go_simp) hS ?_
  simp only [List.setIfInBounds_toArray, List.set_cons_zero, List.set_cons_succ]
  refine takeW (i := 5) rfl (by kernel_rfl) (by kernel_rfl) (by kernel_rfl) (fun _ _ _ h => h) rfl (by rfl) (v := .slice A n c) (fun Y hY => by obtain ⟨y0, y1, y2, y3⟩ := hY; go_simp) hS ?_
  simp only [List.setIfInBounds_toArray, List.set_cons_zero, List.set_cons_succ]
  refine callW (i := 6) rfl (by kernel_rfl) rfl (by rfl) ?_ (HPK.out) ?_
  · go_simp
  rintro x w2 ⟨rfl, hdid⟩
  have HD2 := Lib.hid hdid
  obtain ⟨W2, hd2, hn2', ho2⟩ := HD2.out
  have hb2 := HBJ.out w2 ho2
  have hS2 := (show _ ∧ _ ∧ _ ∧ _ from ⟨hb2.cell 0, hb2.cell 1, hb2.cell 2, hb2.cell 3⟩)
  have HZ2 := Lib.hid (HZR.out w2 W2 hd2)
  have HN2 := Lib.hid hn2'
  have HO2 := Lib.hid ho2
  clear hdid hd2 hn2' ho2 hb2
  refine ⟨_, rfl, hS2, ?_⟩
  simp only [List.setIfInBounds_toArray, List.set_cons_zero, List.set_cons_succ]
  refine takeW (i := 7) rfl (by kernel_rfl) (by kernel_rfl) (by kernel_rfl) (fun _ _ _ h => h) rfl (by rfl) (v := .bool false) (fun Y hY => by obtain ⟨y0, y1, y2, y3⟩ := hY; go_simp) hS2 ?_
  simp only [List.setIfInBounds_toArray, List.set_cons_zero, List.set_cons_succ]
  refine takeW (i := 8) rfl (by kernel_rfl) (by kernel_rfl) (by kernel_rfl) (fun _ _ _ h => h) rfl (by rfl) (v := .bool false) (fun Y hY => by obtain ⟨y0, y1, y2, y3⟩ := hY; go_simp) hS2 ?_
  simp only [List.setIfInBounds_toArray, List.set_cons_zero, List.set_cons_succ]
  refine takeW (i := 9) rfl (by kernel_rfl) (by kernel_rfl) (by kernel_rfl) (fun _ _ _ h => h) rfl (by rfl) (v := .pointer (some ⟨q, 0, none⟩)) (fun Y hY => by obtain ⟨y0, y1, y2, y3⟩ := hY; go_simp) hS2 ?_
  simp only [List.setIfInBounds_toArray, List.set_cons_zero, List.set_cons_succ]
  refine takeW (i := 10) rfl (by kernel_rfl) (by kernel_rfl) (by kernel_rfl) (fun _ _ _ h => h) rfl (by rfl) (v := .pointer (some ⟨q, 0, none⟩)) (fun Y hY => by obtain ⟨y0, y1, y2, y3⟩ := hY; go_simp) hS2 ?_
  simp only [List.setIfInBounds_toArray, List.set_cons_zero, List.set_cons_succ]
  refine takeW (i := 11) rfl (by kernel_rfl) (by kernel_rfl) (by kernel_rfl) (fun _ _ _ h => h) rfl (by rfl) (v := .pointer (some ⟨q, 0, none⟩)) (fun Y hY => by obtain ⟨y0, y1, y2, y3⟩ := hY; go_simp) hS2 ?_
  simp only [List.setIfInBounds_toArray, List.set_cons_zero, List.set_cons_succ]
  refine takeW (i := 12) rfl (by kernel_rfl) (by kernel_rfl) (by kernel_rfl) (fun _ _ _ h => h) rfl (by rfl) (v := .agg #[.pointer (some ⟨p, 0, none⟩), .int .i64 gen, .int .i64 fr, .int .i64 room]) (fun Y hY => by obtain ⟨y0, y1, y2, y3⟩ := hY; go_simp) hS2 ?_
  simp only [List.setIfInBounds_toArray, List.set_cons_zero, List.set_cons_succ]
  refine takeW (i := 13) rfl (by kernel_rfl) (by kernel_rfl) (by kernel_rfl) (fun _ _ _ h => h) rfl (by rfl) (v := .int .i64 U) (fun Y hY => by obtain ⟨y0, y1, y2, y3⟩ := hY; go_simp) hS2 ?_
  simp only [List.setIfInBounds_toArray, List.set_cons_zero, List.set_cons_succ]
  refine takeW (i := 14) rfl (by kernel_rfl) (by kernel_rfl) (by kernel_rfl) (fun _ _ _ h => h) rfl (by rfl) (v := .slice A n c) (fun Y hY => by obtain ⟨y0, y1, y2, y3⟩ := hY; go_simp) hS2 ?_
  simp only [List.setIfInBounds_toArray, List.set_cons_zero, List.set_cons_succ]
  refine callW (i := 15) rfl (by kernel_rfl) rfl (by rfl) ?_ (HTK.out w2) ?_
  · go_simp
  rintro x wt ⟨rfl, hwt⟩
  have hwt := hwt.symm
  subst hwt
  refine ⟨_, rfl, hS2, ?_⟩
  simp only [List.setIfInBounds_toArray, List.set_cons_zero, List.set_cons_succ]
  refine takeW (i := 16) rfl (by kernel_rfl) (by kernel_rfl) (by kernel_rfl) (fun _ _ _ h => h) rfl (by rfl) (v := .int .i64 (U + z)) (fun Y hY => by obtain ⟨y0, y1, y2, y3⟩ := hY; go_simp) hS2 ?_
  simp only [List.setIfInBounds_toArray, List.set_cons_zero, List.set_cons_succ]
  refine callW (i := 17) rfl (by kernel_rfl) rfl (by rfl) ?_ (HZ2.out) ?_
  · go_simp
  rintro x w3 ⟨rfl, hdid⟩
  have HD3 := Lib.hid (Did.trans HN2.out HO2.out hdid)
  obtain ⟨W3, hd3, hn3', ho3⟩ := HD3.out
  have hb3 := HBJ.out w3 ho3
  have hS3 := (show _ ∧ _ ∧ _ ∧ _ from ⟨hb3.cell 0, hb3.cell 1, hb3.cell 2, hb3.cell 3⟩)
  have HS3 := Lib.hid (HSY.out w3 W3 hd3)
  have HN3 := Lib.hid hn3'
  have HO3 := Lib.hid ho3
  clear hdid hd3 hn3' ho3 hb3
  refine ⟨_, rfl, hS3, ?_⟩
  simp only [List.setIfInBounds_toArray, List.set_cons_zero, List.set_cons_succ]
  refine takeW (i := 18) rfl (by kernel_rfl) (by kernel_rfl) (by kernel_rfl) (fun _ _ _ h => h) rfl (by rfl) (v := .bool false) (fun Y hY => by obtain ⟨y0, y1, y2, y3⟩ := hY; go_simp) hS3 ?_
  simp only [List.setIfInBounds_toArray, List.set_cons_zero, List.set_cons_succ]
  refine takeW (i := 19) rfl (by kernel_rfl) (by kernel_rfl) (by kernel_rfl) (fun _ _ _ h => h) rfl (by rfl) (v := .bool false) (fun Y hY => by obtain ⟨y0, y1, y2, y3⟩ := hY; go_simp) hS3 ?_
  simp only [List.setIfInBounds_toArray, List.set_cons_zero, List.set_cons_succ]
  refine takeW (i := 20) rfl (by kernel_rfl) (by kernel_rfl) (by kernel_rfl) (fun _ _ _ h => h) rfl (by rfl) (v := .bool false) (fun Y hY => by obtain ⟨y0, y1, y2, y3⟩ := hY; go_simp) hS3 ?_
  simp only [List.setIfInBounds_toArray, List.set_cons_zero, List.set_cons_succ]
  refine takeW (i := 21) rfl (by kernel_rfl) (by kernel_rfl) (by kernel_rfl) (fun _ _ _ h => h) rfl (by rfl) (v := .pointer (some ⟨q, 0, none⟩)) (fun Y hY => by obtain ⟨y0, y1, y2, y3⟩ := hY; go_simp) hS3 ?_
  simp only [List.setIfInBounds_toArray, List.set_cons_zero, List.set_cons_succ]
  refine takeW (i := 22) rfl (by kernel_rfl) (by kernel_rfl) (by kernel_rfl) (fun _ _ _ h => h) rfl (by rfl) (v := .pointer (some ⟨q, 0, none⟩)) (fun Y hY => by obtain ⟨y0, y1, y2, y3⟩ := hY; go_simp) hS3 ?_
  simp only [List.setIfInBounds_toArray, List.set_cons_zero, List.set_cons_succ]
  refine takeW (i := 23) rfl (by kernel_rfl) (by kernel_rfl) (by kernel_rfl) (fun _ _ _ h => h) rfl (by rfl) (v := .pointer (some ⟨q, 0, none⟩)) (fun Y hY => by obtain ⟨y0, y1, y2, y3⟩ := hY; go_simp) hS3 ?_
  simp only [List.setIfInBounds_toArray, List.set_cons_zero, List.set_cons_succ]
  refine takeW (i := 24) rfl (by kernel_rfl) (by kernel_rfl) (by kernel_rfl) (fun _ _ _ h => h) rfl (by rfl) (v := .pointer (some ⟨q, 0, none⟩)) (fun Y hY => by obtain ⟨y0, y1, y2, y3⟩ := hY; go_simp) hS3 ?_
  simp only [List.setIfInBounds_toArray, List.set_cons_zero, List.set_cons_succ]
  refine takeW (i := 25) rfl (by kernel_rfl) (by kernel_rfl) (by kernel_rfl) (fun _ _ _ h => h) rfl (by rfl) (v := .pointer (some ⟨p, 0, none⟩)) (fun Y hY => by obtain ⟨y0, y1, y2, y3⟩ := hY; go_simp) hS3 ?_
  simp only [List.setIfInBounds_toArray, List.set_cons_zero, List.set_cons_succ]
  refine callW (i := 26) rfl (by kernel_rfl) rfl (by rfl) ?_ (HS3.out) ?_
  · go_simp
  rintro x w4 ⟨rfl, hdid⟩
  have HD4 := Lib.hid (Did.trans HN3.out HO3.out hdid)
  obtain ⟨W4, hd4, hn4', ho4⟩ := HD4.out
  have hb4 := HBJ.out w4 ho4
  have hS4 := (show _ ∧ _ ∧ _ ∧ _ from ⟨hb4.cell 0, hb4.cell 1, hb4.cell 2, hb4.cell 3⟩)
  have HD44 := Lib.hid hd4
  have HN4 := Lib.hid hn4'
  have HO4 := Lib.hid ho4
  clear hdid hd4 hn4' ho4 hb4
  refine ⟨_, rfl, hS4, ?_⟩
  simp only [List.setIfInBounds_toArray, List.set_cons_zero, List.set_cons_succ]
  refine takeW (i := 27) rfl (by kernel_rfl) (by kernel_rfl) (by kernel_rfl) (fun _ _ _ h => h) rfl (by rfl) (v := .bool true) (fun Y hY => by obtain ⟨y0, y1, y2, y3⟩ := hY; go_simp) hS4 ?_
  simp only [List.setIfInBounds_toArray, List.set_cons_zero, List.set_cons_succ]
  refine takeW (i := 28) rfl (by kernel_rfl) (by kernel_rfl) (by kernel_rfl) (fun _ _ _ h => h) rfl (by rfl) (v := .bool true) (fun Y hY => by obtain ⟨y0, y1, y2, y3⟩ := hY; go_simp) hS4 ?_
  simp only [List.setIfInBounds_toArray, List.set_cons_zero, List.set_cons_succ]
  refine wpAnyH_done (by kernel_rfl) ?_ _
  go_wp2_with (go_at_call 65; refine (HFO.out _ _ HD4.out).mono ?_; rintro x wz ⟨rfl, hz⟩; have HZZ := Lib.hid hz; clear hz)
  go_ret
  rw [HAPP.out]
  exact ⟨rfl, HZZ.out⟩
end
end Go.Proofs.YthgfmoogagldmaaGreat.Journal
