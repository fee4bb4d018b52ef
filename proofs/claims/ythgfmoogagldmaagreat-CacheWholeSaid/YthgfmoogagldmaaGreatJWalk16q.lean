/- Append, to its end: PRINTED by wip/gen_append.py. -/
import Derived.Test.YthgfmoogagldmaaGreatRanges
import Derived.Test.YthgfmoogagldmaaGreatJWalk13q
set_option linter.unusedVariables false
set_option maxRecDepth 100000
namespace Go.Proofs.YthgfmoogagldmaaGreat.Journal
open Go.RowKit Go.Shelf Disk Go.Proofs.YthgfmoogagldmaaGreat.Frame
section
variable {w w' w7 w8 w9 : World} {p g b cap q base : Nat} {W : List Nat} {d : DS} {js : JS} {v v' : Value} {ss : List Sl} {l : List UInt8}
set_option maxHeartbeats 2000000 in
theorem append_ok3 (hd : IsD w p g b W cap d) (hn2 : 2 ≤ d.n) (hj : IsJ w p g b q base js v ss) (hWT : ∀ k ∈ W, k ∉ q :: ownL v) (A : Option Addr) (n c : Nat) (l : List UInt8) (hr : Bytes w w.heap.size A n l) (hn : n ≤ 2000) (hnc : n ≤ c) (hcm : c ≤ maxLen) (hfar : 0 < n → ∀ k ∈ blkOf A, k ∉ JT p g b q v) (hsl : ss.length ≤ 100000) (hdn : d.done ≤ 4611686018427000000) (hre : refuseJ js [l] (js.half.room - usedJ js) = 0) {D1 D2 D3 D4 D5 : DS} {b1 b2 b3 b4 b5 : Bool} (hP : packH d js.half (usedJ js) l = (D1, b1)) (hZ : zeroH D1 js.half (usedJ js + takesB l) = (D2, b2)) (hS : synD D2 = (D3, b3))
    (hM : wrD D3 (js.half.fr + usedJ js) (putB (markH js.half js.l.length l)) = (D4, b4)) (hS2 : synD D4 = (D5, b5)) (hbase : base ≤ w.heap.size) (hb : b1 = true ∧ b2 = true ∧ b3 = true ∧ b4 = true ∧ b5 = true) :
    Calls Tryz.prog 15 #[.pointer (some ⟨q, 0, none⟩), .slice A n c] w fun x w' => AppO w p g b W cap q base v ss (appendJ d js l) x w' := by
  obtain ⟨w1, hw1⟩ : ∃ w1, w.alloc (.cells #[.slice A n c] 35) = w1 := ⟨_, rfl⟩
  have ho1 : Only [] w w1 := by rw [← hw1]; exact (Only.refl [] w).alloc _
  have hs1 : w1.heap.size = w.heap.size + 1 := by rw [← hw1, World.size_alloc]
  have hj1 := hj.only0 ho1
  have hub := used_le hj hsl
  have hrr : Reads w1 (w.heap.size + 1) 1 (some ⟨w.heap.size, 0, none⟩) 1 ([(⟨A, n, c, l⟩ : Sl)].map Sl.val) := by rw [← hw1]; exact Reads.const w [(⟨A, n, c, l⟩ : Sl).val] _ _ _ rfl
  have hr1 := (hr.only ho1 (by simp)).more ho1.size
  have hhd : Held w1 [] [⟨A, n, c, l⟩] := fun s hs => by
    rw [List.mem_singleton.1 hs]
    exact ⟨hr1, hnc, hcm, by show n ≤ 1048576; omega, fun _ k _ => by simp⟩
  have HRF := Lib.hid (refuse_is hj1 (some ⟨w.heap.size, 0, none⟩) 1 1 _ [] [⟨A, n, c, l⟩] (js.half.room - usedJ js) rfl hrr hhd (by omega))
  have HRM := Lib.hid (room_is hj1)
  have HUS := Lib.hid (used_is hj1 (by omega))
  have hsm := hj.sm
  obtain ⟨_, ⟨fr0, fr1⟩, room0, room1⟩ := hsm
  have hfit := fits_of hre
  have hbl := hr.len
  have htb : takesB l = 1 + needZ (n : Int) := by unfold takesB; rw [hbl]
  have hzz : 1 ≤ 1 + needZ (n : Int) ∧ 1 + needZ (n : Int) ≤ 20000 := by unfold needZ; split <;> omega
  have HTK := Lib.hid (fun w => takes_any A n c w (by omega))
  have hd1 := hd.only0 ho1.drew
  have happ := appJ hre hP hZ hS hM hS2
  have hpd := packH_done d js.half (usedJ js) l
  rw [hP] at hpd
  have hzd := zero_done D1 js.half (usedJ js + takesB l)
  rw [hZ] at hzd
  have hsd := syn_done D2
  rw [hS] at hsd
  have hmd := wr_done D3 (js.half.fr + usedJ js) (putB (markH js.half js.l.length l))
  rw [hM] at hmd
  simp only at hpd hzd hsd hmd
  have htt := takesB_le (b := l) (by omega)
  have HPK := Lib.hid (show Calls Tryz.prog 63 #[js.half.val p, .int .i64 (usedJ js), .slice A n c] w1.drew fun x w' => BoolJ w1.drew p g b W cap (D1, b1) x w' from by
    have := hpack_any hd1 hn2 js.half hj.sm (usedJ js) (by omega) A n c l hr1 hn hnc hcm (by omega)
    rw [hP] at this
    exact this)
  have HZR := Lib.hid (fun (wx : World) (Wx : List Nat) (hd : IsD wx p g b Wx cap D1) => (show Calls Tryz.prog 58 #[js.half.val p, .int .i64 (usedJ js + takesB l)] wx fun x w' => BoolJ wx p g b Wx cap (D2, b2) x w' from by
    have := zero_any hd js.half hj.sm (usedJ js + takesB l) (by omega) (by omega)
    rw [hZ] at this
    exact this))
  have hcs := errS_is D2
  rw [hS] at hcs
  obtain ⟨e3, he3⟩ : ∃ e, errS D2 = e := ⟨_, rfl⟩
  rw [he3] at hcs
  have HSY := Lib.hid (fun (wx : World) (Wx : List Nat) (hd : IsD wx p g b Wx cap D2) => sync_0 hd he3 (show (synD D2).1 = D3 by rw [hS]) (by omega))
  have HBJ := Lib.hid (fun (wx : World) (ho : Only [p, g, b] w1.drew wx) => hj1.blk.drew.only ho (hj1.q_far (hd.only0 ho1)))
  have HFO := Lib.hid (fun (Dx : DS) (wx : World) (h : Did w1.drew p g b W cap Dx wx) => fail_out hd ho1.drew hj hWT h)
  simp only [List.map_cons, List.map_nil] at HRF
  rw [hre] at HRF
  have yj := hj1.blk.drew
  have x0 := yj.cell 0
  have x1 := yj.cell 1
  have x2 := yj.cell 2
  have x3 := yj.cell 3
  have HAPP := Lib.hid happ
  rw [htb] at HZR
  have hlen : ss.length = js.l.length := by rw [← hj.l, List.length_map]
  obtain ⟨Av, cv, hv, hmc, hcv, _, _⟩ := hj.row
  have x4 := hj1.blk.drew.cell 4
  have HBL := Lib.hid (fun (wx : World) (ho : Only [p, g, b] w1.drew wx) => (hj1.blk.drew.only ho (hj1.q_far (hd.only0 ho1))).cell 4)
  have HBY := Lib.hid (fun (wx : World) (ho : Only [p, g, b] w1.drew wx) => ((hr1.drew.only_pos ho (fun hn k hk hm => hfar hn k hk (jt_of k hm))).more ho.size))
  obtain ⟨MM, hMM⟩ : ∃ MM, markH js.half js.l.length l = MM := ⟨_, rfl⟩
  rw [hMM] at hM
  rw [← hlen] at hMM
  have HMK := Lib.hid (fun (wx : World) (hb : Bytes wx wx.heap.size A n l) => (show Calls Tryz.prog 68 #[js.half.val p, .int .i64 (ss.length : Int), .slice A n c] wx fun x w' => x = .returned MM.val ∧ Only [] wx w' from by
    have := mark_any wx p js.half (ss.length : Int) A n c wx.heap.size l hb (by omega)
    rw [hMM] at this
    exact this))
  have HPM := Lib.hid (fun wx => Frame.put_any MM wx)
  have hpl := putB_len MM
  have HPUT := Lib.hid (fun (wx : World) (Wx : List Nat) (hd : IsD wx p g b Wx cap D3) (A5 : Option Addr) (n5 c5 : Nat) (hb : Bytes wx wx.heap.size A5 n5 (putB MM)) => (show Calls Tryz.prog 66 #[js.half.val p, .int .i64 (usedJ js), .slice A5 n5 c5] wx fun x w' => BoolJ wx p g b Wx cap (D4, b4) x w' from by
    have hbl := hb.len
    have := put_any hd js.half hj.sm (usedJ js) (by omega) (c := c5) hb (Nat.le_refl _) (by omega) (by omega)
    rw [hM] at this
    exact this))
  have hcs5 := errS_is D4
  rw [hS2] at hcs5
  obtain ⟨e5, he5⟩ : ∃ e, errS D4 = e := ⟨_, rfl⟩
  rw [he5] at hcs5
  have HSY5 := Lib.hid (fun (wx : World) (Wx : List Nat) (hd : IsD wx p g b Wx cap D4) => sync_0 hd he5 (show (synD D4).1 = D5 by rw [hS2]) (by omega))
  have HCL := Lib.hid (fun (wx : World) (hb : Bytes wx wx.heap.size A n l) => clone_all A n c wx.heap.size l wx hb (Nat.le_refl _) (by omega))
  have HOK := Lib.hid (fun (w8 w10 w11 : World) (v' : Value) (A' : Option Addr) (c' : Nat) (hdid : Did w1.drew p g b W cap D5 w8) (ho8 : Only [] w8 w10) (hb : Bytes w10 w10.heap.size A' n l) (h1 : n ≤ c') (h2 : c' ≤ maxLen) (hf : ∀ k ∈ blkOf A', w8.heap.size ≤ k) (hE : ExtR 35 1 w10 w11 base v v' (ss.length + 1) ((ss.map fun s => [s.val]) ++ [[(⟨A', n, c', l⟩ : Sl).val]])) => ok_out hd ho1.drew hj hWT hdid ho8 hb h1 h2 (by omega) hf hE)
  have HOWN := Lib.hid (fun (wx : World) (ho : Only [p, g, b] w1.drew wx) => ((hj1.only0 (Only.refl [] w1).drew).deed (hd1) ho).own)
  have HBB := Lib.hid (fun (wx : World) (ho : Only [p, g, b] w1.drew wx) => hj1.blk.drew.only ho (hj1.q_far (hd.only0 ho1)))
  have HQV := Lib.hid (row_ne hj.own q hj.blk (by decide))
  have HBS := Lib.hid (fun k hk => (hj.own.lt k hk))
  have hbsz : base ≤ w1.heap.size ∨ ownL v = [] := by
    cases hh : ownL v with
    | nil => exact .inr rfl
    | cons k t => exact .inl (by have := hj.own.lt k (by rw [hh]; simp); omega)
  rw [hv] at x4
  simp only [hv] at HBL
  obtain ⟨U, hU⟩ : ∃ U, usedJ js = U := ⟨_, rfl⟩
  rw [hU] at hub HRF HUS HPK HZR hfit
  obtain ⟨z, hz⟩ : ∃ z, 1 + needZ (n : Int) = z := ⟨_, rfl⟩
  rw [hz] at htb hzz HTK HZR
  rw [htb] at hfit
  obtain ⟨⟨gen, fr, room⟩, hh⟩ : ∃ h, js.half = h := ⟨_, rfl⟩
  rw [hh] at HPK HZR HRM HRF HBJ hfit room0 room1 fr0 fr1 x0 x1 x2 x3
  unfold Half.val at HPK HZR
  simp only at HPK HZR HRM HRF HBJ hfit room0 room1 fr0 fr1 x0 x1 x2 x3
  obtain ⟨u0, u1⟩ := hub
  obtain ⟨z0, z1⟩ := hzz
  have hwr : IntKind.i64.wrap (U + z) = U + z := by rw [IntKind.wrap_i64]; omega
  rw [hU] at HPUT
  rw [hh] at HMK HPUT HBB
  unfold Half.val at HMK HPUT
  simp only at HMK HPUT HBB
  obtain ⟨m, hm⟩ : ∃ m, ss.length = m := ⟨_, rfl⟩
  rw [hm] at HMK HOK HOWN hv x4 HBL hmc hsl
  clear HBS hMM hlen hm hpl he5
  obtain ⟨rfl, rfl, rfl, hb⟩ := hb
  obtain rfl : e3 = 0 := by
    rcases hcs with h | h
    · exact h.1
    · cases h.2
  obtain ⟨rfl, rfl⟩ := hb
  obtain rfl : e5 = 0 := by
    rcases hcs5 with h | h
    · exact h.1
    · cases h.2
  have HBV := Lib.hid (fun (wx : World) (ho : Only [p, g, b] w1.drew wx) => (show Blk wx q 65 #[.pointer (some ⟨p, 0, none⟩), .int .i64 gen, .int .i64 fr, .int .i64 room, .slice Av m cv, .bool js.off] from by
    have := HBB.out wx ho
    rw [hv] at this
    exact this))
  have HBSZ := Lib.hid (fun (wx : World) (h : w1.heap.size ≤ wx.heap.size) => (show base ≤ wx.heap.size + 1 from by omega))
  clear hd hj hWT hr hfar hj1 hr1 hhd hrr happ hU ho1 hs1 hd1 hpd hzd hsd hmd htt hcs he3 hP hZ hS hM hS2 yj htb hz hh hre hbl
  go_enter Tryz.func15, Tryz.ntmps15
  go_wp2_with (first
    | (go_at_call 33; refine HRM.out.mono ?_; rintro x wa ⟨rfl, hwa⟩; have hwa := hwa.symm; subst hwa)
    | (go_at_call 31; refine HUS.out.mono ?_; rintro x wb ⟨rfl, hwb⟩; have hwb := hwb.symm; subst hwb)
    | (go_at_call 62; refine HRF.out.mono ?_; rintro x wc ⟨rfl, hwc⟩; have hwc := hwc.symm; subst hwc))
  refine wp_region_hand (S := fun Y => Y.cell? ⟨q, 0, none⟩ = some (.pointer (some ⟨p, 0, none⟩)) ∧ Y.cell? ⟨q, 1, none⟩ = some (.int .i64 gen) ∧ Y.cell? ⟨q, 2, none⟩ = some (.int .i64 fr) ∧ Y.cell? ⟨q, 3, none⟩ = some (.int .i64 room)) (by kernel_rfl) ?_
  have hS := (show w1.drew.cell? ⟨q, 0, none⟩ = some (.pointer (some ⟨p, 0, none⟩)) ∧ w1.drew.cell? ⟨q, 1, none⟩ = some (.int .i64 gen) ∧ w1.drew.cell? ⟨q, 2, none⟩ = some (.int .i64 fr) ∧ w1.drew.cell? ⟨q, 3, none⟩ = some (.int .i64 room) from ⟨x0, x1, x2, x3⟩)
  refine takeV 0 (.pointer (some ⟨q, 0, none⟩)) rfl rfl (by kernel_rfl) (fun Y hY => by obtain ⟨y0, y1, y2, y3⟩ := hY; go_simp) hS ?_; simp only [s0A, s0B, s0C]
  refine takeV 1 (.pointer (some ⟨q, 0, none⟩)) rfl rfl (by kernel_rfl) (fun Y hY => by obtain ⟨y0, y1, y2, y3⟩ := hY; go_simp) hS ?_; simp only [s0A, s0B, s0C]
  refine takeV 2 (.pointer (some ⟨q, 0, none⟩)) rfl rfl (by kernel_rfl) (fun Y hY => by obtain ⟨y0, y1, y2, y3⟩ := hY; go_simp) hS ?_; simp only [s0A, s0B, s0C]
  refine takeV 3 (.agg #[.pointer (some ⟨p, 0, none⟩), .int .i64 gen, .int .i64 fr, .int .i64 room]) rfl rfl (by kernel_rfl) (fun Y hY => by obtain ⟨y0, y1, y2, y3⟩ := hY; go_simp) hS ?_; simp only [s0A, s0B, s0C]
  refine takeV 4 (.int .i64 U) rfl rfl (by kernel_rfl) (fun Y hY => by obtain ⟨y0, y1, y2, y3⟩ := hY; go_simp) hS ?_; simp only [s0A, s0B, s0C]
  refine takeV 5 (.slice A n c) rfl rfl (by kernel_rfl) (fun Y hY => by obtain ⟨y0, y1, y2, y3⟩ := hY; go_simp) hS ?_; simp only [s0A, s0B, s0C]
  refine callW (i := 6) rfl (by kernel_rfl) rfl (by rfl) ?_ (HPK.out) ?_
  · go_simp
  rintro x w2 ⟨rfl, hdid⟩
  have HD2 := Lib.hid hdid
  obtain ⟨W2, hd2, hn2', ho2⟩ := HD2.out
  have hb2 := HBJ.out w2 ho2
  have hS2 := (show _ ∧ _ ∧ _ ∧ _ from ⟨hb2.cell 0, hb2.cell 1, hb2.cell 2, hb2.cell 3⟩)
  have HZ2 := Lib.hid (HZR.out w2 W2 hd2)
  have HN2 := Lib.hid hn2'
  have HO2 := Lib.hid ho2
  clear hdid hd2 hn2' ho2 hb2
  refine ⟨_, rfl, hS2, ?_⟩
  simp only [s0A, s0B, s0C]
  refine takeV 7 (.bool false) rfl rfl (by kernel_rfl) (fun Y hY => by obtain ⟨y0, y1, y2, y3⟩ := hY; go_simp) hS2 ?_; simp only [s0A, s0B, s0C]
  refine takeV 8 (.bool false) rfl rfl (by kernel_rfl) (fun Y hY => by obtain ⟨y0, y1, y2, y3⟩ := hY; go_simp) hS2 ?_; simp only [s0A, s0B, s0C]
  refine takeV 9 (.pointer (some ⟨q, 0, none⟩)) rfl rfl (by kernel_rfl) (fun Y hY => by obtain ⟨y0, y1, y2, y3⟩ := hY; go_simp) hS2 ?_; simp only [s0A, s0B, s0C]
  refine takeV 10 (.pointer (some ⟨q, 0, none⟩)) rfl rfl (by kernel_rfl) (fun Y hY => by obtain ⟨y0, y1, y2, y3⟩ := hY; go_simp) hS2 ?_; simp only [s0A, s0B, s0C]
  refine takeV 11 (.pointer (some ⟨q, 0, none⟩)) rfl rfl (by kernel_rfl) (fun Y hY => by obtain ⟨y0, y1, y2, y3⟩ := hY; go_simp) hS2 ?_; simp only [s0A, s0B, s0C]
  refine takeV 12 (.agg #[.pointer (some ⟨p, 0, none⟩), .int .i64 gen, .int .i64 fr, .int .i64 room]) rfl rfl (by kernel_rfl) (fun Y hY => by obtain ⟨y0, y1, y2, y3⟩ := hY; go_simp) hS2 ?_; simp only [s0A, s0B, s0C]
  refine takeV 13 (.int .i64 U) rfl rfl (by kernel_rfl) (fun Y hY => by obtain ⟨y0, y1, y2, y3⟩ := hY; go_simp) hS2 ?_; simp only [s0A, s0B, s0C]
  refine takeV 14 (.slice A n c) rfl rfl (by kernel_rfl) (fun Y hY => by obtain ⟨y0, y1, y2, y3⟩ := hY; go_simp) hS2 ?_; simp only [s0A, s0B, s0C]
  refine callW (i := 15) rfl (by kernel_rfl) rfl (by rfl) ?_ (HTK.out w2) ?_
  · go_simp
  rintro x wt ⟨rfl, hwt⟩
  have hwt := hwt.symm
  subst hwt
  refine ⟨_, rfl, hS2, ?_⟩
  simp only [s0A, s0B, s0C]
  refine takeV 16 (.int .i64 (U + z)) rfl rfl (by kernel_rfl) (fun Y hY => by obtain ⟨y0, y1, y2, y3⟩ := hY; go_simp) hS2 ?_; simp only [s0A, s0B, s0C]
  refine callW (i := 17) rfl (by kernel_rfl) rfl (by rfl) ?_ (HZ2.out) ?_
  · go_simp
  rintro x w3 ⟨rfl, hdid⟩
  have HD3 := Lib.hid (Did.trans HN2.out HO2.out hdid)
  obtain ⟨W3, hd3, hn3', ho3⟩ := HD3.out
  have hb3 := HBJ.out w3 ho3
  have hS3 := (show _ ∧ _ ∧ _ ∧ _ from ⟨hb3.cell 0, hb3.cell 1, hb3.cell 2, hb3.cell 3⟩)
  have HS3 := Lib.hid (HSY.out w3 W3 hd3)
  have HN3 := Lib.hid hn3'
  have HO3 := Lib.hid ho3
  clear hdid hd3 hn3' ho3 hb3
  refine ⟨_, rfl, hS3, ?_⟩
  simp only [s0A, s0B, s0C]
  refine takeV 18 (.bool false) rfl rfl (by kernel_rfl) (fun Y hY => by obtain ⟨y0, y1, y2, y3⟩ := hY; go_simp) hS3 ?_; simp only [s0A, s0B, s0C]
  refine takeV 19 (.bool false) rfl rfl (by kernel_rfl) (fun Y hY => by obtain ⟨y0, y1, y2, y3⟩ := hY; go_simp) hS3 ?_; simp only [s0A, s0B, s0C]
  refine takeV 20 (.bool false) rfl rfl (by kernel_rfl) (fun Y hY => by obtain ⟨y0, y1, y2, y3⟩ := hY; go_simp) hS3 ?_; simp only [s0A, s0B, s0C]
  refine takeV 21 (.pointer (some ⟨q, 0, none⟩)) rfl rfl (by kernel_rfl) (fun Y hY => by obtain ⟨y0, y1, y2, y3⟩ := hY; go_simp) hS3 ?_; simp only [s0A, s0B, s0C]
  refine takeV 22 (.pointer (some ⟨q, 0, none⟩)) rfl rfl (by kernel_rfl) (fun Y hY => by obtain ⟨y0, y1, y2, y3⟩ := hY; go_simp) hS3 ?_; simp only [s0A, s0B, s0C]
  refine takeV 23 (.pointer (some ⟨q, 0, none⟩)) rfl rfl (by kernel_rfl) (fun Y hY => by obtain ⟨y0, y1, y2, y3⟩ := hY; go_simp) hS3 ?_; simp only [s0A, s0B, s0C]
  refine takeV 24 (.pointer (some ⟨q, 0, none⟩)) rfl rfl (by kernel_rfl) (fun Y hY => by obtain ⟨y0, y1, y2, y3⟩ := hY; go_simp) hS3 ?_; simp only [s0A, s0B, s0C]
  refine takeV 25 (.pointer (some ⟨p, 0, none⟩)) rfl rfl (by kernel_rfl) (fun Y hY => by obtain ⟨y0, y1, y2, y3⟩ := hY; go_simp) hS3 ?_; simp only [s0A, s0B, s0C]
  refine callW (i := 26) rfl (by kernel_rfl) rfl (by rfl) ?_ (HS3.out) ?_
  · go_simp
  rintro x w4 ⟨rfl, hdid⟩
  have HD4 := Lib.hid (Did.trans HN3.out HO3.out hdid)
  obtain ⟨W4, hd4, hn4', ho4⟩ := HD4.out
  have hb4 := HBJ.out w4 ho4
  have hS4 := (show _ ∧ _ ∧ _ ∧ _ from ⟨hb4.cell 0, hb4.cell 1, hb4.cell 2, hb4.cell 3⟩)
  have HX4 := Lib.hid hd4
  have HN4 := Lib.hid hn4'
  have HO4 := Lib.hid ho4
  clear hdid hd4 hn4' ho4 hb4
  refine ⟨_, rfl, hS4, ?_⟩
  simp only [s0A, s0B, s0C]
  refine takeV 27 (.bool false) rfl rfl (by kernel_rfl) (fun Y hY => by obtain ⟨y0, y1, y2, y3⟩ := hY; go_simp) hS4 ?_; simp only [s0A, s0B, s0C]
  refine takeV 28 (.bool false) rfl rfl (by kernel_rfl) (fun Y hY => by obtain ⟨y0, y1, y2, y3⟩ := hY; go_simp) hS4 ?_; simp only [s0A, s0B, s0C]
  refine wpAnyH_done (by kernel_rfl) ?_ _
  go_wp2_with fail
  have hb4 := HBV.out w4 HO4.out
  refine wp_region_hand (S := fun Y => Y.cell? ⟨q, 0, none⟩ = some (.pointer (some ⟨p, 0, none⟩)) ∧ Y.cell? ⟨q, 1, none⟩ = some (.int .i64 gen) ∧ Y.cell? ⟨q, 2, none⟩ = some (.int .i64 fr) ∧ Y.cell? ⟨q, 3, none⟩ = some (.int .i64 room) ∧ Y.cell? ⟨q, 4, none⟩ = some (.slice Av m cv)) (by kernel_rfl) ?_
  have hS := (show w4.drew.cell? ⟨q, 0, none⟩ = some (.pointer (some ⟨p, 0, none⟩)) ∧ w4.drew.cell? ⟨q, 1, none⟩ = some (.int .i64 gen) ∧ w4.drew.cell? ⟨q, 2, none⟩ = some (.int .i64 fr) ∧ w4.drew.cell? ⟨q, 3, none⟩ = some (.int .i64 room) ∧ w4.drew.cell? ⟨q, 4, none⟩ = some (.slice Av m cv) from ⟨hb4.cell 0, hb4.cell 1, hb4.cell 2, hb4.cell 3, hb4.cell 4⟩)
  refine takeV 0 (.pointer (some ⟨q, 0, none⟩)) rfl rfl (by kernel_rfl) (fun Y hY => by obtain ⟨y0, y1, y2, y3, y4⟩ := hY; go_simp) hS ?_; simp only [s0A, s0B, s0C]
  refine takeV 1 (.pointer (some ⟨q, 0, none⟩)) rfl rfl (by kernel_rfl) (fun Y hY => by obtain ⟨y0, y1, y2, y3, y4⟩ := hY; go_simp) hS ?_; simp only [s0A, s0B, s0C]
  refine takeV 2 (.pointer (some ⟨q, 0, none⟩)) rfl rfl (by kernel_rfl) (fun Y hY => by obtain ⟨y0, y1, y2, y3, y4⟩ := hY; go_simp) hS ?_; simp only [s0A, s0B, s0C]
  refine takeV 3 (.agg #[.pointer (some ⟨p, 0, none⟩), .int .i64 gen, .int .i64 fr, .int .i64 room]) rfl rfl (by kernel_rfl) (fun Y hY => by obtain ⟨y0, y1, y2, y3, y4⟩ := hY; go_simp) hS ?_; simp only [s0A, s0B, s0C]
  refine takeV 4 (.int .i64 U) rfl rfl (by kernel_rfl) (fun Y hY => by obtain ⟨y0, y1, y2, y3, y4⟩ := hY; go_simp) hS ?_; simp only [s0A, s0B, s0C]
  refine takeV 5 (.pointer (some ⟨q, 0, none⟩)) rfl rfl (by kernel_rfl) (fun Y hY => by obtain ⟨y0, y1, y2, y3, y4⟩ := hY; go_simp) hS ?_; simp only [s0A, s0B, s0C]
  refine takeV 6 (.pointer (some ⟨q, 0, none⟩)) rfl rfl (by kernel_rfl) (fun Y hY => by obtain ⟨y0, y1, y2, y3, y4⟩ := hY; go_simp) hS ?_; simp only [s0A, s0B, s0C]
  refine takeV 7 (.pointer (some ⟨q, 0, none⟩)) rfl rfl (by kernel_rfl) (fun Y hY => by obtain ⟨y0, y1, y2, y3, y4⟩ := hY; go_simp) hS ?_; simp only [s0A, s0B, s0C]
  refine takeV 8 (.agg #[.pointer (some ⟨p, 0, none⟩), .int .i64 gen, .int .i64 fr, .int .i64 room]) rfl rfl (by kernel_rfl) (fun Y hY => by obtain ⟨y0, y1, y2, y3, y4⟩ := hY; go_simp) hS ?_; simp only [s0A, s0B, s0C]
  refine takeV 9 (.pointer (some ⟨q, 0, none⟩)) rfl rfl (by kernel_rfl) (fun Y hY => by obtain ⟨y0, y1, y2, y3, y4⟩ := hY; go_simp) hS ?_; simp only [s0A, s0B, s0C]
  refine takeV 10 (.pointer (some ⟨q, 0, none⟩)) rfl rfl (by kernel_rfl) (fun Y hY => by obtain ⟨y0, y1, y2, y3, y4⟩ := hY; go_simp) hS ?_; simp only [s0A, s0B, s0C]
  refine takeV 11 (.pointer (some ⟨q, 4, none⟩)) rfl rfl (by kernel_rfl) (fun Y hY => by obtain ⟨y0, y1, y2, y3, y4⟩ := hY; go_simp) hS ?_; simp only [s0A, s0B, s0C]
  refine takeV 12 (.slice Av m cv) rfl rfl (by kernel_rfl) (fun Y hY => by obtain ⟨y0, y1, y2, y3, y4⟩ := hY; go_simp) hS ?_; simp only [s0A, s0B, s0C]
  refine takeV 13 (.int .i64 (m : Int)) rfl rfl (by kernel_rfl) (fun Y hY => by obtain ⟨y0, y1, y2, y3, y4⟩ := hY; go_simp) hS ?_; simp only [s0A, s0B, s0C]
  refine takeV 14 (.slice A n c) rfl rfl (by kernel_rfl) (fun Y hY => by obtain ⟨y0, y1, y2, y3, y4⟩ := hY; go_simp) hS ?_; simp only [s0A, s0B, s0C]
  refine callW (i := 15) rfl (by kernel_rfl) rfl (by rfl) ?_ (HMK.out w4.drew (HBY.out w4 HO4.out)) ?_
  · go_simp
  rintro x w5 ⟨rfl, ho5⟩
  have hb5 := hb4.drew.only ho5 (by simp)
  have hS5 := (show w5.cell? ⟨q, 0, none⟩ = some (.pointer (some ⟨p, 0, none⟩)) ∧ w5.cell? ⟨q, 1, none⟩ = some (.int .i64 gen) ∧ w5.cell? ⟨q, 2, none⟩ = some (.int .i64 fr) ∧ w5.cell? ⟨q, 3, none⟩ = some (.int .i64 room) ∧ w5.cell? ⟨q, 4, none⟩ = some (.slice Av m cv) from ⟨hb5.cell 0, hb5.cell 1, hb5.cell 2, hb5.cell 3, hb5.cell 4⟩)
  have HO5 := Lib.hid ((Only.refl [] w4).drew.trans ho5 (by simp))
  refine ⟨_, rfl, hS5, ?_⟩
  simp only [s0A, s0B, s0C]
  refine callW (i := 16) rfl (by kernel_rfl) rfl (by rfl) ?_ (HPM.out w5) ?_
  · go_simp
  rintro x w6 ⟨u6, rfl, hown6, ho6⟩
  obtain ⟨A6, c6, rfl, _, _, hr6, _⟩ := hown6.shape
  have hb6 := hb5.only ho6 (by simp)
  have hS6 := (show w6.cell? ⟨q, 0, none⟩ = some (.pointer (some ⟨p, 0, none⟩)) ∧ w6.cell? ⟨q, 1, none⟩ = some (.int .i64 gen) ∧ w6.cell? ⟨q, 2, none⟩ = some (.int .i64 fr) ∧ w6.cell? ⟨q, 3, none⟩ = some (.int .i64 room) ∧ w6.cell? ⟨q, 4, none⟩ = some (.slice Av m cv) from ⟨hb6.cell 0, hb6.cell 1, hb6.cell 2, hb6.cell 3, hb6.cell 4⟩)
  have HO6 := Lib.hid (HO5.out.trans ho6 (by simp))
  have HP6 := Lib.hid (HPUT.out w6 W4 (HX4.out.only0 HO6.out) A6 _ c6 hr6)
  refine ⟨_, rfl, hS6, ?_⟩
  simp only [s0A, s0B, s0C]
  refine callW (i := 17) rfl (by kernel_rfl) rfl (by rfl) ?_ (HP6.out) ?_
  · go_simp
  rintro x w7 ⟨rfl, hdid⟩
  have HD7 := Lib.hid (Did.trans HN4.out HO4.out (did_after HO6.out hdid))
  obtain ⟨W7, hd7, hn7', ho7⟩ := HD7.out
  have hb7 := HBV.out w7 ho7
  have hS7 := (show w7.cell? ⟨q, 0, none⟩ = some (.pointer (some ⟨p, 0, none⟩)) ∧ w7.cell? ⟨q, 1, none⟩ = some (.int .i64 gen) ∧ w7.cell? ⟨q, 2, none⟩ = some (.int .i64 fr) ∧ w7.cell? ⟨q, 3, none⟩ = some (.int .i64 room) ∧ w7.cell? ⟨q, 4, none⟩ = some (.slice Av m cv) from ⟨hb7.cell 0, hb7.cell 1, hb7.cell 2, hb7.cell 3, hb7.cell 4⟩)
  have HS7 := Lib.hid (HSY5.out w7 W7 hd7)
  have HN7 := Lib.hid hn7'
  have HO7 := Lib.hid ho7
  clear hdid hd7 hn7' ho7
  refine ⟨_, rfl, hS7, ?_⟩
  simp only [s0A, s0B, s0C]
  refine takeV 18 (.bool false) rfl rfl (by kernel_rfl) (fun Y hY => by obtain ⟨y0, y1, y2, y3, y4⟩ := hY; go_simp) hS7 ?_; simp only [s0A, s0B, s0C]
  refine takeV 19 (.bool false) rfl rfl (by kernel_rfl) (fun Y hY => by obtain ⟨y0, y1, y2, y3, y4⟩ := hY; go_simp) hS7 ?_; simp only [s0A, s0B, s0C]
  refine takeV 20 (.pointer (some ⟨q, 0, none⟩)) rfl rfl (by kernel_rfl) (fun Y hY => by obtain ⟨y0, y1, y2, y3, y4⟩ := hY; go_simp) hS7 ?_; simp only [s0A, s0B, s0C]
  refine takeV 21 (.pointer (some ⟨q, 0, none⟩)) rfl rfl (by kernel_rfl) (fun Y hY => by obtain ⟨y0, y1, y2, y3, y4⟩ := hY; go_simp) hS7 ?_; simp only [s0A, s0B, s0C]
  refine takeV 22 (.pointer (some ⟨q, 0, none⟩)) rfl rfl (by kernel_rfl) (fun Y hY => by obtain ⟨y0, y1, y2, y3, y4⟩ := hY; go_simp) hS7 ?_; simp only [s0A, s0B, s0C]
  refine takeV 23 (.pointer (some ⟨q, 0, none⟩)) rfl rfl (by kernel_rfl) (fun Y hY => by obtain ⟨y0, y1, y2, y3, y4⟩ := hY; go_simp) hS7 ?_; simp only [s0A, s0B, s0C]
  refine takeV 24 (.pointer (some ⟨p, 0, none⟩)) rfl rfl (by kernel_rfl) (fun Y hY => by obtain ⟨y0, y1, y2, y3, y4⟩ := hY; go_simp) hS7 ?_; simp only [s0A, s0B, s0C]
  refine callW (i := 25) rfl (by kernel_rfl) rfl (by rfl) ?_ (HS7.out) ?_
  · go_simp
  rintro x w8 ⟨rfl, hdid⟩
  have HD8 := Lib.hid (Did.trans HN7.out HO7.out hdid)
  obtain ⟨W8, hd8, hn8', ho8⟩ := HD8.out
  have hb8 := HBV.out w8 ho8
  have hS8 := (show w8.cell? ⟨q, 0, none⟩ = some (.pointer (some ⟨p, 0, none⟩)) ∧ w8.cell? ⟨q, 1, none⟩ = some (.int .i64 gen) ∧ w8.cell? ⟨q, 2, none⟩ = some (.int .i64 fr) ∧ w8.cell? ⟨q, 3, none⟩ = some (.int .i64 room) ∧ w8.cell? ⟨q, 4, none⟩ = some (.slice Av m cv) from ⟨hb8.cell 0, hb8.cell 1, hb8.cell 2, hb8.cell 3, hb8.cell 4⟩)
  have HO8 := Lib.hid ho8
  clear hdid hd8 hn8'
  refine ⟨_, rfl, hS8, ?_⟩
  simp only [s0A, s0B, s0C]
  refine takeV 26 (.bool false) rfl rfl (by kernel_rfl) (fun Y hY => by obtain ⟨y0, y1, y2, y3, y4⟩ := hY; go_simp) hS8 ?_; simp only [s0A, s0B, s0C]
  refine takeV 27 (.bool false) rfl rfl (by kernel_rfl) (fun Y hY => by obtain ⟨y0, y1, y2, y3, y4⟩ := hY; go_simp) hS8 ?_; simp only [s0A, s0B, s0C]
  refine wpAnyH_done (by kernel_rfl) ?_ _
  go_wp2_with fail
  refine wp_region_hand (S := fun _ => True) (by kernel_rfl) ?_
  have hl8 := (HBV.out w8 HO8.out).cell 4
  have hby8 := HBY.out w8 HO8.out
  refine takeV 0 (.pointer (some ⟨q, 0, none⟩)) rfl rfl (by kernel_rfl) (fun _ _ => by go_simp) trivial ?_; simp only [s0A, s0B, s0C]
  refine takeV 1 (.pointer (some ⟨q, 0, none⟩)) rfl rfl (by kernel_rfl) (fun _ _ => by go_simp) trivial ?_; simp only [s0A, s0B, s0C]
  refine takeV 2 (.pointer (some ⟨q, 0, none⟩)) rfl rfl (by kernel_rfl) (fun _ _ => by go_simp) trivial ?_; simp only [s0A, s0B, s0C]
  refine takeV 3 (.pointer (some ⟨q, 4, none⟩)) rfl rfl (by kernel_rfl) (fun _ _ => by go_simp) trivial ?_; simp only [s0A, s0B, s0C]
  refine takeV 5 (.slice A n c) rfl rfl (by kernel_rfl) (fun _ _ => by go_simp) trivial ?_; simp only [s0A, s0B, s0C]
  refine twoH (i := 4) (j := 6) rfl rfl (by kernel_rfl) rfl rfl ?_ ?_
  · skip
    go_simp
    refine callW (i := 6) rfl (by kernel_rfl) rfl (by rfl) ?_ (HCL.out w8.drew hby8.drew) ?_
    · go_simp
    rintro x w10 ⟨A', c', rfl, hb10, hc1, hc2, ho10, hf10⟩
    have hbv10 := (HBV.out w8 HO8.out).drew.only ho10 (by simp)
    have hl10 := hbv10.cell 4
    have hown10 := (HOWN.out w8 HO8.out).drew.only ho10 (by simp)
    have HO10 := Lib.hid ((Only.refl [] w8).drew.trans ho10 (by simp))
    refine ⟨_, rfl, trivial, ?_⟩
    simp only [s0A, s0B, s0C]
    refine oneH (i := 7) rfl (by kernel_rfl) rfl ?_
    go_simp
    refine oneH (i := 8) rfl (by kernel_rfl) rfl ?_
    rw [hv] at hown10
    refine step_append1 (w := w10) rfl (.tmp 86) (.tmp 89) 34 rfl Tryz.underlying34 sl_info rfl (by decide) rfl hown10 rfl rfl (row := [(⟨A', n, c', l⟩ : Sl).val]) rfl rfl (by intro u hu; rw [List.mem_singleton.1 hu]; rfl) (by omega) (by unfold maxLen; omega) (HBSZ.out w10 (Nat.le_trans HO8.out.size HO10.out.size)) ?_
    intro v' w11 hE
    rw [← hv] at hE
    obtain ⟨g', cap', rfl⟩ := ownsRow_succ hE.own.own
    have bJ11 := hbv10.only hE.only HQV.out
    have c11 := bJ11.cell 4
    have f11 := bJ11.frozen 4
    refine ⟨trivial, ?_⟩
    go_simp
    refine takeV 9 (.pointer (some ⟨q, 0, none⟩)) rfl rfl (by kernel_rfl) (fun _ _ => by go_simp) trivial ?_; simp only [s0A, s0B, s0C]
    refine takeV 10 (.pointer (some ⟨q, 4, none⟩)) rfl rfl (by kernel_rfl) (fun _ _ => by go_simp) trivial ?_; simp only [s0A, s0B, s0C]
    refine oneH (i := 11) rfl (by kernel_rfl) rfl ?_
    go_simp
    refine ⟨by kernel_rfl, ?_⟩
    have HF := Lib.hid (HOK.out w8 w10 w11 _ A' c' HD8.out HO10.out hb10 hc1 hc2 hf10 hE)
    go_wp2_with fail
    go_ret
    rw [HAPP.out]
    exact HF.out
  · skip
    refine call_if rfl (by rfl) ?_ (HCL.out w8.drew hby8.drew) ?_
    · go_simp
    rintro x w10 ⟨A', c', rfl, hb10, hc1, hc2, ho10, hf10⟩
    have hbv10 := (HBV.out w8 HO8.out).drew.only ho10 (by simp)
    have hl10 := hbv10.cell 4
    have hown10 := (HOWN.out w8 HO8.out).drew.only ho10 (by simp)
    have HO10 := Lib.hid ((Only.refl [] w8).drew.trans ho10 (by simp))
    refine ⟨_, rfl, trivial, ?_⟩
    simp only [s0A, s0B, s0C]
    refine twoH (i := 4) (j := 7) rfl rfl (by kernel_rfl) rfl rfl ?_ ?_
    · go_simp
      refine oneH (i := 7) rfl (by kernel_rfl) rfl ?_
      go_simp
      refine oneH (i := 8) rfl (by kernel_rfl) rfl ?_
      rw [hv] at hown10
      refine step_append1 (w := w10) rfl (.tmp 86) (.tmp 89) 34 rfl Tryz.underlying34 sl_info rfl (by decide) rfl hown10 rfl rfl (row := [(⟨A', n, c', l⟩ : Sl).val]) rfl rfl (by intro u hu; rw [List.mem_singleton.1 hu]; rfl) (by omega) (by unfold maxLen; omega) (HBSZ.out w10 (Nat.le_trans HO8.out.size HO10.out.size)) ?_
      intro v' w11 hE
      rw [← hv] at hE
      obtain ⟨g', cap', rfl⟩ := ownsRow_succ hE.own.own
      have bJ11 := hbv10.only hE.only HQV.out
      have c11 := bJ11.cell 4
      have f11 := bJ11.frozen 4
      refine ⟨trivial, ?_⟩
      go_simp
      refine takeV 9 (.pointer (some ⟨q, 0, none⟩)) rfl rfl (by kernel_rfl) (fun _ _ => by go_simp) trivial ?_; simp only [s0A, s0B, s0C]
      refine takeV 10 (.pointer (some ⟨q, 4, none⟩)) rfl rfl (by kernel_rfl) (fun _ _ => by go_simp) trivial ?_; simp only [s0A, s0B, s0C]
      refine oneH (i := 11) rfl (by kernel_rfl) rfl ?_
      go_simp
      refine ⟨by kernel_rfl, ?_⟩
      have HF := Lib.hid (HOK.out w8 w10 w11 _ A' c' HD8.out HO10.out hb10 hc1 hc2 hf10 hE)
      go_wp2_with fail
      go_ret
      rw [HAPP.out]
      exact HF.out
    · go_simp
      have hl12 := (hbv10.alloc (.cells #[.slice A' n c'] 35)).cell 4
      refine oneH (i := 4) rfl (by kernel_rfl) rfl ?_
      go_simp
      refine oneH (i := 8) rfl (by kernel_rfl) rfl ?_
      rw [hv] at hown10
      refine step_append1 (w := w10) rfl (.tmp 86) (.tmp 89) 34 rfl Tryz.underlying34 sl_info rfl (by decide) rfl hown10 rfl rfl (row := [(⟨A', n, c', l⟩ : Sl).val]) rfl rfl (by intro u hu; rw [List.mem_singleton.1 hu]; rfl) (by omega) (by unfold maxLen; omega) (HBSZ.out w10 (Nat.le_trans HO8.out.size HO10.out.size)) ?_
      intro v' w11 hE
      rw [← hv] at hE
      obtain ⟨g', cap', rfl⟩ := ownsRow_succ hE.own.own
      have bJ11 := hbv10.only hE.only HQV.out
      have c11 := bJ11.cell 4
      have f11 := bJ11.frozen 4
      refine ⟨trivial, ?_⟩
      go_simp
      refine takeV 9 (.pointer (some ⟨q, 0, none⟩)) rfl rfl (by kernel_rfl) (fun _ _ => by go_simp) trivial ?_; simp only [s0A, s0B, s0C]
      refine takeV 10 (.pointer (some ⟨q, 4, none⟩)) rfl rfl (by kernel_rfl) (fun _ _ => by go_simp) trivial ?_; simp only [s0A, s0B, s0C]
      refine oneH (i := 11) rfl (by kernel_rfl) rfl ?_
      go_simp
      refine ⟨by kernel_rfl, ?_⟩
      have HF := Lib.hid (HOK.out w8 w10 w11 _ A' c' HD8.out HO10.out hb10 hc1 hc2 hf10 hE)
      go_wp2_with fail
      go_ret
      rw [HAPP.out]
      exact HF.out
end
end Go.Proofs.YthgfmoogagldmaaGreat.Journal
