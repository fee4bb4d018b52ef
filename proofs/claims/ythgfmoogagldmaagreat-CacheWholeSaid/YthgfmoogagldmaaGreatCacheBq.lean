/- The cache's index: drop, add. PRINTED by wip/gen_cache6.py. -/
import Derived.Test.YthgfmoogagldmaaGreatRanges
import Derived.Test.YthgfmoogagldmaaGreatCacheA
set_option linter.unusedVariables false
set_option maxRecDepth 100000
namespace Go.Proofs.YthgfmoogagldmaaGreat.Cache
open Go.RowKit Go.Maps Go.Shelf
set_option maxHeartbeats 4000000 in
theorem drop_any {w : World} {m bb ba q : Nat} {x : XS} {T : List Nat} (hx : IsX w T m bb ba x) (hq : q ∉ T) (hql : q < w.heap.size) {a : Nat × Ent} (ha : a ∈ x.es) (c1 : w.cell? ⟨q, 1, none⟩ = some (.map (some bb))) (c2 : w.cell? ⟨q, 2, none⟩ = some (.map (some ba))) :
    Calls Tryz.prog 130 #[.pointer (some ⟨q, 1, none⟩), .int .i64 (a.1 : Int)] w fun y w' => y = .returned (.tuple #[]) ∧ IsX w' T m bb ba (dropX x a.1) ∧ Only T w w' := by
  obtain ⟨f, g, gg, n, c, hf0, hfa, hg0, hgs, hown, hn, hn1, hn2, hgT, hgl, hfin⟩ := hx.drop_plan ha
  have hsh := hx.short a ha
  have hal := hx.ok.lt a ha
  have hsm := hx.small
  have htt := hx.tt
  have hs64 := slotB_lt a.2.1
  have hne := hx.ne
  obtain ⟨an, ak, av⟩ := a
  simp only at hfa hgs hown hfin hsh hal hs64 ⊢
  unfold entV at hfa
  simp only at hfa
  have HSL := Lib.hid (fun wx => slot_any ak wx hsh)
  generalize slotB ak = s at *
  have hb1 := Blk.new w 3 #[.int .i64 (an : Int)]
  have ho1 := (Only.refl [] w).alloc (.cells #[.int .i64 (an : Int)] 3)
  have HFIN := Lib.hid hfin
  have HTT := Lib.hid htt
  have HOWN := Lib.hid hown
  have HF0 := Lib.hid hf0
  have HG0 := Lib.hid hg0
  have HGT := Lib.hid hgT
  clear hx ha hfin htt hown hf0 hg0 hgT
  go_enter Tryz.func130, Tryz.ntmps130
  go_upto_region 1 with fail
  generalize w.alloc (.cells #[.int .i64 (an : Int)] 3) = w1 at *
  have b0 := hb1.cell 0
  have HO1 := Lib.hid ho1
  have hS : w1.drew.cell? ⟨q, 2, none⟩ = some (.map (some ba)) ∧ w1.drew.cell? ⟨w.heap.size, 0, none⟩ = some (.int .i64 (an : Int)) ∧ Only [] w w1.drew := ⟨ho1.cell c2 (by simp), b0, ho1.drew⟩
  clear ho1 b0
  refine wp_region_hand (S := (fun Y => Y.cell? ⟨q, 2, none⟩ = some (.map (some ba)) ∧ Y.cell? ⟨w.heap.size, 0, none⟩ = some (.int .i64 (an : Int)) ∧ Only [] w Y)) (by kernel_rfl) ?_
  refine takeV 0 (.pointer (some ⟨q, 1, none⟩)) rfl rfl (by kernel_rfl) (fun Y hY => by obtain ⟨y0, y1, y2⟩ := hY; go_simp) hS ?_; simp only [s0A, s0B, s0C]
  refine takeV 1 (.pointer (some ⟨q, 1, none⟩)) rfl rfl (by kernel_rfl) (fun Y hY => by obtain ⟨y0, y1, y2⟩ := hY; go_simp) hS ?_; simp only [s0A, s0B, s0C]
  refine takeV 2 (.pointer (some ⟨q, 2, none⟩)) rfl rfl (by kernel_rfl) (fun Y hY => by obtain ⟨y0, y1, y2⟩ := hY; go_simp) hS ?_; simp only [s0A, s0B, s0C]
  refine takeV 3 (.map (some ba)) rfl rfl (by kernel_rfl) (fun Y hY => by obtain ⟨y0, y1, y2⟩ := hY; go_simp) hS ?_; simp only [s0A, s0B, s0C]
  refine takeV 4 (.int .i64 (an : Int)) rfl rfl (by kernel_rfl) (fun Y hY => by obtain ⟨y0, y1, y2⟩ := hY; go_simp) hS ?_; simp only [s0A, s0B, s0C]
  refine takeV 5 (.agg #[.string (str ak), .string (str av)]) rfl rfl (by kernel_rfl) (fun Y hY => by obtain ⟨y0, y1, y2⟩ := hY; have yl := run_look1' (HF0.out.only y2 (by simp)) lawN Tryz.underlying84 (zeroE Y) (keyN (i := an) (by omega)) hfa; go_simp) hS ?_; simp only [s0A, s0B, s0C]
  refine takeV 6 (.string (str ak)) rfl rfl (by kernel_rfl) (fun Y hY => by obtain ⟨y0, y1, y2⟩ := hY; have yl := field0 Y (str ak) (str av); go_simp) hS ?_; simp only [s0A, s0B, s0C]
  refine callW (i := 7) rfl (by kernel_rfl) rfl (by rfl) ?_ (HSL.out _) ?_
  · go_simp
  rintro y w2 ⟨rfl, ho2⟩
  have hS2 : w2.cell? ⟨q, 2, none⟩ = some (.map (some ba)) ∧ w2.cell? ⟨w.heap.size, 0, none⟩ = some (.int .i64 (an : Int)) ∧ Only [] w w2 := ⟨ho2.cell hS.1 (by simp), ho2.cell hS.2.1 (by simp), hS.2.2.trans ho2 (by simp)⟩
  have HB2 := Lib.hid ((hb1.drew).only ho2 (by simp))
  clear ho2 hb1
  refine ⟨_, rfl, hS2, ?_⟩
  simp only [s0A, s0B, s0C]
  refine takeV 8 (.int .u64 (s : Int)) rfl rfl (by kernel_rfl) (fun Y hY => by obtain ⟨y0, y1, y2⟩ := hY; go_simp) hS2 ?_; simp only [s0A, s0B, s0C]
  refine wpAnyH_done (by kernel_rfl) ?_ _
  have HO2 := Lib.hid hS2.2.2
  clear hS hS2
  go_upto_region 2 with fail
  have hS : w2.drew.cell? ⟨q, 1, none⟩ = some (.map (some bb)) ∧ w2.drew.cell? ⟨q, 2, none⟩ = some (.map (some ba)) ∧ w2.drew.cell? ⟨w.heap.size, 0, none⟩ = some (.int .i64 (an : Int)) := ⟨HO2.out.cell c1 (by simp), HO2.out.cell c2 (by simp), HB2.out.cell 0⟩
  refine wp_region_hand (S := (fun Y => Y.cell? ⟨q, 1, none⟩ = some (.map (some bb)) ∧ Y.cell? ⟨q, 2, none⟩ = some (.map (some ba)) ∧ Y.cell? ⟨w.heap.size, 0, none⟩ = some (.int .i64 (an : Int)))) (by kernel_rfl) ?_
  refine takeV 0 (.pointer (some ⟨q, 1, none⟩)) rfl rfl (by kernel_rfl) (fun Y hY => by obtain ⟨y0, y1, y2⟩ := hY; go_simp) hS ?_; simp only [s0A, s0B, s0C]
  refine takeV 1 (.pointer (some ⟨q, 1, none⟩)) rfl rfl (by kernel_rfl) (fun Y hY => by obtain ⟨y0, y1, y2⟩ := hY; go_simp) hS ?_; simp only [s0A, s0B, s0C]
  refine takeV 2 (.pointer (some ⟨q, 1, none⟩)) rfl rfl (by kernel_rfl) (fun Y hY => by obtain ⟨y0, y1, y2⟩ := hY; go_simp) hS ?_; simp only [s0A, s0B, s0C]
  refine takeV 3 (.map (some bb)) rfl rfl (by kernel_rfl) (fun Y hY => by obtain ⟨y0, y1, y2⟩ := hY; go_simp) hS ?_; simp only [s0A, s0B, s0C]
  refine takeV 4 (.int .u64 (s : Int)) rfl rfl (by kernel_rfl) (fun Y hY => by obtain ⟨y0, y1, y2⟩ := hY; go_simp) hS ?_; simp only [s0A, s0B, s0C]
  refine takeV 5 (.pointer (some ⟨q, 1, none⟩)) rfl rfl (by kernel_rfl) (fun Y hY => by obtain ⟨y0, y1, y2⟩ := hY; go_simp) hS ?_; simp only [s0A, s0B, s0C]
  refine takeV 6 (.pointer (some ⟨q, 1, none⟩)) rfl rfl (by kernel_rfl) (fun Y hY => by obtain ⟨y0, y1, y2⟩ := hY; go_simp) hS ?_; simp only [s0A, s0B, s0C]
  refine takeV 7 (.pointer (some ⟨q, 1, none⟩)) rfl rfl (by kernel_rfl) (fun Y hY => by obtain ⟨y0, y1, y2⟩ := hY; go_simp) hS ?_; simp only [s0A, s0B, s0C]
  refine takeV 8 (.map (some bb)) rfl rfl (by kernel_rfl) (fun Y hY => by obtain ⟨y0, y1, y2⟩ := hY; go_simp) hS ?_; simp only [s0A, s0B, s0C]
  refine takeV 9 (.int .u64 (s : Int)) rfl rfl (by kernel_rfl) (fun Y hY => by obtain ⟨y0, y1, y2⟩ := hY; go_simp) hS ?_; simp only [s0A, s0B, s0C]
  refine takeV 11 (.func (.func 150) #[] #[.pointer (some ⟨w.heap.size, 0, none⟩)]) rfl rfl (by kernel_rfl) (fun Y hY => by obtain ⟨y0, y1, y2⟩ := hY; go_simp) hS ?_; simp only [s0A, s0B, s0C]
  have hlk := run_look1' ((HG0.out.only HO2.out (by simp)).drew) lawU Tryz.underlying83 (zeroI w2.drew) (keyU (i := s) (by omega)) hgs
  refine oneW (i := 10) (v := .slice (some ⟨gg, 0, none⟩) n c) rfl (by kernel_rfl) rfl (by rfl) (w' := w2.drew) (by go_simp) hS ?_
  clear hlk
  simp only [s0A, s0B, s0C]
  have HDEL := Lib.hid (deleteN_any (w := w2.drew) (m := m) (g := gg) (n := n) (c := c) (cb := w.heap.size) _ an ((HOWN.out.only HO2.out (by simp)).drew) hn (HB2.out.cell 0) (by omega))
  refine callW (i := 12) rfl (by kernel_rfl) rfl (by rfl) ?_ HDEL.out ?_
  · go_simp
  rintro y w3 ⟨n3, rfl, hown3, ho3⟩
  have ho23 : Only [gg] w w3 := (HO2.out.drew.mono (by simp)).trans ho3 (fun k hk => .inl hk)
  have hgq : q ∉ [gg] := by intro h; rw [List.mem_singleton.1 h] at hq; exact hq HGT.out
  have hS3 : w3.cell? ⟨q, 1, none⟩ = some (.map (some bb)) ∧ w3.cell? ⟨q, 2, none⟩ = some (.map (some ba)) ∧ w3.cell? ⟨w.heap.size, 0, none⟩ = some (.int .i64 (an : Int)) := ⟨ho23.cell c1 hgq, ho23.cell c2 hgq, ho3.cell hS.2.2 (by simp; omega)⟩
  have HB3 := Lib.hid ((HB2.out.drew).only ho3 (by simp; omega))
  have HOWN3 := Lib.hid hown3
  have HO23 := Lib.hid ho23
  clear hown3 ho23 ho3 hS HDEL
  refine ⟨_, rfl, hS3, ?_⟩
  simp only [s0A, s0B, s0C]
  refine oneH (i := 13) rfl (by kernel_rfl) rfl ?_
  refine step_put (f := g) (n := 64) rfl (.tmp 16) (.tmp 17) (.tmp 25) 83 rfl 180 23 lawU Tryz.underlying83 rfl (HG0.out.only HO23.out (by simpa using fun h => hn1 h.symm)) (by decide) rfl rfl (keyU (i := s) (by omega)) ?_
  intro w4 hv4 ho4
  have hbq : q ∉ [bb] := by intro h; rw [List.mem_singleton.1 h] at hq; exact hq HTT.out.1
  have hbl : bb < w.heap.size := HG0.out.lt
  have HB4 := Lib.hid (HB3.out.only ho4 (by simp; omega))
  have hS4 : w4.cell? ⟨q, 1, none⟩ = some (.map (some bb)) ∧ w4.cell? ⟨q, 2, none⟩ = some (.map (some ba)) ∧ w4.cell? ⟨w.heap.size, 0, none⟩ = some (.int .i64 (an : Int)) := ⟨ho4.cell hS3.1 hbq, ho4.cell hS3.2.1 hbq, HB4.out.cell 0⟩
  have HV4 := Lib.hid hv4
  have HO4 := Lib.hid ho4
  clear hv4 ho4 hS3
  refine ⟨hS4, ?_⟩
  go_simp
  refine wpAnyH_done (by kernel_rfl) ?_ _
  go_upto_region 3 with fail
  refine wp_region_hand (S := (fun Y => Y.cell? ⟨q, 2, none⟩ = some (.map (some ba)) ∧ Y.cell? ⟨w.heap.size, 0, none⟩ = some (.int .i64 (an : Int)))) (by kernel_rfl) ?_
  have hS : w4.drew.cell? ⟨q, 2, none⟩ = some (.map (some ba)) ∧ w4.drew.cell? ⟨w.heap.size, 0, none⟩ = some (.int .i64 (an : Int)) := hS4.2
  refine takeV 0 (.pointer (some ⟨q, 1, none⟩)) rfl rfl (by kernel_rfl) (fun Y hY => by obtain ⟨y1, y2⟩ := hY; go_simp) hS ?_; simp only [s0A, s0B, s0C]
  refine takeV 1 (.pointer (some ⟨q, 1, none⟩)) rfl rfl (by kernel_rfl) (fun Y hY => by obtain ⟨y1, y2⟩ := hY; go_simp) hS ?_; simp only [s0A, s0B, s0C]
  refine takeV 2 (.pointer (some ⟨q, 2, none⟩)) rfl rfl (by kernel_rfl) (fun Y hY => by obtain ⟨y1, y2⟩ := hY; go_simp) hS ?_; simp only [s0A, s0B, s0C]
  refine takeV 3 (.map (some ba)) rfl rfl (by kernel_rfl) (fun Y hY => by obtain ⟨y1, y2⟩ := hY; go_simp) hS ?_; simp only [s0A, s0B, s0C]
  refine takeV 4 (.int .i64 (an : Int)) rfl rfl (by kernel_rfl) (fun Y hY => by obtain ⟨y1, y2⟩ := hY; go_simp) hS ?_; simp only [s0A, s0B, s0C]
  have hvl : VM Tryz.prog 3 w4.drew ba x.nx f := ((HF0.out.only HO23.out (by simpa using fun h => hn2 h.symm)).only HO4.out (by simpa using fun h => hne h.symm)).drew
  refine oneH (i := 5) rfl (by kernel_rfl) rfl ?_
  refine step_drop (f := f) (n := x.nx) rfl (.tmp 29) (.tmp 30) 84 3 rfl 69 lawN Tryz.underlying84 rfl hvl rfl (keyN (i := an) (by omega)) ?_
  intro w5 hv5 ho5
  have haq : q ∉ [ba] := by intro h; rw [List.mem_singleton.1 h] at hq; exact hq HTT.out.2
  have hal2 : ba < w.heap.size := HF0.out.lt
  refine ⟨⟨ho5.cell hS.1 haq, ho5.cell hS.2 (by simp; omega)⟩, ?_⟩
  go_simp
  refine wpAnyH_done (by kernel_rfl) ?_ _
  have HO5 := Lib.hid (show Only [gg, bb, ba] w w5 from ((HO23.out.mono (fun k hk => .inl (by simp at hk ⊢; exact .inl hk))).trans (HO4.out.drew) (fun k hk => .inl (by simp at hk ⊢; exact .inr (.inl hk)))).trans ho5 (fun k hk => .inl (by simp at hk ⊢; exact .inr (.inr hk))))
  have HV5 := Lib.hid hv5
  have HV54 := Lib.hid (HV4.out.drew.only ho5 (by simpa using hne))
  have HOWN5 := Lib.hid ((HOWN3.out.only HO4.out (by intro k hk hm; simp [ownL, Value.ownBlock] at hk; simp at hm; omega)).drew.only ho5 (by intro k hk hm; simp [ownL, Value.ownBlock] at hk; simp at hm; omega))
  clear hv5 ho5 hS hS4 hvl
  go_wp2_with fail
  have HK := Lib.hid (HFIN.out w5 n3 HV54.out HV5.out (by unfold oneI; exact HOWN5.out) HO5.out)
  have HT := Lib.hid (HO5.out.mono (S' := T) (fun k hk => .inl (by
    simp at hk
    rcases hk with rfl | rfl | rfl
    · exact HGT.out
    · exact HTT.out.1
    · exact HTT.out.2)))
  go_end0
  exact ⟨rfl, HK.out, HT.out⟩
def addAs (x : XS) (e : Ent) : Option (Nat × Ent) → XS
  | some a => pushX (dropX x a.1) e
  | none => pushX x e
theorem addX_as {x : XS} {e : Ent} {z : Option (Nat × Ent)} (h : findX x e.1 = z) : addX x e = addAs x e z := by
  unfold addX
  rw [h]
  cases z <;> rfl
theorem int_info : (Tryz.prog.info? 3).map (fun i => (i.zero, i.size, i.bytes)) = some (some (.int .i64 0), 1, 8) := by kernel_rfl
set_option maxHeartbeats 8000000 in
theorem add_any {w : World} {m bb ba q ev : Nat} {x : XS} {T : List Nat} {J : Value} (hx : IsX w T m bb ba x) (hq : q ∉ T) (hm : m ≤ w.heap.size) (hb : Blk w q 88 #[J, .map (some bb), .map (some ba), .int .i64 (x.nx : Int), .int .i64 (ev : Int)]) (e : Ent) (hlen : e.1.length ≤ 1000000) (hnx : x.nx < 1000000) :
    Calls Tryz.prog 97 #[.pointer (some ⟨q, 1, none⟩), .agg #[.string (str e.1), .string (str e.2)]] w fun y w' => y = .returned (.tuple #[]) ∧ ∃ T', IsX w' T' m bb ba (addX x e) ∧ Only (q :: T) w w' ∧ (∀ k ∈ T', k ∈ T ∨ w.heap.size ≤ k) ∧ Blk w' q 88 #[J, .map (some bb), .map (some ba), .int .i64 ((x.nx + 1 : Nat) : Int), .int .i64 (ev : Int)] := by
  have hql := hb.lt
  have hxl := hx.lo
  have hne := hx.ne
  obtain ⟨ek, evv⟩ := e
  simp only at hlen ⊢
  have ho1 := (Only.refl [] w).alloc (.cells #[.string (str ek), .string (str evv)] 69)
  have hb1 := Blk.new w 69 #[.string (str ek), .string (str evv)]
  have HSL := Lib.hid (fun wx => slot_any ek wx hlen)
  have hs64 := slotB_lt ek
  have HTT := Lib.hid hx.tt
  have HXL := Lib.hid hxl
  obtain ⟨z, hz⟩ : ∃ z, findX x ek = z := ⟨_, rfl⟩
  have HX1 := Lib.hid (hx.only0 ho1)
  obtain ⟨N, hxN⟩ : ∃ N, x.nx = N := ⟨_, rfl⟩
  rw [hxN] at hb hnx
  have HB1 := Lib.hid (hb.only ho1 (by simp))
  have HE1 := Lib.hid hb1
  have HO1 := Lib.hid ho1
  have hfi := find_any ek HX1.out hlen (HB1.out.cell 1) (HB1.out.cell 2)
  have hadd := addX_as (e := (ek, evv)) hz
  rw [hz] at hfi
  have HZ := Lib.hid hz
  rw [hadd]
  generalize hw1 : w.alloc (.cells #[.string (str ek), .string (str evv)] 69) = w1 at *
  clear hx hb hz hadd hxl ho1 hb1
  cases z with
  | none =>
    have hfi2 : Calls Tryz.prog 96 #[.pointer (some ⟨q, 1, none⟩), .string (str ek)] w1 fun y w' => y = .returned (.tuple #[.int .i64 0, .bool false]) ∧ Only [] w1 w' := hfi
    have HFI := Lib.hid hfi2
    clear hfi hfi2
    have hxn := hxN
    have HNO := Lib.hid (findX_none HZ.out)
    have e10 := HE1.out.cell 0
    have e11 := HE1.out.cell 1
    have e10 : w1.cell? ⟨w.heap.size, 0, none⟩ = some (.string (str ek)) := e10
    go_enter Tryz.func97, Tryz.ntmps97
    go_upto_region 1 with fail
    clear hw1
    go_upto_region 4 with (go_at_call 96; refine HFI.out.mono ?_; rintro y W ⟨rfl, ho2⟩; have HXD := Lib.hid (HX1.out.only0 ho2); have HBD := Lib.hid (HB1.out.only ho2 (by simp)); have HED := Lib.hid (HE1.out.only ho2 (by simp)); have HOD := Lib.hid ((HO1.out.mono (S' := q :: T) (by simp)).trans ho2 (by simp)); clear ho2; have e20 : W.cell? ⟨w.heap.size, 0, none⟩ = some (.string (str ek)) := HED.out.cell 0)
    obtain ⟨xd, hxd⟩ : ∃ xd, xd = x := ⟨_, rfl⟩
    have HADD : Hid (addAs x (ek, evv) none = pushX xd (ek, evv)) := Lib.hid (by rw [hxd]; rfl)
    rw [← hxd] at HXD HNO hxn
    have hN : xd.nx = N := hxn
    have hnN : N < 1000000 := by omega
    go_upto_region 5 with (go_at_call 129; refine (HSL.out _).mono ?_; rintro y w4 ⟨rfl, ho4⟩; have HX4 := Lib.hid (HXD.out.only0 ho4); have HB4 := Lib.hid (HBD.out.only ho4 (by simp)); have HE4 := Lib.hid (HED.out.only ho4 (by simp)); have HO4 := Lib.hid (HOD.out.trans ho4 (by simp)); clear ho4)
    obtain ⟨f, g, v, n, hf0, hg0, hgs, hown, hn, hbv, hav, hvT, hfin⟩ := HX4.out.push_plan (ek, evv) HNO.out hlen (by rw [hN]; exact hnN) (Nat.le_trans hm HO4.out.size)
    simp only at hgs hown hfin
    rw [hN] at hf0 hfin
    have hsz4 := HO4.out.size
    have hel : w.heap.size < w4.heap.size := HE4.out.lt
    obtain ⟨s, hs⟩ : ∃ s, slotB ek = s := ⟨_, rfl⟩
    rw [hs] at hgs hown hfin hs64
    try rw [hs]
    have HF0 := Lib.hid hf0
    have HG0 := Lib.hid hg0
    have HOWN := Lib.hid hown
    have HFIN := Lib.hid hfin
    have HVT := Lib.hid hvT
    clear hf0 hg0 hown hfin hvT
    have hS : w4.drew.cell? ⟨q, 1, none⟩ = some (.map (some bb)) ∧ w4.drew.cell? ⟨q, 2, none⟩ = some (.map (some ba)) ∧ w4.drew.cell? ⟨q, 3, none⟩ = some (.int .i64 (N : Int)) ∧ w4.drew.cell? ⟨w.heap.size, 0, none⟩ = some (.string (str ek)) ∧ w4.drew.cell? ⟨w.heap.size, 1, none⟩ = some (.string (str evv)) := ⟨HB4.out.cell 1, HB4.out.cell 2, HB4.out.cell 3, HE4.out.cell 0, HE4.out.cell 1⟩
    refine wp_region_hand (S := (fun Y => Y.cell? ⟨q, 1, none⟩ = some (.map (some bb)) ∧ Y.cell? ⟨q, 2, none⟩ = some (.map (some ba)) ∧ Y.cell? ⟨q, 3, none⟩ = some (.int .i64 (N : Int)) ∧ Y.cell? ⟨w.heap.size, 0, none⟩ = some (.string (str ek)) ∧ Y.cell? ⟨w.heap.size, 1, none⟩ = some (.string (str evv)))) (by kernel_rfl) ?_
    refine takeV 0 (.pointer (some ⟨q, 1, none⟩)) rfl rfl (by kernel_rfl) (fun Y hY => by obtain ⟨y1, y2, y3, y4, y5⟩ := hY; go_simp) hS ?_; simp only [s0A, s0B, s0C]
    refine takeV 1 (.pointer (some ⟨q, 1, none⟩)) rfl rfl (by kernel_rfl) (fun Y hY => by obtain ⟨y1, y2, y3, y4, y5⟩ := hY; go_simp) hS ?_; simp only [s0A, s0B, s0C]
    refine takeV 2 (.pointer (some ⟨q, 1, none⟩)) rfl rfl (by kernel_rfl) (fun Y hY => by obtain ⟨y1, y2, y3, y4, y5⟩ := hY; go_simp) hS ?_; simp only [s0A, s0B, s0C]
    refine takeV 3 (.map (some bb)) rfl rfl (by kernel_rfl) (fun Y hY => by obtain ⟨y1, y2, y3, y4, y5⟩ := hY; go_simp) hS ?_; simp only [s0A, s0B, s0C]
    refine takeV 4 (.int .u64 (s : Int)) rfl rfl (by kernel_rfl) (fun Y hY => by obtain ⟨y1, y2, y3, y4, y5⟩ := hY; go_simp) hS ?_; simp only [s0A, s0B, s0C]
    refine takeV 5 (.pointer (some ⟨q, 1, none⟩)) rfl rfl (by kernel_rfl) (fun Y hY => by obtain ⟨y1, y2, y3, y4, y5⟩ := hY; go_simp) hS ?_; simp only [s0A, s0B, s0C]
    refine takeV 6 (.pointer (some ⟨q, 1, none⟩)) rfl rfl (by kernel_rfl) (fun Y hY => by obtain ⟨y1, y2, y3, y4, y5⟩ := hY; go_simp) hS ?_; simp only [s0A, s0B, s0C]
    refine takeV 7 (.pointer (some ⟨q, 1, none⟩)) rfl rfl (by kernel_rfl) (fun Y hY => by obtain ⟨y1, y2, y3, y4, y5⟩ := hY; go_simp) hS ?_; simp only [s0A, s0B, s0C]
    refine takeV 8 (.map (some bb)) rfl rfl (by kernel_rfl) (fun Y hY => by obtain ⟨y1, y2, y3, y4, y5⟩ := hY; go_simp) hS ?_; simp only [s0A, s0B, s0C]
    refine takeV 9 (.int .u64 (s : Int)) rfl rfl (by kernel_rfl) (fun Y hY => by obtain ⟨y1, y2, y3, y4, y5⟩ := hY; go_simp) hS ?_; simp only [s0A, s0B, s0C]
    refine takeV 11 (.pointer (some ⟨q, 1, none⟩)) rfl rfl (by kernel_rfl) (fun Y hY => by obtain ⟨y1, y2, y3, y4, y5⟩ := hY; go_simp) hS ?_; simp only [s0A, s0B, s0C]
    refine takeV 12 (.pointer (some ⟨q, 1, none⟩)) rfl rfl (by kernel_rfl) (fun Y hY => by obtain ⟨y1, y2, y3, y4, y5⟩ := hY; go_simp) hS ?_; simp only [s0A, s0B, s0C]
    refine takeV 13 (.pointer (some ⟨q, 3, none⟩)) rfl rfl (by kernel_rfl) (fun Y hY => by obtain ⟨y1, y2, y3, y4, y5⟩ := hY; go_simp) hS ?_; simp only [s0A, s0B, s0C]
    refine takeV 14 (.int .i64 (N : Int)) rfl rfl (by kernel_rfl) (fun Y hY => by obtain ⟨y1, y2, y3, y4, y5⟩ := hY; go_simp) hS ?_; simp only [s0A, s0B, s0C]
    have hlk : ∀ o, (Instr.lookup 83 (.map (some bb)) (.int .u64 (s : Int)) false).run Tryz.prog (w4.drew.alloc o) = .ok v (w4.drew.alloc o) := fun o => by rw [((HG0.out.drew).alloc o).run_look1 lawU Tryz.underlying83 (zeroI _) (keyU (i := s) (by omega)), hgs]
    have hlk0 : (Instr.lookup 83 (.map (some bb)) (.int .u64 (s : Int)) false).run Tryz.prog w4.drew = .ok v w4.drew := by rw [(HG0.out.drew).run_look1 lawU Tryz.underlying83 (zeroI _) (keyU (i := s) (by omega)), hgs]
    have HLK := Lib.hid hlk
    clear hlk
    have hSa : (w4.drew.alloc (.cells #[.int .i64 (N : Int)] 3)).cell? ⟨q, 1, none⟩ = some (.map (some bb)) ∧ (w4.drew.alloc (.cells #[.int .i64 (N : Int)] 3)).cell? ⟨q, 2, none⟩ = some (.map (some ba)) ∧ (w4.drew.alloc (.cells #[.int .i64 (N : Int)] 3)).cell? ⟨q, 3, none⟩ = some (.int .i64 (N : Int)) ∧ (w4.drew.alloc (.cells #[.int .i64 (N : Int)] 3)).cell? ⟨w.heap.size, 0, none⟩ = some (.string (str ek)) ∧ (w4.drew.alloc (.cells #[.int .i64 (N : Int)] 3)).cell? ⟨w.heap.size, 1, none⟩ = some (.string (str evv)) := ⟨(HB4.out.drew.alloc _).cell 1, (HB4.out.drew.alloc _).cell 2, (HB4.out.drew.alloc _).cell 3, (HE4.out.drew.alloc _).cell 0, (HE4.out.drew.alloc _).cell 1⟩
    refine twoW (i := 10) (j := 15) (vi := v) (vj := .slice (some ⟨w4.heap.size, 0, none⟩) 1 1) (wi := w4.drew) (wj := w4.drew.alloc (.cells #[.int .i64 (N : Int)] 3)) rfl rfl (by kernel_rfl) rfl rfl (by rfl) (by rfl) (by go_simp) (by go_simp) hS hSa ?_ ?_
    have hxN : x.nx = N := hxN
    · refine oneW (i := 15) (v := .slice (some ⟨w4.heap.size, 0, none⟩) 1 1) (w' := w4.drew.alloc (.cells #[.int .i64 (N : Int)] 3)) rfl (by kernel_rfl) rfl (by rfl) (by go_simp) hSa ?_; simp only [s0A, s0B, s0C]
      refine oneA (i := 16) rfl (by kernel_rfl) rfl rfl (fun K hK => ?_)
      refine step_append1 (w := w4.drew) rfl (.tmp 31) (.tmp 36) 23 rfl Tryz.underlying23 int_info rfl (by decide) rfl HOWN.out.drew rfl rfl (row := [.int .i64 (N : Int)]) rfl rfl (by intro u hu; rw [List.mem_singleton.1 hu]; rfl) (by omega) (by unfold maxLen; omega) (Nat.le_trans hm (Nat.le_trans hsz4 (Nat.le_succ _))) ?_
      intro v6 w6 hE
      have hqv : ∀ k ∈ ownL v, k ≠ q := fun k hk h => hq (h ▸ HVT.out k hk)
      have hqe : ∀ k ∈ ownL v, k ≠ w.heap.size := fun k hk h => by have := (HXL.out k (HVT.out k hk)).2; omega
      have HB6 := Lib.hid (HB4.out.drew.only hE.only (fun h => hqv q h rfl))
      have HE6 := Lib.hid (HE4.out.drew.only hE.only (fun h => hqe _ h rfl))
      have hS6 := And.intro (HB6.out.cell 1) (And.intro (HB6.out.cell 2) (And.intro (HB6.out.cell 3) (And.intro (HE6.out.cell 0) (HE6.out.cell 1))))
      have HE_ := Lib.hid hE
      clear hE
      refine hK _ _ hS6 ?_
      clear hK K
      try simp only [s0A, s0B, s0C]
      refine oneN (i := 17) rfl (by kernel_rfl) rfl rfl (fun K hK => ?_)
      refine step_put (f := g) (n := 64) rfl (.tmp 24) (.tmp 25) (.tmp 37) 83 rfl 180 23 lawU Tryz.underlying83 rfl (HG0.out.drew.only HE_.out.only hbv) (by decide) rfl rfl (keyU (i := s) (by omega)) ?_
      intro w7 hv7 ho7
      have hbq : q ∉ [bb] := by intro h; rw [List.mem_singleton.1 h] at hq; exact hq HTT.out.1
      have hbe : w.heap.size ∉ [bb] := by intro h; have := (HXL.out bb HTT.out.1).2; simp at h; omega
      have HB7 := Lib.hid (HB6.out.only ho7 hbq)
      have HE7 := Lib.hid (HE6.out.only ho7 hbe)
      have hv_b : bb ∉ ownL v6 := vm_row (HG0.out.drew.only HE_.out.only hbv) HE_.out.own
      have HOWN7 := Lib.hid (HE_.out.own.only ho7 (by intro k hk h; rw [List.mem_singleton.1 h] at hk; exact hv_b hk))
      have HV7 := Lib.hid hv7
      have HO7 := Lib.hid ho7
      refine hK _ _ (And.intro (HB7.out.cell 1) (And.intro (HB7.out.cell 2) (And.intro (HB7.out.cell 3) (And.intro (HE7.out.cell 0) (HE7.out.cell 1))))) ?_
      clear hv7 ho7 hS6
      clear hK K
      try simp only [s0A, s0B, s0C]
      refine wpAnyH_done (by kernel_rfl) ?_ _
      clear hS hSa hlk0
      go_upto_region 6 with fail
      have hS : w7.drew.cell? ⟨q, 1, none⟩ = some (.map (some bb)) ∧ w7.drew.cell? ⟨q, 2, none⟩ = some (.map (some ba)) ∧ w7.drew.cell? ⟨q, 3, none⟩ = some (.int .i64 (N : Int)) ∧ w7.drew.cell? ⟨w.heap.size, 0, none⟩ = some (.string (str ek)) ∧ w7.drew.cell? ⟨w.heap.size, 1, none⟩ = some (.string (str evv)) := ⟨HB7.out.cell 1, HB7.out.cell 2, HB7.out.cell 3, HE7.out.cell 0, HE7.out.cell 1⟩
      refine wp_region_hand (S := (fun Y => Y.cell? ⟨q, 1, none⟩ = some (.map (some bb)) ∧ Y.cell? ⟨q, 2, none⟩ = some (.map (some ba)) ∧ Y.cell? ⟨q, 3, none⟩ = some (.int .i64 (N : Int)) ∧ Y.cell? ⟨w.heap.size, 0, none⟩ = some (.string (str ek)) ∧ Y.cell? ⟨w.heap.size, 1, none⟩ = some (.string (str evv)))) (by kernel_rfl) ?_
      refine takeV 0 (.pointer (some ⟨q, 1, none⟩)) rfl rfl (by kernel_rfl) (fun Y hY => by obtain ⟨y1, y2, y3, y4, y5⟩ := hY; go_simp) hS ?_; simp only [s0A, s0B, s0C]
      refine takeV 1 (.pointer (some ⟨q, 1, none⟩)) rfl rfl (by kernel_rfl) (fun Y hY => by obtain ⟨y1, y2, y3, y4, y5⟩ := hY; go_simp) hS ?_; simp only [s0A, s0B, s0C]
      refine takeV 2 (.pointer (some ⟨q, 2, none⟩)) rfl rfl (by kernel_rfl) (fun Y hY => by obtain ⟨y1, y2, y3, y4, y5⟩ := hY; go_simp) hS ?_; simp only [s0A, s0B, s0C]
      refine takeV 3 (.map (some ba)) rfl rfl (by kernel_rfl) (fun Y hY => by obtain ⟨y1, y2, y3, y4, y5⟩ := hY; go_simp) hS ?_; simp only [s0A, s0B, s0C]
      refine takeV 4 (.pointer (some ⟨q, 1, none⟩)) rfl rfl (by kernel_rfl) (fun Y hY => by obtain ⟨y1, y2, y3, y4, y5⟩ := hY; go_simp) hS ?_; simp only [s0A, s0B, s0C]
      refine takeV 5 (.pointer (some ⟨q, 1, none⟩)) rfl rfl (by kernel_rfl) (fun Y hY => by obtain ⟨y1, y2, y3, y4, y5⟩ := hY; go_simp) hS ?_; simp only [s0A, s0B, s0C]
      refine takeV 6 (.pointer (some ⟨q, 3, none⟩)) rfl rfl (by kernel_rfl) (fun Y hY => by obtain ⟨y1, y2, y3, y4, y5⟩ := hY; go_simp) hS ?_; simp only [s0A, s0B, s0C]
      refine takeV 7 (.int .i64 (N : Int)) rfl rfl (by kernel_rfl) (fun Y hY => by obtain ⟨y1, y2, y3, y4, y5⟩ := hY; go_simp) hS ?_; simp only [s0A, s0B, s0C]
      refine takeV 8 (.agg #[.string (str ek), .string (str evv)]) rfl rfl (by kernel_rfl) (fun Y hY => by obtain ⟨y1, y2, y3, y4, y5⟩ := hY; go_simp) hS ?_; simp only [s0A, s0B, s0C]
      refine oneN (i := 9) rfl (by kernel_rfl) rfl rfl (fun K hK => ?_)
      refine step_put (f := f) (n := N) (val := .agg #[.string (str ek), .string (str evv)]) rfl (.tmp 41) (.tmp 45) (.tmp 46) 84 rfl 3 69 lawN Tryz.underlying84 rfl ((HF0.out.drew.only HE_.out.only hav).only HO7.out (by simpa using fun h => hne h.symm)).drew (by unfold maxLen; omega) rfl rfl (keyN (i := N) (by omega)) ?_
      intro w8 hv8 ho8
      have haq : q ∉ [ba] := by intro h; rw [List.mem_singleton.1 h] at hq; exact hq HTT.out.2
      have hae : w.heap.size ∉ [ba] := by intro h; have := (HXL.out ba HTT.out.2).2; simp at h; omega
      have HB8 := Lib.hid (HB7.out.drew.only ho8 haq)
      have HE8 := Lib.hid (HE7.out.drew.only ho8 hae)
      have hv_a : ba ∉ ownL v6 := vm_row (HF0.out.drew.only HE_.out.only hav) HE_.out.own
      have HOWN8 := Lib.hid (HOWN7.out.drew.only ho8 (by intro k hk h; rw [List.mem_singleton.1 h] at hk; exact hv_a hk))
      have HV78 := Lib.hid (HV7.out.drew.only ho8 (by simpa using hne))
      have ho48 : Only (bb :: ba :: ownL v) w4 w8 := ((((Only.refl [] w4).drew.mono (S' := bb :: ba :: ownL v) (by simp)).trans HE_.out.only (fun k hk => .inl (List.mem_cons_of_mem _ (List.mem_cons_of_mem _ hk)))).trans HO7.out.drew (fun k hk => .inl (by rw [List.mem_singleton.1 hk]; simp))).trans ho8 (fun k hk => .inl (by rw [List.mem_singleton.1 hk]; simp))
      have HK := Lib.hid (HFIN.out w8 v6 HV78.out hv8 HOWN8.out ho48 (fun k hk => HE_.out.fresh k hk))
      have HO8 := Lib.hid (HO4.out.trans ho48 (fun k hk => .inl (by
        rcases List.mem_cons.1 hk with rfl | hk
        · exact List.mem_cons_of_mem _ HTT.out.1
        · rcases List.mem_cons.1 hk with rfl | hk
          · exact List.mem_cons_of_mem _ HTT.out.2
          · exact List.mem_cons_of_mem _ (HVT.out k hk))))
      have HFR := Lib.hid (HE_.out.fresh)
      refine hK _ _ (And.intro (HB8.out.cell 1) (And.intro (HB8.out.cell 2) (And.intro (HB8.out.cell 3) (And.intro (HE8.out.cell 0) (HE8.out.cell 1))))) ?_
      clear hv8 ho8 ho48 hS
      clear hK K
      try simp only [s0A, s0B, s0C]
      refine wpAnyH_done (by kernel_rfl) ?_ _
      have q3 := HB8.out.cell 3
      have fz3 := HB8.out.frozen 3
      have q3 : w8.cell? ⟨q, 3, none⟩ = some (.int .i64 (N : Int)) := q3
      go_wp2_with fail
      go_end0
      refine ⟨rfl, T ++ ownL v6, ?_, HO8.out.setCell (.inl (by simp)) _, fun k hk => ?_, ?_⟩
      · rw [HADD.out]
        refine HK.out.only ((Only.refl [q] w8).setCell (p := ⟨q, 3, none⟩) (.inl (by simp)) _) (fun k hk h => ?_)
        rw [List.mem_singleton.1 h] at hk
        rcases List.mem_append.1 hk with hk | hk
        · exact hq hk
        · rcases HFR.out q hk with h | h
          · exact hq (HVT.out q h)
          · have h2 : w4.heap.size ≤ q := h
            omega
      · rcases List.mem_append.1 hk with hk | hk
        · exact .inl hk
        · rcases HFR.out k hk with h | h
          · exact .inl (HVT.out k h)
          · exact .inr (Nat.le_trans hsz4 h)
      · have := HB8.out.set_ 3 (.int .i64 ((N : Int) + 1))
        simp only [hxN]
        exact this
    · have hl : (Instr.lookup 83 (.map (some bb)) (.int .u64 (s : Int)) false).run Tryz.prog (w4.alloc (.cells #[.int .i64 (N : Int)] 3)).drew = .ok v (w4.alloc (.cells #[.int .i64 (N : Int)] 3)).drew := HLK.out (.cells #[.int .i64 (N : Int)] 3)
      refine oneW (i := 10) (v := v) (w' := w4.drew.alloc (.cells #[.int .i64 (N : Int)] 3)) rfl (by kernel_rfl) rfl (by rfl) (by go_simp) hSa ?_
      clear hl
      simp only [s0A, s0B, s0C]
      refine oneA (i := 16) rfl (by kernel_rfl) rfl rfl (fun K hK => ?_)
      refine step_append1 (w := w4.drew) rfl (.tmp 31) (.tmp 36) 23 rfl Tryz.underlying23 int_info rfl (by decide) rfl HOWN.out.drew rfl rfl (row := [.int .i64 (N : Int)]) rfl rfl (by intro u hu; rw [List.mem_singleton.1 hu]; rfl) (by omega) (by unfold maxLen; omega) (Nat.le_trans hm (Nat.le_trans hsz4 (Nat.le_succ _))) ?_
      intro v6 w6 hE
      have hqv : ∀ k ∈ ownL v, k ≠ q := fun k hk h => hq (h ▸ HVT.out k hk)
      have hqe : ∀ k ∈ ownL v, k ≠ w.heap.size := fun k hk h => by have := (HXL.out k (HVT.out k hk)).2; omega
      have HB6 := Lib.hid (HB4.out.drew.only hE.only (fun h => hqv q h rfl))
      have HE6 := Lib.hid (HE4.out.drew.only hE.only (fun h => hqe _ h rfl))
      have hS6 := And.intro (HB6.out.cell 1) (And.intro (HB6.out.cell 2) (And.intro (HB6.out.cell 3) (And.intro (HE6.out.cell 0) (HE6.out.cell 1))))
      have HE_ := Lib.hid hE
      clear hE
      refine hK _ _ hS6 ?_
      clear hK K
      try simp only [s0A, s0B, s0C]
      refine oneN (i := 17) rfl (by kernel_rfl) rfl rfl (fun K hK => ?_)
      refine step_put (f := g) (n := 64) rfl (.tmp 24) (.tmp 25) (.tmp 37) 83 rfl 180 23 lawU Tryz.underlying83 rfl (HG0.out.drew.only HE_.out.only hbv) (by decide) rfl rfl (keyU (i := s) (by omega)) ?_
      intro w7 hv7 ho7
      have hbq : q ∉ [bb] := by intro h; rw [List.mem_singleton.1 h] at hq; exact hq HTT.out.1
      have hbe : w.heap.size ∉ [bb] := by intro h; have := (HXL.out bb HTT.out.1).2; simp at h; omega
      have HB7 := Lib.hid (HB6.out.only ho7 hbq)
      have HE7 := Lib.hid (HE6.out.only ho7 hbe)
      have hv_b : bb ∉ ownL v6 := vm_row (HG0.out.drew.only HE_.out.only hbv) HE_.out.own
      have HOWN7 := Lib.hid (HE_.out.own.only ho7 (by intro k hk h; rw [List.mem_singleton.1 h] at hk; exact hv_b hk))
      have HV7 := Lib.hid hv7
      have HO7 := Lib.hid ho7
      refine hK _ _ (And.intro (HB7.out.cell 1) (And.intro (HB7.out.cell 2) (And.intro (HB7.out.cell 3) (And.intro (HE7.out.cell 0) (HE7.out.cell 1))))) ?_
      clear hv7 ho7 hS6
      clear hK K
      try simp only [s0A, s0B, s0C]
      refine wpAnyH_done (by kernel_rfl) ?_ _
      clear hS hSa hlk0
      go_upto_region 6 with fail
      have hS : w7.drew.cell? ⟨q, 1, none⟩ = some (.map (some bb)) ∧ w7.drew.cell? ⟨q, 2, none⟩ = some (.map (some ba)) ∧ w7.drew.cell? ⟨q, 3, none⟩ = some (.int .i64 (N : Int)) ∧ w7.drew.cell? ⟨w.heap.size, 0, none⟩ = some (.string (str ek)) ∧ w7.drew.cell? ⟨w.heap.size, 1, none⟩ = some (.string (str evv)) := ⟨HB7.out.cell 1, HB7.out.cell 2, HB7.out.cell 3, HE7.out.cell 0, HE7.out.cell 1⟩
      refine wp_region_hand (S := (fun Y => Y.cell? ⟨q, 1, none⟩ = some (.map (some bb)) ∧ Y.cell? ⟨q, 2, none⟩ = some (.map (some ba)) ∧ Y.cell? ⟨q, 3, none⟩ = some (.int .i64 (N : Int)) ∧ Y.cell? ⟨w.heap.size, 0, none⟩ = some (.string (str ek)) ∧ Y.cell? ⟨w.heap.size, 1, none⟩ = some (.string (str evv)))) (by kernel_rfl) ?_
      refine takeV 0 (.pointer (some ⟨q, 1, none⟩)) rfl rfl (by kernel_rfl) (fun Y hY => by obtain ⟨y1, y2, y3, y4, y5⟩ := hY; go_simp) hS ?_; simp only [s0A, s0B, s0C]
      refine takeV 1 (.pointer (some ⟨q, 1, none⟩)) rfl rfl (by kernel_rfl) (fun Y hY => by obtain ⟨y1, y2, y3, y4, y5⟩ := hY; go_simp) hS ?_; simp only [s0A, s0B, s0C]
      refine takeV 2 (.pointer (some ⟨q, 2, none⟩)) rfl rfl (by kernel_rfl) (fun Y hY => by obtain ⟨y1, y2, y3, y4, y5⟩ := hY; go_simp) hS ?_; simp only [s0A, s0B, s0C]
      refine takeV 3 (.map (some ba)) rfl rfl (by kernel_rfl) (fun Y hY => by obtain ⟨y1, y2, y3, y4, y5⟩ := hY; go_simp) hS ?_; simp only [s0A, s0B, s0C]
      refine takeV 4 (.pointer (some ⟨q, 1, none⟩)) rfl rfl (by kernel_rfl) (fun Y hY => by obtain ⟨y1, y2, y3, y4, y5⟩ := hY; go_simp) hS ?_; simp only [s0A, s0B, s0C]
      refine takeV 5 (.pointer (some ⟨q, 1, none⟩)) rfl rfl (by kernel_rfl) (fun Y hY => by obtain ⟨y1, y2, y3, y4, y5⟩ := hY; go_simp) hS ?_; simp only [s0A, s0B, s0C]
      refine takeV 6 (.pointer (some ⟨q, 3, none⟩)) rfl rfl (by kernel_rfl) (fun Y hY => by obtain ⟨y1, y2, y3, y4, y5⟩ := hY; go_simp) hS ?_; simp only [s0A, s0B, s0C]
      refine takeV 7 (.int .i64 (N : Int)) rfl rfl (by kernel_rfl) (fun Y hY => by obtain ⟨y1, y2, y3, y4, y5⟩ := hY; go_simp) hS ?_; simp only [s0A, s0B, s0C]
      refine takeV 8 (.agg #[.string (str ek), .string (str evv)]) rfl rfl (by kernel_rfl) (fun Y hY => by obtain ⟨y1, y2, y3, y4, y5⟩ := hY; go_simp) hS ?_; simp only [s0A, s0B, s0C]
      refine oneN (i := 9) rfl (by kernel_rfl) rfl rfl (fun K hK => ?_)
      refine step_put (f := f) (n := N) (val := .agg #[.string (str ek), .string (str evv)]) rfl (.tmp 41) (.tmp 45) (.tmp 46) 84 rfl 3 69 lawN Tryz.underlying84 rfl ((HF0.out.drew.only HE_.out.only hav).only HO7.out (by simpa using fun h => hne h.symm)).drew (by unfold maxLen; omega) rfl rfl (keyN (i := N) (by omega)) ?_
      intro w8 hv8 ho8
      have haq : q ∉ [ba] := by intro h; rw [List.mem_singleton.1 h] at hq; exact hq HTT.out.2
      have hae : w.heap.size ∉ [ba] := by intro h; have := (HXL.out ba HTT.out.2).2; simp at h; omega
      have HB8 := Lib.hid (HB7.out.drew.only ho8 haq)
      have HE8 := Lib.hid (HE7.out.drew.only ho8 hae)
      have hv_a : ba ∉ ownL v6 := vm_row (HF0.out.drew.only HE_.out.only hav) HE_.out.own
      have HOWN8 := Lib.hid (HOWN7.out.drew.only ho8 (by intro k hk h; rw [List.mem_singleton.1 h] at hk; exact hv_a hk))
      have HV78 := Lib.hid (HV7.out.drew.only ho8 (by simpa using hne))
      have ho48 : Only (bb :: ba :: ownL v) w4 w8 := ((((Only.refl [] w4).drew.mono (S' := bb :: ba :: ownL v) (by simp)).trans HE_.out.only (fun k hk => .inl (List.mem_cons_of_mem _ (List.mem_cons_of_mem _ hk)))).trans HO7.out.drew (fun k hk => .inl (by rw [List.mem_singleton.1 hk]; simp))).trans ho8 (fun k hk => .inl (by rw [List.mem_singleton.1 hk]; simp))
      have HK := Lib.hid (HFIN.out w8 v6 HV78.out hv8 HOWN8.out ho48 (fun k hk => HE_.out.fresh k hk))
      have HO8 := Lib.hid (HO4.out.trans ho48 (fun k hk => .inl (by
        rcases List.mem_cons.1 hk with rfl | hk
        · exact List.mem_cons_of_mem _ HTT.out.1
        · rcases List.mem_cons.1 hk with rfl | hk
          · exact List.mem_cons_of_mem _ HTT.out.2
          · exact List.mem_cons_of_mem _ (HVT.out k hk))))
      have HFR := Lib.hid (HE_.out.fresh)
      refine hK _ _ (And.intro (HB8.out.cell 1) (And.intro (HB8.out.cell 2) (And.intro (HB8.out.cell 3) (And.intro (HE8.out.cell 0) (HE8.out.cell 1))))) ?_
      clear hv8 ho8 ho48 hS
      clear hK K
      try simp only [s0A, s0B, s0C]
      refine wpAnyH_done (by kernel_rfl) ?_ _
      have q3 := HB8.out.cell 3
      have fz3 := HB8.out.frozen 3
      have q3 : w8.cell? ⟨q, 3, none⟩ = some (.int .i64 (N : Int)) := q3
      go_wp2_with fail
      go_end0
      refine ⟨rfl, T ++ ownL v6, ?_, HO8.out.setCell (.inl (by simp)) _, fun k hk => ?_, ?_⟩
      · rw [HADD.out]
        refine HK.out.only ((Only.refl [q] w8).setCell (p := ⟨q, 3, none⟩) (.inl (by simp)) _) (fun k hk h => ?_)
        rw [List.mem_singleton.1 h] at hk
        rcases List.mem_append.1 hk with hk | hk
        · exact hq hk
        · rcases HFR.out q hk with h | h
          · exact hq (HVT.out q h)
          · have h2 : w4.heap.size ≤ q := h
            omega
      · rcases List.mem_append.1 hk with hk | hk
        · exact .inl hk
        · rcases HFR.out k hk with h | h
          · exact .inl (HVT.out k h)
          · exact .inr (Nat.le_trans hsz4 h)
      · have := HB8.out.set_ 3 (.int .i64 ((N : Int) + 1))
        simp only [hxN]
        exact this
  | some a =>
    obtain ⟨ha, hak⟩ := findX_some HZ.out
    have hfi2 : Calls Tryz.prog 96 #[.pointer (some ⟨q, 1, none⟩), .string (str ek)] w1 fun y w' => y = .returned (.tuple #[.int .i64 (a.1 : Int), .bool true]) ∧ Only [] w1 w' := hfi
    have HFI := Lib.hid hfi2
    clear hfi hfi2
    have hxn : (dropX x a.1).nx = N := hxN
    have HNO : Hid (∀ b ∈ (dropX x a.1).es, b.2.1 ≠ ek) := Lib.hid (fun b hb => by
      rw [drop_key HX1.out.ok ha, hak] at hb
      exact of_decide_eq_true (List.mem_filter.1 hb).2)
    have HA := Lib.hid ha
    have HADD0 : Hid (addAs x (ek, evv) (some a) = pushX (dropX x a.1) (ek, evv)) := Lib.hid rfl
    clear ha hak
    obtain ⟨xd, hxd⟩ : ∃ xd, dropX x a.1 = xd := ⟨_, rfl⟩
    rw [hxd] at hxn HNO HADD0
    have HXDE := Lib.hid hxd
    have HADD := Lib.hid HADD0.out
    clear HADD0 hxd
    have e10 := HE1.out.cell 0
    have e11 := HE1.out.cell 1
    have e10 : w1.cell? ⟨w.heap.size, 0, none⟩ = some (.string (str ek)) := e10
    go_enter Tryz.func97, Tryz.ntmps97
    go_upto_region 1 with fail
    clear hw1
    go_upto_region 4 with (first | (go_at_call 96; refine HFI.out.mono ?_; rintro y W0 ⟨rfl, ho2⟩; have HDR := Lib.hid (drop_any (HX1.out.only0 ho2) hq (Nat.lt_of_lt_of_le hql (Nat.le_trans HO1.out.size ho2.size)) HA.out ((HB1.out.only ho2 (by simp)).cell 1) ((HB1.out.only ho2 (by simp)).cell 2)); have HB0 := Lib.hid (HB1.out.only ho2 (by simp)); have HE0 := Lib.hid (HE1.out.only ho2 (by simp)); have HO0 := Lib.hid (HO1.out.trans ho2 (by simp)); clear ho2) | (go_at_call 130; refine HDR.out.mono ?_; rintro y W ⟨rfl, hxw, how⟩; have HXD : Hid (IsX W T m bb ba xd) := Lib.hid (by rw [← HXDE.out]; exact hxw); have HBD := Lib.hid (HB0.out.only how hq); have HED := Lib.hid (HE0.out.only how (fun h => by have := (HXL.out _ h).2; omega)); have HOD := Lib.hid ((HO0.out.mono (S' := q :: T) (by simp)).trans how (fun k hk => .inl (List.mem_cons_of_mem _ hk))); clear hxw how HDR; have e20 : W.cell? ⟨w.heap.size, 0, none⟩ = some (.string (str ek)) := HED.out.cell 0))
    have hN : xd.nx = N := hxn
    have hnN : N < 1000000 := by omega
    go_upto_region 5 with (go_at_call 129; refine (HSL.out _).mono ?_; rintro y w4 ⟨rfl, ho4⟩; have HX4 := Lib.hid (HXD.out.only0 ho4); have HB4 := Lib.hid (HBD.out.only ho4 (by simp)); have HE4 := Lib.hid (HED.out.only ho4 (by simp)); have HO4 := Lib.hid (HOD.out.trans ho4 (by simp)); clear ho4)
    obtain ⟨f, g, v, n, hf0, hg0, hgs, hown, hn, hbv, hav, hvT, hfin⟩ := HX4.out.push_plan (ek, evv) HNO.out hlen (by rw [hN]; exact hnN) (Nat.le_trans hm HO4.out.size)
    simp only at hgs hown hfin
    rw [hN] at hf0 hfin
    have hsz4 := HO4.out.size
    have hel : w.heap.size < w4.heap.size := HE4.out.lt
    obtain ⟨s, hs⟩ : ∃ s, slotB ek = s := ⟨_, rfl⟩
    rw [hs] at hgs hown hfin hs64
    try rw [hs]
    have HF0 := Lib.hid hf0
    have HG0 := Lib.hid hg0
    have HOWN := Lib.hid hown
    have HFIN := Lib.hid hfin
    have HVT := Lib.hid hvT
    clear hf0 hg0 hown hfin hvT
    have hS : w4.drew.cell? ⟨q, 1, none⟩ = some (.map (some bb)) ∧ w4.drew.cell? ⟨q, 2, none⟩ = some (.map (some ba)) ∧ w4.drew.cell? ⟨q, 3, none⟩ = some (.int .i64 (N : Int)) ∧ w4.drew.cell? ⟨w.heap.size, 0, none⟩ = some (.string (str ek)) ∧ w4.drew.cell? ⟨w.heap.size, 1, none⟩ = some (.string (str evv)) := ⟨HB4.out.cell 1, HB4.out.cell 2, HB4.out.cell 3, HE4.out.cell 0, HE4.out.cell 1⟩
    refine wp_region_hand (S := (fun Y => Y.cell? ⟨q, 1, none⟩ = some (.map (some bb)) ∧ Y.cell? ⟨q, 2, none⟩ = some (.map (some ba)) ∧ Y.cell? ⟨q, 3, none⟩ = some (.int .i64 (N : Int)) ∧ Y.cell? ⟨w.heap.size, 0, none⟩ = some (.string (str ek)) ∧ Y.cell? ⟨w.heap.size, 1, none⟩ = some (.string (str evv)))) (by kernel_rfl) ?_
    refine takeV 0 (.pointer (some ⟨q, 1, none⟩)) rfl rfl (by kernel_rfl) (fun Y hY => by obtain ⟨y1, y2, y3, y4, y5⟩ := hY; go_simp) hS ?_; simp only [s0A, s0B, s0C]
    refine takeV 1 (.pointer (some ⟨q, 1, none⟩)) rfl rfl (by kernel_rfl) (fun Y hY => by obtain ⟨y1, y2, y3, y4, y5⟩ := hY; go_simp) hS ?_; simp only [s0A, s0B, s0C]
    refine takeV 2 (.pointer (some ⟨q, 1, none⟩)) rfl rfl (by kernel_rfl) (fun Y hY => by obtain ⟨y1, y2, y3, y4, y5⟩ := hY; go_simp) hS ?_; simp only [s0A, s0B, s0C]
    refine takeV 3 (.map (some bb)) rfl rfl (by kernel_rfl) (fun Y hY => by obtain ⟨y1, y2, y3, y4, y5⟩ := hY; go_simp) hS ?_; simp only [s0A, s0B, s0C]
    refine takeV 4 (.int .u64 (s : Int)) rfl rfl (by kernel_rfl) (fun Y hY => by obtain ⟨y1, y2, y3, y4, y5⟩ := hY; go_simp) hS ?_; simp only [s0A, s0B, s0C]
    refine takeV 5 (.pointer (some ⟨q, 1, none⟩)) rfl rfl (by kernel_rfl) (fun Y hY => by obtain ⟨y1, y2, y3, y4, y5⟩ := hY; go_simp) hS ?_; simp only [s0A, s0B, s0C]
    refine takeV 6 (.pointer (some ⟨q, 1, none⟩)) rfl rfl (by kernel_rfl) (fun Y hY => by obtain ⟨y1, y2, y3, y4, y5⟩ := hY; go_simp) hS ?_; simp only [s0A, s0B, s0C]
    refine takeV 7 (.pointer (some ⟨q, 1, none⟩)) rfl rfl (by kernel_rfl) (fun Y hY => by obtain ⟨y1, y2, y3, y4, y5⟩ := hY; go_simp) hS ?_; simp only [s0A, s0B, s0C]
    refine takeV 8 (.map (some bb)) rfl rfl (by kernel_rfl) (fun Y hY => by obtain ⟨y1, y2, y3, y4, y5⟩ := hY; go_simp) hS ?_; simp only [s0A, s0B, s0C]
    refine takeV 9 (.int .u64 (s : Int)) rfl rfl (by kernel_rfl) (fun Y hY => by obtain ⟨y1, y2, y3, y4, y5⟩ := hY; go_simp) hS ?_; simp only [s0A, s0B, s0C]
    refine takeV 11 (.pointer (some ⟨q, 1, none⟩)) rfl rfl (by kernel_rfl) (fun Y hY => by obtain ⟨y1, y2, y3, y4, y5⟩ := hY; go_simp) hS ?_; simp only [s0A, s0B, s0C]
    refine takeV 12 (.pointer (some ⟨q, 1, none⟩)) rfl rfl (by kernel_rfl) (fun Y hY => by obtain ⟨y1, y2, y3, y4, y5⟩ := hY; go_simp) hS ?_; simp only [s0A, s0B, s0C]
    refine takeV 13 (.pointer (some ⟨q, 3, none⟩)) rfl rfl (by kernel_rfl) (fun Y hY => by obtain ⟨y1, y2, y3, y4, y5⟩ := hY; go_simp) hS ?_; simp only [s0A, s0B, s0C]
    refine takeV 14 (.int .i64 (N : Int)) rfl rfl (by kernel_rfl) (fun Y hY => by obtain ⟨y1, y2, y3, y4, y5⟩ := hY; go_simp) hS ?_; simp only [s0A, s0B, s0C]
    have hlk : ∀ o, (Instr.lookup 83 (.map (some bb)) (.int .u64 (s : Int)) false).run Tryz.prog (w4.drew.alloc o) = .ok v (w4.drew.alloc o) := fun o => by rw [((HG0.out.drew).alloc o).run_look1 lawU Tryz.underlying83 (zeroI _) (keyU (i := s) (by omega)), hgs]
    have hlk0 : (Instr.lookup 83 (.map (some bb)) (.int .u64 (s : Int)) false).run Tryz.prog w4.drew = .ok v w4.drew := by rw [(HG0.out.drew).run_look1 lawU Tryz.underlying83 (zeroI _) (keyU (i := s) (by omega)), hgs]
    have HLK := Lib.hid hlk
    clear hlk
    have hSa : (w4.drew.alloc (.cells #[.int .i64 (N : Int)] 3)).cell? ⟨q, 1, none⟩ = some (.map (some bb)) ∧ (w4.drew.alloc (.cells #[.int .i64 (N : Int)] 3)).cell? ⟨q, 2, none⟩ = some (.map (some ba)) ∧ (w4.drew.alloc (.cells #[.int .i64 (N : Int)] 3)).cell? ⟨q, 3, none⟩ = some (.int .i64 (N : Int)) ∧ (w4.drew.alloc (.cells #[.int .i64 (N : Int)] 3)).cell? ⟨w.heap.size, 0, none⟩ = some (.string (str ek)) ∧ (w4.drew.alloc (.cells #[.int .i64 (N : Int)] 3)).cell? ⟨w.heap.size, 1, none⟩ = some (.string (str evv)) := ⟨(HB4.out.drew.alloc _).cell 1, (HB4.out.drew.alloc _).cell 2, (HB4.out.drew.alloc _).cell 3, (HE4.out.drew.alloc _).cell 0, (HE4.out.drew.alloc _).cell 1⟩
    refine twoW (i := 10) (j := 15) (vi := v) (vj := .slice (some ⟨w4.heap.size, 0, none⟩) 1 1) (wi := w4.drew) (wj := w4.drew.alloc (.cells #[.int .i64 (N : Int)] 3)) rfl rfl (by kernel_rfl) rfl rfl (by rfl) (by rfl) (by go_simp) (by go_simp) hS hSa ?_ ?_
    have hxN : x.nx = N := hxN
    · refine oneW (i := 15) (v := .slice (some ⟨w4.heap.size, 0, none⟩) 1 1) (w' := w4.drew.alloc (.cells #[.int .i64 (N : Int)] 3)) rfl (by kernel_rfl) rfl (by rfl) (by go_simp) hSa ?_; simp only [s0A, s0B, s0C]
      refine oneA (i := 16) rfl (by kernel_rfl) rfl rfl (fun K hK => ?_)
      refine step_append1 (w := w4.drew) rfl (.tmp 31) (.tmp 36) 23 rfl Tryz.underlying23 int_info rfl (by decide) rfl HOWN.out.drew rfl rfl (row := [.int .i64 (N : Int)]) rfl rfl (by intro u hu; rw [List.mem_singleton.1 hu]; rfl) (by omega) (by unfold maxLen; omega) (Nat.le_trans hm (Nat.le_trans hsz4 (Nat.le_succ _))) ?_
      intro v6 w6 hE
      have hqv : ∀ k ∈ ownL v, k ≠ q := fun k hk h => hq (h ▸ HVT.out k hk)
      have hqe : ∀ k ∈ ownL v, k ≠ w.heap.size := fun k hk h => by have := (HXL.out k (HVT.out k hk)).2; omega
      have HB6 := Lib.hid (HB4.out.drew.only hE.only (fun h => hqv q h rfl))
      have HE6 := Lib.hid (HE4.out.drew.only hE.only (fun h => hqe _ h rfl))
      have hS6 := And.intro (HB6.out.cell 1) (And.intro (HB6.out.cell 2) (And.intro (HB6.out.cell 3) (And.intro (HE6.out.cell 0) (HE6.out.cell 1))))
      have HE_ := Lib.hid hE
      clear hE
      refine hK _ _ hS6 ?_
      clear hK K
      try simp only [s0A, s0B, s0C]
      refine oneN (i := 17) rfl (by kernel_rfl) rfl rfl (fun K hK => ?_)
      refine step_put (f := g) (n := 64) rfl (.tmp 24) (.tmp 25) (.tmp 37) 83 rfl 180 23 lawU Tryz.underlying83 rfl (HG0.out.drew.only HE_.out.only hbv) (by decide) rfl rfl (keyU (i := s) (by omega)) ?_
      intro w7 hv7 ho7
      have hbq : q ∉ [bb] := by intro h; rw [List.mem_singleton.1 h] at hq; exact hq HTT.out.1
      have hbe : w.heap.size ∉ [bb] := by intro h; have := (HXL.out bb HTT.out.1).2; simp at h; omega
      have HB7 := Lib.hid (HB6.out.only ho7 hbq)
      have HE7 := Lib.hid (HE6.out.only ho7 hbe)
      have hv_b : bb ∉ ownL v6 := vm_row (HG0.out.drew.only HE_.out.only hbv) HE_.out.own
      have HOWN7 := Lib.hid (HE_.out.own.only ho7 (by intro k hk h; rw [List.mem_singleton.1 h] at hk; exact hv_b hk))
      have HV7 := Lib.hid hv7
      have HO7 := Lib.hid ho7
      refine hK _ _ (And.intro (HB7.out.cell 1) (And.intro (HB7.out.cell 2) (And.intro (HB7.out.cell 3) (And.intro (HE7.out.cell 0) (HE7.out.cell 1))))) ?_
      clear hv7 ho7 hS6
      clear hK K
      try simp only [s0A, s0B, s0C]
      refine wpAnyH_done (by kernel_rfl) ?_ _
      clear hS hSa hlk0
      go_upto_region 6 with fail
      have hS : w7.drew.cell? ⟨q, 1, none⟩ = some (.map (some bb)) ∧ w7.drew.cell? ⟨q, 2, none⟩ = some (.map (some ba)) ∧ w7.drew.cell? ⟨q, 3, none⟩ = some (.int .i64 (N : Int)) ∧ w7.drew.cell? ⟨w.heap.size, 0, none⟩ = some (.string (str ek)) ∧ w7.drew.cell? ⟨w.heap.size, 1, none⟩ = some (.string (str evv)) := ⟨HB7.out.cell 1, HB7.out.cell 2, HB7.out.cell 3, HE7.out.cell 0, HE7.out.cell 1⟩
      refine wp_region_hand (S := (fun Y => Y.cell? ⟨q, 1, none⟩ = some (.map (some bb)) ∧ Y.cell? ⟨q, 2, none⟩ = some (.map (some ba)) ∧ Y.cell? ⟨q, 3, none⟩ = some (.int .i64 (N : Int)) ∧ Y.cell? ⟨w.heap.size, 0, none⟩ = some (.string (str ek)) ∧ Y.cell? ⟨w.heap.size, 1, none⟩ = some (.string (str evv)))) (by kernel_rfl) ?_
      refine takeV 0 (.pointer (some ⟨q, 1, none⟩)) rfl rfl (by kernel_rfl) (fun Y hY => by obtain ⟨y1, y2, y3, y4, y5⟩ := hY; go_simp) hS ?_; simp only [s0A, s0B, s0C]
      refine takeV 1 (.pointer (some ⟨q, 1, none⟩)) rfl rfl (by kernel_rfl) (fun Y hY => by obtain ⟨y1, y2, y3, y4, y5⟩ := hY; go_simp) hS ?_; simp only [s0A, s0B, s0C]
      refine takeV 2 (.pointer (some ⟨q, 2, none⟩)) rfl rfl (by kernel_rfl) (fun Y hY => by obtain ⟨y1, y2, y3, y4, y5⟩ := hY; go_simp) hS ?_; simp only [s0A, s0B, s0C]
      refine takeV 3 (.map (some ba)) rfl rfl (by kernel_rfl) (fun Y hY => by obtain ⟨y1, y2, y3, y4, y5⟩ := hY; go_simp) hS ?_; simp only [s0A, s0B, s0C]
      refine takeV 4 (.pointer (some ⟨q, 1, none⟩)) rfl rfl (by kernel_rfl) (fun Y hY => by obtain ⟨y1, y2, y3, y4, y5⟩ := hY; go_simp) hS ?_; simp only [s0A, s0B, s0C]
      refine takeV 5 (.pointer (some ⟨q, 1, none⟩)) rfl rfl (by kernel_rfl) (fun Y hY => by obtain ⟨y1, y2, y3, y4, y5⟩ := hY; go_simp) hS ?_; simp only [s0A, s0B, s0C]
      refine takeV 6 (.pointer (some ⟨q, 3, none⟩)) rfl rfl (by kernel_rfl) (fun Y hY => by obtain ⟨y1, y2, y3, y4, y5⟩ := hY; go_simp) hS ?_; simp only [s0A, s0B, s0C]
      refine takeV 7 (.int .i64 (N : Int)) rfl rfl (by kernel_rfl) (fun Y hY => by obtain ⟨y1, y2, y3, y4, y5⟩ := hY; go_simp) hS ?_; simp only [s0A, s0B, s0C]
      refine takeV 8 (.agg #[.string (str ek), .string (str evv)]) rfl rfl (by kernel_rfl) (fun Y hY => by obtain ⟨y1, y2, y3, y4, y5⟩ := hY; go_simp) hS ?_; simp only [s0A, s0B, s0C]
      refine oneN (i := 9) rfl (by kernel_rfl) rfl rfl (fun K hK => ?_)
      refine step_put (f := f) (n := N) (val := .agg #[.string (str ek), .string (str evv)]) rfl (.tmp 41) (.tmp 45) (.tmp 46) 84 rfl 3 69 lawN Tryz.underlying84 rfl ((HF0.out.drew.only HE_.out.only hav).only HO7.out (by simpa using fun h => hne h.symm)).drew (by unfold maxLen; omega) rfl rfl (keyN (i := N) (by omega)) ?_
      intro w8 hv8 ho8
      have haq : q ∉ [ba] := by intro h; rw [List.mem_singleton.1 h] at hq; exact hq HTT.out.2
      have hae : w.heap.size ∉ [ba] := by intro h; have := (HXL.out ba HTT.out.2).2; simp at h; omega
      have HB8 := Lib.hid (HB7.out.drew.only ho8 haq)
      have HE8 := Lib.hid (HE7.out.drew.only ho8 hae)
      have hv_a : ba ∉ ownL v6 := vm_row (HF0.out.drew.only HE_.out.only hav) HE_.out.own
      have HOWN8 := Lib.hid (HOWN7.out.drew.only ho8 (by intro k hk h; rw [List.mem_singleton.1 h] at hk; exact hv_a hk))
      have HV78 := Lib.hid (HV7.out.drew.only ho8 (by simpa using hne))
      have ho48 : Only (bb :: ba :: ownL v) w4 w8 := ((((Only.refl [] w4).drew.mono (S' := bb :: ba :: ownL v) (by simp)).trans HE_.out.only (fun k hk => .inl (List.mem_cons_of_mem _ (List.mem_cons_of_mem _ hk)))).trans HO7.out.drew (fun k hk => .inl (by rw [List.mem_singleton.1 hk]; simp))).trans ho8 (fun k hk => .inl (by rw [List.mem_singleton.1 hk]; simp))
      have HK := Lib.hid (HFIN.out w8 v6 HV78.out hv8 HOWN8.out ho48 (fun k hk => HE_.out.fresh k hk))
      have HO8 := Lib.hid (HO4.out.trans ho48 (fun k hk => .inl (by
        rcases List.mem_cons.1 hk with rfl | hk
        · exact List.mem_cons_of_mem _ HTT.out.1
        · rcases List.mem_cons.1 hk with rfl | hk
          · exact List.mem_cons_of_mem _ HTT.out.2
          · exact List.mem_cons_of_mem _ (HVT.out k hk))))
      have HFR := Lib.hid (HE_.out.fresh)
      refine hK _ _ (And.intro (HB8.out.cell 1) (And.intro (HB8.out.cell 2) (And.intro (HB8.out.cell 3) (And.intro (HE8.out.cell 0) (HE8.out.cell 1))))) ?_
      clear hv8 ho8 ho48 hS
      clear hK K
      try simp only [s0A, s0B, s0C]
      refine wpAnyH_done (by kernel_rfl) ?_ _
      have q3 := HB8.out.cell 3
      have fz3 := HB8.out.frozen 3
      have q3 : w8.cell? ⟨q, 3, none⟩ = some (.int .i64 (N : Int)) := q3
      go_wp2_with fail
      go_end0
      refine ⟨rfl, T ++ ownL v6, ?_, HO8.out.setCell (.inl (by simp)) _, fun k hk => ?_, ?_⟩
      · rw [HADD.out]
        refine HK.out.only ((Only.refl [q] w8).setCell (p := ⟨q, 3, none⟩) (.inl (by simp)) _) (fun k hk h => ?_)
        rw [List.mem_singleton.1 h] at hk
        rcases List.mem_append.1 hk with hk | hk
        · exact hq hk
        · rcases HFR.out q hk with h | h
          · exact hq (HVT.out q h)
          · have h2 : w4.heap.size ≤ q := h
            omega
      · rcases List.mem_append.1 hk with hk | hk
        · exact .inl hk
        · rcases HFR.out k hk with h | h
          · exact .inl (HVT.out k h)
          · exact .inr (Nat.le_trans hsz4 h)
      · have := HB8.out.set_ 3 (.int .i64 ((N : Int) + 1))
        simp only [hxN]
        exact this
    · have hl : (Instr.lookup 83 (.map (some bb)) (.int .u64 (s : Int)) false).run Tryz.prog (w4.alloc (.cells #[.int .i64 (N : Int)] 3)).drew = .ok v (w4.alloc (.cells #[.int .i64 (N : Int)] 3)).drew := HLK.out (.cells #[.int .i64 (N : Int)] 3)
      refine oneW (i := 10) (v := v) (w' := w4.drew.alloc (.cells #[.int .i64 (N : Int)] 3)) rfl (by kernel_rfl) rfl (by rfl) (by go_simp) hSa ?_
      clear hl
      simp only [s0A, s0B, s0C]
      refine oneA (i := 16) rfl (by kernel_rfl) rfl rfl (fun K hK => ?_)
      refine step_append1 (w := w4.drew) rfl (.tmp 31) (.tmp 36) 23 rfl Tryz.underlying23 int_info rfl (by decide) rfl HOWN.out.drew rfl rfl (row := [.int .i64 (N : Int)]) rfl rfl (by intro u hu; rw [List.mem_singleton.1 hu]; rfl) (by omega) (by unfold maxLen; omega) (Nat.le_trans hm (Nat.le_trans hsz4 (Nat.le_succ _))) ?_
      intro v6 w6 hE
      have hqv : ∀ k ∈ ownL v, k ≠ q := fun k hk h => hq (h ▸ HVT.out k hk)
      have hqe : ∀ k ∈ ownL v, k ≠ w.heap.size := fun k hk h => by have := (HXL.out k (HVT.out k hk)).2; omega
      have HB6 := Lib.hid (HB4.out.drew.only hE.only (fun h => hqv q h rfl))
      have HE6 := Lib.hid (HE4.out.drew.only hE.only (fun h => hqe _ h rfl))
      have hS6 := And.intro (HB6.out.cell 1) (And.intro (HB6.out.cell 2) (And.intro (HB6.out.cell 3) (And.intro (HE6.out.cell 0) (HE6.out.cell 1))))
      have HE_ := Lib.hid hE
      clear hE
      refine hK _ _ hS6 ?_
      clear hK K
      try simp only [s0A, s0B, s0C]
      refine oneN (i := 17) rfl (by kernel_rfl) rfl rfl (fun K hK => ?_)
      refine step_put (f := g) (n := 64) rfl (.tmp 24) (.tmp 25) (.tmp 37) 83 rfl 180 23 lawU Tryz.underlying83 rfl (HG0.out.drew.only HE_.out.only hbv) (by decide) rfl rfl (keyU (i := s) (by omega)) ?_
      intro w7 hv7 ho7
      have hbq : q ∉ [bb] := by intro h; rw [List.mem_singleton.1 h] at hq; exact hq HTT.out.1
      have hbe : w.heap.size ∉ [bb] := by intro h; have := (HXL.out bb HTT.out.1).2; simp at h; omega
      have HB7 := Lib.hid (HB6.out.only ho7 hbq)
      have HE7 := Lib.hid (HE6.out.only ho7 hbe)
      have hv_b : bb ∉ ownL v6 := vm_row (HG0.out.drew.only HE_.out.only hbv) HE_.out.own
      have HOWN7 := Lib.hid (HE_.out.own.only ho7 (by intro k hk h; rw [List.mem_singleton.1 h] at hk; exact hv_b hk))
      have HV7 := Lib.hid hv7
      have HO7 := Lib.hid ho7
      refine hK _ _ (And.intro (HB7.out.cell 1) (And.intro (HB7.out.cell 2) (And.intro (HB7.out.cell 3) (And.intro (HE7.out.cell 0) (HE7.out.cell 1))))) ?_
      clear hv7 ho7 hS6
      clear hK K
      try simp only [s0A, s0B, s0C]
      refine wpAnyH_done (by kernel_rfl) ?_ _
      clear hS hSa hlk0
      go_upto_region 6 with fail
      have hS : w7.drew.cell? ⟨q, 1, none⟩ = some (.map (some bb)) ∧ w7.drew.cell? ⟨q, 2, none⟩ = some (.map (some ba)) ∧ w7.drew.cell? ⟨q, 3, none⟩ = some (.int .i64 (N : Int)) ∧ w7.drew.cell? ⟨w.heap.size, 0, none⟩ = some (.string (str ek)) ∧ w7.drew.cell? ⟨w.heap.size, 1, none⟩ = some (.string (str evv)) := ⟨HB7.out.cell 1, HB7.out.cell 2, HB7.out.cell 3, HE7.out.cell 0, HE7.out.cell 1⟩
      refine wp_region_hand (S := (fun Y => Y.cell? ⟨q, 1, none⟩ = some (.map (some bb)) ∧ Y.cell? ⟨q, 2, none⟩ = some (.map (some ba)) ∧ Y.cell? ⟨q, 3, none⟩ = some (.int .i64 (N : Int)) ∧ Y.cell? ⟨w.heap.size, 0, none⟩ = some (.string (str ek)) ∧ Y.cell? ⟨w.heap.size, 1, none⟩ = some (.string (str evv)))) (by kernel_rfl) ?_
      refine takeV 0 (.pointer (some ⟨q, 1, none⟩)) rfl rfl (by kernel_rfl) (fun Y hY => by obtain ⟨y1, y2, y3, y4, y5⟩ := hY; go_simp) hS ?_; simp only [s0A, s0B, s0C]
      refine takeV 1 (.pointer (some ⟨q, 1, none⟩)) rfl rfl (by kernel_rfl) (fun Y hY => by obtain ⟨y1, y2, y3, y4, y5⟩ := hY; go_simp) hS ?_; simp only [s0A, s0B, s0C]
      refine takeV 2 (.pointer (some ⟨q, 2, none⟩)) rfl rfl (by kernel_rfl) (fun Y hY => by obtain ⟨y1, y2, y3, y4, y5⟩ := hY; go_simp) hS ?_; simp only [s0A, s0B, s0C]
      refine takeV 3 (.map (some ba)) rfl rfl (by kernel_rfl) (fun Y hY => by obtain ⟨y1, y2, y3, y4, y5⟩ := hY; go_simp) hS ?_; simp only [s0A, s0B, s0C]
      refine takeV 4 (.pointer (some ⟨q, 1, none⟩)) rfl rfl (by kernel_rfl) (fun Y hY => by obtain ⟨y1, y2, y3, y4, y5⟩ := hY; go_simp) hS ?_; simp only [s0A, s0B, s0C]
      refine takeV 5 (.pointer (some ⟨q, 1, none⟩)) rfl rfl (by kernel_rfl) (fun Y hY => by obtain ⟨y1, y2, y3, y4, y5⟩ := hY; go_simp) hS ?_; simp only [s0A, s0B, s0C]
      refine takeV 6 (.pointer (some ⟨q, 3, none⟩)) rfl rfl (by kernel_rfl) (fun Y hY => by obtain ⟨y1, y2, y3, y4, y5⟩ := hY; go_simp) hS ?_; simp only [s0A, s0B, s0C]
      refine takeV 7 (.int .i64 (N : Int)) rfl rfl (by kernel_rfl) (fun Y hY => by obtain ⟨y1, y2, y3, y4, y5⟩ := hY; go_simp) hS ?_; simp only [s0A, s0B, s0C]
      refine takeV 8 (.agg #[.string (str ek), .string (str evv)]) rfl rfl (by kernel_rfl) (fun Y hY => by obtain ⟨y1, y2, y3, y4, y5⟩ := hY; go_simp) hS ?_; simp only [s0A, s0B, s0C]
      refine oneN (i := 9) rfl (by kernel_rfl) rfl rfl (fun K hK => ?_)
      refine step_put (f := f) (n := N) (val := .agg #[.string (str ek), .string (str evv)]) rfl (.tmp 41) (.tmp 45) (.tmp 46) 84 rfl 3 69 lawN Tryz.underlying84 rfl ((HF0.out.drew.only HE_.out.only hav).only HO7.out (by simpa using fun h => hne h.symm)).drew (by unfold maxLen; omega) rfl rfl (keyN (i := N) (by omega)) ?_
      intro w8 hv8 ho8
      have haq : q ∉ [ba] := by intro h; rw [List.mem_singleton.1 h] at hq; exact hq HTT.out.2
      have hae : w.heap.size ∉ [ba] := by intro h; have := (HXL.out ba HTT.out.2).2; simp at h; omega
      have HB8 := Lib.hid (HB7.out.drew.only ho8 haq)
      have HE8 := Lib.hid (HE7.out.drew.only ho8 hae)
      have hv_a : ba ∉ ownL v6 := vm_row (HF0.out.drew.only HE_.out.only hav) HE_.out.own
      have HOWN8 := Lib.hid (HOWN7.out.drew.only ho8 (by intro k hk h; rw [List.mem_singleton.1 h] at hk; exact hv_a hk))
      have HV78 := Lib.hid (HV7.out.drew.only ho8 (by simpa using hne))
      have ho48 : Only (bb :: ba :: ownL v) w4 w8 := ((((Only.refl [] w4).drew.mono (S' := bb :: ba :: ownL v) (by simp)).trans HE_.out.only (fun k hk => .inl (List.mem_cons_of_mem _ (List.mem_cons_of_mem _ hk)))).trans HO7.out.drew (fun k hk => .inl (by rw [List.mem_singleton.1 hk]; simp))).trans ho8 (fun k hk => .inl (by rw [List.mem_singleton.1 hk]; simp))
      have HK := Lib.hid (HFIN.out w8 v6 HV78.out hv8 HOWN8.out ho48 (fun k hk => HE_.out.fresh k hk))
      have HO8 := Lib.hid (HO4.out.trans ho48 (fun k hk => .inl (by
        rcases List.mem_cons.1 hk with rfl | hk
        · exact List.mem_cons_of_mem _ HTT.out.1
        · rcases List.mem_cons.1 hk with rfl | hk
          · exact List.mem_cons_of_mem _ HTT.out.2
          · exact List.mem_cons_of_mem _ (HVT.out k hk))))
      have HFR := Lib.hid (HE_.out.fresh)
      refine hK _ _ (And.intro (HB8.out.cell 1) (And.intro (HB8.out.cell 2) (And.intro (HB8.out.cell 3) (And.intro (HE8.out.cell 0) (HE8.out.cell 1))))) ?_
      clear hv8 ho8 ho48 hS
      clear hK K
      try simp only [s0A, s0B, s0C]
      refine wpAnyH_done (by kernel_rfl) ?_ _
      have q3 := HB8.out.cell 3
      have fz3 := HB8.out.frozen 3
      have q3 : w8.cell? ⟨q, 3, none⟩ = some (.int .i64 (N : Int)) := q3
      go_wp2_with fail
      go_end0
      refine ⟨rfl, T ++ ownL v6, ?_, HO8.out.setCell (.inl (by simp)) _, fun k hk => ?_, ?_⟩
      · rw [HADD.out]
        refine HK.out.only ((Only.refl [q] w8).setCell (p := ⟨q, 3, none⟩) (.inl (by simp)) _) (fun k hk h => ?_)
        rw [List.mem_singleton.1 h] at hk
        rcases List.mem_append.1 hk with hk | hk
        · exact hq hk
        · rcases HFR.out q hk with h | h
          · exact hq (HVT.out q h)
          · have h2 : w4.heap.size ≤ q := h
            omega
      · rcases List.mem_append.1 hk with hk | hk
        · exact .inl hk
        · rcases HFR.out k hk with h | h
          · exact .inl (HVT.out k h)
          · exact .inr (Nat.le_trans hsz4 h)
      · have := HB8.out.set_ 3 (.int .i64 ((N : Int) + 1))
        simp only [hxN]
        exact this
end Go.Proofs.YthgfmoogagldmaaGreat.Cache
