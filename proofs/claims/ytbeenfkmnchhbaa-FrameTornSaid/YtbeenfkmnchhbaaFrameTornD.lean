/- FrameTorn, walked: two marks. (Printed by gen_torn.py.) -/
import Derived.Test.YtbeenfkmnchhbaaFrameTornT
namespace Go.Proofs.Ytbeenfkmnchhbaa.Frame
open Go.RowKit Codec
set_option linter.unusedVariables false
set_option maxRecDepth 100000
set_option maxHeartbeats 1000000 in
theorem torn_d (mk mg ms mn ok og os on : Int) (w : World) (hm : (⟨mk, mg, ms, mn⟩ : Mark).right) (hfm : (⟨mk, mg, ms, mn⟩ : Mark).fits) (ho : (⟨ok, og, os, on⟩ : Mark).right) (hne : halfB ⟨mk, mg, ms, mn⟩ ≠ halfB ⟨ok, og, os, on⟩) (hdf : ¬ (mk = ok ∧ mg = og ∧ ms = os ∧ mn = on)) :
    Calls Try.prog 4 #[.agg #[.int .i64 mk, .int .i64 mg, .int .i64 ms, .int .i64 mn], .agg #[.int .i64 ok, .int .i64 og, .int .i64 os, .int .i64 on], .bool false] w fun x w' => x = .returned (.bool true) ∧ Only [] w w' := by
  have hLH := halfB_len ⟨mk, mg, ms, mn⟩
  have HTM := fun t ht => torn ⟨mk, mg, ms, mn⟩ t hm hfm ht
  have HTN := fun t ht => torn2 ⟨mk, mg, ms, mn⟩ t hm hfm ht
  have HK := Lib.hid knows_any
  have hb1 := (Blk.new w 23 #[.int .i64 mk, .int .i64 mg, .int .i64 ms, .int .i64 mn]).alloc (.cells #[.int .i64 ok, .int .i64 og, .int .i64 os, .int .i64 on] 23)
  have hb2 := Blk.new (w.alloc (.cells #[.int .i64 mk, .int .i64 mg, .int .i64 ms, .int .i64 mn] 23)) 23 #[.int .i64 ok, .int .i64 og, .int .i64 os, .int .i64 on]
  rw [alloc_size] at hb2
  have hO : Only [] w ((w.alloc (.cells #[.int .i64 mk, .int .i64 mg, .int .i64 ms, .int .i64 mn] 23)).alloc (.cells #[.int .i64 ok, .int .i64 og, .int .i64 os, .int .i64 on] 23)) := ((Only.refl [] w).alloc _).alloc _
  have hP := fun w => put_any ⟨mk, mg, ms, mn⟩ w
  have hQ := fun w => put_any ⟨ok, og, os, on⟩ w
  have hMv : (⟨mk, mg, ms, mn⟩ : Mark).val = .agg #[.int .i64 mk, .int .i64 mg, .int .i64 ms, .int .i64 mn] := rfl
  have hOv : (⟨ok, og, os, on⟩ : Mark).val = .agg #[.int .i64 ok, .int .i64 og, .int .i64 os, .int .i64 on] := rfl
  rw [hMv] at hP
  rw [hOv] at hQ
  have hpm : putB ⟨mk, mg, ms, mn⟩ = halfB ⟨mk, mg, ms, mn⟩ ++ halfB ⟨mk, mg, ms, mn⟩ := if_pos hm
  have hlm : (halfB ⟨mk, mg, ms, mn⟩ ++ halfB ⟨mk, mg, ms, mn⟩).length = 64 := by rw [List.length_append, halfB_len]
  rw [hpm, hlm] at hP
  clear hpm hlm
  have hpo : putB ⟨ok, og, os, on⟩ = halfB ⟨ok, og, os, on⟩ ++ halfB ⟨ok, og, os, on⟩ := if_pos ho
  have hlo : (halfB ⟨ok, og, os, on⟩ ++ halfB ⟨ok, og, os, on⟩).length = 64 := by rw [List.length_append, halfB_len]
  have hLT := halfB_len ⟨ok, og, os, on⟩
  rw [hpo, hlo] at hQ
  clear hpo hlo
  have HDF := Lib.hid hdf
  clear hdf
  generalize halfB ⟨mk, mg, ms, mn⟩ = HA at *
  generalize halfB ⟨ok, og, os, on⟩ = t at *
  have HP := Lib.hid hP
  have HQ := Lib.hid hQ
  clear hP hQ hMv hOv
  go_enter Try.func4, Try.ntmps4
  go_wp2_with fail
  obtain ⟨w1, hw1⟩ : ∃ w1, (w.alloc (.cells #[.int .i64 mk, .int .i64 mg, .int .i64 ms, .int .i64 mn] 23)).alloc (.cells #[.int .i64 ok, .int .i64 og, .int .i64 os, .int .i64 on] 23) = w1 := ⟨_, rfl⟩
  rw [hw1] at hb1 hb2 hO ⊢
  clear hw1
  have hc : ∀ w', Only [] w1 w' → Only [] w w' ∧ (w'.cell? ⟨w.heap.size, 0, none⟩ = some (.int .i64 mk) ∧ w'.cell? ⟨w.heap.size, 1, none⟩ = some (.int .i64 mg) ∧ w'.cell? ⟨w.heap.size, 2, none⟩ = some (.int .i64 ms) ∧ w'.cell? ⟨w.heap.size, 3, none⟩ = some (.int .i64 mn)) ∧
      (w'.cell? ⟨w.heap.size + 1, 0, none⟩ = some (.int .i64 ok) ∧ w'.cell? ⟨w.heap.size + 1, 1, none⟩ = some (.int .i64 og) ∧ w'.cell? ⟨w.heap.size + 1, 2, none⟩ = some (.int .i64 os) ∧ w'.cell? ⟨w.heap.size + 1, 3, none⟩ = some (.int .i64 on)) := fun w' h =>
    ⟨hO.trans h (by simp), ⟨(hb1.only h (by simp)).cell 0, (hb1.only h (by simp)).cell 1, (hb1.only h (by simp)).cell 2, (hb1.only h (by simp)).cell 3⟩, ⟨(hb2.only h (by simp)).cell 0, (hb2.only h (by simp)).cell 1, (hb2.only h (by simp)).cell 2, (hb2.only h (by simp)).cell 3⟩⟩
  have HC := Lib.hid hc
  clear hc hb1 hb2 hO
  obtain ⟨_, ⟨x0, x1, x2, x3⟩, ⟨y0, y1, y2, y3⟩⟩ := HC.out w1 (Only.refl _ _)
  have HOD : Hid (Only [] w1 w1.drew) := (Only.refl _ _).drew
  go_region_held (fun w' => w'.cell? ⟨w.heap.size, 0, none⟩ = some (.int .i64 mk) ∧ w'.cell? ⟨w.heap.size, 1, none⟩ = some (.int .i64 mg) ∧ w'.cell? ⟨w.heap.size, 2, none⟩ = some (.int .i64 ms) ∧ w'.cell? ⟨w.heap.size, 3, none⟩ = some (.int .i64 mn) ∧ w'.cell? ⟨w.heap.size + 1, 0, none⟩ = some (.int .i64 ok) ∧ w'.cell? ⟨w.heap.size + 1, 1, none⟩ = some (.int .i64 og) ∧ w'.cell? ⟨w.heap.size + 1, 2, none⟩ = some (.int .i64 os) ∧ w'.cell? ⟨w.heap.size + 1, 3, none⟩ = some (.int .i64 on)) (first | go_keep | (refine ⟨?_, ?_, ?_, ?_, ?_, ?_, ?_, ?_⟩ <;> assumption)) ((first
    | (go_at_call 14; refine (HQ.out wa).mono ?_; rintro _ wb ⟨vb, rfl, hvb, hob⟩; have hob1 := hoa1.trans hob (by simp); obtain ⟨o2, ⟨g0, g1, g2, g3⟩, ⟨h0, h1, h2, h3⟩⟩ := HC.out wb hob1; obtain ⟨Ab, capb, rfl, hcb, hmb, hrb, _⟩ := hvb.shape; have hrA := (hra.only hob (by simp)).more hob.size)
    | (go_at_call 14; refine (HP.out w1.drew).mono ?_; rintro _ wa ⟨va, rfl, hva, hoa⟩; have hoa1 := HOD.out.trans hoa (by simp); obtain ⟨o1, ⟨d0, d1, d2, d3⟩, ⟨e0, e1, e2, e3⟩⟩ := HC.out wa hoa1; obtain ⟨Aa, capa, rfl, hca, hma, hra, _⟩ := hva.shape)))
  all_goals
    have hoB := hob1
    have hrA0 := hrA
    have hrB0 := hrb
    have hz32' : (32 : Int) ≤ (capb : Int) := by omega
    have hz64' : (64 : Int) ≤ (capb : Int) := by omega
    have hk2 : ¬ capb = 32 := by omega
    unfold maxLen at hma hmb
    have hz32 : (32 : Int) ≤ (capa : Int) := by omega
    have hz64 : (64 : Int) ≤ (capa : Int) := by omega
    have hk1 : ¬ capa = 32 := by omega
    have hAh := hrA0.head (k := 32) (by omega)
    have hAt := hrA0.rest (k := 32) (by omega)
    have hBh := hrB0.head (k := 32) (by omega)
    have hBt := hrB0.rest (k := 32) (by omega)
    rw [List.take_left' hLH] at hAh
    rw [List.drop_left' hLH] at hAt
    rw [List.take_left' hLT] at hBh
    rw [List.drop_left' hLT] at hBt
    have hxx : ∀ w', Only [] wb w' → (Only [] w w' ∧ Bytes w' wb.heap.size Aa 32 HA ∧ Bytes w' wb.heap.size (Aa.map (fun x => x.add 32)) 32 HA ∧ Bytes w' wb.heap.size Ab 32 t ∧ Bytes w' wb.heap.size (Ab.map (fun x => x.add 32)) 32 t) := fun w' h =>
      ⟨(HC.out wb hoB).1.trans h (by simp), hAh.only h (by simp), hAt.only h (by simp), hBh.only h (by simp), hBt.only h (by simp)⟩
    have HX := Lib.hid hxx
    clear hxx hAh hAt hBh hBt hrA0 hrB0
    have hG1 := fun A c w' hr hnc hcm => get_any A 64 c w'.heap.size (HA ++ t) w' hr (Nat.le_refl _) hnc hcm
    have hG2 := fun A c w' hr hnc hcm => get_any A 64 c w'.heap.size (t ++ HA) w' hr (Nat.le_refl _) hnc hcm
    rw [HTM t hLT, if_neg hne] at hG1
    rw [HTN t hLT, if_neg hne] at hG2
    have hval : ((zeroM, false)).1.val = .agg #[.int .i64 0, .int .i64 0, .int .i64 0, .int .i64 0] := rfl
    have hval2 : ((zeroM, false)).2 = false := rfl
    rw [hval, hval2] at hG1 hG2
    have HG1 := Lib.hid hG1
    have HG2 := Lib.hid hG2
    have hoBB := Only.refl [] wb
    clear hG1 hG2 hval hval2
    go_wp2_with fail
    have hW1 : Only [] wb (wb.alloc (.cells #[] 5)).drew := ((Only.refl [] wb).alloc _).drew
    have hW2 : Only [] wb ((wb.alloc (.cells #[] 5)).alloc (.cells #[.int .i64 0, .int .i64 0, .int .i64 0, .int .i64 0] 26)).drew := (((Only.refl [] wb).alloc _).alloc _).drew
    have hW3 : Only [] wb ((wb.alloc (.cells #[.int .i64 0, .int .i64 0, .int .i64 0, .int .i64 0] 26)).alloc (.cells #[] 5)).drew := (((Only.refl [] wb).alloc _).alloc _).drew
    have hE1 : OwnB (wb.alloc (.cells #[] 5)).drew wb.heap.size (.slice (some ⟨wb.heap.size, 0, none⟩) 0 0) 0 [] := (own_empty wb).drew
    have hE2 : OwnB ((wb.alloc (.cells #[] 5)).alloc (.cells #[.int .i64 0, .int .i64 0, .int .i64 0, .int .i64 0] 26)).drew wb.heap.size (.slice (some ⟨wb.heap.size, 0, none⟩) 0 0) 0 [] := ((own_empty wb).alloc _).drew
    have hE3 : OwnB ((wb.alloc (.cells #[.int .i64 0, .int .i64 0, .int .i64 0, .int .i64 0] 26)).alloc (.cells #[] 5)).drew wb.heap.size (.slice (some ⟨wb.heap.size + 1, 0, none⟩) 0 0) 0 [] := (by
      have := (own_empty (wb.alloc (.cells #[.int .i64 0, .int .i64 0, .int .i64 0, .int .i64 0] 26))).drew
      rw [alloc_size] at this
      exact this.mono (by omega))
    have hZ2 : Blk ((wb.alloc (.cells #[] 5)).alloc (.cells #[.int .i64 0, .int .i64 0, .int .i64 0, .int .i64 0] 26)).drew (wb.heap.size + 1) 26 #[.int .i64 0, .int .i64 0, .int .i64 0, .int .i64 0] := (by
      have := (Blk.new (wb.alloc (.cells #[] 5)) 26 #[.int .i64 0, .int .i64 0, .int .i64 0, .int .i64 0]).drew
      rw [alloc_size] at this
      exact this)
    have hZ3 : Blk ((wb.alloc (.cells #[.int .i64 0, .int .i64 0, .int .i64 0, .int .i64 0] 26)).alloc (.cells #[] 5)).drew wb.heap.size 26 #[.int .i64 0, .int .i64 0, .int .i64 0, .int .i64 0] := ((Blk.new wb _ _).alloc _).drew
    have hR1 := (HX.out _ (hoBB.trans hW1 (by simp))).2.1
    have hR2 := (HX.out _ (hoBB.trans hW2 (by simp))).2.1
    have hR3 := (HX.out _ (hoBB.trans hW3 (by simp))).2.1
    have HW := Lib.hid (And.intro hW1 (And.intro hW2 hW3))
    have HZ := Lib.hid (And.intro hZ2 hZ3)
    have hN2 : wb.heap.size + 1 ∉ ownL (.slice (some ⟨wb.heap.size, 0, none⟩) 0 0) := (by simp [ownL, Value.ownBlock])
    have hN3 : wb.heap.size ∉ ownL (.slice (some ⟨wb.heap.size + 1, 0, none⟩) 0 0) := (by simp [ownL, Value.ownBlock])
    have HN := Lib.hid (And.intro hN2 hN3)
    clear hW1 hW2 hW3 hZ2 hZ3 hN2 hN3
    go_cut [9, 10] (fun sp sb wx => ∃ q, sp = .pointer (some ⟨q, 0, none⟩) ∧ sb = .bool false ∧ wb.heap.size ≤ q ∧ Blk wx q 26 #[.int .i64 0, .int .i64 0, .int .i64 0, .int .i64 0] ∧ Only [] wb wx)
    case first =>
      go_region_law (first
        | (refine step_append_bytes (w := (wb.alloc (.cells #[] 5)).drew) rfl (.tmp 38) (.tmp 40) rfl rfl hE1 rfl hR1 (by decide) HW.out.1.size ?_; intro v1 wd hv1 hon1 hfr1; have hoX1 := HW.out.1.trans hon1 (fun g hg => .inr (hE1.lt g hg).1); have hT1 := (HX.out wd (hoBB.trans hoX1 (by simp))).2.2.2.2; have hs1 := hoX1.size)
        | (refine step_append_bytes (w := ((wb.alloc (.cells #[] 5)).alloc (.cells #[.int .i64 0, .int .i64 0, .int .i64 0, .int .i64 0] 26)).drew) rfl (.tmp 38) (.tmp 40) rfl rfl hE2 rfl hR2 (by decide) HW.out.2.1.size ?_; intro v1 wd hv1 hon1 hfr1; have hoX1 := HW.out.2.1.trans hon1 (fun g hg => .inr (hE2.lt g hg).1); have hT1 := (HX.out wd (hoBB.trans hoX1 (by simp))).2.2.2.2; have hs1 := hoX1.size; have hZ := HZ.out.1.only hon1 HN.out.1; have hZn := fun hg => (hfr1 _ hg).elim HN.out.1 (fun h => absurd h (Nat.not_le_of_lt HZ.out.1.lt)))
        | (refine step_append_bytes (w := ((wb.alloc (.cells #[.int .i64 0, .int .i64 0, .int .i64 0, .int .i64 0] 26)).alloc (.cells #[] 5)).drew) rfl (.tmp 38) (.tmp 40) rfl rfl hE3 rfl hR3 (by decide) HW.out.2.2.size ?_; intro v1 wd hv1 hon1 hfr1; have hoX1 := HW.out.2.2.trans hon1 (fun g hg => .inr (hE3.lt g hg).1); have hT1 := (HX.out wd (hoBB.trans hoX1 (by simp))).2.2.2.2; have hs1 := hoX1.size; have hZ := HZ.out.2.only hon1 HN.out.2; have hZn := fun hg => (hfr1 _ hg).elim HN.out.2 (fun h => absurd h (Nat.not_le_of_lt HZ.out.2.lt)))
        | (refine step_append_bytes (w := wd) rfl (.tmp 41) (.tmp 43) rfl rfl hv1 rfl hT1 (by decide) hs1 ?_; intro v2 w2 ho2 hon2 hfr2; have hoX2 := hoX1.trans hon2 (fun g hg => .inr (hv1.lt g hg).1); obtain ⟨A2, cap2, rfl, hc2, hm2, hr2, _⟩ := ho2.shape; try (have hZ := hZ.only hon2 hZn))
        | (refine step_append_bytes (w := wd.alloc (.cells #[.int .i64 0, .int .i64 0, .int .i64 0, .int .i64 0] 26)) rfl (.tmp 41) (.tmp 43) rfl rfl (hv1.alloc _) rfl (hT1.only ((Only.refl [] wd).alloc _) (by simp)) (by decide) (by simp; omega) ?_; intro v2 w2 ho2 hon2 hfr2; have hoX2 := (hoX1.alloc (.cells #[.int .i64 0, .int .i64 0, .int .i64 0, .int .i64 0] 26)).trans hon2 (fun g hg => .inr (hv1.lt g hg).1); obtain ⟨A2, cap2, rfl, hc2, hm2, hr2, _⟩ := ho2.shape; have hZ := (Blk.new wd 26 #[.int .i64 0, .int .i64 0, .int .i64 0, .int .i64 0]).only hon2 (fun hg => by have := (hv1.lt _ hg).2; omega))
        | (go_simp; go_at_call 12; refine (HG1.out _ cap2 w2 hr2 hc2 hm2).mono ?_; rintro _ w3 ⟨rfl, ho3⟩; have hoX3 := hoX2.trans ho3 (by simp); try (have hZ := hZ.only ho3 (by simp); have z0 := hZ.cell 0; have z1 := hZ.cell 1; have z2 := hZ.cell 2; have z3 := hZ.cell 3; have y0 := hZ.frozen 0; have y1 := hZ.frozen 1; have y2 := hZ.frozen 2; have y3 := hZ.frozen 3))
        | (go_simp; go_at_call 12; refine (HG1.out _ cap2 (w2.alloc (.cells #[.int .i64 0, .int .i64 0, .int .i64 0, .int .i64 0] 26)) ((hr2.only ((Only.refl [] w2).alloc _) (by simp)).more (by simp)) hc2 hm2).mono ?_; rintro _ w3 ⟨rfl, ho3⟩; have hoX3 := (hoX2.alloc (.cells #[.int .i64 0, .int .i64 0, .int .i64 0, .int .i64 0] 26)).trans ho3 (by simp); have hZ := (Blk.new w2 26 #[.int .i64 0, .int .i64 0, .int .i64 0, .int .i64 0]).only ho3 (by simp); have z0 := hZ.cell 0; have z1 := hZ.cell 1; have z2 := hZ.cell 2; have z3 := hZ.cell 3; have y0 := hZ.frozen 0; have y1 := hZ.frozen 1; have y2 := hZ.frozen 2; have y3 := hZ.frozen 3)
        | fail)
      all_goals
        go_wp2_with fail
        go_meet
        have q1 := hoX1.size
        have q2 := hoX2.size
        have q3 := hoX3.size
        first
          | exact ⟨_, rfl, rfl, (by first | omega | (simp; omega)), blk4 hZ _ _ _ _, only4 hoX3 (by first | omega | (simp; omega)) _ _ _ _⟩
          | exact ⟨_, rfl, rfl, (by first | omega | (simp; omega)), Blk.new _ _ _, hoX3.alloc _⟩
    case rest =>
      obtain ⟨q6, rfl, rfl, hq6, hb6, hoc⟩ := hcut
      obtain ⟨w6, hw6⟩ : ∃ w6, wc = w6 := ⟨_, rfl⟩
      rw [hw6] at hb6 hoc ⊢
      clear hw6
      go_wp2_with fail
      have hW1 : Only [] w6 (w6.alloc (.cells #[] 5)).drew := ((Only.refl [] w6).alloc _).drew
      have hW2 : Only [] w6 ((w6.alloc (.cells #[] 5)).alloc (.cells #[.int .i64 0, .int .i64 0, .int .i64 0, .int .i64 0] 26)).drew := (((Only.refl [] w6).alloc _).alloc _).drew
      have hW3 : Only [] w6 ((w6.alloc (.cells #[.int .i64 0, .int .i64 0, .int .i64 0, .int .i64 0] 26)).alloc (.cells #[] 5)).drew := (((Only.refl [] w6).alloc _).alloc _).drew
      have hE1 : OwnB (w6.alloc (.cells #[] 5)).drew w6.heap.size (.slice (some ⟨w6.heap.size, 0, none⟩) 0 0) 0 [] := (own_empty w6).drew
      have hE2 : OwnB ((w6.alloc (.cells #[] 5)).alloc (.cells #[.int .i64 0, .int .i64 0, .int .i64 0, .int .i64 0] 26)).drew w6.heap.size (.slice (some ⟨w6.heap.size, 0, none⟩) 0 0) 0 [] := ((own_empty w6).alloc _).drew
      have hE3 : OwnB ((w6.alloc (.cells #[.int .i64 0, .int .i64 0, .int .i64 0, .int .i64 0] 26)).alloc (.cells #[] 5)).drew w6.heap.size (.slice (some ⟨w6.heap.size + 1, 0, none⟩) 0 0) 0 [] := (by
        have := (own_empty (w6.alloc (.cells #[.int .i64 0, .int .i64 0, .int .i64 0, .int .i64 0] 26))).drew
        rw [alloc_size] at this
        exact this.mono (by omega))
      have hZ2 : Blk ((w6.alloc (.cells #[] 5)).alloc (.cells #[.int .i64 0, .int .i64 0, .int .i64 0, .int .i64 0] 26)).drew (w6.heap.size + 1) 26 #[.int .i64 0, .int .i64 0, .int .i64 0, .int .i64 0] := (by
        have := (Blk.new (w6.alloc (.cells #[] 5)) 26 #[.int .i64 0, .int .i64 0, .int .i64 0, .int .i64 0]).drew
        rw [alloc_size] at this
        exact this)
      have hZ3 : Blk ((w6.alloc (.cells #[.int .i64 0, .int .i64 0, .int .i64 0, .int .i64 0] 26)).alloc (.cells #[] 5)).drew w6.heap.size 26 #[.int .i64 0, .int .i64 0, .int .i64 0, .int .i64 0] := ((Blk.new w6 _ _).alloc _).drew
      have hR1 := (HX.out _ (hoc.trans hW1 (by simp))).2.2.2.1
      have hR2 := (HX.out _ (hoc.trans hW2 (by simp))).2.2.2.1
      have hR3 := (HX.out _ (hoc.trans hW3 (by simp))).2.2.2.1
      have HW := Lib.hid (And.intro hW1 (And.intro hW2 hW3))
      have HZ := Lib.hid (And.intro hZ2 hZ3)
      have hN2 : w6.heap.size + 1 ∉ ownL (.slice (some ⟨w6.heap.size, 0, none⟩) 0 0) := (by simp [ownL, Value.ownBlock])
      have hN3 : w6.heap.size ∉ ownL (.slice (some ⟨w6.heap.size + 1, 0, none⟩) 0 0) := (by simp [ownL, Value.ownBlock])
      have HN := Lib.hid (And.intro hN2 hN3)
      clear hW1 hW2 hW3 hZ2 hZ3 hN2 hN3
      go_cut [11, 12] (fun sp sb wx => ∃ q, sp = .pointer (some ⟨q, 0, none⟩) ∧ sb = .bool false ∧ w6.heap.size ≤ q ∧ Blk wx q 26 #[.int .i64 0, .int .i64 0, .int .i64 0, .int .i64 0] ∧ Only [] w6 wx)
      case first =>
        go_region_law (first
          | (refine step_append_bytes (w := (w6.alloc (.cells #[] 5)).drew) rfl (.tmp 49) (.tmp 51) rfl rfl hE1 rfl hR1 (by decide) HW.out.1.size ?_; intro v1 wd hv1 hon1 hfr1; have hoX1 := HW.out.1.trans hon1 (fun g hg => .inr (hE1.lt g hg).1); have hT1 := (HX.out wd (hoc.trans hoX1 (by simp))).2.2.1; have hs1 := hoX1.size)
          | (refine step_append_bytes (w := ((w6.alloc (.cells #[] 5)).alloc (.cells #[.int .i64 0, .int .i64 0, .int .i64 0, .int .i64 0] 26)).drew) rfl (.tmp 49) (.tmp 51) rfl rfl hE2 rfl hR2 (by decide) HW.out.2.1.size ?_; intro v1 wd hv1 hon1 hfr1; have hoX1 := HW.out.2.1.trans hon1 (fun g hg => .inr (hE2.lt g hg).1); have hT1 := (HX.out wd (hoc.trans hoX1 (by simp))).2.2.1; have hs1 := hoX1.size; have hZ := HZ.out.1.only hon1 HN.out.1; have hZn := fun hg => (hfr1 _ hg).elim HN.out.1 (fun h => absurd h (Nat.not_le_of_lt HZ.out.1.lt)))
          | (refine step_append_bytes (w := ((w6.alloc (.cells #[.int .i64 0, .int .i64 0, .int .i64 0, .int .i64 0] 26)).alloc (.cells #[] 5)).drew) rfl (.tmp 49) (.tmp 51) rfl rfl hE3 rfl hR3 (by decide) HW.out.2.2.size ?_; intro v1 wd hv1 hon1 hfr1; have hoX1 := HW.out.2.2.trans hon1 (fun g hg => .inr (hE3.lt g hg).1); have hT1 := (HX.out wd (hoc.trans hoX1 (by simp))).2.2.1; have hs1 := hoX1.size; have hZ := HZ.out.2.only hon1 HN.out.2; have hZn := fun hg => (hfr1 _ hg).elim HN.out.2 (fun h => absurd h (Nat.not_le_of_lt HZ.out.2.lt)))
          | (refine step_append_bytes (w := wd) rfl (.tmp 52) (.tmp 54) rfl rfl hv1 rfl hT1 (by decide) hs1 ?_; intro v2 w2 ho2 hon2 hfr2; have hoX2 := hoX1.trans hon2 (fun g hg => .inr (hv1.lt g hg).1); obtain ⟨A2, cap2, rfl, hc2, hm2, hr2, _⟩ := ho2.shape; try (have hZ := hZ.only hon2 hZn))
          | (refine step_append_bytes (w := wd.alloc (.cells #[.int .i64 0, .int .i64 0, .int .i64 0, .int .i64 0] 26)) rfl (.tmp 52) (.tmp 54) rfl rfl (hv1.alloc _) rfl (hT1.only ((Only.refl [] wd).alloc _) (by simp)) (by decide) (by simp; omega) ?_; intro v2 w2 ho2 hon2 hfr2; have hoX2 := (hoX1.alloc (.cells #[.int .i64 0, .int .i64 0, .int .i64 0, .int .i64 0] 26)).trans hon2 (fun g hg => .inr (hv1.lt g hg).1); obtain ⟨A2, cap2, rfl, hc2, hm2, hr2, _⟩ := ho2.shape; have hZ := (Blk.new wd 26 #[.int .i64 0, .int .i64 0, .int .i64 0, .int .i64 0]).only hon2 (fun hg => by have := (hv1.lt _ hg).2; omega))
          | (go_simp; go_at_call 12; refine (HG2.out _ cap2 w2 hr2 hc2 hm2).mono ?_; rintro _ w3 ⟨rfl, ho3⟩; have hoX3 := hoX2.trans ho3 (by simp); try (have hZ := hZ.only ho3 (by simp); have z0 := hZ.cell 0; have z1 := hZ.cell 1; have z2 := hZ.cell 2; have z3 := hZ.cell 3; have y0 := hZ.frozen 0; have y1 := hZ.frozen 1; have y2 := hZ.frozen 2; have y3 := hZ.frozen 3))
          | (go_simp; go_at_call 12; refine (HG2.out _ cap2 (w2.alloc (.cells #[.int .i64 0, .int .i64 0, .int .i64 0, .int .i64 0] 26)) ((hr2.only ((Only.refl [] w2).alloc _) (by simp)).more (by simp)) hc2 hm2).mono ?_; rintro _ w3 ⟨rfl, ho3⟩; have hoX3 := (hoX2.alloc (.cells #[.int .i64 0, .int .i64 0, .int .i64 0, .int .i64 0] 26)).trans ho3 (by simp); have hZ := (Blk.new w2 26 #[.int .i64 0, .int .i64 0, .int .i64 0, .int .i64 0]).only ho3 (by simp); have z0 := hZ.cell 0; have z1 := hZ.cell 1; have z2 := hZ.cell 2; have z3 := hZ.cell 3; have y0 := hZ.frozen 0; have y1 := hZ.frozen 1; have y2 := hZ.frozen 2; have y3 := hZ.frozen 3)
          | fail)
        all_goals
          go_wp2_with fail
          go_meet
          have q1 := hoX1.size
          have q2 := hoX2.size
          have q3 := hoX3.size
          first
            | exact ⟨_, rfl, rfl, (by first | omega | (simp; omega)), blk4 hZ _ _ _ _, only4 hoX3 (by first | omega | (simp; omega)) _ _ _ _⟩
            | exact ⟨_, rfl, rfl, (by first | omega | (simp; omega)), Blk.new _ _ _, hoX3.alloc _⟩
      case rest =>
        obtain ⟨q7, rfl, rfl, hq7, hb7, hoc7⟩ := hcut
        have hb67 := hb6.only hoc7 (by simp)
        obtain ⟨oF, ⟨m0, m1, m2, m3⟩, ⟨n0, n1, n2, n3⟩⟩ := HC.out wc ((hoB.trans hoc (by simp)).trans hoc7 (by simp))
        have u0 := hb67.cell 0
        have u1 := hb67.cell 1
        have u2 := hb67.cell 2
        have u3 := hb67.cell 3
        have v0 := hb7.cell 0
        have v1 := hb7.cell 1
        have v2 := hb7.cell 2
        have v3 := hb7.cell 3
        clear HX HG1 HG2 hb67 hb7 hb6
        have hdd : (¬ mk = ok) ∨ (mk = ok ∧ ¬ mg = og) ∨ (mk = ok ∧ mg = og ∧ ¬ ms = os) ∨ (mk = ok ∧ mg = og ∧ ms = os ∧ ¬ mn = on) := by
          have := HDF.out
          omega
        clear HDF
        rcases hdd with hnq | ⟨rfl, hnq⟩ | ⟨rfl, rfl, hnq⟩ | ⟨rfl, rfl, rfl, hnq⟩
        all_goals
          have hbq := beq_eq_false_iff_ne.2 hnq
          go_wp2_with (go_at_call 11; refine (HK.out wc).mono ?_; rintro _ wk ⟨rfl, hok⟩)
          go_ret
          exact ⟨by simp, oF.trans hok (by simp)⟩
end Go.Proofs.Ytbeenfkmnchhbaa.Frame
