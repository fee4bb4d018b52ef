/- FrameTorn, walked: where a sector is none. (Printed by gen_torn.py.) -/
import Derived.Test.YtbeenfkmnchhbaaFrameTornT
namespace Go.Proofs.Ytbeenfkmnchhbaa.Frame
open Go.RowKit Codec
set_option linter.unusedVariables false
set_option maxRecDepth 100000
set_option maxHeartbeats 1000000 in
theorem torn_nf (mk mg ms mn ok og os on : Int) (w : World) (hm : ¬ (⟨mk, mg, ms, mn⟩ : Mark).right) :
    Calls Try.prog 4 #[.agg #[.int .i64 mk, .int .i64 mg, .int .i64 ms, .int .i64 mn], .agg #[.int .i64 ok, .int .i64 og, .int .i64 os, .int .i64 on], .bool false] w fun x w' => x = .returned (.bool true) ∧ Only [] w w' := by
  have HK := Lib.hid knows_any
  have hb1 := (Blk.new w 23 #[.int .i64 mk, .int .i64 mg, .int .i64 ms, .int .i64 mn]).alloc (.cells #[.int .i64 ok, .int .i64 og, .int .i64 os, .int .i64 on] 23)
  have hb2 := Blk.new (w.alloc (.cells #[.int .i64 mk, .int .i64 mg, .int .i64 ms, .int .i64 mn] 23)) 23 #[.int .i64 ok, .int .i64 og, .int .i64 os, .int .i64 on]
  rw [alloc_size] at hb2
  have hO : Only [] w ((w.alloc (.cells #[.int .i64 mk, .int .i64 mg, .int .i64 ms, .int .i64 mn] 23)).alloc (.cells #[.int .i64 ok, .int .i64 og, .int .i64 os, .int .i64 on] 23)) := ((Only.refl [] w).alloc _).alloc _
  have hP := fun w => put_any ⟨mk, mg, ms, mn⟩ w
  have hQ := fun w => put_any ⟨ok, og, os, on⟩ w
  have hMv : (⟨mk, mg, ms, mn⟩ : Mark).val = .agg #[.int .i64 mk, .int .i64 mg, .int .i64 ms, .int .i64 mn] := rfl
  have hOv : (⟨ok, og, os, on⟩ : Mark).val = .agg #[.int .i64 ok, .int .i64 og, .int .i64 os, .int .i64 on] := rfl
  rw [hMv] at hP
  rw [hOv] at hQ
  have hpm : putB ⟨mk, mg, ms, mn⟩ = [] := if_neg hm
  rw [hpm, List.length_nil] at hP
  clear hpm
  generalize putB ⟨ok, og, os, on⟩ = PB at *
  have HP := Lib.hid hP
  have HQ := Lib.hid hQ
  clear hP hQ hMv hOv
  go_enter Try.func4, Try.ntmps4
  go_wp2_with fail
  obtain ⟨w1, hw1⟩ : ∃ w1, (w.alloc (.cells #[.int .i64 mk, .int .i64 mg, .int .i64 ms, .int .i64 mn] 23)).alloc (.cells #[.int .i64 ok, .int .i64 og, .int .i64 os, .int .i64 on] 23) = w1 := ⟨_, rfl⟩
  rw [hw1] at hb1 hb2 hO ⊢
  clear hw1
  have hc : ∀ w', Only [] w1 w' → Only [] w w' ∧ (w'.cell? ⟨w.heap.size, 0, none⟩ = some (.int .i64 mk) ∧ w'.cell? ⟨w.heap.size, 1, none⟩ = some (.int .i64 mg) ∧ w'.cell? ⟨w.heap.size, 2, none⟩ = some (.int .i64 ms) ∧ w'.cell? ⟨w.heap.size, 3, none⟩ = some (.int .i64 mn)) ∧
      (w'.cell? ⟨w.heap.size + 1, 0, none⟩ = some (.int .i64 ok) ∧ w'.cell? ⟨w.heap.size + 1, 1, none⟩ = some (.int .i64 og) ∧ w'.cell? ⟨w.heap.size + 1, 2, none⟩ = some (.int .i64 os) ∧ w'.cell? ⟨w.heap.size + 1, 3, none⟩ = some (.int .i64 on)) := fun w' h =>
    ⟨hO.trans h (by simp), ⟨(hb1.only h (by simp)).cell 0, (hb1.only h (by simp)).cell 1, (hb1.only h (by simp)).cell 2, (hb1.only h (by simp)).cell 3⟩, ⟨(hb2.only h (by simp)).cell 0, (hb2.only h (by simp)).cell 1, (hb2.only h (by simp)).cell 2, (hb2.only h (by simp)).cell 3⟩⟩
  have HC := Lib.hid hc
  clear hc hb1 hb2 hO
  obtain ⟨_, ⟨x0, x1, x2, x3⟩, ⟨y0, y1, y2, y3⟩⟩ := HC.out w1 (Only.refl _ _)
  have HOD : Hid (Only [] w1 w1.drew) := (Only.refl _ _).drew
  go_region_held (fun w' => w'.cell? ⟨w.heap.size, 0, none⟩ = some (.int .i64 mk) ∧ w'.cell? ⟨w.heap.size, 1, none⟩ = some (.int .i64 mg) ∧ w'.cell? ⟨w.heap.size, 2, none⟩ = some (.int .i64 ms) ∧ w'.cell? ⟨w.heap.size, 3, none⟩ = some (.int .i64 mn) ∧ w'.cell? ⟨w.heap.size + 1, 0, none⟩ = some (.int .i64 ok) ∧ w'.cell? ⟨w.heap.size + 1, 1, none⟩ = some (.int .i64 og) ∧ w'.cell? ⟨w.heap.size + 1, 2, none⟩ = some (.int .i64 os) ∧ w'.cell? ⟨w.heap.size + 1, 3, none⟩ = some (.int .i64 on)) (first | go_keep | (refine ⟨?_, ?_, ?_, ?_, ?_, ?_, ?_, ?_⟩ <;> assumption)) ((first
    | (go_at_call 14; refine (HQ.out wa).mono ?_; rintro _ wb ⟨vb, rfl, hvb, hob⟩; have hob1 := hoa1.trans hob (by simp); obtain ⟨o2, ⟨g0, g1, g2, g3⟩, ⟨h0, h1, h2, h3⟩⟩ := HC.out wb hob1; obtain ⟨Ab, capb, rfl, hcb, hmb, hrb, _⟩ := hvb.shape; have hrA := (hra.only hob (by simp)).more hob.size)
    | (go_at_call 14; refine (HP.out w1.drew).mono ?_; rintro _ wa ⟨va, rfl, hva, hoa⟩; have hoa1 := HOD.out.trans hoa (by simp); obtain ⟨o1, ⟨d0, d1, d2, d3⟩, ⟨e0, e1, e2, e3⟩⟩ := HC.out wa hoa1; obtain ⟨Aa, capa, rfl, hca, hma, hra, _⟩ := hva.shape)))
  all_goals
    go_wp2_with (first
      | (go_at_call 16; refine (rright_is ⟨mk, mg, ms, mn⟩ false _ (decide_eq_false hm)).mono ?_; rintro _ wr ⟨rfl, hor⟩)
      | (go_at_call 11; refine (HK.out wr).mono ?_; rintro _ wk ⟨rfl, hok⟩))
    go_ret
    exact ⟨by simp, (o2.trans hor (by simp)).trans hok (by simp)⟩
set_option maxHeartbeats 1000000 in
theorem torn_nt (mk mg ms mn ok og os on : Int) (w : World) (hm : ¬ (⟨mk, mg, ms, mn⟩ : Mark).right) :
    Calls Try.prog 4 #[.agg #[.int .i64 mk, .int .i64 mg, .int .i64 ms, .int .i64 mn], .agg #[.int .i64 ok, .int .i64 og, .int .i64 os, .int .i64 on], .bool true] w fun x w' => x = .returned (.bool true) ∧ Only [] w w' := by
  have HK := Lib.hid knows_any
  have hb1 := (Blk.new w 23 #[.int .i64 mk, .int .i64 mg, .int .i64 ms, .int .i64 mn]).alloc (.cells #[.int .i64 ok, .int .i64 og, .int .i64 os, .int .i64 on] 23)
  have hb2 := Blk.new (w.alloc (.cells #[.int .i64 mk, .int .i64 mg, .int .i64 ms, .int .i64 mn] 23)) 23 #[.int .i64 ok, .int .i64 og, .int .i64 os, .int .i64 on]
  rw [alloc_size] at hb2
  have hO : Only [] w ((w.alloc (.cells #[.int .i64 mk, .int .i64 mg, .int .i64 ms, .int .i64 mn] 23)).alloc (.cells #[.int .i64 ok, .int .i64 og, .int .i64 os, .int .i64 on] 23)) := ((Only.refl [] w).alloc _).alloc _
  have hP := fun w => put_any ⟨mk, mg, ms, mn⟩ w
  have hQ := fun w => put_any ⟨ok, og, os, on⟩ w
  have hMv : (⟨mk, mg, ms, mn⟩ : Mark).val = .agg #[.int .i64 mk, .int .i64 mg, .int .i64 ms, .int .i64 mn] := rfl
  have hOv : (⟨ok, og, os, on⟩ : Mark).val = .agg #[.int .i64 ok, .int .i64 og, .int .i64 os, .int .i64 on] := rfl
  rw [hMv] at hP
  rw [hOv] at hQ
  have hpm : putB ⟨mk, mg, ms, mn⟩ = [] := if_neg hm
  rw [hpm, List.length_nil] at hP
  clear hpm
  generalize putB ⟨ok, og, os, on⟩ = PB at *
  have HP := Lib.hid hP
  have HQ := Lib.hid hQ
  clear hP hQ hMv hOv
  go_enter Try.func4, Try.ntmps4
  go_wp2_with fail
  obtain ⟨w1, hw1⟩ : ∃ w1, (w.alloc (.cells #[.int .i64 mk, .int .i64 mg, .int .i64 ms, .int .i64 mn] 23)).alloc (.cells #[.int .i64 ok, .int .i64 og, .int .i64 os, .int .i64 on] 23) = w1 := ⟨_, rfl⟩
  rw [hw1] at hb1 hb2 hO ⊢
  clear hw1
  have hc : ∀ w', Only [] w1 w' → Only [] w w' ∧ (w'.cell? ⟨w.heap.size, 0, none⟩ = some (.int .i64 mk) ∧ w'.cell? ⟨w.heap.size, 1, none⟩ = some (.int .i64 mg) ∧ w'.cell? ⟨w.heap.size, 2, none⟩ = some (.int .i64 ms) ∧ w'.cell? ⟨w.heap.size, 3, none⟩ = some (.int .i64 mn)) ∧
      (w'.cell? ⟨w.heap.size + 1, 0, none⟩ = some (.int .i64 ok) ∧ w'.cell? ⟨w.heap.size + 1, 1, none⟩ = some (.int .i64 og) ∧ w'.cell? ⟨w.heap.size + 1, 2, none⟩ = some (.int .i64 os) ∧ w'.cell? ⟨w.heap.size + 1, 3, none⟩ = some (.int .i64 on)) := fun w' h =>
    ⟨hO.trans h (by simp), ⟨(hb1.only h (by simp)).cell 0, (hb1.only h (by simp)).cell 1, (hb1.only h (by simp)).cell 2, (hb1.only h (by simp)).cell 3⟩, ⟨(hb2.only h (by simp)).cell 0, (hb2.only h (by simp)).cell 1, (hb2.only h (by simp)).cell 2, (hb2.only h (by simp)).cell 3⟩⟩
  have HC := Lib.hid hc
  clear hc hb1 hb2 hO
  obtain ⟨_, ⟨x0, x1, x2, x3⟩, ⟨y0, y1, y2, y3⟩⟩ := HC.out w1 (Only.refl _ _)
  have HOD : Hid (Only [] w1 w1.drew) := (Only.refl _ _).drew
  go_region_held (fun w' => w'.cell? ⟨w.heap.size, 0, none⟩ = some (.int .i64 mk) ∧ w'.cell? ⟨w.heap.size, 1, none⟩ = some (.int .i64 mg) ∧ w'.cell? ⟨w.heap.size, 2, none⟩ = some (.int .i64 ms) ∧ w'.cell? ⟨w.heap.size, 3, none⟩ = some (.int .i64 mn) ∧ w'.cell? ⟨w.heap.size + 1, 0, none⟩ = some (.int .i64 ok) ∧ w'.cell? ⟨w.heap.size + 1, 1, none⟩ = some (.int .i64 og) ∧ w'.cell? ⟨w.heap.size + 1, 2, none⟩ = some (.int .i64 os) ∧ w'.cell? ⟨w.heap.size + 1, 3, none⟩ = some (.int .i64 on)) (first | go_keep | (refine ⟨?_, ?_, ?_, ?_, ?_, ?_, ?_, ?_⟩ <;> assumption)) ((first
    | (go_at_call 14; refine (HQ.out wa).mono ?_; rintro _ wb ⟨vb, rfl, hvb, hob⟩; have hob1 := hoa1.trans hob (by simp); obtain ⟨o2, ⟨g0, g1, g2, g3⟩, ⟨h0, h1, h2, h3⟩⟩ := HC.out wb hob1; obtain ⟨Ab, capb, rfl, hcb, hmb, hrb, _⟩ := hvb.shape; have hrA := (hra.only hob (by simp)).more hob.size)
    | (go_at_call 14; refine (HP.out w1.drew).mono ?_; rintro _ wa ⟨va, rfl, hva, hoa⟩; have hoa1 := HOD.out.trans hoa (by simp); obtain ⟨o1, ⟨d0, d1, d2, d3⟩, ⟨e0, e1, e2, e3⟩⟩ := HC.out wa hoa1; obtain ⟨Aa, capa, rfl, hca, hma, hra, _⟩ := hva.shape)))
  all_goals
    obtain ⟨i0, hi0, hz0, hz1, hz2⟩ := info_parts byte_info
    go_wp2_with (first
      | (at_make; refine wpList_make_full wb rfl _ _ 24 rfl wb.heap.size 5 i0 _ 1 Try.underlying24 hi0 hz0 hz1 _ _ _ _ 64 rfl rfl rfl rfl (by rw [hz2]; decide) (by decide) (Nat.le_refl _) ?_; intro wB hmk hgk; have hgo : Only [] wb wB := Only.of_grown hgk; have HF := HC.out wB (hob1.trans hgo (by simp)); obtain ⟨oF, ⟨m0, m1, m2, m3⟩, ⟨n0, n1, n2, n3⟩⟩ := HF)
      | (go_at_call 16; refine (rright_is ⟨mk, mg, ms, mn⟩ false _ (decide_eq_false hm)).mono ?_; rintro _ wr ⟨rfl, hor⟩)
      | (go_at_call 11; refine (HK.out wr).mono ?_; rintro _ wk ⟨rfl, hok⟩))
    go_ret
    exact ⟨by simp, (oF.trans hor (by simp)).trans hok (by simp)⟩
set_option maxHeartbeats 1000000 in
theorem torn_no (mk mg ms mn ok og os on : Int) (w : World) (hm : (⟨mk, mg, ms, mn⟩ : Mark).right) (ho : ¬ (⟨ok, og, os, on⟩ : Mark).right) :
    Calls Try.prog 4 #[.agg #[.int .i64 mk, .int .i64 mg, .int .i64 ms, .int .i64 mn], .agg #[.int .i64 ok, .int .i64 og, .int .i64 os, .int .i64 on], .bool false] w fun x w' => x = .returned (.bool true) ∧ Only [] w w' := by
  have HK := Lib.hid knows_any
  have hb1 := (Blk.new w 23 #[.int .i64 mk, .int .i64 mg, .int .i64 ms, .int .i64 mn]).alloc (.cells #[.int .i64 ok, .int .i64 og, .int .i64 os, .int .i64 on] 23)
  have hb2 := Blk.new (w.alloc (.cells #[.int .i64 mk, .int .i64 mg, .int .i64 ms, .int .i64 mn] 23)) 23 #[.int .i64 ok, .int .i64 og, .int .i64 os, .int .i64 on]
  rw [alloc_size] at hb2
  have hO : Only [] w ((w.alloc (.cells #[.int .i64 mk, .int .i64 mg, .int .i64 ms, .int .i64 mn] 23)).alloc (.cells #[.int .i64 ok, .int .i64 og, .int .i64 os, .int .i64 on] 23)) := ((Only.refl [] w).alloc _).alloc _
  have hP := fun w => put_any ⟨mk, mg, ms, mn⟩ w
  have hQ := fun w => put_any ⟨ok, og, os, on⟩ w
  have hMv : (⟨mk, mg, ms, mn⟩ : Mark).val = .agg #[.int .i64 mk, .int .i64 mg, .int .i64 ms, .int .i64 mn] := rfl
  have hOv : (⟨ok, og, os, on⟩ : Mark).val = .agg #[.int .i64 ok, .int .i64 og, .int .i64 os, .int .i64 on] := rfl
  rw [hMv] at hP
  rw [hOv] at hQ
  have hpm : putB ⟨mk, mg, ms, mn⟩ = halfB ⟨mk, mg, ms, mn⟩ ++ halfB ⟨mk, mg, ms, mn⟩ := if_pos hm
  have hlm : (halfB ⟨mk, mg, ms, mn⟩ ++ halfB ⟨mk, mg, ms, mn⟩).length = 64 := by rw [List.length_append, halfB_len]
  rw [hpm, hlm] at hP
  clear hpm hlm
  have hpo : putB ⟨ok, og, os, on⟩ = [] := if_neg ho
  rw [hpo, List.length_nil] at hQ
  clear hpo
  generalize halfB ⟨mk, mg, ms, mn⟩ = HA at *
  have HP := Lib.hid hP
  have HQ := Lib.hid hQ
  clear hP hQ hMv hOv
  go_enter Try.func4, Try.ntmps4
  go_wp2_with fail
  obtain ⟨w1, hw1⟩ : ∃ w1, (w.alloc (.cells #[.int .i64 mk, .int .i64 mg, .int .i64 ms, .int .i64 mn] 23)).alloc (.cells #[.int .i64 ok, .int .i64 og, .int .i64 os, .int .i64 on] 23) = w1 := ⟨_, rfl⟩
  rw [hw1] at hb1 hb2 hO ⊢
  clear hw1
  have hc : ∀ w', Only [] w1 w' → Only [] w w' ∧ (w'.cell? ⟨w.heap.size, 0, none⟩ = some (.int .i64 mk) ∧ w'.cell? ⟨w.heap.size, 1, none⟩ = some (.int .i64 mg) ∧ w'.cell? ⟨w.heap.size, 2, none⟩ = some (.int .i64 ms) ∧ w'.cell? ⟨w.heap.size, 3, none⟩ = some (.int .i64 mn)) ∧
      (w'.cell? ⟨w.heap.size + 1, 0, none⟩ = some (.int .i64 ok) ∧ w'.cell? ⟨w.heap.size + 1, 1, none⟩ = some (.int .i64 og) ∧ w'.cell? ⟨w.heap.size + 1, 2, none⟩ = some (.int .i64 os) ∧ w'.cell? ⟨w.heap.size + 1, 3, none⟩ = some (.int .i64 on)) := fun w' h =>
    ⟨hO.trans h (by simp), ⟨(hb1.only h (by simp)).cell 0, (hb1.only h (by simp)).cell 1, (hb1.only h (by simp)).cell 2, (hb1.only h (by simp)).cell 3⟩, ⟨(hb2.only h (by simp)).cell 0, (hb2.only h (by simp)).cell 1, (hb2.only h (by simp)).cell 2, (hb2.only h (by simp)).cell 3⟩⟩
  have HC := Lib.hid hc
  clear hc hb1 hb2 hO
  obtain ⟨_, ⟨x0, x1, x2, x3⟩, ⟨y0, y1, y2, y3⟩⟩ := HC.out w1 (Only.refl _ _)
  have HOD : Hid (Only [] w1 w1.drew) := (Only.refl _ _).drew
  go_region_held (fun w' => w'.cell? ⟨w.heap.size, 0, none⟩ = some (.int .i64 mk) ∧ w'.cell? ⟨w.heap.size, 1, none⟩ = some (.int .i64 mg) ∧ w'.cell? ⟨w.heap.size, 2, none⟩ = some (.int .i64 ms) ∧ w'.cell? ⟨w.heap.size, 3, none⟩ = some (.int .i64 mn) ∧ w'.cell? ⟨w.heap.size + 1, 0, none⟩ = some (.int .i64 ok) ∧ w'.cell? ⟨w.heap.size + 1, 1, none⟩ = some (.int .i64 og) ∧ w'.cell? ⟨w.heap.size + 1, 2, none⟩ = some (.int .i64 os) ∧ w'.cell? ⟨w.heap.size + 1, 3, none⟩ = some (.int .i64 on)) (first | go_keep | (refine ⟨?_, ?_, ?_, ?_, ?_, ?_, ?_, ?_⟩ <;> assumption)) ((first
    | (go_at_call 14; refine (HQ.out wa).mono ?_; rintro _ wb ⟨vb, rfl, hvb, hob⟩; have hob1 := hoa1.trans hob (by simp); obtain ⟨o2, ⟨g0, g1, g2, g3⟩, ⟨h0, h1, h2, h3⟩⟩ := HC.out wb hob1; obtain ⟨Ab, capb, rfl, hcb, hmb, hrb, _⟩ := hvb.shape; have hrA := (hra.only hob (by simp)).more hob.size)
    | (go_at_call 14; refine (HP.out w1.drew).mono ?_; rintro _ wa ⟨va, rfl, hva, hoa⟩; have hoa1 := HOD.out.trans hoa (by simp); obtain ⟨o1, ⟨d0, d1, d2, d3⟩, ⟨e0, e1, e2, e3⟩⟩ := HC.out wa hoa1; obtain ⟨Aa, capa, rfl, hca, hma, hra, _⟩ := hva.shape)))
  all_goals
    go_wp2_with (first
      | (go_at_call 16; refine (rright_is ⟨mk, mg, ms, mn⟩ true _ (decide_eq_true hm)).mono ?_; rintro _ wr ⟨rfl, hor⟩)
      | (go_at_call 11; refine (HK.out wr).mono ?_; rintro _ wk ⟨rfl, hok⟩))
    go_ret
    exact ⟨by simp, (o2.trans hor (by simp)).trans hok (by simp)⟩
end Go.Proofs.Ytbeenfkmnchhbaa.Frame
