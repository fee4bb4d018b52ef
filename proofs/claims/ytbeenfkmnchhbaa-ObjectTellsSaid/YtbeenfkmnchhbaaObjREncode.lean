/- An object as bytes, by the document: Encode. -/
import Derived.Test.YtbeenfkmnchhbaaObjRBytes
namespace Go.Proofs.Ytbeenfkmnchhbaa.Object
open Go.RowKit Codec
set_option linter.unusedVariables false
set_option maxRecDepth 100000
set_option maxHeartbeats 1000000 in
theorem rencode_any (o : Ob) (d : OD) (w : World) (h : IsOb w o d) (hm : o.m1 ≤ 1000000 ∧ o.m2 ≤ 1000000 ∧ o.m3 ≤ 1000000) :
    Calls Try.prog 37 #[o.val] w fun x w' => encOut d w x w' := by
  have hR := fun w' (ho : Only [] w w') => rright_any o d w' (h.only ho) (by omega) (by omega) (by omega)
  have hB := fun (hr : objRight d = true) w' (ho : Only [] w w') => rbytes_any o d w' (h.only ho) hr
  obtain ⟨A1, m1, p1, A2, m2, p2, A3, m3, p3⟩ := o
  unfold Ob.val at hR hB ⊢
  simp only at hR hB hm ⊢
  have ho1 : Only [] w (w.alloc (.cells #[.slice A1 m1 p1, .slice A2 m2 p2, .slice A3 m3 p3] 57)) := (Only.refl _ _).alloc _
  have hbx := Blk.new w 57 #[.slice A1 m1 p1, .slice A2 m2 p2, .slice A3 m3 p3]
  have HR1 := Lib.hid (hR _ ho1)
  have HBX := Lib.hid hbx
  have HO1 := Lib.hid ho1
  unfold encOut
  cases hr : objRight d
  · rw [hr] at HR1
    have HIF := Lib.hid (enc_no hr)
    clear hR hB h hr ho1 hbx
    go_enter Try.func37, Try.ntmps37
    go_wp2_with (go_at_call 43; refine HR1.out.mono ?_; rintro x w2 ⟨rfl, ho⟩; have HO2 := Lib.hid (HO1.out.trans ho (by simp)))
    exact bodyPost_ret (v := .tuple #[.slice none 0 0, .int .i64 1]) (by simp [results, Try.results37, go_sem]) rfl (by rw [HIF.out.1, HIF.out.2]; exact ⟨none, 0, 0, rfl, Bytes.nil_, Nat.le_refl _, by simp [maxLen], HO2.out⟩)
  · rw [hr] at HR1
    have HB := Lib.hid (hB hr)
    have HRR := Lib.hid hr
    clear hR hB h hr ho1 hbx
    go_enter Try.func37, Try.ntmps37
    go_wp2_with (go_at_call 43; refine HR1.out.mono ?_; rintro x w2 ⟨rfl, ho⟩; have HO2 := Lib.hid (HO1.out.trans ho (by simp)); have hb2 := HBX.out.only ho (by simp); have x0 : w2.cell? ⟨w.heap.size, 0, none⟩ = some (.slice A1 m1 p1) := hb2.cell 0; have x1 : w2.cell? ⟨w.heap.size, 1, none⟩ = some (.slice A2 m2 p2) := hb2.cell 1; have x2 : w2.cell? ⟨w.heap.size, 2, none⟩ = some (.slice A3 m3 p3) := hb2.cell 2; clear hb2 ho)
    refine (HB.out w2 HO2.out).mono ?_
    rintro x w3 ⟨v3, rfl, h3⟩
    obtain ⟨A7, cap7, rfl, h71, h72, hr7⟩ := h3.shape
    have ho8 := HO2.out.trans h3.only0 (by simp)
    have HS := Lib.hid (And.intro hr7 (And.intro h71 (And.intro h72 ho8)))
    clear h3 h71 h72 hr7 ho8 HR1 HB HBX HO1
    by_cases hbig : (layO d).length ≤ 1048576
    · have d1 : decide ((1048576 : Int) < ((layO d).length : Int)) = false := decide_eq_false (by omega)
      have HIF := Lib.hid (enc_ok HRR.out hbig)
      clear hbig
      go_wp2_with fail
      exact bodyPost_ret (v := .tuple #[.slice A7 (layO d).length cap7, .int .i64 0]) (by simp [results, Try.results37, go_sem]) rfl (by rw [HIF.out.1, HIF.out.2]; exact ⟨A7, _, cap7, rfl, HS.out.1, HS.out.2.1, HS.out.2.2.1, HS.out.2.2.2⟩)
    · have d1 : decide ((1048576 : Int) < ((layO d).length : Int)) = true := decide_eq_true (by omega)
      have HIF := Lib.hid (enc_long HRR.out hbig)
      clear hbig
      go_wp2_with fail
      exact bodyPost_ret (v := .tuple #[.slice none 0 0, .int .i64 6]) (by simp [results, Try.results37, go_sem]) rfl (by rw [HIF.out.1, HIF.out.2]; exact ⟨none, 0, 0, rfl, Bytes.nil_, Nat.le_refl _, by simp [maxLen], HS.out.2.2.2⟩)
end Go.Proofs.Ytbeenfkmnchhbaa.Object
