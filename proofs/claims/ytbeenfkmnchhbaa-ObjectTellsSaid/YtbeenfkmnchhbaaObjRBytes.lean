/- An object as bytes, by the document. -/
import Derived.Test.YtbeenfkmnchhbaaObjRRight2
import Derived.Test.YtbeenfkmnchhbaaObjEncode
import Derived.Test.YtbeenfkmnchhbaaObjMath
import Derived.Test.YtbeenfkmnchhbaaObjBack
import Derived.Test.YtbeenfkmnchhbaaBuf
import Derived.Deep.RegionHeld3
namespace Go.Proofs.Ytbeenfkmnchhbaa.Codec
open Go.RowKit
set_option linter.unusedVariables false
/-- all blocks but bytes are as they were -/
def KeptB (w w' : World) : Prop := ∀ g t cs, Blk w g t cs → 5 ≠ t → Blk w' g t cs
section
variable {w0 w w' : World} {v : Value} {N : Nat} {l : List UInt8}
theorem kept_ext {v' : Value} {n n' base : Nat} {l' : List UInt8} (h : OwnB w base v n l) (hE : Ext w w' base v v' n' l') : KeptB w w' := fun _ _ _ hb ht => hb.only hE.only (h.ne_blk hb ht)
theorem small_bk (h : BI w0 w v N l) (z : Int) (hN : N + 2 ≤ 140737488355328) :
    Calls Try.prog 113 #[v, .int .i64 z] w fun e w' => ∃ v', e = .returned v' ∧ BI w0 w' v' (N + 2) (l ++ le (clamp z) 2) ∧ KeptB w w' := by
  obtain ⟨n, hn, h1, h2⟩ := h
  refine (ref_small v n _ l z w h1 h2.size (by omega)).mono ?_
  rintro e w' ⟨v', rfl, hE⟩
  exact ⟨v', rfl, bi_ext h1 h2 hE (by omega), kept_ext h1 hE⟩
end
end Go.Proofs.Ytbeenfkmnchhbaa.Codec
namespace Go.Proofs.Ytbeenfkmnchhbaa.Object
open Go.RowKit Codec
set_option linter.unusedVariables false
set_option maxRecDepth 100000
set_option maxHeartbeats 4000000 in
theorem rbytes_any (o : Ob) (d : OD) (w : World) (h : IsOb w o d) (hr : objRight d = true) :
    Calls Try.prog 80 #[o.val] w fun x w' => ∃ v, x = .returned v ∧ BI w w' v 600000000 (layO d) := by
  have hri := right_in hr
  have hm1 : o.m1 ≤ 32768 := by rw [← h.n1]; exact hri.n1
  have hm2 : o.m2 ≤ 4096 := by rw [← h.n2]; exact hri.n2
  have hm3 : o.m3 ≤ 4096 := by rw [← h.n3]; exact hri.n3
  have HL : Hid (layO d = smalls [(o.m1 : Int)] ++ d.code.flatMap layCd ++ smalls [(o.m2 : Int)] ++ d.ents.flatMap layEn ++ smalls [(o.m3 : Int)] ++ d.calls.flatMap layEn) := by unfold layO; rw [h.n1, h.n2, h.n3]; exact rfl
  have L1 := Lib.hid h.n1
  have L2 := Lib.hid h.n2
  have L3 := Lib.hid h.n3
  have HC1 := Lib.hid hri.code
  have HC2 := Lib.hid hri.ents
  have HC3 := Lib.hid hri.calls
  have HH := Lib.hid h
  clear h hri hr
  obtain ⟨A1, m1, p1, A2, m2, p2, A3, m3, p3⟩ := o
  unfold Ob.val
  simp only at hm1 hm2 hm3 HL L1 L2 L3 ⊢
  have ho : Only [] w (w.alloc (.cells #[.slice A1 m1 p1, .slice A2 m2 p2, .slice A3 m3 p3] 57)) := (Only.refl [] w).alloc _
  have HI := Lib.hid (HH.out.only ho)
  have hb0 := small_bi (BI.nil_ (w.alloc (.cells #[.slice A1 m1 p1, .slice A2 m2 p2, .slice A3 m3 p3] 57))) (m1 : Int) (by omega)
  have HBX := Lib.hid (Blk.new w 57 #[.slice A1 m1 p1, .slice A2 m2 p2, .slice A3 m3 p3])
  have HB0 := Lib.hid hb0
  have HO := Lib.hid ho
  clear hb0 ho HH
  go_enter Try.func80, Try.ntmps80
  go_wp2_with (go_at_call 113; refine HB0.out.mono ?_; rintro x w1 ⟨v1, rfl, h1⟩)
  generalize hbx : w.heap.size = bx at *
  have HSZ := Lib.hid hbx
  obtain ⟨wa, hwa⟩ : ∃ wa, (w.alloc (.cells #[.slice A1 m1 p1, .slice A2 m2 p2, .slice A3 m3 p3] 57)) = wa := ⟨_, rfl⟩
  have H1 := Lib.hid h1
  rw [hwa] at HI HBX HO H1
  clear hwa hbx HB0
  clear h1
  have hX : ∀ w', Only [] wa w' → w'.cell? ⟨bx, 0, none⟩ = some (.slice A1 m1 p1) ∧ w'.cell? ⟨bx, 1, none⟩ = some (.slice A2 m2 p2) ∧ w'.cell? ⟨bx, 2, none⟩ = some (.slice A3 m3 p3) := fun w' h => ⟨h.cell (HBX.out.cell 0) (by simp), h.cell (HBX.out.cell 1) (by simp), h.cell (HBX.out.cell 2) (by simp)⟩
  have HX := Lib.hid hX
  clear hX
  go_loopw [3, 4] (fun v i wr => ∃ k : Nat, k ≤ m1 ∧ i = .int .i64 k ∧ BI wa wr v (2 + 16 * k) (smalls [(m1 : Int)] ++ (d.code.take k).flatMap layCd)) (fun _ i _ => m1 - (intOf i).toNat)
  case atStart => exact ⟨0, by omega, rfl, by have := H1.out; simpa [smalls] using this⟩
  case round =>
    obtain ⟨k, hk, rfl, hv⟩ := hrel
    obtain ⟨x0, x1, x2⟩ := HX.out _ hv.only0
    by_cases hlt : k < m1
    · have e1 : decide ((k : Int) < (m1 : Int)) = true := decide_eq_true (by omega)
      obtain ⟨b, off, hA, hb, c, hmem, hsk, c0, c1, c2, c3, c4⟩ := cd_at HI.out.code k hlt
      simp only at hA hmem hsk
      subst hA
      have hci := HC1.out c hmem
      have HST : Hid (((d.code.take k).flatMap layCd) ++ layCd c = (d.code.take (k + 1)).flatMap layCd) := (flat_snoc layCd d.code k c hsk).symm
      have HLC := Lib.hid (layCd_eq c)
      obtain ⟨q1, q2, q3, q4⟩ := hci
      obtain ⟨op, ca, cb, cc, cn⟩ := c
      simp only at q1 q2 q3 q4 c0 c1 c2 c3 c4 HLC
      have y0 := hv.only0.cell c0 (by simp)
      have y1 := hv.only0.cell c1 (by simp)
      have y2 := hv.only0.cell c2 (by simp)
      have y3 := hv.only0.cell c3 (by simp)
      have y4 := hv.only0.cell c4 (by simp)
      have e2 : IntKind.i64.wrap (ca + 1) = ca + 1 := IntWalk.i64_in _ (by omega)
      have hg := Blk.new wr 59 #[.int .i64 op, .int .i64 ca, .int .i64 cb, .int .i64 cc, .int .i64 cn]
      have hva := (hv.alloc (.cells #[.int .i64 op, .int .i64 ca, .int .i64 cb, .int .i64 cc, .int .i64 cn] 59)).drew
      have HS1 := Lib.hid (small_bk hva op (by omega))
      have HG := Lib.hid hg
      clear c0 c1 c2 c3 c4 hmem hsk hg hv hva
      go_wp2_with fail
      obtain ⟨G, hG⟩ : ∃ G, wr.heap.size = G := ⟨_, rfl⟩
      obtain ⟨wg, hwg⟩ : ∃ wg, (wr.alloc (.cells #[.int .i64 op, .int .i64 ca, .int .i64 cb, .int .i64 cc, .int .i64 cn] 59)) = wg := ⟨_, rfl⟩
      rw [hG, hwg] at HG
      rw [hwg] at HS1
      rw [hG, hwg]
      clear hG hwg y0 y1 y2 y3 y4 x0 x1 x2
      have g0 : wg.drew.cell? ⟨G, 0, none⟩ = some (.int .i64 op) := HG.out.cell 0
      have g1 : wg.drew.cell? ⟨G, 1, none⟩ = some (.int .i64 ca) := HG.out.cell 1
      go_region_held (fun w' => w'.cell? ⟨G, 0, none⟩ = some (.int .i64 op) ∧ w'.cell? ⟨G, 1, none⟩ = some (.int .i64 ca)) (first | go_keep | (refine ⟨?_, ?_⟩ <;> assumption)) ((first
        | (go_at_call 113; refine (small_bk h2 (ca + 1) (by omega)).mono ?_; rintro x w3 ⟨v3, rfl, h3, k3⟩; have hg3 := k3 _ _ _ hg2 (by decide); have r0 : w3.cell? ⟨G, 0, none⟩ = some (.int .i64 op) := hg3.cell 0; have r1 : w3.cell? ⟨G, 1, none⟩ = some (.int .i64 ca) := hg3.cell 1)
        | (go_at_call 113; refine HS1.out.mono ?_; rintro x w2 ⟨v2, rfl, h2, k2⟩; have hg2 := k2 _ _ _ HG.out (by decide); have q0 : w2.cell? ⟨G, 0, none⟩ = some (.int .i64 op) := hg2.cell 0; have q1 : w2.cell? ⟨G, 1, none⟩ = some (.int .i64 ca) := hg2.cell 1)))
      have HG3 := Lib.hid hg3
      have H3 := Lib.hid h3
      clear hg3 hg2 h3 h2 k2 k3 q0 q1 r0 r1 g0 g1 HS1 HG
      have g2 : w3.drew.cell? ⟨G, 2, none⟩ = some (.int .i64 cb) := HG3.out.cell 2
      have g3 : w3.drew.cell? ⟨G, 3, none⟩ = some (.int .i64 cc) := HG3.out.cell 3
      have hs3 := small_bk H3.out.drew cb (by omega)
      have HS3 := Lib.hid hs3
      clear hs3
      go_wp2_with fail
      go_region_held (fun w' => w'.cell? ⟨G, 2, none⟩ = some (.int .i64 cb) ∧ w'.cell? ⟨G, 3, none⟩ = some (.int .i64 cc)) (first | go_keep | (refine ⟨?_, ?_⟩ <;> assumption)) ((first
        | (go_at_call 113; refine (small_bk h4 cc (by omega)).mono ?_; rintro x w5 ⟨v5, rfl, h5, k5⟩; have hg5 := k5 _ _ _ hg4 (by decide); have r2 : w5.cell? ⟨G, 2, none⟩ = some (.int .i64 cb) := hg5.cell 2; have r3 : w5.cell? ⟨G, 3, none⟩ = some (.int .i64 cc) := hg5.cell 3)
        | (go_at_call 113; refine HS3.out.mono ?_; rintro x w4 ⟨v4, rfl, h4, k4⟩; have hg4 := k4 _ _ _ HG3.out (by decide); have q2 : w4.cell? ⟨G, 2, none⟩ = some (.int .i64 cb) := hg4.cell 2; have q3 : w4.cell? ⟨G, 3, none⟩ = some (.int .i64 cc) := hg4.cell 3)))
      have g4 : w5.cell? ⟨G, 4, none⟩ = some (.int .i64 cn) := hg5.cell 4
      have hn5 := num_bi h5 cn (by omega)
      have HN5 := Lib.hid hn5
      clear hn5 hg5 hg4 h5 h4 k4 k5 q2 q3 r2 r3 g2 g3 HS3 HG3
      go_wp2_with (go_at_call 114; refine HN5.out.mono ?_; rintro x w6 ⟨v6, rfl, h6⟩)
      go_roundw
      case rel =>
        refine ⟨k + 1, by omega, by go_num, ?_⟩
        rw [← HST.out, HLC.out]
        simp only [← List.append_assoc]
        exact h6.mono (by omega)
      case measure => simp [intOf]; omega
    · obtain rfl : m1 = k := by omega
      have e1 : decide ((m1 : Int) < (m1 : Int)) = false := decide_eq_false (by omega)
      rw [take_all d.code _ L1.out] at hv
      have hb1 := small_bi hv (m2 : Int) (by omega)
      have HB1 := Lib.hid hb1
      clear hb1 H1 hv
      go_wp2_with (go_at_call 113; refine HB1.out.mono ?_; rintro x w2 ⟨v2, rfl, h2⟩)
      have H2 := Lib.hid h2
      clear h2 x0 x1 x2
      go_loopw [3, 6] (fun v i wr => ∃ k : Nat, k ≤ m2 ∧ i = .int .i64 k ∧ BI wa wr v (2 + 16 * m1 + 2 + 65545 * k) (smalls [(m1 : Int)] ++ d.code.flatMap layCd ++ smalls [(m2 : Int)] ++ (d.ents.take k).flatMap layEn)) (fun _ i _ => m2 - (intOf i).toNat)
      case atStart => exact ⟨0, by omega, rfl, by have := H2.out; simpa [smalls] using this⟩
      case round =>
        obtain ⟨k, hk, rfl, hv⟩ := hrel
        obtain ⟨x0, x1, x2⟩ := HX.out _ hv.only0
        by_cases hlt : k < m2
        · have e1 : decide ((k : Int) < (m2 : Int)) = true := decide_eq_true (by omega)
          obtain ⟨b, off, hA, hb, c, hmem, hsk, c0, c1⟩ := en_at HI.out.ents k hlt
          simp only at hA hmem hsk
          subst hA
          have hci := HC2.out c hmem
          have HST : Hid (((d.ents.take k).flatMap layEn) ++ layEn c = (d.ents.take (k + 1)).flatMap layEn) := (flat_snoc layEn d.ents k c hsk).symm
          have HLE := Lib.hid (layEn_eq c)
          obtain ⟨nm, pos⟩ := c
          simp only at hci c0 c1 HLE
          have hc : ∀ w', Only [] wa w' → w'.cell? ⟨b, off + k * 2, none⟩ = some (.string nm) ∧ w'.cell? ⟨b, off + k * 2 + 1, none⟩ = some (.int .i64 pos) ∧ w'.cell? ⟨bx, 1, none⟩ = some (.slice (some ⟨b, off, none⟩) m2 p2) := fun w' h => ⟨h.cell c0 (by simp), h.cell c1 (by simp), (HX.out _ h).2.1⟩
          have HCC := Lib.hid hc
          have hT := text_bi hv.drew nm (by unfold maxLen; omega) (by omega)
          have HT := Lib.hid hT
          obtain ⟨y0, y1, y2⟩ := HCC.out wr.drew hv.drew.only0
          clear hT hc c0 c1 hmem hsk hv
          go_wp2_with fail
          go_region_held (fun w' => w'.cell? ⟨b, off + k * 2, none⟩ = some (.string nm) ∧ w'.cell? ⟨b, off + k * 2 + 1, none⟩ = some (.int .i64 pos) ∧ w'.cell? ⟨bx, 1, none⟩ = some (.slice (some ⟨b, off, none⟩) m2 p2)) (first | go_keep | (refine ⟨?_, ?_, ?_⟩ <;> assumption)) ((first
            | (go_at_call 114; refine (num_bi h2 pos (by omega)).mono ?_; rintro x w3 ⟨v3, rfl, h3⟩; obtain ⟨p0, p1, p2⟩ := HCC.out _ h3.only0)
            | (go_at_call 120; refine HT.out.mono ?_; rintro x w2 ⟨v2, rfl, h2⟩; obtain ⟨q0, q1, q2⟩ := HCC.out _ h2.only0)))
          have H3 := Lib.hid h3
          clear h3 h2 q0 q1 q2 p0 p1 p2 y0 y1 y2 HT
          go_wp2_with fail
          go_roundw
          case rel =>
            refine ⟨k + 1, by omega, by go_num, ?_⟩
            rw [← HST.out, HLE.out]
            have := H3.out
            simp only [← List.append_assoc] at this ⊢
            exact BI.mono this (by omega)
          case measure => simp [intOf]; omega
        · obtain rfl : m2 = k := by omega
          have e1 : decide ((m2 : Int) < (m2 : Int)) = false := decide_eq_false (by omega)
          rw [take_all d.ents _ L2.out] at hv
          have hb1 := small_bi hv (m3 : Int) (by omega)
          have HB2 := Lib.hid hb1
          clear hb1 H2 hv
          go_wp2_with (go_at_call 113; refine HB2.out.mono ?_; rintro x w4 ⟨v4, rfl, h4⟩)
          have H4 := Lib.hid h4
          clear h4 x0 x1 x2
          go_loopw [3, 7] (fun v i wr => ∃ k : Nat, k ≤ m3 ∧ i = .int .i64 k ∧ BI wa wr v (2 + 16 * m1 + 2 + 65545 * m2 + 2 + 65545 * k) (smalls [(m1 : Int)] ++ d.code.flatMap layCd ++ smalls [(m2 : Int)] ++ d.ents.flatMap layEn ++ smalls [(m3 : Int)] ++ (d.calls.take k).flatMap layEn)) (fun _ i _ => m3 - (intOf i).toNat)
          case atStart => exact ⟨0, by omega, rfl, by have := H4.out; simpa [smalls] using this⟩
          case round =>
            obtain ⟨k, hk, rfl, hv⟩ := hrel
            obtain ⟨x0, x1, x2⟩ := HX.out _ hv.only0
            by_cases hlt : k < m3
            · have e1 : decide ((k : Int) < (m3 : Int)) = true := decide_eq_true (by omega)
              obtain ⟨b, off, hA, hb, c, hmem, hsk, c0, c1⟩ := cl_at HI.out.calls k hlt
              simp only at hA hmem hsk
              subst hA
              have hci := HC3.out c hmem
              have HST : Hid (((d.calls.take k).flatMap layEn) ++ layEn c = (d.calls.take (k + 1)).flatMap layEn) := (flat_snoc layEn d.calls k c hsk).symm
              have HLE := Lib.hid (layEn_eq c)
              obtain ⟨nm, pos⟩ := c
              simp only at hci c0 c1 HLE
              have hc : ∀ w', Only [] wa w' → w'.cell? ⟨b, off + k * 2, none⟩ = some (.int .i64 pos) ∧ w'.cell? ⟨b, off + k * 2 + 1, none⟩ = some (.string nm) ∧ w'.cell? ⟨bx, 2, none⟩ = some (.slice (some ⟨b, off, none⟩) m3 p3) := fun w' h => ⟨h.cell c0 (by simp), h.cell c1 (by simp), (HX.out _ h).2.2⟩
              have HCC := Lib.hid hc
              have hT := text_bi hv.drew nm (by unfold maxLen; omega) (by omega)
              have HT := Lib.hid hT
              obtain ⟨y0, y1, y2⟩ := HCC.out wr.drew hv.drew.only0
              clear hT hc c0 c1 hmem hsk hv
              go_wp2_with fail
              go_region_held (fun w' => w'.cell? ⟨b, off + k * 2, none⟩ = some (.int .i64 pos) ∧ w'.cell? ⟨b, off + k * 2 + 1, none⟩ = some (.string nm) ∧ w'.cell? ⟨bx, 2, none⟩ = some (.slice (some ⟨b, off, none⟩) m3 p3)) (first | go_keep | (refine ⟨?_, ?_, ?_⟩ <;> assumption)) ((first
                | (go_at_call 114; refine (num_bi h2 pos (by omega)).mono ?_; rintro x w3 ⟨v3, rfl, h3⟩; obtain ⟨p0, p1, p2⟩ := HCC.out _ h3.only0)
                | (go_at_call 120; refine HT.out.mono ?_; rintro x w2 ⟨v2, rfl, h2⟩; obtain ⟨q0, q1, q2⟩ := HCC.out _ h2.only0)))
              have H3 := Lib.hid h3
              clear h3 h2 q0 q1 q2 p0 p1 p2 y0 y1 y2 HT
              go_wp2_with fail
              go_roundw
              case rel =>
                refine ⟨k + 1, by omega, by go_num, ?_⟩
                rw [← HST.out, HLE.out]
                have := H3.out
                simp only [← List.append_assoc] at this ⊢
                exact BI.mono this (by omega)
              case measure => simp [intOf]; omega
            · obtain rfl : m3 = k := by omega
              have e1 : decide ((m3 : Int) < (m3 : Int)) = false := decide_eq_false (by omega)
              rw [take_all d.calls _ L3.out] at hv
              have hv2 := (hv.mono (N' := 600000000) (by omega)).from HO.out
              rw [← HL.out] at hv2
              have HV := Lib.hid hv2
              clear hv hv2
              go_wp2_with fail
              go_ret
              exact ⟨_, rfl, HV.out⟩
end Go.Proofs.Ytbeenfkmnchhbaa.Object
