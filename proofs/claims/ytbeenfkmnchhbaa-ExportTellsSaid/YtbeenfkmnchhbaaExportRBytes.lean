/- A list of functions as bytes, by the document. -/
import Derived.Test.YtbeenfkmnchhbaaExportRRight
import Derived.Test.YtbeenfkmnchhbaaExportMath
import Derived.Test.YtbeenfkmnchhbaaBuf
import Derived.Deep.RegionHeld3
namespace Go.Proofs.Ytbeenfkmnchhbaa.Export
open Go.RowKit Codec
set_option linter.unusedVariables false
set_option maxRecDepth 100000
theorem smalls_le (z : Int) : smalls [z] = le (clamp z) 2 := by simp [smalls]
theorem texts_le (s : ByteArray) : texts [s] = text s := by simp [texts]
set_option maxHeartbeats 4000000 in
theorem rbytes_any (A : Option Addr) (m c : Nat) (ss : List Sg) (w : World) (hs : Sgs w A m ss) (h32 : m ≤ 32) (hall : ∀ s ∈ ss, s.name.size ≤ 16 ∧ s.n ≤ 4) :
    Calls Try.prog 68 #[.slice A m c] w fun x w' => ∃ v, x = .returned v ∧ BI w w' v 3000000 (layL ss) := by
  have HS := Lib.hid hs
  have HALL := Lib.hid hall
  have hb0 := small_bi (BI.nil_ w) (m : Int) (by omega)
  have HB0 := Lib.hid hb0
  clear hs hall hb0
  go_enter Try.func68, Try.ntmps68
  go_wp2_with (go_at_call 113; refine HB0.out.mono ?_; rintro x w1 ⟨v1, rfl, h1⟩)
  go_loopw [3, 4] (fun v i wr => ∃ k : Nat, k ≤ m ∧ i = .int .i64 k ∧ BI w wr v (2 + k * 65600) (smalls [(m : Int)] ++ (ss.take k).flatMap laySg)) (fun _ i _ => m - (intOf i).toNat)
  case atStart => exact ⟨0, by omega, rfl, by rw [smalls_le]; simpa using h1⟩
  case round =>
    obtain ⟨k, hk, rfl, hv⟩ := hrel
    have hoW := hv.only0
    by_cases hlt : k < m
    · have e1 : decide ((k : Int) < (m : Int)) = true := decide_eq_true (by omega)
      obtain ⟨b, off, rfl, hb, s, hmem, hsk, c0, c1, c2⟩ := recs_at HS.out.recs k hlt
      have hal := HALL.out s hmem
      have hbs := (HS.out.each s hmem).1
      have HSK := Lib.hid hsk
      obtain ⟨nm, sA, sn, sc, ps, res⟩ := s
      simp only at c0 c1 c2 hal hbs
      have hlen := hbs.len
      have HBS := Lib.hid hbs
      have hrz := UInt8.toNat_lt res
      have hlay : laySg ⟨nm, sA, sn, sc, ps, res⟩ = texts [nm] ++ smalls [(sn : Int)] ++ layP ps ++ smalls [((res.toNat : Nat) : Int)] := rfl
      have HLAY := Lib.hid hlay
      have e9 : IntKind.i64.wrap (res.toNat : Int) = (res.toNat : Int) := IntWalk.i64_in _ (by omega)
      generalize (res.toNat : Int) = rz at *
      have hc : ∀ w', Only [] w w' → w'.cell? ⟨b, off + k * 3, none⟩ = some (.string nm) ∧ w'.cell? ⟨b, off + k * 3 + 1, none⟩ = some (.slice sA sn sc) ∧ w'.cell? ⟨b, off + k * 3 + 2, none⟩ = some (.int .u8 rz) := fun w' h => ⟨h.cell c0 (by simp), h.cell c1 (by simp), h.cell c2 (by simp)⟩
      have HC := Lib.hid hc
      have hvd := hv.drew
      obtain ⟨x0, x1, x2⟩ := HC.out _ hoW
      have ht := text_bi hvd nm (by unfold maxLen; omega) (by omega)
      have HT := Lib.hid ht
      clear hlay hc hbs hmem hsk c0 c1 c2 ht
      go_wp2_with fail
      go_region_held (fun w' => w'.cell? ⟨b, off + k * 3, none⟩ = some (.string nm) ∧ w'.cell? ⟨b, off + k * 3 + 1, none⟩ = some (.slice sA sn sc) ∧ w'.cell? ⟨b, off + k * 3 + 2, none⟩ = some (.int .u8 rz)) (first | go_keep | (refine ⟨?_, ?_, ?_⟩ <;> assumption)) ((first
        | (go_at_call 113; refine (small_bi h2 (sn : Int) (by omega)).mono ?_; rintro x w3 ⟨v3, rfl, h3⟩; obtain ⟨p0, p1, p2⟩ := HC.out _ h3.only0)
        | (go_at_call 120; refine HT.out.mono ?_; rintro x w2 ⟨v2, rfl, h2⟩; obtain ⟨q0, q1, q2⟩ := HC.out _ h2.only0)))
      have H3 := Lib.hid h3
      clear h3 h2 hvd hv HT hoW x0 x1 x2 q0 q1 q2 p0 p2 HB0 h1
      go_wp2_with fail
      go_loopw [3, 5] (fun v i wx => ∃ q : Nat, q ≤ sn ∧ i = .int .i64 q ∧ BI w wx v (2 + k * 65600 + 65537 + 2 + 2 * q) (smalls [(m : Int)] ++ (ss.take k).flatMap laySg ++ text nm ++ le (clamp (sn : Int)) 2 ++ layP (ps.take q))) (fun _ i _ => sn - (intOf i).toNat)
      case atStart => exact ⟨0, by omega, rfl, by simpa [layP] using H3.out⟩
      case round =>
        obtain ⟨q, hq, rfl, hvq⟩ := hrel
        obtain ⟨x0, x1, x2⟩ := HC.out _ hvq.only0
        by_cases hlq : q < sn
        · have e5 : decide ((q : Int) < (sn : Int)) = true := decide_eq_true (by omega)
          obtain ⟨bp, op, rfl, _, hcp⟩ := (HBS.out.only hvq.only0 (by simp)).at_ hlq
          have hz := UInt8.toNat_lt (ps.getD q 0)
          have hstep : layP (ps.take (q + 1)) = layP (ps.take q) ++ le (clamp ((ps.getD q 0).toNat : Int)) 2 := by
            unfold layP
            rw [List.take_succ_eq_append_getElem (by omega), List.flatMap_append, List.getD_eq_getElem?_getD, List.getElem?_eq_getElem (by omega)]
            simp [smalls]
          have HST := Lib.hid hstep
          have e3 : IntKind.i64.wrap ((ps.getD q 0).toNat : Int) = ((ps.getD q 0).toNat : Int) := IntWalk.i64_in _ (by omega)
          clear hstep
          generalize ((ps.getD q 0).toNat : Int) = z at *
          have hsm := small_bi hvq z (by omega)
          have HSM := Lib.hid hsm
          clear hsm hvq
          go_wp2_with (go_at_call 113; refine HSM.out.mono ?_; rintro x w6 ⟨v6, rfl, h6⟩)
          go_roundw
          case rel => exact ⟨q + 1, by omega, by go_num, by rw [HST.out, ← List.append_assoc]; exact h6⟩
          case measure => simp [intOf]; omega
        · obtain rfl : q = sn := by omega
          have e5 : decide ((q : Int) < (q : Int)) = false := decide_eq_false (by omega)
          rw [show ps.take q = ps from List.take_of_length_le (by omega)] at hvq
          have hsm := small_bi hvq rz (by omega)
          have HSM := Lib.hid hsm
          clear hsm hvq
          go_wp2_with (go_at_call 113; refine HSM.out.mono ?_; rintro x w6 ⟨v6, rfl, h6⟩)
          go_roundw
          case rel =>
            refine ⟨k + 1, by omega, by go_num, ?_⟩
            obtain ⟨hk', he⟩ := List.getElem?_eq_some_iff.1 HSK.out
            rw [List.take_succ_eq_append_getElem hk', List.flatMap_append, he]
            simp only [List.flatMap_cons, List.flatMap_nil, List.append_nil]
            rw [HLAY.out, texts_le, smalls_le (q : Int), smalls_le rz]
            rw [← List.append_assoc, ← List.append_assoc, ← List.append_assoc, ← List.append_assoc]
            exact BI.mono (N' := 2 + (k + 1) * 65600) h6 (by omega)
          case measure => simp [intOf]; omega
    · obtain rfl : k = m := by omega
      have e1 : decide ((k : Int) < (k : Int)) = false := decide_eq_false (by omega)
      have hfull : ss.take k = ss := List.take_of_length_le (by rw [HS.out.len]; exact Nat.le_refl _)
      rw [hfull] at hv
      have hlay : smalls [(k : Int)] ++ ss.flatMap laySg = layL ss := by unfold layL; rw [HS.out.len]
      rw [hlay] at hv
      have HV := Lib.hid (hv.mono (show 2 + k * 65600 ≤ 3000000 by omega))
      clear hfull hlay hv hoW
      go_wp2_with fail
      go_ret
      exact ⟨_, rfl, HV.out⟩
/-- the document's Encode -/
theorem rencode_any (A : Option Addr) (m c : Nat) (ss : List Sg) (w : World) (hs : Sgs w A m ss) (hm : m ≤ 1000000) (hn : ∀ s ∈ ss, s.n ≤ 1048576) :
    Calls Try.prog 27 #[.slice A m c] w fun x w' => encOut ss w x w' := by
  have hR := rright_any A m c ss w hs hm hn
  unfold encOut
  cases hr : rightL ss
  · rw [hr] at hR
    have HR := Lib.hid hR
    clear hR hs hn hr
    go_enter Try.func27, Try.ntmps27
    go_wp2_with (go_at_call 33; refine HR.out.mono ?_; rintro x w2 ⟨rfl, ho⟩)
    exact bodyPost_ret (v := .tuple #[.slice none 0 0, .int .i64 1]) (by simp [results, Try.results27, go_sem]) rfl ⟨none, 0, 0, rfl, Bytes.nil_, Nat.le_refl _, by simp [maxLen], by omega, ho⟩
  · rw [hr] at hR
    have h32 : m ≤ 32 := by
      unfold rightL at hr
      simp only [Bool.and_eq_true, decide_eq_true_eq] at hr
      rw [hs.len] at hr
      exact hr.1
    have hall : ∀ s ∈ ss, s.name.size ≤ 16 ∧ s.n ≤ 4 := by
      unfold rightL at hr
      simp only [Bool.and_eq_true, decide_eq_true_eq] at hr
      intro s h
      obtain ⟨b, hb⟩ := chk_each ss [] hr.2 s h
      have := sgOk_parts hb
      exact ⟨(nameOk_size this.1).2, this.2.2.1⟩
    have HR := Lib.hid hR
    have HS := Lib.hid hs
    have HALL := Lib.hid hall
    clear hR hs hn hr hall
    go_enter Try.func27, Try.ntmps27
    go_wp2_with (first
      | (go_at_call 33; refine HR.out.mono ?_; rintro x w2 ⟨rfl, ho⟩)
      | (go_at_call 68; refine (rbytes_any A m c ss w2 (HS.out.only ho) h32 HALL.out).mono ?_; rintro x w3 ⟨v3, rfl, h3⟩; obtain ⟨A3, c3, rfl, h31, h32', hr3⟩ := h3.shape; have hl3 := h3.len; have ho3 := ho.trans h3.only0 (by simp)))
    exact bodyPost_ret (v := .tuple #[.slice A3 (layL ss).length c3, .int .i64 0]) (by simp [results, Try.results27, go_sem]) rfl ⟨A3, _, c3, rfl, hr3, h31, h32', hl3, ho3⟩
end Go.Proofs.Ytbeenfkmnchhbaa.Export
