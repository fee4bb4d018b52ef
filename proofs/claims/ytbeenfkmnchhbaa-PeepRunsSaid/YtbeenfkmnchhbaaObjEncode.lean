/- An object as bytes: object.Encode. -/
import Derived.Test.YtbeenfkmnchhbaaObjWriter
namespace Go.Proofs.Ytbeenfkmnchhbaa.Object
open Go.RowKit Codec
set_option linter.unusedVariables false
set_option maxRecDepth 100000
def encBytes (d : OD) : List UInt8 := if objRight d = true then (if (layO d).length ≤ 1048576 then layO d else []) else []
def encErr (d : OD) : Int := if objRight d = true then (if (layO d).length ≤ 1048576 then 0 else 6) else 1
/-- what Encode hands back -/
def encOut (d : OD) (w : World) (x : Ending) (w' : World) : Prop :=
  ∃ A n c, x = .returned (.tuple #[.slice A n c, .int .i64 (encErr d)]) ∧ Bytes w' w'.heap.size A n (encBytes d) ∧ n ≤ c ∧ c ≤ maxLen ∧ Only [] w w'
theorem enc_no {d : OD} (h : objRight d = false) : encBytes d = [] ∧ encErr d = 1 := by unfold encBytes encErr; simp [h]
theorem enc_ok {d : OD} (h : objRight d = true) (hl : (layO d).length ≤ 1048576) : encBytes d = layO d ∧ encErr d = 0 := by unfold encBytes encErr; simp [h, hl]
theorem enc_long {d : OD} (h : objRight d = true) (hl : ¬ (layO d).length ≤ 1048576) : encBytes d = [] ∧ encErr d = 6 := by unfold encBytes encErr; simp [h]; omega
theorem flat_snoc {α : Type} (f : α → List UInt8) (l : List α) (k : Nat) (x : α) (h : l[k]? = some x) : (l.take (k + 1)).flatMap f = (l.take k).flatMap f ++ f x := by
  obtain ⟨hk, rfl⟩ := List.getElem?_eq_some_iff.1 h
  rw [List.take_succ_eq_append_getElem hk, List.flatMap_append]
  simp
set_option maxHeartbeats 4000000 in
theorem encode_any (o : Ob) (d : OD) (w : World) (h : IsOb w o d) (hm : o.m1 ≤ 1000000000000 ∧ o.m2 ≤ 1000000000000 ∧ o.m3 ≤ 1000000000000) :
    Calls Try.prog 36 #[o.val] w fun x w' => encOut d w x w' := by
  have hR := fun w' (ho : Only [] w w') => right_any o d w' (h.only ho) hm.1 hm.2.1 hm.2.2
  have HH := Lib.hid h
  have N1 := Lib.hid h.n1
  have N2 := Lib.hid h.n2
  have N3 := Lib.hid h.n3
  clear h
  obtain ⟨hm1, hm2, hm3⟩ := hm
  obtain ⟨A1, m1, p1, A2, m2, p2, A3, m3, p3⟩ := o
  unfold Ob.val at *
  simp only at N1 N2 N3 hm1 hm2 hm3 hR ⊢
  have HB := Lib.hid (Blk.new w 57 #[.slice A1 m1 p1, .slice A2 m2 p2, .slice A3 m3 p3])
  have HO := Lib.hid ((Only.refl [] w).alloc (.cells #[.slice A1 m1 p1, .slice A2 m2 p2, .slice A3 m3 p3] 57))
  cases hr : objRight d
  · rw [hr] at hR
    have HR := Lib.hid hR
    have HRR := Lib.hid (enc_no hr)
    clear hR hr
    go_enter Try.func36, Try.ntmps36
    go_wp2_with (go_at_call 42; refine (HR.out _ HO.out).mono ?_; rintro x w2 ⟨rfl, ho2⟩; have HO2 := Lib.hid (HO.out.trans ho2 (by simp)))
    exact bodyPost_ret (v := .tuple #[.slice none 0 0, .int .i64 1]) (by simp [results, Try.results36, go_sem]) rfl (by unfold encOut; rw [HRR.out.1, HRR.out.2]; exact ⟨none, 0, 0, rfl, Bytes.nil_, Nat.le_refl _, by simp [maxLen], HO2.out⟩)
  · rw [hr] at hR
    have hin := right_in hr
    have k1 : m1 ≤ 32768 := by rw [← N1.out]; exact hin.n1
    have k2 : m2 ≤ 4096 := by rw [← N2.out]; exact hin.n2
    have k3 : m3 ≤ 4096 := by rw [← N3.out]; exact hin.n3
    have HIN := Lib.hid hin
    have HR := Lib.hid hR
    have HRR := Lib.hid hr
    clear hR hr hin
    go_enter Try.func36, Try.ntmps36
    go_wp2_with (first
      | (go_at_call 42; refine (HR.out _ HO.out).mono ?_; rintro x w2 ⟨rfl, ho2⟩; have HO2 := Lib.hid (HO.out.trans ho2 (by simp)); have HB2 := Lib.hid (HB.out.only ho2 (by simp)); have x0 : w2.cell? ⟨w.heap.size, 0, none⟩ = some (.slice A1 m1 p1) := HB2.out.cell 0; have hlt2 := HB2.out.lt; have hW := WI.new w2; clear ho2)
      | (go_at_call 65; refine (small_in_k hW [(m1 : Int)] _ _ _ 1 1 _ (by rfl) (by simp) (by rfl) (by decide)).mono ?_; rintro x w3 ⟨rfl, hW3, hk3⟩; have hb3 := hk3 _ _ _ ((HB2.out.alloc _).alloc _) (by decide) (by decide); have y0 : w3.cell? ⟨w.heap.size, 0, none⟩ = some (.slice A1 m1 p1) := hb3.cell 0))
    have hpw := Nat.le_refl w2.heap.size
    obtain ⟨p, hp⟩ : ∃ p, w2.heap.size = p := ⟨_, rfl⟩
    rw [hp] at hW3 hlt2
    rw [hp]
    have HB3 := Lib.hid hb3
    clear hp hW hpw hk3 hb3 x0 y0
    go_loopw [26] (fun i wr => ∃ k : Nat, k ≤ m1 ∧ i = .int .i64 k ∧ WI w2 wr p (2 + 16 * k) (smalls [(m1 : Int)] ++ (d.code.take k).flatMap layCd) ∧ Blk wr w.heap.size 57 #[.slice A1 m1 p1, .slice A2 m2 p2, .slice A3 m3 p3]) (fun i _ => m1 - (intOf i).toNat)
    case atStart => exact ⟨0, by omega, rfl, by simpa using hW3, HB3.out⟩
    case round =>
      obtain ⟨k, hk, rfl, hWk, hbk⟩ := hrel
      clear hW3
      have hoW := HO2.out.trans hWk.only0 (by simp)
      by_cases hlt : k < m1
      · have e1 : decide ((k : Int) < (m1 : Int)) = true := decide_eq_true (by omega)
        obtain ⟨b, off, hA, hb, c, hmem, hck, c0, c1, c2, c3, c4⟩ := cd_at HH.out.code k hlt
        simp only at hA hmem hck
        subst hA
        have x0 := hoW.cell c0 (by simp)
        have x1 := hoW.cell c1 (by simp)
        have x2 := hoW.cell c2 (by simp)
        have x3 := hoW.cell c3 (by simp)
        have x4 := hoW.cell c4 (by simp)
        have HCK := Lib.hid hck
        have hin := HIN.out.code c hmem
        have HOW := Lib.hid hoW
        have HBK := Lib.hid hbk
        clear c0 c1 c2 c3 c4 hck hmem hoW hbk
        obtain ⟨op, ca, cb, cc, cn⟩ := c
        simp only at x0 x1 x2 x3 x4 hin
        obtain ⟨⟨hi1, hi2⟩, ⟨hi3, hi4⟩, _, _⟩ := hin
        simp only at hi1 hi2 hi3 hi4
        have ea : IntKind.i64.wrap (ca + 1) = ca + 1 := IntWalk.i64_in _ (by omega)
        have hbox := Blk.new wr 59 #[.int .i64 op, .int .i64 ca, .int .i64 cb, .int .i64 cc, .int .i64 cn]
        have hWb := hWk.alloc (.cells #[.int .i64 op, .int .i64 ca, .int .i64 cb, .int .i64 cc, .int .i64 cn] 59)
        have HBA := Lib.hid (HBK.out.alloc (.cells #[.int .i64 op, .int .i64 ca, .int .i64 cb, .int .i64 cc, .int .i64 cn] 59))
        obtain ⟨G, hG⟩ : ∃ G, wr.heap.size = G := ⟨_, rfl⟩
        rw [hG] at hbox
        have HG := Lib.hid hG
        clear hWk
        go_wp2_with fail
        clear hG
        refine (small_in_k hWb [op, ca + 1, cb, cc] _ _ _ 4 4 _ (by rfl) (by rw [World.size_alloc, HG.out]) (by rfl) (by omega)).mono ?_
        rintro x w4 ⟨rfl, hW4, hk4⟩
        have hb4 := hk4 _ _ _ (hbox.alloc _) (by decide) (by decide)
        have HB4 := Lib.hid (hk4 _ _ _ (HBA.out.alloc _) (by decide) (by decide))
        have y0 : w4.cell? ⟨G, 4, none⟩ = some (.int .i64 cn) := hb4.cell 4
        clear hWb hbox hb4 hk4
        go_wp2_with (go_at_call 79; refine (num_in_k hW4 [cn] _ _ _ 1 1 _ (by rfl) (by rfl) (by rfl) (by omega)).mono ?_; rintro x w5 ⟨rfl, hW5, hk5⟩; have HB5 := Lib.hid (hk5 _ _ _ (HB4.out.alloc _) (by decide) (by decide)))
        go_roundw
        case rel =>
          refine ⟨k + 1, by omega, by go_num, ?_, HB5.out⟩
          rw [flat_snoc layCd d.code k _ HCK.out]
          unfold layCd
          rw [← List.append_assoc, ← List.append_assoc]
          exact WI.mono hW5 (by omega)
        case measure => simp [intOf]; omega
      · obtain rfl : m1 = k := by omega
        have e1 : decide ((m1 : Int) < (m1 : Int)) = false := decide_eq_false (by omega)
        rw [take_all _ _ N1.out] at hWk
        have z0 : wr.cell? ⟨w.heap.size, 1, none⟩ = some (.slice A2 m2 p2) := hbk.cell 1
        have HBK := Lib.hid hbk
        go_wp2_with (go_at_call 65; refine (small_in_k hWk [(m2 : Int)] _ _ _ 1 1 _ (by rfl) (by rfl) (by rfl) (by omega)).mono ?_; rintro x w6 ⟨rfl, hW6, hk6⟩; have HB6 := Lib.hid (hk6 _ _ _ (HBK.out.alloc _) (by decide) (by decide)); have z02 : w6.cell? ⟨w.heap.size, 1, none⟩ = some (.slice A2 m2 p2) := HB6.out.cell 1)
        have hW3 := hW6
        have HB3 := Lib.hid HB6.out
        clear hW6 hk6 HB6 HBK hbk hWk z0 z02 hoW e1
        go_loopw [57] (fun i wr => ∃ k : Nat, k ≤ m2 ∧ i = .int .i64 k ∧ WI w2 wr p ((2 + 16 * m1 + 2 * 1) + 65545 * k) (smalls [(m1 : Int)] ++ d.code.flatMap layCd ++ smalls [(m2 : Int)] ++ (d.ents.take k).flatMap layEn) ∧ Blk wr w.heap.size 57 #[.slice A1 m1 p1, .slice A2 m2 p2, .slice A3 m3 p3]) (fun i _ => m2 - (intOf i).toNat)
        case atStart => exact ⟨0, by omega, rfl, by simpa using hW3, HB3.out⟩
        case round =>
          obtain ⟨k, hk, rfl, hWk, hbk⟩ := hrel
          have hoW := HO2.out.trans hWk.only0 (by simp)
          by_cases hlt : k < m2
          · have e1 : decide ((k : Int) < (m2 : Int)) = true := decide_eq_true (by omega)
            obtain ⟨b, off, hA, hb, c, hmem, hck, c0, c1⟩ := en_at HH.out.ents k hlt
            simp only at hA hmem hck
            subst hA
            have x0 := hoW.cell c0 (by simp)
            have x1 := hoW.cell c1 (by simp)
            have HCK := Lib.hid hck
            have hin := HIN.out.ents c hmem
            have HOW := Lib.hid hoW
            have HBK := Lib.hid hbk
            clear c0 c1 hck hmem hoW hbk
            obtain ⟨nm, pos⟩ := c
            simp only at x0 x1 hin
            have hbox := Blk.new wr 73 #[.string nm, .int .i64 pos]
            have hWb := hWk.alloc (.cells #[.string nm, .int .i64 pos] 73)
            have HBA := Lib.hid (HBK.out.alloc (.cells #[.string nm, .int .i64 pos] 73))
            obtain ⟨G, hG⟩ : ∃ G, wr.heap.size = G := ⟨_, rfl⟩
            rw [hG] at hbox
            have HG := Lib.hid hG
            clear hWk
            go_wp2_with fail
            clear hG
            refine (text_in_k hWb [nm] _ _ _ 1 1 _ (by rfl) (by rw [World.size_alloc, HG.out]) (by rfl) (by intro s hs; rw [List.mem_singleton.1 hs]; unfold maxLen; omega) (by omega)).mono ?_
            rintro x w4 ⟨rfl, hW4, hk4⟩
            have hb4 := hk4 _ _ _ (hbox.alloc _) (by decide) (by decide)
            have HB4 := Lib.hid (hk4 _ _ _ (HBA.out.alloc _) (by decide) (by decide))
            have y0 : w4.cell? ⟨G, 1, none⟩ = some (.int .i64 pos) := hb4.cell 1
            clear hWb hbox hb4 hk4
            go_wp2_with (go_at_call 79; refine (num_in_k hW4 [pos] _ _ _ 1 1 _ (by rfl) (by rfl) (by rfl) (by omega)).mono ?_; rintro x w5 ⟨rfl, hW5, hk5⟩; have HB5 := Lib.hid (hk5 _ _ _ (HB4.out.alloc _) (by decide) (by decide)))
            go_roundw
            case rel =>
              refine ⟨k + 1, by omega, by go_num, ?_, HB5.out⟩
              rw [flat_snoc layEn d.ents k _ HCK.out]
              unfold layEn
              rw [← List.append_assoc, ← List.append_assoc]
              exact WI.mono hW5 (by omega)
            case measure => simp [intOf]; omega
          · obtain rfl : m2 = k := by omega
            have e1 : decide ((m2 : Int) < (m2 : Int)) = false := decide_eq_false (by omega)
            rw [take_all _ _ N2.out] at hWk
            have z1 : wr.cell? ⟨w.heap.size, 2, none⟩ = some (.slice A3 m3 p3) := hbk.cell 2
            have HBK := Lib.hid hbk
            go_wp2_with (go_at_call 65; refine (small_in_k hWk [(m3 : Int)] _ _ _ 1 1 _ (by rfl) (by rfl) (by rfl) (by omega)).mono ?_; rintro x w6 ⟨rfl, hW6, hk6⟩; have HB6 := Lib.hid (hk6 _ _ _ (HBK.out.alloc _) (by decide) (by decide)); have z12 : w6.cell? ⟨w.heap.size, 2, none⟩ = some (.slice A3 m3 p3) := HB6.out.cell 2)
            have hW3 := hW6
            have HB3 := Lib.hid HB6.out
            clear hW6 hk6 HB6 HBK hbk hWk z1 z12 hoW e1
            go_loopw [81] (fun i wr => ∃ k : Nat, k ≤ m3 ∧ i = .int .i64 k ∧ WI w2 wr p (((2 + 16 * m1 + 2 * 1) + 65545 * m2 + 2 * 1) + 65545 * k) (smalls [(m1 : Int)] ++ d.code.flatMap layCd ++ smalls [(m2 : Int)] ++ d.ents.flatMap layEn ++ smalls [(m3 : Int)] ++ (d.calls.take k).flatMap layEn) ∧ Blk wr w.heap.size 57 #[.slice A1 m1 p1, .slice A2 m2 p2, .slice A3 m3 p3]) (fun i _ => m3 - (intOf i).toNat)
            case atStart => exact ⟨0, by omega, rfl, by simpa using hW3, HB3.out⟩
            case round =>
              obtain ⟨k, hk, rfl, hWk, hbk⟩ := hrel
              have hoW := HO2.out.trans hWk.only0 (by simp)
              by_cases hlt : k < m3
              · have e1 : decide ((k : Int) < (m3 : Int)) = true := decide_eq_true (by omega)
                obtain ⟨b, off, hA, hb, c, hmem, hck, c0, c1⟩ := cl_at HH.out.calls k hlt
                simp only at hA hmem hck
                subst hA
                have x0 := hoW.cell c0 (by simp)
                have x1 := hoW.cell c1 (by simp)
                have HCK := Lib.hid hck
                have hin := HIN.out.calls c hmem
                have HOW := Lib.hid hoW
                have HBK := Lib.hid hbk
                clear c0 c1 hck hmem hoW hbk
                obtain ⟨nm, pos⟩ := c
                simp only at x0 x1 hin
                have hbox := Blk.new wr 75 #[.int .i64 pos, .string nm]
                have hWb := hWk.alloc (.cells #[.int .i64 pos, .string nm] 75)
                have HBA := Lib.hid (HBK.out.alloc (.cells #[.int .i64 pos, .string nm] 75))
                obtain ⟨G, hG⟩ : ∃ G, wr.heap.size = G := ⟨_, rfl⟩
                rw [hG] at hbox
                have HG := Lib.hid hG
                clear hWk
                go_wp2_with fail
                clear hG
                refine (text_in_k hWb [nm] _ _ _ 1 1 _ (by rfl) (by rw [World.size_alloc, HG.out]) (by rfl) (by intro s hs; rw [List.mem_singleton.1 hs]; unfold maxLen; omega) (by omega)).mono ?_
                rintro x w4 ⟨rfl, hW4, hk4⟩
                have hb4 := hk4 _ _ _ (hbox.alloc _) (by decide) (by decide)
                have HB4 := Lib.hid (hk4 _ _ _ (HBA.out.alloc _) (by decide) (by decide))
                have y0 : w4.cell? ⟨G, 0, none⟩ = some (.int .i64 pos) := hb4.cell 0
                clear hWb hbox hb4 hk4
                go_wp2_with (go_at_call 79; refine (num_in_k hW4 [pos] _ _ _ 1 1 _ (by rfl) (by rfl) (by rfl) (by omega)).mono ?_; rintro x w5 ⟨rfl, hW5, hk5⟩; have HB5 := Lib.hid (hk5 _ _ _ (HB4.out.alloc _) (by decide) (by decide)))
                go_roundw
                case rel =>
                  refine ⟨k + 1, by omega, by go_num, ?_, HB5.out⟩
                  rw [flat_snoc layEn d.calls k _ HCK.out]
                  unfold layEn
                  rw [← List.append_assoc, ← List.append_assoc]
                  exact WI.mono hW5 (by omega)
                case measure => simp [intOf]; omega
              · obtain rfl : m3 = k := by omega
                have e1 : decide ((m3 : Int) < (m3 : Int)) = false := decide_eq_false (by omega)
                rw [take_all _ _ N3.out] at hWk
                have HBK := Lib.hid hbk
                have hlay : smalls [(m1 : Int)] ++ d.code.flatMap layCd ++ smalls [(m2 : Int)] ++ d.ents.flatMap layEn ++ smalls [(m3 : Int)] ++ d.calls.flatMap layEn = layO d := by unfold layO; rw [N1.out, N2.out, N3.out]
                rw [hlay] at hWk
                clear hlay hbk
                obtain ⟨v, n, hnN, hwr, hw0, _, _⟩ := hWk
                have hbl := bytes_any p n v _ wr hwr (by omega)
                have HBL := Lib.hid hbl
                have HLN := Lib.hid hwr.own.len
                have HOW := Lib.hid hoW
                clear hbl hwr hw0 hnN hoW
                by_cases hbig : n ≤ 1048576
                · have d1 : decide ((1048576 : Int) < (n : Int)) = false := decide_eq_false (by omega)
                  have HIF := Lib.hid (enc_ok HRR.out (by rw [HLN.out]; exact hbig))
                  go_wp2_with (go_at_call 67; refine HBL.out.mono ?_; rintro x w7 ⟨v7, rfl, hv7, ho7⟩; obtain ⟨A7, cap7, rfl, h71, h72, hr7, _⟩ := hv7.shape)
                  have ho8 := HOW.out.trans ho7 (by simp)
                  exact bodyPost_ret (v := .tuple #[.slice A7 n cap7, .int .i64 0]) (by simp [results, Try.results36, go_sem]) rfl (by unfold encOut; rw [HIF.out.1, HIF.out.2]; exact ⟨A7, n, cap7, rfl, hr7, h71, h72, ho8⟩)
                · have d1 : decide ((1048576 : Int) < (n : Int)) = true := decide_eq_true (by omega)
                  have HIF := Lib.hid (enc_long HRR.out (by rw [HLN.out]; exact hbig))
                  go_wp2_with (go_at_call 67; refine HBL.out.mono ?_; rintro x w7 ⟨v7, rfl, hv7, ho7⟩; obtain ⟨A7, cap7, rfl, h71, h72, hr7, _⟩ := hv7.shape)
                  have ho8 := HOW.out.trans ho7 (by simp)
                  exact bodyPost_ret (v := .tuple #[.slice none 0 0, .int .i64 6]) (by simp [results, Try.results36, go_sem]) rfl (by unfold encOut; rw [HIF.out.1, HIF.out.2]; exact ⟨none, 0, 0, rfl, Bytes.nil_, Nat.le_refl _, by simp [maxLen], ho8⟩)
end Go.Proofs.Ytbeenfkmnchhbaa.Object
