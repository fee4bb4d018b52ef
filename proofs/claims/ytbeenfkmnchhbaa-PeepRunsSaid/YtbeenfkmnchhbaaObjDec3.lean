/- object.some over each closure of object.Decode. PRINTED by wip/gen_objdec2.py -/
import Derived.Test.YtbeenfkmnchhbaaObjDec2
namespace Go.Proofs.Ytbeenfkmnchhbaa.Object
open Go.RowKit Codec
set_option linter.unusedVariables false
set_option maxRecDepth 100000
set_option maxHeartbeats 2000000 in
theorem some0_any (p R O B most : Nat) (v1 v2 v3 : Value) (st : Option (List UInt8)) (d : OD) (w : World) (h : Dec w p R O B v1 v2 v3 st d) (hn : d.code = []) (hmost : most ≤ 40000) :
    Calls Try.prog 81 #[.pointer (some ⟨p, 0, none⟩), .int .i64 (most : Int), .func (.func 82) #[] #[.pointer (some ⟨O, 0, none⟩), .pointer (some ⟨R, 0, none⟩)]] w fun x w' => x = .returned (.tuple #[]) ∧
      ∃ v', Dec w' p R O B v' v2 v3 (rrep rcd rcdl (rcount most st) (rcounted most st)).2 { d with code := (rrep rcd rcdl (rcount most st) (rcounted most st)).1 } ∧ Below p w w' := by
  have hC := count_any p most st w h.rd
  have hM : rcount most st ≤ most := by unfold rcount; split <;> omega
  have hpw := Rd.lt h.rd
  have HD := Lib.hid h
  have HN := Lib.hid hn
  have HC := Lib.hid hC
  clear h hn hC
  generalize rcount most st = M at *
  generalize rcounted most st = st1 at *
  obtain ⟨q, hq⟩ : ∃ q, rrep rcd rcdl M st1 = q := ⟨_, rfl⟩
  rw [hq]
  have HQ := Lib.hid hq
  clear hq
  go_enter Try.func81, Try.ntmps81
  go_wp2_with (go_at_call 69; refine HC.out.mono ?_; rintro x w2 ⟨rfl, hR2, ho2⟩)
  have hD2 := HD.out.reader hR2 ho2
  have HD2 := Lib.hid hD2
  have HB2 := Lib.hid (ho2.to_below (B := p) (Nat.le_of_lt hpw) (by simp))
  clear hD2 hR2 ho2
  go_loopw [6] (fun i wr => ∃ (rem : Nat) (v' : Value) (xs : List Cd) (sj : Option (List UInt8)), xs.length + rem ≤ M ∧ i = .int .i64 rem ∧ Dec wr p R O B v' v2 v3 sj { d with code := xs } ∧ Below p w wr ∧ (xs ++ (rrep rcd rcdl rem sj).1, (rrep rcd rcdl rem sj).2) = q) (fun i _ => (intOf i).toNat)
  case atStart => exact ⟨M, _, [], _, by simp, rfl, by have := HD2.out; rw [← HN.out]; exact this, HB2.out, by rw [← HQ.out]; rfl⟩
  case round =>
    obtain ⟨rem, v', xs, sj, hlen, rfl, hD, hB, hq⟩ := hrel
    have HDj := Lib.hid hD
    have HBj := Lib.hid hB
    have HQj := Lib.hid hq
    have hG := good_any p sj wr hD.rd
    clear hD hB hq
    by_cases hrem : 0 < rem
    · have e1 : decide ((0 : Int) < (rem : Int)) = true := decide_eq_true (by omega)
      obtain ⟨r, rfl⟩ : ∃ r, rem = r + 1 := ⟨rem - 1, by omega⟩
      cases sj with
      | none =>
        have hz : (xs, none) = q := by have := HQj.out; simpa [rrep] using this
        have HZ := Lib.hid hz
        have HG : Hid (Calls Try.prog 70 #[.pointer (some ⟨p, 0, none⟩)] wr fun e w' => e = .returned (.bool false) ∧ wr = w') := hG
        clear hz hG
        go_wp2_with (go_at_call 70; refine HG.out.mono ?_; rintro x wg ⟨rfl, rfl⟩)
        go_end0
        refine ⟨rfl, v', ?_, HBj.out⟩
        rw [← HZ.out]
        exact HDj.out
      | some l =>
        have HG : Hid (Calls Try.prog 70 #[.pointer (some ⟨p, 0, none⟩)] wr fun e w' => e = .returned (.bool true) ∧ wr = w') := hG
        have HCL := Lib.hid (clo0_any p R O B _ _ _ (some l) _ wr HDj.out (by simp only; omega))
        have hr1 : IntKind.i64.wrap (((r + 1 : Nat) : Int) - 1) = (r : Int) := by rw [show ((r + 1 : Nat) : Int) - 1 = (r : Int) by omega]; exact IntWalk.i64_in _ (by omega)
        have hr2 : IntKind.i64.wrap (((r : Int) + 1) - 1) = (r : Int) := by rw [show ((r : Int) + 1) - 1 = (r : Int) by omega]; exact IntWalk.i64_in _ (by omega)
        clear hG
        go_wp2_with (first
          | (go_at_call 70; refine HG.out.mono ?_; rintro x wg ⟨rfl, rfl⟩)
          | (go_at_call 82; refine HCL.out.mono ?_; rintro x w5 ⟨rfl, v5, hD5, hB5⟩; have HD5 := Lib.hid hD5; have HB5 := Lib.hid hB5; clear hD5 hB5))
        go_roundw
        case rel =>
          refine ⟨r, v5, xs ++ [rcd (some l)], rcdl (some l), by rw [List.length_append]; simp; omega, by first | rfl | go_num, HD5.out, HBj.out.trans HB5.out, ?_⟩
          rw [← HQj.out]
          show (xs ++ [rcd (some l)] ++ _, _) = (xs ++ (rcd (some l) :: (rrep rcd rcdl r (rcdl (some l))).1), _)
          rw [List.append_assoc]
          rfl
        case measure => simp [intOf]
    · obtain rfl : rem = 0 := by omega
      have e1 : decide ((0 : Int) < ((0 : Nat) : Int)) = false := rfl
      have hz : (xs, sj) = q := by have := HQj.out; simpa [rrep] using this
      have HZ := Lib.hid hz
      clear hz hG
      go_wp2_with fail
      go_end0
      refine ⟨rfl, v', ?_, HBj.out⟩
      rw [← HZ.out]
      exact HDj.out
set_option maxHeartbeats 2000000 in
theorem some1_any (p R O B most : Nat) (v1 v2 v3 : Value) (st : Option (List UInt8)) (d : OD) (w : World) (h : Dec w p R O B v1 v2 v3 st d) (hn : d.ents = []) (hmost : most ≤ 40000) :
    Calls Try.prog 81 #[.pointer (some ⟨p, 0, none⟩), .int .i64 (most : Int), .func (.func 84) #[] #[.pointer (some ⟨R, 0, none⟩), .pointer (some ⟨O, 0, none⟩)]] w fun x w' => x = .returned (.tuple #[]) ∧
      ∃ v', Dec w' p R O B v1 v' v3 (rrep ren renl (rcount most st) (rcounted most st)).2 { d with ents := (rrep ren renl (rcount most st) (rcounted most st)).1 } ∧ Below p w w' := by
  have hC := count_any p most st w h.rd
  have hM : rcount most st ≤ most := by unfold rcount; split <;> omega
  have hpw := Rd.lt h.rd
  have HD := Lib.hid h
  have HN := Lib.hid hn
  have HC := Lib.hid hC
  clear h hn hC
  generalize rcount most st = M at *
  generalize rcounted most st = st1 at *
  obtain ⟨q, hq⟩ : ∃ q, rrep ren renl M st1 = q := ⟨_, rfl⟩
  rw [hq]
  have HQ := Lib.hid hq
  clear hq
  go_enter Try.func81, Try.ntmps81
  go_wp2_with (go_at_call 69; refine HC.out.mono ?_; rintro x w2 ⟨rfl, hR2, ho2⟩)
  have hD2 := HD.out.reader hR2 ho2
  have HD2 := Lib.hid hD2
  have HB2 := Lib.hid (ho2.to_below (B := p) (Nat.le_of_lt hpw) (by simp))
  clear hD2 hR2 ho2
  go_loopw [6] (fun i wr => ∃ (rem : Nat) (v' : Value) (xs : List En) (sj : Option (List UInt8)), xs.length + rem ≤ M ∧ i = .int .i64 rem ∧ Dec wr p R O B v1 v' v3 sj { d with ents := xs } ∧ Below p w wr ∧ (xs ++ (rrep ren renl rem sj).1, (rrep ren renl rem sj).2) = q) (fun i _ => (intOf i).toNat)
  case atStart => exact ⟨M, _, [], _, by simp, rfl, by have := HD2.out; rw [← HN.out]; exact this, HB2.out, by rw [← HQ.out]; rfl⟩
  case round =>
    obtain ⟨rem, v', xs, sj, hlen, rfl, hD, hB, hq⟩ := hrel
    have HDj := Lib.hid hD
    have HBj := Lib.hid hB
    have HQj := Lib.hid hq
    have hG := good_any p sj wr hD.rd
    clear hD hB hq
    by_cases hrem : 0 < rem
    · have e1 : decide ((0 : Int) < (rem : Int)) = true := decide_eq_true (by omega)
      obtain ⟨r, rfl⟩ : ∃ r, rem = r + 1 := ⟨rem - 1, by omega⟩
      cases sj with
      | none =>
        have hz : (xs, none) = q := by have := HQj.out; simpa [rrep] using this
        have HZ := Lib.hid hz
        have HG : Hid (Calls Try.prog 70 #[.pointer (some ⟨p, 0, none⟩)] wr fun e w' => e = .returned (.bool false) ∧ wr = w') := hG
        clear hz hG
        go_wp2_with (go_at_call 70; refine HG.out.mono ?_; rintro x wg ⟨rfl, rfl⟩)
        go_end0
        refine ⟨rfl, v', ?_, HBj.out⟩
        rw [← HZ.out]
        exact HDj.out
      | some l =>
        have HG : Hid (Calls Try.prog 70 #[.pointer (some ⟨p, 0, none⟩)] wr fun e w' => e = .returned (.bool true) ∧ wr = w') := hG
        have HCL := Lib.hid (clo1_any p R O B _ _ _ (some l) _ wr HDj.out (by simp only; omega))
        have hr1 : IntKind.i64.wrap (((r + 1 : Nat) : Int) - 1) = (r : Int) := by rw [show ((r + 1 : Nat) : Int) - 1 = (r : Int) by omega]; exact IntWalk.i64_in _ (by omega)
        have hr2 : IntKind.i64.wrap (((r : Int) + 1) - 1) = (r : Int) := by rw [show ((r : Int) + 1) - 1 = (r : Int) by omega]; exact IntWalk.i64_in _ (by omega)
        clear hG
        go_wp2_with (first
          | (go_at_call 70; refine HG.out.mono ?_; rintro x wg ⟨rfl, rfl⟩)
          | (go_at_call 84; refine HCL.out.mono ?_; rintro x w5 ⟨rfl, v5, hD5, hB5⟩; have HD5 := Lib.hid hD5; have HB5 := Lib.hid hB5; clear hD5 hB5))
        go_roundw
        case rel =>
          refine ⟨r, v5, xs ++ [ren (some l)], renl (some l), by rw [List.length_append]; simp; omega, by first | rfl | go_num, HD5.out, HBj.out.trans HB5.out, ?_⟩
          rw [← HQj.out]
          show (xs ++ [ren (some l)] ++ _, _) = (xs ++ (ren (some l) :: (rrep ren renl r (renl (some l))).1), _)
          rw [List.append_assoc]
          rfl
        case measure => simp [intOf]
    · obtain rfl : rem = 0 := by omega
      have e1 : decide ((0 : Int) < ((0 : Nat) : Int)) = false := rfl
      have hz : (xs, sj) = q := by have := HQj.out; simpa [rrep] using this
      have HZ := Lib.hid hz
      clear hz hG
      go_wp2_with fail
      go_end0
      refine ⟨rfl, v', ?_, HBj.out⟩
      rw [← HZ.out]
      exact HDj.out
set_option maxHeartbeats 2000000 in
theorem some2_any (p R O B most : Nat) (v1 v2 v3 : Value) (st : Option (List UInt8)) (d : OD) (w : World) (h : Dec w p R O B v1 v2 v3 st d) (hn : d.calls = []) (hmost : most ≤ 40000) :
    Calls Try.prog 81 #[.pointer (some ⟨p, 0, none⟩), .int .i64 (most : Int), .func (.func 86) #[] #[.pointer (some ⟨R, 0, none⟩), .pointer (some ⟨O, 0, none⟩)]] w fun x w' => x = .returned (.tuple #[]) ∧
      ∃ v', Dec w' p R O B v1 v2 v' (rrep ren renl (rcount most st) (rcounted most st)).2 { d with calls := (rrep ren renl (rcount most st) (rcounted most st)).1 } ∧ Below p w w' := by
  have hC := count_any p most st w h.rd
  have hM : rcount most st ≤ most := by unfold rcount; split <;> omega
  have hpw := Rd.lt h.rd
  have HD := Lib.hid h
  have HN := Lib.hid hn
  have HC := Lib.hid hC
  clear h hn hC
  generalize rcount most st = M at *
  generalize rcounted most st = st1 at *
  obtain ⟨q, hq⟩ : ∃ q, rrep ren renl M st1 = q := ⟨_, rfl⟩
  rw [hq]
  have HQ := Lib.hid hq
  clear hq
  go_enter Try.func81, Try.ntmps81
  go_wp2_with (go_at_call 69; refine HC.out.mono ?_; rintro x w2 ⟨rfl, hR2, ho2⟩)
  have hD2 := HD.out.reader hR2 ho2
  have HD2 := Lib.hid hD2
  have HB2 := Lib.hid (ho2.to_below (B := p) (Nat.le_of_lt hpw) (by simp))
  clear hD2 hR2 ho2
  go_loopw [6] (fun i wr => ∃ (rem : Nat) (v' : Value) (xs : List En) (sj : Option (List UInt8)), xs.length + rem ≤ M ∧ i = .int .i64 rem ∧ Dec wr p R O B v1 v2 v' sj { d with calls := xs } ∧ Below p w wr ∧ (xs ++ (rrep ren renl rem sj).1, (rrep ren renl rem sj).2) = q) (fun i _ => (intOf i).toNat)
  case atStart => exact ⟨M, _, [], _, by simp, rfl, by have := HD2.out; rw [← HN.out]; exact this, HB2.out, by rw [← HQ.out]; rfl⟩
  case round =>
    obtain ⟨rem, v', xs, sj, hlen, rfl, hD, hB, hq⟩ := hrel
    have HDj := Lib.hid hD
    have HBj := Lib.hid hB
    have HQj := Lib.hid hq
    have hG := good_any p sj wr hD.rd
    clear hD hB hq
    by_cases hrem : 0 < rem
    · have e1 : decide ((0 : Int) < (rem : Int)) = true := decide_eq_true (by omega)
      obtain ⟨r, rfl⟩ : ∃ r, rem = r + 1 := ⟨rem - 1, by omega⟩
      cases sj with
      | none =>
        have hz : (xs, none) = q := by have := HQj.out; simpa [rrep] using this
        have HZ := Lib.hid hz
        have HG : Hid (Calls Try.prog 70 #[.pointer (some ⟨p, 0, none⟩)] wr fun e w' => e = .returned (.bool false) ∧ wr = w') := hG
        clear hz hG
        go_wp2_with (go_at_call 70; refine HG.out.mono ?_; rintro x wg ⟨rfl, rfl⟩)
        go_end0
        refine ⟨rfl, v', ?_, HBj.out⟩
        rw [← HZ.out]
        exact HDj.out
      | some l =>
        have HG : Hid (Calls Try.prog 70 #[.pointer (some ⟨p, 0, none⟩)] wr fun e w' => e = .returned (.bool true) ∧ wr = w') := hG
        have HCL := Lib.hid (clo2_any p R O B _ _ _ (some l) _ wr HDj.out (by simp only; omega))
        have hr1 : IntKind.i64.wrap (((r + 1 : Nat) : Int) - 1) = (r : Int) := by rw [show ((r + 1 : Nat) : Int) - 1 = (r : Int) by omega]; exact IntWalk.i64_in _ (by omega)
        have hr2 : IntKind.i64.wrap (((r : Int) + 1) - 1) = (r : Int) := by rw [show ((r : Int) + 1) - 1 = (r : Int) by omega]; exact IntWalk.i64_in _ (by omega)
        clear hG
        go_wp2_with (first
          | (go_at_call 70; refine HG.out.mono ?_; rintro x wg ⟨rfl, rfl⟩)
          | (go_at_call 86; refine HCL.out.mono ?_; rintro x w5 ⟨rfl, v5, hD5, hB5⟩; have HD5 := Lib.hid hD5; have HB5 := Lib.hid hB5; clear hD5 hB5))
        go_roundw
        case rel =>
          refine ⟨r, v5, xs ++ [ren (some l)], renl (some l), by rw [List.length_append]; simp; omega, by first | rfl | go_num, HD5.out, HBj.out.trans HB5.out, ?_⟩
          rw [← HQj.out]
          show (xs ++ [ren (some l)] ++ _, _) = (xs ++ (ren (some l) :: (rrep ren renl r (renl (some l))).1), _)
          rw [List.append_assoc]
          rfl
        case measure => simp [intOf]
    · obtain rfl : rem = 0 := by omega
      have e1 : decide ((0 : Int) < ((0 : Nat) : Int)) = false := rfl
      have hz : (xs, sj) = q := by have := HQj.out; simpa [rrep] using this
      have HZ := Lib.hid hz
      clear hz hG
      go_wp2_with fail
      go_end0
      refine ⟨rfl, v', ?_, HBj.out⟩
      rw [← HZ.out]
      exact HDj.out
end Go.Proofs.Ytbeenfkmnchhbaa.Object
