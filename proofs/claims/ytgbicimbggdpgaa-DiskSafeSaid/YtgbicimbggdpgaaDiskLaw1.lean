/- The law's own bytes; what must come of a disk. -/
import Derived.Test.YtgbicimbggdpgaaDisk8
import Derived.Laws.BitsLemmas
namespace Go.Proofs.Ytgbicimbggdpgaa.Disk
open Go.RowKit Go.Maps
set_option linter.unusedVariables false
set_option maxRecDepth 100000
theorem i64_and7 (n : Int) : bits .and .i64 n 7 = n % 8 := by
  have h7 : (BitVec.ofInt 64 7).toNat = 2 ^ 3 - 1 := by decide
  have key : (BitVec.ofInt 64 n &&& BitVec.ofInt 64 7).toNat = (n % ((2 ^ 64 : Nat) : Int)).toNat % 2 ^ 3 := by
    rw [BitVec.toNat_and, BitVec.toNat_ofInt, h7, Nat.and_two_pow_sub_one_eq_mod]
  show IntKind.i64.wrap ((BitVec.ofInt 64 n &&& BitVec.ofInt 64 7).toNat : Nat) = n % 8
  rw [key, IntKind.wrap_i64]
  omega
theorem i64_and3 (n : Int) : bits .and .i64 n 3 = n % 4 := by
  have h7 : (BitVec.ofInt 64 3).toNat = 2 ^ 2 - 1 := by decide
  have key : (BitVec.ofInt 64 n &&& BitVec.ofInt 64 3).toNat = (n % ((2 ^ 64 : Nat) : Int)).toNat % 2 ^ 2 := by
    rw [BitVec.toNat_and, BitVec.toNat_ofInt, h7, Nat.and_two_pow_sub_one_eq_mod]
  show IntKind.i64.wrap ((BitVec.ofInt 64 n &&& BitVec.ofInt 64 3).toNat : Nat) = n % 4
  rw [key, IntKind.wrap_i64]
  omega
theorem dnum_is (z : Int) (w : World) : Calls Try.prog 6 #[.int .i64 z] w fun x w' => x = .returned (.int .i64 z) ∧ w = w' := by
  go_enter Try.func6, Try.ntmps6
  go_wp2_with fail
  go_ret
  exact ⟨rfl, rfl⟩
/-- the law's bytes, as far as they are laid -/
def fillK (b : UInt8) (k : Nat) : List UInt8 := (List.range 64).map fun j => if j < k then b + UInt8.ofNat (j / 32) else 0
def fillB (b : UInt8) : List UInt8 := fillK b 64
theorem fillK_len (b : UInt8) (k : Nat) : (fillK b k).length = 64 := by unfold fillK; simp
theorem fillK_zero (b : UInt8) : fillK b 0 = List.replicate 64 0 := by
  unfold fillK
  rw [List.map_congr_left (g := fun _ => 0) (fun j _ => by simp)]
  rfl
theorem fillK_set (b : UInt8) {k : Nat} (hk : k < 64) : (fillK b k).set k (b + UInt8.ofNat (k / 32)) = fillK b (k + 1) := by
  apply List.ext_getElem?
  intro j
  by_cases e : k = j
  · subst e
    rw [List.getElem?_set_self (by rw [fillK_len]; exact hk)]
    unfold fillK
    rw [List.getElem?_map, List.getElem?_range hk]
    simp
  · rw [List.getElem?_set_ne e]
    unfold fillK
    rw [List.getElem?_map, List.getElem?_map]
    cases h : (List.range 64)[j]? with
    | none => rfl
    | some q =>
      obtain ⟨h1, h2⟩ := List.getElem?_eq_some_iff.1 h
      have h3 : q = j := by rw [← h2, List.getElem_range]
      subst h3
      have : (q < k) = (q < k + 1) := by
        simp only [eq_iff_iff]
        omega
      simp only [Option.map_some, this]
theorem own_made {w : World} {base : Nat} {g : Nat} (h : w.ownsRow base 5 1 (.slice (some ⟨g, 0, none⟩) 64 64) 64 (madeCells (Value.int .u8 0).cells (64 * 1)).toList) : OwnB w base (.slice (some ⟨g, 0, none⟩) 64 64) 64 (List.replicate 64 0) := by
  unfold OwnB
  rw [show (madeCells (Value.int .u8 0).cells (64 * 1)).toList = (List.replicate 64 (0 : UInt8)).map B8 from by
    rw [show (Value.int .u8 0).cells = #[.int .u8 0] from rfl, toList_madeCells_one, List.map_replicate]
    rfl] at h
  exact h
set_option maxHeartbeats 1000000 in
theorem lbytes_any (b : UInt8) (w : World) : Calls Try.prog 9 #[.int .u8 (b.toNat : Int), .int .i64 64] w fun x w' => ∃ q, x = .returned (.slice (some ⟨q, 0, none⟩) 64 64) ∧ w.heap.size ≤ q ∧ OwnB w' w.heap.size (.slice (some ⟨q, 0, none⟩) 64 64) 64 (fillB b) ∧ Only [] w w' := by
  obtain ⟨i0, hi0, hz0, hz1, hz2⟩ := info_parts byte_info
  have hbt := UInt8.toNat_lt b
  have h127 : bits BinOp.and IntKind.i64 64 127 = 64 := by decide
  go_enter Try.func9, Try.ntmps9
  go_wp2_with (at_make; refine wpList_make_full w rfl _ _ 29 rfl w.heap.size 5 i0 _ 1 Try.underlying29 hi0 hz0 hz1 _ _ _ _ 64 rfl rfl (by decide) (by decide) (by rw [hz2]; decide) (by decide) (Nat.le_refl _) ?_; intro w2 hmk hgk)
  have ho2 : Only [] w w2 := Only.of_grown hgk
  have hown := own_made hmk
  rw [← fillK_zero b] at hown
  have HOW := Lib.hid hown
  have HO2 := Lib.hid ho2
  clear hmk hgk hown ho2
  obtain ⟨q, hq⟩ : ∃ q, w.heap.size = q := ⟨_, rfl⟩
  rw [hq] at HOW ⊢
  have HQ := Lib.hid hq
  clear hq
  go_loopw [6] (fun i wr => ∃ k : Nat, k ≤ 64 ∧ i = .int .i64 k ∧ OwnB wr q (.slice (some ⟨q, 0, none⟩) 64 64) 64 (fillK b k) ∧ Only [] w wr) (fun i _ => 64 - (intOf i).toNat)
  case atStart => exact ⟨0, by omega, rfl, HOW.out, HO2.out⟩
  case round =>
    clear HOW HO2
    obtain ⟨k, hk, rfl, hown, ho⟩ := hrel
    have HOW := Lib.hid hown
    have HO := Lib.hid ho
    by_cases hlt : k < 64
    · have e1 : decide ((k : Int) < 64) = true := decide_eq_true (by omega)
      have hc := hown.cell hlt
      have hf := hown.frozen k
      clear hown ho
      go_wp2_with fail
      have hst := HOW.out.stored (k := k) (b + UInt8.ofNat (k / 32))
      rw [fillK_set b hlt] at hst
      have hv : B8 (b + UInt8.ofNat (k / 32)) = .int .u8 (((b.toNat : Int) + (k : Int) / 32) % 256) := by
        unfold B8
        rw [UInt8.toNat_add, UInt8.toNat_ofNat']
        congr 1
        omega
      rw [hv] at hst
      have hos := HO.out.setCell (p := ⟨q, k, none⟩) (.inr (by have := HQ.out; show w.heap.size ≤ q; omega)) (.int .u8 (((b.toNat : Int) + (k : Int) / 32) % 256))
      go_roundw
      case measure => simp [intOf]; omega
      case rel => exact ⟨k + 1, by omega, by go_num, hst, hos⟩
    · obtain rfl : k = 64 := by omega
      clear hown ho
      go_wp2_with fail
      go_ret
      exact ⟨q, rfl, by rw [HQ.out]; exact Nat.le_refl _, by rw [HQ.out]; exact HOW.out, HO.out⟩
theorem fillB_len (b : UInt8) : (fillB b).length = 64 := fillK_len b 64
def d4 : DS := stepD { newD 2 with wait := setW (newD 2).wait 1 (fillB 5) }
theorem d4_waits : waitsD d4 [1] := by
  refine ⟨by simp, fun i => ?_⟩
  unfold d4 stepD setW newD
  simp only [List.mem_singleton]
  by_cases e : i = 1
  · subst e; simp
  · simp [e]
theorem d4_read : readD (crashD d4 [2] [1]) 1 = (fillB 5).take 32 ++ (List.replicate 64 (0 : UInt8)).drop 32 := by
  have hw : d4.wait 1 = some (fillB 5) := rfl
  have hs : d4.safe 1 = List.replicate 64 0 := rfl
  have hz : fateZ [2] 0 = 2 := by decide
  show crashK d4 [2] [1] 1 1 = _
  unfold crashK
  rw [if_pos (by simp), show List.idxOf 1 [1] = 0 from rfl, hz]
  unfold crashAt
  rw [hw, hs]
  show crashL 2 (List.replicate 64 0) (fillB 5) = _
  unfold crashL
  rw [if_pos (by decide), if_neg (by decide)]
theorem d4_first : ((readD (crashD d4 [2] [1]) 1).getD 0 0).toNat = 5 ∧ ((readD (crashD d4 [2] [1]) 1).getD 63 0).toNat = 0 := by
  rw [d4_read]
  decide +kernel
set_option maxHeartbeats 4000000 in
theorem dknows_any (w : World) : Calls Try.prog 4 #[] w fun x w' => x = .returned (.bool true) ∧ Only [] w w' := by
  have HNEW := Lib.hid (new_any 2 (by decide) (by decide) w)
  have HNUM := Lib.hid dnum_is
  go_enter Try.func4, Try.ntmps4
  go_wp2_with fail
  refine HNEW.out.mono ?_
  rintro x w2 ⟨p, g, b, cap, rfl, hi, lp, lg, lb, ho2⟩
  have HI2 := Lib.hid hi
  have HLB := Lib.hid (lbytes_any 5 w2)
  rw [show ((5 : UInt8).toNat : Int) = 5 from rfl] at HLB
  have HO2 := Lib.hid ho2
  clear hi ho2 HNEW
  go_wp2_with fail
  refine HLB.out.mono ?_
  rintro x w3 ⟨q, rfl, hq, hown, ho3⟩
  have hi3 := HI2.out.only0 ho3
  have HW := Lib.hid (write_any hi3 1 (c := 64) hown.reads (Nat.le_refl _) (by simp [newD]) (by decide))
  have HO3 := Lib.hid (HO2.out.trans ho3 (by simp))
  clear hi3 hown ho3 HLB HI2 HO2
  go_wp2_with fail
  refine HW.out.mono ?_
  intro x w4 hx
  unfold WriteO at hx
  rw [if_neg (by simp [newD]), if_pos ⟨by decide, by simp [newD], fillB_len 5⟩] at hx
  obtain ⟨rfl, W4, hi4, hn4, ho4⟩ := hx
  have hi4' : IsD w4 p g b W4 cap d4 := hi4
  have hl4 := hi4'.lt
  have hia := hi4'.only0 ((Only.refl [] w4).alloc (.cells #[.int .i64 2] 3))
  have hrd : Reads (w4.alloc (.cells #[.int .i64 2] 3)) (w4.alloc (.cells #[.int .i64 2] 3)).heap.size 1 (some ⟨w4.heap.size, 0, none⟩) 1 [Value.int .i64 2] := by
    have := Reads.const w4 [Value.int .i64 2] #[.int .i64 2] 3 (0, 0) rfl
    rw [World.size_alloc]
    exact this
  have HCR := Lib.hid (crash_any (some ⟨w4.heap.size, 0, none⟩) 1 hia [2] hrd (by decide) (by intro _ k hk; simp [blkOf] at hk; omega))
  simp only [List.length_cons, List.length_nil, Nat.zero_add] at HCR
  have HO4 : Hid (Only [] w w4) := Lib.hid (HO3.out.trans ho4 (fun k hk => .inr (by simp at hk; rcases hk with rfl | rfl | rfl <;> assumption)))
  clear hi4 hi4' hia hrd ho4 hn4 HW HO3
  go_wp2_with fail
  refine HCR.out.mono ?_
  rintro x w5 ⟨ks, hks, rfl, W5, hi5, hn5, ho5⟩
  obtain rfl := hks.uniq d4_waits
  obtain ⟨hf1, hf2⟩ := d4_first
  have HRD := Lib.hid (read_any hi5 1)
  have HI5 := Lib.hid hi5
  have HO5 : Hid (Only [] w w5) := Lib.hid ((HO4.out.alloc _).trans ho5 (fun k hk => .inr (by simp at hk; rcases hk with rfl | rfl | rfl <;> assumption)))
  have HF1 := Lib.hid hf1
  have HF2 := Lib.hid hf2
  clear hi5 hks hn5 ho5 HCR HO4 hf1 hf2
  go_wp2_with fail
  refine HRD.out.mono ?_
  intro x w6 hx
  unfold ReadO at hx
  rw [if_neg (by simp [crashD]), if_pos ⟨by decide, by simp [crashD, d4, stepD, newD]⟩] at hx
  obtain ⟨r, rc, rfl, hr1, hown, hrc, hrm, ho6⟩ := hx
  have c0 := hown.cell (k := 0) (by decide)
  have c63 := hown.cell (k := 63) (by decide)
  rw [show (1 : Int).toNat = 1 from rfl, HF1.out] at c0
  rw [show (1 : Int).toNat = 1 from rfl, HF2.out] at c63
  have HSC := Lib.hid (sectors_any (HI5.out.only0 ho6))
  have HO6 := Lib.hid (HO5.out.trans ho6 (by simp))
  clear hown ho6 HI5 HRD HF1 HF2 HO5
  go_wp2_with (first
    | (go_at_call 6; refine (HNUM.out _ _).mono ?_; rintro x wn ⟨rfl, rfl⟩)
    | (go_at_call 14; refine HSC.out.mono ?_; rintro x wn ⟨rfl, rfl⟩))
  go_ret
  exact ⟨by simp [crashD, d4, stepD, newD], HO6.out⟩
end Go.Proofs.Ytgbicimbggdpgaa.Disk
