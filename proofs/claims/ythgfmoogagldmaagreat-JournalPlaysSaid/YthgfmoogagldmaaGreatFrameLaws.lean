/- FrameLaws: The walks of frame: the mark of a sector, by the document; The laws of marks: what is put is got; torn sectors. -/
import Derived.Test.YthgfmoogagldmaaGreatFrameA
import Derived.Test.YthgfmoogagldmaaGreatFrameC
set_option linter.unusedVariables false
set_option maxRecDepth 100000
namespace Go.Proofs.YthgfmoogagldmaaGreat.Frame
open Go.RowKit Codec

theorem put_iff (m : Mark) (l : List UInt8) (hl : l.length = 64) : putB m = l ↔ (l.take 32 = l.drop 32 ∧ m.right ∧ halfB m = l.take 32) := by
  have hh := halfB_len m
  unfold putB
  by_cases hR : m.right
  · rw [if_pos hR]
    constructor
    · rintro rfl
      refine ⟨?_, hR, ?_⟩
      · rw [List.take_left' hh, List.drop_left' hh]
      · rw [List.take_left' hh]
    · rintro ⟨h1, _, h2⟩
      rw [h2]
      conv => lhs; arg 2; rw [h1]
      exact List.take_append_drop 32 l
  · rw [if_neg hR]
    constructor
    · rintro rfl; simp at hl
    · rintro ⟨_, h, _⟩; exact absurd h hR
theorem getR_ref (l : List UInt8) (hl : l.length = 64) : getR l = if putB (readM l) = l then (readM l, true) else (zeroM, false) := by
  unfold getR
  by_cases h : putB (readM l) = l
  · rw [if_pos h, if_pos ⟨hl, (put_iff _ _ hl).1 h⟩]
  · rw [if_neg h, if_neg (fun h' => h ((put_iff _ _ hl).2 h'.2))]
theorem strs_eq (l1 l2 : List UInt8) (b : Bool) (hb : decide (l1 = l2) = b) : ((str l1).toList == (str l2).toList) = b := by
  subst hb
  rw [Lib.toList_data, Lib.toList_data]
  by_cases h : l1 = l2
  · subst h; simp
  · rw [decide_eq_false h]
    refine beq_eq_false_iff_ne.2 (fun he => h ?_)
    simpa [str] using he
theorem count_full (st : Option (List UInt8)) : rcount 65535 st = vle (rget 2 st) ∧ rcounted 65535 st = rgot 2 st := by
  have := small_lt st
  unfold rcount rcounted
  rw [if_pos (by omega), if_pos (by omega)]
  exact ⟨rfl, rfl⟩
theorem rmark_ret (T : Array Value) (w : World) (g : Nat) (x y z u e : Value) (h2 : T[2]?.getD undef = .pointer (some ⟨g, 0, none⟩)) (h3 : T[3]?.getD undef = e)
    (hb : Blk w g 134 #[x, y, z, u]) :
    (results Tryz.f77 T).run Tryz.prog w = .ok (.tuple #[.agg #[x, y, z, u], e]) w := by
  have d0 : w.cell? ⟨g, 0, none⟩ = some x := hb.cell 0
  have d1 : w.cell? ⟨g, 1, none⟩ = some y := hb.cell 1
  have d2 : w.cell? ⟨g, 2, none⟩ = some z := hb.cell 2
  have d3 : w.cell? ⟨g, 3, none⟩ = some u := hb.cell 3
  simp [results, Tryz.results77, h2, h3, go_sem, d0, d1, d2, d3]
set_option maxHeartbeats 4000000 in
theorem rget_any (A : Option Addr) (n c B : Nat) (l : List UInt8) (w : World) (hr : Bytes w B A n l) (hB : B ≤ w.heap.size) (hnc : n ≤ c) (hcm : c ≤ maxLen) :
    Calls Tryz.prog 77 #[.slice A n c] w fun x w' => x = .returned (.tuple #[(getR l).1.val, .bool (getR l).2]) ∧ Only [] w w' := by
  have hb0 : Blk (w.alloc (.cells #[.int .i64 0, .int .i64 0, .int .i64 0, .int .i64 0] 134)) w.heap.size 134 #[.int .i64 0, .int .i64 0, .int .i64 0, .int .i64 0] := Blk.new _ _ _
  have ho0 : Only [] w (w.alloc (.cells #[.int .i64 0, .int .i64 0, .int .i64 0, .int .i64 0] 134)) := (Only.refl _ _).alloc _
  have hs0 : (w.alloc (.cells #[.int .i64 0, .int .i64 0, .int .i64 0, .int .i64 0] 134)).heap.size = w.heap.size + 1 := alloc_size _ _
  have hlen := hr.len
  have hr0 := hr.only ho0 (by simp)
  unfold maxLen at hcm
  by_cases h64 : n = 64
  · subst h64
    have hck : ¬ c = 32 := by omega
    have hck2 : ¬ c = 2 := by omega
    have hmid : Bytes (w.alloc (.cells #[.int .i64 0, .int .i64 0, .int .i64 0, .int .i64 0] 134)) B (A.map (fun x => x.add 2)) 30 ((l.drop 2).take 30) := (hr0.rest (k := 2) (by omega)).head (k := 30) (by omega)
    have HGR := Lib.hid (getR_ref l (by omega))
    have hLv : Hid (Value.slice (A.map (fun x => x.add 2)) 30 (c - 2) = Value.slice (A.map (fun x => ({ block := x.block, off := x.off + 2 } : Addr))) 30 (c - 2)) := by
      unfold Hid
      cases A with
      | none => rfl
      | some a => simp [Addr.add]
    clear hlen
    go_enter Tryz.func77, Tryz.ntmps77
    go_wp2_with fail
    have hR2 : RRd ((w.alloc (.cells #[.int .i64 0, .int .i64 0, .int .i64 0, .int .i64 0] 134)).alloc (.cells #[.slice (A.map (fun x => ({ block := x.block, off := x.off + 2 } : Addr))) 30 (c - 2), .bool false] 148)) (w.heap.size + 1) (some ((l.drop 2).take 30)) := by
      refine ⟨A.map (fun x => x.add 2), 30, c - 2, ?_, by omega, by unfold maxLen; omega, ?_⟩
      · have h := Blk.new (w.alloc (.cells #[.int .i64 0, .int .i64 0, .int .i64 0, .int .i64 0] 134)) 148 #[.slice (A.map (fun x => ({ block := x.block, off := x.off + 2 } : Addr))) 30 (c - 2), .bool false]
        rw [hs0] at h
        rw [hLv.out]
        exact h
      · exact (hmid.alloc (by rw [hs0]; omega) _).more (by omega)
    have hoz : Only [] (w.alloc (.cells #[.int .i64 0, .int .i64 0, .int .i64 0, .int .i64 0] 134)) ((w.alloc (.cells #[.int .i64 0, .int .i64 0, .int .i64 0, .int .i64 0] 134)).alloc (.cells #[.slice (A.map (fun x => ({ block := x.block, off := x.off + 2 } : Addr))) 30 (c - 2), .bool false] 148)) := (Only.refl _ _).alloc _
    have hb2 := hb0.only hoz (by simp)
    have ho2 := ho0.trans hoz (by simp)
    have hh2 := hr0.only hoz (by simp)
    clear hb0 ho0 hr0 hmid hoz hs0 hLv hr
    generalize (w.alloc (.cells #[.int .i64 0, .int .i64 0, .int .i64 0, .int .i64 0] 134)).alloc (.cells #[.slice (A.map (fun x => ({ block := x.block, off := x.off + 2 } : Addr))) 30 (c - 2), .bool false] 148) = w2 at *
    generalize hpp : w.heap.size + 1 = p at *
    have hpw : w.heap.size < p := by omega
    have hBp : B ≤ p := by omega
    clear hpp
    have hrm : readM l = ⟨(vle (rget 2 (some ((l.drop 2).take 30))) : Nat), s64 (vle (rget 8 (rgot 2 (some ((l.drop 2).take 30))))), s64 (vle (rget 8 (rgot 8 (rgot 2 (some ((l.drop 2).take 30)))))),
      s64 (vle (rget 8 (rgot 8 (rgot 8 (rgot 2 (some ((l.drop 2).take 30)))))))⟩ := rfl
    rw [hrm] at HGR
    clear hrm
    generalize some ((l.drop 2).take 30) = st0 at *
    have hct := rref_count p 65535 st0 w2 hR2
    rw [(count_full st0).1, (count_full st0).2] at hct
    refine hct.mono ?_
    rintro x w3 ⟨rfl, hR3, ho3⟩
    have hb3 := hb2.only ho3 (by simp; omega)
    have hh3 := hh2.only_pos ho3 (fun hn g hg => by have := hh2.blk_lt hn g hg; simp; omega)
    have ho3 := ho2.trans ho3 (by simp; omega)
    clear hR2 hb2 hh2 ho2 hct
    generalize vle (rget 2 st0) = mk at *
    generalize rgot 2 st0 = st1 at *
    have hpq : p < w3.heap.size := by obtain ⟨A', n', c', hbb, _⟩ := hR3; exact hbb.lt
    have hoz : Only [] w3 (w3.alloc (.cells #[.int .i64 mk, .int .i64 0, .int .i64 0, .int .i64 0] 134)) := (Only.refl _ _).alloc _
    have hb4 := hb3.only hoz (by simp)
    have hh4 := hh3.only hoz (by simp)
    have ho4 := ho3.trans hoz (by simp)
    have hR4 := hR3.later hoz (by simp)
    have hm4 := Blk.new w3 134 #[.int .i64 mk, .int .i64 0, .int .i64 0, .int .i64 0]
    clear hb3 hh3 ho3 hR3 hoz
    go_wp2_with fail
    generalize w3.alloc (.cells #[.int .i64 mk, .int .i64 0, .int .i64 0, .int .i64 0] 134) = w4 at *
    generalize w3.heap.size = q at *
    refine (rref_num p _ w4 hR4).mono ?_
    rintro x w5 ⟨rfl, hR5, ho5⟩
    have hb5 := hb4.only ho5 (by simp; omega)
    have hm5 := hm4.only ho5 (by simp; omega)
    have hh5 := hh4.only_pos ho5 (fun hn g hg => by have := hh4.blk_lt hn g hg; simp; omega)
    have ho5 := ho4.trans ho5 (by simp; omega)
    clear hR4 hb4 hh4 ho4 hm4
    generalize s64 (vle (rget 8 st1)) = mg at *
    generalize rgot 8 st1 = st2 at *
    go_wp2_with fail
    refine (rref_num p _ w5 hR5).mono ?_
    rintro x w6 ⟨rfl, hR6, ho6⟩
    have hb6 := hb5.only ho6 (by simp; omega)
    have hm6 := hm5.only ho6 (by simp; omega)
    have hh6 := hh5.only_pos ho6 (fun hn g hg => by have := hh5.blk_lt hn g hg; simp; omega)
    have ho6 := ho5.trans ho6 (by simp; omega)
    clear hR5 hb5 hh5 ho5 hm5
    generalize s64 (vle (rget 8 st2)) = ms at *
    generalize rgot 8 st2 = st3 at *
    go_wp2_with fail
    refine (rref_num p _ w6 hR6).mono ?_
    rintro x w7 ⟨rfl, hR7, ho7⟩
    have hb7 := hb6.only ho7 (by simp; omega)
    have hm7 := hm6.only ho7 (by simp; omega)
    have hh7 := hh6.only_pos ho7 (fun hn g hg => by have := hh6.blk_lt hn g hg; simp; omega)
    have ho7 := ho6.trans ho7 (by simp; omega)
    clear hR6 hb6 hh6 ho6 hm6 hR7
    generalize s64 (vle (rget 8 st3)) = mn at *
    have g1 : w7.cell? ⟨q, 1, none⟩ = some (.int .i64 0) := hm7.cell 1
    have g2 : w7.cell? ⟨q, 2, none⟩ = some (.int .i64 0) := hm7.cell 2
    have g3 : w7.cell? ⟨q, 3, none⟩ = some (.int .i64 0) := hm7.cell 3
    have k1 := hm7.frozen 1
    have k2 := hm7.frozen 2
    have k3 := hm7.frozen 3
    go_wp2_with fail
    clear g1 g2 g3 k1 k2 k3
    have hS : Only [q] w7 (((w7.setCell ⟨q, 1, none⟩ (.int .i64 mg)).setCell ⟨q, 2, none⟩ (.int .i64 ms)).setCell ⟨q, 3, none⟩ (.int .i64 mn)) := (((Only.refl [q] w7).setCell (p := ⟨q, 1, none⟩) (.inl (by simp)) _).setCell (p := ⟨q, 2, none⟩) (.inl (by simp)) _).setCell (p := ⟨q, 3, none⟩) (.inl (by simp)) _
    have hm8 : Blk (((w7.setCell ⟨q, 1, none⟩ (.int .i64 mg)).setCell ⟨q, 2, none⟩ (.int .i64 ms)).setCell ⟨q, 3, none⟩ (.int .i64 mn)) q _ #[.int .i64 mk, .int .i64 mg, .int .i64 ms, .int .i64 mn] := ((hm7.set_ 1 _).set_ 2 _).set_ 3 _
    have hb8 := hb7.only hS (by simp; omega)
    have hh8 := hh7.only_pos hS (fun hn g hg => by have := hh7.blk_lt hn g hg; simp; omega)
    have ho8 := ho7.trans hS (by simp; omega)
    clear hb7 hm7 hh7 ho7 hS
    obtain ⟨w8, hw8⟩ : ∃ w8, ((w7.setCell ⟨q, 1, none⟩ (.int .i64 mg)).setCell ⟨q, 2, none⟩ (.int .i64 ms)).setCell ⟨q, 3, none⟩ (.int .i64 mn) = w8 := ⟨_, rfl⟩
    rw [hw8] at hm8 hb8 hh8 ho8 ⊢
    clear hw8
    have hc : ∀ w', Only [] w8 w' → (Only [] w w' ∧ Blk w' w.heap.size 134 #[.int .i64 0, .int .i64 0, .int .i64 0, .int .i64 0] ∧ Bytes w' B A 64 l) ∧
        (w'.cell? ⟨q, 0, none⟩ = some (.int .i64 mk) ∧ w'.cell? ⟨q, 1, none⟩ = some (.int .i64 mg) ∧ w'.cell? ⟨q, 2, none⟩ = some (.int .i64 ms) ∧ w'.cell? ⟨q, 3, none⟩ = some (.int .i64 mn)) := fun w' h =>
      ⟨⟨ho8.trans h (by simp), hb8.only h (by simp), hh8.only h (by simp)⟩, ⟨(hm8.only h (by simp)).cell 0, (hm8.only h (by simp)).cell 1, (hm8.only h (by simp)).cell 2, (hm8.only h (by simp)).cell 3⟩⟩
    have HC := Lib.hid hc
    clear hc hb8 hh8 hm8 ho8
    have hPt := rput_any ⟨mk, mg, ms, mn⟩ w8.drew
    have hMv : (⟨mk, mg, ms, mn⟩ : Mark).val = .agg #[.int .i64 mk, .int .i64 mg, .int .i64 ms, .int .i64 mn] := rfl
    rw [hMv] at hPt
    clear hMv
    have hdd := (HC.out w8.drew ((Only.refl _ _).drew)).1.2.2
    have hsb := run_str hdd c
    clear hdd
    obtain ⟨_, ⟨x0, x1, x2, x3⟩⟩ := HC.out w8 (Only.refl _ _)
    have hod : Only [] w8 w8.drew := (Only.refl _ _).drew
    have HOD := Lib.hid hod
    clear hod
    by_cases hE : putB ⟨mk, mg, ms, mn⟩ = l
    · have hq := strs_eq _ _ true (decide_eq_true hE)
      rw [if_pos hE] at HGR
      have HPT := Lib.hid hPt
      have HQ := Lib.hid hq
      clear hPt hq hE
      generalize putB ⟨mk, mg, ms, mn⟩ = P at *
      go_wp2_with fail
      go_region_with (go_at_call 81; refine Calls.mono HPT.out ?_; rintro x wa ⟨v, rfl, hv, hoa⟩; obtain ⟨A3, cap3, rfl, hc3, hm3, hr3, _⟩ := hv.shape; obtain ⟨⟨hoA, hbA, hhA⟩, ⟨y0, y1, y2, y3⟩⟩ := HC.out wa (HOD.out.trans hoa (by simp)); have hsp := run_str hr3 cap3; have hsb2 := run_str hhA c; have hqq := HQ.out)
      all_goals
        have b0 : wa.cell? ⟨w.heap.size, 0, none⟩ = some (.int .i64 0) := hbA.cell 0
        have b1 : wa.cell? ⟨w.heap.size, 1, none⟩ = some (.int .i64 0) := hbA.cell 1
        have b2 : wa.cell? ⟨w.heap.size, 2, none⟩ = some (.int .i64 0) := hbA.cell 2
        have b3 : wa.cell? ⟨w.heap.size, 3, none⟩ = some (.int .i64 0) := hbA.cell 3
        have f0 := hbA.frozen 0
        have f1 := hbA.frozen 1
        have f2 := hbA.frozen 2
        have f3 := hbA.frozen 3
        go_wp2_with fail
        exact bodyPost_ret (rmark_ret _ _ w.heap.size _ _ _ _ _ rfl rfl (blk4 hbA _ _ _ _)) rfl ⟨by rw [HGR.out]; rfl, only4 hoA (Nat.le_refl _) _ _ _ _⟩
    · have hq := strs_eq _ _ false (decide_eq_false hE)
      rw [if_neg hE] at HGR
      have HPT := Lib.hid hPt
      have HQ := Lib.hid hq
      clear hPt hq hE
      generalize putB ⟨mk, mg, ms, mn⟩ = P at *
      go_wp2_with fail
      go_region_with (go_at_call 81; refine Calls.mono HPT.out ?_; rintro x wa ⟨v, rfl, hv, hoa⟩; obtain ⟨A3, cap3, rfl, hc3, hm3, hr3, _⟩ := hv.shape; obtain ⟨⟨hoA, hbA, hhA⟩, ⟨y0, y1, y2, y3⟩⟩ := HC.out wa (HOD.out.trans hoa (by simp)); have hsp := run_str hr3 cap3; have hsb2 := run_str hhA c; have hqq := HQ.out)
      all_goals
        have b0 : wa.cell? ⟨w.heap.size, 0, none⟩ = some (.int .i64 0) := hbA.cell 0
        have b1 : wa.cell? ⟨w.heap.size, 1, none⟩ = some (.int .i64 0) := hbA.cell 1
        have b2 : wa.cell? ⟨w.heap.size, 2, none⟩ = some (.int .i64 0) := hbA.cell 2
        have b3 : wa.cell? ⟨w.heap.size, 3, none⟩ = some (.int .i64 0) := hbA.cell 3
        have f0 := hbA.frozen 0
        have f1 := hbA.frozen 1
        have f2 := hbA.frozen 2
        have f3 := hbA.frozen 3
        go_wp2_with fail
        exact bodyPost_ret (rmark_ret _ _ w.heap.size _ _ _ _ _ rfl rfl (blk4 hbA _ _ _ _)) rfl ⟨by rw [HGR.out]; rfl, only4 hoA (Nat.le_refl _) _ _ _ _⟩
  · have h64' : ¬ ((n : Int) = 64) := by omega
    have hg : getR l = (zeroM, false) := getR_no (fun h => h64 (by omega))
    have HG : Hid ((.returned (.tuple #[.agg #[.int .i64 0, .int .i64 0, .int .i64 0, .int .i64 0], .bool false]) : Ending) = .returned (.tuple #[(getR l).1.val, .bool (getR l).2])) := by unfold Hid; rw [hg]; rfl
    clear hg hr0 hr hlen
    go_enter Tryz.func77, Tryz.ntmps77
    go_wp2_with fail
    exact bodyPost_ret (rmark_ret _ _ w.heap.size _ _ _ _ _ rfl rfl hb0) rfl ⟨HG.out, ho0⟩
end Go.Proofs.YthgfmoogagldmaaGreat.Frame
namespace Go.Proofs.YthgfmoogagldmaaGreat.Frame
open Go.RowKit Codec

def Mark.fits (m : Mark) : Prop := (-9223372036854775808 ≤ m.k ∧ m.k < 9223372036854775808) ∧ (-9223372036854775808 ≤ m.g ∧ m.g < 9223372036854775808) ∧ (-9223372036854775808 ≤ m.s ∧ m.s < 9223372036854775808) ∧ (-9223372036854775808 ≤ m.n ∧ m.n < 9223372036854775808)
theorem read_back (m : Mark) (rest : List UInt8) (hr : m.right) (hf : m.fits) : readM (halfB m ++ rest) = m := by
  obtain ⟨k, g, s, n⟩ := m
  unfold Mark.right at hr
  unfold Mark.fits at hf
  simp only at hr hf
  have hcl : clamp k = k.toNat := by unfold clamp; omega
  have e1 : ((halfB ⟨k, g, s, n⟩ ++ rest).drop 2).take 30 = le k.toNat 2 ++ (le (u64 g) 8 ++ (le (u64 s) 8 ++ (le (u64 n) 8 ++ le (Sums.crc (Sums.nats (headB ⟨k, g, s, n⟩))) 4))) := by
    have e2 : halfB ⟨k, g, s, n⟩ ++ rest = [84, 77] ++ ((le k.toNat 2 ++ (le (u64 g) 8 ++ (le (u64 s) 8 ++ (le (u64 n) 8 ++ le (Sums.crc (Sums.nats (headB ⟨k, g, s, n⟩))) 4)))) ++ rest) := by
      unfold halfB
      generalize le (Sums.crc (Sums.nats (headB ⟨k, g, s, n⟩))) 4 = C
      unfold headB
      simp [smalls, nums, hcl]
    rw [e2, List.drop_left' (by rfl), List.take_left' (by simp [le_len])]
  unfold readM
  rw [e1]
  have b1 := back_two k.toNat (le (u64 g) 8 ++ (le (u64 s) 8 ++ (le (u64 n) 8 ++ le (Sums.crc (Sums.nats (headB ⟨k, g, s, n⟩))) 4))) (by omega)
  have b2 := back_num g (le (u64 s) 8 ++ (le (u64 n) 8 ++ le (Sums.crc (Sums.nats (headB ⟨k, g, s, n⟩))) 4)) hf.2.1.1 hf.2.1.2
  have b3 := back_num s (le (u64 n) 8 ++ le (Sums.crc (Sums.nats (headB ⟨k, g, s, n⟩))) 4) hf.2.2.1.1 hf.2.2.1.2
  have b4 := back_num n (le (Sums.crc (Sums.nats (headB ⟨k, g, s, n⟩))) 4) hf.2.2.2.1 hf.2.2.2.2
  rw [b1.1, b1.2, b2.1, b2.2, b3.1, b3.2, b4.1, Int.toNat_of_nonneg (by omega)]
theorem torn (m : Mark) (t : List UInt8) (hm : m.right) (hf : m.fits) (ht : t.length = 32) : getR (halfB m ++ t) = if halfB m = t then (m, true) else (zeroM, false) := by
  have hh := halfB_len m
  unfold getR
  rw [List.take_left' hh, List.drop_left' hh, read_back m t hm hf]
  by_cases h : halfB m = t
  · rw [if_pos ⟨by rw [List.length_append, hh, ht], h, hm, rfl⟩, if_pos h]
  · rw [if_neg (fun h' => h h'.2.1), if_neg h]
theorem got_put (m : Mark) (hm : m.right) (hf : m.fits) : getR (putB m) = (m, true) := by
  have hp : putB m = halfB m ++ halfB m := if_pos hm
  rw [hp, torn m (halfB m) hm hf (halfB_len m), if_pos rfl]
def oneM : Mark := ⟨1, 2, 3, 4⟩
end Go.Proofs.YthgfmoogagldmaaGreat.Frame
