/- JournalB: What groups take; a sector of 0; the half of a disk; A group's mark; a group's bytes are written; A group's bytes are written; Groups in memory, a journal in memory; bytes.Clone of any bytes; clones; A journal's looks: none, down, refuse, Room, Used, Gen, Down, Groups. -/
import Derived.Test.YthgfmoogagldmaaGreatJournalA
import Derived.Test.YthgfmoogagldmaaGreatFrameUnpack2q
import Derived.Test.YthgfmoogagldmaaGreatPackA
import Derived.Deep.RegionHeld
import Derived.BigRegion
import Derived.Laws.BitsLemmas
set_option linter.unusedVariables false
set_option maxRecDepth 100000
namespace Go.Proofs.YthgfmoogagldmaaGreat.Journal
open Go.RowKit Disk Go.Proofs.YthgfmoogagldmaaGreat.Frame
theorem takes_any (A : Option Addr) (n c : Nat) (w : World) (hn : n ≤ 1000000000) : Calls Tryz.prog 64 #[.slice A n c] w fun x w' => x = .returned (.int .i64 (1 + needZ n)) ∧ w' = w := by
  have HN := Lib.hid (need_int (n : Int) w (by omega) (by omega))
  have hz : 0 ≤ needZ n ∧ needZ n ≤ 1000000000 := by unfold needZ; split <;> omega
  obtain ⟨z0, z1⟩ := hz
  obtain ⟨z, hz⟩ : ∃ z, needZ (n : Int) = z := ⟨_, rfl⟩
  rw [hz] at HN z0 z1 ⊢
  clear hz
  go_enter Tryz.func64, Tryz.ntmps64
  go_wp2_with (go_at_call 110; refine HN.out.mono ?_; rintro x w2 ⟨rfl, rfl⟩)
  go_ret
  exact ⟨rfl, rfl⟩
def Gs (w : World) (B : Nat) (A : Option Addr) (n : Nat) (ls : List (List UInt8)) : Prop := ∃ ss : List Sl, ss.length = n ∧ Reads w B 1 A n (ss.map Sl.val) ∧ ss.map (·.l) = ls ∧ ∀ s ∈ ss, Bytes w w.heap.size s.A s.n s.l ∧ s.n ≤ s.c ∧ s.c ≤ maxLen ∧ s.n ≤ 1048576
theorem foldl_take {l : List (List UInt8)} {k : Nat} {b : List UInt8} (h : l[k]? = some b) : takesL (l.take (k + 1)) = takesL (l.take k) + takesB b := by
  obtain ⟨hk, rfl⟩ := List.getElem?_eq_some_iff.1 h
  unfold takesL
  rw [List.take_succ_eq_append_getElem hk, List.foldl_append]
  rfl
theorem takesB_le {b : List UInt8} (h : b.length ≤ 1048576) : 1 ≤ takesB b ∧ takesB b ≤ 20000 := by
  unfold takesB needZ
  split <;> omega
theorem takesL_le : ∀ (k : Nat) (l : List (List UInt8)), (∀ b ∈ l, b.length ≤ 1048576) → k ≤ l.length → 0 ≤ takesL (l.take k) ∧ takesL (l.take k) ≤ 20000 * (k : Int)
  | 0, l, _, _ => by unfold takesL; simp
  | k + 1, l, h, hk => by
    obtain ⟨b, hb⟩ : ∃ b, l[k]? = some b := ⟨_, List.getElem?_eq_getElem (by omega)⟩
    have := takesL_le k l h (by omega)
    have h2 := takesB_le (h b (List.mem_of_getElem? hb))
    rw [foldl_take hb]
    omega
theorem takesG_any (A : Option Addr) (n c B : Nat) (ls : List (List UInt8)) (w : World) (hg : Gs w B A n ls) (hn : n ≤ 1000000) : Calls Tryz.prog 54 #[.slice A n c] w fun x w' => x = .returned (.int .i64 (takesL ls)) ∧ w' = w := by
  obtain ⟨ss, hl, hr, hls, hok⟩ := hg
  have HR := Lib.hid hr
  have HOK := Lib.hid hok
  have HLS := Lib.hid hls
  have HL := Lib.hid hl
  have hb : ∀ b ∈ ls, b.length ≤ 1048576 := fun b hb => by
    rw [← hls] at hb
    obtain ⟨s, hs, rfl⟩ := List.mem_map.1 hb
    have h1 := hok s hs
    have := h1.1.len
    omega
  have hll : ls.length = n := by rw [← hls, List.length_map, hl]
  have HLL := Lib.hid hll
  have HBB := Lib.hid hb
  clear hr hok hls hl hb hll
  go_enter Tryz.func54, Tryz.ntmps54
  go_wp2_with fail
  go_loop [3, 8] (fun t i => ∃ k : Nat, k ≤ n ∧ i = .int .i64 k ∧ t = .int .i64 (takesL (ls.take k))) (fun _ i => n - (intOf i).toNat)
  case atStart => exact ⟨0, by omega, rfl, by simp [takesL]⟩
  case round =>
    obtain ⟨k, hk, rfl, rfl⟩ := hrel
    by_cases hlt : k < n
    · have e1 : decide ((k : Int) < (n : Int)) = true := decide_eq_true (by omega)
      have e1' : decide (k < n) = true := decide_eq_true hlt
      obtain ⟨b, off, hA, hbb, s, hs, hsk, hc⟩ := Reads.sl HR.out k hlt
      subst hA
      obtain ⟨s1, s2, s3, s4⟩ := HOK.out s hs
      have hat : ls[k]? = some s.l := by rw [← HLS.out, List.getElem?_map, hsk]; rfl
      have hft := foldl_take hat
      have hle := takesL_le k ls HBB.out (by rw [HLL.out]; omega)
      have hsl := s1.len
      have htb : takesB s.l = 1 + needZ (s.n : Int) := by unfold takesB; rw [hsl]
      have htl := takesB_le (b := s.l) (by omega)
      rw [htb] at hft htl
      obtain ⟨t0, ht0⟩ : ∃ t, takesL (ls.take k) = t := ⟨_, rfl⟩
      rw [ht0] at hft hle ⊢
      obtain ⟨z, hz⟩ : ∃ z, needZ (s.n : Int) = z := ⟨_, rfl⟩
      have HT := Lib.hid (takes_any s.A s.n s.c w (by omega))
      rw [hz] at hft htl HT
      have HF := Lib.hid hft
      obtain ⟨l0, l1⟩ := hle
      obtain ⟨l2, l3⟩ := htl
      clear hft htb hsl hat hsk hs s1 hz ht0
      go_wp2_with (go_at_call 64; refine HT.out.mono ?_; rintro x w2 ⟨rfl, rfl⟩)
      go_round
      case measure => simp [intOf]; omega
      case rel => exact ⟨k + 1, by omega, by go_num, by rw [HF.out]⟩
    · obtain rfl : k = n := by omega
      have e1 : decide ((k : Int) < (k : Int)) = false := decide_eq_false (by omega)
      have e1' : decide (k < k) = false := decide_eq_false (by omega)
      have hta : ls.take k = ls := List.take_of_length_le (by rw [HLL.out]; exact Nat.le_refl _)
      rw [hta]
      clear hta
      go_wp2_with fail
      go_ret
      exact ⟨rfl, rfl⟩
theorem own_zeros {w : World} {base : Nat} {g : Nat} (h : w.ownsRow base 5 1 (.slice (some ⟨g, 0, none⟩) 64 64) 64 (madeCells (Value.int .u8 0).cells (64 * 1)).toList) : OwnB w base (.slice (some ⟨g, 0, none⟩) 64 64) 64 zeros := by
  unfold OwnB zeros
  rw [show (madeCells (Value.int .u8 0).cells (64 * 1)).toList = (List.replicate 64 (0 : UInt8)).map B8 from by
    rw [show (Value.int .u8 0).cells = #[.int .u8 0] from rfl, toList_madeCells_one, List.map_replicate]
    rfl] at h
  exact h
theorem i64_and1 (n : Int) : bits .and .i64 n 1 = n % 2 := by
  have h7 : (BitVec.ofInt 64 1).toNat = 2 ^ 1 - 1 := by decide
  have key : (BitVec.ofInt 64 n &&& BitVec.ofInt 64 1).toNat = (n % ((2 ^ 64 : Nat) : Int)).toNat % 2 ^ 1 := by
    rw [BitVec.toNat_and, BitVec.toNat_ofInt, h7, Nat.and_two_pow_sub_one_eq_mod]
  show IntKind.i64.wrap ((BitVec.ofInt 64 n &&& BitVec.ofInt 64 1).toNat : Nat) = n % 2
  rw [key, IntKind.wrap_i64]
  omega
section
variable {w w' : World} {p g b cap : Nat} {W : List Nat} {d : DS}
set_option maxHeartbeats 1000000 in
theorem zero_any (hd : IsD w p g b W cap d) (h : Half) (hs : h.small) (a : Int) (ha : 0 ≤ a ∧ a ≤ 200000) (hdn : d.done ≤ 4611686018427387904) :
    Calls Tryz.prog 58 #[h.val p, .int .i64 a] w fun x w' => BoolJ w p g b W cap (zeroH d h a) x w' := by
  obtain ⟨w1, hw1⟩ : ∃ w1, w.alloc (.cells #[.pointer (some ⟨p, 0, none⟩), .int .i64 h.gen, .int .i64 h.fr, .int .i64 h.room] 63) = w1 := ⟨_, rfl⟩
  have ho : Only [] w w1 := by rw [← hw1]; exact (Only.refl [] w).alloc _
  have hbk : Blk w1 w.heap.size 63 #[.pointer (some ⟨p, 0, none⟩), .int .i64 h.gen, .int .i64 h.fr, .int .i64 h.room] := by rw [← hw1]; exact Blk.new w _ _
  have h1 := hd.only0 ho
  have HO := Lib.hid ho
  have H1 := Lib.hid h1
  unfold zeroH
  by_cases hra : h.room ≤ a
  · rw [if_pos hra]
    have e1 : decide (h.room ≤ a) = true := decide_eq_true hra
    have hb1 := hbk.drew
    have y0 := hb1.cell 3
    clear hd hbk ho h1 hra
    obtain ⟨gen, fr, room⟩ := h
    unfold Half.val
    simp only at e1 y0 hw1 ⊢
    go_enter Tryz.func58, Tryz.ntmps58
    go_wp2_with fail
    go_region
    go_wp2_with fail
    go_ret
    exact ⟨rfl, did_of HO.out.drew (H1.out.only0 (Only.refl [] w1).drew)⟩
  · rw [if_neg hra]
    have e1 : decide (h.room ≤ a) = false := decide_eq_false hra
    obtain ⟨i0, hi0, hz0, hz1, hz2⟩ := info_parts byte_info
    obtain ⟨w2, hrun, hmk, hgk⟩ := run_make_full (P := Tryz.prog) w1.drew w1.drew.heap.size 35 5 i0 _ 1 Tryz.underlying35 hi0 hz0 hz1 .i64 .i64 64 (by rw [hz2]; decide) (by decide) (Nat.le_refl _)
    have ho2 : Only [] w1 w2 := ((Only.refl [] w1).drew).trans (Only.of_grown hgk) (by simp)
    have hrun' : Sem.run Tryz.prog (Instr.makeSlice 35 (.int .i64 64) (.int .i64 64)) w1.drew = .ok (.slice (some ⟨w1.drew.heap.size, 0, none⟩) 64 64) w2 := hrun
    have hown := own_zeros hmk
    clear hrun
    have hb1 := hbk.drew
    have hb2 := hbk.only ho2 (by simp)
    have y0 := hb1.cell 0
    have y1 := hb1.cell 1
    have y2 := hb1.cell 2
    have y3 := hb1.cell 3
    have z0 := hb2.cell 0
    have z1 := hb2.cell 1
    have z2 := hb2.cell 2
    have z3 := hb2.cell 3
    have HP := Lib.hid (put_any (h1.only0 ho2) h hs a ha hown.reads (Nat.le_refl _) hdn (by decide) (c := 64))
    have HO2 := Lib.hid (ho.trans ho2 (by simp))
    clear hd hbk ho h1 hra hb1 hb2 hown hmk hgk ho2 hi0 hz0 hz1 hz2
    obtain ⟨gen, fr, room⟩ := h
    unfold Half.val at HP ⊢
    simp only at e1 y0 y1 y2 y3 z0 z1 z2 z3 HP hw1 ⊢
    go_enter Tryz.func58, Tryz.ntmps58
    go_wp2_with fail
    go_region_law (go_simp; go_at_call 66; refine HP.out.mono ?_; rintro x w3 ⟨rfl, hdid⟩)
    all_goals
      go_wp2_with fail
      go_ret
      exact ⟨rfl, did_after HO2.out hdid⟩
theorem half_ret {f : Func} (T : Array Value) (w : World) (g : Nat) (x y z u : Value) (hf : f.results = Tryz.f57.results) (h4 : T[4]?.getD undef = .pointer (some ⟨g, 0, none⟩))
    (hb : Blk w g 63 #[x, y, z, u]) : (results f T).run Tryz.prog w = .ok (.agg #[x, y, z, u]) w := by
  have d0 : w.cell? ⟨g, 0, none⟩ = some x := hb.cell 0
  have d1 : w.cell? ⟨g, 1, none⟩ = some y := hb.cell 1
  have d2 : w.cell? ⟨g, 2, none⟩ = some z := hb.cell 2
  have d3 : w.cell? ⟨g, 3, none⟩ = some u := hb.cell 3
  unfold results
  rw [hf]
  simp [Tryz.results57, h4, go_sem, d0, d1, d2, d3]
theorem halfOf_any (hd : IsD w p g b W cap d) (gen : Int) (hg : 0 ≤ gen ∧ gen ≤ 4611686018427387904) (hn : 2 ≤ d.n) :
    Calls Tryz.prog 57 #[.pointer (some ⟨p, 0, none⟩), .int .i64 gen] w fun x w' => x = .returned ((halfD d gen).val p) ∧ Only [] w w' := by
  obtain ⟨w1, hw1⟩ : ∃ w1, w.alloc (.cells #[.pointer none, .int .i64 0, .int .i64 0, .int .i64 0] 63) = w1 := ⟨_, rfl⟩
  have ho : Only [] w w1 := by rw [← hw1]; exact (Only.refl [] w).alloc _
  have hbk : Blk w1 w.heap.size 63 #[.pointer none, .int .i64 0, .int .i64 0, .int .i64 0] := by rw [← hw1]; exact Blk.new w _ _
  have HS := Lib.hid (sectors_any (hd.only0 ho))
  obtain ⟨n0, n1⟩ := hd.n0
  have HO := Lib.hid ho
  have HBK := Lib.hid hbk
  have x0 := hbk.cell 0
  have x1 := hbk.cell 1
  have x2 := hbk.cell 2
  have x3 := hbk.cell 3
  have f0 := hbk.frozen 0
  have f1 := hbk.frozen 1
  have f2 := hbk.frozen 2
  have f3 := hbk.frozen 3
  have h1 := i64_and1 gen
  unfold halfD Half.val roomD
  obtain ⟨n, hn'⟩ : ∃ n, d.n = n := ⟨_, rfl⟩
  rw [hn'] at n0 n1 hn HS ⊢
  obtain ⟨g0, g1⟩ := hg
  have hm : gen % 2 = 0 ∨ gen % 2 = 1 := by omega
  clear hd ho hbk hn'
  rcases hm with hm | hm
  all_goals
    rw [hm] at h1 ⊢
    go_enter Tryz.func57, Tryz.ntmps57
    go_wp2_with (go_at_call 55; refine HS.out.mono ?_; rintro x w2 ⟨rfl, hw2⟩; subst hw2)
    exact bodyPost_ret (half_ret _ _ w.heap.size _ _ _ _ rfl rfl (blk4 HBK.out _ _ _ _)) rfl ⟨by simp, only4 HO.out (Nat.le_refl _) _ _ _ _⟩
end
end Go.Proofs.YthgfmoogagldmaaGreat.Journal
namespace Go.Proofs.YthgfmoogagldmaaGreat.Journal
open Go.RowKit Disk Go.Proofs.YthgfmoogagldmaaGreat.Frame
theorem or_mark (n c : Nat) (hn : n ≤ 1048576) (hc : c < 4294967296) : bits .or .i64 ((n : Int) * 4294967296) (c : Int) = (n : Int) * 4294967296 + (c : Int) :=
  bits_join .i64 63 (by decide) (fun n h0 h1 => by rw [IntKind.wrap_i64]; omega) 32 _ _ (by omega) (by omega) (by omega) (by omega) (by omega) (by omega)
theorem crcS_lt (b : List UInt8) : crcL b < 4294967296 := Sums.more_lt (s := 0) (by decide) (Sums.nats b) (Sums.nats_lt _)
theorem jmark_ret {f : Func} (T : Array Value) (w : World) (g : Nat) (x y z u : Value) (hf : f.results = Tryz.f68.results) (h6 : T[6]?.getD undef = .pointer (some ⟨g, 0, none⟩))
    (hb : Blk w g 123 #[x, y, z, u]) : (results f T).run Tryz.prog w = .ok (.agg #[x, y, z, u]) w := by
  have d0 : w.cell? ⟨g, 0, none⟩ = some x := hb.cell 0
  have d1 : w.cell? ⟨g, 1, none⟩ = some y := hb.cell 1
  have d2 : w.cell? ⟨g, 2, none⟩ = some z := hb.cell 2
  have d3 : w.cell? ⟨g, 3, none⟩ = some u := hb.cell 3
  unfold results
  rw [hf]
  simp [Tryz.results68, h6, go_sem, d0, d1, d2, d3]
set_option maxHeartbeats 1000000 in
theorem mark_any (w : World) (p : Nat) (h : Half) (seq : Int) (A : Option Addr) (n c B : Nat) (l : List UInt8) (hr : Bytes w B A n l) (hn : n ≤ 1048576) :
    Calls Tryz.prog 68 #[h.val p, .int .i64 seq, .slice A n c] w fun x w' => x = .returned (markH h seq l).val ∧ Only [] w w' := by
  obtain ⟨w1, hw1⟩ : ∃ w1, w.alloc (.cells #[.pointer (some ⟨p, 0, none⟩), .int .i64 h.gen, .int .i64 h.fr, .int .i64 h.room] 63) = w1 := ⟨_, rfl⟩
  have ho1 : Only [] w w1 := by rw [← hw1]; exact (Only.refl [] w).alloc _
  have hbk : Blk w1 w.heap.size 63 #[.pointer (some ⟨p, 0, none⟩), .int .i64 h.gen, .int .i64 h.fr, .int .i64 h.room] := by rw [← hw1]; exact Blk.new w _ _
  have hs1 : w1.heap.size = w.heap.size + 1 := by rw [← hw1]; exact alloc_size _ _
  obtain ⟨w2, hw2⟩ : ∃ w2, w1.alloc (.cells #[.int .i64 0, .int .i64 0, .int .i64 0, .int .i64 0] 123) = w2 := ⟨_, rfl⟩
  have ho2 : Only [] w1 w2 := by rw [← hw2]; exact (Only.refl [] w1).alloc _
  have hbm : Blk w2 w1.heap.size 123 #[.int .i64 0, .int .i64 0, .int .i64 0, .int .i64 0] := by rw [← hw2]; exact Blk.new w1 _ _
  have hbk2 := (hbk.only ho2 (by simp)).drew
  have hbm2 := hbm.drew
  have ho := (ho1.trans ho2 (by simp)).drew
  have HC := Lib.hid (Sums.crc_any A c l B w2.drew n (hr.only ho (by simp)) (by unfold maxLen; omega))
  have y1 := hbk2.cell 1
  have f0 := hbm.frozen 0
  have f1 := hbm.frozen 1
  have f2 := hbm.frozen 2
  have f3 := hbm.frozen 3
  have z0 := hbm.cell 0
  have z1 := hbm.cell 1
  have z2 := hbm.cell 2
  have z3 := hbm.cell 3
  have hcl := crcS_lt l
  have hor := or_mark n (crcL l) hn hcl
  have HL := Lib.hid hr.len
  have HBM := Lib.hid hbm
  have HO := Lib.hid (ho1.trans ho2 (by simp))
  unfold crcL at hor hcl
  obtain ⟨S, hS⟩ : ∃ S, Sums.crc (Sums.nats l) = S := ⟨_, rfl⟩
  have HS := Lib.hid hS
  rw [hS] at hor hcl HC
  have hwr1 : IntKind.i64.wrap ((n : Int) * 4294967296) = (n : Int) * 4294967296 := by rw [IntKind.wrap_i64]; omega
  have hwr2 : IntKind.i64.wrap (S : Int) = (S : Int) := by rw [IntKind.wrap_i64]; omega
  obtain ⟨gen, fr, room⟩ := h
  unfold Half.val
  simp only at y1 hw1 ⊢
  clear hr ho hbk2 hbm2 hbk hbm ho1 ho2 hS
  rw [hs1] at z0 z1 z2 z3 f0 f1 f2 f3 HBM
  go_enter Tryz.func68, Tryz.ntmps68
  go_wp2_with fail
  go_region_law (go_simp; go_at_call 114; refine HC.out.mono ?_; rintro x w3 ⟨rfl, rfl⟩)
  all_goals
    go_wp2_with fail
    exact bodyPost_ret (jmark_ret _ _ (w.heap.size + 1) _ _ _ _ rfl rfl (blk4 HBM.out _ _ _ _).drew) rfl ⟨by unfold markH crcL Frame.Mark.val; simp only; rw [HL.out, HS.out], (only4 HO.out (by omega) _ _ _ _).drew⟩
end Go.Proofs.YthgfmoogagldmaaGreat.Journal
namespace Go.Proofs.YthgfmoogagldmaaGreat.Journal
open Go.RowKit Disk Go.Proofs.YthgfmoogagldmaaGreat.Frame
theorem putsD_snoc : ∀ (xs : List (List UInt8)) (y : List UInt8) (d : DS) (i : Int), putsD d i (xs ++ [y]) = if (putsD d i xs).2 = true then wrD (putsD d i xs).1 (i + xs.length) y else ((putsD d i xs).1, false)
  | [], y, d, i => by
    show putsD d i [y] = if true = true then wrD d (i + ((0 : Nat) : Int)) y else (d, false)
    rw [if_pos rfl, show i + ((0 : Nat) : Int) = i by omega]
    unfold putsD
    cases h : (wrD d i y).2 with
    | true =>
      rw [if_pos rfl]
      unfold putsD
      rw [← h]
    | false =>
      rw [if_neg (by decide), ← h]
  | x :: xs, y, d, i => by
    rw [List.cons_append]
    unfold putsD
    by_cases h : (wrD d i x).2 = true
    · rw [if_pos h, if_pos h, putsD_snoc xs y, List.length_cons, show i + ((xs.length + 1 : Nat) : Int) = i + 1 + (xs.length : Int) by omega]
    · rw [if_neg h, if_neg h]
      exact (if_neg (by simp)).symm
theorem putsD_stop : ∀ (xs ys : List (List UInt8)) (d : DS) (i : Int), (putsD d i xs).2 = false → putsD d i (xs ++ ys) = ((putsD d i xs).1, false)
  | [], ys, d, i, h => by cases h
  | x :: xs, ys, d, i, h => by
    unfold putsD at h
    rw [List.cons_append]
    unfold putsD
    by_cases e : (wrD d i x).2 = true
    · rw [if_pos e] at h
      rw [if_pos e, if_pos e]
      exact putsD_stop xs ys _ _ h
    · rw [if_neg e, if_neg e]
theorem wr_done (d : DS) (i : Int) (l : List UInt8) : (wrD d i l).1.done ≤ d.done + 1 ∧ d.done ≤ (wrD d i l).1.done := by
  unfold wrD
  split
  · exact ⟨by show d.done ≤ d.done + 1; omega, Int.le_refl _⟩
  · split
    · exact ⟨by show d.done + 1 ≤ d.done + 1; omega, by show d.done ≤ d.done + 1; omega⟩
    · exact ⟨by show d.done ≤ d.done + 1; omega, Int.le_refl _⟩
theorem syn_done (d : DS) : (synD d).1.done ≤ d.done + 1 ∧ d.done ≤ (synD d).1.done := by
  unfold synD
  split
  · exact ⟨by show d.done ≤ d.done + 1; omega, Int.le_refl _⟩
  · exact ⟨by show d.done + 1 ≤ d.done + 1; omega, by show d.done ≤ d.done + 1; omega⟩
theorem puts_done : ∀ (xs : List (List UInt8)) (d : DS) (i : Int), (putsD d i xs).1.done ≤ d.done + xs.length ∧ d.done ≤ (putsD d i xs).1.done
  | [], d, i => ⟨by show d.done ≤ d.done + ((0 : Nat) : Int); omega, Int.le_refl _⟩
  | x :: xs, d, i => by
    have h1 := wr_done d i x
    have h2 := puts_done xs (wrD d i x).1 (i + 1)
    rw [List.length_cons]
    unfold putsD
    split
    · omega
    · show (wrD d i x).1.done ≤ _ ∧ _ ≤ (wrD d i x).1.done
      omega
section
variable {w w' : World} {p g b cap : Nat} {W : List Nat} {d : DS}
theorem map_apart (h : IsD w p g b W cap d) {k : Nat} {t : TypeId} {cs : Array Value} (hb : Blk w k t cs) : k ≠ b := by
  rintro rfl
  obtain ⟨f, ⟨D, ⟨es, clock, hh, _⟩, _⟩, _⟩ := h.map
  unfold Blk at hb
  rw [hb] at hh
  cases hh
theorem sec_apart (h : IsD w p g b W cap d) (hn : 2 ≤ d.n) {s : Sl} (hs : SecAt w s) : ∀ k ∈ blkOf s.A, k ∉ [p, g, b] := by
  obtain ⟨q, hA, _, _, hb, hl⟩ := hs
  rw [hA]
  intro k hk
  simp [blkOf] at hk
  subst hk
  have h1 := hb.ne_ h.blk (by decide)
  have h3 := map_apart h hb
  have h2 : k ≠ g := by
    rintro rfl
    obtain ⟨C, c1, c2, c3, _⟩ := h.safe
    unfold Blk at hb c1
    rw [hb] at c1
    injection c1 with c1
    injection c1 with c1
    rw [← c1] at c2
    simp [hl] at c2
    omega
  simp [h1, h2, h3]
theorem row_apart (h : IsD w p g b W cap d) {k : Nat} {cs : Array Value} (hb : Blk w k 35 cs) : k ∉ [p, g, b] := by
  have h1 := hb.ne_ h.blk (by decide)
  have h3 := map_apart h hb
  obtain ⟨C, c1, _⟩ := h.safe
  have h2 := hb.ne_ c1 (by decide)
  simp [h1, h2, h3]
theorem packsB_len' (b : List UInt8) : (packsB b).length = (needZ b.length).toNat := by unfold packsB pack; rw [List.length_map, List.length_range]
theorem isD_map_lt (h : IsD w p g b W cap d) : b < w.heap.size := by
  obtain ⟨f, ⟨D, hm, _⟩, _⟩ := h.map
  exact hm.lt
theorem flat_ones' (ss : List Sl) : (ss.map fun s => [s.val]).flatten = ss.map Sl.val := by
  induction ss with
  | nil => rfl
  | cons s ss ih => rw [List.map_cons, List.flatten_cons, ih, List.map_cons]; rfl
theorem puts_step {d : DS} {i : Int} {P : List (List UInt8)} {k : Nat} {s : List UInt8} (hk : P[k]? = some s) (hok : (putsD d i (P.take k)).2 = true) :
    putsD d i (P.take (k + 1)) = wrD (putsD d i (P.take k)).1 (i + k) s ∧ ((wrD (putsD d i (P.take k)).1 (i + k) s).2 = false → putsD d i P = ((wrD (putsD d i (P.take k)).1 (i + k) s).1, false)) := by
  obtain ⟨hlt, rfl⟩ := List.getElem?_eq_some_iff.1 hk
  have h1 : P.take (k + 1) = P.take k ++ [P[k]] := List.take_succ_eq_append_getElem hlt
  have h2 : putsD d i (P.take (k + 1)) = wrD (putsD d i (P.take k)).1 (i + k) P[k] := by
    rw [h1, putsD_snoc, if_pos hok, List.length_take, Nat.min_eq_left (Nat.le_of_lt hlt)]
  refine ⟨h2, fun hf => ?_⟩
  have h3 := putsD_stop (P.take (k + 1)) (P.drop (k + 1)) d i (by rw [h2]; exact hf)
  rw [List.take_append_drop, h2] at h3
  exact h3
set_option maxHeartbeats 1000000 in
theorem hpack_any (hd : IsD w p g b W cap d) (hn2 : 2 ≤ d.n) (h : Half) (hs : h.small) (a : Int) (ha : 0 ≤ a ∧ a ≤ 100000) (A : Option Addr) (n c : Nat) (l : List UInt8) (hr : Bytes w w.heap.size A n l) (hn : n ≤ 2000) (hnc : n ≤ c) (hcm : c ≤ maxLen) (hdn : d.done ≤ 4611686018427380000) :
    Calls Tryz.prog 63 #[h.val p, .int .i64 a, .slice A n c] w fun x w' => BoolJ w p g b W cap (packH d h a l) x w' := by
  obtain ⟨w1, hw1⟩ : ∃ w1, w.alloc (.cells #[.pointer (some ⟨p, 0, none⟩), .int .i64 h.gen, .int .i64 h.fr, .int .i64 h.room] 63) = w1 := ⟨_, rfl⟩
  have ho : Only [] w w1 := by rw [← hw1]; exact (Only.refl [] w).alloc _
  have hbk : Blk w1 w.heap.size 63 #[.pointer (some ⟨p, 0, none⟩), .int .i64 h.gen, .int .i64 h.fr, .int .i64 h.room] := by rw [← hw1]; exact Blk.new w _ _
  have HP := Lib.hid (Frame.pack_any A n c l w1 ((hr.only ho (by simp)).more ho.size) hn hnc hcm)
  have HD := Lib.hid (hd.only0 ho)
  have HO := Lib.hid ho
  have HBK := Lib.hid hbk
  have HS := Lib.hid hs
  have HL := Lib.hid hr.len
  have hwp : w.heap.size ∉ [p, g, b] := by
    have h1 := (hd.only0 ho).blk
    have h2 := hd.blk.lt
    obtain ⟨C, c1, _⟩ := hd.safe
    have h3 := c1.lt
    have h4 := map_apart (hd.only0 ho) hbk
    simp; omega
  have HWP := Lib.hid hwp
  clear hd hr ho hbk hs hwp
  obtain ⟨gen, fr, room⟩ := h
  unfold Half.val
  simp only at hw1 ⊢
  go_enter Tryz.func63, Tryz.ntmps63
  go_wp2_with (go_at_call 109; refine HP.out.mono ?_; rintro x w2 ⟨v, ss, rfl, hown, hsec, hmap, ho2⟩; obtain ⟨A2, c2, rfl, _, _, _⟩ := hown.shape (by decide))
  rename_i hA2
  obtain ⟨_, hA2⟩ := hA2
  have hr2 : Reads w2 w2.heap.size 1 A2 ss.length (ss.map Sl.val) := by
    have := Reads.of_own hown.own
    rwa [flat_ones' ss] at this
  have hd2 := HD.out.only0 ho2
  have hlen : (packsB l).length = ss.length := by
    have := congrArg List.length hmap
    rw [List.length_map] at this
    exact this.symm
  have hm40 : ss.length ≤ 40 := by
    rw [← hlen, packsB_len', HL.out]
    unfold needZ
    split <;> omega
  have hfar : ∀ k ∈ blkOf A2, k ∉ [p, g, b] := fun k hk => by
    rcases hA2 with ⟨e, _⟩ | ⟨q, e, e2, _⟩
    · rw [e] at hk; cases hk
    · rw [e] at hk
      simp [blkOf] at hk
      subst hk
      have h1 := HD.out.blk.lt
      obtain ⟨C, c1, _⟩ := HD.out.safe
      have h2 := c1.lt
      have h3 := isD_map_lt HD.out
      simp; omega
  have hsat : ∀ k, k < ss.length → ∀ s, ss[k]? = some s → (packsB l)[k]? = some s.l := fun k hk s hs => by
    show (pack l _)[k]? = _
    rw [← hmap, List.getElem?_map, hs]
    rfl
  have hapart : ∀ s ∈ ss, ∀ k ∈ blkOf s.A, k ∉ [p, g, b] := fun s hs => sec_apart hd2 hn2 (hsec s hs)
  have hbk2 := HBK.out.only ho2 (by simp)
  have HR2 := Lib.hid hr2
  have HD2 := Lib.hid hd2
  have HLEN := Lib.hid hlen
  have HFAR := Lib.hid hfar
  have HSAT := Lib.hid hsat
  have HAP := Lib.hid hapart
  have HSEC := Lib.hid hsec
  have HBK2 := Lib.hid hbk2
  have HO2 := Lib.hid (HO.out.trans ho2 (by simp))
  obtain ⟨m, hm⟩ : ∃ m, ss.length = m := ⟨_, rfl⟩
  rw [hm] at hm40 HR2 HLEN HSAT ⊢
  clear hown hsec hmap ho2 hA2 hr2 hd2 hlen hfar hsat hapart hbk2
  go_loopw [12] (fun i wr => ∃ k : Nat, k ≤ m ∧ i = .int .i64 k ∧ (putsD d (fr + a + 1) ((packsB l).take k)).2 = true ∧ Did w2 p g b W cap (putsD d (fr + a + 1) ((packsB l).take k)).1 wr) (fun i _ => m - (intOf i).toNat)
  case atStart => exact ⟨0, by omega, rfl, rfl, did_of (Only.refl [] w2) HD2.out⟩
  case round =>
    obtain ⟨k, hk, rfl, hok, hdid⟩ := hrel
    obtain ⟨W', hd', hnew, ho3⟩ := hdid
    by_cases hlt : k < m
    · obtain ⟨bb, off, hA, hbb, s, hs, hsk, hc⟩ := Reads.sl (HR2.out.only ho3 HFAR.out) k hlt
      subst hA
      have hst := puts_step (HSAT.out k hlt s hsk) hok
      obtain ⟨D, hD⟩ : ∃ D, (putsD d (fr + a + 1) ((packsB l).take k)).1 = D := ⟨_, rfl⟩
      have hdone := puts_done ((packsB l).take k) d (fr + a + 1)
      rw [List.length_take, hD] at hdone
      rw [hD] at hd' hst
      obtain ⟨q, hsA, hsn, hsc, hsb, hsl⟩ := HSEC.out s hs
      have hby := ((HSEC.out s hs).bytes.only ho3 (HAP.out s hs)).more ho3.size
      have HPUT := Lib.hid (put_any hd' ⟨gen, fr, room⟩ HS.out (a + 1 + k) (by omega) (c := s.c) hby (Nat.le_refl _) (by omega) (by omega))
      have hb3 := HBK2.out.only ho3 HWP.out
      have y0 := hb3.cell 0
      have y1 := hb3.cell 1
      have y2 := hb3.cell 2
      have y3 := hb3.cell 3
      have e1 : decide ((k : Int) < (m : Int)) = true := decide_eq_true (by omega)
      have e1' : decide (k < m) = true := decide_eq_true hlt
      have hix : (fr + (a + 1 + (k : Int))) = fr + a + 1 + (k : Int) := by omega
      simp only at HPUT
      rw [hix, hsA, hsn, hsc] at HPUT
      obtain ⟨r, hr⟩ : ∃ r, wrD D (fr + a + 1 + (k : Int)) s.l = r := ⟨_, rfl⟩
      rw [hr] at HPUT hst
      have HST := Lib.hid hst
      have HNEW := Lib.hid hnew
      have HO3 := Lib.hid ho3
      have HKD := Lib.hid hd'
      obtain ⟨a0, a1⟩ := ha
      have hsm := HS.out.2.1
      obtain ⟨fr0, fr1⟩ := hsm
      unfold Half.val at HPUT
      clear hd' hst hnew ho3 hb3 hby hsb hok hr hD hdone hix
      obtain ⟨rd, rb⟩ := r
      simp only at HPUT HST fr0 fr1
      cases rb with
      | true =>
        go_wp2_with (go_at_call 66; refine HPUT.out.mono ?_; rintro x w4 ⟨rfl, hdid⟩)
        go_round
        case measure => simp [intOf]; omega
        case rel => exact ⟨k + 1, by omega, by go_num, by rw [HST.out.1], by rw [HST.out.1]; exact Did.trans HNEW.out HO3.out hdid⟩
      | false =>
        go_wp2_with (go_at_call 66; refine HPUT.out.mono ?_; rintro x w4 ⟨rfl, hdid⟩)
        go_ret
        refine ⟨?_, did_after HO2.out ?_⟩
        · show _ = Ending.returned (.bool (putsD d (fr + a + 1) (packsB l)).2)
          rw [HST.out.2 trivial]
          rfl
        · unfold packH; rw [HST.out.2 trivial]; exact Did.trans HNEW.out HO3.out hdid
    · obtain rfl : k = m := by omega
      have e1 : decide ((k : Int) < (k : Int)) = false := decide_eq_false (by omega)
      have e1' : decide (k < k) = false := decide_eq_false (by omega)
      have hta : (packsB l).take k = packsB l := List.take_of_length_le (by rw [HLEN.out]; exact Nat.le_refl _)
      rw [hta] at hok hd'
      have HD3 := Lib.hid hd'
      have HNEW := Lib.hid hnew
      have HO3 := Lib.hid ho3
      have HOK := Lib.hid hok
      clear hd' hnew ho3 hok
      go_wp2_with fail
      go_ret
      refine ⟨?_, did_after HO2.out ?_⟩
      · show _ = Ending.returned (.bool (putsD d (fr + a + 1) (packsB l)).2)
        rw [HOK.out]
        rfl
      · unfold packH; exact ⟨W', HD3.out, HNEW.out, HO3.out⟩
end
end Go.Proofs.YthgfmoogagldmaaGreat.Journal
namespace Go.Proofs.YthgfmoogagldmaaGreat.Journal
open Go.RowKit Disk Go.Proofs.YthgfmoogagldmaaGreat.Frame
def Held (w : World) (T : List Nat) (ss : List Sl) : Prop := ∀ s ∈ ss, Bytes w w.heap.size s.A s.n s.l ∧ s.n ≤ s.c ∧ s.c ≤ maxLen ∧ s.n ≤ 1048576 ∧ (0 < s.n → ∀ k ∈ blkOf s.A, k ∉ T)
section
variable {w w' w'' : World} {S T T' : List Nat} {ss : List Sl}
theorem bytes_lt {B n : Nat} {A : Option Addr} {l : List UInt8} (h : Bytes w B A n l) (hn : 0 < n) : ∀ k ∈ blkOf A, k < B := by
  obtain ⟨b, off, rfl, hb, _⟩ := h.at_ (k := 0) hn
  intro k hk
  simp [blkOf] at hk
  omega
theorem Held.only (h : Held w T ss) (ho : Only S w w') (hS : ∀ k ∈ S, k ∈ T ∨ w.heap.size ≤ k) (hT : ∀ k ∈ T', k ∈ T ∨ w.heap.size ≤ k) : Held w' T' ss := fun s hs => by
  obtain ⟨h1, h2, h3, h4, h5⟩ := h s hs
  have hlt := fun hn => bytes_lt h1 hn
  refine ⟨(h1.only_pos ho (fun hn k hk hm => ?_)).more ho.size, h2, h3, h4, fun hn k hk hm => ?_⟩
  · rcases hS k hm with e | e
    · exact h5 hn k hk e
    · have := hlt hn k hk; omega
  · rcases hT k hm with e | e
    · exact h5 hn k hk e
    · have := hlt hn k hk; omega
theorem Held.sub (h : Held w T ss) (hT : ∀ k ∈ T', k ∈ T) : Held w T' ss := fun s hs => by
  obtain ⟨h1, h2, h3, h4, h5⟩ := h s hs
  exact ⟨h1, h2, h3, h4, fun hn k hk hm => h5 hn k hk (hT k hm)⟩
theorem Held.append {ts : List Sl} (h : Held w T ss) (k : Held w T ts) : Held w T (ss ++ ts) := fun s hs => by
  rcases List.mem_append.1 hs with hs | hs
  · exact h s hs
  · exact k s hs
theorem Held.nil : Held w T [] := fun s hs => by cases hs
theorem Held.len (h : Held w T ss) {s : Sl} (hs : s ∈ ss) : s.l.length = s.n := (h s hs).1.len
theorem Held.gs {B : Nat} {A : Option Addr} {n : Nat} (h : Held w T ss) (hl : ss.length = n) (hr : Reads w B 1 A n (ss.map Sl.val)) : Gs w B A n (ss.map (·.l)) :=
  ⟨ss, hl, hr, rfl, fun s hs => by obtain ⟨h1, h2, h3, h4, _⟩ := h s hs; exact ⟨h1, h2, h3, h4⟩⟩
theorem Held.light (h : Held w T ss) : ∀ b ∈ ss.map (·.l), b.length ≤ 1048576 := fun b hb => by
  obtain ⟨s, hs, rfl⟩ := List.mem_map.1 hb
  have h1 := (h s hs).1.len
  have h2 := (h s hs).2.2.2.1
  omega
end
theorem reads_own {w : World} {base : Nat} {A : Option Addr} {c n : Nat} {ss : List Sl} (h : OwnR 35 1 w base (.slice A n c) ss.length (ss.map fun s => [s.val])) (hl : ss.length = n) : Reads w w.heap.size 1 A n (ss.map Sl.val) := by
  subst hl
  have := Reads.of_own h.own
  rwa [flat_ones' ss] at this
def JT (p g b q : Nat) (v : Value) : List Nat := p :: g :: b :: q :: ownL v
structure IsJ (w : World) (p g b q base : Nat) (js : JS) (v : Value) (ss : List Sl) : Prop where
  blk : Blk w q 65 #[.pointer (some ⟨p, 0, none⟩), .int .i64 js.half.gen, .int .i64 js.half.fr, .int .i64 js.half.room, v, .bool js.off]
  own : OwnR 35 1 w base v ss.length (ss.map fun s => [s.val])
  held : Held w (JT p g b q v) ss
  l : ss.map (·.l) = js.l
  sm : js.half.small
section
variable {w w' : World} {p g b cap q base : Nat} {W : List Nat} {d : DS} {js : JS} {v : Value} {ss : List Sl}
theorem row_far (hd : IsD w p g b W cap d) {e size n : Nat} {rows : List (List Value)} (h : OwnR 35 size w base v n rows) : ∀ k ∈ ownL v, k ∉ [p, g, b] := by
  intro k hk
  obtain ⟨_, h0⟩ := h.own
  rcases h0 with ⟨rfl, _⟩ | ⟨g', cap', cur, rfl, _, hh, _⟩
  · simp [ownL, Value.ownBlock] at hk
  · simp [ownL, Value.ownBlock] at hk
    subst hk
    exact row_apart hd hh
theorem IsJ.q_far (h : IsJ w p g b q base js v ss) (hd : IsD w p g b W cap d) : q ∉ [p, g, b] := by
  have h1 := h.blk.ne_ hd.blk (by decide)
  have h3 := map_apart hd h.blk
  obtain ⟨C, c1, _⟩ := hd.safe
  have h2 := h.blk.ne_ c1 (by decide)
  simp [h1, h2, h3]
theorem IsJ.only0 (h : IsJ w p g b q base js v ss) (ho : Only [] w w') : IsJ w' p g b q base js v ss :=
  ⟨h.blk.only ho (by simp), h.own.only ho (by simp), h.held.only ho (by simp) (fun k hk => .inl hk), h.l, h.sm⟩
theorem IsJ.deed (h : IsJ w p g b q base js v ss) (hd : IsD w p g b W cap d) (ho : Only [p, g, b] w w') : IsJ w' p g b q base js v ss :=
  ⟨h.blk.only ho (h.q_far hd), h.own.only ho (row_far (e := 0) hd h.own), h.held.only ho (fun k hk => .inl (by simp at hk; unfold JT; simp; omega)) (fun k hk => .inl hk), h.l, h.sm⟩
theorem IsJ.lt (h : IsJ w p g b q base js v ss) : q < w.heap.size := h.blk.lt
theorem clone_all (A : Option Addr) (n c B : Nat) (l : List UInt8) (w : World) (hr : Bytes w B A n l) (hB : B ≤ w.heap.size) (hm : n ≤ 1000000000) :
    Calls Tryz.prog 69 #[.slice A n c] w fun x w' => ∃ A' c', x = .returned (.slice A' n c') ∧ Bytes w' w'.heap.size A' n l ∧ n ≤ c' ∧ c' ≤ maxLen ∧ Only [] w w' ∧ ∀ k ∈ blkOf A', w.heap.size ≤ k := by
  rcases Nat.eq_zero_or_pos n with rfl | hn
  · have hl : l = [] := List.length_eq_zero_iff.1 hr.len
    subst hl
    have hnil := Lib.run_eql_slice_nil (P := Tryz.prog) w 35 5 A 0 c 0 0 Tryz.underlying35
    cases A with
    | none =>
      have hnil' : (binOp .eql 35 (.slice none 0 c) (.slice none 0 0)).run Tryz.prog w = .ok (.bool true) w := hnil
      clear hnil hr
      go_enter Tryz.func69, Tryz.ntmps69
      go_wp2_with fail
      go_ret
      exact ⟨none, 0, rfl, Bytes.nil_, Nat.le_refl _, by simp [maxLen], Only.refl _ _, fun k hk => by cases hk⟩
    | some ad =>
      have hnil' : (binOp .eql 35 (.slice (some ad) 0 c) (.slice none 0 0)).run Tryz.prog w = .ok (.bool false) w := hnil
      have HR := Lib.hid (hr.alloc hB (.cells #[] 5))
      clear hnil hr
      go_enter Tryz.func69, Tryz.ntmps69
      go_wp2_with (at_builtin; refine wpList_append_bytes rfl _ _ rfl (base := w.heap.size) (v := .slice (some ⟨w.heap.size, 0, none⟩) 0 0) rfl (OwnB.empty w _ (Nat.le_refl _)) rfl HR.out (by omega) (by simp) ?_; intro v' w2 hown ho hf)
      rw [Nat.zero_add, List.nil_append] at hown
      have hox : Only [] w w2 := by
        refine ((Only.refl [] w).alloc (.cells #[] 5)).trans ho (fun g hg => .inr ?_)
        have : g = w.heap.size := by simpa [ownL, Value.ownBlock] using hg
        omega
      obtain ⟨A', c', rfl, h1, h2, h3, h4⟩ := hown.shape
      go_ret
      refine ⟨A', c', rfl, h3, h1, h2, hox, fun k hk => ?_⟩
      rcases h4 with ⟨rfl, _⟩ | ⟨q, rfl, h5, _⟩
      · cases hk
      · simp [blkOf] at hk; omega
  · refine (clone_any A n c B l w hr hB hn hm).mono ?_
    rintro x w' ⟨q, cap, rfl, h1, h2, h3, h4, h5, h6⟩
    refine ⟨_, cap, rfl, ?_, h4, h5, h6, fun k hk => by simp [blkOf] at hk; omega⟩
    obtain ⟨A', c', e, _, _, k3, _⟩ := h3.shape
    cases e
    exact k3
set_option maxHeartbeats 1000000 in
theorem clones_any (A : Option Addr) (n c B : Nat) (T : List Nat) (ss : List Sl) (w : World) (hl : ss.length = n) (hr : Reads w B 1 A n (ss.map Sl.val)) (hh : Held w T ss) (hn : n ≤ 1000000) :
    Calls Tryz.prog 71 #[.slice A n c] w fun x w' => ∃ (v : Value) (ts : List Sl), x = .returned v ∧ ts.length = n ∧ OwnR 35 1 w' w.heap.size v n (ts.map fun s => [s.val]) ∧ ts.map (·.l) = ss.map (·.l) ∧
      (∀ t ∈ ts, Bytes w' w'.heap.size t.A t.n t.l ∧ t.n ≤ t.c ∧ t.c ≤ maxLen ∧ t.n ≤ 1048576 ∧ ∀ k ∈ blkOf t.A, w.heap.size ≤ k) ∧ Only [] w w' := by
  have HR := Lib.hid hr
  have HH := Lib.hid hh
  have HL := Lib.hid hl
  clear hr hh hl
  go_enter Tryz.func71, Tryz.ntmps71
  go_wp2_with fail
  go_loopw [3, 8] (fun v i wr => ∃ (k : Nat) (ts : List Sl), k ≤ n ∧ i = .int .i64 k ∧ ts.length = k ∧ OwnR 35 1 wr w.heap.size v k (ts.map fun s => [s.val]) ∧ ts.map (·.l) = (ss.take k).map (·.l) ∧
      (∀ t ∈ ts, Bytes wr wr.heap.size t.A t.n t.l ∧ t.n ≤ t.c ∧ t.c ≤ maxLen ∧ t.n ≤ 1048576 ∧ (∀ k ∈ blkOf t.A, w.heap.size ≤ k) ∧ (0 < t.n → ∀ k ∈ blkOf t.A, k ∉ ownL v)) ∧ Only [] w wr) (fun _ i _ => n - (intOf i).toNat)
  case atStart => exact ⟨0, [], by omega, rfl, rfl, OwnR.nil_ _ _ _ _, by simp, by simp, Only.refl _ _⟩
  case round =>
    obtain ⟨k, ts, hk, rfl, htl, hown, hmap, hts, ho⟩ := hrel
    by_cases hlt : k < n
    · have e1 : decide ((k : Int) < (n : Int)) = true := decide_eq_true (by omega)
      have e1' : decide (k < n) = true := decide_eq_true hlt
      obtain ⟨bb, off, hA, hbb, s, hs, hsk, hc⟩ := Reads.sl (HR.out.only ho (by simp)) k hlt
      subst hA
      obtain ⟨s1, s2, s3, s4, _⟩ := HH.out s hs
      have HC := Lib.hid (clone_all s.A s.n s.c w.heap.size s.l wr (s1.only ho (by simp)) ho.size (by omega))
      have HTL := Lib.hid htl
      have HMAP := Lib.hid hmap
      have HTS := Lib.hid hts
      have HO := Lib.hid ho
      have HSK := Lib.hid hsk
      have hws := ho.size
      clear s1 htl hmap hts ho hsk hs
      go_wp2_with (first
        | (go_at_call 69; refine HC.out.mono ?_; rintro x w2 ⟨A', c', rfl, hb2, hc1, hc2, ho2, hf2⟩; have ho02 := HO.out.trans ho2 (by simp); have hown2 := hown.only ho2 (by simp); have hws2 := ho2.size)
        | (at_builtin; refine wpList_append1 (w := w2) rfl (.tmp 12) (.tmp 15) 34 rfl Tryz.underlying34 sl_info rfl (by decide) rfl hown2 rfl rfl (row := [(⟨A', s.n, c', s.l⟩ : Sl).val]) rfl rfl (by intro u hu; rw [List.mem_singleton.1 hu]; rfl) (by omega) (by unfold maxLen; omega) (by omega) ?_; intro v' w3 hE))
      go_roundw
      case measure => simp [intOf]; omega
      case rel =>
        have hlt2 := bytes_lt hb2
        have hself : ∀ t : Sl, Bytes w2 w2.heap.size t.A t.n t.l → (0 < t.n → ∀ k ∈ blkOf t.A, k ∉ ownL u3) → 0 < t.n → ∀ k ∈ blkOf t.A, k ∉ ownL v' := fun t h1 h2 hn k hk hm => by
          rcases hE.fresh k hm with e | e
          · exact h2 hn k hk e
          · have := bytes_lt h1 hn k hk; omega
        have hnew : 0 < s.n → ∀ k ∈ blkOf A', k ∉ ownL u3 := fun hn k hk hm => by
          have h1 := hf2 k hk
          obtain ⟨_, t', cs', hb'⟩ := row_blks hown2 k hm
          have h2 := hown.lt k hm
          omega
        refine ⟨k + 1, ts ++ [⟨A', s.n, c', s.l⟩], by omega, by go_num, by rw [List.length_append, HTL.out]; rfl, by rw [List.map_append]; exact hE.own, ?_, ?_, ho02.trans hE.only (fun g hg => .inr (hown2.lt g hg).1)⟩
        · obtain ⟨hks, hks2⟩ := List.getElem?_eq_some_iff.1 HSK.out
          rw [List.map_append, HMAP.out, List.take_succ_eq_append_getElem hks, List.map_append, hks2]
          rfl
        · intro t ht
          rcases List.mem_append.1 ht with ht | ht
          · obtain ⟨t1, t2, t3, t4, t5, t6⟩ := HTS.out t ht
            have t1' := (t1.only ho2 (by simp)).more ho2.size
            exact ⟨(t1'.only_pos hE.only t6).more hE.only.size, t2, t3, t4, t5, hself t t1' t6⟩
          · rw [List.mem_singleton.1 ht]
            exact ⟨(hb2.only_pos hE.only hnew).more hE.only.size, hc1, hc2, s4, fun k hk => Nat.le_trans hws (hf2 k hk), hself ⟨A', s.n, c', s.l⟩ hb2 hnew⟩
    · obtain rfl : k = n := by omega
      have e1 : decide ((k : Int) < (k : Int)) = false := decide_eq_false (by omega)
      have e1' : decide (k < k) = false := decide_eq_false (by omega)
      have hta : ss.take k = ss := List.take_of_length_le (by rw [HL.out]; exact Nat.le_refl _)
      rw [hta] at hmap
      have HTS := Lib.hid hts
      have HO := Lib.hid ho
      clear hts ho
      go_wp2_with fail
      go_ret
      exact ⟨_, rfl, ts, htl, hown, hmap, fun t ht => by obtain ⟨t1, t2, t3, t4, t5, _⟩ := HTS.out t ht; exact ⟨t1, t2, t3, t4, t5⟩, HO.out⟩
end
end Go.Proofs.YthgfmoogagldmaaGreat.Journal
namespace Go.Proofs.YthgfmoogagldmaaGreat.Journal
open Go.RowKit Disk Go.Proofs.YthgfmoogagldmaaGreat.Frame
section
variable {w w' : World} {p g b cap q base : Nat} {W : List Nat} {d : DS} {js : JS} {v : Value} {ss : List Sl}
theorem jnone_some (w : World) (q p : Nat) (h : w.cell? ⟨q, 0, none⟩ = some (.pointer (some ⟨p, 0, none⟩))) : Calls Tryz.prog 73 #[.pointer (some ⟨q, 0, none⟩)] w fun x w' => x = .returned (.bool false) ∧ w' = w := by
  go_enter Tryz.func73, Tryz.ntmps73
  go_wp2_with fail
  go_ret
  exact ⟨rfl, rfl⟩
theorem jnone_is (h : IsJ w p g b q base js v ss) : Calls Tryz.prog 73 #[.pointer (some ⟨q, 0, none⟩)] w fun x w' => x = .returned (.bool false) ∧ w' = w := jnone_some w q p (h.blk.cell 0)
theorem room_is (h : IsJ w p g b q base js v ss) : Calls Tryz.prog 33 #[.pointer (some ⟨q, 0, none⟩)] w fun x w' => x = .returned (.int .i64 js.half.room) ∧ w' = w := by
  have HN := Lib.hid (jnone_is h)
  have x3 := h.blk.cell 3
  clear h
  go_enter Tryz.func33, Tryz.ntmps33
  go_wp2_with (go_at_call 73; refine HN.out.mono ?_; rintro x w2 ⟨rfl, hw2⟩; subst hw2)
  go_ret
  exact ⟨rfl, rfl⟩
theorem jdown_is (h : IsJ w p g b q base js v ss) : Calls Tryz.prog 19 #[.pointer (some ⟨q, 0, none⟩)] w fun x w' => x = .returned (.bool js.off) ∧ w' = w := by
  have HN := Lib.hid (jnone_is h)
  have x5 := h.blk.cell 5
  clear h
  go_enter Tryz.func19, Tryz.ntmps19
  go_wp2_with (go_at_call 73; refine HN.out.mono ?_; rintro x w2 ⟨rfl, hw2⟩; subst hw2)
  go_ret
  exact ⟨rfl, rfl⟩
theorem IsJ.row (h : IsJ w p g b q base js v ss) : ∃ A c, v = .slice A ss.length c ∧ ss.length ≤ c ∧ c ≤ maxLen ∧ Reads w w.heap.size 1 A ss.length (ss.map Sl.val) ∧ ∀ k ∈ blkOf A, k ∈ ownL v := by
  have h1 := h.own
  obtain ⟨A, c, rfl, h2, h3, _, h4⟩ := h1.shape (by decide)
  refine ⟨A, c, rfl, h2, h3, reads_own h1 rfl, fun k hk => ?_⟩
  rcases h4 with ⟨rfl, _⟩ | ⟨g', rfl, _, _⟩
  · cases hk
  · simp [blkOf] at hk
    simp [ownL, Value.ownBlock, hk]
theorem used_is (h : IsJ w p g b q base js v ss) (hn : ss.length ≤ 1000000) : Calls Tryz.prog 31 #[.pointer (some ⟨q, 0, none⟩)] w fun x w' => x = .returned (.int .i64 (usedJ js)) ∧ w' = w := by
  have HN := Lib.hid (jnone_is h)
  obtain ⟨A, c, hv, hc1, hc2, hr, _⟩ := h.row
  have HT := Lib.hid (takesG_any A ss.length c w.heap.size (ss.map (·.l)) w (h.held.gs rfl hr) hn)
  have x4 := h.blk.cell 4
  rw [hv] at x4
  unfold usedJ
  rw [← h.l]
  clear h hr
  go_enter Tryz.func31, Tryz.ntmps31
  go_wp2_with (first
    | (go_at_call 73; refine HN.out.mono ?_; rintro x w2 ⟨rfl, hw2⟩; subst hw2)
    | (go_at_call 54; refine HT.out.mono ?_; rintro x w2 ⟨rfl, hw2⟩; subst hw2))
  go_ret
  exact ⟨rfl, rfl⟩
def GroupsO (w : World) (ls : List (List UInt8)) (x : Ending) (w' : World) : Prop := ∃ (v : Value) (ts : List Sl), x = .returned v ∧ OwnR 35 1 w' w.heap.size v ts.length (ts.map fun s => [s.val]) ∧ ts.map (·.l) = ls ∧
  (∀ t ∈ ts, Bytes w' w'.heap.size t.A t.n t.l ∧ t.n ≤ t.c ∧ t.c ≤ maxLen ∧ t.n ≤ 1048576 ∧ ∀ k ∈ blkOf t.A, w.heap.size ≤ k) ∧ Only [] w w'
theorem groups_is (h : IsJ w p g b q base js v ss) (hn : ss.length ≤ 1000000) : Calls Tryz.prog 23 #[.pointer (some ⟨q, 0, none⟩)] w fun x w' => GroupsO w js.l x w' := by
  have HN := Lib.hid (jnone_is h)
  obtain ⟨A, c, hv, hc1, hc2, hr, _⟩ := h.row
  have HT := Lib.hid (clones_any A ss.length c w.heap.size _ ss w rfl hr h.held hn)
  have x4 := h.blk.cell 4
  rw [hv] at x4
  rw [← h.l]
  clear h hr
  go_enter Tryz.func23, Tryz.ntmps23
  go_wp2_with (first
    | (go_at_call 73; refine HN.out.mono ?_; rintro x w2 ⟨rfl, hw2⟩; subst hw2)
    | (go_at_call 71; refine HT.out.mono ?_; rintro x w2 ⟨v2, ts, rfl, htl, hown, hmap, hts, ho⟩; have HOWN := Lib.hid hown; have HMAP := Lib.hid hmap; have HTS := Lib.hid hts; have HO := Lib.hid ho; clear hown hmap hts ho))
  go_ret
  exact ⟨v2, ts, rfl, by rw [htl]; exact HOWN.out, HMAP.out, HTS.out, HO.out⟩
theorem down_to (h : IsJ w p g b q base js v ss) : Calls Tryz.prog 65 #[.pointer (some ⟨q, 0, none⟩)] w fun x w' => x = .returned (.int .i64 3) ∧ IsJ w' p g b q base { js with off := true } v ss ∧ Only [q] w w' := by
  have x5 := h.blk.cell 5
  have f5 := h.blk.frozen 5
  have H := Lib.hid h
  clear h
  go_enter Tryz.func65, Tryz.ntmps65
  go_wp2_with fail
  go_ret
  have ho : Only [q] w (w.setCell ⟨q, 5, none⟩ (.bool true)) := (Only.refl [q] w).setCell (.inl (by simp)) _
  have h := H.out
  refine ⟨rfl, ⟨h.blk.set_ 5 (.bool true), h.own.only ho (fun k hk hm => ?_), h.held.only ho (fun k hk => .inl (by simp at hk; unfold JT; simp [hk])) (fun k hk => .inl hk), h.l, h.sm⟩, ho⟩
  simp at hm
  subst hm
  exact row_ne h.own k h.blk (by decide) hk
theorem refuse_is (h : IsJ w p g b q base js v ss) (A : Option Addr) (n c B : Nat) (T : List Nat) (ts : List Sl) (left : Int) (hl : ts.length = n) (hr : Reads w B 1 A n (ts.map Sl.val)) (hh : Held w T ts) (hn : n ≤ 1000000) :
    Calls Tryz.prog 62 #[.pointer (some ⟨q, 0, none⟩), .slice A n c, .int .i64 left] w fun x w' => x = .returned (.int .i64 (refuseJ js (ts.map (·.l)) left)) ∧ w' = w := by
  have HN := Lib.hid (jnone_is h)
  have x5 := h.blk.cell 5
  have HT := Lib.hid (takesG_any A n c B (ts.map (·.l)) w (hh.gs hl hr) hn)
  have hno : ¬ ∃ b ∈ ts.map (·.l), 1048576 < b.length := fun ⟨b, hb, h⟩ => by have := hh.light b hb; omega
  unfold refuseJ
  rw [if_neg hno]
  have HR := Lib.hid hr
  have HH := Lib.hid hh
  obtain ⟨off, ho⟩ : ∃ o, js.off = o := ⟨_, rfl⟩
  have hx5 : w.cell? ⟨q, 5, none⟩ = some (.bool off) := by rw [← ho]; exact x5
  rw [ho]
  clear h hr hh hno x5 ho
  cases off with
  | true =>
    rw [if_pos rfl]
    go_enter Tryz.func62, Tryz.ntmps62
    go_wp2_with (go_at_call 73; refine HN.out.mono ?_; rintro x w2 ⟨rfl, hw2⟩; subst hw2)
    go_ret
    exact ⟨rfl, rfl⟩
  | false =>
    rw [if_neg (by decide)]
    obtain ⟨U, hU⟩ : ∃ U, takesL (ts.map (·.l)) = U := ⟨_, rfl⟩
    rw [hU] at HT ⊢
    obtain ⟨R, hR⟩ : ∃ R, (if left < U then (2 : Int) else 0) = R := ⟨_, rfl⟩
    rw [hR]
    have HRR := Lib.hid hR
    clear hU hR
    go_enter Tryz.func62, Tryz.ntmps62
    go_wp2_with (go_at_call 73; refine HN.out.mono ?_; rintro x w2 ⟨rfl, hw2⟩; subst hw2)
    go_loopw [19] (fun i wr => ∃ k : Nat, k ≤ n ∧ i = .int .i64 k ∧ wr = w2) (fun i _ => n - (intOf i).toNat)
    case atStart => exact ⟨0, by omega, rfl, rfl⟩
    case round =>
      obtain ⟨k, hk, rfl, hwr⟩ := hrel
      subst hwr
      by_cases hlt : k < n
      · have e1 : decide ((k : Int) < (n : Int)) = true := decide_eq_true (by omega)
        have e1' : decide (k < n) = true := decide_eq_true hlt
        obtain ⟨bb, off, hA, hbb, s, hs, hsk, hc⟩ := Reads.sl HR.out k hlt
        subst hA
        obtain ⟨_, _, _, s4, _⟩ := HH.out s hs
        have e2 : decide ((1048576 : Int) < (s.n : Int)) = false := decide_eq_false (by omega)
        have e2' : decide (1048576 < s.n) = false := decide_eq_false (by omega)
        clear hs hsk
        go_wp2_with fail
        go_roundw
        case measure => simp [intOf]; omega
        case rel => exact ⟨k + 1, by omega, by go_num, trivial⟩
      · obtain rfl : k = n := by omega
        have e1 : decide ((k : Int) < (k : Int)) = false := decide_eq_false (by omega)
        have e1' : decide (k < k) = false := decide_eq_false (by omega)
        by_cases ht : left < U
        · have e2 : decide (left < U) = true := decide_eq_true ht
          have hR := HRR.out
          rw [if_pos ht] at hR
          subst hR
          go_wp2_with (go_at_call 54; refine HT.out.mono ?_; rintro x w2 ⟨rfl, hw2⟩; subst hw2)
          go_ret
          exact ⟨rfl, rfl⟩
        · have e2 : decide (left < U) = false := decide_eq_false ht
          have hR := HRR.out
          rw [if_neg ht] at hR
          subst hR
          go_wp2_with (go_at_call 54; refine HT.out.mono ?_; rintro x w2 ⟨rfl, hw2⟩; subst hw2)
          go_ret
          exact ⟨rfl, rfl⟩
end
end Go.Proofs.YthgfmoogagldmaaGreat.Journal
