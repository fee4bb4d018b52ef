/- The walks of keys: bytes as units; by the program, by the document. -/
import Derived.Test.YtfkakhlgcjjlcaaKeysUnits
import Derived.Laws.IdiomStrings
namespace Go.Proofs.Ytfkakhlgcjjlcaa.Keys
open Go.RowKit Codec
set_option linter.unusedVariables false
set_option maxRecDepth 100000

/-- '[]byte(s)' -/
theorem bytes_of (w : World) (s : ByteArray) (hs : s.size ≤ maxLen) : ∃ cap w', (convert 9 48 (.string s)).run Try.prog w = .ok (.slice (some ⟨w.heap.size, 0, none⟩) s.size cap) w' ∧
    Bytes w' w'.heap.size (some ⟨w.heap.size, 0, none⟩) s.size s.data.toList ∧ Only [] w w' ∧ s.size ≤ cap ∧ cap ≤ maxLen ∧ w'.heap.size = w.heap.size + 1 := by
  have hr := run_bytes_of_string (P := Try.prog) w 9 48 5 s Try.underlying9 Try.underlying48 Try.underlying5
  have hC : (bytesRow s (grownCap w s.size 0 5)).toList = (s.data.toList ++ List.replicate (grownCap w s.size 0 5 - s.size) 0).map B8 := by
    simp [bytesRow, B8]
  have hb := (Bytes.const w.drew _ _ 5 ((bytesRow s (grownCap w s.size 0 5)).size, (bytesRow s (grownCap w s.size 0 5)).size + 1) hC).head (k := s.size) (by simp)
  refine ⟨_, _, hr, ?_, ((Only.refl [] w).drew).alloc _, grownCap_ge _ _ _ _, grownCap_le_maxLen _ _ _ _ hs, alloc_size _ _⟩
  rw [List.take_left' (data_len s)] at hb
  rw [alloc_size]
  exact hb
theorem extract_str (s : ByteArray) (i j : Nat) : s.extract i j = str ((s.data.toList.drop i).take (j - i)) := by
  apply ByteArray.ext
  apply Array.ext'
  simp [str, ByteArray.data_extract]

/-- a unit of bytes -/
def unp (l : List UInt8) : Option (List UInt8 × List UInt8) :=
  if l.length < 8 ∨ s64 (vle (l.take 8)) < 0 ∨ (l.length : Int) - 8 < s64 (vle (l.take 8)) then none
  else some ((l.drop 8).take (s64 (vle (l.take 8))).toNat, (l.drop 8).drop (s64 (vle (l.take 8))).toNat)
def unpV (u : Option (List UInt8 × List UInt8)) : Value := match u with
  | none => .tuple #[.agg #[.string ⟨#[]⟩, .string ⟨#[]⟩], .int .i64 5]
  | some (e, o) => .tuple #[.agg #[.string (str e), .string (str o)], .int .i64 0]

theorem blk2 {w : World} {g : Nat} {t : TypeId} {a b : Value} (h : Blk w g t #[a, b]) (x y : Value) :
    ((w.setCell ⟨g, 0, none⟩ x).setCell ⟨g, 1, none⟩ y).cell? ⟨g, 0, none⟩ = some x ∧ ((w.setCell ⟨g, 0, none⟩ x).setCell ⟨g, 1, none⟩ y).cell? ⟨g, 1, none⟩ = some y :=
  ⟨((h.set_ 0 x).set_ 1 y).cell 0, ((h.set_ 0 x).set_ 1 y).cell 1⟩
theorem s64_lt (x : Nat) : -9223372036854775808 ≤ s64 x ∧ s64 x < 9223372036854775808 := by unfold s64 wrap64; omega
theorem unpack_ret (T : Array Value) (w : World) (g : Nat) (x y : ByteArray) (h2 : T[2]?.getD undef = .pointer (some ⟨g, 0, none⟩)) (h3 : T[3]?.getD undef = .int .i64 0)
    (d0 : w.cell? ⟨g, 0, none⟩ = some (.string x)) (d1 : w.cell? ⟨g, 1, none⟩ = some (.string y)) :
    (results Try.f9 T).run Try.prog w.drew = .ok (.tuple #[.agg #[.string x, .string y], .int .i64 0]) w.drew := by
  simp [results, Try.results9, h2, h3, go_sem, d0, d1]
set_option maxHeartbeats 2000000 in
theorem unpack_any (b : ByteArray) (w : World) (hb : b.size ≤ 10000) :
    Calls Try.prog 9 #[.string b] w fun x w' => x = .returned (unpV (unp b.data.toList)) ∧ Only [] w w' := by
  obtain ⟨cap, w1, hcv, hB1, hon1, hcc, hcm, hsz1⟩ := bytes_of (w.alloc (.cells #[.string ⟨#[]⟩, .string ⟨#[]⟩] 28)) b (by simp [maxLen]; omega)
  rw [alloc_size] at hB1 hcv hsz1
  have hu1 : Blk w1 w.heap.size 28 #[.string ⟨#[]⟩, .string ⟨#[]⟩] := (Blk.new w _ _).only hon1 (by simp)
  have ho1 : Only [] w w1 := ((Only.refl [] w).alloc _).trans hon1 (by simp)
  go_enter Try.func9, Try.ntmps9
  go_wp2_with fail
  refine (read_any _ b.size cap _ _ w1 hB1 (by omega)).mono ?_
  rintro x w2 ⟨p, rfl, hR2, hon2, hp⟩
  have ho2 := ho1.trans hon2 (by simp)
  have hu2 := hu1.only hon2 (by simp)
  go_wp2_with fail
  refine (num_r p _ w2 hR2).mono ?_
  rintro x w3 ⟨rfl, hR3, hon3⟩
  have hu3 := hu2.only hon3 (by simp; omega)
  have ho3 : Only [] w w3 := ⟨hon3.os.trans ho2.os, hon3.tape.trans ho2.tape, hon3.output.trans ho2.output, Nat.le_trans ho2.size hon3.size, fun i hi _ => (hon3.block i (by have := ho2.size; omega) (by simp; omega)).trans (ho2.block i hi (by simp))⟩
  have c0 : w3.cell? ⟨w.heap.size, 0, none⟩ = some (.string ⟨#[]⟩) := hu3.cell 0
  have c1 : w3.cell? ⟨w.heap.size, 1, none⟩ = some (.string ⟨#[]⟩) := hu3.cell 1
  have f0 : w3.frozen? ⟨w.heap.size, 0, none⟩ = false := hu3.frozen 0
  have f1 : w3.frozen? ⟨w.heap.size, 1, none⟩ = false := hu3.frozen 1
  by_cases h8 : b.data.toList.length < 8
  · have hun : unp b.data.toList = none := by unfold unp; rw [if_pos (.inl h8)]
    rw [rgot_bad h8, rget_bad h8] at *
    go_wp2_with (go_at_call 24; refine (good_any p _ _ hR3).mono ?_; rintro x wx ⟨rfl, rfl⟩)
    obtain ⟨d0, d1⟩ := blk2 hu3 (.string ⟨#[]⟩) (.string ⟨#[]⟩)
    rw [hun]
    exact bodyPost_ret (v := unpV none) (by simp [results, Try.results9, unpV, go_sem, d0, d1]) rfl ⟨rfl, (ho3.setCell (.inr (Nat.le_refl _)) _).setCell (.inr (Nat.le_refl _)) _⟩
  · have h8' : ¬ (b.data.toList.length < 8) := h8
    have hdl := data_len b
    have hu : unp b.data.toList = if s64 (vle (b.data.toList.take 8)) < 0 ∨ (b.data.toList.length : Int) - 8 < s64 (vle (b.data.toList.take 8)) then none else some ((b.data.toList.drop 8).take (s64 (vle (b.data.toList.take 8))).toNat, (b.data.toList.drop 8).drop (s64 (vle (b.data.toList.take 8))).toNat) := by
      unfold unp
      by_cases hx : s64 (vle (b.data.toList.take 8)) < 0 ∨ (b.data.toList.length : Int) - 8 < s64 (vle (b.data.toList.take 8))
      · rw [if_pos (.inr hx), if_pos hx]
      · rw [if_neg hx, if_neg (by intro h; rcases h with h | h; exact h8 h; exact hx h)]
    rw [rgot_ok h8, rget_ok h8] at *
    have hnl := s64_lt (vle (b.data.toList.take 8))
    generalize s64 (vle (b.data.toList.take 8)) = n at *
    have hgd := good_any p _ _ hR3
    have hlf := left_any p _ _ hR3
    obtain ⟨k, hk⟩ : ∃ k : Nat, b.size = k + 8 := ⟨b.size - 8, by omega⟩
    have hll : ((some (b.data.toList.drop 8)).getD []).length = k := by simp; omega
    rw [hll] at hlf
    clear hll
    have HG := Lib.hid hgd
    have HL := Lib.hid hlf
    have HU := Lib.hid hu
    clear hgd hlf hu
    by_cases hn0 : n < 0
    · rw [if_pos (.inl hn0)] at HU
      go_wp2_with (go_at_call 24; refine Calls.mono HG.out ?_; rintro x wx ⟨rfl, rfl⟩)
      obtain ⟨d0, d1⟩ := blk2 hu3 (.string ⟨#[]⟩) (.string ⟨#[]⟩)
      rw [HU.out]
      exact bodyPost_ret (v := unpV none) (by simp [results, Try.results9, unpV, go_sem, d0, d1]) rfl ⟨rfl, (ho3.setCell (.inr (Nat.le_refl _)) _).setCell (.inr (Nat.le_refl _)) _⟩
    · have hn0' : 0 ≤ n := by omega
      have hd1 : decide (n < 0) = false := decide_eq_false hn0
      by_cases hn1 : (k : Int) < n
      · rw [if_pos (.inr (by omega))] at HU
        clear hk hdl h8' h8 hb hcc hcm hsz1
        have hd2 : decide ((k : Int) < n) = true := decide_eq_true hn1
        clear hn0 hn1 hn0' hnl
        go_wp2_with (first
          | (go_at_call 24; refine Calls.mono HG.out ?_; rintro x wx ⟨rfl, rfl⟩)
          | (go_at_call 25; refine Calls.mono HL.out ?_; rintro x wx ⟨rfl, rfl⟩))
        obtain ⟨d0, d1⟩ := blk2 hu3 (.string ⟨#[]⟩) (.string ⟨#[]⟩)
        rw [HU.out]
        exact bodyPost_ret (v := unpV none) (by simp [results, Try.results9, unpV, go_sem, d0, d1]) rfl ⟨rfl, (ho3.setCell (.inr (Nat.le_refl _)) _).setCell (.inr (Nat.le_refl _)) _⟩
      · rw [if_neg (by rintro (h | h) <;> omega)] at HU
        have hbx : ((1048576 : Int) < (b.size : Int)) = False := eq_false (by omega)
        have hd2 : decide ((k : Int) < n) = false := decide_eq_false hn1
        have h8n : (0 : Int) ≤ 8 + n := by omega
        have h8a : (8 : Int) ≤ 8 + n := by omega
        have h8m : (8 : Int) + n ≤ b.size := by omega
        have hX : b.extract 8 (8 + n).toNat = str ((b.data.toList.drop 8).take n.toNat) := by
          rw [extract_str, show (8 + n).toNat - 8 = n.toNat by omega]
        have hY : b.extract (8 + n).toNat b.size = str ((b.data.toList.drop 8).drop n.toNat) := by
          rw [extract_str, List.take_of_length_le (by simp), List.drop_drop, show (8 + n).toNat = 8 + n.toNat by omega]
        have HX := Lib.hid hX
        have HY := Lib.hid hY
        have hbb := blk2 hu3 (.string (str ((b.data.toList.drop 8).take n.toNat))) (.string (str ((b.data.toList.drop 8).drop n.toNat)))
        have HBB := Lib.hid hbb
        clear hX hY hbb hk hdl h8' h8 hcc hcm hsz1
        go_wp2_with (first
          | (go_at_call 24; refine Calls.mono HG.out ?_; rintro x wx ⟨rfl, rfl⟩)
          | (go_at_call 25; refine Calls.mono HL.out ?_; rintro x wx ⟨rfl, rfl⟩))
        clear hd1 hd2
        go_region_with fail
        all_goals
          go_wp2_with fail
          rw [HX.out, HY.out, HU.out]
          have hO : Only [] w (((w3.setCell ⟨w.heap.size, 0, none⟩ (.string (str ((b.data.toList.drop 8).take n.toNat)))).setCell ⟨w.heap.size, 1, none⟩ (.string (str ((b.data.toList.drop 8).drop n.toNat)))).drew) := ((ho3.setCell (.inr (Nat.le_refl _)) _).setCell (.inr (Nat.le_refl _)) _).drew
          obtain ⟨d0, d1⟩ := HBB.out
          generalize ((w3.setCell ⟨w.heap.size, 0, none⟩ (.string (str ((b.data.toList.drop 8).take n.toNat)))).setCell ⟨w.heap.size, 1, none⟩ (.string (str ((b.data.toList.drop 8).drop n.toNat)))) = W4 at *
          generalize (b.data.toList.drop 8).take n.toNat = X at *
          generalize (b.data.toList.drop 8).drop n.toNat = Y at *
          exact bodyPost_ret (v := unpV (some (X, Y))) (unpack_ret _ W4 w.heap.size _ _ rfl rfl d0 d1) rfl ⟨rfl, hO⟩

theorem ref_unpack_ret (T : Array Value) (w : World) (g : Nat) (x y : ByteArray) (h2 : T[2]?.getD undef = .pointer (some ⟨g, 0, none⟩)) (h3 : T[3]?.getD undef = .int .i64 0)
    (d0 : w.cell? ⟨g, 0, none⟩ = some (.string x)) (d1 : w.cell? ⟨g, 1, none⟩ = some (.string y)) :
    (results Try.f10 T).run Try.prog w.drew = .ok (.tuple #[.agg #[.string x, .string y], .int .i64 0]) w.drew := by
  simp [results, Try.results10, h2, h3, go_sem, d0, d1]
set_option maxHeartbeats 2000000 in
theorem ref_unpack (b : ByteArray) (w : World) (hb : b.size ≤ 10000) :
    Calls Try.prog 10 #[.string b] w fun x w' => x = .returned (unpV (unp b.data.toList)) ∧ Only [] w w' := by
  obtain ⟨cap, w1, hcv, hB1, hon1, hcc, hcm, hsz1⟩ := bytes_of (w.alloc (.cells #[.string ⟨#[]⟩, .string ⟨#[]⟩] 23)) b (by simp [maxLen]; omega)
  rw [alloc_size] at hB1 hcv hsz1
  have hu1 : Blk w1 w.heap.size 23 #[.string ⟨#[]⟩, .string ⟨#[]⟩] := (Blk.new w _ _).only hon1 (by simp)
  have ho1 : Only [] w w1 := ((Only.refl [] w).alloc _).trans hon1 (by simp)
  go_enter Try.func10, Try.ntmps10
  go_wp2_with fail
  have hR2 : RRd (w1.alloc (.cells #[.slice (some ⟨w.heap.size + 1, 0, none⟩) b.size cap, .bool false] 60)) (w.heap.size + 1 + 1) (some b.data.toList) := by
    refine ⟨some ⟨w.heap.size + 1, 0, none⟩, b.size, cap, ?_, hcc, hcm, ?_⟩
    · have h := Blk.new w1 60 #[.slice (some ⟨w.heap.size + 1, 0, none⟩) b.size cap, .bool false]
      rw [hsz1] at h
      exact h
    · rw [← hsz1]; exact hB1.alloc (Nat.le_refl _) _
  have hu2 := hu1.alloc (.cells #[.slice (some ⟨w.heap.size + 1, 0, none⟩) b.size cap, .bool false] 60)
  have ho2 := ho1.alloc (.cells #[.slice (some ⟨w.heap.size + 1, 0, none⟩) b.size cap, .bool false] 60)
  generalize w1.alloc (.cells #[.slice (some ⟨w.heap.size + 1, 0, none⟩) b.size cap, .bool false] 60) = w2 at *
  generalize hp : w.heap.size + 1 + 1 = p at *
  refine (rref_num p _ w2 hR2).mono ?_
  rintro x w3 ⟨rfl, hR3, hon3⟩
  have hu3 := hu2.only hon3 (by simp; omega)
  have ho3 : Only [] w w3 := ⟨hon3.os.trans ho2.os, hon3.tape.trans ho2.tape, hon3.output.trans ho2.output, Nat.le_trans ho2.size hon3.size, fun i hi _ => (hon3.block i (by have := ho2.size; omega) (by simp; omega)).trans (ho2.block i hi (by simp))⟩
  have c0 : w3.cell? ⟨w.heap.size, 0, none⟩ = some (.string ⟨#[]⟩) := hu3.cell 0
  have c1 : w3.cell? ⟨w.heap.size, 1, none⟩ = some (.string ⟨#[]⟩) := hu3.cell 1
  have f0 : w3.frozen? ⟨w.heap.size, 0, none⟩ = false := hu3.frozen 0
  have f1 : w3.frozen? ⟨w.heap.size, 1, none⟩ = false := hu3.frozen 1
  clear hu2 ho2 hon3 hR2 hB1 hon1 hu1 ho1 hcc hcm hsz1 hcv
  by_cases h8 : b.data.toList.length < 8
  · have hun : unp b.data.toList = none := by unfold unp; rw [if_pos (.inl h8)]
    rw [rgot_bad h8, rget_bad h8] at *
    obtain ⟨A, k, c, hbk, _⟩ := hR3
    have e1 : w3.cell? ⟨p, 1, none⟩ = some (.bool true) := hbk.cell 1
    clear hp hbk
    go_wp2_with fail
    obtain ⟨d0, d1⟩ := blk2 hu3 (.string ⟨#[]⟩) (.string ⟨#[]⟩)
    rw [hun]
    exact bodyPost_ret (v := unpV none) (by simp [results, Try.results10, unpV, go_sem, d0, d1]) rfl ⟨rfl, (ho3.setCell (.inr (Nat.le_refl _)) _).setCell (.inr (Nat.le_refl _)) _⟩
  · have hdl := data_len b
    have hu : unp b.data.toList = if s64 (vle (b.data.toList.take 8)) < 0 ∨ (b.data.toList.length : Int) - 8 < s64 (vle (b.data.toList.take 8)) then none else some ((b.data.toList.drop 8).take (s64 (vle (b.data.toList.take 8))).toNat, (b.data.toList.drop 8).drop (s64 (vle (b.data.toList.take 8))).toNat) := by
      unfold unp
      by_cases hx : s64 (vle (b.data.toList.take 8)) < 0 ∨ (b.data.toList.length : Int) - 8 < s64 (vle (b.data.toList.take 8))
      · rw [if_pos (.inr hx), if_pos hx]
      · rw [if_neg hx, if_neg (by intro h; rcases h with h | h; exact h8 h; exact hx h)]
    rw [rgot_ok h8, rget_ok h8] at *
    have hnl := s64_lt (vle (b.data.toList.take 8))
    generalize s64 (vle (b.data.toList.take 8)) = n at *
    obtain ⟨A, k, c, hbk, hkc, hcm, hr⟩ := hR3
    have hk : b.size = k + 8 := by have := hr.len; simp at this; omega
    have e1 : w3.cell? ⟨p, 1, none⟩ = some (.bool false) := hbk.cell 1
    have e0 : w3.cell? ⟨p, 0, none⟩ = some (.slice A k c) := hbk.cell 0
    have HU := Lib.hid hu
    have hr' : Bytes w3 p A k (b.data.toList.drop 8) := hr
    have HR := Lib.hid hr'
    clear hu hr hr' hp hbk
    unfold maxLen at hcm
    by_cases hn0 : n < 0
    · rw [if_pos (.inl hn0)] at HU
      have hd1 : decide (n < 0) = true := decide_eq_true hn0
      clear hk hdl h8 hkc hcm hnl hb
      go_wp2_with fail
      obtain ⟨d0, d1⟩ := blk2 hu3 (.string ⟨#[]⟩) (.string ⟨#[]⟩)
      rw [HU.out]
      exact bodyPost_ret (v := unpV none) (by simp [results, Try.results10, unpV, go_sem, d0, d1]) rfl ⟨rfl, (ho3.setCell (.inr (Nat.le_refl _)) _).setCell (.inr (Nat.le_refl _)) _⟩
    · have hd1 : decide (n < 0) = false := decide_eq_false hn0
      by_cases hn1 : (k : Int) < n
      · rw [if_pos (.inr (by omega))] at HU
        have hd2 : decide ((k : Int) < n) = true := decide_eq_true hn1
        clear hk hdl h8 hkc hcm hnl hb hn0 hn1
        go_wp2_with fail
        obtain ⟨d0, d1⟩ := blk2 hu3 (.string ⟨#[]⟩) (.string ⟨#[]⟩)
        rw [HU.out]
        exact bodyPost_ret (v := unpV none) (by simp [results, Try.results10, unpV, go_sem, d0, d1]) rfl ⟨rfl, (ho3.setCell (.inr (Nat.le_refl _)) _).setCell (.inr (Nat.le_refl _)) _⟩
      · rw [if_neg (by rintro (h | h) <;> omega)] at HU
        have hbx : ((1048576 : Int) < (b.size : Int)) = False := eq_false (by omega)
        have hd3 : decide ((1048576 : Int) < (b.size : Int)) = false := decide_eq_false (by omega)
        have hd2 : decide ((k : Int) < n) = false := decide_eq_false hn1
        have hn0' : 0 ≤ n := by omega
        have hnk : n ≤ k := by omega
        obtain ⟨q, rfl⟩ := Int.eq_ofNat_of_zero_le hn0'
        have hqk : q ≤ k := by omega
        have hXr := HR.out.head hqk
        have hYr := HR.out.rest hqk
        rw [Int.toNat_natCast] at HU
        have hS1 := run_str (w := w3.drew) hXr.drew c
        have hS2 := run_str (w := w3.drew) hYr.drew (c - q)
        have hbb := blk2 hu3 (.string (str ((b.data.toList.drop 8).take q))) (.string (str ((b.data.toList.drop 8).drop q)))
        have HBB := Lib.hid hbb
        clear hbb hk hdl h8 hnl hb hn0 hn1 hXr hYr hn0' hnk
        have hO : Only [] w (((w3.setCell ⟨w.heap.size, 0, none⟩ (.string (str ((b.data.toList.drop 8).take q)))).setCell ⟨w.heap.size, 1, none⟩ (.string (str ((b.data.toList.drop 8).drop q)))).drew) := ((ho3.setCell (.inr (Nat.le_refl _)) _).setCell (.inr (Nat.le_refl _)) _).drew
        have HO := Lib.hid hO
        clear hO
        by_cases hcq : c = q
        · obtain rfl : k = c := by omega
          have hqk' : q = k := hcq.symm
          subst hqk'
          have hdr : (b.data.toList.drop 8).drop q = [] := List.drop_eq_nil_of_le (by rw [HR.out.len]; exact Nat.le_refl _)
          have hS3 := run_str (w := w3.drew) (B := 0) (A := A) (n := 0) (l := []) ⟨rfl, rfl, fun h => absurd h (by omega)⟩ 0
          rw [hdr] at HU HBB HO
          clear hS2 hdr HR
          generalize (b.data.toList.drop 8).take q = X at *
          go_wp2_with fail
          clear hd1 hd2 hd3
          go_region_with fail
          all_goals
            go_wp2_with fail
            rw [HU.out]
            exact bodyPost_ret (v := unpV (some (X, []))) (ref_unpack_ret _ _ w.heap.size _ _ rfl rfl HBB.out.1 HBB.out.2) rfl ⟨rfl, HO.out⟩
        · clear HR
          generalize (b.data.toList.drop 8).take q = X at *
          generalize (b.data.toList.drop 8).drop q = Y at *
          go_wp2_with fail
          clear hd1 hd2 hd3
          go_region_with fail
          all_goals
            go_wp2_with fail
            rw [HU.out]
            exact bodyPost_ret (v := unpV (some (X, Y))) (ref_unpack_ret _ _ w.heap.size _ _ rfl rfl HBB.out.1 HBB.out.2) rfl ⟨rfl, HO.out⟩
end Go.Proofs.Ytfkakhlgcjjlcaa.Keys
