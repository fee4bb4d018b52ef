/- CacheC: The cache's entries as bytes; by the program, by the document; Bytes as the cache's entries; by the program, by the document. -/
import Derived.Test.YthgfmoogagldmaaGreatFrameC
import Derived.Test.YthgfmoogagldmaaGreatCodecA
import Derived.Test.YthgfmoogagldmaaGreatCodecB
import Derived.Test.YthgfmoogagldmaaGreatCacheA
import Derived.Test.YthgfmoogagldmaaGreatRanges
import Derived.Deep.RegionHeld3
set_option linter.unusedVariables false
set_option maxRecDepth 100000
namespace Go.Proofs.YthgfmoogagldmaaGreat.Cache
open Go.RowKit Codec

def packB (e o : ByteArray) : List UInt8 := le (u64 (e.size : Int)) 8 ++ e.data.toList ++ o.data.toList
theorem alloc_size (w : World) (o : Obj) : (w.alloc o).heap.size = w.heap.size + 1 := Array.size_push _
theorem data_len (s : ByteArray) : s.data.toList.length = s.size := Array.length_toList

set_option maxHeartbeats 1000000 in
theorem pack7 (e o : ByteArray) (w : World) (he : e.size ≤ 10000) (ho : o.size ≤ 10000) :
    Calls Tryz.prog 39 #[.agg #[.string e, .string o]] w fun x w' => ∃ v, x = .returned v ∧ OwnB w' w.heap.size v (8 + e.size + o.size) (packB e o) ∧ Only [] w w' := by
  go_enter Tryz.func39, Tryz.ntmps39
  go_wp2_with fail
  have hb1 : Blk (((w.alloc (.cells #[.string e, .string o] 69)).alloc (.cells #[.slice none 0 0] 151)).alloc (.cells #[.int .i64 ↑e.size] 2)) (w.heap.size + 1) 151 #[.slice none 0 0] := by
    have h := (Blk.new (w.alloc (.cells #[.string e, .string o] 69)) 151 #[.slice none 0 0]).alloc (.cells #[.int .i64 ↑e.size] 2)
    rw [alloc_size] at h
    exact h
  have hbu : Blk (((w.alloc (.cells #[.string e, .string o] 69)).alloc (.cells #[.slice none 0 0] 151)).alloc (.cells #[.int .i64 ↑e.size] 2)) w.heap.size 69 #[.string e, .string o] := by
    exact ((Blk.new w 69 #[.string e, .string o]).alloc (.cells #[.slice none 0 0] 151)).alloc (.cells #[.int .i64 ↑e.size] 2)
  have hon1 : Only [] w (((w.alloc (.cells #[.string e, .string o] 69)).alloc (.cells #[.slice none 0 0] 151)).alloc (.cells #[.int .i64 ↑e.size] 2)) := (((Only.refl [] w).alloc _).alloc _).alloc _
  have hrd : Reads (((w.alloc (.cells #[.string e, .string o] 69)).alloc (.cells #[.slice none 0 0] 151)).alloc (.cells #[.int .i64 ↑e.size] 2)) (w.heap.size + 3) 1 (some ⟨w.heap.size + 1 + 1, 0, none⟩) 1 ([(e.size : Int)].map (Value.int .i64)) := by
    have h := Reads.const ((w.alloc (.cells #[.string e, .string o] 69)).alloc (.cells #[.slice none 0 0] 151)) ([(e.size : Int)].map (Value.int .i64)) #[.int .i64 ↑e.size] 2 (0, 0) rfl
    rw [alloc_size, alloc_size] at h
    exact h
  have hWs : (((w.alloc (.cells #[.string e, .string o] 69)).alloc (.cells #[.slice none 0 0] 151)).alloc (.cells #[.int .i64 ↑e.size] 2)).heap.size = w.heap.size + 3 := by rw [alloc_size, alloc_size, alloc_size]
  generalize hW : (((w.alloc (.cells #[.string e, .string o] 69)).alloc (.cells #[.slice none 0 0] 151)).alloc (.cells #[.int .i64 ↑e.size] 2)) = W at *
  clear hW
  have hwr : Wr W (w.heap.size + 1) (.slice none 0 0) 0 [] := ⟨hb1, OwnB.nil_ _ _⟩
  refine (num_any (w.heap.size + 1) 0 (.slice none 0 0) [] (some ⟨w.heap.size + 1 + 1, 0, none⟩) 1 1 (w.heap.size + 3) [(e.size : Int)] W hwr rfl hrd (by
    intro g hg
    obtain rfl : g = w.heap.size + 1 + 1 := by simpa [blkOf] using hg
    intro hx
    rcases List.mem_cons.1 hx with hx | hx
    · omega
    · cases hx) (by decide)).mono ?_
  rintro x w2 ⟨rfl, v2, hw2, ht2⟩
  have hbu2 : Blk w2 w.heap.size 69 #[.string e, .string o] := hbu.only ht2.only (by
    intro hx
    rcases List.mem_cons.1 hx with hx | hx
    · omega
    · cases hx)
  have hbl := bytes_any (w.heap.size + 1) (0 + 8 * 1) v2 _ w2.drew (hw2.only ((Only.refl [] w2).drew) (by simp) (by simp)) (by decide)
  have hce : w2.cell? ⟨w.heap.size, 0, none⟩ = some (.string e) := hbu2.cell 0
  have hco : w2.cell? ⟨w.heap.size, 1, none⟩ = some (.string o) := hbu2.cell 1
  have hnil : ([] ++ nums [(e.size : Int)]) = le (u64 (e.size : Int)) 8 := by simp [nums]
  rw [hnil] at hbl
  have hon2 : Only [] w w2 := ⟨ht2.only.os.trans hon1.os, ht2.only.tape.trans hon1.tape, ht2.only.output.trans hon1.output, Nat.le_trans hon1.size ht2.only.size, fun i hi _ => (ht2.only.block i (by omega) (by
    intro hx
    rcases List.mem_cons.1 hx with hx | hx
    · omega
    · cases hx)).trans (hon1.block i hi (by simp))⟩
  have HB := Lib.hid hbl
  clear hbl hnil hwr ht2 hw2 hrd hb1 hbu
  go_wp2_with fail
  have hk : (∀ w3, Only [] w2.drew w3 → Only [] w w3 ∧ w3.cell? ⟨w.heap.size, 0, none⟩ = some (.string e) ∧ w3.cell? ⟨w.heap.size, 1, none⟩ = some (.string o)) := fun w3 h3 => ⟨((hon2.drew).trans h3 (by simp)), h3.cell hce (by simp), h3.cell hco (by simp)⟩
  have HK := Lib.hid hk
  clear hk
  have HS2 := Lib.hid hon2.size
  go_region_held3 (fun w' => w'.cell? ⟨w.heap.size, 0, none⟩ = some (.string e) ∧ w'.cell? ⟨w.heap.size, 1, none⟩ = some (.string o)) (first | go_keep | (constructor <;> assumption)) ((first
    | (go_at_call 93; refine Calls.mono HB.out ?_; rintro e' w3 ⟨v3, rfl, ho3, hon3⟩; obtain ⟨HO3, d1, d2⟩ := HK.out w3 hon3; have E3 : Ext w2.drew w3 w2.heap.size (.slice none 0 0) v3 _ _ := ⟨ho3, hon3.mono (by simp), fun g hg => .inr (ho3.lt g hg).1⟩)
    | (refine step_append_str rfl (.tmp 16) (.tmp 18) rfl rfl E4.own rfl (by omega) (by have := E4.only.size; exact this) ?_; intro v5 w5 ho5 hon5 hfr5; have E5 := E4.trans ⟨ho5, hon5, hfr5⟩; obtain ⟨HO5, f1, f2⟩ := HK.out w5 (E5.only.mono (by intro g hg; cases hg)))
    | (refine step_append_str rfl (.tmp 13) (.tmp 15) rfl rfl E3.own rfl (by omega) (by have := E3.only.size; exact this) ?_; intro v4 w4 ho4 hon4 hfr4; have E4 := E3.trans ⟨ho4, hon4, hfr4⟩; obtain ⟨HO4, f1, f2⟩ := HK.out w4 (E4.only.mono (by intro g hg; cases hg)))))
  all_goals
    go_wp2_with fail
    go_ret
    refine ⟨_, rfl, ?_, HO5⟩
    have := (E5.own).mono HS2.out
    rw [show 0 + 8 * 1 + e.size + o.size = 8 + e.size + o.size by omega] at this
    exact this
end Go.Proofs.YthgfmoogagldmaaGreat.Cache
namespace Go.Proofs.YthgfmoogagldmaaGreat.Cache
open Go.RowKit Codec Go.Shelf
def unp (l : List UInt8) : Option (List UInt8 × List UInt8) :=
  if l.length < 8 ∨ s64 (vle (l.take 8)) < 0 ∨ (l.length : Int) - 8 < s64 (vle (l.take 8)) then none
  else some ((l.drop 8).take (s64 (vle (l.take 8))).toNat, (l.drop 8).drop (s64 (vle (l.take 8))).toNat)
def unpV (u : Option (List UInt8 × List UInt8)) : Value := match u with
  | none => .tuple #[.agg #[.string ⟨#[]⟩, .string ⟨#[]⟩], .bool false]
  | some (e, o) => .tuple #[.agg #[.string (str e), .string (str o)], .bool true]
theorem blk2 {w : World} {g : Nat} {t : TypeId} {a b : Value} (h : Blk w g t #[a, b]) (x y : Value) :
    ((w.setCell ⟨g, 0, none⟩ x).setCell ⟨g, 1, none⟩ y).cell? ⟨g, 0, none⟩ = some x ∧ ((w.setCell ⟨g, 0, none⟩ x).setCell ⟨g, 1, none⟩ y).cell? ⟨g, 1, none⟩ = some y :=
  ⟨((h.set_ 0 x).set_ 1 y).cell 0, ((h.set_ 0 x).set_ 1 y).cell 1⟩
theorem s64_lt (x : Nat) : -9223372036854775808 ≤ s64 x ∧ s64 x < 9223372036854775808 := by unfold s64 wrap64; omega
theorem unp_ok {l : List UInt8} (h8 : ¬ l.length < 8) : unp l = if s64 (vle (l.take 8)) < 0 ∨ (l.length : Int) - 8 < s64 (vle (l.take 8)) then none else some ((l.drop 8).take (s64 (vle (l.take 8))).toNat, (l.drop 8).drop (s64 (vle (l.take 8))).toNat) := by
  unfold unp
  by_cases hx : s64 (vle (l.take 8)) < 0 ∨ (l.length : Int) - 8 < s64 (vle (l.take 8))
  · rw [if_pos (.inr hx), if_pos hx]
  · rw [if_neg hx, if_neg (by intro h; rcases h with h | h; exact h8 h; exact hx h)]
theorem Bytes.mid {w : World} {B n b off : Nat} {l : List UInt8} (h : Bytes w B (some ⟨b, off, none⟩) n l) {i k : Nat} (hk : i + k ≤ n) : Bytes w B (some ⟨b, off + i, none⟩) k ((l.drop i).take k) := by
  have h1 := h.rest (k := i) (by omega)
  have e : (Option.map (fun x => Addr.add x i) (some (⟨b, off, none⟩ : Addr))) = some ⟨b, off + i, none⟩ := by simp [add_block]
  rw [e] at h1
  exact h1.head (k := k) (by omega)
theorem gret (T : Array Value) (w : World) (g : Nat) (x y : ByteArray) (h2 : T[2]?.getD undef = .pointer (some ⟨g, 0, none⟩)) (h3 : T[3]?.getD undef = .bool true)
    (d0 : w.cell? ⟨g, 0, none⟩ = some (.string x)) (d1 : w.cell? ⟨g, 1, none⟩ = some (.string y)) :
    (results Tryz.f37 T).run Tryz.prog w.drew = .ok (.tuple #[.agg #[.string x, .string y], .bool true]) w.drew := by
  simp [results, Tryz.results37, h2, h3, go_sem, d0, d1]
set_option maxHeartbeats 4000000 in
theorem unpack7 (A : Option Addr) (n c : Nat) (l : List UInt8) (w : World) (hb : Bytes w w.heap.size A n l) (hn : n ≤ 10000) (hc : n ≤ c) (hcm : c ≤ maxLen) :
    Calls Tryz.prog 37 #[.slice A n c] w fun x w' => x = .returned (unpV (unp l)) ∧ Only [] w w' := by
  have hl := hb.len
  have hu1 := Blk.new w 69 #[.string ⟨#[]⟩, .string ⟨#[]⟩]
  have ho1 := (Only.refl [] w).alloc (.cells #[.string ⟨#[]⟩, .string ⟨#[]⟩] 69)
  have hB1 : Bytes (w.alloc (.cells #[.string ⟨#[]⟩, .string ⟨#[]⟩] 69)) (w.heap.size + 1) A n l := (hb.only ho1 (by simp)).more (by omega)
  have hs1 := World.size_alloc w (.cells #[.string ⟨#[]⟩, .string ⟨#[]⟩] 69)
  go_enter Tryz.func37, Tryz.ntmps37
  go_wp2_with fail
  generalize w.alloc (.cells #[.string ⟨#[]⟩, .string ⟨#[]⟩] 69) = w1 at *
  refine (read_any A n c (w.heap.size + 1) l w1 hB1 (by omega)).mono ?_
  rintro x w2 ⟨p, rfl, hR2, hon2, hp⟩
  have hon12 := hon2
  have ho2 := ho1.trans hon2 (by simp)
  have hu2 := hu1.only hon2 (by simp)
  have hB2 := hB1.only hon2 (by simp)
  have hwp : w.heap.size < p := by omega
  go_wp2_with fail
  refine (num_r p _ w2 hR2).mono ?_
  rintro x w3 ⟨rfl, hR3, hon3⟩
  have hu3 := hu2.only hon3 (by simp; omega)
  have hB3 : Bytes w3 w.heap.size A n l := by
    by_cases h0 : 0 < n
    · have hlt := hb.blk_lt h0
      obtain ⟨gb, off, rfl, hgb, _⟩ := hb.at_ (k := 0) h0
      exact ((hb.only ho1 (by simp)).only hon12 (by simp)).only hon3 (fun k hk hm => by rw [List.mem_singleton.1 hm] at hk; have := hlt p hk; omega)
    · have : n = 0 := by omega
      subst this
      exact ⟨hl, by rw [List.length_map, hl], fun h => absurd h (by omega)⟩
  have ho3 : Only [] w w3 := ⟨hon3.os.trans ho2.os, hon3.tape.trans ho2.tape, hon3.output.trans ho2.output, Nat.le_trans ho2.size hon3.size, fun i hi _ => (hon3.block i (by have := ho2.size; omega) (by simp; omega)).trans (ho2.block i hi (by simp))⟩
  have c0 : w3.cell? ⟨w.heap.size, 0, none⟩ = some (.string ⟨#[]⟩) := hu3.cell 0
  have c1 : w3.cell? ⟨w.heap.size, 1, none⟩ = some (.string ⟨#[]⟩) := hu3.cell 1
  have f0 : w3.frozen? ⟨w.heap.size, 0, none⟩ = false := hu3.frozen 0
  have f1 : w3.frozen? ⟨w.heap.size, 1, none⟩ = false := hu3.frozen 1
  clear hu2 ho2 hon3 hR2 hB1 hB2 hu1 ho1 hs1 hb hon12
  clear hon2
  by_cases h8 : l.length < 8
  · have hun : unp l = none := by unfold unp; rw [if_pos (.inl h8)]
    rw [rgot_bad h8, rget_bad h8] at *
    have HG := Lib.hid (good_any p _ _ hR3)
    clear h8 hR3 hB3 hl hc hcm
    go_wp2_with (go_at_call 89; refine HG.out.mono ?_; rintro x wx ⟨rfl, rfl⟩)
    obtain ⟨d0, d1⟩ := blk2 hu3 (.string ⟨#[]⟩) (.string ⟨#[]⟩)
    rw [hun]
    exact bodyPost_ret (v := unpV none) (by simp [results, Tryz.results37, unpV, go_sem, d0, d1]) rfl ⟨rfl, (ho3.setCell (.inr (Nat.le_refl _)) _).setCell (.inr (Nat.le_refl _)) _⟩
  · have hu := unp_ok h8
    rw [rgot_ok h8, rget_ok h8] at *
    have hnl := s64_lt (vle (l.take 8))
    generalize s64 (vle (l.take 8)) = z at *
    obtain ⟨k, hk⟩ : ∃ k : Nat, n = k + 8 := ⟨n - 8, by omega⟩
    subst hk
    have HU := Lib.hid hu
    obtain ⟨gb, off, rfl, _, _⟩ := hB3.at_ (k := 0) (by omega)
    have HB3 := Lib.hid hB3
    have hgd := good_any p _ _ hR3
    have hlf := left_any p _ _ hR3
    have hll : ((some (l.drop 8)).getD []).length = k := by simp; omega
    rw [hll] at hlf
    have HG := Lib.hid hgd
    have HL := Lib.hid hlf
    clear hgd hlf hll
    have WALK : True := trivial
    clear hu hB3
    by_cases hn0 : z < 0
    · rw [if_pos (.inl hn0)] at HU
      have hd1 : decide (z < 0) = true := decide_eq_true hn0
      clear h8 hc hcm hnl hn hl
      go_wp2_with (first | (go_at_call 89; refine HG.out.mono ?_; rintro x wx ⟨rfl, rfl⟩) | (go_at_call 90; refine HL.out.mono ?_; rintro x wx ⟨rfl, rfl⟩))
      obtain ⟨d0, d1⟩ := blk2 hu3 (.string ⟨#[]⟩) (.string ⟨#[]⟩)
      rw [HU.out]
      exact bodyPost_ret (v := unpV none) (by simp [results, Tryz.results37, unpV, go_sem, d0, d1]) rfl ⟨rfl, (ho3.setCell (.inr (Nat.le_refl _)) _).setCell (.inr (Nat.le_refl _)) _⟩
    · have hd1 : decide (z < 0) = false := decide_eq_false hn0
      by_cases hn1 : (k : Int) < z
      · rw [if_pos (.inr (by omega))] at HU
        have hd2 : decide ((k : Int) < z) = true := decide_eq_true hn1
        clear h8 hc hcm hnl hn hl hn0 hn1
        go_wp2_with (first | (go_at_call 89; refine HG.out.mono ?_; rintro x wx ⟨rfl, rfl⟩) | (go_at_call 90; refine HL.out.mono ?_; rintro x wx ⟨rfl, rfl⟩))
        obtain ⟨d0, d1⟩ := blk2 hu3 (.string ⟨#[]⟩) (.string ⟨#[]⟩)
        rw [HU.out]
        exact bodyPost_ret (v := unpV none) (by simp [results, Tryz.results37, unpV, go_sem, d0, d1]) rfl ⟨rfl, (ho3.setCell (.inr (Nat.le_refl _)) _).setCell (.inr (Nat.le_refl _)) _⟩
      · rw [if_neg (by rintro (h | h) <;> omega)] at HU
        have hd2 : decide ((k : Int) < z) = false := decide_eq_false hn1
        have hn0' : 0 ≤ z := by omega
        obtain ⟨q, rfl⟩ := Int.eq_ofNat_of_zero_le hn0'
        have hqk : q ≤ k := by omega
        have hd2n : decide (k < q) = false := decide_eq_false (by omega)
        rw [Int.toNat_natCast] at HU
        have hX := Bytes.mid HB3.out (i := 8) (k := q) (by omega)
        have hY := Bytes.mid HB3.out (i := 8 + q) (k := k - q) (by omega)
        have hYe : (l.drop (8 + q)).take (k - q) = (l.drop 8).drop q := by rw [List.take_of_length_le (by rw [List.length_drop]; omega), List.drop_drop]
        rw [hYe] at hY
        have hO : Only [] w (((w3.setCell ⟨w.heap.size, 0, none⟩ (.string (str ((l.drop 8).take q)))).setCell ⟨w.heap.size, 1, none⟩ (.string (str ((l.drop 8).drop q)))).drew) := ((ho3.setCell (.inr (Nat.le_refl _)) _).setCell (.inr (Nat.le_refl _)) _).drew
        have HO := Lib.hid hO
        have HBB := Lib.hid (blk2 hu3 (.string (str ((l.drop 8).take q))) (.string (str ((l.drop 8).drop q))))
        have HX := Lib.hid hX
        have HY := Lib.hid hY
        generalize (l.drop 8).take q = X at *
        generalize (l.drop 8).drop q = Y at *
        have h8n : (0 : Int) ≤ 8 + (q : Int) := by omega
        have h8a : (8 : Int) ≤ 8 + (q : Int) := by omega
        have h8m : (8 : Int) + (q : Int) ≤ ((k + 8 : Nat) : Int) := by omega
        have h8c : (8 : Int) + (q : Int) ≤ (c : Int) := by omega
        unfold maxLen at hcm
        have ht : ((8 : Int) + (q : Int)).toNat = 8 + q := by omega
        have HW8 := Lib.hid (show wrap64 (8 + (q : Int)) = 8 + (q : Int) by unfold wrap64; omega)
        clear hX hY hYe hO hnl hn0 hn1 hn0' h8 hl
        have hS0 : Bytes w3.drew w.heap.size (some ⟨gb, off + 8, none⟩) q X ∧ Bytes w3.drew w.heap.size (some ⟨gb, off + (8 + q), none⟩) (k - q) Y := ⟨HX.out.drew, HY.out.drew⟩
        by_cases hcq : c = 8 + q
        · obtain rfl : k = q := by omega
          have hYn : Y = [] := List.eq_nil_of_length_eq_zero (by have := HY.out.len; omega)
          by_cases hc8 : c = 8
          · obtain rfl : k = 0 := by omega
            have hXn : X = [] := List.eq_nil_of_length_eq_zero HX.out.len
            subst hc8
            subst hXn
            subst hYn
            have hbF : (((0 : Nat) : Int) + 8 < 8 + ((0 : Nat) : Int)) = False := eq_false (by omega)
            have hw8 := HW8.out
            go_upto_region 6 with (first | (go_at_call 89; refine HG.out.mono ?_; rintro x wx ⟨rfl, rfl⟩) | (go_at_call 90; refine HL.out.mono ?_; rintro x wx ⟨rfl, rfl⟩))
            refine wp_region_hand (S := (fun Y0 => Bytes Y0 w.heap.size (some ⟨gb, off + 8, none⟩) 0 ([] : List UInt8) ∧ Bytes Y0 w.heap.size (some ⟨gb, off + (8 + 0), none⟩) (0 - 0) ([] : List UInt8))) (by kernel_rfl) ?_
            refine takeV 0 (.slice (some ⟨gb, off, none⟩) (0 + 8) 8) rfl rfl (by kernel_rfl) (fun Y0 hY => by go_simp) hS0 ?_; simp only [s0A, s0B, s0C]
            refine takeV 1 (.int .i64 (8 + ((0 : Nat) : Int))) rfl rfl (by kernel_rfl) (fun Y0 hY => by go_simp) hS0 ?_; simp only [s0A, s0B, s0C]
            refine takeV 2 (.slice (some ⟨gb, off, none⟩) 0 0) rfl rfl (by kernel_rfl) (fun Y0 hY => by go_simp) hS0 ?_; simp only [s0A, s0B, s0C]
            refine takeV 3 (.string (str [])) rfl rfl (by kernel_rfl) (fun Y0 hY => by have h1 := run_str (w := Y0) (B := 0) (A := some ⟨gb, off, none⟩) (n := 0) (l := []) ⟨rfl, rfl, fun h => absurd h (by omega)⟩ 0; go_simp) hS0 ?_; simp only [s0A, s0B, s0C]
            refine takeV 4 (.slice (some ⟨gb, off, none⟩) (0 + 8) 8) rfl rfl (by kernel_rfl) (fun Y0 hY => by go_simp) hS0 ?_; simp only [s0A, s0B, s0C]
            refine takeV 5 (.int .i64 (8 + ((0 : Nat) : Int))) rfl rfl (by kernel_rfl) (fun Y0 hY => by go_simp) hS0 ?_; simp only [s0A, s0B, s0C]
            refine takeV 6 (.slice (some ⟨gb, off, none⟩) 0 0) rfl rfl (by kernel_rfl) (fun Y0 hY => by go_simp) hS0 ?_; simp only [s0A, s0B, s0C]
            refine takeV 7 (.string (str [])) rfl rfl (by kernel_rfl) (fun Y0 hY => by have h2 := run_str (w := Y0) (B := 0) (A := some ⟨gb, off, none⟩) (n := 0) (l := []) ⟨rfl, rfl, fun h => absurd h (by omega)⟩ 0; go_simp) hS0 ?_; simp only [s0A, s0B, s0C]
            refine takeV 8 (.agg #[.string (str []), .string (str [])]) rfl rfl (by kernel_rfl) (fun Y0 hY => by go_simp) hS0 ?_; simp only [s0A, s0B, s0C]
            refine oneS (i := 9) (v := undef) (w' := ((w3.drew.setCell ⟨w.heap.size, 0, none⟩ (.string (str []))).setCell ⟨w.heap.size, 1, none⟩ (.string (str [])))) rfl (by kernel_rfl) rfl (by rfl) (by first | (left; go_simp; done) | (right; go_simp; done)) ⟨(hS0.1.setCell (Nat.le_refl _) _).setCell (Nat.le_refl _) _, (hS0.2.setCell (Nat.le_refl _) _).setCell (Nat.le_refl _) _⟩ ?_
            refine takeV 10 (.bool true) rfl rfl (by kernel_rfl) (fun Y0 hY => by go_simp) ⟨(hS0.1.setCell (Nat.le_refl _) _).setCell (Nat.le_refl _) _, (hS0.2.setCell (Nat.le_refl _) _).setCell (Nat.le_refl _) _⟩ ?_; simp only [s0A, s0B, s0C]
            refine wpAnyH_done (by kernel_rfl) ?_ _
            clear hS0
            go_wp2_with fail
            rw [HU.out]
            exact bodyPost_ret (v := unpV (some ([], []))) (gret _ _ w.heap.size _ _ rfl rfl HBB.out.1 HBB.out.2) rfl ⟨rfl, HO.out⟩
          · subst hcq
            subst hYn
            have hk0 : ¬ k = 0 := by omega
            have hbF : (((k : Nat) : Int) + 8 < 8 + ((k : Nat) : Int)) = False := eq_false (by omega)
            have hw8 := HW8.out
            go_upto_region 6 with (first | (go_at_call 89; refine HG.out.mono ?_; rintro x wx ⟨rfl, rfl⟩) | (go_at_call 90; refine HL.out.mono ?_; rintro x wx ⟨rfl, rfl⟩))
            refine wp_region_hand (S := (fun Y0 => Bytes Y0 w.heap.size (some ⟨gb, off + 8, none⟩) k X ∧ Bytes Y0 w.heap.size (some ⟨gb, off + (8 + k), none⟩) (k - k) ([] : List UInt8))) (by kernel_rfl) ?_
            refine takeV 0 (.slice (some ⟨gb, off, none⟩) (k + 8) (8 + k)) rfl rfl (by kernel_rfl) (fun Y0 hY => by go_simp) hS0 ?_; simp only [s0A, s0B, s0C]
            refine takeV 1 (.int .i64 (8 + ((k : Nat) : Int))) rfl rfl (by kernel_rfl) (fun Y0 hY => by go_simp) hS0 ?_; simp only [s0A, s0B, s0C]
            refine takeV 2 (.slice (some ⟨gb, off + 8, none⟩) k k) rfl rfl (by kernel_rfl) (fun Y0 hY => by go_simp) hS0 ?_; simp only [s0A, s0B, s0C]
            refine takeV 3 (.string (str X)) rfl rfl (by kernel_rfl) (fun Y0 hY => by have h1 := run_str hY.1 k; go_simp) hS0 ?_; simp only [s0A, s0B, s0C]
            refine takeV 4 (.slice (some ⟨gb, off, none⟩) (k + 8) (8 + k)) rfl rfl (by kernel_rfl) (fun Y0 hY => by go_simp) hS0 ?_; simp only [s0A, s0B, s0C]
            refine takeV 5 (.int .i64 (8 + ((k : Nat) : Int))) rfl rfl (by kernel_rfl) (fun Y0 hY => by go_simp) hS0 ?_; simp only [s0A, s0B, s0C]
            refine takeV 6 (.slice (some ⟨gb, off, none⟩) 0 0) rfl rfl (by kernel_rfl) (fun Y0 hY => by go_simp) hS0 ?_; simp only [s0A, s0B, s0C]
            refine takeV 7 (.string (str [])) rfl rfl (by kernel_rfl) (fun Y0 hY => by have h2 := run_str (w := Y0) (B := 0) (A := some ⟨gb, off, none⟩) (n := 0) (l := []) ⟨rfl, rfl, fun h => absurd h (by omega)⟩ 0; go_simp) hS0 ?_; simp only [s0A, s0B, s0C]
            refine takeV 8 (.agg #[.string (str X), .string (str [])]) rfl rfl (by kernel_rfl) (fun Y0 hY => by go_simp) hS0 ?_; simp only [s0A, s0B, s0C]
            refine oneS (i := 9) (v := undef) (w' := ((w3.drew.setCell ⟨w.heap.size, 0, none⟩ (.string (str X))).setCell ⟨w.heap.size, 1, none⟩ (.string (str [])))) rfl (by kernel_rfl) rfl (by rfl) (by first | (left; go_simp; done) | (right; go_simp; done)) ⟨(hS0.1.setCell (Nat.le_refl _) _).setCell (Nat.le_refl _) _, (hS0.2.setCell (Nat.le_refl _) _).setCell (Nat.le_refl _) _⟩ ?_
            refine takeV 10 (.bool true) rfl rfl (by kernel_rfl) (fun Y0 hY => by go_simp) ⟨(hS0.1.setCell (Nat.le_refl _) _).setCell (Nat.le_refl _) _, (hS0.2.setCell (Nat.le_refl _) _).setCell (Nat.le_refl _) _⟩ ?_; simp only [s0A, s0B, s0C]
            refine wpAnyH_done (by kernel_rfl) ?_ _
            clear hS0
            go_wp2_with fail
            rw [HU.out]
            exact bodyPost_ret (v := unpV (some (X, []))) (gret _ _ w.heap.size _ _ rfl rfl HBB.out.1 HBB.out.2) rfl ⟨rfl, HO.out⟩
        · have hc8 : ¬ c = 8 := by omega
          have HK8 := Lib.hid (show k + 8 - (8 + q) = k - q by omega)
          have hbF : (((k : Nat) : Int) + 8 < 8 + ((q : Nat) : Int)) = False := eq_false (by omega)
          have hw8 := HW8.out
          go_upto_region 6 with (first | (go_at_call 89; refine HG.out.mono ?_; rintro x wx ⟨rfl, rfl⟩) | (go_at_call 90; refine HL.out.mono ?_; rintro x wx ⟨rfl, rfl⟩))
          refine wp_region_hand (S := (fun Y0 => Bytes Y0 w.heap.size (some ⟨gb, off + 8, none⟩) q X ∧ Bytes Y0 w.heap.size (some ⟨gb, off + (8 + q), none⟩) (k - q) Y)) (by kernel_rfl) ?_
          refine takeV 0 (.slice (some ⟨gb, off, none⟩) (k + 8) c) rfl rfl (by kernel_rfl) (fun Y0 hY => by go_simp) hS0 ?_; simp only [s0A, s0B, s0C]
          refine takeV 1 (.int .i64 (8 + ((q : Nat) : Int))) rfl rfl (by kernel_rfl) (fun Y0 hY => by go_simp) hS0 ?_; simp only [s0A, s0B, s0C]
          refine takeV 2 (.slice (some ⟨gb, off + 8, none⟩) q (c - 8)) rfl rfl (by kernel_rfl) (fun Y0 hY => by go_simp) hS0 ?_; simp only [s0A, s0B, s0C]
          refine takeV 3 (.string (str X)) rfl rfl (by kernel_rfl) (fun Y0 hY => by have h1 := run_str hY.1 (c - 8); go_simp) hS0 ?_; simp only [s0A, s0B, s0C]
          refine takeV 4 (.slice (some ⟨gb, off, none⟩) (k + 8) c) rfl rfl (by kernel_rfl) (fun Y0 hY => by go_simp) hS0 ?_; simp only [s0A, s0B, s0C]
          refine takeV 5 (.int .i64 (8 + ((q : Nat) : Int))) rfl rfl (by kernel_rfl) (fun Y0 hY => by go_simp) hS0 ?_; simp only [s0A, s0B, s0C]
          refine takeV 6 (.slice (some ⟨gb, off + (8 + q), none⟩) (k - q) (c - (8 + q))) rfl rfl (by kernel_rfl) (fun Y0 hY => by have hk8 := HK8.out; go_simp) hS0 ?_; simp only [s0A, s0B, s0C]
          refine takeV 7 (.string (str Y)) rfl rfl (by kernel_rfl) (fun Y0 hY => by have h2 := run_str hY.2 (c - (8 + q)); go_simp) hS0 ?_; simp only [s0A, s0B, s0C]
          refine takeV 8 (.agg #[.string (str X), .string (str Y)]) rfl rfl (by kernel_rfl) (fun Y0 hY => by go_simp) hS0 ?_; simp only [s0A, s0B, s0C]
          refine oneS (i := 9) (v := undef) (w' := ((w3.drew.setCell ⟨w.heap.size, 0, none⟩ (.string (str X))).setCell ⟨w.heap.size, 1, none⟩ (.string (str Y)))) rfl (by kernel_rfl) rfl (by rfl) (by first | (left; go_simp; done) | (right; go_simp; done)) ⟨(hS0.1.setCell (Nat.le_refl _) _).setCell (Nat.le_refl _) _, (hS0.2.setCell (Nat.le_refl _) _).setCell (Nat.le_refl _) _⟩ ?_
          refine takeV 10 (.bool true) rfl rfl (by kernel_rfl) (fun Y0 hY => by go_simp) ⟨(hS0.1.setCell (Nat.le_refl _) _).setCell (Nat.le_refl _) _, (hS0.2.setCell (Nat.le_refl _) _).setCell (Nat.le_refl _) _⟩ ?_; simp only [s0A, s0B, s0C]
          refine wpAnyH_done (by kernel_rfl) ?_ _
          clear hS0
          go_wp2_with fail
          rw [HU.out]
          exact bodyPost_ret (v := unpV (some (X, Y))) (gret _ _ w.heap.size _ _ rfl rfl HBB.out.1 HBB.out.2) rfl ⟨rfl, HO.out⟩
end Go.Proofs.YthgfmoogagldmaaGreat.Cache
