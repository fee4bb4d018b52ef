/- The walks of keys: units as bytes, bytes as units; by the program, by the document. -/
import Derived.Test.YtfkakhlgcjjlcaaCodecRefR
import Derived.Test.YtfkakhlgcjjlcaaCodecMath
import Derived.Deep.RegionHeld3
namespace Go.Proofs.Ytfkakhlgcjjlcaa.Keys
open Go.RowKit Codec
set_option linter.unusedVariables false
set_option maxRecDepth 100000

def packB (e o : ByteArray) : List UInt8 := le (u64 (e.size : Int)) 8 ++ e.data.toList ++ o.data.toList
theorem str_app (a : List UInt8) (s : ByteArray) : str a ++ s = str (a ++ s.data.toList) := by
  apply ByteArray.ext
  rw [ByteArray.data_append]
  apply Array.ext'
  simp [str]
theorem alloc_size (w : World) (o : Obj) : (w.alloc o).heap.size = w.heap.size + 1 := Array.size_push _
theorem data_len (s : ByteArray) : s.data.toList.length = s.size := Array.length_toList

set_option maxHeartbeats 1000000 in
theorem pack_any (e o : ByteArray) (w : World) (he : e.size ≤ 10000) (ho : o.size ≤ 10000) :
    Calls Try.prog 7 #[.agg #[.string e, .string o]] w fun x w' => x = .returned (.tuple #[.string (str (packB e o)), .int .i64 0]) ∧ Only [] w w' := by
  go_enter Try.func7, Try.ntmps7
  go_wp2_with fail
  have hb1 : Blk (((w.alloc (.cells #[.string e, .string o] 28)).alloc (.cells #[.slice none 0 0] 50)).alloc (.cells #[.int .i64 ↑e.size] 2)) (w.heap.size + 1) 50 #[.slice none 0 0] := by
    have h := (Blk.new (w.alloc (.cells #[.string e, .string o] 28)) 50 #[.slice none 0 0]).alloc (.cells #[.int .i64 ↑e.size] 2)
    rw [alloc_size] at h
    exact h
  have hbu : Blk (((w.alloc (.cells #[.string e, .string o] 28)).alloc (.cells #[.slice none 0 0] 50)).alloc (.cells #[.int .i64 ↑e.size] 2)) w.heap.size 28 #[.string e, .string o] := by
    exact ((Blk.new w 28 #[.string e, .string o]).alloc (.cells #[.slice none 0 0] 50)).alloc (.cells #[.int .i64 ↑e.size] 2)
  have hon1 : Only [] w (((w.alloc (.cells #[.string e, .string o] 28)).alloc (.cells #[.slice none 0 0] 50)).alloc (.cells #[.int .i64 ↑e.size] 2)) := (((Only.refl [] w).alloc _).alloc _).alloc _
  have hrd : Reads (((w.alloc (.cells #[.string e, .string o] 28)).alloc (.cells #[.slice none 0 0] 50)).alloc (.cells #[.int .i64 ↑e.size] 2)) (w.heap.size + 3) 1 (some ⟨w.heap.size + 1 + 1, 0, none⟩) 1 ([(e.size : Int)].map (Value.int .i64)) := by
    have h := Reads.const ((w.alloc (.cells #[.string e, .string o] 28)).alloc (.cells #[.slice none 0 0] 50)) ([(e.size : Int)].map (Value.int .i64)) #[.int .i64 ↑e.size] 2 (0, 0) rfl
    rw [alloc_size, alloc_size] at h
    exact h
  have hWs : (((w.alloc (.cells #[.string e, .string o] 28)).alloc (.cells #[.slice none 0 0] 50)).alloc (.cells #[.int .i64 ↑e.size] 2)).heap.size = w.heap.size + 3 := by rw [alloc_size, alloc_size, alloc_size]
  generalize hW : (((w.alloc (.cells #[.string e, .string o] 28)).alloc (.cells #[.slice none 0 0] 50)).alloc (.cells #[.int .i64 ↑e.size] 2)) = W at *
  clear hW
  have hwr : Wr W (w.heap.size + 1) (.slice none 0 0) 0 [] := ⟨hb1, OwnB.nil_ _ _⟩
  refine (num_any (w.heap.size + 1) 0 (.slice none 0 0) [] (some ⟨w.heap.size + 1 + 1, 0, none⟩) 1 1 (w.heap.size + 3) [(e.size : Int)] W hwr rfl hrd (by
    intro g hg
    obtain rfl : g = w.heap.size + 1 + 1 := by simpa [blkOf] using hg
    intro hx
    rcases List.mem_cons.1 hx with hx | hx
    · omega
    · cases hx) (by decide)).mono ?_
  rintro x w2 ⟨rfl, v2, hw2, ht2⟩
  have hbu2 : Blk w2 w.heap.size 28 #[.string e, .string o] := hbu.only ht2.only (by
    intro hx
    rcases List.mem_cons.1 hx with hx | hx
    · omega
    · cases hx)
  have hbl := bytes_any (w.heap.size + 1) (0 + 8 * 1) v2 _ w2.drew (hw2.only ((Only.refl [] w2).drew) (by simp) (by simp)) (by decide)
  have hce : w2.cell? ⟨w.heap.size, 0, none⟩ = some (.string e) := hbu2.cell 0
  have hco : w2.cell? ⟨w.heap.size, 1, none⟩ = some (.string o) := hbu2.cell 1
  have hnil : ([] ++ nums [(e.size : Int)]) = le (u64 (e.size : Int)) 8 := by simp [nums]
  rw [hnil] at hbl
  have hon2 : Only [] w w2 := ⟨ht2.only.os.trans hon1.os, ht2.only.tape.trans hon1.tape, ht2.only.output.trans hon1.output, Nat.le_trans hon1.size ht2.only.size, fun i hi _ => (ht2.only.block i (by omega) (by
    intro hx
    rcases List.mem_cons.1 hx with hx | hx
    · omega
    · cases hx)).trans (hon1.block i hi (by simp))⟩
  have HB := Lib.hid hbl
  clear hbl hnil hwr ht2 hw2 hrd hb1 hbu
  go_wp2_with fail
  have hp : str (le (u64 (e.size : Int)) 8) ++ e ++ o = str (packB e o) := by rw [str_app, str_app]; rfl
  have HP := Lib.hid hp
  clear hp
  have hk : (∀ w3, Only [] w2.drew w3 → Only [] w w3 ∧ w3.cell? ⟨w.heap.size, 0, none⟩ = some (.string e) ∧ w3.cell? ⟨w.heap.size, 1, none⟩ = some (.string o)) := fun w3 h3 => ⟨((hon2.drew).trans h3 (by simp)), h3.cell hce (by simp), h3.cell hco (by simp)⟩
  have HK := Lib.hid hk
  clear hk
  have hq : (str (le (u64 (e.size : Int)) 8)).size = 8 := by rw [str_size, le_len]
  have hf1 : (9223372036854775807 < 8 + e.size) = False := eq_false (by omega)
  have hf2 : (9223372036854775807 < 8 + e.size + o.size) = False := eq_false (by omega)
  go_region_with (go_at_call 20; refine Calls.mono HB.out ?_; rintro e' w3 ⟨v3, rfl, ho3, hon3⟩; obtain ⟨A3, cap3, rfl, hc3, hm3, hr3, hb3⟩ := ho3.shape; have hs3 := run_str hr3 cap3; obtain ⟨HO3, d1, d2⟩ := HK.out w3 hon3)
  all_goals
    go_wp2_with fail
    rw [HP.out]
    exact bodyPost_ret (v := .tuple #[.string (str (packB e o)), .int .i64 0]) (by simp [results, Try.results7, go_sem]) rfl ⟨rfl, HO3⟩

/-- the document's -/
theorem ref_pack (e o : ByteArray) (w : World) (he : e.size ≤ 10000) (ho : o.size ≤ 10000) :
    Calls Try.prog 8 #[.agg #[.string e, .string o]] w fun x w' => x = .returned (.tuple #[.string (str (packB e o)), .int .i64 0]) ∧ Only [] w w' := by
  go_enter Try.func8, Try.ntmps8
  go_wp2_with fail
  have hbu : Blk (w.alloc (.cells #[.string e, .string o] 23)) w.heap.size 23 #[.string e, .string o] := Blk.new _ _ _
  have hk : (∀ w3 v3 n3 l3, Ext (w.alloc (.cells #[.string e, .string o] 23)).drew w3 0 (.slice none 0 0) v3 n3 l3 → Only [] w w3 ∧ w3.cell? ⟨w.heap.size, 0, none⟩ = some (.string e) ∧ w3.cell? ⟨w.heap.size, 1, none⟩ = some (.string o)) := fun w3 v3 n3 l3 h3 => by
    have h4 : Only [] (w.alloc (.cells #[.string e, .string o] 23)) w3 := ((Only.refl [] _).drew).trans (h3.only.mono (S' := []) (by intro g hg; cases hg)) (by simp)
    exact ⟨((Only.refl [] w).alloc _).trans h4 (by simp), h4.cell (hbu.cell 0) (by simp), h4.cell (hbu.cell 1) (by simp)⟩
  have HK := Lib.hid hk
  clear hk
  have hc1 : (w.alloc (.cells #[.string e, .string o] 23)).cell? ⟨w.heap.size, 0, none⟩ = some (.string e) := hbu.cell 0
  have hc2 : (w.alloc (.cells #[.string e, .string o] 23)).cell? ⟨w.heap.size, 1, none⟩ = some (.string o) := hbu.cell 1
  have hn := ref_num (.slice none 0 0) 0 0 [] (e.size : Int) (w.alloc (.cells #[.string e, .string o] 23)).drew (OwnB.nil_ _ _) (Nat.zero_le _) (by decide)
  have HN := Lib.hid hn
  clear hn
  clear hbu
  have hle : (0 + 8 + e.size + o.size : Nat) ≤ 1048576 := by omega
  generalize (w.alloc (.cells #[.string e, .string o] 23)) = W at *
  go_region_held3 (fun w' => w'.cell? ⟨w.heap.size, 0, none⟩ = some (.string e) ∧ w'.cell? ⟨w.heap.size, 1, none⟩ = some (.string o)) (first | go_keep | (constructor <;> assumption)) ((first
    | (go_at_call 21; refine Calls.mono HN.out ?_; rintro e' w3 ⟨v3, rfl, E3⟩; obtain ⟨HO3, d1, d2⟩ := HK.out w3 _ _ _ E3)
    | (refine step_append_str rfl (.tmp 11) (.tmp 13) rfl rfl E4.own rfl (by omega) (Nat.zero_le _) ?_; intro v5 w5 ho5 hon5 hfr5; have E5 := E4.trans ⟨ho5, hon5, hfr5⟩; obtain ⟨HO5, f1, f2⟩ := HK.out w5 _ _ _ E5)
    | (refine step_append_str rfl (.tmp 8) (.tmp 10) rfl rfl E3.own rfl (by omega) (Nat.zero_le _) ?_; intro v4 w4 ho4 hon4 hfr4; have E4 := E3.trans ⟨ho4, hon4, hfr4⟩; obtain ⟨HO4, f1, f2⟩ := HK.out w4 _ _ _ E4)))
  all_goals
    obtain ⟨A5, cap5, rfl, hc5, hm5, hr5, hb5⟩ := ho5.shape
    have hs5 := run_str hr5 cap5
    have hf5 : ((1048576 : Int) < ((0 + 8 + e.size + o.size : Nat) : Int)) = False := eq_false (by omega)
    go_wp2_with fail
    exact bodyPost_ret (v := .tuple #[.string (str (packB e o)), .int .i64 0]) (by simp [results, Try.results8, packB, go_sem]) rfl ⟨rfl, HO5⟩
end Go.Proofs.Ytfkakhlgcjjlcaa.Keys
