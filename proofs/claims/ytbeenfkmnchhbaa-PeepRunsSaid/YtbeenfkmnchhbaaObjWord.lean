/- The words of instructions. -/
import Derived.Test.YtbeenfkmnchhbaaObjVm
import Derived.Lib.Strings
import Derived.Great.BuildSlice
namespace Go.Proofs.Ytbeenfkmnchhbaa.Object
open Go.RowKit
set_option linter.unusedVariables false
set_option maxRecDepth 100000
def wordsL : List ByteArray := [⟨#[]⟩, ⟨#[99, 111, 110, 115, 116]⟩, ⟨#[109, 111, 118, 101]⟩, ⟨#[110, 101, 103]⟩, ⟨#[110, 111, 116]⟩, ⟨#[109, 117, 108]⟩, ⟨#[100, 105, 118]⟩, ⟨#[114, 101, 109]⟩, ⟨#[97, 100, 100]⟩, ⟨#[115, 117, 98]⟩, ⟨#[101, 113]⟩, ⟨#[110, 101]⟩, ⟨#[108, 116]⟩, ⟨#[108, 101]⟩, ⟨#[108, 111, 97, 100]⟩, ⟨#[115, 116, 111, 114, 101]⟩, ⟨#[106, 117, 109, 112]⟩, ⟨#[122, 101, 114, 111]⟩, ⟨#[99, 97, 108, 108]⟩, ⟨#[114, 101, 116]⟩, ⟨#[112, 114, 105, 110, 116]⟩, ⟨#[104, 97, 108, 116]⟩, ⟨#[97, 114, 103]⟩, ⟨#[112, 97, 114, 97, 109]⟩]
theorem words_len : wordsL.length = 24 := rfl
theorem words_size : ∀ k : Fin 24, ((wordsL.getD k.val ⟨#[]⟩).data.size == 0) = (k.val == 0) := by decide +kernel
theorem words_at (k : Nat) (hk : k < 24) : ∃ s, wordsL[k]? = some s ∧ (s.data.toList == []) = (k == 0) := by
  refine ⟨wordsL.getD k ⟨#[]⟩, ?_, ?_⟩
  · rw [List.getD_eq_getElem?_getD, List.getElem?_eq_getElem (by rw [words_len]; exact hk)]; rfl
  · rw [← words_size ⟨k, hk⟩]
    generalize (wordsL.getD k ⟨#[]⟩).data = d
    cases h : d.toList with
    | nil => simp_all
    | cons a r =>
      have : d.size = r.length + 1 := by rw [← Array.length_toList, h]; rfl
      rw [this]
      rfl
def WordIs (s : ByteArray) (op : Int) : Prop := (s.toList == []) = (!wordOk op)
theorem nil_is (op : Int) (h : wordOk op = false) : WordIs ⟨#[]⟩ op := by unfold WordIs; rw [h, Lib.toList_data]; rfl
def wordsA : Array Value := (wordsL.map Value.string).toArray
theorem words_built : Try.prog.built 160 ((List.range 24).map fun i => (i, Value.string (wordsL.getD i ⟨#[]⟩))) = some wordsA := by kernel_rfl
theorem wordsA_size : wordsA.size = 24 := rfl
theorem wordsA_one : wordsA.all (·.oneCell') = true := by kernel_rfl
theorem words_info : (Try.prog.info? 160).map (·.size) = some wordsA.size := by kernel_rfl
theorem laid_row (w W : World) (Z cs : Array Value) (t : TypeId) (h : (w.alloc (.cells Z t)).setRow w.heap.size cs = W) : Blk W w.heap.size t cs ∧ Only [] w W := by
  subst h
  refine ⟨setRow_heap _ _ _ _ _ _ (heap_alloc_new w _), rfl, rfl, rfl, ?_, fun k hk _ => ?_⟩
  · simp
  · rw [setRow_other _ _ _ _ (by omega)]
    exact Below.heap_alloc w _ k hk
set_option maxHeartbeats 1000000 in
theorem word_low (op : Int) (w : World) (h0 : op < 0) : Calls Try.prog 129 #[.int .i64 op] w fun x w' => ∃ s : ByteArray, x = .returned (.string s) ∧ WordIs s op ∧ Only [] w w' := by
  have d1 : decide (op < 0) = true := decide_eq_true h0
  have hw : wordOk op = false := by unfold wordOk; rw [Bool.and_eq_false_iff]; left; exact decide_eq_false (by omega)
  have HN := Lib.hid (nil_is _ hw)
  clear hw
  go_enter Try.func129, Try.ntmps129
  go_wp2_with (first
    | (refine wpList_buildTo rfl 160 _ rfl (some 4) rfl wordsA (by as_aux_lemma => kernel_rfl) ?_)
    | (refine wpList_store_rowTo rfl 160 _ _ rfl rfl w.heap.size wordsA (by rfl) (by rfl) 160 _ (heap_alloc_new w _) words_info (by as_aux_lemma => kernel_rfl) wordsA_one ?_; generalize hW : World.setRow _ _ _ = W; obtain ⟨hB, ho⟩ := laid_row _ _ _ _ _ hW; have HO := Lib.hid ho; clear hW hB ho))
  go_ret
  exact ⟨_, rfl, HN.out, HO.out⟩
set_option maxHeartbeats 1000000 in
theorem word_high (op : Int) (w : World) (h1 : 24 ≤ op) : Calls Try.prog 129 #[.int .i64 op] w fun x w' => ∃ s : ByteArray, x = .returned (.string s) ∧ WordIs s op ∧ Only [] w w' := by
  have d1 : decide (op < 0) = false := decide_eq_false (by omega)
  have d2 : decide (24 ≤ op) = true := decide_eq_true h1
  have hw : wordOk op = false := by unfold wordOk; rw [Bool.and_eq_false_iff]; right; exact decide_eq_false (by omega)
  have HN := Lib.hid (nil_is _ hw)
  clear hw
  go_enter Try.func129, Try.ntmps129
  go_wp2_with (first
    | (refine wpList_buildTo rfl 160 _ rfl (some 4) rfl wordsA (by as_aux_lemma => kernel_rfl) ?_)
    | (refine wpList_store_rowTo rfl 160 _ _ rfl rfl w.heap.size wordsA (by rfl) (by rfl) 160 _ (heap_alloc_new w _) words_info (by as_aux_lemma => kernel_rfl) wordsA_one ?_; generalize hW : World.setRow _ _ _ = W; obtain ⟨hB, ho⟩ := laid_row _ _ _ _ _ hW; have HO := Lib.hid ho; clear hW hB ho))
  go_ret
  exact ⟨_, rfl, HN.out, HO.out⟩
theorem wordsA_at (k : Nat) (s : ByteArray) (h : wordsL[k]? = some s) : wordsA[k]? = some (.string s) := by
  unfold wordsA
  rw [List.getElem?_toArray, List.getElem?_map, h]
  rfl
set_option maxHeartbeats 1000000 in
theorem word_mid (k : Nat) (w : World) (hk : k < 24) : Calls Try.prog 129 #[.int .i64 (k : Int)] w fun x w' => ∃ s : ByteArray, x = .returned (.string s) ∧ WordIs s (k : Int) ∧ Only [] w w' := by
  have d1 : decide ((k : Int) < 0) = false := decide_eq_false (by omega)
  have d2 : decide (24 ≤ (k : Int)) = false := decide_eq_false (by omega)
  obtain ⟨s, hs, hz⟩ := words_at k hk
  have hw : WordIs s (k : Int) := by
    unfold WordIs
    rw [Lib.toList_data, hz]
    unfold wordOk
    rw [Bool.eq_iff_iff]
    simp
    omega
  have HC := Lib.hid (wordsA_at k s hs)
  have HW := Lib.hid hw
  clear hw hz hs
  go_enter Try.func129, Try.ntmps129
  go_wp2_with (first
    | (refine wpList_buildTo rfl 160 _ rfl (some 4) rfl wordsA (by as_aux_lemma => kernel_rfl) ?_)
    | (refine wpList_store_rowTo rfl 160 _ _ rfl rfl w.heap.size wordsA (by rfl) (by rfl) 160 _ (heap_alloc_new w _) words_info (by as_aux_lemma => kernel_rfl) wordsA_one ?_; generalize hW : World.setRow _ _ _ = W; obtain ⟨hB, ho⟩ := laid_row _ _ _ _ _ hW; have HO := Lib.hid ho; have hc := hB.cell k; rw [HC.out] at hc; clear hW hB ho))
  go_ret
  exact ⟨_, rfl, HW.out, HO.out⟩
theorem word_is (op : Int) (w : World) : Calls Try.prog 129 #[.int .i64 op] w fun x w' => ∃ s : ByteArray, x = .returned (.string s) ∧ WordIs s op ∧ Only [] w w' := by
  by_cases h0 : op < 0
  · exact word_low op w h0
  · by_cases h1 : 24 ≤ op
    · exact word_high op w h1
    · obtain ⟨k, rfl⟩ : ∃ k : Nat, op = (k : Int) := ⟨op.toNat, by omega⟩
      exact word_mid k w (by omega)
end Go.Proofs.Ytbeenfkmnchhbaa.Object
