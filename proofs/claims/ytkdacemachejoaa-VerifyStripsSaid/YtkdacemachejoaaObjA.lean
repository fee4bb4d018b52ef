/- ObjA: What code may be: the parts of vm.Right; The words of instructions; Code and names as they lie; slices.Index and Contains over numbers; What code may be: vm.Right, whole. -/
import Derived.Test.YtkdacemachejoaaBytes
import Derived.Test.YtkdacemachejoaaRow
import Derived.Test.YtkdacemachejoaaRecs
import Derived.Lib.AppendStr
import Derived.Lib.Strings
import Derived.Great.BuildSlice
import Derived.Laws.IdiomStrings
namespace Go.Proofs.Ytkdacemachejoaa.Object
open Go.RowKit
set_option linter.unusedVariables false
set_option maxRecDepth 100000
/-- an instruction -/
structure Cd where
  op : Int
  a : Int
  b : Int
  c : Int
  n : Int
deriving DecidableEq
def Cd.val (x : Cd) : Value := .agg #[.int .i64 x.op, .int .i64 x.a, .int .i64 x.b, .int .i64 x.c, .int .i64 x.n]
def Cd.cells (x : Cd) : Array Value := #[.int .i64 x.op, .int .i64 x.a, .int .i64 x.b, .int .i64 x.c, .int .i64 x.n]
def Cd.row (x : Cd) : List Value := [.int .i64 x.op, .int .i64 x.a, .int .i64 x.b, .int .i64 x.c, .int .i64 x.n]
def wordOk (op : Int) : Bool := decide (1 ≤ op) && decide (op ≤ 23)
def partsOf (op : Int) : List UInt8 :=
  if op = 1 then [65, 110] else if op = 2 ∨ op = 3 ∨ op = 4 then [65, 66] else if op = 14 then [65, 115] else if op = 15 then [115, 65] else if op = 16 then [116] else if op = 17 then [65, 116] else
  if op = 18 then [97, 116] else if op = 19 then [97] else if op = 20 then [65] else if op = 21 then [] else if op = 22 then [112, 65] else if op = 23 then [65, 112] else [65, 66, 67]
def regOk (z : Int) : Bool := decide (0 ≤ z) && decide (z < 8)
def belowOk (z m : Int) : Bool := decide (0 ≤ z) && decide (z < m)
def partOk (c : Cd) (m : Int) (p : Int) : Bool :=
  if p = 65 then regOk c.a else if p = 66 then regOk c.b else if p = 67 then regOk c.c else if p = 97 then decide (c.a < 8) else if p = 115 then belowOk c.n 16384 else if p = 116 then belowOk c.n m else if p = 112 then belowOk c.n 4 else true
theorem reg_is (z : Int) (w : World) : Calls Try.prog 67 #[.int .i64 z] w fun x w' => x = .returned (.bool (regOk z)) ∧ w = w' := by
  unfold regOk
  go_enter Try.func67, Try.ntmps67
  go_wp2_with fail
  all_goals
    go_ret
    refine ⟨congrArg (fun b => Ending.returned (Value.bool b)) ?_, rfl⟩
    (rw [Bool.eq_iff_iff]) <;> simp <;> try omega
theorem below_is (m z : Int) (g : Nat) (w : World) (h : w.cell? ⟨g, 4, none⟩ = some (.int .i64 z)) : Calls Try.prog 66 #[.int .i64 m, .pointer (some ⟨g, 0, none⟩)] w fun x w' => x = .returned (.bool (belowOk z m)) ∧ w = w' := by
  unfold belowOk
  go_enter Try.func66, Try.ntmps66
  go_wp2_with fail
  all_goals
    go_ret
    refine ⟨congrArg (fun b => Ending.returned (Value.bool b)) ?_, rfl⟩
    (rw [Bool.eq_iff_iff]) <;> simp <;> try omega
set_option maxHeartbeats 1000000 in
theorem parts_is (op : Int) (w : World) : Calls Try.prog 40 #[.int .i64 op] w fun x w' => x = .returned (.string (str (partsOf op))) ∧ w = w' := by
  go_enter Try.func40, Try.ntmps40
  go_wp2_with fail
  all_goals first
    | (exfalso; simp_all; done)
    | (exfalso; omega)
    | (go_ret
       refine ⟨congrArg (fun l => Ending.returned (Value.string (str l))) (show _ = partsOf op from ?_), rfl⟩
       unfold partsOf
       simp_all
       done)
set_option maxHeartbeats 2000000 in
theorem part_is (c : Cd) (p m : Int) (w : World) : Calls Try.prog 41 #[c.val, .int .u8 p, .int .i64 m] w fun x w' => x = .returned (.bool (partOk c m p)) ∧ Only [] w w' := by
  obtain ⟨op, a, b, cc, n⟩ := c
  unfold Cd.val partOk
  simp only
  have hb := Blk.new w 27 #[.int .i64 op, .int .i64 a, .int .i64 b, .int .i64 cc, .int .i64 n]
  have ho : Only [] w (w.alloc (.cells #[.int .i64 op, .int .i64 a, .int .i64 b, .int .i64 cc, .int .i64 n] 27)) := (Only.refl _ _).alloc _
  have HB := Lib.hid (fun mm => below_is mm n w.heap.size _ (hb.cell 4))
  have HR := Lib.hid reg_is
  have HO := Lib.hid ho
  clear hb ho
  go_enter Try.func41, Try.ntmps41
  go_wp2_with (first
    | (go_at_call 67; refine (HR.out _ _).mono ?_; rintro x w' ⟨rfl, rfl⟩)
    | (go_at_call 66; refine (HB.out _).mono ?_; rintro x w' ⟨rfl, rfl⟩))
  all_goals first
    | (exfalso; simp_all; done)
    | (go_ret
       refine ⟨congrArg (fun b => Ending.returned (Value.bool b)) ?_, HO.out⟩
       simp_all
       done)
end Go.Proofs.Ytkdacemachejoaa.Object
namespace Go.Proofs.Ytkdacemachejoaa.Object
open Go.RowKit
set_option linter.unusedVariables false
set_option maxRecDepth 100000
def wordsL : List ByteArray := [⟨#[]⟩, ⟨#[99, 111, 110, 115, 116]⟩, ⟨#[109, 111, 118, 101]⟩, ⟨#[110, 101, 103]⟩, ⟨#[110, 111, 116]⟩, ⟨#[109, 117, 108]⟩, ⟨#[100, 105, 118]⟩, ⟨#[114, 101, 109]⟩, ⟨#[97, 100, 100]⟩, ⟨#[115, 117, 98]⟩, ⟨#[101, 113]⟩, ⟨#[110, 101]⟩, ⟨#[108, 116]⟩, ⟨#[108, 101]⟩, ⟨#[108, 111, 97, 100]⟩, ⟨#[115, 116, 111, 114, 101]⟩, ⟨#[106, 117, 109, 112]⟩, ⟨#[122, 101, 114, 111]⟩, ⟨#[99, 97, 108, 108]⟩, ⟨#[114, 101, 116]⟩, ⟨#[112, 114, 105, 110, 116]⟩, ⟨#[104, 97, 108, 116]⟩, ⟨#[97, 114, 103]⟩, ⟨#[112, 97, 114, 97, 109]⟩]
theorem words_len : wordsL.length = 24 := rfl
theorem words_size : ∀ k : Fin 24, ((wordsL.getD k.val ⟨#[]⟩).data.size == 0) = (k.val == 0) := by decide +kernel
theorem words_at (k : Nat) (hk : k < 24) : ∃ s, wordsL[k]? = some s ∧ (s.data.toList == []) = (k == 0) := by
  refine ⟨wordsL.getD k ⟨#[]⟩, ?_, ?_⟩
  · rw [List.getD_eq_getElem?_getD, List.getElem?_eq_getElem (by rw [words_len]; exact hk)]; rfl
  · rw [← words_size ⟨k, hk⟩]
    generalize (wordsL.getD k ⟨#[]⟩).data = d
    cases h : d.toList with
    | nil => simp_all
    | cons a r =>
      have : d.size = r.length + 1 := by rw [← Array.length_toList, h]; rfl
      rw [this]
      rfl
def WordIs (s : ByteArray) (op : Int) : Prop := (s.toList == []) = (!wordOk op)
theorem nil_is (op : Int) (h : wordOk op = false) : WordIs ⟨#[]⟩ op := by unfold WordIs; rw [h, Lib.toList_data]; rfl
def wordsA : Array Value := (wordsL.map Value.string).toArray
theorem words_built : Try.prog.built 100 ((List.range 24).map fun i => (i, Value.string (wordsL.getD i ⟨#[]⟩))) = some wordsA := by kernel_rfl
theorem wordsA_size : wordsA.size = 24 := rfl
theorem wordsA_one : wordsA.all (·.oneCell') = true := by kernel_rfl
theorem words_info : (Try.prog.info? 100).map (·.size) = some wordsA.size := by kernel_rfl
theorem laid_row (w W : World) (Z cs : Array Value) (t : TypeId) (h : (w.alloc (.cells Z t)).setRow w.heap.size cs = W) : Blk W w.heap.size t cs ∧ Only [] w W := by
  subst h
  refine ⟨setRow_heap _ _ _ _ _ _ (heap_alloc_new w _), rfl, rfl, rfl, ?_, fun k hk _ => ?_⟩
  · simp
  · rw [setRow_other _ _ _ _ (by omega)]
    exact Below.heap_alloc w _ k hk
set_option maxHeartbeats 1000000 in
theorem word_low (op : Int) (w : World) (h0 : op < 0) : Calls Try.prog 39 #[.int .i64 op] w fun x w' => ∃ s : ByteArray, x = .returned (.string s) ∧ WordIs s op ∧ Only [] w w' := by
  have d1 : decide (op < 0) = true := decide_eq_true h0
  have hw : wordOk op = false := by unfold wordOk; rw [Bool.and_eq_false_iff]; left; exact decide_eq_false (by omega)
  have HN := Lib.hid (nil_is _ hw)
  clear hw
  go_enter Try.func39, Try.ntmps39
  go_wp2_with (first
    | (refine wpList_buildTo rfl 100 _ rfl (some 4) rfl wordsA (by as_aux_lemma => kernel_rfl) ?_)
    | (refine wpList_store_rowTo rfl 100 _ _ rfl rfl w.heap.size wordsA (by rfl) (by rfl) 100 _ (heap_alloc_new w _) words_info (by as_aux_lemma => kernel_rfl) wordsA_one ?_; generalize hW : World.setRow _ _ _ = W; obtain ⟨hB, ho⟩ := laid_row _ _ _ _ _ hW; have HO := Lib.hid ho; clear hW hB ho))
  go_ret
  exact ⟨_, rfl, HN.out, HO.out⟩
set_option maxHeartbeats 1000000 in
theorem word_high (op : Int) (w : World) (h1 : 24 ≤ op) : Calls Try.prog 39 #[.int .i64 op] w fun x w' => ∃ s : ByteArray, x = .returned (.string s) ∧ WordIs s op ∧ Only [] w w' := by
  have d1 : decide (op < 0) = false := decide_eq_false (by omega)
  have d2 : decide (24 ≤ op) = true := decide_eq_true h1
  have hw : wordOk op = false := by unfold wordOk; rw [Bool.and_eq_false_iff]; right; exact decide_eq_false (by omega)
  have HN := Lib.hid (nil_is _ hw)
  clear hw
  go_enter Try.func39, Try.ntmps39
  go_wp2_with (first
    | (refine wpList_buildTo rfl 100 _ rfl (some 4) rfl wordsA (by as_aux_lemma => kernel_rfl) ?_)
    | (refine wpList_store_rowTo rfl 100 _ _ rfl rfl w.heap.size wordsA (by rfl) (by rfl) 100 _ (heap_alloc_new w _) words_info (by as_aux_lemma => kernel_rfl) wordsA_one ?_; generalize hW : World.setRow _ _ _ = W; obtain ⟨hB, ho⟩ := laid_row _ _ _ _ _ hW; have HO := Lib.hid ho; clear hW hB ho))
  go_ret
  exact ⟨_, rfl, HN.out, HO.out⟩
theorem wordsA_at (k : Nat) (s : ByteArray) (h : wordsL[k]? = some s) : wordsA[k]? = some (.string s) := by
  unfold wordsA
  rw [List.getElem?_toArray, List.getElem?_map, h]
  rfl
set_option maxHeartbeats 1000000 in
theorem word_mid (k : Nat) (w : World) (hk : k < 24) : Calls Try.prog 39 #[.int .i64 (k : Int)] w fun x w' => ∃ s : ByteArray, x = .returned (.string s) ∧ WordIs s (k : Int) ∧ Only [] w w' := by
  have d1 : decide ((k : Int) < 0) = false := decide_eq_false (by omega)
  have d2 : decide (24 ≤ (k : Int)) = false := decide_eq_false (by omega)
  obtain ⟨s, hs, hz⟩ := words_at k hk
  have hw : WordIs s (k : Int) := by
    unfold WordIs
    rw [Lib.toList_data, hz]
    unfold wordOk
    rw [Bool.eq_iff_iff]
    simp
    omega
  have HC := Lib.hid (wordsA_at k s hs)
  have HW := Lib.hid hw
  clear hw hz hs
  go_enter Try.func39, Try.ntmps39
  go_wp2_with (first
    | (refine wpList_buildTo rfl 100 _ rfl (some 4) rfl wordsA (by as_aux_lemma => kernel_rfl) ?_)
    | (refine wpList_store_rowTo rfl 100 _ _ rfl rfl w.heap.size wordsA (by rfl) (by rfl) 100 _ (heap_alloc_new w _) words_info (by as_aux_lemma => kernel_rfl) wordsA_one ?_; generalize hW : World.setRow _ _ _ = W; obtain ⟨hB, ho⟩ := laid_row _ _ _ _ _ hW; have HO := Lib.hid ho; have hc := hB.cell k; rw [HC.out] at hc; clear hW hB ho))
  go_ret
  exact ⟨_, rfl, HW.out, HO.out⟩
theorem word_is (op : Int) (w : World) : Calls Try.prog 39 #[.int .i64 op] w fun x w' => ∃ s : ByteArray, x = .returned (.string s) ∧ WordIs s op ∧ Only [] w w' := by
  by_cases h0 : op < 0
  · exact word_low op w h0
  · by_cases h1 : 24 ≤ op
    · exact word_high op w h1
    · obtain ⟨k, rfl⟩ : ∃ k : Nat, op = (k : Int) := ⟨op.toNat, by omega⟩
      exact word_mid k w (by omega)
end Go.Proofs.Ytkdacemachejoaa.Object
namespace Go.Proofs.Ytkdacemachejoaa.Object
open Go.RowKit
set_option linter.unusedVariables false
set_option maxRecDepth 100000
/-- a name, and where -/
structure En where
  name : ByteArray
  pos : Int
deriving DecidableEq
def En.row (x : En) : List Value := [.string x.name, .int .i64 x.pos]
/-- a call: where, and the name -/
def En.rowC (x : En) : List Value := [.int .i64 x.pos, .string x.name]
def cd0 : Cd := ⟨0, 0, 0, 0, 0⟩
def en0 : En := ⟨⟨#[]⟩, 0⟩
theorem cd_at {w : World} {B m : Nat} {A : Option Addr} {cs : List Cd} (hr : Recs w B 5 A m (cs.map Cd.row)) (k : Nat) (hk : k < m) : ∃ b off, A = some ⟨b, off, none⟩ ∧ b < B ∧ ∃ c ∈ cs, cs[k]? = some c ∧
    w.cell? ⟨b, off + k * 5, none⟩ = some (.int .i64 c.op) ∧ w.cell? ⟨b, off + k * 5 + 1, none⟩ = some (.int .i64 c.a) ∧ w.cell? ⟨b, off + k * 5 + 2, none⟩ = some (.int .i64 c.b) ∧ w.cell? ⟨b, off + k * 5 + 3, none⟩ = some (.int .i64 c.c) ∧ w.cell? ⟨b, off + k * 5 + 4, none⟩ = some (.int .i64 c.n) := by
  have hl : cs.length = m := by simpa using hr.1
  obtain ⟨b, off, e, hb, hc⟩ := hr.at_ cd0 hk
  have hg : cs.getD k cd0 = cs[k] := by rw [List.getD_eq_getElem?_getD, List.getElem?_eq_getElem (by omega)]; rfl
  refine ⟨b, off, e, hb, cs[k], List.getElem_mem (by omega), List.getElem?_eq_getElem (by omega), ?_⟩
  rw [hg] at hc
  exact ⟨hc 0 (by omega), hc 1 (by omega), hc 2 (by omega), hc 3 (by omega), hc 4 (by omega)⟩
theorem en_at {w : World} {B m : Nat} {A : Option Addr} {cs : List En} (hr : Recs w B 2 A m (cs.map En.row)) (k : Nat) (hk : k < m) : ∃ b off, A = some ⟨b, off, none⟩ ∧ b < B ∧ ∃ c ∈ cs, cs[k]? = some c ∧
    w.cell? ⟨b, off + k * 2, none⟩ = some (.string c.name) ∧ w.cell? ⟨b, off + k * 2 + 1, none⟩ = some (.int .i64 c.pos) := by
  have hl : cs.length = m := by simpa using hr.1
  obtain ⟨b, off, e, hb, hc⟩ := hr.at_ en0 hk
  have hg : cs.getD k en0 = cs[k] := by rw [List.getD_eq_getElem?_getD, List.getElem?_eq_getElem (by omega)]; rfl
  refine ⟨b, off, e, hb, cs[k], List.getElem_mem (by omega), List.getElem?_eq_getElem (by omega), ?_⟩
  rw [hg] at hc
  exact ⟨hc 0 (by omega), hc 1 (by omega)⟩
theorem cl_at {w : World} {B m : Nat} {A : Option Addr} {cs : List En} (hr : Recs w B 2 A m (cs.map En.rowC)) (k : Nat) (hk : k < m) : ∃ b off, A = some ⟨b, off, none⟩ ∧ b < B ∧ ∃ c ∈ cs, cs[k]? = some c ∧
    w.cell? ⟨b, off + k * 2, none⟩ = some (.int .i64 c.pos) ∧ w.cell? ⟨b, off + k * 2 + 1, none⟩ = some (.string c.name) := by
  have hl : cs.length = m := by simpa using hr.1
  obtain ⟨b, off, e, hb, hc⟩ := hr.at_ en0 hk
  have hg : cs.getD k en0 = cs[k] := by rw [List.getD_eq_getElem?_getD, List.getElem?_eq_getElem (by omega)]; rfl
  refine ⟨b, off, e, hb, cs[k], List.getElem_mem (by omega), List.getElem?_eq_getElem (by omega), ?_⟩
  rw [hg] at hc
  exact ⟨hc 0 (by omega), hc 1 (by omega)⟩
theorem all_snoc {α : Type} (f : α → Bool) (l : List α) (k : Nat) (x : α) (h : l[k]? = some x) : (l.take (k + 1)).all f = ((l.take k).all f && f x) := by
  obtain ⟨hk, rfl⟩ := List.getElem?_eq_some_iff.1 h
  rw [List.take_succ_eq_append_getElem hk, List.all_append]
  simp
theorem all_no {α : Type} (f : α → Bool) (l : List α) (x : α) (h : x ∈ l) (hf : f x = false) : l.all f = false := by
  rw [List.all_eq_false]
  exact ⟨x, h, by simp [hf]⟩
theorem take_all {α : Type} (l : List α) (k : Nat) (h : l.length = k) : l.take k = l := List.take_of_length_le (by omega)
set_option maxHeartbeats 400000 in
theorem index_int (A : Option Addr) (n c B : Nat) (zs : List Int) (z : Int) (w : World) (hr : Reads w B 1 A n (zs.map (Value.int .i64))) (hn : n ≤ 9000000000000000000) :
    Calls Try.prog 68 #[.slice A n c, .int .i64 z] w fun x w' => ∃ i : Int, x = .returned (.int .i64 i) ∧ (0 ≤ i ↔ z ∈ zs) ∧ w = w' := by
  have hl : zs.length = n := by have := hr.1; simpa using this
  have HL := Lib.hid hl
  clear hl
  go_enter Try.func68, Try.ntmps68
  go_wp2_with fail
  go_loop [8] (fun i => ∃ k : Nat, k ≤ n ∧ i = .int .i64 k ∧ z ∉ zs.take k) (fun i => n - (intOf i).toNat)
  case atStart => exact ⟨0, by omega, rfl, by simp⟩
  case round =>
    obtain ⟨k, hk, rfl, hz⟩ := hrel
    by_cases hlt : k < n
    · have e1 : decide ((k : Int) < (n : Int)) = true := decide_eq_true (by omega)
      obtain ⟨b, off, rfl, hb, hc⟩ := hr.at1 hlt
      have hkl : k < zs.length := by rw [HL.out]; exact hlt
      rw [List.getElem?_map, List.getElem?_eq_getElem hkl] at hc
      have hm : zs[k] ∈ zs := List.getElem_mem hkl
      have hs : z ≠ zs[k] → z ∉ zs.take (k + 1) := fun h hm => by
        rw [List.take_succ_eq_append_getElem hkl] at hm
        rcases List.mem_append.1 hm with hm | hm
        · exact hz hm
        · exact h (List.mem_singleton.1 hm)
      generalize zs[k] = y at *
      have HZ := Lib.hid hs
      have HM := Lib.hid hm
      have hc : w.cell? ⟨b, off + k, none⟩ = some (.int .i64 y) := hc
      clear hz hs hm
      by_cases hy : z = y
      · subst hy
        go_wp2_with fail
        go_ret
        exact ⟨_, rfl, ⟨fun _ => HM.out, fun _ => by omega⟩, rfl⟩
      · have e2 : (z == y) = false := by simp [hy]
        have HY := Lib.hid hy
        clear hy
        go_wp2_with fail
        go_round
        case rel => exact ⟨k + 1, by omega, by go_num, HZ.out HY.out⟩
        case measure => simp [intOf]; omega
    · obtain rfl : k = n := by omega
      have e1 : decide ((k : Int) < (k : Int)) = false := decide_eq_false (by omega)
      rw [take_all _ _ HL.out] at hz
      have HZ := Lib.hid hz
      clear hz
      go_wp2_with fail
      go_ret
      exact ⟨_, rfl, ⟨fun h => by omega, fun h => absurd h HZ.out⟩, rfl⟩
theorem contains_int (A : Option Addr) (n c B : Nat) (zs : List Int) (z : Int) (w : World) (hr : Reads w B 1 A n (zs.map (Value.int .i64))) (hn : n ≤ 9000000000000000000) :
    Calls Try.prog 42 #[.slice A n c, .int .i64 z] w fun x w' => x = .returned (.bool (decide (z ∈ zs))) ∧ w = w' := by
  have HI := Lib.hid (index_int A n c B zs z w hr hn)
  clear hr hn
  go_enter Try.func42, Try.ntmps42
  go_wp2_with fail
  refine HI.out.mono ?_
  rintro _ wx ⟨i, rfl, hi, rfl⟩
  have HD : Hid (decide (0 ≤ i) = decide (z ∈ zs)) := Lib.hid (decide_eq_decide.2 hi)
  clear hi HI
  go_wp2_with fail
  go_ret
  exact ⟨by rw [← HD.out]; rfl, rfl⟩
end Go.Proofs.Ytkdacemachejoaa.Object
namespace Go.Proofs.Ytkdacemachejoaa.Object
open Go.RowKit
set_option linter.unusedVariables false
set_option maxRecDepth 100000
theorem alloc_size (w : World) (o : Obj) : (w.alloc o).heap.size = w.heap.size + 1 := Array.size_push _
theorem data_len (s : ByteArray) : s.data.toList.length = s.size := Array.length_toList
theorem bytes_of (w : World) (s : ByteArray) (hs : s.size ≤ maxLen) : ∃ cap w', (convert 9 37 (.string s)).run Try.prog w = .ok (.slice (some ⟨w.heap.size, 0, none⟩) s.size cap) w' ∧
    Bytes w' w'.heap.size (some ⟨w.heap.size, 0, none⟩) s.size s.data.toList ∧ Only [] w w' ∧ s.size ≤ cap ∧ cap ≤ maxLen ∧ w'.heap.size = w.heap.size + 1 := by
  have hr := run_bytes_of_string (P := Try.prog) w 9 37 5 s Try.underlying9 Try.underlying37 Try.underlying5
  have hC : (bytesRow s (grownCap w s.size 0 5)).toList = (s.data.toList ++ List.replicate (grownCap w s.size 0 5 - s.size) 0).map B8 := by
    simp [bytesRow, B8]
  have hb := (Bytes.const w.drew _ _ 5 ((bytesRow s (grownCap w s.size 0 5)).size, (bytesRow s (grownCap w s.size 0 5)).size + 1) hC).head (k := s.size) (by simp)
  refine ⟨_, _, hr, ?_, ((Only.refl [] w).drew).alloc _, grownCap_ge _ _ _ _, grownCap_le_maxLen _ _ _ _ hs, alloc_size _ _⟩
  rw [List.take_left' (data_len s)] at hb
  rw [alloc_size]
  exact hb
def codeOk (m : Int) (c : Cd) : Bool := wordOk c.op && (partsOf c.op).all fun p => partOk c m (p.toNat : Int)
def opLast (cs : List Cd) : Int := (cs.getLast?.getD cd0).op
def vmRight (cs : List Cd) : Bool := decide (1 ≤ cs.length) && decide (cs.length ≤ 65536) && cs.all (codeOk (cs.length : Int)) && decide (opLast cs ∈ [(16 : Int), 19, 21])
theorem ite_len {c : Prop} [Decidable c] {a b : List UInt8} (ha : a.length ≤ 3) (hb : b.length ≤ 3) : (if c then a else b).length ≤ 3 := by by_cases h : c <;> simp [h, ha, hb]
theorem parts_len (op : Int) : (partsOf op).length ≤ 3 := by
  unfold partsOf
  repeat' (refine ite_len (by decide) ?_)
  decide
theorem last_at (cs : List Cd) (m : Nat) (c : Cd) (hl : cs.length = m) (h : cs[m - 1]? = some c) : opLast cs = c.op := by
  unfold opLast
  rw [List.getLast?_eq_getElem?, hl, h]
  rfl
/-- one instruction's parts, in the round of vm.Right -/
def Rest (w : World) (x : Ending) (w' : World) (b : Bool) : Prop := x = .returned (.bool b) ∧ Only [] w w'
set_option maxHeartbeats 2000000 in
theorem vmright_any (A : Option Addr) (m cp : Nat) (cs : List Cd) (w : World) (hr : Recs w w.heap.size 5 A m (cs.map Cd.row)) (hm : m ≤ 9000000000000000000) :
    Calls Try.prog 25 #[.slice A m cp] w fun x w' => x = .returned (.bool (vmRight cs)) ∧ Only [] w w' := by
  have hl : cs.length = m := by have := hr.1; simpa using this
  obtain ⟨bb, hbb⟩ : ∃ b, vmRight cs = b := ⟨_, rfl⟩
  rw [hbb]
  have hbb' : (decide (1 ≤ m) && decide (m ≤ 65536) && cs.all (codeOk (m : Int)) && decide (opLast cs ∈ [(16 : Int), 19, 21])) = bb := by rw [← hbb]; unfold vmRight; rw [hl]
  have HB := Lib.hid hbb'
  have HL := Lib.hid hl
  have HR := Lib.hid hr
  clear hbb hbb' hl hr
  by_cases hsm : 1 ≤ m ∧ m ≤ 65536
  · obtain ⟨h1, h2⟩ := hsm
    have d1 : decide ((m : Int) < 1) = false := decide_eq_false (by omega)
    have d2 : decide ((65536 : Int) < (m : Int)) = false := decide_eq_false (by omega)
    go_enter Try.func25, Try.ntmps25
    go_wp2_with fail
    go_loopw [18] (fun i wr => ∃ k : Nat, k ≤ m ∧ i = .int .i64 k ∧ Only [] w wr ∧ (cs.take k).all (codeOk (m : Int)) = true) (fun i _ => m - (intOf i).toNat)
    case atStart => exact ⟨0, by omega, rfl, Only.refl _ _, by simp⟩
    case round =>
      obtain ⟨k, hk, rfl, ho, hall⟩ := hrel
      have HALL := Lib.hid hall
      have HO := Lib.hid ho
      clear hall ho
      by_cases hlt : k < m
      · have e1 : decide ((k : Int) < (m : Int)) = true := decide_eq_true (by omega)
        obtain ⟨b, off, rfl, hb, c, hmem, hck, c0, c1, c2, c3, c4⟩ := cd_at HR.out k hlt
        have x0 := HO.out.cell c0 (by simp)
        have x1 := HO.out.cell c1 (by simp)
        have x2 := HO.out.cell c2 (by simp)
        have x3 := HO.out.cell c3 (by simp)
        have x4 := HO.out.cell c4 (by simp)
        have hsn := all_snoc (codeOk (m : Int)) cs k c hck
        have hno := all_no (codeOk (m : Int)) cs c hmem
        have HSN := Lib.hid hsn
        have HNO := Lib.hid hno
        have hcd : codeOk (m : Int) c = (wordOk c.op && (partsOf c.op).all fun p => partOk c (m : Int) (p.toNat : Int)) := rfl
        have HCD := Lib.hid hcd
        have hpl := parts_len c.op
        clear c0 c1 c2 c3 c4 hsn hno hcd hmem hck
        have hPART := fun p w => part_is c p (m : Int) w
        have hPS := fun w => parts_is c.op w
        have hWD := fun w => word_is c.op w
        unfold Cd.val at hPART
        generalize codeOk (m : Int) c = ok at *
        generalize partOk c (m : Int) = pok at *
        obtain ⟨op, ca, cb, cc, cn⟩ := c
        simp only at x0 x1 x2 x3 x4 hPART hPS hWD hpl HCD
        generalize partsOf op = pl at *
        have hbox := Blk.new wr 27 #[.int .i64 op, .int .i64 ca, .int .i64 cb, .int .i64 cc, .int .i64 cn]
        have HBOX := Lib.hid hbox
        have HP := Lib.hid hPART
        have HPS := Lib.hid hPS
        have HWD := Lib.hid hWD
        clear hbox hPART hPS hWD
        have hoa : Only [] wr (wr.alloc (.cells #[.int .i64 op, .int .i64 ca, .int .i64 cb, .int .i64 cc, .int .i64 cn] 27)) := (Only.refl _ _).alloc _
        have HOA := Lib.hid (HO.out.trans hoa (by simp))
        clear hoa
        go_wp2_with fail
        refine (HWD.out _).mono ?_
        rintro x w2 ⟨s, rfl, hws, ho2⟩
        have hb2 := HBOX.out.only ho2 (by simp)
        have y0 : w2.cell? ⟨wr.heap.size, 0, none⟩ = some (.int .i64 op) := hb2.cell 0
        have HO2 := Lib.hid (HOA.out.trans ho2 (by simp))
        have HB2 := Lib.hid hb2
        clear hb2 ho2 x0 x1 x2 x3 x4
        cases hw : wordOk op
        · have e2 : (s.toList == []) = true := by unfold WordIs at hws; rw [hws, hw]; rfl
          have hok : ok = false := by rw [HCD.out, hw]; rfl
          have HF := Lib.hid (HNO.out hok)
          clear hok hws hw
          go_wp2_with fail
          go_ret
          exact ⟨by rw [← HB.out, HF.out]; simp, HO2.out⟩
        · have e2 : (s.toList == []) = false := by unfold WordIs at hws; rw [hws, hw]; rfl
          rw [hw, Bool.true_and] at HCD
          clear hws hw
          go_wp2_with fail
          refine (HPS.out _).mono ?_
          rintro x w3 ⟨rfl, rfl⟩
          obtain ⟨cap, w4, hcv, hB4, ho4, hcc, hcm, hsz4⟩ := bytes_of w2 (str pl) (by rw [str_size]; unfold maxLen; omega)
          rw [str_size, str_data] at hB4
          rw [str_size] at hcv hcc
          generalize hpn : pl.length = pn at *
          have HPN := Lib.hid hpn
          have hb4 := HB2.out.only ho4 (by simp)
          have HO4 := Lib.hid (HO2.out.trans ho4 (by simp))
          have HBY := Lib.hid hB4
          have HB4 := Lib.hid hb4
          clear hpn hB4 ho4 hb4 hsz4 y0
          go_wp2_with fail
          generalize wr = wo at *
          go_loopw [31] (fun i wx => ∃ j : Nat, j ≤ pn ∧ i = .int .i64 j ∧ Only [] w4 wx ∧ ((pl.take j).all fun p => pok (p.toNat : Int)) = true) (fun i _ => pn - (intOf i).toNat)
          case atStart => exact ⟨0, by omega, rfl, Only.refl _ _, by simp⟩
          case round =>
            obtain ⟨j, hj, rfl, hox, hpa⟩ := hrel
            have HOX := Lib.hid (HO4.out.trans hox (by simp))
            have hbx := HB4.out.only hox (by simp)
            have z0 : wr.cell? ⟨wo.heap.size, 0, none⟩ = some (.int .i64 op) := hbx.cell 0
            have z1 : wr.cell? ⟨wo.heap.size, 1, none⟩ = some (.int .i64 ca) := hbx.cell 1
            have z2 : wr.cell? ⟨wo.heap.size, 2, none⟩ = some (.int .i64 cb) := hbx.cell 2
            have z3 : wr.cell? ⟨wo.heap.size, 3, none⟩ = some (.int .i64 cc) := hbx.cell 3
            have z4 : wr.cell? ⟨wo.heap.size, 4, none⟩ = some (.int .i64 cn) := hbx.cell 4
            have hBx := HBY.out.only hox (by simp)
            clear hbx
            have HPA := Lib.hid hpa
            have HX := Lib.hid hox
            clear hpa hox
            by_cases hlj : j < pn
            · have e3 : decide ((j : Int) < (pn : Int)) = true := decide_eq_true (by omega)
              obtain ⟨pb, po, hpp, _, hcp⟩ := hBx.at_ (k := j) hlj
              injection hpp with hpp
              injection hpp with h1 h2 _
              subst h1
              subst h2
              rw [Nat.zero_add] at hcp
              have hg : pl[j]? = some (pl.getD j 0) := by rw [List.getD_eq_getElem?_getD, List.getElem?_eq_getElem (by rw [HPN.out]; exact hlj)]; rfl
              have hpm : pl.getD j 0 ∈ pl := List.mem_of_getElem? hg
              have hst := all_snoc (fun p : UInt8 => pok (p.toNat : Int)) pl j _ hg
              have hno2 := all_no (fun p : UInt8 => pok (p.toNat : Int)) pl _ hpm
              have HST := Lib.hid hst
              have HN2 := Lib.hid hno2
              have hz := UInt8.toNat_lt (pl.getD j 0)
              clear hst hno2 hpm hg hBx
              generalize ((pl.getD j 0).toNat : Int) = z at *
              have hpz := HP.out z wr
              cases hq : pok z
              · rw [hq] at hpz
                have HF := Lib.hid (HNO.out (by rw [HCD.out]; exact HN2.out hq))
                have HPZ := Lib.hid hpz
                clear hq hpz
                go_wp2_with (go_at_call 41; refine HPZ.out.mono ?_; rintro x w6 ⟨rfl, ho6⟩)
                go_ret
                exact ⟨by rw [← HB.out, HF.out]; simp, HOX.out.trans ho6 (by simp)⟩
              · rw [hq] at hpz
                have HF := Lib.hid (HST.out.trans (by rw [HPA.out, hq, Bool.and_self]))
                have HPZ := Lib.hid hpz
                clear hq hpz
                go_wp2_with (go_at_call 41; refine HPZ.out.mono ?_; rintro x w6 ⟨rfl, ho6⟩)
                go_roundw
                case rel => exact ⟨j + 1, by omega, by go_num, HX.out.trans ho6 (by simp), HF.out⟩
                case measure => simp [intOf]; omega
            · obtain rfl : j = pn := by omega
              have e3 : decide ((j : Int) < (j : Int)) = false := decide_eq_false (by omega)
              rw [take_all _ _ HPN.out] at HPA
              have hok : ok = true := by rw [HCD.out]; exact HPA.out
              have HK := Lib.hid (HSN.out.trans (by rw [HALL.out, hok, Bool.and_self]))
              clear hok
              go_wp2_with fail
              go_roundw
              case rel => exact ⟨k + 1, by omega, by go_num, HOX.out, HK.out⟩
              case measure => simp [intOf]; omega
      · obtain rfl : k = m := by omega
        have e1 : decide ((k : Int) < (k : Int)) = false := decide_eq_false (by omega)
        rw [take_all _ _ HL.out] at HALL
        have hk1 : k - 1 < k := by omega
        obtain ⟨b, off, rfl, hb, c, hmem, hck, c0, _⟩ := cd_at HR.out (k - 1) hk1
        have x0 := HO.out.cell c0 (by simp)
        have hlast := last_at cs k c HL.out hck
        have hko : (k : Int) - 1 = ((k - 1 : Nat) : Int) := by omega
        have hlo : decide (opLast cs ∈ [(16 : Int), 19, 21]) = bb := by
          rw [← HB.out, HALL.out, decide_eq_true h1, decide_eq_true h2]
          rfl
        rw [hlast] at hlo
        have HLO := Lib.hid hlo
        clear hlast hlo hck hmem c0 HALL
        have hk64 : IntKind.i64.wrap ((k : Int) - 1) = ((k - 1 : Nat) : Int) := by rw [hko]; exact IntWalk.i64_in _ (by omega)
        generalize c.op = op at *
        have hbw : b < wr.heap.size := by have := HO.out.size; omega
        have x0' := ((Only.refl [] wr).alloc (.cells #[.int .i64 16, .int .i64 19, .int .i64 21] 3)).cell x0 (by simp)
        have hC := contains_int _ 3 3 _ [16, 19, 21] op _ (Reads.const wr ([16, 19, 21].map (Value.int .i64)) #[.int .i64 16, .int .i64 19, .int .i64 21] 3 (0, 0) rfl) (by omega)
        rw [HLO.out] at hC
        have HC := Lib.hid hC
        have HOA := Lib.hid (HO.out.alloc (.cells #[.int .i64 16, .int .i64 19, .int .i64 21] 3))
        clear hko hC x0
        go_wp2_with (go_at_call 42; refine HC.out.mono ?_; rintro x w2 ⟨rfl, rfl⟩)
        go_ret
        exact ⟨rfl, HOA.out⟩
  · have hF : bb = false := by
      rw [← HB.out]
      have : (decide (1 ≤ m) && decide (m ≤ 65536)) = false := by rw [Bool.and_eq_false_iff, decide_eq_false_iff_not, decide_eq_false_iff_not]; omega
      rw [this]
      rfl
    subst hF
    by_cases h1 : 1 ≤ m
    · have d1 : decide ((m : Int) < 1) = false := decide_eq_false (by omega)
      have d2 : decide ((65536 : Int) < (m : Int)) = true := decide_eq_true (by omega)
      go_enter Try.func25, Try.ntmps25
      go_wp2_with fail
      go_ret
      exact ⟨rfl, Only.refl _ _⟩
    · obtain rfl : m = 0 := by omega
      go_enter Try.func25, Try.ntmps25
      go_wp2_with fail
      go_ret
      exact ⟨rfl, Only.refl _ _⟩
end Go.Proofs.Ytkdacemachejoaa.Object
