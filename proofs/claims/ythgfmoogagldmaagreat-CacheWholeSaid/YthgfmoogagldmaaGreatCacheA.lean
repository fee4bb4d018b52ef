/- CacheA: The cache's index as it is meant: entries by numbers; The cache's index in memory; The cache's index: slot, find; The cache's index: list; A row of the call's own, read, stored into, cut, and cleared from somewhere on; slices.DeleteFunc over numbers; The cache's index: an entry that goes, an entry that comes: what must be done in memory, and what it then is. -/
import Derived.Test.YthgfmoogagldmaaGreatKit
import Derived.Test.YthgfmoogagldmaaGreatSumsFnvq
import Derived.Test.YthgfmoogagldmaaGreatMaps
import Derived.Test.YthgfmoogagldmaaGreatRows2
import Derived.Test.YthgfmoogagldmaaGreatBytes
import Derived.Test.YthgfmoogagldmaaGreatRanges
import Derived.Laws.IdiomStrings
import Derived.Lib.Strings
import Derived.Deep.DeepCutAuto
import Derived.Deep.RegionHeld
import Derived.BigRegion
import Derived.Lib.SliceRun
set_option linter.unusedVariables false
set_option maxRecDepth 100000
namespace Go.Proofs.YthgfmoogagldmaaGreat.Cache
abbrev Ent := List UInt8 × List UInt8
structure XS where
  es : List (Nat × Ent)
  nx : Nat
def XS.L (x : XS) : List Ent := x.es.map (·.2)
def emptyX : XS := ⟨[], 0⟩
def findX (x : XS) (k : List UInt8) : Option (Nat × Ent) := x.es.find? (fun e => decide (e.2.1 = k))
def dropX (x : XS) (n : Nat) : XS := ⟨x.es.filter (fun e => decide (e.1 ≠ n)), x.nx⟩
def pushX (x : XS) (e : Ent) : XS := ⟨x.es ++ [(x.nx, e)], x.nx + 1⟩
def addX (x : XS) (e : Ent) : XS := match findX x e.1 with
  | some a => pushX (dropX x a.1) e
  | none => pushX x e
def withL (l : List Ent) (e : Ent) : List Ent := l.filter (fun a => decide (a.1 ≠ e.1)) ++ [e]
structure XS.Ok (x : XS) : Prop where
  asc : x.es.Pairwise (fun a b => a.1 < b.1)
  lt : ∀ e ∈ x.es, e.1 < x.nx
  keys : x.es.Pairwise (fun a b => a.2.1 ≠ b.2.1)
theorem emptyX_ok : emptyX.Ok := ⟨by simp [emptyX], by simp [emptyX], by simp [emptyX]⟩
theorem XS.Ok.drop {x : XS} (h : x.Ok) (n : Nat) : (dropX x n).Ok :=
  ⟨h.asc.filter _, fun e he => h.lt e (List.mem_filter.1 he).1, h.keys.filter _⟩
theorem XS.Ok.push {x : XS} (h : x.Ok) {e : Ent} (hk : ∀ a ∈ x.es, a.2.1 ≠ e.1) : (pushX x e).Ok := by
  refine ⟨List.pairwise_append.2 ⟨h.asc, by simp, fun a ha b hb => ?_⟩, fun a ha => ?_, List.pairwise_append.2 ⟨h.keys, by simp, fun a ha b hb => ?_⟩⟩
  · rw [List.mem_singleton.1 hb]; exact h.lt a ha
  · show a.1 < x.nx + 1
    rcases List.mem_append.1 ha with ha | ha
    · have := h.lt a ha; omega
    · rw [List.mem_singleton.1 ha]; exact Nat.lt_succ_self _
  · rw [List.mem_singleton.1 hb]; exact hk a ha
theorem findX_some {x : XS} {k : List UInt8} {a : Nat × Ent} (h : findX x k = some a) : a ∈ x.es ∧ a.2.1 = k :=
  ⟨List.mem_of_find?_eq_some h, by have := List.find?_some h; exact of_decide_eq_true this⟩
theorem findX_none {x : XS} {k : List UInt8} (h : findX x k = none) : ∀ a ∈ x.es, a.2.1 ≠ k := fun a ha e => by
  have := List.find?_eq_none.1 h a ha
  exact this (decide_eq_true e)
theorem uniq_key {x : XS} (h : x.Ok) {a b : Nat × Ent} (ha : a ∈ x.es) (hb : b ∈ x.es) (hk : a.2.1 = b.2.1) : a = b := by
  have hk' := h.keys
  generalize x.es = l at *
  induction hk' with
  | nil => cases ha
  | cons h1 h2 ih =>
    rcases List.mem_cons.1 ha with e1 | ha1 <;> rcases List.mem_cons.1 hb with e2 | hb1
    · rw [e1, e2]
    · exact absurd hk (by rw [e1]; exact h1 b hb1)
    · exact absurd hk.symm (by rw [e2]; exact h1 a ha1)
    · exact ih ha1 hb1
theorem uniq_num {x : XS} (h : x.Ok) {a b : Nat × Ent} (ha : a ∈ x.es) (hb : b ∈ x.es) (hk : a.1 = b.1) : a = b := by
  have hk' := h.asc
  generalize x.es = l at *
  induction hk' with
  | nil => cases ha
  | cons h1 h2 ih =>
    rcases List.mem_cons.1 ha with e1 | ha1 <;> rcases List.mem_cons.1 hb with e2 | hb1
    · rw [e1, e2]
    · have := h1 b hb1; rw [← e1] at this; omega
    · have := h1 a ha1; rw [← e2] at this; omega
    · exact ih ha1 hb1
theorem drop_key {x : XS} (h : x.Ok) {a : Nat × Ent} (ha : a ∈ x.es) : (dropX x a.1).es = x.es.filter (fun e => decide (e.2.1 ≠ a.2.1)) := by
  refine List.filter_congr fun e he => ?_
  by_cases e1 : e.1 = a.1
  · have := uniq_num h he ha e1
    subst this
    simp
  · have e2 : e.2.1 ≠ a.2.1 := fun e2 => e1 (by rw [uniq_key h he ha e2])
    simp [e1, e2]
theorem XS.Ok.add {x : XS} (h : x.Ok) (e : Ent) : (addX x e).Ok ∧ (addX x e).L = withL x.L e ∧ (addX x e).nx = x.nx + 1 := by
  unfold addX
  cases hf : findX x e.1 with
  | none =>
    have hn := findX_none hf
    refine ⟨h.push hn, ?_, rfl⟩
    unfold XS.L pushX withL
    rw [List.map_append, List.filter_eq_self.2]
    · rfl
    · intro a ha
      obtain ⟨b, hb, rfl⟩ := List.mem_map.1 ha
      exact decide_eq_true (hn b hb)
  | some a =>
    obtain ⟨ha, hk⟩ := findX_some hf
    have hd := drop_key h ha
    refine ⟨(h.drop a.1).push fun b hb => ?_, ?_, rfl⟩
    · rw [hd] at hb
      have := (List.mem_filter.1 hb).2
      rw [hk] at this
      exact of_decide_eq_true this
    · show ((dropX x a.1).es ++ [((dropX x a.1).nx, e)]).map (fun a => a.2) = _
      rw [hd, hk, List.map_append]
      unfold withL XS.L
      rw [List.filter_map]
      rfl
def XS.pick (x : XS) (f : Ent → Bool) : List Nat := (x.es.filter (fun e => f e.2)).map (·.1)
theorem pick_push (x : XS) (e : Ent) (f : Ent → Bool) : (pushX x e).pick f = x.pick f ++ (if f e = true then [x.nx] else []) := by
  unfold XS.pick pushX
  rw [List.filter_append, List.map_append]
  congr 1
  by_cases h : f e = true <;> simp [h]
theorem pick_drop (x : XS) (n : Nat) (f : Ent → Bool) : (dropX x n).pick f = (x.pick f).filter (fun k => decide (k ≠ n)) := by
  unfold XS.pick dropX
  rw [List.filter_map, List.filter_filter, List.filter_filter]
  congr 1
  refine List.filter_congr fun a _ => ?_
  simp [Bool.and_comm]
theorem pick_drop_other {x : XS} (h : x.Ok) {a : Nat × Ent} (ha : a ∈ x.es) {f : Ent → Bool} (hf : f a.2 = false) : (dropX x a.1).pick f = x.pick f := by
  rw [pick_drop]
  refine List.filter_eq_self.2 fun k hk => ?_
  obtain ⟨b, hb, rfl⟩ := List.mem_map.1 hk
  obtain ⟨hb, hfb⟩ := List.mem_filter.1 hb
  refine decide_eq_true fun e => ?_
  have := uniq_num h hb ha e
  subst this
  rw [hf] at hfb
  cases hfb
def XS.upto (x : XS) (i : Nat) : List Ent := (x.es.filter (fun e => decide (e.1 < i))).map (·.2)
theorem upto_all {x : XS} (h : x.Ok) : x.upto x.nx = x.L := by
  unfold XS.upto XS.L
  rw [List.filter_eq_self.2]
  exact fun a ha => decide_eq_true (h.lt a ha)
theorem upto_zero (x : XS) : x.upto 0 = [] := by
  unfold XS.upto
  rw [List.filter_eq_nil_iff.2]
  · rfl
  · intro a _
    simp
theorem upto_miss {x : XS} {i : Nat} (h : ∀ a ∈ x.es, a.1 ≠ i) : x.upto (i + 1) = x.upto i := by
  unfold XS.upto
  congr 1
  refine List.filter_congr fun a ha => ?_
  have := h a ha
  by_cases h1 : a.1 < i
  · rw [decide_eq_true h1, decide_eq_true (by omega)]
  · rw [decide_eq_false h1, decide_eq_false (by omega)]
theorem upto_list {l : List (Nat × Ent)} {a : Nat × Ent} (ha : a ∈ l) (hp : l.Pairwise (fun a b => a.1 < b.1)) :
    l.filter (fun e => decide (e.1 < a.1 + 1)) = l.filter (fun e => decide (e.1 < a.1)) ++ [a] := by
  induction hp with
  | nil => cases ha
  | @cons b t h1 h2 ih =>
    rcases List.mem_cons.1 ha with rfl | ha
    · rw [List.filter_cons_of_pos (by simp), List.filter_cons_of_neg (by simp), List.filter_eq_nil_iff.2, List.filter_eq_nil_iff.2]
      · rfl
      · intro c hc; have := h1 c hc; simp; omega
      · intro c hc; have := h1 c hc; simp; omega
    · have hb := h1 a ha
      rw [List.filter_cons_of_pos (by simp; omega), List.filter_cons_of_pos (by simpa using hb), ih ha]
      rfl
theorem upto_hit {x : XS} (h : x.Ok) {a : Nat × Ent} (ha : a ∈ x.es) : x.upto (a.1 + 1) = x.upto a.1 ++ [a.2] := by
  unfold XS.upto
  rw [upto_list ha h.asc, List.map_append]
  rfl
theorem upto_len (x : XS) (i : Nat) : (x.upto i).length ≤ x.es.length := by
  unfold XS.upto
  rw [List.length_map]
  exact List.length_filter_le _ _
theorem len_le_aux : ∀ {l : List (Nat × Ent)} {N : Nat}, l.Pairwise (fun a b => a.1 < b.1) → (∀ e ∈ l, e.1 < N) → l.length ≤ N
  | [], _, _, _ => Nat.zero_le _
  | a :: t, N, hp, hl => by
    cases N with
    | zero => exact absurd (hl a List.mem_cons_self) (by omega)
    | succ N =>
      obtain ⟨b, hb⟩ : ∃ b, (a :: t).getLast? = some b := ⟨_, List.getLast?_eq_some_getLast (by simp)⟩
      obtain ⟨ys, hy⟩ := List.getLast?_eq_some_iff.1 hb
      rw [hy] at hp hl ⊢
      obtain ⟨h1, _, h3⟩ := List.pairwise_append.1 hp
      have hlen : ys.length < (a :: t).length := by rw [hy]; simp
      have := len_le_aux (l := ys) (N := N) h1 (fun e he => by
        have := h3 e he b (by simp)
        have := hl b (by simp)
        omega)
      rw [List.length_append]
      simpa using this
termination_by l => l.length
decreasing_by
  rw [hy]
  simp
theorem XS.Ok.len {x : XS} (h : x.Ok) : x.es.length ≤ x.nx := len_le_aux h.asc h.lt
end Go.Proofs.YthgfmoogagldmaaGreat.Cache
namespace Go.Proofs.YthgfmoogagldmaaGreat.Cache
open Go.RowKit Go.Maps
def nk (i : Nat) : Lit := .int .i64 (i : Int)
def sk (s : Nat) : Lit := .int .u64 (s : Int)
theorem nk_inj {i j : Nat} (h : nk i = nk j) : i = j := by
  unfold nk at h
  injection h with _ h
  omega
theorem sk_inj {i j : Nat} (h : sk i = sk j) : i = j := by
  unfold sk at h
  injection h with _ h
  omega
theorem lawN : Keyed Tryz.prog 3 := int_keyed Tryz.underlying3
theorem lawU : Keyed Tryz.prog 180 := int_keyed Tryz.underlying180
theorem keyZN {d : Int} (h : -9223372036854775808 ≤ d ∧ d ≤ 9223372036854775807) : keyOf Tryz.prog 3 (.int .i64 d) = some (.int .i64 d) := Go.Maps.keyOf_int_mk Tryz.underlying3 (by obtain ⟨h1, h2⟩ := h; show (decide (_ ≤ d) && decide (d ≤ _)) = true; rw [Bool.and_eq_true, decide_eq_true_eq, decide_eq_true_eq]; exact ⟨h1, h2⟩)
theorem keyZU {d : Int} (h : 0 ≤ d ∧ d ≤ 18446744073709551615) : keyOf Tryz.prog 180 (.int .u64 d) = some (.int .u64 d) := Go.Maps.keyOf_int_mk Tryz.underlying180 (by obtain ⟨h1, h2⟩ := h; show (decide (_ ≤ d) && decide (d ≤ _)) = true; rw [Bool.and_eq_true, decide_eq_true_eq, decide_eq_true_eq]; exact ⟨h1, h2⟩)
theorem keyN {i : Nat} (h : i ≤ 1000000000) : keyOf Tryz.prog 3 (.int .i64 (i : Int)) = some (nk i) := keyZN ⟨by omega, by omega⟩
theorem keyU {i : Nat} (h : i ≤ 1000000000) : keyOf Tryz.prog 180 (.int .u64 (i : Int)) = some (sk i) := keyZU ⟨by omega, by omega⟩
theorem zeroI (w : World) : (zeroValue 23).run Tryz.prog w = .ok (.slice none 0 0) w := by kernel_rfl
theorem zeroE (w : World) : (zeroValue 69).run Tryz.prog w = .ok (.agg #[.string ⟨#[]⟩, .string ⟨#[]⟩]) w := by kernel_rfl
def entV (e : Ent) : Value := .agg #[.string (str e.1), .string (str e.2)]
def slotB (k : List UInt8) : Nat := Sums.ffold (Sums.nats k) % 64
theorem slotB_lt (k : List UInt8) : slotB k < 64 := Nat.mod_lt _ (by decide)
def inSlot (s : Nat) (e : Ent) : Bool := decide (slotB e.1 = s)
def oneI (ns : List Nat) : List (List Value) := ns.map fun (n : Nat) => [Value.int .i64 (n : Int)]
def Buck (w : World) (m : Nat) (o : Option Value) (ns : List Nat) : Prop := (o = none ∧ ns = []) ∨ ∃ v, o = some v ∧ OwnR 3 1 w m v ns.length (oneI ns)
def bOwn (o : Option Value) : List Nat := match o with
  | some v => ownL v
  | none => []
structure IsX (w : World) (T : List Nat) (m bb ba : Nat) (x : XS) : Prop where
  ok : x.Ok
  all : ∃ f, VM Tryz.prog 3 w ba x.nx f ∧ (∀ i, i < x.nx → (∀ a ∈ x.es, a.1 ≠ i) → f (nk i) = none) ∧ ∀ a ∈ x.es, f (nk a.1) = some (entV a.2)
  bucket : ∃ g, VM Tryz.prog 180 w bb 64 g ∧ (∀ k, (g k).isSome = true → ∃ s, s < 64 ∧ k = sk s) ∧ (∀ s, s < 64 → Buck w m (g (sk s)) (x.pick (inSlot s))) ∧ (∀ s t, s < 64 → t < 64 → s ≠ t → ∀ k ∈ bOwn (g (sk s)), k ∉ bOwn (g (sk t))) ∧ ∀ s, s < 64 → ∀ k ∈ bOwn (g (sk s)), k ∈ T
  small : x.nx ≤ 1000000
  ne : bb ≠ ba
  tt : bb ∈ T ∧ ba ∈ T
  lo : ∀ k ∈ T, m ≤ k ∧ k < w.heap.size
  short : ∀ a ∈ x.es, a.2.1.length ≤ 1000000
section
variable {w w' : World} {m bb ba : Nat} {x : XS} {S T : List Nat} {o : Option Value} {ns : List Nat}
theorem Buck.only (h : Buck w m o ns) (ho : Only S w w') (hS : ∀ k ∈ bOwn o, k ∉ S) : Buck w' m o ns := by
  rcases h with h | ⟨v, rfl, h⟩
  · exact .inl h
  · exact .inr ⟨v, rfl, h.only ho hS⟩
theorem own_heap {e size n : Nat} {base : Nat} {v : Value} {rows : List (List Value)} (h : OwnR e size w base v n rows) : ∀ k ∈ ownL v, ∃ C fr, w.heap[k]? = some (.cells C e fr) := by
  intro k hk
  obtain ⟨_, h0⟩ := h.own
  rcases h0 with ⟨rfl, _⟩ | ⟨g, cap, cur, rfl, _, hh, _⟩
  · simp [ownL, Value.ownBlock] at hk
  · simp [ownL, Value.ownBlock] at hk
    subst hk
    exact ⟨_, _, hh⟩
theorem vm_heap {P : Program} {K : TypeId} {b n : Nat} {f : Lit → Option Value} (h : VM P K w b n f) : ∃ es cl, w.heap[b]? = some (.map es cl) := by
  obtain ⟨D, ⟨es, clock, hb, _⟩, _⟩ := h
  exact ⟨es, clock, hb⟩
theorem vm_row {P : Program} {K : TypeId} {b n e size n2 base : Nat} {f : Lit → Option Value} {v : Value} {rows : List (List Value)} (h : VM P K w b n f) (hr : OwnR e size w base v n2 rows) : b ∉ ownL v := by
  intro hb
  obtain ⟨es, cl, h1⟩ := vm_heap h
  obtain ⟨C, fr, h2⟩ := own_heap hr b hb
  rw [h1] at h2
  cases h2
theorem IsX.only (h : IsX w T m bb ba x) (ho : Only S w w') (hf : ∀ k ∈ T, k ∉ S) : IsX w' T m bb ba x := by
  obtain ⟨h1, ⟨f, f1, f2⟩, ⟨g, g1, g0, g2, g3, g4⟩, h4, h5, h6, h7, h8⟩ := h
  exact ⟨h1, ⟨f, f1.only ho (hf _ h6.2), f2⟩, ⟨g, g1.only ho (hf _ h6.1), g0, fun s hs => (g2 s hs).only ho (fun k hk => hf k (g4 s hs k hk)), g3, g4⟩, h4, h5, h6, fun k hk => ⟨(h7 k hk).1, Nat.lt_of_lt_of_le (h7 k hk).2 ho.size⟩, h8⟩
theorem IsX.only0 (h : IsX w T m bb ba x) (ho : Only [] w w') : IsX w' T m bb ba x := h.only ho (by simp)
theorem IsX.made (w : World) (hm : m ≤ w.heap.size) : IsX ((w.alloc (.map #[] 0)).alloc (.map #[] 0)) [w.heap.size, w.heap.size + 1] m w.heap.size (w.heap.size + 1) emptyX := by
  refine ⟨emptyX_ok, ⟨fun _ => none, ?_, fun _ _ _ => rfl, by simp [emptyX]⟩, ⟨fun _ => none, ((VM.made w _ _).alloc _).mono (by decide), by simp, fun s hs => .inl ⟨rfl, rfl⟩, by simp [bOwn], by simp [bOwn]⟩, by decide, by omega, by simp, fun k hk => ?_, by simp [emptyX]⟩
  · have := VM.made (w.alloc (.map #[] 0)) Tryz.prog 3
    rw [World.size_alloc] at this
    exact this
  · rw [World.size_alloc, World.size_alloc]
    simp at hk
    omega
end
end Go.Proofs.YthgfmoogagldmaaGreat.Cache
namespace Go.Proofs.YthgfmoogagldmaaGreat.Cache
open Go.RowKit Go.Maps Go.Shelf
theorem bytes_of (w : World) (s : ByteArray) (hs : s.size ≤ maxLen) : ∃ cap w', (convert 9 35 (.string s)).run Tryz.prog w = .ok (.slice (some ⟨w.heap.size, 0, none⟩) s.size cap) w' ∧
    Bytes w' w'.heap.size (some ⟨w.heap.size, 0, none⟩) s.size s.data.toList ∧ Only [] w w' ∧ s.size ≤ cap ∧ cap ≤ maxLen ∧ w'.heap.size = w.heap.size + 1 := by
  have hr := run_bytes_of_string (P := Tryz.prog) w 9 35 5 s Tryz.underlying9 Tryz.underlying35 Tryz.underlying5
  have hC : (bytesRow s (grownCap w s.size 0 5)).toList = (s.data.toList ++ List.replicate (grownCap w s.size 0 5 - s.size) 0).map B8 := by
    simp [bytesRow, B8]
  have hb := (Bytes.const w.drew _ _ 5 ((bytesRow s (grownCap w s.size 0 5)).size, (bytesRow s (grownCap w s.size 0 5)).size + 1) hC).head (k := s.size) (by simp)
  refine ⟨_, _, hr, ?_, ((Only.refl [] w).drew).alloc _, grownCap_ge _ _ _ _, grownCap_le_maxLen _ _ _ _ hs, World.size_alloc _ _⟩
  rw [List.take_left' (by simp)] at hb
  rw [World.size_alloc]
  exact hb
theorem field0 (w : World) (a b : ByteArray) : (Instr.field 69 (.agg #[.string a, .string b]) 0).run Tryz.prog w = .ok (.string a) w := by kernel_rfl
theorem field1 (w : World) (a b : ByteArray) : (Instr.field 69 (.agg #[.string a, .string b]) 1).run Tryz.prog w = .ok (.string b) w := by kernel_rfl
theorem rem64 (n : Nat) : (Int.tmod (n : Int) 64) = ((n % 64 : Nat) : Int) := by rw [Int.tmod_eq_emod_of_nonneg (by omega)]; omega
theorem ones_flat : ∀ ns : List Nat, (oneI ns).flatten = ns.map fun (n : Nat) => Value.int .i64 (n : Int)
  | [] => rfl
  | n :: t => by
    have := ones_flat t
    unfold oneI at this ⊢
    rw [List.map_cons, List.flatten_cons, this, List.map_cons]
    rfl
theorem slot_any (k : List UInt8) (w : World) (hk : k.length ≤ 1000000) : Calls Tryz.prog 129 #[.string (str k)] w fun x w' => x = .returned (.int .u64 (slotB k : Int)) ∧ Only [] w w' := by
  obtain ⟨cap, w1, hcv, hB1, ho1, _, _, hsz⟩ := bytes_of w (str k) (by rw [str_size]; unfold maxLen; omega)
  rw [str_size] at hcv hB1
  have HF := Lib.hid (Sums.fnv_any _ cap _ _ w1 _ hB1 (by unfold maxLen; omega))
  have HO := Lib.hid ho1
  have hS : ∀ x : Nat, x < 18446744073709551616 → IntKind.u64.wrap (Int.tmod (x : Int) 64) = ((x % 64 : Nat) : Int) := fun x hx => by rw [IntKind.wrap_u64, rem64]; omega
  have HS := Lib.hid hS
  clear hB1 ho1 hS
  go_enter Tryz.func129, Tryz.ntmps129
  go_wp2_with (go_at_call 148; refine HF.out.mono ?_; rintro x w2 ⟨rfl, hw2⟩; have hw2 := hw2.symm; subst hw2)
  go_ret
  exact ⟨by rw [str_data]; first | rfl | (unfold slotB; go_num) | (unfold slotB; rw [HS.out _ (Sums.ffold_lt _)]), HO.out⟩
theorem Buck.shape {w : World} {m : Nat} {o : Option Value} {ns : List Nat} (h : Buck w m o ns) : ∃ A c, o.getD (.slice none 0 0) = .slice A ns.length c ∧ Reads w w.heap.size 1 A ns.length (ns.map fun (n : Nat) => Value.int .i64 (n : Int)) := by
  rcases h with ⟨rfl, rfl⟩ | ⟨v, rfl, h⟩
  · exact ⟨none, 0, rfl, Reads.none_⟩
  · obtain ⟨A, c, rfl, _, _, hr, _⟩ := h.shape (by decide)
    refine ⟨A, c, rfl, ?_⟩
    have := Recs.reads (by decide) hr h.each
    rwa [ones_flat] at this
theorem str_beq (a b : List UInt8) : ((str a).toList == (str b).toList) = decide (a = b) := by
  rw [Lib.toList_data, Lib.toList_data, str_data, str_data]
  by_cases h : a = b
  · subst h; simp
  · rw [decide_eq_false h]; simpa using h
def foundV : Option (Nat × Ent) → Value
  | some a => .tuple #[.int .i64 (a.1 : Int), .bool true]
  | none => .tuple #[.int .i64 0, .bool false]
theorem find_hit {x : XS} (h : x.Ok) {k : List UInt8} {a : Nat × Ent} (ha : a ∈ x.es) (hk : a.2.1 = k) : findX x k = some a := by
  cases hf : findX x k with
  | none => exact absurd hk (findX_none hf a ha)
  | some b =>
    obtain ⟨hb, hbk⟩ := findX_some hf
    rw [uniq_key h ha hb (by rw [hk, hbk])]
theorem find_miss {x : XS} {k : List UInt8} (h : ∀ a ∈ x.es.filter (fun e => inSlot (slotB k) e.2), a.2.1 ≠ k) : findX x k = none := by
  cases hf : findX x k with
  | none => rfl
  | some b =>
    obtain ⟨hb, hbk⟩ := findX_some hf
    exact absurd hbk (h b (List.mem_filter.2 ⟨hb, by unfold inSlot; rw [hbk]; exact decide_eq_true rfl⟩))
theorem run_look1' {P : Program} {K : TypeId} {w : World} {b n : Nat} {f : Lit → Option Value} {t e : TypeId} (h : VM P K w b n f) (L : Keyed P K) (ht : P.underlying t = some (.map K e)) {z : Value} (hz : (zeroValue e).run P w = .ok z w) {key : Value} {kl : Lit} (hkey : keyOf P K key = some kl) {v : Value} (hv : f kl = some v) :
    (Instr.lookup t (.map (some b)) key false).run P w = .ok v w := by
  rw [h.run_look1 L ht hz hkey, hv]
  rfl
set_option maxHeartbeats 2000000 in
theorem find_any {w : World} {m bb ba q : Nat} {x : XS} {T : List Nat} (k : List UInt8) (hx : IsX w T m bb ba x) (hk : k.length ≤ 1000000) (c1 : w.cell? ⟨q, 1, none⟩ = some (.map (some bb))) (c2 : w.cell? ⟨q, 2, none⟩ = some (.map (some ba))) :
    Calls Tryz.prog 96 #[.pointer (some ⟨q, 1, none⟩), .string (str k)] w fun y w' => y = .returned (foundV (findX x k)) ∧ Only [] w w' := by
  have HSL := Lib.hid (fun wx => slot_any k wx hk)
  have HX := Lib.hid hx
  have HE : Hid (∀ z, findX x k = z → z = findX x k) := Lib.hid (fun _ h => h.symm)
  obtain ⟨f, hf0, hfn, hfe⟩ := hx.all
  obtain ⟨g, hg0, _, hgb, hgs, _⟩ := hx.bucket
  obtain ⟨A, c, hsl, hrd⟩ := (hgb (slotB k) (slotB_lt k)).shape
  obtain ⟨es, hes⟩ : ∃ es, x.es.filter (fun e => inSlot (slotB k) e.2) = es := ⟨_, rfl⟩
  have hpk : x.pick (inSlot (slotB k)) = es.map (·.1) := by unfold XS.pick; rw [hes]
  rw [hpk, List.length_map] at hsl hrd
  rw [List.map_map] at hrd
  obtain ⟨n, hn⟩ : ∃ n, es.length = n := ⟨_, rfl⟩
  rw [hn] at hsl hrd
  have hmem : ∀ a ∈ es, a ∈ x.es := fun a ha => by rw [← hes] at ha; exact (List.mem_filter.1 ha).1
  have hnx : n ≤ 1000000 := by
    have h1 := hx.ok.len
    have h2 := hx.small
    have h3 : es.length ≤ x.es.length := by rw [← hes]; exact List.length_filter_le _ _
    omega
  have HN := Lib.hid hn
  have HMEM := Lib.hid hmem
  have HES := Lib.hid hes
  have HRD := Lib.hid hrd
  have HG := Lib.hid hg0
  have HF := Lib.hid hf0
  have HFE := Lib.hid hfe
  have hlk : ∀ w', Only [] w w' → (Instr.lookup 83 (.map (some bb)) (.int .u64 (slotB k : Int)) false).run Tryz.prog w' = .ok (.slice A n c) w' := fun w' ho => by
    rw [(HG.out.only ho (by simp)).run_look1 lawU Tryz.underlying83 (zeroI w') (keyU (by have := slotB_lt k; omega)), hsl]
  have HLK := Lib.hid hlk
  have HC1 := Lib.hid c1
  have HC2 := Lib.hid c2
  generalize hslb : slotB k = sb at *
  clear hsl hrd hmem hn hes hpk hgs hgb hg0 hfn hfe hf0 hlk hx c1 c2
  go_enter Tryz.func96, Tryz.ntmps96
  go_upto_region 1 with fail
  have hS : w.drew.cell? ⟨q, 1, none⟩ = some (.map (some bb)) ∧ Only [] w w.drew := ⟨HC1.out, (Only.refl [] w).drew⟩
  refine wp_region_hand (S := (fun Y => Y.cell? ⟨q, 1, none⟩ = some (.map (some bb)) ∧ Only [] w Y)) (by kernel_rfl) ?_
  refine takeV 0 (.pointer (some ⟨q, 1, none⟩)) rfl rfl (by kernel_rfl) (fun Y hY => by obtain ⟨y0, y1⟩ := hY; go_simp) hS ?_; simp only [s0A, s0B, s0C]
  refine takeV 1 (.pointer (some ⟨q, 1, none⟩)) rfl rfl (by kernel_rfl) (fun Y hY => by obtain ⟨y0, y1⟩ := hY; go_simp) hS ?_; simp only [s0A, s0B, s0C]
  refine takeV 2 (.pointer (some ⟨q, 1, none⟩)) rfl rfl (by kernel_rfl) (fun Y hY => by obtain ⟨y0, y1⟩ := hY; go_simp) hS ?_; simp only [s0A, s0B, s0C]
  refine takeV 3 (.map (some bb)) rfl rfl (by kernel_rfl) (fun Y hY => by obtain ⟨y0, y1⟩ := hY; go_simp) hS ?_; simp only [s0A, s0B, s0C]
  refine takeV 4 (.string (str k)) rfl rfl (by kernel_rfl) (fun Y hY => by obtain ⟨y0, y1⟩ := hY; go_simp) hS ?_; simp only [s0A, s0B, s0C]
  refine takeV 8 (.int .i64 0) rfl rfl (by kernel_rfl) (fun Y hY => by obtain ⟨y0, y1⟩ := hY; go_simp) hS ?_; simp only [s0A, s0B, s0C]
  refine callW (i := 5) rfl (by kernel_rfl) rfl (by rfl) ?_ (HSL.out _) ?_
  · go_simp
  rintro y w2 ⟨rfl, ho2⟩
  have hS2 : w2.cell? ⟨q, 1, none⟩ = some (.map (some bb)) ∧ Only [] w w2 := ⟨ho2.cell hS.1 (by simp), hS.2.trans ho2 (by simp)⟩
  clear ho2
  refine ⟨_, rfl, hS2, ?_⟩
  simp only [s0A, s0B, s0C]
  refine takeV 6 (.slice A n c) rfl rfl (by kernel_rfl) (fun Y hY => by obtain ⟨y0, y1⟩ := hY; have yl := HLK.out Y y1; go_simp) hS2 ?_; simp only [s0A, s0B, s0C]
  refine takeV 7 (.int .i64 (n : Int)) rfl rfl (by kernel_rfl) (fun Y hY => by obtain ⟨y0, y1⟩ := hY; go_simp) hS2 ?_; simp only [s0A, s0B, s0C]
  refine wpAnyH_done (by kernel_rfl) ?_ _
  have HO2 := Lib.hid hS2.2
  clear hS hS2
  go_wp2_with fail
  go_loopw [7, 16] (fun v i wr => ∃ j : Nat, j ≤ n ∧ i = .int .i64 j ∧ Only [] w wr ∧ ∀ a ∈ es.take j, a.2.1 ≠ k) (fun _ i _ => n - (Go.RowKit.intOf i).toNat)
  case atStart => exact ⟨0, by omega, rfl, HO2.out, by simp⟩
  case round =>
    obtain ⟨j, hj, rfl, ho, hne⟩ := hrel
    by_cases hlt : j < n
    · have d1 : decide ((j : Int) < (n : Int)) = true := decide_eq_true (by omega)
      have hlt2 : j < es.length := by rw [HN.out]; exact hlt
      obtain ⟨a, haj⟩ : ∃ a, es[j]? = some a := ⟨_, List.getElem?_eq_getElem hlt2⟩
      have ham := List.mem_of_getElem? haj
      obtain ⟨bb2, o2, rfl, _, hc⟩ := HRD.out.at1 hlt
      rw [List.getElem?_map, haj] at hc
      simp only [Option.map_some, Function.comp] at hc
      have hc2 := ho.cell hc (by simp)
      have c2 := ho.cell HC2.out (by simp)
      have hax := HX.out.ok.lt a (HMEM.out a ham)
      have hxs := HX.out.small
      have hlk2 := run_look1' (HF.out.only ho (by simp)) lawN Tryz.underlying84 (zeroE wr) (keyN (i := a.1) (by omega)) (HFE.out a (HMEM.out a ham))
      have HAM := Lib.hid (HMEM.out a ham)
      have HNE := Lib.hid hne
      have HAJ := Lib.hid haj
      have HO := Lib.hid ho
      unfold entV at hlk2
      obtain ⟨an, ak, av⟩ := a
      simp only at hlk2 hc2 hax
      clear hc haj ham hne ho hax hxs
      have hfd := field0 wr (str ak) (str av)
      by_cases hkk : ak = k
      · subst hkk
        have HR := Lib.hid (find_hit HX.out.ok HAM.out rfl)
        simp only at HR
        have e1 : ((str ak).toList == (str ak).toList) = true := by simp
        go_wp2_with fail
        exact bodyPost_ret (v := .tuple #[.int .i64 an, .bool true]) (by simp [results, Tryz.results96, go_sem]) rfl ⟨by rw [HR.out]; rfl, HO.out⟩
      · have e1 : ((str ak).toList == (str k).toList) = false := by rw [str_beq]; exact decide_eq_false hkk
        have HNX := Lib.hid (show ∀ a ∈ es.take (j + 1), a.2.1 ≠ k from fun b hb => by
          obtain ⟨h1, h2⟩ := List.getElem?_eq_some_iff.1 HAJ.out
          rw [List.take_succ_eq_append_getElem h1] at hb
          rcases List.mem_append.1 hb with hb | hb
          · exact HNE.out b hb
          · rw [List.mem_singleton.1 hb, h2]; exact hkk)
        clear hkk
        go_wp2_with fail
        go_roundw
        case measure => simp [Go.RowKit.intOf]; omega
        case rel => exact ⟨j + 1, by omega, by go_num, HO.out, HNX.out⟩
    · obtain rfl : j = n := by omega
      have d1 : decide ((j : Int) < (j : Int)) = false := decide_eq_false (by omega)
      rw [List.take_of_length_le (by rw [HN.out]; exact Nat.le_refl _), ← HES.out, ← hslb] at hne
      have HR := Lib.hid (find_miss hne)
      have HO := Lib.hid ho
      clear hne ho
      go_wp2_with fail
      exact bodyPost_ret (v := .tuple #[.int .i64 0, .bool false]) (by simp [results, Tryz.results96, go_sem]) rfl ⟨by rw [HR.out]; rfl, HO.out⟩
end Go.Proofs.YthgfmoogagldmaaGreat.Cache
namespace Go.Proofs.YthgfmoogagldmaaGreat.Cache
open Go.RowKit Go.Maps Go.Shelf
def entRow (e : Ent) : List Value := [.string (str e.1), .string (str e.2)]
theorem ent_info : (Tryz.prog.info? 69).map (fun i => (i.zero, i.size, i.bytes)) = some (some (.agg #[.string ⟨#[]⟩, .string ⟨#[]⟩]), 2, 32) := by kernel_rfl
set_option maxHeartbeats 2000000 in
theorem list_any {w : World} {m bb ba q : Nat} {x : XS} {T : List Nat} (hx : IsX w T m bb ba x) (c2 : w.cell? ⟨q, 2, none⟩ = some (.map (some ba))) (c3 : w.cell? ⟨q, 3, none⟩ = some (.int .i64 (x.nx : Int))) :
    Calls Tryz.prog 99 #[.pointer (some ⟨q, 1, none⟩)] w fun y w' => ∃ v, y = .returned v ∧ OwnR 69 2 w' w.heap.size v x.L.length (x.L.map entRow) ∧ Only [] w w' := by
  have HX := Lib.hid hx
  obtain ⟨f, hf0, hfn, hfe⟩ := hx.all
  have HF := Lib.hid hf0
  have HFN := Lib.hid hfn
  have HFE := Lib.hid hfe
  have hsm := hx.small
  have HC2 := Lib.hid c2
  obtain ⟨N, hN⟩ : ∃ N, x.nx = N := ⟨_, rfl⟩
  have HN := Lib.hid hN
  rw [hN] at c3 hsm
  clear hx hf0 hfn hfe hN c2
  go_enter Tryz.func99, Tryz.ntmps99
  go_wp2_with fail
  go_loopw [3, 11] (fun v i wr => ∃ j : Nat, j ≤ N ∧ i = .int .i64 j ∧ OwnR 69 2 wr w.heap.size v (x.upto j).length ((x.upto j).map entRow) ∧ Only [] w wr) (fun _ i _ => N - (Go.RowKit.intOf i).toNat)
  case atStart => exact ⟨0, by omega, rfl, by rw [upto_zero]; exact OwnR.nil_ _ _ _ _, Only.refl _ _⟩
  case round =>
    obtain ⟨j, hj, rfl, hown, ho⟩ := hrel
    clear c3
    by_cases hlt : j < N
    · have d1 : decide ((j : Int) < (N : Int)) = true := decide_eq_true (by omega)
      have c2 := ho.cell HC2.out (by simp)
      have hlk := (HF.out.only ho (by simp)).run_look lawN Tryz.underlying84 (zeroE wr) (keyN (i := j) (by omega))
      have HO := Lib.hid ho
      have HOWN := Lib.hid hown
      have hlen : (x.upto j).length ≤ N := by have h1 := upto_len x j; have h2 := HX.out.ok.len; have h3 := HN.out; omega
      clear ho hown
      by_cases hex : ∃ a ∈ x.es, a.1 = j
      · obtain ⟨a, ha, haj⟩ := hex
        have hfa := HFE.out a ha
        rw [haj] at hfa
        rw [hfa] at hlk
        have HUP := Lib.hid (upto_hit HX.out.ok ha)
        rw [haj] at HUP
        obtain ⟨an, ak, av⟩ := a
        simp only [Option.getD_some, Option.isSome_some] at hlk
        unfold entV at hlk
        simp only at hlk HUP
        clear ha haj hfa
        have HA := Lib.hid ((Only.refl [] wr).alloc (.cells #[.string (str ak), .string (str av)] 69))
        have HV := Lib.hid (HOWN.out.only HA.out (by simp))
        have HSZ := Lib.hid (show w.heap.size ≤ wr.heap.size from HO.out.size)
        go_wp2_with (at_builtin; refine wpList_append1 (w := wr.alloc (.cells #[.string (str ak), .string (str av)] 69)) rfl (.tmp 24) (.tmp 26) 81 rfl Tryz.underlying81 ent_info rfl (by decide) rfl HV.out rfl (World.size_alloc _ _) (row := [.string (str ak), .string (str av)]) rfl rfl (by intro u hu; simp at hu; rcases hu with rfl | rfl <;> rfl) (by omega) (by unfold maxLen; omega) (by rw [World.size_alloc]; have := HSZ.out; omega) ?_; intro v' w5 hE)
        go_roundw
        case measure => simp [Go.RowKit.intOf]; omega
        case rel =>
          refine ⟨j + 1, by omega, by go_num, ?_, (HO.out.trans HA.out (by simp)).trans hE.only (fun g hg => .inr (HOWN.out.lt g hg).1)⟩
          rw [HUP.out, List.length_append, List.map_append]
          exact hE.own
      · have hnx : ∀ a ∈ x.es, a.1 ≠ j := fun a ha e => hex ⟨a, ha, e⟩
        have hfa := HFN.out j (by have := HN.out; omega) hnx
        rw [hfa] at hlk
        have HUP := Lib.hid (upto_miss hnx)
        simp only [Option.getD_none, Option.isSome_none] at hlk
        clear hex hnx hfa
        have HA := Lib.hid ((Only.refl [] wr).alloc (.cells #[.string ⟨#[]⟩, .string ⟨#[]⟩] 69))
        go_wp2_with fail
        go_roundw
        case measure => simp [Go.RowKit.intOf]; omega
        case rel => exact ⟨j + 1, by omega, by go_num, by rw [HUP.out]; exact HOWN.out.only HA.out (by simp), HO.out.trans HA.out (by simp)⟩
    · obtain rfl : j = N := by omega
      have d1 : decide ((j : Int) < (j : Int)) = false := decide_eq_false (by omega)
      rw [← HN.out, upto_all HX.out.ok] at hown
      go_wp2_with fail
      go_ret
      exact ⟨_, rfl, hown, ho⟩
end Go.Proofs.YthgfmoogagldmaaGreat.Cache
namespace Go.Proofs.YthgfmoogagldmaaGreat
open Go.RowKit
theorem setCells_heap {e : TypeId} (b : Nat) : ∀ (vs : List Value) (o : Nat) (w : World) (cur : Array Value), w.heap[b]? = some (.cells cur e (0, 0)) → o + vs.length ≤ cur.size →
    ∃ cur', (w.setCells b o vs).heap[b]? = some (.cells cur' e (0, 0)) ∧ cur'.size = cur.size ∧ (∀ k, k < o → cur'[k]? = cur[k]?) ∧ Only [b] w (w.setCells b o vs)
  | [], o, w, cur, h, _ => ⟨cur, h, rfl, fun _ _ => rfl, Only.refl _ _⟩
  | v :: r, o, w, cur, h, hl => by
    have h1 : (w.setCell ⟨b, o, none⟩ v).heap[b]? = some (.cells (cur.setIfInBounds o v) e (0, 0)) := Blk.set_ (w := w) (g := b) (t := e) (cs := cur) h o v
    obtain ⟨cur', a1, a2, a3, a4⟩ := setCells_heap b r (o + 1) (w.setCell ⟨b, o, none⟩ v) _ h1 (by simp at hl ⊢; omega)
    refine ⟨cur', a1, by rw [a2]; simp, fun k hk => ?_, ((Only.refl [b] w).setCell (.inl (by simp)) v).trans a4 (fun g hg => .inl hg)⟩
    rw [a3 k (by omega), Array.getElem?_setIfInBounds_ne (by omega)]
theorem zeros_one {z : Value} {n : Nat} (hs : 0 < z.cells.size) (h1 : ∀ u ∈ z.cells.toList, u.oneCell' = true) : ∀ u ∈ (Builtin.zeroCells z.cells n).toList, u.oneCell' = true := by
  intro u hu
  unfold Builtin.zeroCells at hu
  simp only [Array.toList_map, List.mem_map, Array.toList_range, List.mem_range] at hu
  obtain ⟨i, hi, rfl⟩ := hu
  have hm : i % z.cells.size < z.cells.size := Nat.mod_lt _ hs
  rw [getElem!_pos z.cells _ hm]
  exact h1 _ (by simp)
theorem zeros_len (z : Array Value) (n : Nat) : (Builtin.zeroCells z n).toList.length = n * z.size := by
  simp [Builtin.zeroCells]
theorem take_flat {size : Nat} : ∀ {rows : List (List Value)} (i : Nat), (∀ r ∈ rows, r.length = size) → (rows.take i).flatten = rows.flatten.take (i * size)
  | [], i, _ => by simp
  | r :: rows, 0, _ => by simp
  | r :: rows, i + 1, h => by
    have hr := h r (by simp)
    have e : (i + 1) * size = r.length + i * size := by rw [hr, Nat.add_mul]; omega
    rw [List.take_succ_cons, List.flatten_cons, List.flatten_cons, take_flat i (fun x hx => h x (by simp [hx])), e, List.take_length_add_append]
section
variable {P : Program} {w : World}
theorem run_clear_row {t e ty : TypeId} {z : Value} {size : Nat} (ht : P.underlying t = some (.slice e)) (hv : ∀ w, (zeroValue e).run P w = .ok z w) (hz : z.cells.size = size) (hs : 0 < size) (h1 : ∀ u ∈ z.cells.toList, u.oneCell' = true)
    {base g n cap i : Nat} {rows : List (List Value)} (hown : OwnR e size w base (.slice (some ⟨g, 0, none⟩) n cap) n rows) (hi : i < n) (c : Nat) :
    ∃ w', (Builtin.clear_ #[t] ty #[.slice (some ⟨g, i * size, none⟩) (n - i) c]).run P w = .ok (.tuple #[]) w' ∧ OwnR e size w' base (.slice (some ⟨g, 0, none⟩) i cap) i (rows.take i) ∧ Only [g] w w' := by
  obtain ⟨hl, he, hl2, h0⟩ := hown
  rcases h0 with ⟨hbad, _⟩ | ⟨g', cap', cur, hv', hg, hh, hc, hm, hsz, htk⟩
  · cases hbad
  · injection hv' with e1 e2 e3
    injection e1 with e1
    injection e1 with e1
    subst e1
    subst e3
    have hin : i * size + (n - i) * size = n * size := by rw [← Nat.add_mul]; congr 1; omega
    have hcs : n * size ≤ cap * size := Nat.mul_le_mul_right _ hc
    obtain ⟨cur', a1, a2, a3, a4⟩ := setCells_heap g (Builtin.zeroCells z.cells (n - i)).toList (i * size) w cur hh (by rw [zeros_len, hz, hin, hsz]; exact hcs)
    have hst := run_storeCells_cells (P := P) g (i * size) (Builtin.zeroCells z.cells (n - i)).toList 0 w
      (fun j hj => by
        rw [zeros_len, hz] at hj
        have : w.cell? ⟨g, i * size + 0 + j, none⟩ = cur[i * size + 0 + j]? := Blk.cell (w := w) (g := g) (t := e) (cs := cur) hh _
        rw [this, Array.getElem?_eq_getElem (by omega)]; rfl)
      (fun j hj => Blk.frozen (w := w) (g := g) (t := e) (cs := cur) hh _)
      (zeros_one (by omega) h1)
    simp only [Nat.add_zero] at hst
    refine ⟨_, ?_, ⟨by rw [List.length_take]; omega, fun r hr => he r (List.mem_of_mem_take hr), ?_, .inr ⟨g, cap, cur', rfl, hg, a1, by omega, hm, by rw [a2, hsz], ?_⟩⟩, a4⟩
    · obtain ⟨k, hk⟩ : ∃ k, n - i = k + 1 := ⟨n - i - 1, by omega⟩
      rw [hk] at hst ⊢
      simp [Builtin.clear_, run_underlying ht, hv, hst]
    · rw [flatten_len (fun r hr => he r (List.mem_of_mem_take hr)), List.length_take]
      congr 1
      omega
    · have hft : (rows.take i).flatten = rows.flatten.take (i * size) := take_flat i he
      rw [hft, ← htk, List.take_take, Nat.min_eq_left (by omega)]
      apply List.ext_getElem?
      intro k
      rw [List.getElem?_take, List.getElem?_take]
      split
      · rw [Array.getElem?_toList, Array.getElem?_toList, a3 k (by assumption)]
      · rfl
theorem OwnR.cut {e size base g n cap i : Nat} {rows : List (List Value)} (hown : OwnR e size w base (.slice (some ⟨g, 0, none⟩) n cap) n rows) (hi : i ≤ n) : OwnR e size w base (.slice (some ⟨g, 0, none⟩) i cap) i (rows.take i) := by
  obtain ⟨hl, he, hl2, h0⟩ := hown
  rcases h0 with ⟨hbad, _⟩ | ⟨g', cap', cur, hv', hg, hh, hc, hm, hsz, htk⟩
  · cases hbad
  · injection hv' with e1 e2 e3
    injection e1 with e1
    injection e1 with e1
    subst e1
    subst e3
    have hft : (rows.take i).flatten = rows.flatten.take (i * size) := take_flat i he
    have hin : i * size ≤ n * size := Nat.mul_le_mul_right _ hi
    refine ⟨by rw [List.length_take]; omega, fun r hr => he r (List.mem_of_mem_take hr), ?_, .inr ⟨g, cap, cur, rfl, hg, hh, by omega, hm, hsz, ?_⟩⟩
    · rw [flatten_len (fun r hr => he r (List.mem_of_mem_take hr)), List.length_take]
      congr 1
      omega
    · rw [hft, ← htk, List.take_take, Nat.min_eq_left (by omega)]
theorem OwnR.put {e size base g n cap : Nat} {rows : List (List Value)} (h : OwnR e size w base (.slice (some ⟨g, 0, none⟩) n cap) n rows) {i : Nat} (hi : i < n) {j : Nat} (hj : j < size) (u : Value) :
    OwnR e size (w.setCell ⟨g, i * size + j, none⟩ u) base (.slice (some ⟨g, 0, none⟩) n cap) n (rows.set i ((rows.getD i []).set j u)) := by
  have hl := h.len
  have fs : ∀ {rows : List (List Value)} (i : Nat), (∀ r ∈ rows, r.length = size) → i < rows.length → (rows.set i ((rows.getD i []).set j u)).flatten = rows.flatten.set (i * size + j) u := by
    intro rows
    induction rows with
    | nil => intro i _ hi; simp at hi
    | cons r rows ih =>
      intro i h hi
      have hr := h r (by simp)
      cases i with
      | zero =>
        simp only [List.set_cons_zero, List.getD_cons_zero, List.flatten_cons, Nat.zero_mul, Nat.zero_add]
        rw [List.set_append_left _ _ (by omega)]
      | succ i =>
        have ih := ih i (fun x hx => h x (by simp [hx])) (by simpa using hi)
        simp only [List.set_cons_succ, List.getD_cons_succ, List.flatten_cons]
        rw [ih, List.set_append_right _ _ (by rw [hr, Nat.add_mul]; omega), hr]
        congr 2
        rw [Nat.add_mul]
        omega
  refine ⟨by rw [List.length_set]; exact h.len, ?_, ?_⟩
  · intro r hr
    rcases List.mem_or_eq_of_mem_set hr with hr | rfl
    · exact h.each r hr
    · rw [List.length_set, List.getD_eq_getElem?_getD, List.getElem?_eq_getElem (by omega)]
      exact h.each _ (List.getElem_mem _)
  · rw [fs i h.each (by omega)]
    exact (h.own.stored (i * size + j) u).1
theorem OwnR.cellOf {e size base g n cap : Nat} {rows : List (List Value)} (h : OwnR e size w base (.slice (some ⟨g, 0, none⟩) n cap) n rows) {i j : Nat} (hi : i < n) (hj : j < size) : w.cell? ⟨g, i * size + j, none⟩ = (rows.getD i [])[j]? := by
  rw [h.own.cellAt (i * size + j) (by have := Nat.mul_le_mul_right size (show i + 1 ≤ n from hi); rw [Nat.add_mul] at this; omega), flatten_get h.each i j hj]
theorem OwnR.frozenOf {e size base g n cap : Nat} {rows : List (List Value)} (h : OwnR e size w base (.slice (some ⟨g, 0, none⟩) n cap) n rows) (q : Nat) : w.frozen? ⟨g, q, none⟩ = false := h.own.frozenAt q
theorem OwnR.put1 {e base g n cap : Nat} {w : World} {rows : List (List Value)} (h : OwnR e 1 w base (.slice (some ⟨g, 0, none⟩) n cap) n rows) {i : Nat} (hi : i < n) (u : Value) :
    OwnR e 1 (w.setCell ⟨g, i, none⟩ u) base (.slice (some ⟨g, 0, none⟩) n cap) n (rows.set i [u]) := by
  have hl := h.len
  have h1 := h.put hi (j := 0) (by decide) u
  have h2 : (rows.getD i []).length = 1 := by
    rw [List.getD_eq_getElem?_getD, List.getElem?_eq_getElem (by omega)]
    exact h.each _ (List.getElem_mem _)
  have h3 : (rows.getD i []).set 0 u = [u] := by
    match hr : rows.getD i [], h2 with
    | [x], _ => rfl
  rw [h3] at h1
  simpa using h1
end
end Go.Proofs.YthgfmoogagldmaaGreat
namespace Go.Proofs.YthgfmoogagldmaaGreat.Cache
open Go.RowKit Go.Maps Go.Shelf
def eqN (a k : Nat) : Bool := decide (a = k)
theorem zeroInt (w : World) : (zeroValue 3).run Tryz.prog w = .ok (.int .i64 0) w := by kernel_rfl
structure DelAt {α : Type} (p : α → Bool) (row : α → List Value) (xs : List α) (i j : Nat) (rs : List (List Value)) : Prop where
  len : rs.length = xs.length
  le : i ≤ j
  take : rs.take i = ((xs.take j).filter (fun a => !p a)).map row
  drop : rs.drop j = (xs.drop j).map row
section
variable {α : Type} {p : α → Bool} {row : α → List Value} {xs : List α} {i j : Nat} {rs : List (List Value)} {a : α}
theorem del_start (hia : xs[i]? = some a) (hne : ∀ b ∈ xs.take i, p b = false) (hpa : p a = true) : DelAt p row xs i (i + 1) (xs.map row) := by
  obtain ⟨h1, h2⟩ := List.getElem?_eq_some_iff.1 hia
  refine ⟨by simp, by omega, ?_, by rw [List.map_drop]⟩
  rw [List.take_succ_eq_append_getElem h1, List.filter_append, h2, List.filter_cons_of_neg (by rw [hpa]; simp), List.filter_nil, List.append_nil, List.filter_eq_self.2 (fun b hb => by rw [hne b hb]; rfl), List.map_take]
theorem DelAt.get (h : DelAt p row xs i j rs) (hj : xs[j]? = some a) : rs.getD j [] = row a := by
  have h1 : (rs.drop j)[0]? = ((xs.drop j).map row)[0]? := by rw [h.drop]
  rw [List.getElem?_drop, List.getElem?_map, List.getElem?_drop, Nat.add_zero, hj] at h1
  rw [List.getD_eq_getElem?_getD, h1]
  rfl
theorem DelAt.pass (h : DelAt p row xs i j rs) (hj : xs[j]? = some a) (hp : p a = true) : DelAt p row xs i (j + 1) rs := by
  obtain ⟨h1, h2⟩ := List.getElem?_eq_some_iff.1 hj
  refine ⟨h.len, by have := h.le; omega, ?_, ?_⟩
  · rw [List.take_succ_eq_append_getElem h1, List.filter_append, h2, List.filter_cons_of_neg (by rw [hp]; simp), List.filter_nil, List.append_nil, h.take]
  · rw [← List.drop_drop, h.drop, ← List.map_drop, List.drop_drop]
theorem DelAt.keep (h : DelAt p row xs i j rs) (hj : xs[j]? = some a) (hp : p a = false) : DelAt p row xs (i + 1) (j + 1) (rs.set i (row a)) := by
  obtain ⟨h1, h2⟩ := List.getElem?_eq_some_iff.1 hj
  have hle := h.le
  have hl := h.len
  refine ⟨by rw [List.length_set]; exact hl, by omega, ?_, ?_⟩
  · rw [List.take_succ_eq_append_getElem h1, List.filter_append, h2, List.filter_cons_of_pos (by rw [hp]; rfl), List.filter_nil, List.map_append, ← h.take, List.take_succ_eq_append_getElem (by rw [List.length_set]; omega), List.getElem_set_self, List.take_set_of_le (Nat.le_refl _)]
    rfl
  · rw [List.drop_set_of_lt (by omega), ← List.drop_drop, h.drop, ← List.map_drop, List.drop_drop]
theorem DelAt.done (h : DelAt p row xs i j rs) (hj : xs.length = j) : rs.take i = (xs.filter (fun a => !p a)).map row := by
  rw [h.take, List.take_of_length_le (by omega)]
end
theorem drop1_any {w : World} {cb : Nat} (a k : Nat) (hc : w.cell? ⟨cb, 0, none⟩ = some (.int .i64 (k : Int))) : Calls Tryz.prog 150 #[.int .i64 (a : Int), .pointer (some ⟨cb, 0, none⟩)] w fun y w' => y = .returned (.bool (eqN a k)) ∧ Only [] w w' := by
  go_enter Tryz.func150, Tryz.ntmps150
  go_wp2_with fail
  go_ret
  refine ⟨?_, Only.refl _ _⟩
  unfold eqN
  by_cases h : a = k
  · subst h; simp
  · rw [decide_eq_false h]
    have : ((a : Int) == (k : Int)) = false := by rw [beq_eq_false_iff_ne]; omega
    show Ending.returned (.bool ((a : Int) == (k : Int))) = _
    rw [this]
set_option maxHeartbeats 2000000 in
theorem indexN_any {w : World} {A : Option Addr} {n c cb : Nat} (xs : List Nat) (k : Nat) (hr : Recs w w.heap.size 1 A n (xs.map (fun (n : Nat) => [Value.int .i64 (n : Int)]))) (hn : n ≤ 1000000) (hc : w.cell? ⟨cb, 0, none⟩ = some (.int .i64 (k : Int))) :
    Calls Tryz.prog 161 #[.slice A n c, .func (.func 150) #[] #[.pointer (some ⟨cb, 0, none⟩)]] w fun y w' =>
      ((∃ (i : Nat) (a : Nat), i < n ∧ xs[i]? = some a ∧ eqN a k = true ∧ (∀ b ∈ xs.take i, eqN b k = false) ∧ y = .returned (.int .i64 (i : Int))) ∨ ((∀ a ∈ xs, eqN a k = false) ∧ y = .returned (.int .i64 (-1)))) ∧ Only [] w w' := by
  have hl : xs.length = n := by have := hr.1; rwa [List.length_map] at this
  have HL := Lib.hid hl
  have HR := Lib.hid hr
  have HC := Lib.hid hc
  clear hr hl hc
  go_enter Tryz.func161, Tryz.ntmps161
  go_wp2_with fail
  go_loopw [8] (fun i wr => ∃ j : Nat, j ≤ n ∧ i = .int .i64 j ∧ Only [] w wr ∧ ∀ b ∈ xs.take j, eqN b k = false) (fun i _ => n - (Go.RowKit.intOf i).toNat)
  case atStart => exact ⟨0, by omega, rfl, Only.refl _ _, by simp⟩
  case round =>
    obtain ⟨j, hj, rfl, ho, hne⟩ := hrel
    by_cases hlt : j < n
    · have d1 : decide ((j : Int) < (n : Int)) = true := decide_eq_true (by omega)
      have hlt2 : j < xs.length := by rw [HL.out]; exact hlt
      obtain ⟨a, haj⟩ : ∃ a, xs[j]? = some a := ⟨_, List.getElem?_eq_getElem hlt2⟩
      obtain ⟨b, off, rfl, _, hcc⟩ := HR.out.at_ 0 hlt
      rw [List.getD_eq_getElem?_getD, haj] at hcc
      simp only [Option.getD_some] at hcc
      have q0 := ho.cell (hcc 0 (by decide)) (by simp)
      simp only [Nat.mul_one, Nat.add_zero] at q0
      have HPC := Lib.hid (drop1_any a k (ho.cell HC.out (by simp)))
      have HAJ := Lib.hid haj
      have HNE := Lib.hid hne
      have HO := Lib.hid ho
      clear hcc haj hne ho
      obtain ⟨pb, hpb⟩ : ∃ pb, eqN a k = pb := ⟨_, rfl⟩
      rw [hpb] at HPC
      have HPB := Lib.hid hpb
      clear hpb
      cases pb
      · go_wp2_with (go_at_call 150; refine HPC.out.mono ?_; rintro y w2 ⟨rfl, ho2⟩; have HO2 := Lib.hid (HO.out.trans ho2 (by simp)); clear ho2)
        go_roundw
        case measure => simp [Go.RowKit.intOf]; omega
        case rel =>
          refine ⟨j + 1, by omega, by go_num, HO2.out, fun b hb => ?_⟩
          obtain ⟨h1, h2⟩ := List.getElem?_eq_some_iff.1 HAJ.out
          rw [List.take_succ_eq_append_getElem h1] at hb
          rcases List.mem_append.1 hb with hb | hb
          · exact HNE.out b hb
          · rw [List.mem_singleton.1 hb, h2]; exact HPB.out
      · go_wp2_with (go_at_call 150; refine HPC.out.mono ?_; rintro y w2 ⟨rfl, ho2⟩; have HO2 := Lib.hid (HO.out.trans ho2 (by simp)); clear ho2)
        go_ret
        exact ⟨.inl ⟨j, a, hlt, HAJ.out, HPB.out, HNE.out, rfl⟩, HO2.out⟩
    · obtain rfl : j = n := by omega
      have d1 : decide ((j : Int) < (j : Int)) = false := decide_eq_false (by omega)
      rw [List.take_of_length_le (by rw [HL.out]; exact Nat.le_refl _)] at hne
      have HNE := Lib.hid hne
      clear hne
      go_wp2_with fail
      go_ret
      exact ⟨.inr ⟨HNE.out, rfl⟩, ho⟩
set_option maxHeartbeats 2000000 in
theorem deleteN_any {w : World} {m g n c cb : Nat} (xs : List Nat) (k : Nat) (hown : OwnR 3 1 w m (.slice (some ⟨g, 0, none⟩) n c) n (xs.map (fun (n : Nat) => [Value.int .i64 (n : Int)]))) (hn : n ≤ 1000000) (hc : w.cell? ⟨cb, 0, none⟩ = some (.int .i64 (k : Int))) (hcg : cb ≠ g) :
    Calls Tryz.prog 149 #[.slice (some ⟨g, 0, none⟩) n c, .func (.func 150) #[] #[.pointer (some ⟨cb, 0, none⟩)]] w fun y w' =>
      ∃ n', y = .returned (.slice (some ⟨g, 0, none⟩) n' c) ∧ OwnR 3 1 w' m (.slice (some ⟨g, 0, none⟩) n' c) n' ((xs.filter (fun a => !eqN a k)).map (fun (n : Nat) => [Value.int .i64 (n : Int)])) ∧ Only [g] w w' := by
  have hl : xs.length = n := by have := hown.len; rwa [List.length_map] at this
  have hnc : n ≤ c := by obtain ⟨A', c', e, h, _⟩ := hown.shape (by decide); injection e with _ _ e; omega
  have HL := Lib.hid hl
  have HI := Lib.hid (indexN_any (A := some ⟨g, 0, none⟩) (c := c) xs k (by obtain ⟨A', c', e, _, _, h, _⟩ := hown.shape (by decide); injection e with e1 e2 e3; subst e1; exact h) hn hc)
  have HOWN := Lib.hid hown
  have HC := Lib.hid hc
  clear hown hl hc
  go_enter Tryz.func149, Tryz.ntmps149
  go_wp2_with fail
  refine HI.out.mono ?_
  rintro y w2 ⟨hy, ho2⟩
  rcases hy with ⟨i, a, hi, hia, hpa, hne, rfl⟩ | ⟨hne, rfl⟩
  · have d0 : ((i : Int) == -1) = false := by rw [beq_eq_false_iff_ne]; omega
    have HST := Lib.hid (del_start (p := fun a => eqN a k) (row := (fun (n : Nat) => [Value.int .i64 (n : Int)])) hia hne hpa)
    have HO2 := Lib.hid ho2
    have HOWN2 := Lib.hid (HOWN.out.only ho2 (by simp))
    clear ho2 hia hpa hne HI
    go_wp2_with fail
    go_loopw [5, 6] (fun iv jv wr => ∃ (i j : Nat) (rs : List (List Value)), iv = .int .i64 i ∧ jv = .int .i64 j ∧ i < j ∧ j ≤ n ∧ Only [g] w wr ∧ OwnR 3 1 wr m (.slice (some ⟨g, 0, none⟩) n c) n rs ∧ DelAt (fun a => eqN a k) (fun (n : Nat) => [Value.int .i64 (n : Int)]) xs i j rs) (fun _ jv _ => n - (Go.RowKit.intOf jv).toNat)
    case atStart => exact ⟨i, i + 1, _, rfl, by go_num, by omega, by omega, HO2.out.mono (by simp), HOWN2.out, HST.out⟩
    case round =>
      obtain ⟨i, j, rs, rfl, rfl, hij, hj, ho, hrow, hst⟩ := hrel
      clear HST HO2 HOWN2
      by_cases hlt : j < n
      · have d1 : decide ((j : Int) < (n : Int)) = true := decide_eq_true (by omega)
        have hlt2 : j < xs.length := by rw [HL.out]; exact hlt
        obtain ⟨a, haj⟩ : ∃ a, xs[j]? = some a := ⟨_, List.getElem?_eq_getElem hlt2⟩
        have hrj := hst.get haj
        have hil : i < n := by omega
        have q0 := hrow.cellOf (i := j) (j := 0) hlt (by decide)
        have qi := hrow.cellOf (i := i) (j := 0) hil (by decide)
        rw [hrj] at q0
        simp only [Nat.mul_one, Nat.add_zero] at q0 qi
        have HPC := Lib.hid (fun wx (hx : Only [] wr wx) => drop1_any (w := wx) (cb := cb) a k ((ho.trans hx (by simp)).cell HC.out (by simpa using hcg)))
        have HST := Lib.hid (fun h => hst.keep haj h)
        have HSP := Lib.hid (fun h => hst.pass haj h)
        have HROW := Lib.hid hrow
        have HO := Lib.hid ho
        have hfz := hrow.frozenOf
        clear haj hrj hst hrow
        obtain ⟨pb, hpb⟩ : ∃ pb, eqN a k = pb := ⟨_, rfl⟩
        rw [hpb] at HPC
        have HPB := Lib.hid hpb
        clear hpb
        cases pb
        · obtain ⟨ui, hui⟩ : ∃ ui, wr.cell? ⟨g, i, none⟩ = some ui := by
            have hl5 := HROW.out.len
            have h6 : (rs.getD i []).length = 1 := by
              rw [List.getD_eq_getElem?_getD, List.getElem?_eq_getElem (by omega)]
              exact HROW.out.each _ (List.getElem_mem _)
            rw [qi, List.getElem?_eq_getElem (by omega)]
            exact ⟨_, rfl⟩
          clear qi
          go_wp2_with (go_at_call 150; refine (HPC.out _ (by first | exact Only.refl _ _ | exact (Only.refl [] wr).drew)).mono ?_; rintro y w3 ⟨rfl, ho3⟩; have HO3 := Lib.hid ho3; have qi3 := ho3.cell hui (by simp); have fi3 := (HROW.out.only ho3 (by simp)).frozenOf i; clear ho3)
          go_roundw
          case measure => simp [Go.RowKit.intOf]; omega
          case rel => exact ⟨i + 1, j + 1, _, by go_num, by go_num, by omega, by omega, (HO.out.trans HO3.out (by simp)).setCell (.inl (by simp)) _, (HROW.out.only HO3.out (by simp)).put1 hil _, HST.out HPB.out⟩
        · go_wp2_with (go_at_call 150; refine (HPC.out _ (by first | exact Only.refl _ _ | exact (Only.refl [] wr).drew)).mono ?_; rintro y w3 ⟨rfl, ho3⟩; have HO3 := Lib.hid ho3; clear ho3)
          go_roundw
          case measure => simp [Go.RowKit.intOf]; omega
          case rel => exact ⟨i, j + 1, rs, rfl, by go_num, by omega, by omega, HO.out.trans HO3.out (by simp), HROW.out.only HO3.out (by simp), HSP.out HPB.out⟩
      · obtain rfl : j = n := by omega
        have d1 : decide ((j : Int) < (j : Int)) = false := decide_eq_false (by omega)
        have hil : i < j := hij
        obtain ⟨w5, hrun, hown5, ho5⟩ := run_clear_row (P := Tryz.prog) (ty := 0) Tryz.underlying23 (fun w => zeroInt w) (size := 1) rfl (by decide) (by decide) hrow hil (c - i)
        rw [hst.done HL.out] at hown5
        have HO5 := Lib.hid (ho.trans ho5 (fun g hg => .inl hg))
        have HROW := Lib.hid hown5
        have hic : (c : Int) - (i : Int) = ((c - i : Nat) : Int) := by omega
        clear hst hrow ho5 hown5
        simp only [Nat.mul_one] at hrun
        go_wp2_with fail
        go_ret
        exact ⟨i, rfl, HROW.out, HO5.out⟩
  · have HO2 := Lib.hid ho2
    have HNE := Lib.hid hne
    clear ho2 hne
    go_wp2_with fail
    go_ret
    refine ⟨n, rfl, ?_, HO2.out.mono (by simp)⟩
    rw [List.filter_eq_self.2 (fun a ha => by rw [HNE.out a ha]; rfl)]
    exact HOWN.out.only HO2.out (by simp)
end Go.Proofs.YthgfmoogagldmaaGreat.Cache
namespace Go.Proofs.YthgfmoogagldmaaGreat.Cache
open Go.RowKit Go.Maps Go.Shelf
section
variable {w w' : World} {m bb ba : Nat} {x : XS} {S T : List Nat} {o : Option Value} {ns : List Nat}
theorem Buck.lt (h : Buck w m o ns) : ∀ k ∈ bOwn o, m ≤ k ∧ k < w.heap.size := by
  intro k hk
  rcases h with ⟨rfl, _⟩ | ⟨v, rfl, h⟩
  · cases hk
  · exact h.lt k hk
theorem Buck.map_ne {P : Program} {K : TypeId} {b n : Nat} {f : Lit → Option Value} (hv : VM P K w b n f) (h : Buck w m o ns) : b ∉ bOwn o := by
  rcases h with ⟨rfl, _⟩ | ⟨v, rfl, h⟩
  · simp [bOwn]
  · exact vm_row hv h
theorem keys64 {g : Lit → Option Value} {b n : Nat} (hv : VM Tryz.prog 180 w b n g) (hk : ∀ k, (g k).isSome = true → ∃ s, s < 64 ∧ k = sk s) : VM Tryz.prog 180 w b 64 g := by
  have := hv.tight lawU (ks := (List.range 64).map sk) (fun k hks => by
    obtain ⟨s, hs, rfl⟩ := hk k hks
    exact List.mem_map.2 ⟨s, List.mem_range.2 hs, rfl⟩)
  simpa using this
theorem upd_keys {g : Lit → Option Value} {s : Nat} {v : Option Value} (hs : s < 64) (hk : ∀ k, (g k).isSome = true → ∃ s, s < 64 ∧ k = sk s) : ∀ k, (upd g (sk s) v k).isSome = true → ∃ s, s < 64 ∧ k = sk s := by
  intro k h
  by_cases e : k = sk s
  · exact ⟨s, hs, e⟩
  · rw [upd_other _ _ e] at h
    exact hk k h
theorem pick_slot_mem {a : Nat × Ent} (ha : a ∈ x.es) : a.1 ∈ x.pick (inSlot (slotB a.2.1)) := by
  unfold XS.pick
  exact List.mem_map.2 ⟨a, List.mem_filter.2 ⟨ha, by unfold inSlot; exact decide_eq_true rfl⟩, rfl⟩
theorem eqN_filter (l : List Nat) (n : Nat) : l.filter (fun a => !eqN a n) = l.filter (fun a => decide (a ≠ n)) := by
  refine List.filter_congr fun a _ => ?_
  unfold eqN
  by_cases h : a = n <;> simp [h]
theorem pick_len (hx : IsX w T m bb ba x) (f : Ent → Bool) : (x.pick f).length ≤ 1000000 := by
  have h1 := hx.ok.len
  have h2 := hx.small
  have h3 : (x.pick f).length ≤ x.es.length := by unfold XS.pick; rw [List.length_map]; exact List.length_filter_le _ _
  omega
theorem IsX.drop_plan (hx : IsX w T m bb ba x) {a : Nat × Ent} (ha : a ∈ x.es) : ∃ f g gg n c, VM Tryz.prog 3 w ba x.nx f ∧ f (nk a.1) = some (entV a.2) ∧ VM Tryz.prog 180 w bb 64 g ∧ g (sk (slotB a.2.1)) = some (.slice (some ⟨gg, 0, none⟩) n c) ∧
    OwnR 3 1 w m (.slice (some ⟨gg, 0, none⟩) n c) n (oneI (x.pick (inSlot (slotB a.2.1)))) ∧ n ≤ 1000000 ∧ gg ≠ bb ∧ gg ≠ ba ∧ gg ∈ T ∧ gg < w.heap.size ∧
    ∀ w5 n', VM Tryz.prog 180 w5 bb 65 (upd g (sk (slotB a.2.1)) (some (.slice (some ⟨gg, 0, none⟩) n' c))) → VM Tryz.prog 3 w5 ba x.nx (upd f (nk a.1) none) →
      OwnR 3 1 w5 m (.slice (some ⟨gg, 0, none⟩) n' c) n' (oneI ((x.pick (inSlot (slotB a.2.1))).filter (fun k => !eqN k a.1))) → Only [gg, bb, ba] w w5 → IsX w5 T m bb ba (dropX x a.1) := by
  have hpl := pick_len hx (inSlot (slotB a.2.1))
  obtain ⟨h1, ⟨f, f1, f2, f3⟩, ⟨g, g1, g0, g2, g3, g4⟩, h4, h5, h6, h7, h8⟩ := hx
  have hs := slotB_lt a.2.1
  have hmem := pick_slot_mem ha
  generalize hsl : slotB a.2.1 = s at *
  have hb := g2 s hs
  rcases hb with ⟨_, he⟩ | ⟨v, hv, hown⟩
  · rw [he] at hmem; cases hmem
  · obtain ⟨A, c, rfl, hnc, hcm, hrd, hA⟩ := hown.shape (by decide)
    have hpos : 0 < (x.pick (inSlot s)).length := List.length_pos_of_mem hmem
    rcases hA with ⟨rfl, rfl⟩ | ⟨gg, rfl, hgm, hgl⟩
    · omega
    · have hggT : gg ∈ T := g4 s hs gg (by rw [hv]; simp [bOwn, ownL, Value.ownBlock])
      have hn1 : gg ≠ bb := fun e => by
        have := vm_row g1 hown
        exact this (by rw [e]; simp [ownL, Value.ownBlock])
      have hn2 : gg ≠ ba := fun e => by
        have := vm_row f1 hown
        exact this (by rw [e]; simp [ownL, Value.ownBlock])
      refine ⟨f, g, gg, _, c, f1, f3 a ha, g1, hv, hown, hpl, hn1, hn2, hggT, hgl, fun w5 n' k1 k2 k3 ho => ?_⟩
      have hsub : ∀ k ∈ [gg, bb, ba], k ∈ T := by
        intro k hk
        simp at hk
        rcases hk with rfl | rfl | rfl
        · exact hggT
        · exact h6.1
        · exact h6.2
      refine ⟨h1.drop a.1, ⟨_, k2, fun i hi hni => ?_, fun b hb => ?_⟩, ⟨_, keys64 k1 (upd_keys hs g0), upd_keys hs g0, fun t ht => ?_, fun t u ht hu htu k hk => ?_, fun t ht k hk => ?_⟩, h4, h5, h6, fun k hk => ⟨(h7 k hk).1, Nat.lt_of_lt_of_le (h7 k hk).2 ho.size⟩, fun b hb => h8 b (List.mem_filter.1 hb).1⟩
      · by_cases e : i = a.1
        · subst e; rw [upd_same]
        · rw [upd_other _ _ (fun h => e (nk_inj h))]
          exact f2 i hi (fun b hb hbi => hni b (List.mem_filter.2 ⟨hb, decide_eq_true (by rw [hbi]; exact e)⟩) hbi)
      · obtain ⟨hb1, hb2⟩ := List.mem_filter.1 hb
        have hb3 : b.1 ≠ a.1 := of_decide_eq_true hb2
        rw [upd_other _ _ (fun h => hb3 (nk_inj h))]
        exact f3 b hb1
      · by_cases e : t = s
        · subst e
          rw [upd_same, pick_drop, ← eqN_filter]
          refine .inr ⟨_, rfl, ?_⟩
          have hl := k3.len
          unfold oneI at hl
          rw [List.length_map] at hl
          rw [hl]
          exact k3
        · rw [upd_other _ _ (fun h => e (sk_inj h)), pick_drop_other h1 ha (by unfold inSlot; rw [hsl]; exact decide_eq_false (fun h => e h.symm))]
          refine (g2 t ht).only ho (fun k hk hm => ?_)
          simp at hm
          rcases hm with rfl | rfl | rfl
          · exact g3 t s ht hs e k hk (by rw [hv]; simp [bOwn, ownL, Value.ownBlock])
          · exact (g2 t ht).map_ne g1 hk
          · exact (g2 t ht).map_ne f1 hk
      · have hbo : ∀ t, t < 64 → bOwn (upd g (sk s) (some (.slice (some ⟨gg, 0, none⟩) n' c)) (sk t)) = bOwn (g (sk t)) := fun t ht => by
          by_cases e : t = s
          · subst e; rw [upd_same, hv]; rfl
          · rw [upd_other _ _ (fun h => e (sk_inj h))]
        rw [hbo t ht] at hk
        rw [hbo u hu]
        exact g3 t u ht hu htu k hk
      · by_cases e : t = s
        · subst e
          rw [upd_same] at hk
          simp [bOwn, ownL, Value.ownBlock] at hk
          rw [hk]
          exact hggT
        · rw [upd_other _ _ (fun h => e (sk_inj h))] at hk
          exact g4 t ht k hk
theorem IsX.push_plan (hx : IsX w T m bb ba x) (e : Ent) (hno : ∀ a ∈ x.es, a.2.1 ≠ e.1) (hlen : e.1.length ≤ 1000000) (hnx : x.nx < 1000000) (hm : m ≤ w.heap.size) : ∃ f g v n, VM Tryz.prog 3 w ba x.nx f ∧ VM Tryz.prog 180 w bb 64 g ∧ (g (sk (slotB e.1))).getD (.slice none 0 0) = v ∧
    OwnR 3 1 w m v n (oneI (x.pick (inSlot (slotB e.1)))) ∧ n ≤ 1000000 ∧ bb ∉ ownL v ∧ ba ∉ ownL v ∧ (∀ k ∈ ownL v, k ∈ T) ∧
    ∀ w5 v', VM Tryz.prog 180 w5 bb 65 (upd g (sk (slotB e.1)) (some v')) → VM Tryz.prog 3 w5 ba (x.nx + 1) (upd f (nk x.nx) (some (entV e))) →
      OwnR 3 1 w5 m v' (n + 1) (oneI (x.pick (inSlot (slotB e.1))) ++ [[.int .i64 (x.nx : Int)]]) → Only (bb :: ba :: ownL v) w w5 → FreshV w v v' → IsX w5 (T ++ ownL v') m bb ba (pushX x e) := by
  have hpl := pick_len hx (inSlot (slotB e.1))
  obtain ⟨h1, ⟨f, f1, f2, f3⟩, ⟨g, g1, g0, g2, g3, g4⟩, h4, h5, h6, h7, h8⟩ := hx
  have hs := slotB_lt e.1
  generalize hsl : slotB e.1 = s at *
  obtain ⟨v, hv, hown, hvo⟩ : ∃ v, (g (sk s)).getD (.slice none 0 0) = v ∧ OwnR 3 1 w m v (x.pick (inSlot s)).length (oneI (x.pick (inSlot s))) ∧ ownL v = bOwn (g (sk s)) := by
    rcases g2 s hs with ⟨hn, he⟩ | ⟨v, hv, hown⟩
    · rw [hn, he]
      exact ⟨_, rfl, OwnR.nil_ _ _ _ _, rfl⟩
    · rw [hv]
      exact ⟨v, rfl, hown, rfl⟩
  have hvT : ∀ k ∈ ownL v, k ∈ T := fun k hk => g4 s hs k (by rw [← hvo]; exact hk)
  refine ⟨f, g, v, _, f1, g1, hv, hown, hpl, vm_row g1 hown, vm_row f1 hown, hvT, fun w5 v' k1 k2 k3 ho hf => ?_⟩
  have hlt : ∀ a ∈ x.es, a.1 ≠ x.nx := fun a ha e => by have := h1.lt a ha; omega
  refine ⟨h1.push hno, ⟨_, k2, fun i hi hni => ?_, fun b hb => ?_⟩, ⟨_, keys64 k1 (upd_keys hs g0), upd_keys hs g0, fun t ht => ?_, fun t u ht hu htu k hk => ?_, fun t ht k hk => ?_⟩, by show x.nx + 1 ≤ 1000000; omega, h5, ⟨List.mem_append_left _ h6.1, List.mem_append_left _ h6.2⟩, fun k hk => ?_, fun b hb => ?_⟩
  · have e1 : i ≠ x.nx := fun e1 => hni (x.nx, e) (by simp [pushX]) e1.symm
    rw [upd_other _ _ (fun h => e1 (nk_inj h))]
    exact f2 i (by have : i < x.nx + 1 := hi; omega) (fun b hb hbi => hni b (by simp [pushX, hb]) hbi)
  · rcases List.mem_append.1 hb with hb | hb
    · rw [upd_other _ _ (fun h => hlt b hb (nk_inj h))]
      exact f3 b hb
    · rw [List.mem_singleton.1 hb, upd_same]
  · rw [pick_push]
    by_cases e1 : t = s
    · subst e1
      have hi : inSlot t e = true := by unfold inSlot; rw [hsl]; exact decide_eq_true rfl
      rw [upd_same, if_pos hi]
      refine .inr ⟨_, rfl, ?_⟩
      rw [List.length_append]
      unfold oneI at k3 ⊢
      rw [List.map_append]
      exact k3
    · have hi : ¬ inSlot t e = true := by unfold inSlot; rw [hsl]; simpa using fun h => e1 h.symm
      rw [upd_other _ _ (fun h => e1 (sk_inj h)), if_neg hi, List.append_nil]
      refine (g2 t ht).only ho (fun k hk hm => ?_)
      rcases List.mem_cons.1 hm with rfl | hm
      · exact (g2 t ht).map_ne g1 hk
      · rcases List.mem_cons.1 hm with rfl | hm
        · exact (g2 t ht).map_ne f1 hk
        · exact g3 t s ht hs e1 k hk (by rw [← hvo]; exact hm)
  · have hnew : ∀ t, t < 64 → t ≠ s → ∀ k ∈ bOwn (g (sk t)), k ∉ ownL v' := fun t ht hts k hk hm => by
      rcases hf k hm with h | h
      · exact g3 t s ht hs hts k hk (by rw [← hvo]; exact h)
      · have := ((g2 t ht).lt k hk).2; omega
    by_cases e1 : t = s
    · subst e1
      rw [upd_same] at hk
      rw [upd_other _ _ (fun h => htu (sk_inj h).symm)]
      exact fun hm => hnew u hu (fun h => htu h.symm) k hm hk
    · rw [upd_other _ _ (fun h => e1 (sk_inj h))] at hk
      by_cases e2 : u = s
      · subst e2
        rw [upd_same]
        exact hnew t ht e1 k hk
      · rw [upd_other _ _ (fun h => e2 (sk_inj h))]
        exact g3 t u ht hu htu k hk
  · by_cases e1 : t = s
    · subst e1
      rw [upd_same] at hk
      exact List.mem_append_right _ hk
    · rw [upd_other _ _ (fun h => e1 (sk_inj h))] at hk
      exact List.mem_append_left _ (g4 t ht k hk)
  · rcases List.mem_append.1 hk with hk | hk
    · exact ⟨(h7 k hk).1, Nat.lt_of_lt_of_le (h7 k hk).2 ho.size⟩
    · exact k3.lt k hk
  · rcases List.mem_append.1 hb with hb | hb
    · exact h8 b hb
    · rw [List.mem_singleton.1 hb]
      exact hlen
end
end Go.Proofs.YthgfmoogagldmaaGreat.Cache
