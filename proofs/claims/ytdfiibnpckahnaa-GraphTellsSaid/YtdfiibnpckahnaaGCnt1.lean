/- The counter in memory: what is left of each, by which each is imported, what waits. -/
import Derived.Test.YtdfiibnpckahnaaGH5
import Derived.Test.YtdfiibnpckahnaaGCmp
import Derived.Test.YtdfiibnpckahnaaVMap
namespace Go.Proofs.Ytdfiibnpckahnaa.Graph
open Go.RowKit Go.Shelf Go.Maps
set_option linter.unusedVariables false
set_option maxRecDepth 100000
theorem lawS : Keyed Try.prog 9 := string_keyed Try.underlying9
theorem zeroL (w : World) : (zeroValue 25).run Try.prog w = .ok (.slice none 0 0) w := by kernel_rfl
theorem zeroI (w : World) : (zeroValue 3).run Try.prog w = .ok (.int .i64 0) w := by kernel_rfl
theorem keyS {k : Path} (h : k.length ≤ maxLen) : keyOf Try.prog 9 (.string (str k)) = some (.string k) := Go.WideMaps.keyOf_string_mk Try.underlying9 (s := str k) h
def bOwn (o : Option Value) : List Nat := match o with
  | some v => ownL v
  | none => []
/-- what a key's slice holds -/
def Buk (w : World) (base : Nat) (o : Option Value) (ns : List Path) : Prop := (o = none ∧ ns = []) ∨ ∃ v, o = some v ∧ OwnR 9 1 w base v ns.length (svs ns)
/-- a map of paths' lists, on block bb; the lists on the blocks T -/
structure IsBy (w : World) (bb base n : Nat) (T : List Nat) (f : Path → List Path) : Prop where
  g : ∃ g, VM Try.prog 9 w bb n g ∧ (∀ p, Buk w base (g (.string p)) (f p)) ∧ (∀ p q, p ≠ q → ∀ k ∈ bOwn (g (.string p)), k ∉ bOwn (g (.string q))) ∧ ∀ p, ∀ k ∈ bOwn (g (.string p)), k ∈ T
  lo : ∀ k ∈ T, base ≤ k ∧ k < w.heap.size
  few : ∀ p, (f p).length ≤ 100000
section
variable {w w' : World} {bb base n : Nat} {T S : List Nat} {f : Path → List Path} {o : Option Value} {ns : List Path}
theorem Buk.only (h : Buk w base o ns) (ho : Only S w w') (hS : ∀ k ∈ bOwn o, k ∉ S) : Buk w' base o ns := by
  rcases h with h | ⟨v, rfl, h⟩
  · exact .inl h
  · exact .inr ⟨v, rfl, h.only ho hS⟩
theorem vm_heap {P : Program} {K : TypeId} {b n : Nat} {f : Lit → Option Value} (h : VM P K w b n f) : ∃ es cl, w.heap[b]? = some (.map es cl) := by
  obtain ⟨D, ⟨es, clock, hb, _⟩, _⟩ := h
  exact ⟨es, clock, hb⟩
theorem vm_row {P : Program} {K : TypeId} {b n e size n2 base : Nat} {f : Lit → Option Value} {v : Value} {rows : List (List Value)} (h : VM P K w b n f) (hr : OwnR e size w base v n2 rows) : b ∉ ownL v := by
  intro hb
  obtain ⟨es, cl, h1⟩ := vm_heap h
  obtain ⟨_, t, cs, h2⟩ := row_blks hr b hb
  unfold Blk at h2
  rw [h1] at h2
  cases h2
theorem vm_blk {P : Program} {K : TypeId} {b n g : Nat} {f : Lit → Option Value} {t : TypeId} {cs : Array Value} (h : VM P K w b n f) (hb : Blk w g t cs) : g ≠ b := by
  intro e
  obtain ⟨es, cl, h1⟩ := vm_heap h
  unfold Blk at hb
  rw [e, h1] at hb
  cases hb
theorem IsBy.only (h : IsBy w bb base n T f) (ho : Only S w w') (hb : bb ∉ S) (hS : ∀ k ∈ T, k ∉ S) : IsBy w' bb base n T f := by
  obtain ⟨⟨g, g1, g2, g3, g4⟩, h2, h3⟩ := h
  exact ⟨⟨g, g1.only ho hb, fun p => (g2 p).only ho (fun k hk => hS k (g4 p k hk)), g3, g4⟩, fun k hk => ⟨(h2 k hk).1, Nat.lt_of_lt_of_le (h2 k hk).2 ho.size⟩, h3⟩
theorem IsBy.only0 (h : IsBy w bb base n T f) (ho : Only [] w w') : IsBy w' bb base n T f := h.only ho (by simp) (by simp)
/-- a look at a key -/
theorem IsBy.at_ (h : IsBy w bb base n T f) (p : Path) : ∃ (g : Lit → Option Value) (v : Value), VM Try.prog 9 w bb n g ∧ (g (.string p)).getD (.slice none 0 0) = v ∧ OwnR 9 1 w base v (f p).length (svs (f p)) ∧ (∀ k ∈ ownL v, k ∈ T) ∧
    ∀ (w' : World) (v' : Value) (s : Path), VM Try.prog 9 w' bb (n + 1) (upd g (.string p) (some v')) → OwnR 9 1 w' base v' (f p ++ [s]).length (svs (f p ++ [s])) → Only (bb :: ownL v) w w' → FreshV w v v' → (f p).length < 100000 → bb ∉ T → IsBy w' bb base (n + 1) (T ++ ownL v') (fun q => if q = p then f p ++ [s] else f q) := by
  obtain ⟨⟨g, g1, g2, g3, g4⟩, h2, h3⟩ := h
  have hv : ∃ v, (g (.string p)).getD (.slice none 0 0) = v ∧ OwnR 9 1 w base v (f p).length (svs (f p)) ∧ ownL v = bOwn (g (.string p)) := by
    rcases g2 p with ⟨e1, e2⟩ | ⟨v, e1, e2⟩
    · rw [e1, e2]
      exact ⟨_, rfl, OwnR.nil_ _ _ _ _, rfl⟩
    · rw [e1]
      exact ⟨v, rfl, e2, rfl⟩
  obtain ⟨v, hv1, hv2, hv3⟩ := hv
  refine ⟨g, v, g1, hv1, hv2, fun k hk => g4 p k (by rw [← hv3]; exact hk), fun w' v' s m1 m2 m3 m4 m5 hbT => ?_⟩
  have hoth : ∀ q, q ≠ p → upd g (.string p) (some v') (.string q) = g (.string q) := fun q hq => upd_other _ _ (fun e => hq (by injection e))
  have hlt : ∀ q, ∀ k ∈ bOwn (g (.string q)), k < w.heap.size := fun q k hk => (h2 k (g4 q k hk)).2
  refine ⟨⟨_, m1, fun q => ?_, fun q r hqr k hk => ?_, fun q k hk => ?_⟩, fun k hk => ?_, fun q => ?_⟩
  · by_cases e : q = p
    · subst e
      rw [upd_same, if_pos rfl]
      exact .inr ⟨v', rfl, m2⟩
    · rw [hoth q e, if_neg e]
      refine (g2 q).only m3 (fun k hk hm => ?_)
      rcases List.mem_cons.1 hm with h | h
      · exact hbT (h ▸ g4 q k hk)
      · rw [hv3] at h
        exact g3 q p e k hk h
  · by_cases e : q = p
    · subst e
      rw [upd_same] at hk
      rw [hoth r (fun h => hqr h.symm)]
      rcases m4 k hk with h | h
      · rw [hv3] at h
        exact g3 q r hqr k h
      · exact fun hm => by have := hlt r k hm; omega
    · rw [hoth q e] at hk
      by_cases e2 : r = p
      · subst e2
        rw [upd_same]
        intro hm
        rcases m4 k hm with h | h
        · rw [hv3] at h
          exact g3 q r hqr k hk h
        · have := hlt q k hk; omega
      · rw [hoth r e2]
        exact g3 q r hqr k hk
  · by_cases e : q = p
    · subst e
      rw [upd_same] at hk
      exact List.mem_append_right _ hk
    · rw [hoth q e] at hk
      exact List.mem_append_left _ (g4 q k hk)
  · rcases List.mem_append.1 hk with hk | hk
    · exact ⟨(h2 k hk).1, Nat.lt_of_lt_of_le (h2 k hk).2 m3.size⟩
    · exact m2.lt k hk
  · by_cases e : q = p
    · simp only [if_pos e, List.length_append, List.length_singleton]; omega
    · simp only [if_neg e]; exact h3 q
theorem IsBy.made (w : World) : IsBy (w.alloc (.map #[] 0)) w.heap.size base 0 [] (fun _ => []) :=
  ⟨⟨_, VM.made w _ _, (fun p => .inl ⟨rfl, rfl⟩), (fun p q _ k hk => by cases hk), (fun p k hk => by cases hk)⟩, (fun k hk => by cases hk), (fun p => by simp)⟩
end
/-- a map of numbers by paths -/
def LM (F : Lit → Option Value) (f : Path → Option Nat) : Prop := ∀ p, F (.string p) = (f p).map fun (n : Nat) => Value.int .i64 (n : Int)
theorem LM.put {F : Lit → Option Value} {f : Path → Option Nat} (h : LM F f) (p : Path) (n : Nat) : LM (upd F (.string p) (some (.int .i64 (n : Int)))) (fun q => if q = p then some n else f q) := fun q => by
  by_cases e : q = p
  · subst e; rw [upd_same]; simp
  · rw [upd_other _ _ (fun x => e (by injection x))]; simp only [if_neg e]; exact h q
theorem LM.drop {F : Lit → Option Value} {f : Path → Option Nat} (h : LM F f) (p : Path) : LM (upd F (.string p) none) (fun q => if q = p then none else f q) := fun q => by
  by_cases e : q = p
  · subst e; rw [upd_same]; simp
  · rw [upd_other _ _ (fun x => e (by injection x))]; simp only [if_neg e]; exact h q
/-- a counter -/
structure CT (w : World) (c lb bb base nl nb : Nat) (v : Value) (T : List Nat) (f : Path → Option Nat) (by_ : Path → List Path) (hs : List Path) : Prop where
  hb : HB w c lb bb base v hs
  heap : HeapL hs hs.length
  left : ∃ F, VM Try.prog 9 w lb nl F ∧ LM F f
  by' : IsBy w bb base nb T by_
  ne : lb ≠ bb
  far : c ∉ T ∧ lb ∉ T ∧ bb ∉ T ∧ ∀ k ∈ ownL v, k ∉ T
  lo : base ≤ c ∧ base ≤ lb ∧ base ≤ bb ∧ base ≤ w.heap.size
section
variable {w w' : World} {c lb bb base nl nb : Nat} {v : Value} {T : List Nat} {f : Path → Option Nat} {by_ : Path → List Path} {hs : List Path}
theorem CT.only0 (h : CT w c lb bb base nl nb v T f by_ hs) (ho : Only [] w w') : CT w' c lb bb base nl nb v T f by_ hs := by
  obtain ⟨h1, h2, ⟨F, h3, h4⟩, h5, h6, h7, h8⟩ := h
  exact ⟨h1.only0 ho, h2, ⟨F, h3.only ho (by simp), h4⟩, h5.only0 ho, h6, h7, h8.1, h8.2.1, h8.2.2.1, Nat.le_trans h8.2.2.2 ho.size⟩
theorem CT.lt (h : CT w c lb bb base nl nb v T f by_ hs) : c < w.heap.size ∧ lb < w.heap.size ∧ bb < w.heap.size := by
  obtain ⟨F, h3, _⟩ := h.left
  obtain ⟨g, h5, _⟩ := h.by'.g
  exact ⟨h.hb.blk.lt, h3.lt, h5.lt⟩
/-- the count of a path is laid, or goes -/
theorem CT.left_ (h : CT w c lb bb base nl nb v T f by_ hs) : ∃ F, VM Try.prog 9 w lb nl F ∧ LM F f ∧ ∀ (w' : World) (F' : Lit → Option Value) (f' : Path → Option Nat) (nl' : Nat), VM Try.prog 9 w' lb nl' F' → LM F' f' → Only [lb] w w' → CT w' c lb bb base nl' nb v T f' by_ hs := by
  obtain ⟨h1, h2, ⟨F, h3, h4⟩, h5, h6, h7, h8⟩ := h
  refine ⟨F, h3, h4, fun w' F' f' nl' m1 m2 m3 => ?_⟩
  have hcl : c ≠ lb := vm_blk h3 h1.blk
  have hvl := vm_row h3 h1.own
  exact ⟨⟨h1.blk.only m3 (by simpa using hcl), h1.own.only m3 (fun k hk hm => hvl (by rw [← List.mem_singleton.1 hm]; exact hk)), h1.far, h1.small⟩, h2, ⟨F', m1, m2⟩, h5.only m3 (by simpa using fun e => h6 e.symm) (fun k hk hm => h7.2.1 (by rw [← List.mem_singleton.1 hm]; exact hk)), h6, h7, h8.1, h8.2.1, h8.2.2.1, Nat.le_trans h8.2.2.2 m3.size⟩
/-- the heap turns -/
theorem CT.heap_ (h : CT w c lb bb base nl nb v T f by_ hs) {v' : Value} {hs' : List Path} (h1 : HB w' c lb bb base v' hs') (h2 : HeapL hs' hs'.length) (hf : FreshV w v v') (ho : Only (c :: ownL v) w w') : CT w' c lb bb base nl nb v' T f by_ hs' := by
  obtain ⟨k1, k2, ⟨F, k3, k4⟩, k5, k6, k7, k8⟩ := h
  obtain ⟨g, g1, _⟩ := k5.g
  have hcl : c ≠ lb := vm_blk k3 k1.blk
  have hcb : c ≠ bb := vm_blk g1 k1.blk
  have hvl := vm_row k3 k1.own
  have hvb := vm_row g1 k1.own
  refine ⟨h1, h2, ⟨F, k3.only ho (by simp; exact ⟨fun e => hcl e.symm, hvl⟩), k4⟩, k5.only ho (by simp; exact ⟨fun e => hcb e.symm, hvb⟩) (fun k hk hm => ?_), k6, ⟨k7.1, k7.2.1, k7.2.2.1, fun k hk hm => ?_⟩, k8.1, k8.2.1, k8.2.2.1, Nat.le_trans k8.2.2.2 ho.size⟩
  · rcases List.mem_cons.1 hm with e | e
    · exact k7.1 (e ▸ hk)
    · exact k7.2.2.2 k e hk
  · rcases hf k hk with e | e
    · exact k7.2.2.2 k e hm
    · have := (k5.lo k hm).2; omega
end
end Go.Proofs.Ytdfiibnpckahnaa.Graph
