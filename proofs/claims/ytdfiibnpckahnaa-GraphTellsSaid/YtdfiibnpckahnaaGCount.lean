/- Counting what is not taken yet: how the program's take comes to the same. No program in sight. -/
import Derived.Test.YtdfiibnpckahnaaGLaw1
namespace Go.Proofs.Ytdfiibnpckahnaa.Graph
set_option linter.unusedVariables false
/-- a node's imports, each once -/
structure Own (x : Nd) (o : List Path) : Prop where
  nd : o.Nodup
  mem : ∀ i, i ∈ o ↔ i ∈ x.imps
/-- how many of some are not taken -/
def leftC (o out : List Path) : Nat := (o.filter (fun i => decide (i ∉ out))).length
theorem leftC_zero {x : Nd} {o out : List Path} (h : Own x o) : leftC o out = 0 ↔ ∀ i ∈ x.imps, i ∈ out := by
  unfold leftC
  rw [List.length_eq_zero_iff, List.filter_eq_nil_iff]
  constructor
  · intro hh i hi
    have := hh i ((h.mem i).2 hi)
    simpa using this
  · intro hh i hi
    have := hh i ((h.mem i).1 hi)
    simpa using this
theorem leftC_nil (o : List Path) : leftC o [] = o.length := by
  unfold leftC
  rw [List.filter_eq_self.2]
  intro i _
  simp
theorem leftC_in {o out : List Path} {s : Path} (hn : o.Nodup) (hs : s ∈ o) (ho : s ∉ out) : leftC o out = leftC o (out ++ [s]) + 1 := by
  unfold leftC
  induction o with
  | nil => cases hs
  | cons a t ih =>
    rw [List.nodup_cons] at hn
    rcases List.mem_cons.1 hs with rfl | hs
    · rw [List.filter_cons_of_pos (by simpa using ho), List.filter_cons_of_neg (by simp)]
      rw [List.length_cons]
      congr 2
      refine List.filter_congr fun i hi => ?_
      have : i ≠ s := fun e => hn.1 (by rw [← e]; exact hi)
      simp [this]
    · have hne : a ≠ s := fun e => hn.1 (by rw [e]; exact hs)
      by_cases ha : a ∈ out
      · rw [List.filter_cons_of_neg (by simpa using ha), List.filter_cons_of_neg (by simp [ha])]
        exact ih hn.2 hs
      · rw [List.filter_cons_of_pos (by simpa using ha), List.filter_cons_of_pos (by simp [ha, hne])]
        rw [List.length_cons, List.length_cons, ih hn.2 hs]
theorem leftC_out {o out : List Path} {s : Path} (hs : s ∉ o) : leftC o (out ++ [s]) = leftC o out := by
  unfold leftC
  congr 1
  refine List.filter_congr fun i hi => ?_
  have : i ≠ s := fun e => hs (by rw [← e]; exact hi)
  simp [this]
/-- nodes, with their imports each once -/
structure Owns (l : List Nd) (own : Nd → List Path) : Prop where
  own : ∀ x ∈ l, Own x (own x)
  nd : (l.map (·.path)).Nodup
/-- by which nodes a path is imported -/
def byL (l : List Nd) (own : Nd → List Path) (s : Path) : List Path := (l.filter (fun x => decide (s ∈ own x))).map (·.path)
/-- what is counted of a path, behind out, when of those that import s the first ones (bs) are counted down already -/
def lf (l : List Nd) (own : Nd → List Path) (out : List Path) (s : Option Path) (bs : List Path) (p : Path) : Option Nat :=
  if p ∈ out ∨ s = some p then none else (l.find? (fun x => decide (x.path = p))).map fun x => match s with
    | none => leftC (own x) out
    | some s => if p ∈ bs then leftC (own x) (out ++ [s]) else leftC (own x) out
section
variable {l : List Nd} {own : Nd → List Path} {out bs : List Path} {s p : Path} {x : Nd}
theorem find_node (h : (l.map (·.path)).Nodup) (hx : x ∈ l) : l.find? (fun y => decide (y.path = x.path)) = some x := by
  induction l with
  | nil => cases hx
  | cons a t ih =>
    rw [List.map_cons, List.nodup_cons] at h
    rcases List.mem_cons.1 hx with rfl | hx
    · rw [List.find?_cons_of_pos (by simp)]
    · rw [List.find?_cons_of_neg, ih h.2 hx]
      have : a.path ≠ x.path := fun e => h.1 (by rw [e]; exact List.mem_map.2 ⟨x, hx, rfl⟩)
      simpa using this
theorem uniq_node (h : (l.map (·.path)).Nodup) {y : Nd} (hx : x ∈ l) (hy : y ∈ l) (e : x.path = y.path) : x = y := by
  have h1 := find_node h hx
  have h2 := find_node h hy
  rw [e, h2] at h1
  injection h1 with h1
  exact h1.symm
theorem lf_node (h : (l.map (·.path)).Nodup) (hx : x ∈ l) (ho : x.path ∉ out) : lf l own out none bs x.path = some (leftC (own x) out) := by
  unfold lf
  rw [if_neg (by simp [ho]), find_node h hx]
  rfl
theorem lf_node_in (h : (l.map (·.path)).Nodup) (hx : x ∈ l) (ho : x.path ∉ out) (hs : x.path ≠ s) : lf l own out (some s) bs x.path = some (if x.path ∈ bs then leftC (own x) (out ++ [s]) else leftC (own x) out) := by
  unfold lf
  rw [if_neg (by simp [ho]; exact fun e => hs e.symm), find_node h hx]
  rfl
/-- s is taken: the count begins -/
theorem lf_begin : lf l own out (some s) [] p = if p = s then none else lf l own out none [] p := by
  unfold lf
  by_cases h1 : p = s
  · subst h1
    rw [if_pos (.inr rfl), if_pos rfl]
  · rw [if_neg h1]
    by_cases h2 : p ∈ out
    · rw [if_pos (.inl h2), if_pos (.inl h2)]
    · rw [if_neg (by simp [h2]; exact fun e => h1 e.symm), if_neg (by simp [h2])]
      simp
/-- all that import s are counted down -/
theorem lf_end (hO : Owns l own) : lf l own out (some s) (byL l own s) p = lf l own (out ++ [s]) none [] p := by
  unfold lf
  by_cases h1 : p = s
  · subst h1
    rw [if_pos (.inr rfl), if_pos (.inl (by simp))]
  · by_cases h2 : p ∈ out
    · rw [if_pos (.inl h2), if_pos (.inl (by simp [h2]))]
    · rw [if_neg (by simp [h2]; exact fun e => h1 e.symm), if_neg (by simp [h2, h1])]
      cases hf : l.find? (fun x => decide (x.path = p)) with
      | none => rfl
      | some x =>
        have hx := List.mem_of_find?_eq_some hf
        have he : x.path = p := by have := List.find?_some hf; exact of_decide_eq_true this
        simp only [Option.map_some]
        congr 1
        by_cases hb : p ∈ byL l own s
        · rw [if_pos hb]
        · rw [if_neg hb, leftC_out]
          intro hs
          refine hb (List.mem_map.2 ⟨x, List.mem_filter.2 ⟨hx, decide_eq_true hs⟩, he⟩)
/-- what may be taken, is ready: the least of it is the next one -/
structure Wt (l : List Nd) (hs out : List Path) : Prop where
  nd : hs.Nodup
  mem : ∀ p, p ∈ hs ↔ ∃ x ∈ l, x.path = p ∧ may out x = true
theorem Wt.next {hs : List Path} (h : Wt l hs out) : nextP l out = least hs := by
  refine least_set fun p => ?_
  rw [h.mem]
  simp only [List.mem_map, List.mem_filter]
  constructor
  · rintro ⟨x, ⟨h1, h2⟩, h3⟩; exact ⟨x, h1, h3, h2⟩
  · rintro ⟨x, h1, h3, h2⟩; exact ⟨x, ⟨h1, h2⟩, h3⟩
/-- what is ready while those that import s are counted down -/
structure WtI (l : List Nd) (own : Nd → List Path) (hs out : List Path) (s : Path) (bs : List Path) : Prop where
  nd : hs.Nodup
  mem : ∀ p, p ∈ hs ↔ p ≠ s ∧ ∃ x ∈ l, x.path = p ∧ (may out x = true ∨ (p ∉ out ∧ p ∈ bs ∧ leftC (own x) (out ++ [s]) = 0))
theorem Wt.pop {hs hs' : List Path} (h : Wt l hs out) (hp : hs.Perm (s :: hs')) : WtI l own hs' out s [] := by
  have hn := (hp.nodup_iff).1 h.nd
  rw [List.nodup_cons] at hn
  refine ⟨hn.2, fun p => ?_⟩
  have hm : p ∈ hs ↔ p = s ∨ p ∈ hs' := by rw [hp.mem_iff, List.mem_cons]
  rw [h.mem] at hm
  constructor
  · intro hh
    refine ⟨fun e => hn.1 (by rw [← e]; exact hh), ?_⟩
    obtain ⟨x, h1, h2, h3⟩ := hm.2 (.inr hh)
    exact ⟨x, h1, h2, .inl h3⟩
  · rintro ⟨hne, x, h1, h2, h3 | h3⟩
    · exact (hm.1 ⟨x, h1, h2, h3⟩).resolve_left hne
    · exact absurd h3.2.1 (by simp)
/-- a node that imports s is counted down: it is ready now, or it isn't -/
theorem WtI.step {hs hs' : List Path} (hO : Owns l own) (h : WtI l own hs out s bs) (hx : x ∈ l) (hxs : s ∈ own x) (hso : s ∉ out) (hxo : x.path ∉ out) (hxn : x.path ≠ s) (hb : x.path ∉ bs)
    (h0 : leftC (own x) (out ++ [s]) = 0 → hs'.Perm (x.path :: hs)) (h1 : leftC (own x) (out ++ [s]) ≠ 0 → hs' = hs) : WtI l own hs' out s (bs ++ [x.path]) := by
  have hnot : x.path ∉ hs := fun hm => by
    obtain ⟨_, y, hy, e, h2 | h2⟩ := (h.mem _).1 hm
    · rw [uniq_node hO.nd hy hx e] at h2
      exact hso ((may_iff.1 h2).2 s (((hO.own x hx).mem s).1 hxs))
    · exact hb h2.2.1
  have hset : ∀ p, p ∈ hs' ↔ p ∈ hs ∨ (p = x.path ∧ leftC (own x) (out ++ [s]) = 0) := fun p => by
    by_cases e : leftC (own x) (out ++ [s]) = 0
    · rw [(h0 e).mem_iff, List.mem_cons]
      simp [e, or_comm]
    · rw [h1 e]
      simp [e]
  refine ⟨?_, fun p => ?_⟩
  · by_cases e : leftC (own x) (out ++ [s]) = 0
    · rw [(h0 e).nodup_iff, List.nodup_cons]
      exact ⟨hnot, h.nd⟩
    · rw [h1 e]; exact h.nd
  · rw [hset, h.mem]
    constructor
    · rintro (⟨h2, y, hy, e, h3⟩ | ⟨rfl, h3⟩)
      · exact ⟨h2, y, hy, e, h3.imp id (fun h4 => ⟨h4.1, by simp [h4.2.1], h4.2.2⟩)⟩
      · exact ⟨hxn, x, hx, rfl, .inr ⟨hxo, by simp, h3⟩⟩
    · rintro ⟨h2, y, hy, rfl, h3 | ⟨h3, h4, h5⟩⟩
      · exact .inl ⟨h2, y, hy, rfl, .inl h3⟩
      · rcases List.mem_append.1 h4 with h4 | h4
        · exact .inl ⟨h2, y, hy, rfl, .inr ⟨h3, h4, h5⟩⟩
        · have e := List.mem_singleton.1 h4
          have := uniq_node hO.nd hy hx e
          subst this
          exact .inr ⟨rfl, h5⟩
theorem WtI.done {hs : List Path} (hO : Owns l own) (hso : s ∉ out) (h : WtI l own hs out s (byL l own s)) : Wt l hs (out ++ [s]) := by
  refine ⟨h.nd, fun p => ?_⟩
  rw [h.mem]
  constructor
  · rintro ⟨h2, y, hy, rfl, h3 | ⟨h3, h4, h5⟩⟩
    · obtain ⟨a, b⟩ := may_iff.1 h3
      exact ⟨y, hy, rfl, may_iff.2 ⟨by simp [a, h2], fun i hi => by simp [b i hi]⟩⟩
    · exact ⟨y, hy, rfl, may_iff.2 ⟨by simp [h3, h2], (leftC_zero (hO.own y hy)).1 h5⟩⟩
  · rintro ⟨y, hy, rfl, h3⟩
    obtain ⟨a, b⟩ := may_iff.1 h3
    have a1 : y.path ∉ out := fun h => a (by simp [h])
    have a2 : y.path ≠ s := fun e => a (by simp [e])
    refine ⟨a2, y, hy, rfl, ?_⟩
    by_cases hs' : s ∈ own y
    · exact .inr ⟨a1, List.mem_map.2 ⟨y, List.mem_filter.2 ⟨hy, decide_eq_true hs'⟩, rfl⟩, (leftC_zero (hO.own y hy)).2 b⟩
    · refine .inl (may_iff.2 ⟨a1, fun i hi => ?_⟩)
      have := b i hi
      rcases List.mem_append.1 this with h | h
      · exact h
      · rw [List.mem_singleton.1 h] at hi
        exact absurd (((hO.own y hy).mem s).2 hi) hs'
theorem Wt.start (hO : Owns l own) {hs : List Path} (hp : hs.Perm ((l.filter (fun x => (own x).isEmpty)).map (·.path))) : Wt l hs [] := by
  refine ⟨(hp.nodup_iff).2 (hO.nd.sublist (List.filter_sublist.map _)), fun p => ?_⟩
  rw [hp.mem_iff]
  simp only [List.mem_map, List.mem_filter, List.isEmpty_iff]
  constructor
  · rintro ⟨x, ⟨hx, he⟩, rfl⟩
    exact ⟨x, hx, rfl, may_iff.2 ⟨by simp, fun i hi => by have := ((hO.own x hx).mem i).2 hi; rw [he] at this; cases this⟩⟩
  · rintro ⟨x, hx, rfl, hm⟩
    refine ⟨x, ⟨hx, ?_⟩, rfl⟩
    cases ho : own x with
    | nil => rfl
    | cons a t => exact absurd ((may_iff.1 hm).2 a (((hO.own x hx).mem a).1 (by rw [ho]; simp))) (by simp)
end
end Go.Proofs.Ytdfiibnpckahnaa.Graph
