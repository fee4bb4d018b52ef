/- Lists that rise; what one comes to from a path. With no program in sight. -/
import Derived.Test.YtdfiibnpckahnaaGLaw2
import Derived.Test.YtdfiibnpckahnaaVRange
namespace Go.Proofs.Ytdfiibnpckahnaa.Graph
set_option linter.unusedVariables false
/-- what one comes to from s -/
def Rch (nx : Path → List Path) (s t : Path) : Prop := ∀ P : Path → Prop, (∀ u ∈ nx s, P u) → (∀ u v, P u → v ∈ nx u → P v) → P t
theorem Rch.one {nx : Path → List Path} {s t : Path} (h : t ∈ nx s) : Rch nx s t := fun P h1 _ => h1 t h
theorem Rch.next {nx : Path → List Path} {s t u : Path} (h : Rch nx s t) (hu : u ∈ nx t) : Rch nx s u := fun P h1 h2 => h2 t u (h P h1 h2) hu
theorem Rch.from_ {nx : Path → List Path} {s t u : Path} (h : t ∈ nx s) (hu : Rch nx t u) : Rch nx s u := hu (fun v => Rch nx s v) (fun v hv => (Rch.one h).next hv) (fun v z hv hz => hv.next hz)
/-- a text into a list that rises, once -/
def putL : List Path → Path → List Path
  | [], s => [s]
  | a :: t, s => if a < s then a :: putL t s else if a = s then a :: t else s :: a :: t
theorem mem_put : ∀ {l : List Path} {s x : Path}, x ∈ putL l s ↔ x = s ∨ x ∈ l
  | [], s, x => by simp [putL]
  | a :: t, s, x => by
    unfold putL
    split
    · rw [List.mem_cons, mem_put, List.mem_cons]
      constructor
      · rintro (h | h | h)
        · exact .inr (.inl h)
        · exact .inl h
        · exact .inr (.inr h)
      · rintro (h | h | h)
        · exact .inr (.inl h)
        · exact .inl h
        · exact .inr (.inr h)
    · split
      · rename_i h
        subst h
        simp
      · simp
theorem lt_of_ne_not {a s : Path} (h : ¬ a < s) (hn : ¬ a = s) : s < a := by
  rw [← List.not_le]
  exact fun h2 => hn (List.le_antisymm h2 (List.not_lt.1 h))
def Ris (l : List Path) : Prop := l.Pairwise (· < ·)
theorem Ris.put : ∀ {l : List Path} {s : Path}, Ris l → Ris (putL l s)
  | [], s, _ => by unfold putL Ris; simp
  | a :: t, s, h => by
    unfold Ris at h
    obtain ⟨h1, h2⟩ := List.pairwise_cons.1 h
    unfold putL
    split
    · rename_i hs
      refine List.pairwise_cons.2 ⟨fun x hx => ?_, Ris.put h2⟩
      rcases mem_put.1 hx with rfl | hx
      · exact hs
      · exact h1 x hx
    · rename_i hs
      split
      · exact h
      · rename_i hn
        have hlt := lt_of_ne_not hs hn
        refine List.pairwise_cons.2 ⟨fun x hx => ?_, h⟩
        rcases List.mem_cons.1 hx with rfl | hx
        · exact hlt
        · exact List.lt_trans hlt (h1 x hx)
theorem Ris.nodup {l : List Path} (h : Ris l) : l.Nodup := List.Pairwise.imp (fun hab e => by subst e; exact List.lt_irrefl _ hab) h
theorem Ris.leB {l : List Path} (h : Ris l) : l.Pairwise (fun a b => leB a b = true) := List.Pairwise.imp (fun hab => decide_eq_true (List.le_of_lt hab)) h
theorem Ris.keys {f : Lit → Option Value} {l ss : List Path} (h : Ris l) (hm : ∀ x, x ∈ l ↔ (f (.string x)).isSome = true) (hk : KeysL f ss) : ss = l := hk.uniq ⟨h.leB, h.nodup, hm⟩
theorem mem_puts : ∀ {xs out : List Path} {t : Path}, t ∈ xs.foldl putL out ↔ t ∈ out ∨ t ∈ xs
  | [], out, t => by simp
  | a :: xs, out, t => by
    rw [List.foldl_cons, mem_puts, mem_put, List.mem_cons]
    constructor
    · rintro ((h | h) | h)
      · exact .inr (.inl h)
      · exact .inl h
      · exact .inr (.inr h)
    · rintro (h | h | h)
      · exact .inl (.inr h)
      · exact .inl (.inl h)
      · exact .inr h
theorem Ris.puts : ∀ {xs out : List Path}, Ris out → Ris (xs.foldl putL out)
  | [], _, h => h
  | a :: xs, out, h => Ris.puts (xs := xs) (out := putL out a) h.put
/-- where a text goes -/
theorem putL_at : ∀ {l : List Path} {s : Path} {k : Nat}, (∀ i, i < k → ∃ a, l[i]? = some a ∧ a < s) → (∀ a, l[k]? = some a → ¬ a < s) → k ≤ l.length → putL l s = if l[k]? = some s then l else l.take k ++ [s] ++ l.drop k
  | [], s, k, _, _, hk => by
    have : k = 0 := by simpa using hk
    subst this
    rfl
  | a :: t, s, 0, _, h2, _ => by
    have := h2 a rfl
    unfold putL
    rw [if_neg this]
    by_cases e : a = s
    · subst e; simp
    · rw [if_neg e, if_neg (by simpa using e)]; rfl
  | a :: t, s, k + 1, h1, h2, hk => by
    obtain ⟨b, hb, hlt⟩ := h1 0 (by omega)
    injection hb with hb
    subst hb
    have ih := putL_at (l := t) (s := s) (k := k) (fun i hi => by have := h1 (i + 1) (by omega); simpa using this) (fun x hx => h2 x (by simpa using hx)) (by simp at hk; omega)
    unfold putL
    rw [if_pos hlt, ih]
    by_cases e : t[k]? = some s
    · rw [if_pos e, if_pos (by simpa using e)]
    · rw [if_neg e, if_neg (by simpa using e)]; simp
def iterN (f : List Path → List Path) : Nat → List Path → List Path
  | 0, o => o
  | n + 1, o => f (iterN f n o)
/-- a rising function of a measure that has a bound is at its end -/
theorem iter_closed {f : List Path → List Path} {C : List Path → Prop} {a : List Path → Nat} {I : List Path → Prop} {o : List Path} {B : Nat} (h0 : I o) (hI : ∀ x, I x → I (f x)) (hB : ∀ x, I x → a x ≤ B) (hle : ∀ x, I x → a x ≤ a (f x)) (hC : ∀ x, I x → C x → C (f x)) (heq : ∀ x, I x → a (f x) = a x → C (f x)) : C (iterN f (B + 1) o) ∧ I (iterN f (B + 1) o) := by
  have h : ∀ n, I (iterN f n o) ∧ (C (iterN f n o) ∨ n ≤ a (iterN f n o)) := by
    intro n
    induction n with
    | zero => exact ⟨h0, .inr (Nat.zero_le _)⟩
    | succ n ih =>
      obtain ⟨h1, h2⟩ := ih
      refine ⟨hI _ h1, ?_⟩
      rcases h2 with h2 | h2
      · exact .inl (hC _ h1 h2)
      · by_cases e : a (f (iterN f n o)) = a (iterN f n o)
        · exact .inl (heq _ h1 e)
        · right
          have := hle _ h1
          show n + 1 ≤ a (f (iterN f n o))
          omega
  obtain ⟨h1, h2⟩ := h (B + 1)
  refine ⟨?_, h1⟩
  rcases h2 with h2 | h2
  · exact h2
  · have := hB _ h1; omega
theorem countP_same {α : Type} {p q : α → Bool} : ∀ {l : List α}, (∀ x ∈ l, p x = true → q x = true) → l.countP q ≤ l.countP p → ∀ x ∈ l, q x = true → p x = true
  | [], _, _ => by simp
  | a :: l, h, hc => by
    have hm := List.countP_mono_left (l := l) (p := p) (q := q) (fun x hx => h x (List.mem_cons_of_mem _ hx))
    rw [List.countP_cons, List.countP_cons] at hc
    have ha := h a (List.mem_cons_self ..)
    intro x hx hq
    rcases List.mem_cons.1 hx with rfl | hx
    · by_cases e : p x = true
      · exact e
      · rw [if_pos hq, if_neg e] at hc; omega
    · refine countP_same (fun y hy => h y (List.mem_cons_of_mem _ hy)) ?_ x hx hq
      by_cases e : p a = true
      · rw [if_pos e, if_pos (ha e)] at hc; omega
      · rw [if_neg e] at hc; split at hc <;> omega
section
variable {l : List Nd} {path : Path} {out : List Path}
def nxU (l : List Nd) (s : Path) : List Path := (l.filter (fun x => decide (x.path = s))).flatMap (·.imps)
theorem mem_nxU {s t : Path} : t ∈ nxU l s ↔ ∃ x ∈ l, x.path = s ∧ t ∈ x.imps := by
  unfold nxU
  simp only [List.mem_flatMap, List.mem_filter, decide_eq_true_eq]
  constructor
  · rintro ⟨x, ⟨h1, h2⟩, h3⟩; exact ⟨x, h1, h2, h3⟩
  · rintro ⟨x, h1, h2, h3⟩; exact ⟨x, ⟨h1, h2⟩, h3⟩
def nxO (l : List Nd) (s : Path) : List Path := (l.filter (fun x => decide (s ∈ x.imps))).map (·.path)
theorem mem_nxO {s t : Path} : t ∈ nxO l s ↔ ∃ x ∈ l, s ∈ x.imps ∧ x.path = t := by
  unfold nxO
  simp only [List.mem_map, List.mem_filter, decide_eq_true_eq]
  constructor
  · rintro ⟨x, ⟨h1, h2⟩, h3⟩; exact ⟨x, h1, h2, h3⟩
  · rintro ⟨x, h1, h2, h3⟩; exact ⟨x, ⟨h1, h2⟩, h3⟩
def stepU (path : Path) (out : List Path) (x : Nd) : List Path := if x.path = path ∨ x.path ∈ out then x.imps.foldl putL out else out
def passU (l : List Nd) (path : Path) (out : List Path) : List Path := l.foldl (stepU path) out
theorem stepU_sub {x : Nd} : ∀ t ∈ out, t ∈ stepU path out x := by
  intro t ht
  unfold stepU
  split
  · exact mem_puts.2 (.inl ht)
  · exact ht
theorem passU_sub : ∀ {l : List Nd} {out : List Path}, ∀ t ∈ out, t ∈ passU l path out
  | [], _, _, h => h
  | x :: l, out, t, h => passU_sub (l := l) t (stepU_sub t h)
theorem passU_ris : ∀ {l : List Nd} {out : List Path}, Ris out → Ris (passU l path out)
  | [], _, h => h
  | x :: l, out, h => passU_ris (l := l) (by unfold stepU; split; exact h.puts; exact h)
theorem passU_inv (P : Path → Prop) : ∀ {l : List Nd} {out : List Path}, (∀ t ∈ out, P t) → (∀ x ∈ l, (x.path = path ∨ P x.path) → ∀ i ∈ x.imps, P i) → ∀ t ∈ passU l path out, P t
  | [], _, h, _ => h
  | x :: l, out, h, hx => passU_inv P (l := l) (out := stepU path out x) (by
      intro t ht
      unfold stepU at ht
      split at ht
      · rename_i hc
        rcases mem_puts.1 ht with h1 | h1
        · exact h t h1
        · exact hx x (List.mem_cons_self ..) (hc.imp id (h _)) t h1
      · exact h t ht) (fun y hy => hx y (List.mem_cons_of_mem _ hy))
theorem passU_all : ∀ {l : List Nd} {out : List Path}, ∀ x ∈ l, (x.path = path ∨ x.path ∈ out) → ∀ i ∈ x.imps, i ∈ passU l path out
  | [], _, _, h => by cases h
  | y :: l, out, x, h => by
    intro hc i hi
    rcases List.mem_cons.1 h with rfl | h
    · exact passU_sub (l := l) i (by unfold stepU; rw [if_pos hc]; exact mem_puts.2 (.inr hi))
    · exact passU_all (l := l) x h (hc.imp id (stepU_sub _)) i hi
def ClU (l : List Nd) (path : Path) (out : List Path) : Prop := ∀ x ∈ l, (x.path = path ∨ x.path ∈ out) → ∀ i ∈ x.imps, i ∈ out
/-- the document's answer -/
def underL (l : List Nd) (path : Path) : List Path := if path ∈ l.map (·.path) then iterN (passU l path) (l.length + 1) [] else []
theorem under_iter (l : List Nd) (path : Path) : ClU l path (iterN (passU l path) (l.length + 1) []) ∧ Ris (iterN (passU l path) (l.length + 1) []) := by
  refine iter_closed (C := ClU l path) (a := fun o => l.countP (fun x => decide (x.path = path ∨ x.path ∈ o))) (I := Ris) List.Pairwise.nil (fun x h => passU_ris h) (fun x _ => List.countP_le_length) (fun x _ => List.countP_mono_left (fun y _ hy => ?_)) (fun x _ hc => ?_) (fun x _ he => ?_)
  · have := of_decide_eq_true hy
    exact decide_eq_true (this.imp id (passU_sub _))
  · intro y hy h2 i hi
    have hs : ∀ t ∈ passU l path x, t ∈ x := passU_inv (fun t => t ∈ x) (fun t ht => ht) (fun z hz h3 j hj => hc z hz h3 j hj)
    exact passU_sub _ (hc y hy (h2.imp id (hs _)) i hi)
  · intro y hy h2 i hi
    have hs := countP_same (l := l) (p := fun y => decide (y.path = path ∨ y.path ∈ x)) (q := fun y => decide (y.path = path ∨ y.path ∈ passU l path x)) (fun z _ hz => decide_eq_true ((of_decide_eq_true hz).imp id (passU_sub _))) (Nat.le_of_eq he) y hy (decide_eq_true h2)
    exact passU_all y hy (of_decide_eq_true hs) i hi
theorem iterU_inv (P : Path → Prop) (h : ∀ x ∈ l, (x.path = path ∨ P x.path) → ∀ i ∈ x.imps, P i) : ∀ n, ∀ t ∈ iterN (passU l path) n [], P t
  | 0 => by simp [iterN]
  | n + 1 => passU_inv P (iterU_inv P h n) h
theorem under_mem (hp : path ∈ l.map (·.path)) (t : Path) : t ∈ underL l path ↔ Rch (nxU l) path t := by
  unfold underL
  rw [if_pos hp]
  constructor
  · refine fun ht => iterU_inv (Rch (nxU l) path) (fun x hx hc i hi => ?_) _ t ht
    rcases hc with rfl | hc
    · exact Rch.one (mem_nxU.2 ⟨x, hx, rfl, hi⟩)
    · exact hc.next (mem_nxU.2 ⟨x, hx, rfl, hi⟩)
  · intro h
    have hc := (under_iter l path).1
    refine h _ (fun u hu => ?_) (fun u v hu hv => ?_)
    · obtain ⟨x, hx, he, hi⟩ := mem_nxU.1 hu
      exact hc x hx (.inl he) u hi
    · obtain ⟨x, hx, rfl, hi⟩ := mem_nxU.1 hv
      exact hc x hx (.inr hu) v hi
theorem under_ris (l : List Nd) (path : Path) : Ris (underL l path) := by
  unfold underL
  split
  · exact (under_iter l path).2
  · exact List.Pairwise.nil
def oneO (path p : Path) (out : List Path) (i : Path) : List Path := if i = path ∨ i ∈ out then putL out p else out
def stepO (path : Path) (out : List Path) (x : Nd) : List Path := x.imps.foldl (oneO path x.path) out
def passO (l : List Nd) (path : Path) (out : List Path) : List Path := l.foldl (stepO path) out
theorem stepO_sub {p : Path} : ∀ {is out : List Path}, ∀ t ∈ out, t ∈ is.foldl (oneO path p) out
  | [], _, _, h => h
  | i :: is, out, t, h => stepO_sub (is := is) t (by unfold oneO; split; exact mem_put.2 (.inr h); exact h)
theorem passO_sub : ∀ {l : List Nd} {out : List Path}, ∀ t ∈ out, t ∈ passO l path out
  | [], _, _, h => h
  | x :: l, out, t, h => passO_sub (l := l) t (stepO_sub t h)
theorem stepO_ris {p : Path} : ∀ {is out : List Path}, Ris out → Ris (is.foldl (oneO path p) out)
  | [], _, h => h
  | i :: is, out, h => stepO_ris (is := is) (by unfold oneO; split; exact h.put; exact h)
theorem passO_ris : ∀ {l : List Nd} {out : List Path}, Ris out → Ris (passO l path out)
  | [], _, h => h
  | x :: l, out, h => passO_ris (l := l) (stepO_ris h)
theorem stepO_inv (P : Path → Prop) {p : Path} : ∀ {is out : List Path}, (∀ t ∈ out, P t) → (∀ i ∈ is, (i = path ∨ P i) → P p) → ∀ t ∈ is.foldl (oneO path p) out, P t
  | [], _, h, _ => h
  | i :: is, out, h, hx => stepO_inv P (is := is) (out := oneO path p out i) (by
      intro t ht
      unfold oneO at ht
      split at ht
      · rename_i hc
        rcases mem_put.1 ht with rfl | h1
        · exact hx i (List.mem_cons_self ..) (hc.imp id (h _))
        · exact h t h1
      · exact h t ht) (fun y hy => hx y (List.mem_cons_of_mem _ hy))
theorem passO_inv (P : Path → Prop) : ∀ {l : List Nd} {out : List Path}, (∀ t ∈ out, P t) → (∀ x ∈ l, ∀ i ∈ x.imps, (i = path ∨ P i) → P x.path) → ∀ t ∈ passO l path out, P t
  | [], _, h, _ => h
  | x :: l, out, h, hx => passO_inv P (l := l) (out := stepO path out x) (stepO_inv P h (fun i hi => hx x (List.mem_cons_self ..) i hi)) (fun y hy => hx y (List.mem_cons_of_mem _ hy))
theorem stepO_all {p : Path} : ∀ {is out : List Path}, ∀ i ∈ is, (i = path ∨ i ∈ out) → p ∈ is.foldl (oneO path p) out
  | [], _, _, h => by cases h
  | j :: is, out, i, h => by
    intro hc
    rcases List.mem_cons.1 h with rfl | h
    · exact stepO_sub (is := is) p (by unfold oneO; rw [if_pos hc]; exact mem_put.2 (.inl rfl))
    · exact stepO_all (is := is) i h (hc.imp id (fun hm => by unfold oneO; split; exact mem_put.2 (.inr hm); exact hm))
theorem passO_all : ∀ {l : List Nd} {out : List Path}, ∀ x ∈ l, ∀ i ∈ x.imps, (i = path ∨ i ∈ out) → x.path ∈ passO l path out
  | [], _, _, h => by cases h
  | y :: l, out, x, h => by
    intro i hi hc
    rcases List.mem_cons.1 h with rfl | h
    · exact passO_sub (l := l) _ (stepO_all i hi hc)
    · exact passO_all (l := l) x h i hi (hc.imp id (stepO_sub _))
def ClO (l : List Nd) (path : Path) (out : List Path) : Prop := ∀ x ∈ l, ∀ i ∈ x.imps, (i = path ∨ i ∈ out) → x.path ∈ out
def overL (l : List Nd) (path : Path) : List Path := if path ∈ l.map (·.path) then iterN (passO l path) (l.length + 1) [] else []
theorem over_iter (l : List Nd) (path : Path) : ClO l path (iterN (passO l path) (l.length + 1) []) ∧ Ris (iterN (passO l path) (l.length + 1) []) ∧ ∀ t ∈ iterN (passO l path) (l.length + 1) [], t ∈ l.map (·.path) := by
  refine iter_closed (C := ClO l path) (a := List.length) (I := fun o => Ris o ∧ ∀ t ∈ o, t ∈ l.map (·.path)) ⟨List.Pairwise.nil, by simp⟩ (fun x h => ⟨passO_ris h.1, passO_inv (fun t => t ∈ l.map (·.path)) h.2 (fun y hy i _ _ => List.mem_map.2 ⟨y, hy, rfl⟩)⟩) (fun x h => ?_) (fun x h => nodup_le h.1.nodup passO_sub) (fun x h hc => ?_) (fun x h he => ?_)
  · have := nodup_le h.1.nodup h.2
    rwa [List.length_map] at this
  · intro y hy i hi h2
    have hs : ∀ t ∈ passO l path x, t ∈ x := passO_inv (fun t => t ∈ x) (fun t ht => ht) (fun z hz j hj h3 => hc z hz j hj h3)
    exact passO_sub _ (hc y hy i hi (h2.imp id (hs _)))
  · intro y hy i hi h2
    have hs := nodup_all h.1.nodup passO_sub (Nat.le_of_eq he) (passO_ris (l := l) (path := path) h.1).nodup
    exact passO_all y hy i hi (h2.imp id (hs _))
theorem iterO_inv (P : Path → Prop) (h : ∀ x ∈ l, ∀ i ∈ x.imps, (i = path ∨ P i) → P x.path) : ∀ n, ∀ t ∈ iterN (passO l path) n [], P t
  | 0 => by simp [iterN]
  | n + 1 => passO_inv P (iterO_inv P h n) h
theorem over_mem (hp : path ∈ l.map (·.path)) (t : Path) : t ∈ overL l path ↔ Rch (nxO l) path t := by
  unfold overL
  rw [if_pos hp]
  constructor
  · refine fun ht => iterO_inv (Rch (nxO l) path) (fun x hx i hi hc => ?_) _ t ht
    rcases hc with rfl | hc
    · exact Rch.one (mem_nxO.2 ⟨x, hx, hi, rfl⟩)
    · exact hc.next (mem_nxO.2 ⟨x, hx, hi, rfl⟩)
  · intro h
    have hc := (over_iter l path).1
    refine h _ (fun u hu => ?_) (fun u v hu hv => ?_)
    · obtain ⟨x, hx, hi, rfl⟩ := mem_nxO.1 hu
      exact hc x hx path hi (.inl rfl)
    · obtain ⟨x, hx, hi, rfl⟩ := mem_nxO.1 hv
      exact hc x hx u hi (.inr hu)
theorem over_ris (l : List Nd) (path : Path) : Ris (overL l path) := by
  unfold overL
  split
  · exact (over_iter l path).2.1
  · exact List.Pairwise.nil
/-- what one never comes to -/
def cycL (l : List Nd) : List Path := if (orderL l).2 = 8 then ((l.filter (fun x => decide (x.path ∉ taken l))).map (·.path)).foldl putL [] else []
theorem cyc_ris (l : List Nd) : Ris (cycL l) := by
  unfold cycL
  split
  · exact Ris.puts List.Pairwise.nil
  · exact List.Pairwise.nil
theorem cyc_mem (h : (orderL l).2 = 8) (t : Path) : t ∈ cycL l ↔ t ∈ l.map (·.path) ∧ t ∉ taken l := by
  unfold cycL
  rw [if_pos h, mem_puts]
  simp only [List.not_mem_nil, false_or, List.mem_map, List.mem_filter, decide_eq_true_eq]
  constructor
  · rintro ⟨x, ⟨h1, h2⟩, rfl⟩; exact ⟨⟨x, h1, rfl⟩, h2⟩
  · rintro ⟨⟨x, h1, rfl⟩, h2⟩; exact ⟨x, ⟨h1, h2⟩, rfl⟩
end
end Go.Proofs.Ytdfiibnpckahnaa.Graph
