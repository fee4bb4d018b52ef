/- ReachA: What an instruction can come to, with no memory in sight; Starts, what they call, and what is reached, with no memory in sight; How deep calls go, with no memory in sight. -/
import Derived.Test.YtkdacemachejoaaMacA
import Derived.Test.YtkdacemachejoaaMaps
namespace Go.Proofs.Ytkdacemachejoaa.Vm
open Go.RowKit Go.Shelf Object
set_option linter.unusedVariables false
theorem exists_least {P : Nat → Prop} (h : ∃ k, P k) : ∃ k, P k ∧ ∀ j, P j → k ≤ j := by
  obtain ⟨k, hk⟩ := h
  induction k using Nat.strongRecOn with
  | ind k ih =>
    by_cases hx : ∃ j, j < k ∧ P j
    · obtain ⟨j, hj, hp⟩ := hx
      exact ih j hj hp
    · exact ⟨k, hk, fun j hj => by
        rcases Nat.lt_or_ge j k with h1 | h1
        · exact absurd ⟨j, h1, hj⟩ hx
        · exact h1⟩
open Classical in
/-- the least number that P holds of -/
noncomputable def leastM (P : Nat → Prop) : Nat := if h : ∃ k, P k then Classical.choose (exists_least h) else 0
theorem leastM_spec {P : Nat → Prop} (h : ∃ k, P k) : P (leastM P) := by
  unfold leastM
  rw [dif_pos h]
  exact (Classical.choose_spec (exists_least h)).1
theorem leastM_le {P : Nat → Prop} {k : Nat} (h : P k) : leastM P ≤ k := by
  unfold leastM
  rw [dif_pos ⟨k, h⟩]
  exact (Classical.choose_spec (exists_least ⟨k, h⟩)).2 k h
/-- where one leads on, in the program's order -/
def leadsZ (c : Cd) (i : Nat) : List Int := (if c.op = 16 ∨ c.op = 17 then [c.n] else []) ++ (if c.op ≠ 16 ∧ c.op ≠ 19 ∧ c.op ≠ 21 then [(i : Int) + 1] else [])
def leadsN (c : Cd) (i : Nat) : List Nat := (leadsZ c i).map Int.toNat
def Lead (cs : List Cd) (i j : Nat) : Prop := ∃ c, cs[i]? = some c ∧ leads c i j
theorem mem_leadsN {c : Cd} {i j : Nat} : j ∈ leadsN c i ↔ leads c i j := by
  unfold leadsN leadsZ leads
  by_cases h1 : c.op = 16 ∨ c.op = 17 <;> by_cases h2 : c.op ≠ 16 ∧ c.op ≠ 19 ∧ c.op ≠ 21
  · rw [if_pos h1, if_pos h2]
    have e : ((i : Int) + 1).toNat = i + 1 := by omega
    simp only [List.cons_append, List.nil_append, List.map_cons, List.map_nil, List.mem_cons, List.not_mem_nil, or_false, e]
    exact ⟨fun h => h.elim (fun h => .inl ⟨h, h1⟩) (fun h => .inr ⟨h, h2⟩), fun h => h.elim (fun h => .inl h.1) (fun h => .inr h.1)⟩
  · rw [if_pos h1, if_neg h2]
    simp only [List.append_nil, List.map_cons, List.map_nil, List.mem_singleton]
    exact ⟨fun h => .inl ⟨h, h1⟩, fun h => h.elim (fun h => h.1) (fun h => absurd h.2 h2)⟩
  · rw [if_neg h1, if_pos h2]
    have e : ((i : Int) + 1).toNat = i + 1 := by omega
    simp only [List.nil_append, List.map_cons, List.map_nil, List.mem_singleton, e]
    exact ⟨fun h => .inr ⟨h, h2⟩, fun h => h.elim (fun h => absurd h.2 h1) (fun h => h.1)⟩
  · rw [if_neg h1, if_neg h2]
    simp only [List.append_nil, List.map_nil, List.not_mem_nil, false_iff]
    rintro (h | h)
    · exact h1 h.2
    · exact h2 h.2
theorem leadsZ_len (c : Cd) (i : Nat) : (leadsZ c i).length ≤ 2 := by
  unfold leadsZ
  rw [List.length_append]
  split <;> split <;> simp
/-- a part: what is come to from an instruction, calls not followed -/
inductive Rp (cs : List Cd) (f : Nat) : Nat → Prop
  | zero : Rp cs f f
  | on {i j : Nat} : Rp cs f i → Lead cs i j → Rp cs f j
section
variable {cs : List Cd} {f : Nat} {D W : List Nat} {i : Nat} {c : Cd}
theorem lead_lt (h : vmRight cs = true) {i j : Nat} (hl : Lead cs i j) : j < cs.length := by
  obtain ⟨c, hc, hl⟩ := hl
  rcases hl with ⟨rfl, ho⟩ | ⟨rfl, h16, h19, h21⟩
  · obtain ⟨k, hk, hk2⟩ := right_n h hc (by rcases ho with h | h <;> simp [h])
    rw [hk]
    simpa using hk2
  · have hi := (List.getElem?_eq_some_iff.1 hc).1
    rcases Nat.lt_or_ge (i + 1) cs.length with h1 | h1
    · exact h1
    · have hl := last_at cs (i + 1) c (by omega) (by simpa using hc)
      have h2 := (right_len h).2.2.1
      rw [hl] at h2
      simp only [List.mem_cons, List.not_mem_nil, or_false] at h2
      omega
theorem leadsZ_nat (h : vmRight cs = true) (hc : cs[i]? = some c) : leadsZ c i = (leadsN c i).map (fun n : Nat => (n : Int)) := by
  unfold leadsN
  rw [List.map_map]
  refine (List.map_congr_left (g := id) (fun z hz => ?_)).symm ▸ (List.map_id _).symm
  show ((z.toNat : Nat) : Int) = z
  have h0 : 0 ≤ z := by
    unfold leadsZ at hz
    rcases List.mem_append.1 hz with hz | hz
    · split at hz
      · rename_i ho
        rw [List.mem_singleton.1 hz]
        obtain ⟨k, hk, _⟩ := right_n h hc (by rcases ho with h | h <;> simp [h])
        omega
      · cases hz
    · split at hz
      · rw [List.mem_singleton.1 hz]; omega
      · cases hz
  omega
theorem rp_lt (h : vmRight cs = true) (hf : f < cs.length) {j : Nat} (hj : Rp cs f j) : j < cs.length := by
  induction hj with
  | zero => exact hf
  | on _ hl _ => exact lead_lt h hl
/-- the worklist: what was seen, what waits -/
structure PInv (cs : List Cd) (f : Nat) (D W : List Nat) : Prop where
  nd : D.Nodup
  seen : ∀ j ∈ D, Rp cs f j
  wait : ∀ j ∈ W, Rp cs f j
  start : f ∈ D ∨ f ∈ W
  closed : ∀ i ∈ D, ∀ j, Lead cs i j → j ∈ D ∨ j ∈ W
  few : W.length ≤ D.length + 1
theorem pinv_start : PInv cs f [] [f] := ⟨List.nodup_nil, by simp, fun j hj => by rw [List.mem_singleton.1 hj]; exact .zero, .inr (by simp), by simp, by simp⟩
theorem pinv_done (h : PInv cs f D []) (j : Nat) : Rp cs f j ↔ j ∈ D := by
  constructor
  · intro hj
    induction hj with
    | zero => rcases h.start with h | h; exact h; cases h
    | on _ hl ih => rcases h.closed _ ih _ hl with h | h; exact h; cases h
  · exact h.seen j
theorem pinv_seen (h : PInv cs f D (W ++ [i])) (hi : i ∈ D) : PInv cs f D W := by
  have key : ∀ j, j ∈ D ∨ j ∈ W ++ [i] → j ∈ D ∨ j ∈ W := fun j hj => by
    rcases hj with hj | hj
    · exact .inl hj
    · rcases List.mem_append.1 hj with hj | hj
      · exact .inr hj
      · rw [List.mem_singleton.1 hj]; exact .inl hi
  exact ⟨h.nd, h.seen, fun j hj => h.wait j (by simp [hj]), key _ h.start, fun a ha j hj => key _ (h.closed a ha j hj), by have := h.few; simp at this; omega⟩
theorem pinv_new (h : PInv cs f D (W ++ [i])) (hi : i ∉ D) (hc : cs[i]? = some c) : PInv cs f (i :: D) (W ++ leadsN c i) := by
  have hri : Rp cs f i := h.wait i (by simp)
  have key : ∀ j, j ∈ D ∨ j ∈ W ++ [i] → j ∈ i :: D ∨ j ∈ W ++ leadsN c i := fun j hj => by
    rcases hj with hj | hj
    · exact .inl (List.mem_cons_of_mem _ hj)
    · rcases List.mem_append.1 hj with hj | hj
      · exact .inr (List.mem_append_left _ hj)
      · rw [List.mem_singleton.1 hj]; exact .inl List.mem_cons_self
  refine ⟨List.nodup_cons.2 ⟨hi, h.nd⟩, fun j hj => ?_, fun j hj => ?_, key _ h.start, fun a ha j hj => ?_, by
    have h1 := h.few
    have h2 : (leadsN c i).length ≤ 2 := by unfold leadsN; rw [List.length_map]; exact leadsZ_len c i
    simp at h1 ⊢
    omega⟩
  · rcases List.mem_cons.1 hj with rfl | hj
    · exact hri
    · exact h.seen j hj
  · rcases List.mem_append.1 hj with hj | hj
    · exact h.wait j (by simp [hj])
    · exact .on hri ⟨c, hc, mem_leadsN.1 hj⟩
  · rcases List.mem_cons.1 ha with rfl | ha
    · obtain ⟨c', hc', hl⟩ := hj
      rw [hc] at hc'
      obtain rfl := Option.some.inj hc'
      exact .inr (List.mem_append_right _ (mem_leadsN.2 hl))
    · exact key _ (h.closed a ha j hj)
theorem nodup_bound {n : Nat} (hn : D.Nodup) (h : ∀ j ∈ D, j < n) : D.length ≤ n := by
  have h1 := nodup_le hn (B := List.range n) (fun j hj => List.mem_range.2 (h j hj))
  simpa using h1
end
end Go.Proofs.Ytkdacemachejoaa.Vm
namespace Go.Proofs.Ytkdacemachejoaa.Vm
open Go.RowKit Go.Shelf Object
set_option linter.unusedVariables false
/-- t is called in f's part -/
def IsCall (cs : List Cd) (f t : Nat) : Prop := ∃ i c, Rp cs f i ∧ cs[i]? = some c ∧ c.op = 18 ∧ c.n = (t : Int)
open Classical in
noncomputable def callsL (cs : List Cd) (f : Nat) : List Nat := (List.range cs.length).filter fun t => decide (IsCall cs f t)
def Asc (l : List Nat) : Prop := l.Pairwise (· < ·)
theorem asc_filter (n : Nat) (p : Nat → Bool) : Asc ((List.range n).filter p) := List.Pairwise.filter _ List.pairwise_lt_range
theorem asc_uniq {a b : List Nat} (ha : Asc a) (hb : Asc b) (h : ∀ x, x ∈ a ↔ x ∈ b) : a = b := by
  have na : a.Nodup := ha.imp (fun h => Nat.ne_of_lt h)
  have nb : b.Nodup := hb.imp (fun h => Nat.ne_of_lt h)
  exact List.Perm.eq_of_pairwise (le := fun x y => x < y) (fun x y _ _ h1 h2 => by omega) ha hb ((List.perm_ext_iff_of_nodup na nb).2 h)
section
variable {cs : List Cd} {f s t i : Nat}
theorem call_lt (h : vmRight cs = true) (hc : IsCall cs f t) : t < cs.length := by
  obtain ⟨i, c, _, h1, h2, h3⟩ := hc
  obtain ⟨k, hk, hk2⟩ := right_n h h1 (by simp [h2])
  omega
theorem mem_callsL (h : vmRight cs = true) : t ∈ callsL cs f ↔ IsCall cs f t := by
  unfold callsL
  simp only [List.mem_filter, List.mem_range, decide_eq_true_eq]
  exact ⟨fun h => h.2, fun hc => ⟨call_lt h hc, hc⟩⟩
theorem callsL_asc : Asc (callsL cs f) := asc_filter _ _
theorem callsL_len : (callsL cs f).length ≤ cs.length := by
  have := List.length_filter_le (fun t => by classical exact decide (IsCall cs f t)) (List.range cs.length)
  unfold callsL
  refine Nat.le_trans (List.length_filter_le _ _) (by simp)
/-- a start -/
inductive Rs (cs : List Cd) : Nat → Prop
  | zero : Rs cs 0
  | call {s t : Nat} : Rs cs s → IsCall cs s t → Rs cs t
/-- what calls come to, from s -/
inductive Rc (cs : List Cd) (s : Nat) : Nat → Prop
  | zero : Rc cs s s
  | call {t u : Nat} : Rc cs s t → IsCall cs t u → Rc cs s u
theorem Rc.trans {a b c : Nat} (h : Rc cs a b) (k : Rc cs b c) : Rc cs a c := by
  induction k with
  | zero => exact h
  | call _ hc ih => exact ih.call hc
theorem Rc.head {a b c : Nat} (h : IsCall cs a b) (k : Rc cs b c) : Rc cs a c := Rc.trans (.call .zero h) k
theorem rs_lt (h : vmRight cs = true) (hs : Rs cs s) : s < cs.length := by
  cases hs with
  | zero => exact (right_len h).1
  | call _ hc => exact call_lt h hc
theorem rs_rc (hs : Rs cs s) : Rc cs 0 s := by
  induction hs with
  | zero => exact .zero
  | call _ hc ih => exact .call ih hc
theorem rc_rs (hs : Rc cs 0 s) : Rs cs s := by
  induction hs with
  | zero => exact .zero
  | call _ hc ih => exact .call ih hc
theorem rd_iff (h : vmRight cs = true) : Rd cs i ↔ ∃ s, Rs cs s ∧ Rp cs s i := by
  constructor
  · intro hi
    induction hi with
    | zero => exact ⟨0, .zero, .zero⟩
    | on _ hc hl ih =>
      obtain ⟨s, h1, h2⟩ := ih
      exact ⟨s, h1, .on h2 ⟨_, hc, hl⟩⟩
    | @call i c hi hc ho ih =>
      obtain ⟨s, h1, h2⟩ := ih
      obtain ⟨k, hk, _⟩ := right_n h hc (by simp [ho])
      refine ⟨c.n.toNat, .call h1 ⟨i, c, h2, hc, ho, by omega⟩, .zero⟩
  · rintro ⟨s, h1, h2⟩
    have hs : Rd cs s := by
      clear h2
      induction h1 with
      | zero => exact .zero
      | @call a t _ hc ih =>
        obtain ⟨j, c, hj, h3, h4, h5⟩ := hc
        have hj' : Rd cs j := by
          clear h3
          induction hj with
          | zero => exact ih
          | on _ hl ih2 =>
            obtain ⟨c2, h6, h7⟩ := hl
            exact .on ih2 h6 h7
        have h8 := Rd.call hj' h3 h4
        rw [h5] at h8
        simpa using h8
    induction h2 with
    | zero => exact hs
    | on _ hl ih2 =>
      obtain ⟨c2, h6, h7⟩ := hl
      exact .on ih2 h6 h7
open Classical in
noncomputable def startsL (cs : List Cd) : List Nat := (List.range cs.length).filter fun s => decide (Rs cs s)
theorem mem_startsL (h : vmRight cs = true) : s ∈ startsL cs ↔ Rs cs s := by
  unfold startsL
  simp only [List.mem_filter, List.mem_range, decide_eq_true_eq]
  exact ⟨fun h => h.2, fun hs => ⟨rs_lt h hs, hs⟩⟩
theorem startsL_asc : Asc (startsL cs) := asc_filter _ _
open Classical in
noncomputable def reachL (cs : List Cd) : List Bool := (List.range cs.length).map fun i => decide (Rd cs i)
theorem reachL_len : (reachL cs).length = cs.length := by unfold reachL; simp
theorem reachL_at (hi : i < cs.length) : ∃ b, (reachL cs)[i]? = some b ∧ (b = true ↔ Rd cs i) := by
  classical
  refine ⟨decide (Rd cs i), ?_, by simp⟩
  unfold reachL
  rw [List.getElem?_map, List.getElem?_range hi]
  simp
def haltC : Cd := ⟨21, 0, 0, 0, 0⟩
open Classical in
noncomputable def stripL (cs : List Cd) : List Cd := (List.range cs.length).map fun i => if Rd cs i then cs.getD i haltC else haltC
theorem stripL_len : (stripL cs).length = cs.length := by unfold stripL; simp
theorem stripL_at (hi : i < cs.length) : (Rd cs i → (stripL cs)[i]? = cs[i]?) ∧ (¬ Rd cs i → (stripL cs)[i]? = some haltC) := by
  unfold stripL
  rw [List.getElem?_map, List.getElem?_range hi]
  constructor
  · intro h
    simp [h, List.getElem?_eq_getElem hi]
  · intro h
    simp [h]
/-- what a walk over starts has done: keys K and marks M, before and after -/
structure Grown (cs : List Cd) (s : Nat) (K : List Nat) (M : Nat → Prop) (K' : List Nat) (M' : Nat → Prop) : Prop where
  nd : K'.Nodup
  sub : ∀ k ∈ K, k ∈ K'
  self : s ∈ K'
  from_ : ∀ k ∈ K', k ∈ K ∨ Rc cs s k
  closed : ∀ k ∈ K', k ∉ K → ∀ t, IsCall cs k t → t ∈ K'
  marks : ∀ i, M' i ↔ M i ∨ ∃ k ∈ K', k ∉ K ∧ Rp cs k i
theorem grown_had {K : List Nat} {M : Nat → Prop} (hn : K.Nodup) (hs : s ∈ K) : Grown cs s K M K M :=
  ⟨hn, fun _ h => h, hs, fun _ h => .inl h, fun k h hn => absurd h hn, fun i => ⟨.inl, fun h => h.elim id (fun ⟨k, h1, h2, _⟩ => absurd h1 h2)⟩⟩
/-- in the midst of a start's calls: L of them are done -/
structure Mid (cs : List Cd) (s : Nat) (K : List Nat) (M : Nat → Prop) (L : List Nat) (K' : List Nat) (M' : Nat → Prop) : Prop where
  nd : K'.Nodup
  sub : ∀ k ∈ s :: K, k ∈ K'
  done : ∀ t ∈ L, t ∈ K'
  from_ : ∀ k ∈ K', k ∈ K ∨ Rc cs s k
  closed : ∀ k ∈ K', k ∉ s :: K → ∀ t, IsCall cs k t → t ∈ K'
  marks : ∀ i, M' i ↔ M i ∨ Rp cs s i ∨ ∃ k ∈ K', k ∉ s :: K ∧ Rp cs k i
theorem mid_start {K : List Nat} {M M1 : Nat → Prop} (hn : K.Nodup) (hs : s ∉ K) (hm : ∀ i, M1 i ↔ M i ∨ Rp cs s i) : Mid cs s K M [] (s :: K) M1 :=
  ⟨List.nodup_cons.2 ⟨hs, hn⟩, fun _ h => h, by simp, fun k hk => by
    rcases List.mem_cons.1 hk with rfl | hk
    · exact .inr .zero
    · exact .inl hk, fun k h hn => absurd h hn, fun i => by
    rw [hm]
    exact ⟨fun h => h.elim .inl (fun h => .inr (.inl h)), fun h => h.elim .inl (fun h => h.elim .inr (fun ⟨k, h1, h2, _⟩ => absurd h1 h2))⟩⟩
theorem mid_next {K L K1 K2 : List Nat} {M M1 M2 : Nat → Prop} (h : Mid cs s K M L K1 M1) (ht : IsCall cs s t) (g : Grown cs t K1 M1 K2 M2) : Mid cs s K M (L ++ [t]) K2 M2 := by
  refine ⟨g.nd, fun k hk => g.sub k (h.sub k hk), fun u hu => ?_, fun k hk => ?_, fun k hk hn u hu => ?_, fun i => ?_⟩
  · rcases List.mem_append.1 hu with hu | hu
    · exact g.sub u (h.done u hu)
    · rw [List.mem_singleton.1 hu]; exact g.self
  · rcases g.from_ k hk with h1 | h1
    · exact h.from_ k h1
    · exact .inr (Rc.head ht h1)
  · by_cases hk1 : k ∈ K1
    · exact g.sub u (h.closed k hk1 hn u hu)
    · exact g.closed k hk hk1 u hu
  · rw [g.marks, h.marks]
    constructor
    · rintro ((h1 | h1 | ⟨k, h1, h2, h3⟩) | ⟨k, h1, h2, h3⟩)
      · exact .inl h1
      · exact .inr (.inl h1)
      · exact .inr (.inr ⟨k, g.sub k h1, h2, h3⟩)
      · exact .inr (.inr ⟨k, h1, fun hk => h2 (h.sub k hk), h3⟩)
    · rintro (h1 | h1 | ⟨k, h1, h2, h3⟩)
      · exact .inl (.inl h1)
      · exact .inl (.inr (.inl h1))
      · by_cases hk1 : k ∈ K1
        · exact .inl (.inr (.inr ⟨k, hk1, h2, h3⟩))
        · exact .inr ⟨k, h1, hk1, h3⟩
theorem mid_end {K L K1 : List Nat} {M M1 : Nat → Prop} (h : Mid cs s K M L K1 M1) (hs : s ∉ K) (hL : ∀ t, IsCall cs s t → t ∈ L) : Grown cs s K M K1 M1 := by
  refine ⟨h.nd, fun k hk => h.sub k (List.mem_cons_of_mem _ hk), h.sub s List.mem_cons_self, h.from_, fun k hk hn t ht => ?_, fun i => ?_⟩
  · by_cases he : k = s
    · subst he; exact h.done t (hL t ht)
    · exact h.closed k hk (fun hm => by rcases List.mem_cons.1 hm with h1 | h1; exact he h1; exact hn h1) t ht
  · rw [h.marks]
    constructor
    · rintro (h1 | h1 | ⟨k, h1, h2, h3⟩)
      · exact .inl h1
      · exact .inr ⟨s, h.sub s List.mem_cons_self, hs, h1⟩
      · exact .inr ⟨k, h1, fun hk => h2 (List.mem_cons_of_mem _ hk), h3⟩
    · rintro (h1 | ⟨k, h1, h2, h3⟩)
      · exact .inl h1
      · by_cases he : k = s
        · subst he; exact .inr (.inl h3)
        · exact .inr (.inr ⟨k, h1, fun hm => by rcases List.mem_cons.1 hm with h4 | h4; exact he h4; exact h2 h4, h3⟩)
/-- the whole walk, from instruction 0 on -/
theorem grown_all {K : List Nat} {M' : Nat → Prop} (h : vmRight cs = true) (g : Grown cs 0 [] (fun _ => False) K M') : (∀ k, k ∈ K ↔ Rs cs k) ∧ ∀ i, M' i ↔ Rd cs i := by
  have hk : ∀ k, k ∈ K ↔ Rs cs k := fun k => by
    constructor
    · intro hk
      rcases g.from_ k hk with h1 | h1
      · cases h1
      · exact rc_rs h1
    · intro hk
      induction hk with
      | zero => exact g.self
      | call _ hc ih => exact g.closed _ ih (by simp) _ hc
  refine ⟨hk, fun i => ?_⟩
  rw [g.marks, rd_iff h]
  constructor
  · rintro (h1 | ⟨k, h1, _, h3⟩)
    · exact h1.elim
    · exact ⟨k, (hk k).1 h1, h3⟩
  · rintro ⟨s, h1, h2⟩
    exact .inr ⟨s, (hk s).2 h1, by simp, h2⟩
end
end Go.Proofs.Ytkdacemachejoaa.Vm
namespace Go.Proofs.Ytkdacemachejoaa.Vm
open Go.RowKit Go.Shelf Object
set_option linter.unusedVariables false
/-- s's calls go d deep -/
inductive Dp (cs : List Cd) : Nat → Nat → Prop
  | mk {s d : Nat} (g : Nat → Nat) (h : ∀ t, IsCall cs s t → Dp cs t (g t)) (h1 : ∀ t, IsCall cs s t → g t + 1 ≤ d) (h2 : d = 0 ∨ ∃ t, IsCall cs s t ∧ d = g t + 1) : Dp cs s d
section
variable {cs : List Cd} {s t d d' : Nat}
theorem dp_uniq (h : Dp cs s d) : ∀ d', Dp cs s d' → d = d' := by
  induction h with
  | @mk s d g h h1 h2 ih =>
    intro d' h'
    cases h' with
    | mk g' k k1 k2 =>
      have e : ∀ t, IsCall cs s t → g t = g' t := fun t ht => ih t ht _ (k t ht)
      have a : d ≤ d' := by
        rcases h2 with rfl | ⟨t, ht, rfl⟩
        · omega
        · rw [e t ht]; exact k1 t ht
      have b : d' ≤ d := by
        rcases k2 with rfl | ⟨t, ht, rfl⟩
        · omega
        · rw [← e t ht]; exact h1 t ht
      omega
theorem dp_call (h : Dp cs s d) (hc : IsCall cs s t) : ∃ d', Dp cs t d' ∧ d' + 1 ≤ d := by
  cases h with
  | mk g h h1 h2 => exact ⟨g t, h t hc, h1 t hc⟩
theorem dp_rc (hr : Rc cs s t) : ∀ d, Dp cs s d → ∃ d', Dp cs t d' ∧ d' ≤ d := by
  induction hr with
  | zero => exact fun d h => ⟨d, h, Nat.le_refl _⟩
  | call _ hc ih =>
    intro d h
    obtain ⟨d1, h1, h2⟩ := ih d h
    obtain ⟨d2, h3, h4⟩ := dp_call h1 hc
    exact ⟨d2, h3, by omega⟩
theorem dp_cycle (hc : IsCall cs s t) (hr : Rc cs t s) : ∀ d, ¬ Dp cs s d := fun d h => by
  obtain ⟨d1, h1, h2⟩ := dp_call h hc
  obtain ⟨d2, h3, h4⟩ := dp_rc hr d1 h1
  have := dp_uniq h d2 h3
  omega
/-- the best of the calls that are done -/
structure Best (cs : List Cd) (s : Nat) (L : List Nat) (b : Nat) : Prop where
  each : ∀ t ∈ L, ∃ d, Dp cs t d ∧ d + 1 ≤ b
  some_ : b = 0 ∨ ∃ t ∈ L, ∃ d, Dp cs t d ∧ b = d + 1
theorem best_nil : Best cs s [] 0 := ⟨by simp, .inl rfl⟩
theorem best_snoc {L : List Nat} {b : Nat} (h : Best cs s L b) (hd : Dp cs t d) : Best cs s (L ++ [t]) (max b (d + 1)) := by
  refine ⟨fun u hu => ?_, ?_⟩
  · rcases List.mem_append.1 hu with hu | hu
    · obtain ⟨e, h1, h2⟩ := h.each u hu
      exact ⟨e, h1, by omega⟩
    · rw [List.mem_singleton.1 hu]
      exact ⟨d, hd, by omega⟩
  · rcases Nat.le_total b (d + 1) with hb | hb
    · rw [Nat.max_eq_right hb]
      exact .inr ⟨t, by simp, d, hd, rfl⟩
    · rw [Nat.max_eq_left hb]
      rcases h.some_ with h1 | ⟨u, hu, e, h1, h2⟩
      · exact .inl h1
      · exact .inr ⟨u, by simp [hu], e, h1, h2⟩
theorem best_dp {L : List Nat} {b : Nat} (hL : ∀ t, t ∈ L ↔ IsCall cs s t) (h : Best cs s L b) : Dp cs s b := by
  classical
  refine .mk (fun t => if ht : ∃ d, Dp cs t d then Classical.choose ht else 0) (fun t ht => ?_) (fun t ht => ?_) ?_
  · obtain ⟨d, h1, _⟩ := h.each t ((hL t).2 ht)
    have hx : ∃ d, Dp cs t d := ⟨d, h1⟩
    rw [dif_pos hx]
    exact Classical.choose_spec hx
  · obtain ⟨d, h1, h2⟩ := h.each t ((hL t).2 ht)
    have hx : ∃ d, Dp cs t d := ⟨d, h1⟩
    rw [dif_pos hx]
    have := dp_uniq (Classical.choose_spec hx) d h1
    omega
  · rcases h.some_ with h1 | ⟨t, ht, d, h1, h2⟩
    · exact .inl h1
    · refine .inr ⟨t, (hL t).1 ht, ?_⟩
      have hx : ∃ d, Dp cs t d := ⟨d, h1⟩
      rw [dif_pos hx]
      have := dp_uniq (Classical.choose_spec hx) d h1
      omega
/-- the walk's state: KD: done, KO: begun; s: where it is -/
structure DInv (cs : List Cd) (s : Nat) (KD KO : List Nat) : Prop where
  nd : KO.Nodup
  lt : ∀ k ∈ KO, k < cs.length
  sub : ∀ k ∈ KD, k ∈ KO
  gray : ∀ g ∈ KO, g ∉ KD → ∃ t, IsCall cs g t ∧ Rc cs t s
theorem dinv_start : DInv cs s [] [] := ⟨List.nodup_nil, by simp, by simp, by simp⟩
/-- what was on the way still is -/
def Same (KD KO KD' KO' : List Nat) : Prop := (∀ k ∈ KO, k ∈ KO') ∧ (∀ k ∈ KD, k ∈ KD') ∧ (∀ g ∈ KO', g ∉ KD' → g ∈ KO ∧ g ∉ KD) ∧ ∀ g ∈ KO, g ∉ KD → g ∉ KD'
theorem Same.refl (KD KO : List Nat) : Same KD KO KD KO := ⟨fun _ h => h, fun _ h => h, fun _ h k => ⟨h, k⟩, fun _ _ h => h⟩
theorem Same.trans {A B A' B' A2 B2 : List Nat} (h : Same A B A' B') (k : Same A' B' A2 B2) : Same A B A2 B2 :=
  ⟨fun x hx => k.1 x (h.1 x hx), fun x hx => k.2.1 x (h.2.1 x hx), fun g hg hn => by
    obtain ⟨h1, h2⟩ := k.2.2.1 g hg hn
    exact h.2.2.1 g h1 h2, fun g hg hn => k.2.2.2 g (h.1 g hg) (h.2.2.2 g hg hn)⟩
/-- a child's walk begins -/
theorem dinv_child {KD KO KD1 KO1 : List Nat} (h : DInv cs s KD KO) (hs : s ∉ KO) (hlt : s < cs.length) (hS : Same KD (s :: KO) KD1 KO1) (hn : KO1.Nodup) (hl : ∀ k ∈ KO1, k < cs.length) (hsub : ∀ k ∈ KD1, k ∈ KO1) (hc : IsCall cs s t) : DInv cs t KD1 KO1 := by
  refine ⟨hn, hl, hsub, fun g hg hgn => ?_⟩
  obtain ⟨h1, h2⟩ := hS.2.2.1 g hg hgn
  rcases List.mem_cons.1 h1 with rfl | h1
  · exact ⟨t, hc, .zero⟩
  · obtain ⟨u, h3, h4⟩ := h.gray g h1 h2
    exact ⟨u, h3, .call h4 hc⟩
/-- a start is done -/
theorem same_done {KD KO KD1 KO1 : List Nat} (hs : s ∉ KO) (hS : Same KD (s :: KO) KD1 KO1) : Same KD KO (s :: KD1) KO1 :=
  ⟨fun k hk => hS.1 k (List.mem_cons_of_mem _ hk), fun k hk => List.mem_cons_of_mem _ (hS.2.1 k hk), fun g hg hn => by
    have hgs : g ≠ s := fun e => hn (by simp [e])
    obtain ⟨h1, h2⟩ := hS.2.2.1 g hg (fun h => hn (List.mem_cons_of_mem _ h))
    rcases List.mem_cons.1 h1 with h3 | h3
    · exact absurd h3 hgs
    · exact ⟨h3, h2⟩, fun g hg hn hm => by
    rcases List.mem_cons.1 hm with rfl | hm
    · exact hs hg
    · exact hS.2.2.2 g (List.mem_cons_of_mem _ hg) hn hm⟩
end
end Go.Proofs.Ytkdacemachejoaa.Vm
