/- The order of a graph as it is meant, with no program in sight. -/
import Derived.WalkKit
namespace Go.Proofs.Ytdfiibnpckahnaa.Graph
set_option linter.unusedVariables false
abbrev Path := List UInt8
structure Nd where
  path : Path
  imps : List Path
/-- the least of some -/
def least : List Path → Option Path
  | [] => none
  | x :: t => some (match least t with | none => x | some y => if x ≤ y then x else y)
theorem least_none {l : List Path} : least l = none ↔ l = [] := by
  cases l with
  | nil => simp [least]
  | cons x t => simp [least]
theorem least_some : ∀ {l : List Path} {m : Path}, least l = some m → m ∈ l ∧ ∀ y ∈ l, m ≤ y
  | [], m, h => by cases h
  | x :: t, m, h => by
    unfold least at h
    injection h with h
    cases ht : least t with
    | none =>
      rw [ht] at h
      simp only at h
      subst h
      rw [least_none.1 ht]
      exact ⟨by simp, fun y hy => by rw [List.mem_singleton.1 hy]; exact List.le_refl _⟩
    | some z =>
      rw [ht] at h
      simp only at h
      obtain ⟨h1, h2⟩ := least_some ht
      by_cases hx : x ≤ z
      · rw [if_pos hx] at h
        subst h
        refine ⟨by simp, fun y hy => ?_⟩
        rcases List.mem_cons.1 hy with rfl | hy
        · exact List.le_refl _
        · exact List.le_trans hx (h2 y hy)
      · rw [if_neg hx] at h
        subst h
        refine ⟨by simp [h1], fun y hy => ?_⟩
        rcases List.mem_cons.1 hy with rfl | hy
        · rcases List.le_total y z with h | h
          · exact absurd h hx
          · exact h
        · exact h2 y hy
theorem least_uniq {l : List Path} {m : Path} (h1 : m ∈ l) (h2 : ∀ y ∈ l, m ≤ y) : least l = some m := by
  cases h : least l with
  | none => rw [least_none.1 h] at h1; cases h1
  | some z =>
    obtain ⟨h3, h4⟩ := least_some h
    rw [List.le_antisymm (h2 z h3) (h4 m h1)]
theorem least_set {l l' : List Path} (h : ∀ x, x ∈ l ↔ x ∈ l') : least l = least l' := by
  cases hl : least l with
  | none =>
    have h0 := least_none.1 hl
    subst h0
    cases l' with
    | nil => rfl
    | cons a t => exact absurd ((h a).2 (by simp)) (by simp)
  | some m =>
    obtain ⟨h1, h2⟩ := least_some hl
    exact (least_uniq ((h m).1 h1) (fun y hy => h2 y ((h y).2 hy))).symm
/-- may a node be taken? -/
def may (out : List Path) (x : Nd) : Bool := decide (x.path ∉ out) && x.imps.all (fun i => decide (i ∈ out))
theorem may_iff {out : List Path} {x : Nd} : may out x = true ↔ x.path ∉ out ∧ ∀ i ∈ x.imps, i ∈ out := by
  unfold may
  simp
def nextP (l : List Nd) (out : List Path) : Option Path := least ((l.filter (may out)).map (·.path))
/-- taken, one behind the other -/
def takeN (l : List Nd) : Nat → List Path → List Path
  | 0, out => out
  | n + 1, out => match nextP l out with
    | none => out
    | some s => takeN l n (out ++ [s])
def taken (l : List Nd) : List Path := takeN l l.length []
def dup (l : List Nd) : Prop := ¬ (l.map (·.path)).Nodup
instance (l : List Nd) : Decidable (dup l) := inferInstanceAs (Decidable (¬ _))
def missing (l : List Nd) : Prop := ∃ x ∈ l, ∃ i ∈ x.imps, i ∉ l.map (·.path)
instance (l : List Nd) : Decidable (missing l) := inferInstanceAs (Decidable (∃ x ∈ l, _))
def orderL (l : List Nd) : List Path × Int := if dup l then ([], 1) else if missing l then ([], 9) else if (taken l).length < l.length then ([], 8) else (taken l, 0)
theorem nextP_set {l l' : List Nd} (h : ∀ x, x ∈ l ↔ x ∈ l') (out : List Path) : nextP l out = nextP l' out := by
  refine least_set fun p => ?_
  simp only [List.mem_map, List.mem_filter, h]
theorem takeN_set {l l' : List Nd} (h : ∀ x, x ∈ l ↔ x ∈ l') : ∀ (n : Nat) (out : List Path), takeN l n out = takeN l' n out
  | 0, out => rfl
  | n + 1, out => by
    unfold takeN
    rw [nextP_set h]
    cases nextP l' out with
    | none => rfl
    | some s => exact takeN_set h n _
/-- nodes in another order tell the same -/
theorem orderL_perm {l l' : List Nd} (h : l.Perm l') : orderL l = orderL l' := by
  have hs : ∀ x, x ∈ l ↔ x ∈ l' := fun x => h.mem_iff
  have hp : (l.map (·.path)).Perm (l'.map (·.path)) := h.map _
  have e1 : dup l ↔ dup l' := by unfold dup; rw [hp.nodup_iff]
  have e2 : missing l ↔ missing l' := by
    unfold missing
    constructor
    · rintro ⟨x, hx, i, hi, hn⟩; exact ⟨x, (hs x).1 hx, i, hi, fun h => hn (hp.mem_iff.2 h)⟩
    · rintro ⟨x, hx, i, hi, hn⟩; exact ⟨x, (hs x).2 hx, i, hi, fun h => hn (hp.mem_iff.1 h)⟩
  have e3 : taken l = taken l' := by unfold taken; rw [h.length_eq]; exact takeN_set hs _ _
  unfold orderL
  rw [e3, h.length_eq]
  by_cases h1 : dup l
  · rw [if_pos h1, if_pos (e1.1 h1)]
  · rw [if_neg h1, if_neg (fun h => h1 (e1.2 h))]
    by_cases h2 : missing l
    · rw [if_pos h2, if_pos (e2.1 h2)]
    · rw [if_neg h2, if_neg (fun h => h2 (e2.2 h))]
theorem nextP_some {l : List Nd} {out : List Path} {s : Path} (h : nextP l out = some s) : s ∉ out ∧ ∃ x ∈ l, x.path = s ∧ ∀ i ∈ x.imps, i ∈ out := by
  obtain ⟨h1, _⟩ := least_some h
  obtain ⟨x, hx, rfl⟩ := List.mem_map.1 h1
  obtain ⟨hx, hm⟩ := List.mem_filter.1 hx
  obtain ⟨h2, h3⟩ := may_iff.1 hm
  exact ⟨h2, x, hx, rfl, h3⟩
/-- what holds of what was taken -/
structure Tk (l : List Nd) (out : List Path) : Prop where
  nodup : out.Nodup
  sub : ∀ s ∈ out, s ∈ l.map (·.path)
  ahead : ∀ (k : Nat) (s : Path), out[k]? = some s → ∃ x ∈ l, x.path = s ∧ ∀ i ∈ x.imps, i ∈ out.take k
theorem Tk.nil (l : List Nd) : Tk l [] := ⟨by simp, by simp, by simp⟩
theorem Tk.snoc {l : List Nd} {out : List Path} {s : Path} (h : Tk l out) (hn : nextP l out = some s) : Tk l (out ++ [s]) := by
  obtain ⟨h1, x, hx, rfl, h2⟩ := nextP_some hn
  refine ⟨?_, fun y hy => ?_, fun k y hk => ?_⟩
  · rw [List.nodup_append]
    exact ⟨h.nodup, by simp, fun a ha b hb e => h1 (by rw [← List.mem_singleton.1 hb, ← e]; exact ha)⟩
  · rcases List.mem_append.1 hy with hy | hy
    · exact h.sub y hy
    · rw [List.mem_singleton.1 hy]; exact List.mem_map.2 ⟨x, hx, rfl⟩
  · rcases Nat.lt_or_ge k out.length with hlt | hge
    · rw [List.getElem?_append_left hlt] at hk
      obtain ⟨z, hz, e, hz2⟩ := h.ahead k y hk
      exact ⟨z, hz, e, fun i hi => by rw [List.take_append_of_le_length (Nat.le_of_lt hlt)]; exact hz2 i hi⟩
    · rw [List.getElem?_append_right hge] at hk
      have hk0 : k = out.length := by
        rcases Nat.lt_or_ge (k - out.length) 1 with h | h
        · omega
        · rw [List.getElem?_eq_none (by simpa using h)] at hk; cases hk
      subst hk0
      simp at hk
      exact ⟨x, hx, hk, fun i hi => by rw [List.take_left]; exact h2 i hi⟩
theorem takeN_tk {l : List Nd} : ∀ (n : Nat) {out : List Path}, Tk l out → Tk l (takeN l n out)
  | 0, out, h => h
  | n + 1, out, h => by
    unfold takeN
    cases hn : nextP l out with
    | none => exact h
    | some s => exact takeN_tk n (h.snoc hn)
theorem taken_tk (l : List Nd) : Tk l (taken l) := takeN_tk _ (Tk.nil l)
theorem nodup_le {α : Type} [DecidableEq α] : ∀ {A B : List α}, A.Nodup → (∀ a ∈ A, a ∈ B) → A.length ≤ B.length
  | [], B, _, _ => Nat.zero_le _
  | a :: A, B, hn, hs => by
    have hm := hs a List.mem_cons_self
    have hp := List.perm_cons_erase hm
    rw [List.nodup_cons] at hn
    have := nodup_le (A := A) (B := B.erase a) hn.2 (fun x hx => (List.mem_erase_of_ne (fun e : x = a => hn.1 (by rw [← e]; exact hx))).2 (hs x (List.mem_cons_of_mem _ hx)))
    have := hp.length_eq
    simp at this ⊢
    omega
theorem nodup_all {α : Type} [DecidableEq α] {A B : List α} (hn : A.Nodup) (hs : ∀ a ∈ A, a ∈ B) (hl : B.length ≤ A.length) (hB : B.Nodup) : ∀ b ∈ B, b ∈ A := by
  intro b hb
  rcases Decidable.em (b ∈ A) with h | h
  · exact h
  · exfalso
    have := nodup_le (A := b :: A) (B := B) (List.nodup_cons.2 ⟨h, hn⟩) (fun x hx => by
      rcases List.mem_cons.1 hx with rfl | hx
      · exact hb
      · exact hs x hx)
    simp at this
    omega
/-- the order of a graph that has one: each path stands behind all that it imports -/
theorem order_right {l : List Nd} (h : (orderL l).2 = 0) : (orderL l).1.length = l.length ∧ (orderL l).1.Nodup ∧ ∀ x ∈ l, ∃ p : Nat, (orderL l).1[p]? = some x.path ∧ ∀ i ∈ x.imps, ∃ q : Nat, q < p ∧ (orderL l).1[q]? = some i := by
  unfold orderL at h ⊢
  split at h
  · exact absurd h (by decide)
  · rename_i h1
    split at h
    · exact absurd h (by decide)
    · rename_i h2
      split at h
      · exact absurd h (by decide)
      · rename_i h3
        rw [if_neg h1, if_neg h2, if_neg h3]
        simp only
        have ht := taken_tk l
        have hnd : (l.map (·.path)).Nodup := Decidable.not_not.1 h1
        have hle := nodup_le ht.nodup ht.sub
        rw [List.length_map] at hle
        refine ⟨by omega, ht.nodup, fun x hx => ?_⟩
        have hall := nodup_all ht.nodup ht.sub (by rw [List.length_map]; omega) hnd
        obtain ⟨p, hp⟩ := List.getElem?_of_mem (hall x.path (List.mem_map.2 ⟨x, hx, rfl⟩))
        refine ⟨p, hp, fun i hi => ?_⟩
        obtain ⟨y, hy, he, hyi⟩ := ht.ahead p _ hp
        have hxy : y = x := by
          obtain ⟨a, ha, rfl⟩ := List.getElem_of_mem hy
          obtain ⟨b, hb, rfl⟩ := List.getElem_of_mem hx
          have hab : a = b := (List.getElem_inj (h₀ := by simpa using ha) (h₁ := by simpa using hb) hnd).1 (by simpa using he)
          subst hab
          rfl
        subst hxy
        obtain ⟨q, hq⟩ := List.getElem?_of_mem (hyi i hi)
        have hqp : q < p := by
          rcases Nat.lt_or_ge q p with h | h
          · exact h
          · rw [List.getElem?_take_eq_none h] at hq; cases hq
        rw [List.getElem?_take_of_lt hqp] at hq
        exact ⟨q, hqp, hq⟩
theorem order_no {l : List Nd} (h : (orderL l).2 ≠ 0) : (orderL l).1 = [] := by
  unfold orderL at h ⊢
  split
  · rfl
  · rename_i h1
    rw [if_neg h1] at h
    split
    · rfl
    · rename_i h2
      rw [if_neg h2] at h
      split
      · rfl
      · rename_i h3
        rw [if_neg h3] at h
        exact absurd rfl h
end Go.Proofs.Ytdfiibnpckahnaa.Graph
