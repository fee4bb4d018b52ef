/- Lists turned, sorted lists without their doubles. No program in sight. -/
import Derived.Test.YtdfiibnpckahnaaGCount
namespace Go.Proofs.Ytdfiibnpckahnaa.Graph
set_option linter.unusedVariables false
section
variable {α : Type}
/-- a list, turned -/
def rot (l : List α) (t : Nat) : List α := l.drop (t % l.length) ++ l.take (t % l.length)
theorem rot_perm (l : List α) (t : Nat) : (rot l t).Perm l := by
  unfold rot
  have h := List.perm_append_comm (l₁ := l.drop (t % l.length)) (l₂ := l.take (t % l.length))
  rw [List.take_append_drop] at h
  exact h
theorem rot_len (l : List α) (t : Nat) : (rot l t).length = l.length := (rot_perm l t).length_eq
theorem rot_get {l : List α} {t i : Nat} (hi : i < l.length) : (rot l t)[i]? = l[(i + t) % l.length]? := by
  have hm : t % l.length < l.length := Nat.mod_lt _ (by omega)
  unfold rot
  have e : (i + t) % l.length = if i + t % l.length < l.length then i + t % l.length else i + t % l.length - l.length := by
    rw [Nat.add_mod, Nat.mod_eq_of_lt hi]
    split
    · rename_i h; exact Nat.mod_eq_of_lt h
    · rename_i h
      rw [Nat.mod_eq_sub_mod (by omega), Nat.mod_eq_of_lt (by omega)]
  rw [e]
  by_cases h : i + t % l.length < l.length
  · rw [if_pos h, List.getElem?_append_left (by rw [List.length_drop]; omega), List.getElem?_drop, Nat.add_comm]
  · rw [if_neg h, List.getElem?_append_right (by rw [List.length_drop]; omega), List.length_drop, List.getElem?_take_of_lt (by omega)]
    congr 1
    omega
theorem set_perm {l : List α} {i j : Nat} {a b : α} (hi : l[i]? = some a) (hj : l[j]? = some b) : ((l.set i b).set j a).Perm l := by
  obtain ⟨h1, rfl⟩ := List.getElem?_eq_some_iff.1 hi
  obtain ⟨h2, rfl⟩ := List.getElem?_eq_some_iff.1 hj
  exact List.set_set_perm h1 h2
end
/-- without what stands twice, side by side -/
def cmpL : List Path → List Path
  | [] => []
  | a :: t => match cmpL t with
    | [] => [a]
    | b :: r => if a = b then b :: r else a :: b :: r
theorem cmpL_head : ∀ {a : Path} {t : List Path}, ∃ r, cmpL (a :: t) = a :: r
  | a, t => by
    unfold cmpL
    cases h : cmpL t with
    | nil => exact ⟨[], rfl⟩
    | cons b r =>
      simp only
      by_cases e : a = b
      · rw [if_pos e, e]; exact ⟨r, rfl⟩
      · rw [if_neg e]; exact ⟨b :: r, rfl⟩
theorem cmpL_mem : ∀ {l : List Path} (x : Path), x ∈ cmpL l ↔ x ∈ l
  | [], x => Iff.rfl
  | a :: t, x => by
    have ih := cmpL_mem (l := t) x
    unfold cmpL
    cases h : cmpL t with
    | nil => rw [h] at ih; simp only [List.mem_cons, ← ih]
    | cons b r =>
      rw [h] at ih
      simp only
      by_cases e : a = b
      · rw [if_pos e, List.mem_cons (a := x) (l := t), ← ih, e, List.mem_cons]
        constructor
        · exact .inr
        · rintro (h | h)
          · exact .inl h
          · exact h
      · rw [if_neg e, List.mem_cons (a := x) (b := a), ih, List.mem_cons]
theorem cmpL_nodup : ∀ {l : List Path}, l.Pairwise (· ≤ ·) → (cmpL l).Nodup
  | [], _ => by simp [cmpL]
  | a :: t, h => by
    rw [List.pairwise_cons] at h
    have ih := cmpL_nodup h.2
    unfold cmpL
    cases hc : cmpL t with
    | nil => simp
    | cons b r =>
      simp only
      by_cases e : a = b
      · rw [if_pos e, ← hc]; exact ih
      · rw [if_neg e, ← hc, List.nodup_cons]
        refine ⟨fun hm => ?_, ih⟩
        have hb : b ∈ t := (cmpL_mem b).1 (by rw [hc]; simp)
        have ha : a ∈ t := (cmpL_mem a).1 hm
        -- b is the head of t
        cases t with
        | nil => cases hb
        | cons c u =>
          obtain ⟨r', hr'⟩ := cmpL_head (a := c) (t := u)
          rw [hc] at hr'
          injection hr' with e1 _
          subst e1
          rw [List.pairwise_cons] at h
          rcases List.mem_cons.1 ha with rfl | ha
          · exact e rfl
          · exact e (List.le_antisymm (h.1 b (by simp)) (h.2.1 a ha))
theorem cmpL_snoc : ∀ (l : List Path) (a : Path), cmpL (l ++ [a]) = if l.getLast? = some a then cmpL l else cmpL l ++ [a]
  | [], a => by simp [cmpL]
  | [x], a => by
    by_cases e : x = a
    · subst e; simp [cmpL]
    · rw [if_neg (by simpa using e)]
      show (if x = a then [a] else [x, a]) = _
      rw [if_neg e]
      rfl
  | x :: y :: u, a => by
    have ih := cmpL_snoc (y :: u) a
    obtain ⟨r, hr⟩ := cmpL_head (a := y) (t := u)
    have hl : (x :: y :: u).getLast? = (y :: u).getLast? := by simp [List.getLast?_cons_cons]
    rw [hl]
    have e1 : cmpL (x :: y :: u) = if x = y then y :: r else x :: y :: r := by
      show (match cmpL (y :: u) with | [] => [x] | b :: r => if x = b then b :: r else x :: b :: r) = _
      rw [hr]
    have e2 : cmpL ((x :: y :: u) ++ [a]) = (match cmpL ((y :: u) ++ [a]) with | [] => [x] | b :: r => if x = b then b :: r else x :: b :: r) := rfl
    rw [e1, e2, ih]
    by_cases h : (y :: u).getLast? = some a
    · rw [if_pos h, if_pos h, hr]
    · rw [if_neg h, if_neg h, hr]
      show (if x = y then y :: (r ++ [a]) else x :: y :: (r ++ [a])) = _
      by_cases e : x = y
      · rw [if_pos e, if_pos e]; rfl
      · rw [if_neg e, if_neg e]; rfl
def impL (x : Nd) : List Path := cmpL (x.imps.mergeSort (fun a b => decide (a ≤ b)))
theorem impL_own (x : Nd) : Own x (impL x) := by
  have tr : ∀ a b c : Path, decide (a ≤ b) = true → decide (b ≤ c) = true → decide (a ≤ c) = true := fun a b c h1 h2 => by simp only [decide_eq_true_eq] at *; exact List.le_trans h1 h2
  have to : ∀ a b : Path, (decide (a ≤ b) || decide (b ≤ a)) = true := fun a b => by simp only [Bool.or_eq_true, decide_eq_true_eq]; exact List.le_total a b
  refine ⟨cmpL_nodup ?_, fun i => ?_⟩
  · have := List.pairwise_mergeSort tr to x.imps
    exact this.imp (fun h => of_decide_eq_true h)
  · unfold impL
    rw [cmpL_mem, (List.mergeSort_perm _ _).mem_iff]
theorem impL_owns {l : List Nd} (h : ¬ dup l) : Owns l impL := ⟨fun x _ => impL_own x, Decidable.not_not.1 h⟩
theorem next_lt {l : List Nd} {out : List Path} {s : Path} (h : Tk l out) (hn : nextP l out = some s) : out.length < l.length := by
  have h2 := h.snoc hn
  have := nodup_le h2.nodup h2.sub
  rw [List.length_append, List.length_map, List.length_singleton] at this
  omega
theorem takeN_none {l : List Nd} {out : List Path} (h : nextP l out = none) : ∀ n, takeN l n out = out
  | 0 => rfl
  | n + 1 => by
    unfold takeN
    rw [h]
theorem take_done {l : List Nd} {out : List Path} {n : Nat} (h : takeN l n out = taken l) (hn : nextP l out = none) : out = taken l := by rw [← h, takeN_none hn]
theorem take_next {l : List Nd} {out : List Path} {s : Path} {n : Nat} (h : takeN l n out = taken l) (hl : out.length + n = l.length) (hT : Tk l out) (hn : nextP l out = some s) : ∃ m, n = m + 1 ∧ takeN l m (out ++ [s]) = taken l ∧ (out ++ [s]).length + m = l.length := by
  have := next_lt hT hn
  obtain ⟨m, rfl⟩ : ∃ m, n = m + 1 := ⟨n - 1, by omega⟩
  refine ⟨m, rfl, ?_, by rw [List.length_append]; simp; omega⟩
  rw [← h]
  show _ = (match nextP l out with | none => out | some s => takeN l m (out ++ [s]))
  rw [hn]
end Go.Proofs.Ytdfiibnpckahnaa.Graph
