/- The plain law of moves: how many cycles there are, by the reference's walk. -/
import Derived.Test.YthaifmfioabmkaaMovesMath
namespace Go.Proofs.Ythaifmfioabmkaa.Moves
set_option linter.unusedVariables false
/-- the reference's walk -/
def rw_ (l : List Mv) (t : Int) : Nat → Int → Bool → Int → Nat → (Int × Bool × Int × Nat)
  | 0, p, ok, least, steps => (p, ok, least, steps)
  | n + 1, p, ok, least, steps => if ok = true ∧ p ≠ t ∧ steps ≤ l.length then rw_ l t n ((fro l p).getD 0) (fro l p).isSome (min least p) (steps + 1) else (p, ok, least, steps)
def isL (l : List Mv) (x : Mv) : Bool :=
  (rw_ l x.dst (l.length + 1) x.src true x.dst 1).2.1 && ((rw_ l x.dst (l.length + 1) x.src true x.dst 1).1 == x.dst) && ((rw_ l x.dst (l.length + 1) x.src true x.dst 1).2.2.1 == x.dst) && decide (1 < (rw_ l x.dst (l.length + 1) x.src true x.dst 1).2.2.2)
theorem rw_stop (l : List Mv) (t : Int) (n : Nat) (p : Int) (ok : Bool) (least : Int) (steps : Nat) (h : ¬ (ok = true ∧ p ≠ t ∧ steps ≤ l.length)) : rw_ l t n p ok least steps = (p, ok, least, steps) := by
  cases n with
  | zero => rfl
  | succ n => rw [rw_, if_neg h]
theorem rw_ring (l : List Mv) (t : Int) : ∀ (rest : List Int) (q : Int) (n : Nat) (least : Int) (steps : Nat), (∀ x ∈ path t (q :: rest), fro l x.dst = some x.src) → (∀ y ∈ q :: rest, y ≠ t) → steps + rest.length ≤ l.length → rest.length < n →
    ∃ m, rw_ l t n q true least steps = (t, true, m, steps + rest.length + 1) ∧ ∀ z, z ≤ m ↔ z ≤ least ∧ ∀ y ∈ q :: rest, z ≤ y
  | [], q, n, least, steps, h, hne, hs, hn => by
    obtain ⟨n, rfl⟩ : ∃ n', n = n' + 1 := ⟨n - 1, by omega⟩
    have h1 : fro l q = some t := h ⟨q, t⟩ (by simp [path])
    refine ⟨min least q, ?_, fun z => by simp; omega⟩
    rw [rw_, if_pos ⟨rfl, hne q (by simp), by simpa using hs⟩, h1]
    exact rw_stop _ _ _ _ _ _ _ (by simp)
  | r :: rest, q, n, least, steps, h, hne, hs, hn => by
    obtain ⟨n, rfl⟩ : ∃ n', n = n' + 1 := ⟨n - 1, by omega⟩
    have h1 : fro l q = some r := h ⟨q, r⟩ (by simp [path])
    simp only [List.length_cons] at hs hn
    obtain ⟨m, e1, e2⟩ := rw_ring l t rest r n (min least q) (steps + 1) (fun x hx => h x (by rw [path]; exact List.mem_cons_of_mem _ hx)) (fun y hy => hne y (List.mem_cons_of_mem _ hy)) (by omega) (by omega)
    refine ⟨m, ?_, ?_⟩
    · rw [rw_, if_pos ⟨rfl, hne q (by simp), by omega⟩, h1]
      refine e1.trans ?_
      simp only [List.length_cons]
      congr 3
      omega
    · intro z
      rw [e2 z]
      simp only [List.mem_cons, forall_eq_or_imp]
      rw [Int.le_min, and_assoc]
theorem rw_back (l : List Mv) (t : Int) : ∀ (n : Nat) (q least : Int) (steps : Nat), q ≠ t → (rw_ l t n q true least steps).2.1 = true → (rw_ l t n q true least steps).1 = t →
    ∃ rest, (∀ x ∈ path t (q :: rest), fro l x.dst = some x.src) ∧ ∀ y ∈ q :: rest, y ≠ t
  | 0, q, least, steps, hq, _, h2 => absurd h2 hq
  | n + 1, q, least, steps, hq, h1, h2 => by
    rw [rw_] at h1 h2
    by_cases hc : True ∧ q ≠ t ∧ steps ≤ l.length
    · have hc' : ((true : Bool) = true) ∧ q ≠ t ∧ steps ≤ l.length := ⟨rfl, hc.2⟩
      rw [if_pos hc'] at h1 h2
      cases hf : fro l q with
      | none =>
        rw [hf] at h1
        rw [rw_stop _ _ _ _ _ _ _ (by simp)] at h1
        cases h1
      | some s =>
        rw [hf] at h1 h2
        simp only [Option.getD_some, Option.isSome_some] at h1 h2
        by_cases hs : s = t
        · subst hs
          refine ⟨[], ?_, ?_⟩
          · intro x hx
            simp only [path, List.mem_singleton] at hx
            rw [hx]
            exact hf
          · intro y hy
            rw [List.mem_singleton.1 hy]
            exact hq
        · obtain ⟨rest, e1, e2⟩ := rw_back l t n s _ _ hs h1 h2
          refine ⟨s :: rest, ?_, ?_⟩
          · intro x hx
            rw [path] at hx
            rcases List.mem_cons.1 hx with rfl | hx
            · exact hf
            · exact e1 x hx
          · intro y hy
            rcases List.mem_cons.1 hy with rfl | hy
            · exact hq
            · exact e2 y hy
    · have hc' : ¬ (((true : Bool) = true) ∧ q ≠ t ∧ steps ≤ l.length) := fun h => hc ⟨trivial, h.2⟩
      rw [if_neg hc'] at h2
      exact absurd h2 hq
/-- a cycle, begun anywhere -/
theorem ring_turn {f : Int} {ps : List Int} (hf : ps.head? = some f) {t : Int} (ht : t ∈ ps) : ∃ rest, (t :: rest).Perm ps ∧ (path t (t :: rest)).Perm (path f ps) := by
  obtain ⟨A, B, rfl⟩ := List.append_of_mem ht
  cases A with
  | nil =>
    obtain rfl : t = f := by simpa using hf
    exact ⟨B, List.Perm.refl _, List.Perm.refl _⟩
  | cons a A =>
    obtain rfl : a = f := by simpa using hf
    refine ⟨B ++ a :: A, ?_, ?_⟩
    · exact (List.perm_append_comm (l₁ := t :: B) (l₂ := a :: A))
    · have h1 := path_append t a A (t :: B)
      have h2 := path_append a t B (a :: A)
      rw [show t :: (B ++ a :: A) = (t :: B) ++ a :: A from rfl, h1, h2]
      exact List.perm_append_comm
theorem isL_ring {l : List Mv} (hu : Uniq l) {f : Int} {ps : List Int} (hf : ps.head? = some f) (hnd : ps.Nodup) (hsub : ∀ x ∈ path f ps, x ∈ l) (hlen : ps.length ≤ l.length) (hns : ∀ x ∈ path f ps, x.dst ≠ x.src) {x : Mv} (hx : x ∈ path f ps) :
    isL l x = true ↔ ∀ y ∈ ps, x.dst ≤ y := by
  have hxd : x.dst ∈ ps := by rw [← path_dst f ps]; exact List.mem_map.2 ⟨x, hx, rfl⟩
  obtain ⟨rest, h1, h2⟩ := ring_turn hf hxd
  have hfr : ∀ y ∈ path x.dst (x.dst :: rest), fro l y.dst = some y.src := fun y hy => fro_of_mem hu (hsub y (h2.mem_iff.1 hy))
  have hxs : fro l x.dst = some x.src := fro_of_mem hu (hsub x hx)
  cases rest with
  | nil =>
    exfalso
    have := hfr ⟨x.dst, x.dst⟩ (by simp [path])
    simp only at this
    rw [hxs] at this
    injection this with this
    exact hns x hx this.symm
  | cons q rest =>
    have h3 : fro l x.dst = some q := hfr ⟨x.dst, q⟩ (by simp [path])
    rw [hxs] at h3
    injection h3 with h3
    have hnd2 : (x.dst :: q :: rest).Nodup := h1.nodup_iff.2 hnd
    rw [List.nodup_cons] at hnd2
    have hl2 : rest.length + 2 = ps.length := by have := h1.length_eq; simpa using this
    obtain ⟨m, e1, e2⟩ := rw_ring l x.dst rest q (l.length + 1) x.dst 1 (fun y hy => hfr y (by rw [path]; exact List.mem_cons_of_mem _ hy)) (fun y hy e => hnd2.1 (e ▸ hy)) (by omega) (by omega)
    unfold isL
    rw [h3, e1]
    simp only [beq_self_eq_true, Bool.true_and, Bool.and_eq_true, beq_iff_eq, decide_eq_true_eq, Bool.and_true]
    have hm : m ≤ x.dst := ((e2 m).1 (Int.le_refl _)).1
    constructor
    · rintro ⟨rfl, _⟩ y hy
      rcases List.mem_cons.1 (h1.mem_iff.2 hy) with rfl | hy
      · exact Int.le_refl _
      · exact ((e2 _).1 (Int.le_refl _)).2 y hy
    · intro hy
      refine ⟨Int.le_antisymm hm ((e2 _).2 ⟨Int.le_refl _, fun y hm => hy y (h1.mem_iff.1 (List.mem_cons_of_mem _ hm))⟩), by omega⟩
theorem least_in : ∀ (ps : List Int), ps ≠ [] → ∃ m ∈ ps, ∀ y ∈ ps, m ≤ y
  | [], h => absurd rfl h
  | [a], _ => ⟨a, by simp, by simp⟩
  | a :: b :: t, _ => by
    obtain ⟨m, hm, h⟩ := least_in (b :: t) (by simp)
    by_cases hc : a ≤ m
    · refine ⟨a, by simp, fun y hy => ?_⟩
      rcases List.mem_cons.1 hy with rfl | hy
      · exact Int.le_refl _
      · exact Int.le_trans hc (h y hy)
    · refine ⟨m, List.mem_cons_of_mem _ hm, fun y hy => ?_⟩
      rcases List.mem_cons.1 hy with rfl | hy
      · omega
      · exact h y hy
theorem count_one {l : List Mv} {p : Mv → Bool} {x : Mv} (hu : Uniq l) (hx : x ∈ l) (h : ∀ y ∈ l, p y = true ↔ y = x) : l.countP p = 1 := by
  have hp := perm_dropD hu (p := x.dst) (s := x.src) hx
  rw [hp.countP_eq, List.countP_cons_of_pos ((h x hx).2 rfl)]
  rw [show (dropD l x.dst).countP p = 0 from ?_]
  rw [List.countP_eq_zero]
  intro y hy hpy
  have := (h y (mem_dropD.1 hy).1).1 hpy
  exact (mem_dropD.1 hy).2 (by rw [this])
theorem uniq_path (f : Int) {ps : List Int} (h : ps.Nodup) : Uniq (path f ps) := by
  unfold Uniq
  rw [path_dst]
  exact h
/-- one in each cycle -/
theorem ring_one {l : List Mv} (hu : Uniq l) {f : Int} {ps : List Int} (hf : ps.head? = some f) (hnd : ps.Nodup) (hsub : ∀ x ∈ path f ps, x ∈ l) (hlen : ps.length ≤ l.length) (hns : ∀ x ∈ path f ps, x.dst ≠ x.src) : (path f ps).countP (isL l) = 1 := by
  obtain ⟨m, hm, hle⟩ := least_in ps (by rintro rfl; cases hf)
  have hm2 := hm
  rw [← path_dst f ps] at hm2
  obtain ⟨x, hx, rfl⟩ := List.mem_map.1 hm2
  refine count_one (uniq_path f hnd) hx ?_
  intro y hy
  rw [isL_ring hu hf hnd hsub hlen hns hy]
  constructor
  · intro h
    have h1 := h _ hm
    have h2 := hle y.dst (by rw [← path_dst f ps]; exact List.mem_map.2 ⟨y, hy, rfl⟩)
    have h3 : y.dst = x.dst := Int.le_antisymm h1 h2
    have h4 := fro_of_mem (uniq_path f hnd) hy
    have h5 := fro_of_mem (uniq_path f hnd) hx
    rw [h3, h5] at h4
    injection h4 with h4
    obtain ⟨a, b⟩ := x
    obtain ⟨a', b'⟩ := y
    simp only at h3 h4
    rw [h3, h4]
  · rintro rfl
    exact hle
/-- what lies on a cycle is never freed -/
theorem free_keep {L : List Mv} {ps : List Int} (hcl : ∀ q ∈ ps, ∃ q' ∈ ps, fro L q' = some q) : ∀ (n : Nat) (S O : List Mv) (p : Int), (∀ q ∈ ps, fro S q = fro L q) → ∀ q ∈ ps, fro (free n S O p).1 q = fro L q
  | 0, S, O, p, h => h
  | n + 1, S, O, p, h => by
    rw [free]
    cases hf : fro S p with
    | none => exact h
    | some s =>
      simp only
      by_cases hk : 0 < ask S p
      · rw [if_pos hk]; exact h
      · rw [if_neg hk]
        have hp : p ∉ ps := by
          intro hm
          obtain ⟨q', hq', e⟩ := hcl p hm
          rw [← h q' hq'] at e
          exact hk (ask_pos (fro_mem e) rfl)
        refine free_keep hcl n _ _ s ?_
        intro q hq
        rw [fro_dropD, if_neg (fun e : q = p => hp (by rw [← e]; exact hq))]
        exact h q hq
theorem frees_keep {L : List Mv} {ps : List Int} (hcl : ∀ q ∈ ps, ∃ q' ∈ ps, fro L q' = some q) : ∀ (l : List Mv) (r : List Mv × List Mv), (∀ q ∈ ps, fro r.1 q = fro L q) → ∀ q ∈ ps, fro (frees l r).1 q = fro L q
  | [], r, h => h
  | x :: l, r, h => frees_keep hcl l _ (free_keep hcl _ _ _ _ h)
theorem path_self {l : List Mv} {t q : Int} (hq : fro l q = some q) : ∀ rest : List Int, (∀ x ∈ path t (q :: rest), fro l x.dst = some x.src) → q = t
  | [], h => by
    have h1 : fro l q = some t := h ⟨q, t⟩ (by simp [path])
    rw [hq] at h1
    injection h1
  | r :: rest, h => by
    have h1 : fro l q = some r := h ⟨q, r⟩ (by simp [path])
    rw [hq] at h1
    injection h1 with h1
    subst h1
    exact path_self hq rest (fun x hx => h x (by rw [path]; exact List.mem_cons_of_mem _ hx))
theorem path_tail {l : List Mv} {t : Int} : ∀ (rest : List Int) (q : Int), (∀ x ∈ path t (q :: rest), fro l x.dst = some x.src) → ∀ y ∈ q :: rest, ∃ rest', ∀ x ∈ path t (y :: rest'), fro l x.dst = some x.src
  | [], q, h, y, hy => by rw [List.mem_singleton.1 hy]; exact ⟨[], h⟩
  | r :: rest, q, h, y, hy => by
    rcases List.mem_cons.1 hy with rfl | hy
    · exact ⟨r :: rest, h⟩
    · exact path_tail rest r (fun x hx => h x (by rw [path]; exact List.mem_cons_of_mem _ hx)) y hy
theorem isL_left {l : List Mv} (hu : Uniq l) {x : Mv} (hx : x ∈ l) (hl : isL l x = true) : (fro (frees l (beg l, [])).1 x.dst).isSome = true := by
  unfold isL at hl
  simp only [Bool.and_eq_true, beq_iff_eq, decide_eq_true_eq] at hl
  obtain ⟨⟨⟨h1, h2⟩, _⟩, h4⟩ := hl
  have hxs : x.src ≠ x.dst := by
    intro e
    rw [rw_stop _ _ _ _ _ _ _ (by simp [e])] at h4
    exact absurd h4 (by simp)
  obtain ⟨rest, e1, e2⟩ := rw_back l x.dst _ _ _ _ hxs h1 h2
  have hfx := fro_of_mem hu hx
  have hall : ∀ y ∈ path x.dst (x.dst :: x.src :: rest), fro l y.dst = some y.src := by
    intro y hy
    rw [path] at hy
    rcases List.mem_cons.1 hy with rfl | hy
    · exact hfx
    · exact e1 y hy
  have hfb : ∀ q ∈ x.dst :: x.src :: rest, fro (beg l) q = fro l q := by
    intro q hq
    obtain ⟨y, hy, rfl⟩ := List.mem_map.1 (by rw [path_dst]; exact hq : q ∈ (path x.dst (x.dst :: x.src :: rest)).map Mv.dst)
    have hfy := hall y hy
    rw [hfy]
    have hne : y.dst ≠ y.src := by
      intro e
      rcases List.mem_cons.1 hq with hq | hq
      · rw [hq, hfx] at hfy
        injection hfy with hfy
        exact hxs (by rw [hfy, ← e, hq])
      · obtain ⟨rest', hr⟩ := path_tail rest x.src e1 y.dst hq
        exact e2 _ hq (path_self (by rw [hfy, ← e]) rest' hr)
    exact fro_of_mem hu.beg (mem_beg.2 ⟨fro_mem hfy, hne⟩)
  have hcl : ∀ q ∈ x.dst :: x.src :: rest, ∃ q' ∈ x.dst :: x.src :: rest, fro l q' = some q := by
    intro q hq
    have hs := path_src x.dst x.dst (x.src :: rest)
    have hm : q ∈ (path x.dst (x.dst :: x.src :: rest)).map (·.src) := by
      rw [hs]
      rcases List.mem_cons.1 hq with rfl | hq
      · simp
      · exact List.mem_append_left _ hq
    obtain ⟨y, hy, rfl⟩ := List.mem_map.1 hm
    refine ⟨y.dst, ?_, hall y hy⟩
    rw [← path_dst x.dst (x.dst :: x.src :: rest)]
    exact List.mem_map.2 ⟨y, hy, rfl⟩
  have := frees_keep hcl l (beg l, []) hfb x.dst List.mem_cons_self
  rw [this, hfx]
  rfl
end Go.Proofs.Ythaifmfioabmkaa.Moves
