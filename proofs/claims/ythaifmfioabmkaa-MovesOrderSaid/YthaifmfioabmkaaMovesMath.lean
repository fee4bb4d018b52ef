/- The plain law of moves: what Order makes leaves what it must; how many cycles there are. -/
import Derived.Test.YthaifmfioabmkaaMovesCyc
namespace Go.Proofs.Ythaifmfioabmkaa.Moves
set_option linter.unusedVariables false
theorem pig : ∀ {A B : List Int}, A.Nodup → (∀ a ∈ A, a ∈ B) → B.length ≤ A.length → A.Perm B
  | [], B, _, _, h => by
    have : B = [] := List.eq_nil_of_length_eq_zero (by simpa using h)
    rw [this]
  | a :: A, B, hn, hs, hl => by
    have hm := hs a List.mem_cons_self
    have hp := List.perm_cons_erase hm
    rw [List.nodup_cons] at hn
    have := pig (A := A) (B := B.erase a) hn.2 (fun x hx => (List.mem_erase_of_ne (fun e : x = a => hn.1 (by rw [← e]; exact hx))).2 (hs x (List.mem_cons_of_mem _ hx))) (by have := hp.length_eq; simp at this hl; omega)
    exact (this.cons a).trans hp.symm
/-- the moves of a path that ends by f -/
def path (f : Int) : List Int → List Mv
  | [] => []
  | [q] => [⟨q, f⟩]
  | q :: r :: t => ⟨q, r⟩ :: path f (r :: t)
theorem path_dst (f : Int) : ∀ ps : List Int, (path f ps).map (·.dst) = ps
  | [] => rfl
  | [q] => rfl
  | q :: r :: t => by rw [path, List.map_cons, path_dst f (r :: t)]
theorem path_len (f : Int) (ps : List Int) : (path f ps).length = ps.length := by
  have := congrArg List.length (path_dst f ps)
  simpa using this
theorem path_src (f : Int) : ∀ (q : Int) (t : List Int), (path f (q :: t)).map (·.src) = t ++ [f]
  | q, [] => rfl
  | q, r :: t => by rw [path, List.map_cons, path_src f r t]; rfl
theorem path_append (f b : Int) (B : List Int) : ∀ A : List Int, path f (A ++ b :: B) = path b A ++ path f (b :: B)
  | [] => rfl
  | [a] => rfl
  | a :: a' :: A => by
    have := path_append f b B (a' :: A)
    simp only [List.cons_append] at this ⊢
    rw [path, this, path]
    rfl
/-- what each place has -/
def vals (O : List Mv) : Int → Int := O.foldl (fun V x => fun q => if q = x.dst then V x.src else V q) id
theorem vals_snoc (O : List Mv) (x : Mv) (q : Int) : vals (O ++ [x]) q = if q = x.dst then vals O x.src else vals O q := by
  unfold vals
  rw [List.foldl_append]
  rfl
theorem vals_out : ∀ (E O : List Mv) (q : Int), (∀ x ∈ E, x.dst ≠ q) → vals (O ++ E) q = vals O q
  | [], O, q, _ => by rw [List.append_nil]
  | x :: E, O, q, h => by
    rw [show O ++ x :: E = (O ++ [x]) ++ E from by simp, vals_out E _ q (fun y hy => h y (List.mem_cons_of_mem _ hy)), vals_snoc, if_neg (fun e => h x List.mem_cons_self e.symm)]
theorem vals_nil (q : Int) : vals [] q = q := rfl
theorem vals_out0 (O : List Mv) (q : Int) (h : ∀ x ∈ O, x.dst ≠ q) : vals O q = q := by
  have := vals_out O [] q h
  rwa [List.nil_append] at this
/-- each place that is left is one that is asked for, once -/
def Pm (S : List Mv) : Prop := (S.map (·.dst)).Perm (S.map (·.src))
theorem fro_some_of {S : List Mv} {p : Int} (h : p ∈ S.map (·.dst)) : ∃ s, fro S p = some s := by
  obtain ⟨x, hx, rfl⟩ := List.mem_map.1 h
  cases hf : fro S x.dst with
  | none => exact absurd rfl (fro_none hf x hx)
  | some s => exact ⟨s, rfl⟩
theorem not_mem_drop {S : List Mv} {p : Int} : p ∉ (dropD S p).map (·.dst) := by
  intro h
  obtain ⟨x, hx, e⟩ := List.mem_map.1 h
  exact (mem_dropD.1 hx).2 e
theorem cyc_all (first sp : Int) : ∀ (n : Nat) (S O : List Mv) (p : Int), S.length < n → Uniq S → (first :: S.map (·.dst)).Perm (p :: S.map (·.src)) → (p = first ∨ ∀ x ∈ S, x.dst ≠ first) → (∃ s, fro S p = some s) →
    ∃ S' ps E, cyc first sp n S O p = some (S', O ++ E) ∧ ps.head? = some p ∧ S.Perm (path first ps ++ S') ∧ Pm S' ∧ Uniq S' ∧ (∀ x ∈ S', x ∈ S) ∧ chase n S p = S' ∧ E.map (·.dst) = ps ∧
      ((∀ x ∈ S, x.dst ≠ sp) → vals O sp = first → (∀ x ∈ S, x.src ≠ first → vals O x.src = x.src) → ∀ x ∈ path first ps, vals (O ++ E) x.dst = x.src)
  | 0, S, O, p, hn, _, _, _, _ => by omega
  | n + 1, S, O, p, hn, hu, hp, h1, ⟨s, hf⟩ => by
    have hS := perm_dropD hu (fro_mem hf)
    have hl := len_dropD hu hf
    have hp2 : (first :: (dropD S p).map (·.dst)).Perm (s :: (dropD S p).map (·.src)) := by
      have a := (hS.map (·.dst)).cons first
      have b := (hS.map (·.src)).cons p
      simp only [List.map_cons] at a b
      have c := (a.symm.trans hp).trans b
      exact ((List.Perm.swap _ _ _).trans c).cons_inv
    have hd1 : ∀ x ∈ dropD S p, x.dst ≠ first := by
      intro x hx e
      rcases h1 with rfl | h1
      · exact (mem_dropD.1 hx).2 e
      · exact h1 x (mem_dropD.1 hx).1 e
    rw [cyc, chase, hf]
    simp only
    by_cases hk : s = first
    · subst hk
      rw [if_pos rfl]
      refine ⟨dropD S p, [p], [⟨p, sp⟩], rfl, rfl, hS, hp2.cons_inv, hu.dropD p, fun x hx => (mem_dropD.1 hx).1, ?_, rfl, ?_⟩
      · have hno : fro (dropD S p) s = none := by
          cases hq : fro (dropD S p) s with
          | none => rfl
          | some r => exact absurd rfl (hd1 _ (fro_mem hq))
        cases n with
        | zero => rfl
        | succ n => rw [chase, hno]
      · intro _ hv _ x hx
        simp only [path, List.mem_singleton] at hx
        subst hx
        rw [vals_snoc, if_pos rfl]
        exact hv
    · rw [if_neg hk]
      have hs : ∃ r, fro (dropD S p) s = some r := by
        have hm : s ∈ first :: (dropD S p).map (·.dst) := hp2.symm.mem_iff.1 List.mem_cons_self
        rcases List.mem_cons.1 hm with e | hm
        · exact absurd e hk
        · exact fro_some_of hm
      obtain ⟨S', ps, E, e1, e2, e3, e4, e5, e6, e7, e8, e9⟩ := cyc_all first sp n (dropD S p) (O ++ [⟨p, s⟩]) s (by omega) (hu.dropD p) hp2 (.inr hd1) hs
      cases ps with
      | nil => cases e2
      | cons q ps =>
        obtain rfl : q = s := by simpa using e2
        refine ⟨S', p :: q :: ps, ⟨p, q⟩ :: E, by rw [e1]; simp, rfl, ?_, e4, e5, fun x hx => (mem_dropD.1 (e6 x hx)).1, e7, by rw [List.map_cons, e8], ?_⟩
        · rw [path]
          exact hS.trans (e3.cons _)
        · intro hsp hv hvs x hx
          have hspp : p ≠ sp := hsp _ (fro_mem hf)
          rw [show O ++ ⟨p, q⟩ :: E = (O ++ [⟨p, q⟩]) ++ E from by simp]
          rw [path] at hx
          rcases List.mem_cons.1 hx with rfl | hx
          · have hpE : ∀ y ∈ E, y.dst ≠ p := by
              intro y hy e
              have h2 : p ∈ q :: ps := by rw [← e8, ← e]; exact List.mem_map.2 ⟨y, hy, rfl⟩
              rw [← path_dst first (q :: ps)] at h2
              obtain ⟨z, hz, ez⟩ := List.mem_map.1 h2
              exact (mem_dropD.1 (e3.mem_iff.2 (List.mem_append_left _ hz))).2 ez
            rw [vals_out _ _ _ hpE, vals_snoc, if_pos rfl]
            exact hvs _ (fro_mem hf) hk
          · refine e9 (fun x hx => hsp x (mem_dropD.1 hx).1) ?_ ?_ x hx
            · rw [vals_snoc, if_neg (fun e => hspp e.symm)]
              exact hv
            · intro y hy hyf
              have hyp : y.src ≠ p := by
                intro e
                have : p ∈ first :: (dropD S p).map (·.dst) := hp2.mem_iff.2 (List.mem_cons_of_mem _ (List.mem_map.2 ⟨y, hy, e⟩))
                rcases List.mem_cons.1 this with e2 | e2
                · exact hyf (e.trans e2)
                · exact not_mem_drop e2
              rw [vals_snoc, if_neg hyp]
              exact hvs y (mem_dropD.1 hy).1 hyf
/-- a cycle is taken out -/
theorem ring_step {S O : List Mv} {p sp : Int} (hu : Uniq S) (hP : Pm S) (hf : (fro S p).isSome = true) :
    ∃ S' ps E, cyc p sp (S.length + 1) S (O ++ [⟨sp, p⟩]) p = some (S', O ++ [⟨sp, p⟩] ++ E) ∧ ps.head? = some p ∧ S.Perm (path p ps ++ S') ∧ Pm S' ∧ Uniq S' ∧ (∀ x ∈ S', x ∈ S) ∧ chase (S.length + 1) S p = S' ∧ E.map (·.dst) = ps ∧
      ((∀ x ∈ S, x.dst ≠ sp ∧ x.src ≠ sp) → (∀ x ∈ S, vals O x.src = x.src) → (∀ x ∈ path p ps, vals (O ++ [⟨sp, p⟩] ++ E) x.dst = x.src) ∧ (∀ q, q ≠ sp → q ∉ ps → vals (O ++ [⟨sp, p⟩] ++ E) q = vals O q) ∧ ∀ x ∈ S', vals (O ++ [⟨sp, p⟩] ++ E) x.src = x.src) := by
  obtain ⟨s, hs⟩ := Option.isSome_iff_exists.1 hf
  obtain ⟨S', ps, E, e1, e2, e3, e4, e5, e6, e7, e8, e9⟩ := cyc_all p sp (S.length + 1) S (O ++ [⟨sp, p⟩]) p (Nat.lt_succ_self _) hu (hP.cons p) (.inl rfl) ⟨s, hs⟩
  refine ⟨S', ps, E, e1, e2, e3, e4, e5, e6, e7, e8, ?_⟩
  intro hsp hv
  have hout : ∀ q, q ≠ sp → q ∉ ps → vals (O ++ [⟨sp, p⟩] ++ E) q = vals O q := by
    intro q hq hps
    rw [vals_out E _ q (fun x hx e => hps (by rw [← e8, ← e]; exact List.mem_map.2 ⟨x, hx, rfl⟩)), vals_snoc, if_neg hq]
  refine ⟨e9 (fun x hx => (hsp x hx).1) ?_ ?_, hout, ?_⟩
  · rw [vals_snoc, if_pos rfl]
    have hm : p ∈ S.map (·.src) := hP.mem_iff.1 (List.mem_map.2 ⟨_, fro_mem hs, rfl⟩)
    obtain ⟨x, hx, e⟩ := List.mem_map.1 hm
    rw [show (⟨sp, p⟩ : Mv).src = p from rfl, ← e]
    exact hv x hx
  · intro x hx _
    rw [vals_snoc, if_neg (hsp x hx).2]
    exact hv x hx
  · intro x hx
    rw [hout _ (hsp x (e6 x hx)).2 ?_]
    · exact hv x (e6 x hx)
    · intro hm
      have h1 : x.src ∈ S'.map (·.dst) := e4.mem_iff.2 (List.mem_map.2 ⟨x, hx, rfl⟩)
      have h2 : ((path p ps ++ S').map Mv.dst).Nodup := (e3.map Mv.dst).nodup_iff.1 hu
      rw [List.map_append, path_dst, List.nodup_append] at h2
      exact h2.2.2 _ hm _ h1 rfl
/-- the moves that go first: what they leave -/
structure Inv (L S O : List Mv) : Prop where
  uniq : Uniq S
  perm : (O ++ S).Perm L
  off : ∀ x ∈ S, ∀ y ∈ O, y.dst ≠ x.src
  val : ∀ x ∈ O, vals O x.dst = x.src
theorem ask0 {S : List Mv} {p : Int} (h : ¬ 0 < ask S p) : ∀ x ∈ S, x.src ≠ p := by
  intro x hx e
  refine h (List.countP_pos_iff.2 ⟨x, hx, by simp [e]⟩)
theorem ask_pos {S : List Mv} {p : Int} {x : Mv} (hx : x ∈ S) (e : x.src = p) : 0 < ask S p := List.countP_pos_iff.2 ⟨x, hx, by simp [e]⟩
theorem free_ok {L : List Mv} (hL : Uniq L) : ∀ (n : Nat) (S O : List Mv) (p : Int), Inv L S O → Inv L (free n S O p).1 (free n S O p).2
  | 0, S, O, p, h => h
  | n + 1, S, O, p, h => by
    rw [free]
    cases hf : fro S p with
    | none => exact h
    | some s =>
      simp only
      by_cases hk : 0 < ask S p
      · rw [if_pos hk]; exact h
      · rw [if_neg hk]
        have hS := perm_dropD h.uniq (fro_mem hf)
        have hm := fro_mem hf
        have ha := ask0 hk
        have hnd : ((O ++ S).map Mv.dst).Nodup := (h.perm.map Mv.dst).nodup_iff.2 hL
        rw [List.map_append, List.nodup_append] at hnd
        refine free_ok hL n _ _ s ⟨h.uniq.dropD p, ?_, ?_, ?_⟩
        · refine List.Perm.trans ?_ h.perm
          rw [List.append_assoc]
          exact (hS.symm).append_left O
        · intro x hx y hy
          rcases List.mem_append.1 hy with hy | hy
          · exact h.off x (mem_dropD.1 hx).1 y hy
          · rw [List.mem_singleton.1 hy]
            exact fun e => ha x (mem_dropD.1 hx).1 e.symm
        · intro x hx
          rw [vals_snoc]
          rcases List.mem_append.1 hx with hx | hx
          · rw [if_neg]
            · exact h.val x hx
            · exact hnd.2.2 _ (List.mem_map.2 ⟨x, hx, rfl⟩) _ (List.mem_map.2 ⟨_, hm, rfl⟩)
          · rw [List.mem_singleton.1 hx, if_pos rfl]
            exact vals_out0 O s (fun y hy => h.off _ hm y hy)
theorem free_asked (X : Int → Prop) : ∀ (n : Nat) (S O : List Mv) (p : Int), S.length < n → Uniq S → (∀ y ∈ S, X y.dst → y.dst ≠ p → 0 < ask S y.dst) → ∀ y ∈ (free n S O p).1, (X y.dst ∨ y.dst = p) → 0 < ask (free n S O p).1 y.dst
  | 0, S, O, p, hn, _, _ => by omega
  | n + 1, S, O, p, hn, hu, h => by
    rw [free]
    cases hf : fro S p with
    | none =>
      intro y hy hX
      have := fro_none hf y hy
      exact h y hy (hX.resolve_right this) this
    | some s =>
      simp only
      by_cases hk : 0 < ask S p
      · rw [if_pos hk]
        intro y hy hX
        by_cases e : y.dst = p
        · rw [e]; exact hk
        · exact h y hy (hX.resolve_right e) e
      · rw [if_neg hk]
        have hl := len_dropD hu hf
        have ih := free_asked X n (dropD S p) (O ++ [⟨p, s⟩]) s (by omega) (hu.dropD p) (by
          intro y hy hX hs
          obtain ⟨hy1, hy2⟩ := mem_dropD.1 hy
          have h1 := h y hy1 hX hy2
          rw [ask_dropD hu hf y.dst, if_neg (fun e => hs e.symm)] at h1
          exact h1)
        intro y hy hX
        have hyp : y.dst ≠ p := (mem_dropD.1 ((free_inv n _ _ _ (hu.dropD p)).1 y hy)).2
        exact ih y hy (.inl (hX.resolve_right hyp))
theorem frees_ok {L : List Mv} (hL : Uniq L) : ∀ (l : List Mv) (r : List Mv × List Mv) (X : Int → Prop), Inv L r.1 r.2 → (∀ y ∈ r.1, X y.dst → 0 < ask r.1 y.dst) → Inv L (frees l r).1 (frees l r).2 ∧ ∀ y ∈ (frees l r).1, (X y.dst ∨ y.dst ∈ l.map (·.dst)) → 0 < ask (frees l r).1 y.dst
  | [], r, X, h, h2 => ⟨h, fun y hy hX => h2 y hy (hX.resolve_right (by simp))⟩
  | x :: l, r, X, h, h2 => by
    have h3 := free_ok hL (r.1.length + 1) r.1 r.2 x.dst h
    have h4 := free_asked X (r.1.length + 1) r.1 r.2 x.dst (Nat.lt_succ_self _) h.uniq (fun y hy hX _ => h2 y hy hX)
    obtain ⟨h5, h6⟩ := frees_ok hL l (fre r.1 r.2 x.dst) (fun q => X q ∨ q = x.dst) h3 h4
    refine ⟨h5, fun y hy hX => h6 y hy ?_⟩
    rcases hX with hX | hX
    · exact .inl (.inl hX)
    · rcases List.mem_cons.1 hX with e | hX
      · exact .inl (.inr e)
      · exact .inr hX
theorem pm_of_asked {S : List Mv} (hu : Uniq S) (h : ∀ y ∈ S, 0 < ask S y.dst) : Pm S := by
  refine pig hu ?_ (by simp)
  intro p hp
  obtain ⟨y, hy, rfl⟩ := List.mem_map.1 hp
  obtain ⟨x, hx, e⟩ := List.countP_pos_iff.1 (h y hy)
  exact List.mem_map.2 ⟨x, hx, by simpa using e⟩
end Go.Proofs.Ythaifmfioabmkaa.Moves
