/- The plain law of moves, whole. -/
import Derived.Test.YthaifmfioabmkaaMovesMath2
namespace Go.Proofs.Ythaifmfioabmkaa.Moves
set_option linter.unusedVariables false
/-- what holds of what is left behind the free moves -/
structure Lft (l S : List Mv) : Prop where
  uniq : Uniq S
  pm : Pm S
  sub : ∀ x ∈ S, x ∈ l ∧ x.dst ≠ x.src
  len : S.length ≤ l.length
theorem Lft.ring {l S S' : List Mv} {p : Int} {ps : List Int} (hu : Uniq l) (h : Lft l S) (hps : ps.head? = some p) (hS : S.Perm (path p ps ++ S')) (hP : Pm S') (hU : Uniq S') : Lft l S' ∧ (path p ps).countP (isL l) = 1 ∧ ps.Nodup ∧ S.length = ps.length + S'.length ∧ ∀ x ∈ path p ps, x ∈ S := by
  have hlen : S.length = ps.length + S'.length := by
    have := hS.length_eq
    rw [List.length_append, path_len] at this
    exact this
  have hnd : ((path p ps ++ S').map Mv.dst).Nodup := (hS.map Mv.dst).nodup_iff.1 h.uniq
  rw [List.map_append, path_dst, List.nodup_append] at hnd
  have hin : ∀ x ∈ path p ps, x ∈ S := fun x hx => hS.mem_iff.2 (List.mem_append_left _ hx)
  have hl := h.len
  exact ⟨⟨hU, hP, fun x hx => h.sub x (hS.mem_iff.2 (List.mem_append_right _ hx)), by omega⟩, ring_one hu hps hnd.1 (fun x hx => (h.sub x (hin x hx)).1) (by omega) (fun x hx => (h.sub x (hin x hx)).2), hnd.1, hlen, hin⟩
theorem cnt_all {l : List Mv} (hu : Uniq l) : ∀ (n : Nat) (S : List Mv), S.length < n → Lft l S → cnt l n S = S.countP (isL l)
  | 0, S, hn, _ => by omega
  | n + 1, S, hn, h => by
    rw [cnt]
    cases hf : l.find? (fun x => (fro S x.dst).isSome) with
    | none =>
      rw [List.find?_eq_none] at hf
      cases S with
      | nil => rfl
      | cons x S =>
        exfalso
        refine hf x (h.sub x List.mem_cons_self).1 ?_
        rw [fro_of_mem h.uniq List.mem_cons_self]
        rfl
    | some x =>
      have hx : (fro S x.dst).isSome = true := by simpa using List.find?_some hf
      obtain ⟨S', ps, E, e1, e2, e3, e4, e5, e6, e7, e8, e9⟩ := ring_step (O := []) (sp := 0) h.uniq h.pm hx
      obtain ⟨k1, k2, k3, k4, k5⟩ := h.ring hu e2 e3 e4 e5
      have hps : 0 < ps.length := by cases ps with | nil => cases e2 | cons a b => simp
      simp only
      rw [e7, cnt_all hu n S' (by omega) k1, e3.countP_eq, List.countP_append, k2]
theorem beg_perm (l : List Mv) : (l.filter (fun x => x.dst == x.src) ++ beg l).Perm l := List.filter_append_perm _ l
theorem left_lft {l : List Mv} (hu : Uniq l) : Inv (beg l) (frees l (beg l, [])).1 (frees l (beg l, [])).2 ∧ Lft l (frees l (beg l, [])).1 ∧ (frees l (beg l, [])).1.countP (isL l) = l.countP (isL l) := by
  obtain ⟨h1, h2⟩ := frees_ok hu.beg l (beg l, []) (fun _ => False) ⟨hu.beg, by simp, by simp, by simp⟩ (fun _ _ h => h.elim)
  have hsub : ∀ x ∈ (frees l (beg l, [])).1, x ∈ beg l := fun x hx => h1.perm.mem_iff.1 (List.mem_append_right _ hx)
  refine ⟨h1, ⟨h1.uniq, pm_of_asked h1.uniq (fun y hy => h2 y hy (.inr (List.mem_map.2 ⟨y, (mem_beg.1 (hsub y hy)).1, rfl⟩))), fun x hx => mem_beg.1 (hsub x hx), ?_⟩, ?_⟩
  · have e1 := h1.perm.length_eq
    have e2 := beg_len l
    rw [List.length_append] at e1
    omega
  · have hno : ∀ x ∈ l, isL l x = true → x ∈ (frees l (beg l, [])).1 := by
      intro x hx hl
      obtain ⟨s, hs⟩ := Option.isSome_iff_exists.1 (isL_left hu hx hl)
      have hm := fro_mem hs
      have h3 := fro_of_mem hu (mem_beg.1 (hsub _ hm)).1
      rw [fro_of_mem hu hx] at h3
      injection h3 with h3
      have : (⟨x.dst, s⟩ : Mv) = x := by
        cases x
        simp only at h3
        rw [h3]
      rw [this] at hm
      exact hm
    have hb : (beg l).countP (isL l) = l.countP (isL l) := by
      rw [← (beg_perm l).countP_eq, List.countP_append]
      have : (l.filter (fun x => x.dst == x.src)).countP (isL l) = 0 := by
        rw [List.countP_eq_zero]
        intro x hx hl
        obtain ⟨hx1, hx2⟩ := List.mem_filter.1 hx
        exact (mem_beg.1 (hsub x (hno x hx1 hl))).2 (by simpa using hx2)
      omega
    rw [← hb, ← h1.perm.countP_eq, List.countP_append]
    have : (frees l (beg l, [])).2.countP (isL l) = 0 := by
      rw [List.countP_eq_zero]
      intro x hx hl
      have hxl : x ∈ l := (mem_beg.1 (h1.perm.mem_iff.1 (List.mem_append_left _ hx))).1
      have hnd : (((frees l (beg l, [])).2 ++ (frees l (beg l, [])).1).map Mv.dst).Nodup := (h1.perm.map Mv.dst).nodup_iff.2 hu.beg
      rw [List.map_append, List.nodup_append] at hnd
      exact hnd.2.2 _ (List.mem_map.2 ⟨x, hx, rfl⟩) _ (List.mem_map.2 ⟨x, hno x hxl hl, rfl⟩) rfl
    omega
/-- the program's count is the reference's -/
theorem cycles_sum {l : List Mv} (hu : Uniq l) : cnt l (l.length + 1) (frees l (beg l, [])).1 = l.countP (isL l) := by
  obtain ⟨_, h2, h3⟩ := left_lft hu
  rw [cnt_all hu _ _ (by have := h2.len; omega) h2, h3]
def isSp (sp : Int) (x : Mv) : Bool := x.dst == sp
theorem cycs_all {l : List Mv} (hu : Uniq l) {sp : Int} : ∀ (t S O : List Mv), Lft l S → (∀ x ∈ S, x.dst ≠ sp ∧ x.src ≠ sp) → (∀ x ∈ S, vals O x.src = x.src) →
    ∃ S' E, cycs sp t (S, O) = some (S', O ++ E) ∧ (∀ x ∈ S', x ∈ S ∧ x.dst ∉ t.map (·.dst)) ∧ (∀ x ∈ E, x.dst = sp ∨ ∃ y ∈ S, y.dst = x.dst) ∧ E.countP (isSp sp) + S'.countP (isL l) = S.countP (isL l) ∧
      E.length + S'.length = S.length + E.countP (isSp sp) ∧ (∀ x ∈ S, x ∈ S' ∨ vals (O ++ E) x.dst = x.src) ∧ (∀ q, q ≠ sp → (∀ x ∈ S, x.dst ≠ q) → vals (O ++ E) q = vals O q)
  | [], S, O, h, _, _ => ⟨S, [], by simp [cycs], fun x hx => ⟨hx, by simp⟩, by simp, by simp, by simp, fun x hx => .inl hx, fun q _ _ => by rw [List.append_nil]⟩
  | x :: t, S, O, h, hsp, hv => by
    rw [cycs]
    by_cases hx : (fro S x.dst).isSome = true
    · obtain ⟨S1, ps, E1, e1, e2, e3, e4, e5, e6, e7, e8, e9⟩ := ring_step (O := O) (sp := sp) h.uniq h.pm hx
      obtain ⟨k1, k2, k3, k4, k5⟩ := h.ring hu e2 e3 e4 e5
      obtain ⟨v1, v2, v3⟩ := e9 hsp hv
      have hE1 : ∀ y ∈ E1, y.dst ∈ ps := fun y hy => by rw [← e8]; exact List.mem_map.2 ⟨y, hy, rfl⟩
      have hpsS : ∀ q ∈ ps, ∃ y ∈ S, y.dst = q := by
        intro q hq
        rw [← path_dst x.dst ps] at hq
        obtain ⟨y, hy, rfl⟩ := List.mem_map.1 hq
        exact ⟨y, k5 y hy, rfl⟩
      obtain ⟨S', E, f1, f2, f3, f4, f5, f6, f7⟩ := cycs_all hu t S1 (O ++ [⟨sp, x.dst⟩] ++ E1) k1 (fun y hy => hsp y (e6 y hy)) v3
      have happ : O ++ [⟨sp, x.dst⟩] ++ E1 ++ E = O ++ (⟨sp, x.dst⟩ :: (E1 ++ E)) := by simp
      rw [happ] at f1 f6 f7
      have hc0 : E1.countP (isSp sp) = 0 := by
        rw [List.countP_eq_zero]
        intro y hy e
        obtain ⟨z, hz, e2⟩ := hpsS _ (hE1 y hy)
        exact (hsp z hz).1 (e2.trans (by simpa [isSp] using e))
      have hcE : (⟨sp, x.dst⟩ :: (E1 ++ E)).countP (isSp sp) = 1 + E.countP (isSp sp) := by
        rw [List.countP_cons_of_pos (by simp [isSp]), List.countP_append, hc0]
        omega
      have hlE1 : E1.length = ps.length := by rw [← e8]; simp
      refine ⟨S', ⟨sp, x.dst⟩ :: (E1 ++ E), ?_, ?_, ?_, ?_, ?_, ?_, ?_⟩
      · rw [if_pos hx]
        show (cyc x.dst sp (S.length + 1) S (O ++ [⟨sp, x.dst⟩]) x.dst).bind _ = _
        rw [e1]
        exact f1
      · intro y hy
        obtain ⟨a, b⟩ := f2 y hy
        refine ⟨e6 y a, ?_⟩
        intro hm
        rcases List.mem_cons.1 hm with e | hm
        · have hnd : ((path x.dst ps ++ S1).map Mv.dst).Nodup := (e3.map Mv.dst).nodup_iff.1 h.uniq
          rw [List.map_append, path_dst, List.nodup_append] at hnd
          have hxp : x.dst ∈ ps := by
            cases ps with
            | nil => cases e2
            | cons q ps => obtain rfl : q = x.dst := by simpa using e2
                           exact List.mem_cons_self
          exact hnd.2.2 _ hxp _ (List.mem_map.2 ⟨y, a, rfl⟩) e.symm
        · exact b hm
      · intro y hy
        rcases List.mem_cons.1 hy with rfl | hy
        · exact .inl rfl
        · rcases List.mem_append.1 hy with hy | hy
          · exact .inr (hpsS _ (hE1 y hy))
          · rcases f3 y hy with e | ⟨z, hz, e⟩
            · exact .inl e
            · exact .inr ⟨z, e6 z hz, e⟩
      · rw [hcE, e3.countP_eq, List.countP_append, k2]
        omega
      · rw [hcE]
        simp only [List.length_cons, List.length_append]
        omega
      · intro y hy
        rcases List.mem_append.1 (e3.mem_iff.1 hy) with hy2 | hy2
        · refine .inr ?_
          rw [f7 y.dst (hsp y hy).1 ?_]
          · exact v1 y hy2
          · intro z hz e
            have hnd : ((path x.dst ps ++ S1).map Mv.dst).Nodup := (e3.map Mv.dst).nodup_iff.1 h.uniq
            rw [List.map_append, List.nodup_append] at hnd
            exact hnd.2.2 _ (List.mem_map.2 ⟨y, hy2, rfl⟩) _ (List.mem_map.2 ⟨z, hz, rfl⟩) e.symm
        · exact f6 y hy2
      · intro q hq hqS
        rw [f7 q hq (fun z hz => hqS z (e6 z hz)), v2 q hq]
        intro hm
        obtain ⟨z, hz, e⟩ := hpsS q hm
        exact hqS z hz e
    · obtain ⟨S', E, f1, f2, f3, f4, f5, f6, f7⟩ := cycs_all hu t S O h hsp hv
      refine ⟨S', E, by rw [if_neg hx]; exact f1, ?_, f3, f4, f5, f6, f7⟩
      intro y hy
      obtain ⟨a, b⟩ := f2 y hy
      refine ⟨a, ?_⟩
      intro hm
      rcases List.mem_cons.1 hm with e | hm
      · refine hx ?_
        have e : y.dst = x.dst := e
        rw [← e, fro_of_mem h.uniq a]
        rfl
      · exact b hm
/-- what Order answers -/
theorem order_sum {l : List Mv} {sp : Int} (hR : rightB l sp = true) : ∃ o, cycs sp l (frees l (beg l, [])) = some ([], o) ∧ (∀ x ∈ l, vals o x.dst = x.src) ∧ (∀ x ∈ l, (∀ y ∈ l, y.dst ≠ x.src) → vals o x.src = x.src) ∧
    (∀ y ∈ o, y.dst = sp ∨ ∃ x ∈ l, x.dst = y.dst) ∧ o.countP (isSp sp) = l.countP (isL l) ∧ o.length = (beg l).length + o.countP (isSp sp) ∧ ((∀ x ∈ l, ∀ y ∈ l, x.src ≠ y.dst) → o.Perm l) := by
  unfold rightB at hR
  rw [Bool.and_eq_true, decide_eq_true_eq, Bool.not_eq_true', List.any_eq_false] at hR
  obtain ⟨hu, hno⟩ := hR
  have hsp : ∀ x ∈ l, x.dst ≠ sp ∧ x.src ≠ sp := by
    intro x hx
    have := hno x hx
    simpa [spa] using this
  obtain ⟨h1, h2, h3⟩ := left_lft hu
  obtain ⟨S, F, hSF⟩ : ∃ S F, frees l (beg l, []) = (S, F) := ⟨_, _, rfl⟩
  rw [hSF] at h1 h2 h3 ⊢
  simp only at h1 h2 h3
  have hFb : ∀ x ∈ F, x ∈ beg l := fun x hx => h1.perm.mem_iff.1 (List.mem_append_left _ hx)
  obtain ⟨S', E, f1, f2, f3, f4, f5, f6, f7⟩ := cycs_all hu (sp := sp) l S F h2 (fun x hx => hsp x (h2.sub x hx).1) (fun x hx => vals_out0 F _ (fun y hy => h1.off x hx y hy))
  have hS' : S' = [] := by
    cases S' with
    | nil => rfl
    | cons y S' =>
      obtain ⟨a, b⟩ := f2 y List.mem_cons_self
      exact absurd (List.mem_map.2 ⟨y, (h2.sub y a).1, rfl⟩) b
  subst hS'
  have hF0 : F.countP (isSp sp) = 0 := by
    rw [List.countP_eq_zero]
    intro x hx e
    exact (hsp x (mem_beg.1 (hFb x hx)).1).1 (by simpa [isSp] using e)
  have hnd : ((F ++ S).map Mv.dst).Nodup := (h1.perm.map Mv.dst).nodup_iff.2 hu.beg
  rw [List.map_append, List.nodup_append] at hnd
  have hbl : F.length + S.length = (beg l).length := by
    have := h1.perm.length_eq
    rwa [List.length_append] at this
  have hval : ∀ x ∈ beg l, vals (F ++ E) x.dst = x.src := by
    intro x hx
    rcases List.mem_append.1 (h1.perm.mem_iff.2 hx) with hx2 | hx2
    · rw [f7 x.dst (hsp x (mem_beg.1 hx).1).1 ?_]
      · exact h1.val x hx2
      · intro z hz e
        exact hnd.2.2 _ (List.mem_map.2 ⟨x, hx2, rfl⟩) _ (List.mem_map.2 ⟨z, hz, rfl⟩) e.symm
    · rcases f6 x hx2 with h | h
      · cases h
      · exact h
  have hout : ∀ q, q ≠ sp → (∀ y ∈ beg l, y.dst ≠ q) → vals (F ++ E) q = q := by
    intro q hq hy
    rw [f7 q hq (fun z hz => hy z (mem_beg.2 (h2.sub z hz)))]
    exact vals_out0 F q (fun z hz => hy z (hFb z hz))
  refine ⟨F ++ E, f1, ?_, ?_, ?_, ?_, ?_, ?_⟩
  · intro x hx
    by_cases hs : x.dst = x.src
    · rw [← hs]
      refine hout _ (hsp x hx).1 ?_
      intro y hy e
      obtain ⟨hy1, hy2⟩ := mem_beg.1 hy
      have a := fro_of_mem hu hx
      have b := fro_of_mem hu hy1
      rw [e, a] at b
      injection b with b
      exact hy2 (by rw [← b, e, hs])
    · exact hval x (mem_beg.2 ⟨hx, hs⟩)
  · intro x hx hy
    exact hout _ (hsp x hx).2 (fun z hz => hy z (mem_beg.1 hz).1)
  · intro y hy
    rcases List.mem_append.1 hy with hy | hy
    · exact .inr ⟨y, (mem_beg.1 (hFb y hy)).1, rfl⟩
    · rcases f3 y hy with e | ⟨z, hz, e⟩
      · exact .inl e
      · exact .inr ⟨z, (h2.sub z hz).1, e⟩
  · rw [List.countP_append, hF0, ← h3]
    simpa using f4
  · rw [List.length_append, List.countP_append, hF0]
    simp only [List.length_nil] at f5
    omega
  · intro hd
    have hS : S = [] := by
      cases S with
      | nil => rfl
      | cons x S =>
        exfalso
        have : x.dst ∈ (x :: S).map (·.src) := h2.pm.mem_iff.1 (List.mem_map.2 ⟨x, List.mem_cons_self, rfl⟩)
        obtain ⟨y, hy, e⟩ := List.mem_map.1 this
        exact hd y (h2.sub y hy).1 x (h2.sub x List.mem_cons_self).1 e
    subst hS
    have hE : E = [] := by
      have : E.countP (isSp sp) = 0 := by simpa using f4
      simp only [List.length_nil, Nat.add_zero, Nat.zero_add] at f5
      exact List.eq_nil_of_length_eq_zero (by omega)
    subst hE
    rw [List.append_nil]
    have := h1.perm
    rw [List.append_nil] at this
    refine this.trans ?_
    rw [show beg l = l from ?_]
    unfold beg
    rw [List.filter_eq_self]
    intro x hx
    have := hd x hx x hx
    simp only [Bool.not_eq_true', beq_eq_false_iff_ne]
    exact fun e => this e.symm
end Go.Proofs.Ythaifmfioabmkaa.Moves
