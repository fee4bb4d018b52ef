/- The plain law of peep: rounds. -/
import Derived.Test.YtbeenfkmnchhbaaPeepMath2
namespace Go.Proofs.Ytbeenfkmnchhbaa.Peep
open Object
set_option linter.unusedVariables false
def key (c : Cd) : Int × Int := (c.op, if c.op = 18 then c.n else 0)
theorem cok_nil (i : Int) (ls : List En) : callsOk i [] ls = ls.isEmpty := rfl
theorem cok_cons (i : Int) (c : Cd) (cs : List Cd) (ls : List En) : callsOk i (c :: cs) ls = if c.op = 18 then (match ls with | [] => false | l :: r => (l.pos == i) && (namedB l.name && ((c.n == 0) && callsOk (i + 1) cs r))) else callsOk (i + 1) cs ls := rfl
theorem map_same {α : Type} {f : α → α} : ∀ (l : List α), (∀ x ∈ l, f x = x) → l.map f = l
  | [], _ => rfl
  | a :: l, h => by rw [List.map_cons, h a List.mem_cons_self, map_same l (fun x hx => h x (List.mem_cons_of_mem _ hx))]
theorem callsOk_key : ∀ (cs cs' : List Cd) (i : Int) (ls : List En), cs.map key = cs'.map key → callsOk i cs ls = callsOk i cs' ls
  | [], [], i, ls, _ => rfl
  | [], c :: cs', i, ls, h => by simp at h
  | c :: cs, [], i, ls, h => by simp at h
  | c :: cs, c' :: cs', i, ls, h => by
    simp only [List.map_cons, List.cons.injEq] at h
    have h1 : c.op = c'.op := congrArg (·.1) h.1
    have h2 : (if c.op = 18 then c.n else 0) = (if c'.op = 18 then c'.n else 0) := congrArg (·.2) h.1
    rw [cok_cons, cok_cons, ← h1]
    by_cases h18 : c.op = 18
    · rw [if_pos h18, if_pos h18]
      rw [if_pos h18, if_pos (h1 ▸ h18)] at h2
      cases ls with
      | nil => rfl
      | cons l r =>
        simp only
        rw [h2, callsOk_key cs cs' (i + 1) r h.2]
    · rw [if_neg h18, if_neg h18, callsOk_key cs cs' (i + 1) ls h.2]
theorem Like.key {cs cs' : List Cd} (h : Like cs cs') : cs.map key = cs'.map key := by
  apply List.ext_getElem?
  intro i
  rw [List.getElem?_map, List.getElem?_map]
  cases hc : cs[i]? with
  | none =>
    have : cs.length ≤ i := List.getElem?_eq_none_iff.1 hc
    rw [List.getElem?_eq_none (by rw [h.1]; exact this)]
  | some c =>
    obtain ⟨c', h1, h2, _, _, _, h6, _⟩ := h.2 i c hc
    rw [h1]
    simp only [Option.map_some, Option.some.injEq]
    unfold Peep.key
    rw [h2]
    by_cases h18 : c.op = 18
    · rw [if_pos h18, if_pos h18, h6 (by unfold jmp; simp [h18])]
    · rw [if_neg h18, if_neg h18]
theorem Like.mem {cs cs' : List Cd} (h : Like cs cs') {c' : Cd} (hc : c' ∈ cs') : ∃ c ∈ cs, c'.op = c.op ∧ c'.a = c.a ∧ c'.b = c.b ∧ c'.c = c.c ∧ (jmp c = false → c' = c) ∧ (InB cs → jmp c = true → 0 ≤ c'.n ∧ c'.n < cs.length) := by
  obtain ⟨i, hi, rfl⟩ := List.getElem_of_mem hc
  obtain ⟨c'', h1, h2⟩ := h.2 i (cs[i]'(by rw [← h.1]; exact hi)) (List.getElem?_eq_getElem _)
  rw [List.getElem?_eq_getElem hi] at h1
  injection h1 with h1
  rw [h1]
  exact ⟨_, List.getElem_mem _, h2⟩
theorem callsOk_zero : ∀ (cs : List Cd) (i : Int) (ls : List En), callsOk i cs ls = true → ∀ c ∈ cs, c.op = 18 → c.n = 0
  | [], i, ls, _, c, hc, _ => by cases hc
  | d :: cs, i, ls, h, c, hc, ho => by
    rw [cok_cons] at h
    by_cases h18 : d.op = 18
    · rw [if_pos h18] at h
      cases ls with
      | nil => cases h
      | cons l r =>
        simp only [Bool.and_eq_true, beq_iff_eq] at h
        rcases List.mem_cons.1 hc with rfl | hc
        · exact h.2.2.1
        · exact callsOk_zero cs (i + 1) r h.2.2.2 c hc ho
    · rw [if_neg h18] at h
      rcases List.mem_cons.1 hc with rfl | hc
      · exact absurd ho h18
      · exact callsOk_zero cs (i + 1) ls h c hc ho
theorem Rt.zero {d : OD} (h : Rt d) : ∀ c ∈ d.code, c.op = 18 → c.n = 0 := callsOk_zero _ _ _ h.calls
theorem opLast_at {cs : List Cd} {c : Cd} (h : cs[cs.length - 1]? = some c) : opLast cs = c.op := Object.last_at cs cs.length c rfl h
/-- threaded code may be -/
theorem Rt.like {d : OD} (h : Rt d) (h0 : d.code.length ≠ 0) {cs : List Cd} (hl : Like d.code cs) : Rt { d with code := cs } := by
  have hin := h.inB
  refine ⟨by show cs.length ≤ _; rw [hl.1]; exact h.len, h.e4, h.c4, ?_, ?_, ?_, ?_, ?_⟩
  · intro c' hc'
    obtain ⟨c, hc, h1, h2, h3, h4, h5, h6⟩ := hl.mem hc'
    obtain ⟨w1, w2⟩ := h.words c hc
    refine ⟨by rw [h1]; exact w1, part_like h1 h2 h3 h4 (fun hj => by rw [h5 hj]) (fun hj => ?_) (h.zero c hc) ?_ w2⟩
    · show 0 ≤ c'.n ∧ c'.n < (cs.length : Int)
      rw [hl.1]
      exact h6 hin hj
    · show 0 < (cs.length : Int)
      rw [hl.1]
      omega
  · have hlast : d.code[d.code.length - 1]? = some (d.code[d.code.length - 1]'(by omega)) := List.getElem?_eq_getElem _
    obtain ⟨c', h1, h2, _⟩ := hl.2 _ _ hlast
    show opLast cs ∈ _
    rw [← hl.1] at h1
    rw [opLast_at h1, h2, ← opLast_at hlast]
    exact h.last
  · intro e he
    show entOk (cs.length : Int) e = true
    rw [hl.1]
    exact h.ents e he
  · intro c' hc'
    obtain ⟨c, hc, h1, h2, h3, h4, h5, _⟩ := hl.mem hc'
    exact clean_like h1 h2 h3 h4 (fun hj => by rw [h5 hj]) (h.clean c hc)
  · show callsOk 0 cs d.calls = true
    rw [← callsOk_key _ _ 0 d.calls hl.key]
    exact h.calls
theorem idle18 {c : Cd} {i : Nat} (h : c.op = 18) : idleB c i = false := by unfold idleB jmp; simp [h]
theorem keep18 {c : Cd} {m i : Nat} (h : c.op = 18) : keepC m i c = true := by unfold keepC; rw [idle18 h]; rfl
theorem callsOk_wo (cs : List Cd) : ∀ (l : List Cd) (k : Nat) (ls : List En), cs = cs.take k ++ l → k ≤ cs.length → callsOk (k : Int) l ls = true → callsOk (to cs k : Nat) ((rk cs.length k l).map (fix cs)) (ls.map (mv cs)) = true
  | [], k, ls, _, _, h => by
    rw [cok_nil] at h
    rw [rk, List.map_nil, cok_nil]
    cases ls with
    | nil => rfl
    | cons _ _ => cases h
  | c :: l, k, ls, hcs, hk, h => by
    have hat : cs[k]? = some c := by
      rw [hcs, List.getElem?_append_right (by rw [take_len hk]; exact Nat.le_refl _), take_len hk]
      simp
    obtain ⟨hkl, _⟩ := List.getElem?_eq_some_iff.1 hat
    have hts := to_succ hat
    have hcs2 : cs = cs.take (k + 1) ++ l := by rw [take_one hat, List.append_assoc]; exact hcs
    obtain ⟨ho, _⟩ := fix_op cs c
    rw [cok_cons] at h
    rw [rk, List.map_append]
    by_cases h18 : c.op = 18
    · rw [if_pos h18] at h
      rw [if_pos (keep18 h18)] at hts ⊢
      cases ls with
      | nil => cases h
      | cons x r =>
        simp only [Bool.and_eq_true, beq_iff_eq] at h
        obtain ⟨h1, h2, h3, h4⟩ := h
        have ih := callsOk_wo cs l (k + 1) r hcs2 (by omega) (by exact_mod_cast h4)
        have hfx : fix cs c = c := by unfold fix; rw [if_neg (by unfold jmp; simp [h18])]
        rw [List.map_cons, List.map_nil, hfx, List.singleton_append, List.map_cons, cok_cons, if_pos h18]
        simp only [Bool.and_eq_true, beq_iff_eq]
        refine ⟨?_, h2, h3, ?_⟩
        · unfold mv
          simp only [h1]
          rfl
        · rw [hts] at ih
          exact_mod_cast ih
    · rw [if_neg h18] at h
      have ih := callsOk_wo cs l (k + 1) ls hcs2 (by omega) (by exact_mod_cast h)
      rw [hts] at ih
      by_cases hkc : keepC cs.length k c = true
      · rw [if_pos hkc] at ih ⊢
        rw [List.map_cons, List.map_nil, List.singleton_append, cok_cons, ho, if_neg h18]
        exact_mod_cast ih
      · rw [if_neg hkc] at ih ⊢
        exact ih
theorem rk_last {m : Nat} (c : Cd) (l : List Cd) (h : l.length + 1 = m) : rk m 0 (l ++ [c]) = rk m 0 l ++ [c] := by
  rw [rk_append, rk_one, if_pos]
  unfold keepC
  simp [h]
/-- what is left may be -/
theorem Rt.wo {d : OD} (h : Rt d) (h0 : d.code.length ≠ 0) : Rt (wo d) ∧ (wo d).code.length ≠ 0 ∧ (wo d).code.length ≤ d.code.length := by
  have hln : (Peep.wo d).code.length = (rk d.code.length 0 d.code).length := by unfold Peep.wo; simp
  have hle := rk_len d.code.length d.code 0
  have hin := h.inB
  obtain ⟨l, x, hlx⟩ : ∃ l x, d.code = l ++ [x] := ⟨d.code.dropLast, d.code.getLast (by intro e; rw [e] at h0; exact h0 rfl), (List.dropLast_concat_getLast _).symm⟩
  have hrl : rk d.code.length 0 d.code = rk d.code.length 0 l ++ [x] := by
    have hll : l.length + 1 = d.code.length := by rw [hlx]; simp
    have := rk_last (m := d.code.length) x l hll
    rw [← hlx] at this
    exact this
  have hpos : 0 < (rk d.code.length 0 d.code).length := by rw [hrl]; simp
  have hmem : ∀ c' ∈ (Peep.wo d).code, ∃ c ∈ d.code, c' = fix d.code c := by
    intro c' hc'
    obtain ⟨c, hc, rfl⟩ := List.mem_map.1 hc'
    exact ⟨c, rk_mem hc, rfl⟩
  have hfn : ∀ c, jmp c = false → (fix d.code c).n = c.n := by
    intro c hj
    unfold fix
    rw [if_neg (by simp [hj])]
  refine ⟨⟨?_, ?_, ?_, ?_, ?_, ?_, ?_, ?_⟩, by rw [hln]; omega, by rw [hln]; exact hle⟩
  · have := h.len; omega
  · show (d.ents.map _).length ≤ _
    rw [List.length_map]; exact h.e4
  · show (d.calls.map _).length ≤ _
    rw [List.length_map]; exact h.c4
  · intro c' hc'
    obtain ⟨c, hc, rfl⟩ := hmem c' hc'
    obtain ⟨h1, h2, h3, h4⟩ := fix_op d.code c
    obtain ⟨w1, w2⟩ := h.words c hc
    refine ⟨by rw [h1]; exact w1, part_like h1 h2 h3 h4 (hfn c) (fun hj => ?_) (h.zero c hc) (by rw [hln]; omega) w2⟩
    obtain ⟨n0, n1⟩ := hin c hc hj
    have := to_lt (cs := d.code) (k := c.n.toNat) (by omega)
    unfold fix
    rw [if_pos hj, hln]
    simp only
    omega
  · have hwc : (Peep.wo d).code = (rk d.code.length 0 l).map (fix d.code) ++ [fix d.code x] := by
      unfold Peep.wo
      rw [hrl]
      simp
    have hdl : opLast d.code = x.op := by
      unfold opLast
      rw [hlx]
      simp
    have : opLast (Peep.wo d).code = x.op := by
      unfold opLast
      rw [hwc]
      simp
      exact (fix_op d.code x).1
    rw [this, ← hdl]
    exact h.last
  · intro e' he'
    obtain ⟨e, he, rfl⟩ := List.mem_map.1 he'
    have h1 := h.ents e he
    unfold entOk at h1 ⊢
    simp only [Bool.and_eq_true, decide_eq_true_eq] at h1 ⊢
    obtain ⟨⟨n1, n2⟩, n3⟩ := h1
    have := to_lt (cs := d.code) (k := e.pos.toNat) (by omega)
    rw [hln]
    unfold mv
    simp only
    exact ⟨⟨n1, by omega⟩, by omega⟩
  · intro c' hc'
    obtain ⟨c, hc, rfl⟩ := hmem c' hc'
    obtain ⟨h1, h2, h3, h4⟩ := fix_op d.code c
    exact clean_like h1 h2 h3 h4 (hfn c) (h.clean c hc)
  · have := callsOk_wo d.code d.code 0 d.calls (by simp) (by omega) (by exact_mod_cast h.calls)
    have ht0 : to d.code 0 = 0 := by unfold to; rw [List.take_zero]; rfl
    rw [ht0] at this
    exact this
/-- one round -/
noncomputable def rnd (d : OD) : OD := wo { d with code := (thrd d.code d.code.length).1 }
noncomputable def turned (d : OD) : Bool := (thrd d.code d.code.length).2
/-- nothing is left to be done -/
def Stable (d : OD) : Prop := Still d.code ∧ ∀ (j : Nat) (c : Cd), d.code[j]? = some c → keepC d.code.length j c = true
/-- nothing went: nothing moves -/
theorem wo_same {d : OD} (h : Rt d) (hl : (wo d).code.length = d.code.length) : wo d = d ∧ ∀ (j : Nat) (c : Cd), d.code[j]? = some c → keepC d.code.length j c = true := by
  have hln : (wo d).code.length = (rk d.code.length 0 d.code).length := by unfold wo; simp
  obtain ⟨h1, h2⟩ := rk_all d.code.length d.code 0 (by rw [← hln, hl])
  have h2' : ∀ (j : Nat) (c : Cd), d.code[j]? = some c → keepC d.code.length j c = true := fun j c hj => by simpa using h2 j c hj
  have hto : ∀ k, k ≤ d.code.length → to d.code k = k := by
    intro k
    induction k with
    | zero => intro _; unfold to; rw [List.take_zero]; rfl
    | succ k ih =>
      intro hk
      have hat : d.code[k]? = some (d.code[k]'(by omega)) := List.getElem?_eq_getElem _
      rw [to_succ hat, if_pos (h2' k _ hat), ih (by omega)]
  have hin := h.inB
  refine ⟨?_, h2'⟩
  obtain ⟨cs, es, ls⟩ := d
  unfold wo
  simp only at h1 hto hin ⊢
  have he : ∀ e : En, 0 ≤ e.pos → e.pos < cs.length → mv cs e = e := by
    intro e h0 hlt
    unfold mv
    rw [hto _ (by omega)]
    obtain ⟨nm, ps⟩ := e
    simp only at h0 ⊢
    congr 1
    omega
  have hc : ∀ c ∈ cs, fix cs c = c := by
    intro c hc
    unfold fix
    split
    · rename_i hj
      obtain ⟨n0, n1⟩ := hin c hc hj
      rw [hto _ (by omega)]
      obtain ⟨o, a, b, cc, n⟩ := c
      simp only at n0 ⊢
      congr 1
      omega
    · rfl
  have hcalls : ∀ (l : List Cd) (k : Nat) (ls' : List En), k + l.length ≤ cs.length → callsOk (k : Int) l ls' = true → ∀ e ∈ ls', 0 ≤ e.pos ∧ e.pos < cs.length := by
    intro l
    induction l with
    | nil =>
      intro k ls' _ hok e hm
      rw [cok_nil] at hok
      cases ls' with
      | nil => cases hm
      | cons _ _ => cases hok
    | cons c l ih =>
      intro k ls' hkl hok e hm
      simp only [List.length_cons] at hkl
      rw [cok_cons] at hok
      by_cases h18 : c.op = 18
      · rw [if_pos h18] at hok
        cases ls' with
        | nil => cases hm
        | cons x r =>
          simp only [Bool.and_eq_true, beq_iff_eq] at hok
          rcases List.mem_cons.1 hm with rfl | hm
          · omega
          · exact ih (k + 1) r (by omega) (by exact_mod_cast hok.2.2.2) e hm
      · rw [if_neg h18] at hok
        exact ih (k + 1) ls' (by omega) (by exact_mod_cast hok) e hm
  have hl1 : (rk cs.length 0 cs).map (fix cs) = cs := by
    rw [h1]
    exact map_same cs hc
  have hl2 : es.map (mv cs) = es := by
    refine map_same es ?_
    intro e hm
    have := h.ents e hm
    unfold entOk at this
    simp only [Bool.and_eq_true, decide_eq_true_eq] at this
    exact he e this.1.2 this.2
  have hl3 : ls.map (mv cs) = ls := by
    refine map_same ls ?_
    intro e hm
    obtain ⟨a, b⟩ := hcalls cs 0 ls (by omega) (by exact_mod_cast h.calls) e hm
    exact he e a b
  rw [hl1, hl2, hl3]
end Go.Proofs.Ytbeenfkmnchhbaa.Peep
