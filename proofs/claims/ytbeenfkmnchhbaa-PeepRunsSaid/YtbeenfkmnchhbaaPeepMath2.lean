/- The plain law of peep: what goes, and that what is left may be. -/
import Derived.Test.YtbeenfkmnchhbaaPeepMath
namespace Go.Proofs.Ytbeenfkmnchhbaa.Peep
open Object
set_option linter.unusedVariables false
/-- does an instruction do nothing? -/
def idleB (c : Cd) (i : Nat) : Bool := (c.op == 2 && c.a == c.b) || (jmp c && c.n == (i : Int) + 1)
def keepC (m i : Nat) (c : Cd) : Bool := !idleB c i || i + 1 == m
/-- what stays, of m instructions, from the i-th on -/
def rk (m : Nat) : Nat → List Cd → List Cd
  | _, [] => []
  | i, c :: cs => (if keepC m i c = true then [c] else []) ++ rk m (i + 1) cs
theorem rk_append (m : Nat) : ∀ (l : List Cd) (i : Nat) (l' : List Cd), rk m i (l ++ l') = rk m i l ++ rk m (i + l.length) l'
  | [], i, l' => by simp [rk]
  | c :: l, i, l' => by
    rw [List.cons_append, rk, rk, rk_append m l (i + 1) l', List.append_assoc, List.length_cons]
    congr 3
    omega
theorem rk_len (m : Nat) : ∀ (l : List Cd) (i : Nat), (rk m i l).length ≤ l.length
  | [], i => Nat.le_refl _
  | c :: l, i => by
    have := rk_len m l (i + 1)
    rw [rk, List.length_append, List.length_cons]
    split <;> simp <;> omega
theorem rk_all (m : Nat) : ∀ (l : List Cd) (i : Nat), (rk m i l).length = l.length → rk m i l = l ∧ ∀ (j : Nat) (c : Cd), l[j]? = some c → keepC m (i + j) c = true
  | [], i, _ => ⟨rfl, fun j c h => by simp at h⟩
  | c :: l, i, h => by
    have hl := rk_len m l (i + 1)
    rw [rk, List.length_append, List.length_cons] at h
    by_cases hk : keepC m i c = true
    · rw [if_pos hk] at h
      simp only [List.length_singleton] at h
      obtain ⟨h1, h2⟩ := rk_all m l (i + 1) (by omega)
      refine ⟨by rw [rk, if_pos hk, h1]; rfl, fun j d hj => ?_⟩
      cases j with
      | zero => simp at hj; subst hj; exact hk
      | succ j => rw [show i + (j + 1) = i + 1 + j from by omega]; exact h2 j d (by simpa using hj)
    · rw [if_neg hk] at h
      simp at h
      omega
/-- where an instruction comes to stand -/
def to (cs : List Cd) (k : Nat) : Nat := (rk cs.length 0 (cs.take k)).length
theorem to_le (cs : List Cd) (k : Nat) : to cs k ≤ k := Nat.le_trans (rk_len _ _ _) (List.length_take_le _ _)
theorem take_one {cs : List Cd} {k : Nat} {c : Cd} (h : cs[k]? = some c) : cs.take (k + 1) = cs.take k ++ [c] := by
  obtain ⟨hk, rfl⟩ := List.getElem?_eq_some_iff.1 h
  exact List.take_succ_eq_append_getElem hk
theorem rk_one (m i : Nat) (c : Cd) : rk m i [c] = if keepC m i c = true then [c] else [] := by rw [rk, rk, List.append_nil]
theorem take_len {cs : List Cd} {k : Nat} (h : k ≤ cs.length) : (cs.take k).length = k := by rw [List.length_take]; omega
theorem rk_take {cs : List Cd} {k : Nat} {c : Cd} (h : cs[k]? = some c) : rk cs.length 0 (cs.take (k + 1)) = rk cs.length 0 (cs.take k) ++ (if keepC cs.length k c = true then [c] else []) := by
  obtain ⟨hk, _⟩ := List.getElem?_eq_some_iff.1 h
  rw [take_one h, rk_append, rk_one, take_len (Nat.le_of_lt hk), Nat.zero_add]
theorem to_succ {cs : List Cd} {k : Nat} {c : Cd} (h : cs[k]? = some c) : to cs (k + 1) = to cs k + if keepC cs.length k c = true then 1 else 0 := by
  unfold to
  rw [rk_take h, List.length_append]
  split <;> rfl
theorem to_mono {cs : List Cd} {k : Nat} : ∀ d, to cs k ≤ to cs (k + d)
  | 0 => Nat.le_refl _
  | d + 1 => by
    refine Nat.le_trans (to_mono d) ?_
    cases h : cs[k + d]? with
    | none =>
      have hl : cs.length ≤ k + d := List.getElem?_eq_none_iff.1 h
      unfold to
      rw [List.take_of_length_le hl, List.take_of_length_le (by omega)]
      exact Nat.le_refl _
    | some c => rw [← Nat.add_assoc, to_succ h]; omega
theorem to_lt {cs : List Cd} {k : Nat} (h : k < cs.length) : to cs k < (rk cs.length 0 cs).length := by
  obtain ⟨q, hq⟩ : ∃ q, cs.length = q + 1 := ⟨cs.length - 1, by omega⟩
  have hlast : cs[q]? = some (cs[q]'(by omega)) := List.getElem?_eq_getElem _
  have h1 := to_succ hlast
  rw [if_pos (by unfold keepC; simp [hq])] at h1
  have h2 : to cs (q + 1) = (rk cs.length 0 cs).length := by unfold to; rw [List.take_of_length_le (by omega)]
  have h3 := to_mono (cs := cs) (k := k) (q - k)
  rw [show k + (q - k) = q from by omega] at h3
  omega
def fix (cs : List Cd) (c : Cd) : Cd := if jmp c = true then { c with n := (to cs c.n.toNat : Nat) } else c
def mv (cs : List Cd) (e : En) : En := { e with pos := (to cs e.pos.toNat : Nat) }
/-- an object without what is idle -/
def wo (d : OD) : OD := ⟨(rk d.code.length 0 d.code).map (fix d.code), d.ents.map (mv d.code), d.calls.map (mv d.code)⟩
theorem fix_op (cs : List Cd) (c : Cd) : (fix cs c).op = c.op ∧ (fix cs c).a = c.a ∧ (fix cs c).b = c.b ∧ (fix cs c).c = c.c := by unfold fix; split <;> exact ⟨rfl, rfl, rfl, rfl⟩
theorem rk_mem {m : Nat} {c : Cd} : ∀ {l : List Cd} {i : Nat}, c ∈ rk m i l → c ∈ l
  | [], i, h => by cases h
  | d :: l, i, h => by
    rw [rk] at h
    rcases List.mem_append.1 h with h | h
    · split at h
      · rw [List.mem_singleton.1 h]; exact List.mem_cons_self
      · cases h
    · exact List.mem_cons_of_mem _ (rk_mem h)
/-- what may be of an object, in parts -/
structure Rt (d : OD) : Prop where
  len : d.code.length ≤ 32768
  e4 : d.ents.length ≤ 4096
  c4 : d.calls.length ≤ 4096
  words : ∀ c ∈ d.code, wordOk c.op = true ∧ ∀ p ∈ partsOf c.op, partOk c (d.code.length : Int) (p.toNat : Int) = true
  last : opLast d.code ∈ [(16 : Int), 19, 21]
  ents : ∀ e ∈ d.ents, entOk (d.code.length : Int) e = true
  clean : ∀ c ∈ d.code, cleanB c = true
  calls : calls0 d.code d.calls = true
theorem right_iff (d : OD) (h0 : d.code.length ≠ 0) : objRight d = true ↔ Rt d := by
  unfold objRight vmRight codeOk
  rw [if_neg h0]
  simp only [Bool.and_eq_true, decide_eq_true_eq, List.all_eq_true]
  constructor
  · rintro ⟨⟨⟨h1, h2, h3⟩, ⟨⟨_, _⟩, h4⟩, h5⟩, h6, h7, h8⟩
    exact ⟨h1, h2, h3, h4, h5, h6, h7, h8⟩
  · intro h
    exact ⟨⟨⟨h.len, h.e4, h.c4⟩, ⟨⟨by omega, by have := h.len; omega⟩, h.words⟩, h.last⟩, h.ents, h.clean, h.calls⟩
theorem jmp_op {c : Cd} (h : jmp c = true) : c.op = 16 ∨ c.op = 17 := by unfold jmp at h; simpa using h
theorem Rt.inB {d : OD} (h : Rt d) : InB d.code := by
  intro c hc hj
  obtain ⟨_, h2⟩ := h.words c hc
  have h3 : partOk c (d.code.length : Int) 116 = true := by
    have : (116 : UInt8) ∈ partsOf c.op := by
      rcases jmp_op hj with e | e <;> rw [e] <;> decide
    exact h2 116 this
  unfold partOk belowOk at h3
  simpa using h3
theorem t_op {op : Int} (h : (116 : UInt8) ∈ partsOf op) : op = 16 ∨ op = 17 ∨ op = 18 := by
  by_cases h16 : op = 16
  · exact .inl h16
  by_cases h17 : op = 17
  · exact .inr (.inl h17)
  by_cases h18 : op = 18
  · exact .inr (.inr h18)
  exfalso
  unfold partsOf at h
  rw [if_neg h16, if_neg h17, if_neg h18] at h
  repeat' (split at h)
  all_goals (revert h; decide)
/-- instructions that are alike, with jumps that stay within, and calls of 0 -/
theorem part_like {c c' : Cd} {m m' : Int} (ho : c'.op = c.op) (ha : c'.a = c.a) (hb : c'.b = c.b) (hc : c'.c = c.c) (hn : jmp c = false → c'.n = c.n) (hj : jmp c = true → 0 ≤ c'.n ∧ c'.n < m') (h18 : c.op = 18 → c.n = 0) (hm : 0 < m')
    (h : ∀ p ∈ partsOf c.op, partOk c m (p.toNat : Int) = true) : ∀ p ∈ partsOf c'.op, partOk c' m' (p.toNat : Int) = true := by
  intro p hp
  rw [ho] at hp
  have h1 := h p hp
  by_cases h116 : p = 116
  · subst h116
    show partOk c' m' 116 = true
    unfold partOk belowOk
    simp only [show ((116 : Int) = 65) = False from by simp, show ((116 : Int) = 66) = False from by simp, show ((116 : Int) = 67) = False from by simp, show ((116 : Int) = 97) = False from by simp, show ((116 : Int) = 115) = False from by simp, if_false, if_true, Bool.and_eq_true, decide_eq_true_eq]
    by_cases hjj : jmp c = true
    · exact hj hjj
    · have hjf : jmp c = false := by simpa using hjj
      have hop : c.op = 18 := by
        have h3 := t_op hp
        unfold jmp at hjf
        simp only [Bool.or_eq_false_iff, beq_eq_false_iff_ne] at hjf
        omega
      rw [hn hjf, h18 hop]
      omega
  · have hp116 : ((p.toNat : Int) = 116) = False := by
      simp only [eq_iff_iff, iff_false]
      intro e
      exact h116 (UInt8.toNat_inj.1 (by show p.toNat = 116; omega))
    unfold partOk at h1 ⊢
    rw [ha, hb, hc]
    by_cases hjj : jmp c = true
    · have hpp : p = 65 ∨ p = 116 := by
        rcases jmp_op hjj with e | e
        · rw [e, show partsOf 16 = [116] from rfl] at hp
          exact .inr (List.mem_singleton.1 hp)
        · rw [e, show partsOf 17 = [65, 116] from rfl] at hp
          simpa using hp
      rcases hpp with rfl | rfl
      · simpa using h1
      · exact absurd rfl h116
    · rw [hn (by simpa using hjj)]
      simp only [hp116, if_false] at h1 ⊢
      exact h1
theorem clean_like {c c' : Cd} (ho : c'.op = c.op) (ha : c'.a = c.a) (hb : c'.b = c.b) (hc : c'.c = c.c) (hn : jmp c = false → c'.n = c.n) (h : cleanB c = true) : cleanB c' = true := by
  by_cases hj : jmp c = true
  · unfold cleanB at h ⊢
    rw [decide_eq_true_eq] at h ⊢
    obtain ⟨o, a, b, cc, n⟩ := c
    obtain ⟨o', a', b', cc', n'⟩ := c'
    simp only at ho ha hb hc
    subst ho ha hb hc
    rcases jmp_op hj with e | e <;> simp only at e <;> subst e <;> simp [clean] at h ⊢ <;> exact h
  · have : c' = c := by
      obtain ⟨o, a, b, cc, n⟩ := c
      obtain ⟨o', a', b', cc', n'⟩ := c'
      have := hn (by simpa using hj)
      simp only at ho ha hb hc this
      subst ho ha hb hc this
      rfl
    rw [this]
    exact h
end Go.Proofs.Ytbeenfkmnchhbaa.Peep
