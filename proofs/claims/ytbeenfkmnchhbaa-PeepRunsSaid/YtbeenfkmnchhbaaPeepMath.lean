/- The plain law of peep: what a round does, and that it leaves what may be. -/
import Derived.Test.YtbeenfkmnchhbaaObjRight
namespace Go.Proofs.Ytbeenfkmnchhbaa.Peep
open Object
set_option linter.unusedVariables false
def jmp (c : Cd) : Bool := c.op == 16 || c.op == 17
/-- the instruction at a place -/
def ins (cs : List Cd) (n : Int) : Option Cd := if 0 ≤ n then cs[n.toNat]? else none
theorem ins_nat (cs : List Cd) (k : Nat) : ins cs (k : Int) = cs[k]? := by unfold ins; rw [if_pos (by omega)]; rfl
theorem ins_lt {cs : List Cd} {n : Int} {c : Cd} (h : ins cs n = some c) : 0 ≤ n ∧ n < cs.length ∧ cs[n.toNat]? = some c := by
  unfold ins at h
  split at h
  · rename_i h0
    obtain ⟨h1, _⟩ := List.getElem?_eq_some_iff.1 h
    exact ⟨h0, by omega, h⟩
  · cases h
theorem ins_some {cs : List Cd} {n : Int} (h0 : 0 ≤ n) (h1 : n < cs.length) : ∃ c, ins cs n = some c := by
  unfold ins
  rw [if_pos h0]
  exact ⟨cs[n.toNat]'(by omega), List.getElem?_eq_getElem _⟩
/-- jumps stay within -/
def InB (cs : List Cd) : Prop := ∀ c ∈ cs, jmp c = true → 0 ≤ c.n ∧ c.n < cs.length
/-- by jumps alone one comes, in k steps, to what is none -/
inductive ReachN (cs : List Cd) : Int → Nat → Int → Prop
  | here {n : Int} {c : Cd} (h : ins cs n = some c) (ho : c.op ≠ 16) : ReachN cs n 0 n
  | step {n e : Int} {k : Nat} {c : Cd} (h : ins cs n = some c) (ho : c.op = 16) (r : ReachN cs c.n k e) : ReachN cs n (k + 1) e
theorem ReachN.uniq {cs : List Cd} {n : Int} {k : Nat} {e : Int} (h : ReachN cs n k e) : ∀ {k' : Nat} {e' : Int}, ReachN cs n k' e' → k = k' ∧ e = e' := by
  induction h with
  | here h ho =>
    intro k' e' h'
    cases h' with
    | here => exact ⟨rfl, rfl⟩
    | step h2 ho2 => rw [h] at h2; injection h2 with h2; subst h2; exact absurd ho2 ho
  | step h ho r ih =>
    intro k' e' h'
    cases h' with
    | here h2 ho2 => rw [h] at h2; injection h2 with h2; subst h2; exact absurd ho ho2
    | step h2 ho2 r2 =>
      rw [h] at h2
      injection h2 with h2
      subst h2
      obtain ⟨a, b⟩ := ih r2
      exact ⟨by rw [a], b⟩
def Reach (cs : List Cd) (n e : Int) : Prop := ∃ k, ReachN cs n k e
theorem Reach.uniq {cs : List Cd} {n e e' : Int} (h : Reach cs n e) (h' : Reach cs n e') : e = e' := by
  obtain ⟨k, h⟩ := h
  obtain ⟨k', h'⟩ := h'
  exact (h.uniq h').2
theorem Reach.end_ {cs : List Cd} {n e : Int} (h : Reach cs n e) : ∃ c, ins cs e = some c ∧ c.op ≠ 16 := by
  obtain ⟨k, h⟩ := h
  induction h with
  | here h ho => exact ⟨_, h, ho⟩
  | step _ _ _ ih => exact ih
theorem Reach.self {cs : List Cd} {n e : Int} (h : Reach cs n e) : Reach cs e e := by
  obtain ⟨c, h1, h2⟩ := h.end_
  exact ⟨0, .here h1 h2⟩
theorem Reach.next {cs : List Cd} {n e : Int} {c : Cd} (h : ins cs n = some c) (ho : c.op = 16) : Reach cs n e ↔ Reach cs c.n e := by
  constructor
  · rintro ⟨k, r⟩
    cases r with
    | here h2 ho2 => rw [h] at h2; injection h2 with h2; subst h2; exact absurd ho ho2
    | step h2 ho2 r2 => rw [h] at h2; injection h2 with h2; subst h2; exact ⟨_, r2⟩
  · rintro ⟨k, r⟩
    exact ⟨k + 1, .step h ho r⟩
open Classical in
noncomputable def endOf (cs : List Cd) (n : Int) : Option Int := if h : ∃ e, Reach cs n e then some h.choose else none
theorem endOf_some {cs : List Cd} {n e : Int} : endOf cs n = some e ↔ Reach cs n e := by
  unfold endOf
  constructor
  · intro h
    split at h
    · rename_i hh
      injection h with h
      rw [← h]
      exact hh.choose_spec
    · cases h
  · intro h
    have hh : ∃ e, Reach cs n e := ⟨e, h⟩
    rw [dif_pos hh]
    congr 1
    exact hh.choose_spec.uniq h
theorem endOf_congr {cs cs' : List Cd} {n : Int} (h : ∀ e, Reach cs n e ↔ Reach cs' n e) : endOf cs n = endOf cs' n := by
  cases h1 : endOf cs n with
  | some e => exact (endOf_some.2 ((h e).1 (endOf_some.1 h1))).symm
  | none =>
    cases h2 : endOf cs' n with
    | none => rfl
    | some e => rw [endOf_some.2 ((h e).2 (endOf_some.1 h2))] at h1; cases h1
/-- what the program's Target answers -/
def Tgt (cs : List Cd) (n t : Int) : Prop := (∃ c, ins cs t = some c ∧ (endOf cs n = none → c.op = 16)) ∧ ∀ e, endOf cs n = some e → t = e
open Classical in
/-- where an instruction jumps, threaded -/
noncomputable def thrN (cs : List Cd) (c : Cd) : Int := if jmp c = true then (match endOf cs c.n with | some e => e | none => c.n) else c.n
noncomputable def ch1 (cs : List Cd) (c : Cd) : Bool := decide (thrN cs c ≠ c.n)
noncomputable def thr1 (cs : List Cd) (i : Nat) : List Cd := match cs[i]? with | some c => cs.set i { c with n := thrN cs c } | none => cs
noncomputable def thrd (cs : List Cd) : Nat → List Cd × Bool
  | 0 => (cs, false)
  | k + 1 => (thr1 (thrd cs k).1 k, (thrd cs k).2 || (match (thrd cs k).1[k]? with | some c => ch1 (thrd cs k).1 c | none => false))
/-- alike but for where jumps go -/
def Like (cs cs' : List Cd) : Prop := cs'.length = cs.length ∧ ∀ (i : Nat) (c : Cd), cs[i]? = some c → ∃ c', cs'[i]? = some c' ∧ c'.op = c.op ∧ c'.a = c.a ∧ c'.b = c.b ∧ c'.c = c.c ∧ (jmp c = false → c' = c) ∧ (InB cs → jmp c = true → 0 ≤ c'.n ∧ c'.n < cs.length)
theorem mem_of_at {cs : List Cd} {i : Nat} {c : Cd} (h : cs[i]? = some c) : c ∈ cs := List.mem_of_getElem? h
theorem Like.refl (cs : List Cd) : Like cs cs := ⟨rfl, fun i c h => ⟨c, h, rfl, rfl, rfl, rfl, fun _ => rfl, fun hb hj => hb c (mem_of_at h) hj⟩⟩
theorem Like.inB {cs cs' : List Cd} (h : Like cs cs') (hb : InB cs) : InB cs' := by
  intro c' hc' hj
  obtain ⟨i, hi, rfl⟩ := List.getElem_of_mem hc'
  obtain ⟨c'', h1, h2, _, _, _, _, h6⟩ := h.2 i (cs[i]'(by rw [← h.1]; exact hi)) (List.getElem?_eq_getElem _)
  rw [List.getElem?_eq_getElem hi] at h1
  injection h1 with h1
  rw [h.1, h1]
  refine h6 hb ?_
  unfold jmp at hj ⊢
  rw [← h2, ← h1]
  exact hj
theorem Like.trans {a b c : List Cd} (h : Like a b) (k : Like b c) : Like a c := by
  refine ⟨k.1.trans h.1, fun i x hx => ?_⟩
  obtain ⟨y, y1, y2, y3, y4, y5, y6, y7⟩ := h.2 i x hx
  obtain ⟨z, z1, z2, z3, z4, z5, z6, z7⟩ := k.2 i y y1
  have hj : jmp y = jmp x := by unfold jmp; rw [y2]
  refine ⟨z, z1, z2.trans y2, z3.trans y3, z4.trans y4, z5.trans y5, fun hx => ?_, fun hb hx => ?_⟩
  · rw [z6 (by rw [hj]; exact hx), y6 hx]
  · have := z7 (h.inB hb) (by rw [hj]; exact hx)
    rw [h.1] at this
    exact this
theorem thrN_jmp {cs : List Cd} {c : Cd} (h : jmp c = false) : thrN cs c = c.n := by unfold thrN; rw [if_neg (by simp [h])]
theorem thrN_in {cs : List Cd} {c : Cd} (hj : jmp c = true) (h : 0 ≤ c.n ∧ c.n < cs.length) : 0 ≤ thrN cs c ∧ thrN cs c < cs.length := by
  unfold thrN
  rw [if_pos hj]
  cases he : endOf cs c.n with
  | none => exact h
  | some e =>
    obtain ⟨d, hd, _⟩ := (endOf_some.1 he).end_
    obtain ⟨a, b, _⟩ := ins_lt hd
    exact ⟨a, b⟩
theorem thr1_at {cs : List Cd} {i : Nat} {c : Cd} (h : cs[i]? = some c) : thr1 cs i = cs.set i { c with n := thrN cs c } := by unfold thr1; rw [h]
theorem thr1_like (cs : List Cd) (i : Nat) : Like cs (thr1 cs i) := by
  cases h : cs[i]? with
  | none => unfold thr1; rw [h]; exact Like.refl cs
  | some c =>
    rw [thr1_at h]
    refine ⟨List.length_set, fun j d hd => ?_⟩
    by_cases hj : i = j
    · subst hj
      rw [h] at hd
      injection hd with hd
      subst hd
      obtain ⟨hl, _⟩ := List.getElem?_eq_some_iff.1 h
      refine ⟨{ c with n := thrN cs c }, by rw [List.getElem?_set_self hl], rfl, rfl, rfl, rfl, fun hn => ?_, fun hb hjj => thrN_in hjj (hb c (mem_of_at h) hjj)⟩
      rw [thrN_jmp hn]
    · exact ⟨d, by rw [List.getElem?_set_ne hj]; exact hd, rfl, rfl, rfl, rfl, fun _ => rfl, fun hb hjj => hb d (mem_of_at hd) hjj⟩
theorem thrd_like (cs : List Cd) : ∀ k, Like cs (thrd cs k).1
  | 0 => Like.refl cs
  | k + 1 => (thrd_like cs k).trans (thr1_like _ k)
theorem Like.ins {cs cs' : List Cd} (h : Like cs cs') {n : Int} {c : Cd} (hc : ins cs n = some c) : ∃ c', ins cs' n = some c' ∧ c'.op = c.op := by
  obtain ⟨h0, _, h2⟩ := ins_lt hc
  obtain ⟨c', h3, h4, _⟩ := h.2 _ _ h2
  exact ⟨c', by unfold Peep.ins; rw [if_pos h0]; exact h3, h4⟩
/-- threading leaves where one comes to -/
theorem thr1_reach (cs : List Cd) (i : Nat) (n e : Int) : Reach cs n e ↔ Reach (thr1 cs i) n e := by
  cases h : cs[i]? with
  | none => unfold thr1; rw [h]
  | some c =>
    have hi : ins cs (i : Int) = some c := by rw [ins_nat]; exact h
    obtain ⟨hl, _⟩ := List.getElem?_eq_some_iff.1 h
    have hi' : ins (thr1 cs i) (i : Int) = some { c with n := thrN cs c } := by rw [ins_nat, thr1_at h, List.getElem?_set_self hl]
    have hother : ∀ m : Int, m ≠ i → ins (thr1 cs i) m = ins cs m := by
      intro m hm
      unfold ins
      split
      · rw [thr1_at h, List.getElem?_set_ne (by omega)]
      · rfl
    constructor
    · rintro ⟨k, r⟩
      induction r with
      | here h1 ho =>
        obtain ⟨c', h2, h3⟩ := (thr1_like cs i).ins h1
        exact ⟨0, .here h2 (by rw [h3]; exact ho)⟩
      | @step m e k d h1 ho r ih =>
        by_cases hm : m = i
        · subst hm
          rw [hi] at h1
          injection h1 with h1
          subst h1
          have he : endOf cs c.n = some e := endOf_some.2 ⟨k, r⟩
          have ht : thrN cs c = e := by unfold thrN; rw [if_pos (by unfold jmp; simp [ho]), he]
          rw [ht] at hi'
          obtain ⟨d, hd, hdo⟩ := Reach.end_ ⟨k, r⟩
          obtain ⟨d', hd', hdo'⟩ := (thr1_like cs i).ins hd
          exact ⟨1, .step hi' ho (.here hd' (by rw [hdo']; exact hdo))⟩
        · obtain ⟨k', r'⟩ := ih
          exact ⟨k' + 1, .step (by rw [hother m hm]; exact h1) ho r'⟩
    · rintro ⟨k, r⟩
      have hback : ∀ {m : Int} {d : Cd}, ins (thr1 cs i) m = some d → ∃ d0, ins cs m = some d0 ∧ d0.op = d.op := by
        intro m d hd
        by_cases hm : m = i
        · subst hm
          rw [hi'] at hd
          injection hd with hd
          exact ⟨c, hi, by rw [← hd]⟩
        · exact ⟨d, by rw [← hother m hm]; exact hd, rfl⟩
      induction r with
      | here h1 ho =>
        obtain ⟨d0, h2, h3⟩ := hback h1
        exact ⟨0, .here h2 (by rw [h3]; exact ho)⟩
      | @step m e k d h1 ho r ih =>
        by_cases hm : m = i
        · subst hm
          rw [hi'] at h1
          injection h1 with h1
          rw [← h1] at ho ih r
          simp only at ho ih r
          rw [Reach.next hi ho]
          have hj : jmp c = true := by unfold jmp; simp [ho]
          cases he : endOf cs c.n with
          | none =>
            have ht : thrN cs c = c.n := by unfold thrN; rw [if_pos hj, he]
            rw [ht] at ih
            exact ih
          | some e0 =>
            have ht : thrN cs c = e0 := by unfold thrN; rw [if_pos hj, he]
            rw [ht] at ih
            have h2 := endOf_some.1 he
            rw [← h2.self.uniq ih]
            exact h2
        · rw [hother m hm] at h1
          exact (Reach.next h1 ho).2 ih
theorem thrd_reach (cs : List Cd) : ∀ (k : Nat) (n e : Int), Reach cs n e ↔ Reach (thrd cs k).1 n e
  | 0, n, e => Iff.rfl
  | k + 1, n, e => (thrd_reach cs k n e).trans (thr1_reach _ k n e)
/-- a pass more changes nothing -/
def Still (cs : List Cd) : Prop := ∀ c ∈ cs, thrN cs c = c.n
theorem thrN_reach {cs cs' : List Cd} (h : ∀ n e, Reach cs n e ↔ Reach cs' n e) (c : Cd) : thrN cs c = thrN cs' c := by
  unfold thrN
  rw [endOf_congr (h c.n)]
theorem thrN_twice {cs : List Cd} (c : Cd) : thrN cs { c with n := thrN cs c } = thrN cs c := by
  by_cases hj : jmp c = true
  · have hj' : jmp { c with n := thrN cs c } = true := hj
    cases he : endOf cs c.n with
    | none =>
      have ht : thrN cs c = c.n := by unfold thrN; rw [if_pos hj, he]
      rw [ht]
      exact ht
    | some e =>
      have ht : thrN cs c = e := by unfold thrN; rw [if_pos hj, he]
      rw [ht]
      have := endOf_some.2 (endOf_some.1 he).self
      have hj2 : jmp { c with n := e } = true := hj
      unfold thrN
      rw [if_pos hj2]
      simp only [this]
  · have hj2 : jmp c = false := by simpa using hj
    rw [thrN_jmp (c := { c with n := thrN cs c }) hj2]
theorem thrd_still (cs : List Cd) : Still (thrd cs cs.length).1 := by
  have key : ∀ k, k ≤ cs.length → ∀ (i : Nat) (c : Cd), i < k → (thrd cs k).1[i]? = some c → thrN (thrd cs k).1 c = c.n := by
    intro k
    induction k with
    | zero => intro _ i c hi; omega
    | succ k ih =>
      intro hk i c hi hc
      have hr := fun n e => thr1_reach (thrd cs k).1 k n e
      have hl : (thrd cs k).1.length = cs.length := (thrd_like cs k).1
      rw [show (thrd cs (k + 1)).1 = thr1 (thrd cs k).1 k from rfl] at hc ⊢
      rw [← thrN_reach hr]
      have hat : (thrd cs k).1[k]? = some (thrd cs k).1[k] := List.getElem?_eq_getElem (by omega)
      rw [thr1_at hat] at hc
      by_cases hik : k = i
      · subst hik
        rw [List.getElem?_set_self (by omega)] at hc
        injection hc with hc
        rw [← hc]
        exact thrN_twice _
      · rw [List.getElem?_set_ne hik] at hc
        exact ih (by omega) i c (by omega) hc
  intro c hc
  obtain ⟨i, hi, rfl⟩ := List.getElem_of_mem hc
  have hl : (thrd cs cs.length).1.length = cs.length := (thrd_like cs _).1
  exact key cs.length (Nat.le_refl _) i _ (by omega) (List.getElem?_eq_getElem hi)
theorem thr1_still {cs : List Cd} (h : Still cs) (i : Nat) : thr1 cs i = cs := by
  cases hc : cs[i]? with
  | none => unfold thr1; rw [hc]
  | some c =>
    rw [thr1_at hc, h c (mem_of_at hc)]
    obtain ⟨hl, rfl⟩ := List.getElem?_eq_some_iff.1 hc
    exact List.set_getElem_self hl
theorem thrd_of_still {cs : List Cd} (h : Still cs) : ∀ k, thrd cs k = (cs, false)
  | 0 => rfl
  | k + 1 => by
    rw [thrd, thrd_of_still h k]
    simp only [thr1_still h]
    cases hc : cs[k]? with
    | none => rfl
    | some c =>
      simp only [Bool.false_or, Prod.mk.injEq, true_and]
      unfold ch1
      rw [h c (mem_of_at hc)]
      simp
theorem thrd_same (cs : List Cd) : ∀ k, (thrd cs k).2 = false → (thrd cs k).1 = cs
  | 0, _ => rfl
  | k + 1, h => by
    rw [thrd] at h ⊢
    simp only [Bool.or_eq_false_iff] at h
    have h1 := thrd_same cs k h.1
    rw [h1] at h ⊢
    simp only
    cases hc : cs[k]? with
    | none => unfold thr1; rw [hc]
    | some c =>
      rw [hc] at h
      have : thrN cs c = c.n := by simpa [ch1] using h.2
      rw [thr1_at hc, this]
      obtain ⟨hl, rfl⟩ := List.getElem?_eq_some_iff.1 hc
      exact List.set_getElem_self hl
end Go.Proofs.Ytbeenfkmnchhbaa.Peep
