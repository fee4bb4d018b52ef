/- The plain law of peep: the end of the rounds. -/
import Derived.Test.YtbeenfkmnchhbaaPeepMath3
namespace Go.Proofs.Ytbeenfkmnchhbaa.Peep
open Object
set_option linter.unusedVariables false
theorem right_cases {d : OD} (h : objRight d = true) : (d = ⟨[], [], []⟩) ∨ (d.code.length ≠ 0 ∧ Rt d) := by
  by_cases h0 : d.code.length = 0
  · left
    unfold objRight at h
    rw [if_pos h0] at h
    obtain ⟨cs, es, ls⟩ := d
    simp only at h h0
    have h1 : es.length + ls.length = 0 := by simpa using h
    rw [List.eq_nil_of_length_eq_zero h0, List.eq_nil_of_length_eq_zero (l := es) (by omega), List.eq_nil_of_length_eq_zero (l := ls) (by omega)]
  · exact .inr ⟨h0, (right_iff d h0).1 h⟩
theorem rk_full (m : Nat) : ∀ (l : List Cd) (i : Nat), (∀ (j : Nat) (c : Cd), l[j]? = some c → keepC m (i + j) c = true) → rk m i l = l
  | [], _, _ => rfl
  | c :: l, i, h => by
    rw [rk, if_pos (by simpa using h 0 c rfl), rk_full m l (i + 1) (fun j d hd => by rw [show i + 1 + j = i + (j + 1) from by omega]; exact h (j + 1) d hd)]
    rfl
def th (d : OD) : List Cd → OD := fun cs => { d with code := cs }
open Classical in
noncomputable def mu (d : OD) : Nat := 2 * d.code.length + if Still d.code then 0 else 1
noncomputable def more (d : OD) : Bool := decide ((rnd d).code.length < d.code.length) || turned d
structure Round (d : OD) : Prop where
  right : objRight (rnd d) = true
  len : (rnd d).code.length ≤ d.code.length
  ents : (rnd d).ents.map (·.name) = d.ents.map (·.name)
  calls : (rnd d).calls.map (·.name) = d.calls.map (·.name)
  done : more d = false → Stable (rnd d) ∧ rnd d = d
  less : more d = true → mu (rnd d) < mu d
  still : Stable d → rnd d = d ∧ more d = false
theorem mu_le (d : OD) : 2 * d.code.length ≤ mu d ∧ mu d ≤ 2 * d.code.length + 1 := by unfold mu; split <;> omega
theorem round_any {d : OD} (h : objRight d = true) : Round d := by
  rcases right_cases h with rfl | ⟨h0, hR⟩
  · have hr : rnd ⟨[], [], []⟩ = ⟨[], [], []⟩ := rfl
    have ht : turned ⟨[], [], []⟩ = false := rfl
    have hm : more ⟨[], [], []⟩ = false := by unfold more; rw [hr, ht]; rfl
    exact ⟨by rw [hr]; exact h, by rw [hr]; exact Nat.le_refl _, by rw [hr], by rw [hr], fun _ => ⟨by rw [hr]; exact ⟨by intro c hc; simp at hc, by intro j c hj; simp at hj⟩, hr⟩, fun h => absurd h (by rw [hm]; simp), fun _ => ⟨hr, hm⟩⟩
  · have hlk := thrd_like d.code d.code.length
    have hR1 := hR.like h0 hlk
    have h01 : (thrd d.code d.code.length).1.length ≠ 0 := by rw [hlk.1]; exact h0
    obtain ⟨w1, w2, w3⟩ := hR1.wo h01
    have hlen : (rnd d).code.length ≤ d.code.length := by
      have : (rnd d).code.length ≤ (thrd d.code d.code.length).1.length := w3
      rw [hlk.1] at this
      exact this
    refine ⟨(right_iff _ w2).2 w1, hlen, ?_, ?_, ?_, ?_, ?_⟩
    · unfold rnd wo
      simp only [List.map_map]
      rfl
    · unfold rnd wo
      simp only [List.map_map]
      rfl
    · intro hm
      unfold more at hm
      rw [Bool.or_eq_false_iff, decide_eq_false_iff_not] at hm
      have hsame := thrd_same d.code d.code.length hm.2
      have hd1 : ({ d with code := (thrd d.code d.code.length).1 } : OD) = d := by rw [hsame]
      have hrw : rnd d = wo d := by unfold rnd; rw [hd1]
      have hl2 : (wo d).code.length = d.code.length := by rw [← hrw]; omega
      obtain ⟨a, b⟩ := wo_same hR hl2
      rw [hrw, a]
      refine ⟨⟨?_, b⟩, rfl⟩
      have := thrd_still d.code
      rw [hsame] at this
      exact this
    · intro hm
      obtain ⟨m1, m2⟩ := mu_le d
      obtain ⟨m3, m4⟩ := mu_le (rnd d)
      by_cases hlt : (rnd d).code.length < d.code.length
      · omega
      · have ht : turned d = true := by
          unfold more at hm
          rw [Bool.or_eq_true, decide_eq_true_eq] at hm
          exact hm.resolve_left hlt
        have hns : ¬ Still d.code := by
          intro hs
          unfold turned at ht
          rw [thrd_of_still hs] at ht
          cases ht
        have hmu : mu d = 2 * d.code.length + 1 := by unfold mu; rw [if_neg hns]
        have hl2 : (wo { d with code := (thrd d.code d.code.length).1 }).code.length = (thrd d.code d.code.length).1.length := by
          rw [hlk.1]
          show (rnd d).code.length = _
          omega
        obtain ⟨a, _⟩ := wo_same hR1 hl2
        have hr : rnd d = { d with code := (thrd d.code d.code.length).1 } := a
        have hst : Still (rnd d).code := by rw [hr]; exact thrd_still d.code
        have hmu2 : mu (rnd d) = 2 * (rnd d).code.length := by unfold mu; rw [if_pos hst]; rfl
        omega
    · rintro ⟨hs, hk⟩
      have ht := thrd_of_still hs d.code.length
      have hd1 : ({ d with code := (thrd d.code d.code.length).1 } : OD) = d := by rw [ht]
      have hrw : rnd d = wo d := by unfold rnd; rw [hd1]
      have hfull := rk_full d.code.length d.code 0 (fun j c hj => by simpa using hk j c hj)
      have hl2 : (wo d).code.length = d.code.length := by unfold wo; simp [hfull]
      obtain ⟨a, _⟩ := wo_same hR hl2
      refine ⟨by rw [hrw, a], ?_⟩
      unfold more turned
      rw [hrw, a, ht]
      simp
/-- what Run leaves -/
structure Ran (d x : OD) : Prop where
  right : objRight x = true
  stable : Stable x
  len : x.code.length ≤ d.code.length
  ents : x.ents.map (·.name) = d.ents.map (·.name)
  calls : x.calls.map (·.name) = d.calls.map (·.name)
  same : Stable d → x = d
theorem Ran.idle {d x : OD} (h : Ran d x) {j : Nat} {c : Cd} (hj : x.code[j]? = some c) (hi : idleB c j = true) : j + 1 = x.code.length := by
  have := h.stable.2 j c hj
  unfold keepC at this
  rw [hi] at this
  simpa using this
theorem Ran.jump {d x : OD} (h : Ran d x) {c : Cd} (hc : c ∈ x.code) (hj : jmp c = true) {t : Int} (ht : Reach x.code c.n t) : t = c.n := by
  have h1 := h.stable.1 c hc
  unfold thrN at h1
  rw [if_pos hj, endOf_some.2 ht] at h1
  exact h1
theorem right_inB {d : OD} (h : objRight d = true) : InB d.code := by
  rcases right_cases h with rfl | ⟨_, hR⟩
  · intro c hc; simp at hc
  · exact hR.inB
theorem right_pos {d : OD} (h : objRight d = true) : (∀ e ∈ d.ents, 0 ≤ e.pos ∧ e.pos < d.code.length) ∧ (∀ e ∈ d.calls, 0 ≤ e.pos ∧ e.pos < d.code.length) ∧ d.code.length ≤ 32768 ∧ d.ents.length ≤ 4096 ∧ d.calls.length ≤ 4096 := by
  rcases right_cases h with rfl | ⟨_, hR⟩
  · exact ⟨by simp, by simp, by simp, by simp, by simp⟩
  · refine ⟨?_, ?_, hR.len, hR.e4, hR.c4⟩
    · intro e hm
      have := hR.ents e hm
      unfold entOk at this
      simp only [Bool.and_eq_true, decide_eq_true_eq] at this
      exact ⟨this.1.2, this.2⟩
    · have hcalls : ∀ (l : List Cd) (k : Nat) (ls' : List En), k + l.length ≤ d.code.length → callsOk (k : Int) l ls' = true → ∀ e ∈ ls', 0 ≤ e.pos ∧ e.pos < d.code.length := by
        intro l
        induction l with
        | nil =>
          intro k ls' _ hok e hm
          rw [cok_nil] at hok
          cases ls' with
          | nil => cases hm
          | cons _ _ => cases hok
        | cons c l ih =>
          intro k ls' hkl hok e hm
          simp only [List.length_cons] at hkl
          rw [cok_cons] at hok
          by_cases h18 : c.op = 18
          · rw [if_pos h18] at hok
            cases ls' with
            | nil => cases hm
            | cons x r =>
              simp only [Bool.and_eq_true, beq_iff_eq] at hok
              rcases List.mem_cons.1 hm with rfl | hm
              · omega
              · exact ih (k + 1) r (by omega) (by exact_mod_cast hok.2.2.2) e hm
          · rw [if_neg h18] at hok
            exact ih (k + 1) ls' (by omega) (by exact_mod_cast hok) e hm
      exact hcalls d.code 0 d.calls (by omega) (by exact_mod_cast hR.calls)
end Go.Proofs.Ytbeenfkmnchhbaa.Peep
