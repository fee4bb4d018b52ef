/- The plain law of peep: what Run leaves; the way that the reference's Target takes. -/
import Derived.Test.YtbeenfkmnchhbaaPeepTarget
namespace Go.Proofs.Ytbeenfkmnchhbaa.Peep
open Object
set_option linter.unusedVariables false
inductive RunR : OD → OD → Prop
  | stop {d : OD} (h : more d = false) : RunR d (rnd d)
  | step {d x : OD} (h : more d = true) (r : RunR (rnd d) x) : RunR d x
theorem RunR.ran {d x : OD} (r : RunR d x) : objRight d = true → Ran d x := by
  induction r with
  | @stop d h =>
    intro hr
    have R := round_any hr
    obtain ⟨h1, h2⟩ := R.done h
    exact ⟨R.right, h1, R.len, R.ents, R.calls, fun _ => h2⟩
  | @step d x h r ih =>
    intro hr
    have R := round_any hr
    have I := ih R.right
    refine ⟨I.right, I.stable, Nat.le_trans I.len R.len, I.ents.trans R.ents, I.calls.trans R.calls, fun hs => ?_⟩
    have := (R.still hs).2
    rw [h] at this
    cases this
/-- the next place, and a way of them -/
def nxt (cs : List Cd) (x : Int) : Int := match ins cs x with | some c => c.n | none => 0
def pth (cs : List Cd) (n : Int) : Nat → Int
  | 0 => n
  | k + 1 => nxt cs (pth cs n k)
def pthL (cs : List Cd) (n : Int) : Nat → List Int
  | 0 => []
  | k + 1 => pth cs n k :: pthL cs n k
theorem pthL_len (cs : List Cd) (n : Int) : ∀ k, (pthL cs n k).length = k
  | 0 => rfl
  | k + 1 => by rw [pthL, List.length_cons, pthL_len cs n k]
theorem pth_mem (cs : List Cd) (n : Int) : ∀ {k j : Nat}, j < k → pth cs n j ∈ pthL cs n k
  | 0, j, h => by omega
  | k + 1, j, h => by
    rw [pthL]
    by_cases e : j = k
    · subst e; exact List.mem_cons_self
    · exact List.mem_cons_of_mem _ (pth_mem cs n (by omega))
theorem nxt_at {cs : List Cd} {x : Int} {c : Cd} (h : ins cs x = some c) : nxt cs x = c.n := by unfold nxt; rw [h]
/-- the invariant of the reference's Target -/
structure RWay (cs : List Cd) (n : Int) (k : Nat) : Prop where
  way : Way cs n (pth cs n k) (pthL cs n k)
  at0 : 0 ≤ pth cs n k
  at1 : pth cs n k < cs.length
theorem RWay.begin_ {cs : List Cd} {n : Int} (h0 : 0 ≤ n) (h1 : n < cs.length) : RWay cs n 0 := ⟨Way.begin_ cs n, h0, h1⟩
theorem RWay.rng {cs : List Cd} {n : Int} {k : Nat} (h : RWay cs n k) {j : Nat} (hj : j ≤ k) : 0 ≤ pth cs n j ∧ pth cs n j < cs.length := by
  by_cases e : j = k
  · subst e; exact ⟨h.at0, h.at1⟩
  · exact h.way.rng _ (pth_mem cs n (by omega))
theorem RWay.lt {cs : List Cd} {n : Int} {k : Nat} (h : RWay cs n k) : k < cs.length := by
  have h1 : (pth cs n k :: pthL cs n k).Nodup := List.nodup_cons.2 ⟨h.way.new_, h.way.nodup⟩
  have := nodup_range (m := cs.length) h1 (fun a ha => by
    rcases List.mem_cons.1 ha with rfl | ha
    · exact ⟨h.at0, h.at1⟩
    · exact h.way.rng a ha)
  rw [List.length_cons, pthL_len] at this
  omega
theorem RWay.next {cs : List Cd} {n : Int} {k : Nat} {c : Cd} (h : RWay cs n k) (hc : ins cs (pth cs n k) = some c) (ho : c.op = 16) (hi : 0 ≤ c.n ∧ c.n < cs.length) (hm : c.n ∉ pthL cs n (k + 1)) : RWay cs n (k + 1) := by
  have hp : pth cs n (k + 1) = c.n := by rw [pth, nxt_at hc]
  refine ⟨?_, by rw [hp]; exact hi.1, by rw [hp]; exact hi.2⟩
  rw [hp]
  exact h.way.next hc ho hm
/-- a jump that is lazy in what Run leaves comes round -/
theorem Ran.round {d x : OD} (h : Ran d x) {c e : Cd} (hc : c ∈ x.code) (hj : jmp c = true) (he : ins x.code c.n = some e) (ho : e.op = 16) {t : Int} (ht : Tgt x.code c.n t) : ∃ b, ins x.code t = some b ∧ b.op = 16 := by
  obtain ⟨⟨b, hb, hb2⟩, _⟩ := ht
  refine ⟨b, hb, hb2 ?_⟩
  cases hz : endOf x.code c.n with
  | none => rfl
  | some z =>
    exfalso
    have hr := endOf_some.1 hz
    have e1 := h.jump hc hj hr
    subst e1
    obtain ⟨b2, h1, h2⟩ := hr.end_
    rw [he] at h1
    injection h1 with h1
    subst h1
    exact h2 ho
/-- the law's own object -/
def kd : OD := ⟨[⟨16, 0, 0, 0, 1⟩, ⟨19, -1, 0, 0, 0⟩], [⟨⟨#[112, 46, 102]⟩, 1⟩], []⟩
def ke : OD := ⟨[⟨19, -1, 0, 0, 0⟩], [⟨⟨#[112, 46, 102]⟩, 0⟩], []⟩
theorem kd_right : objRight kd = true := by decide +kernel
theorem ke_right : objRight ke = true := by decide +kernel
theorem kd_still : Still kd.code := by
  intro c hc
  simp only [kd, List.mem_cons, List.not_mem_nil, or_false] at hc
  rcases hc with rfl | rfl
  · have hr : Reach kd.code 1 1 := ⟨0, .here (c := ⟨19, -1, 0, 0, 0⟩) rfl (by decide)⟩
    have he : endOf kd.code ({ op := 16, a := 0, b := 0, c := 0, n := 1 } : Cd).n = some 1 := endOf_some.2 hr
    unfold thrN
    rw [he]
    rfl
  · exact thrN_jmp rfl
theorem ke_stable : Stable ke := by
  refine ⟨?_, ?_⟩
  · intro c hc
    simp only [ke, List.mem_singleton] at hc
    subst hc
    exact thrN_jmp rfl
  · intro j c hj
    match j, hj with
    | 0, hj =>
      injection hj with hj
      subst hj
      rfl
    | j + 1, hj => simp [ke] at hj
theorem kd_rnd : rnd kd = ke := by
  have ht := thrd_of_still kd_still kd.code.length
  unfold rnd
  rw [ht]
  decide +kernel
theorem kd_more : more kd = true := by
  unfold more
  rw [kd_rnd]
  rfl
theorem kd_run {x : OD} (r : RunR kd x) : x = ke := by
  cases r with
  | stop h => rw [kd_more] at h; cases h
  | step _ r =>
    rw [kd_rnd] at r
    obtain ⟨h1, h2⟩ := (round_any ke_right).still ke_stable
    cases r with
    | stop _ => exact h1
    | step h _ => rw [h2] at h; cases h
end Go.Proofs.Ytbeenfkmnchhbaa.Peep
