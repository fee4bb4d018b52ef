/- A region that draws its order, in the body of a loop over a function: what holds of it outside a fence holds in a round's frame. -/
import Derived.Test.YtmjkohlhbboapaaRangeV
import Derived.OrdersIn
import Derived.OrdersHeld
import Derived.RangeFuncCalls
namespace Go.Proofs.Ytmjkohlhbboapaa
open Go.RowKit Go.Shelf
set_option linter.unusedVariables false
section
variable {P : Program} {ops : Array Oper} {Q : Exit → Act → World → Prop} {md : Region.Mode} {l n : Nat}
theorem oper_round {o : Oper} {a : Act} {w : World} {K : Act → World → Prop} (hnd : ∀ c, o.op ≠ .defer c) (h : o.wp P a w K Q) : o.wpIn (Fence.wide.inRound l) n P a w K Q := by
  refine ⟨fun f _ => trivial, ?_⟩
  rw [Oper.semAt_plain _ _ _ hnd]
  unfold Oper.wp at h
  generalize (execOp a.eval o).run P w = r at h ⊢
  cases r with
  | ok x w' =>
    cases x <;> first
      | exact h
      | exact h.elim
      | exact ⟨fun hd => (by cases hd), CallsIn.inRound l (callsIn_wide.2 h)⟩
      | exact ⟨fun hd => (by cases hd), fun c cs _ => let ⟨v, w', r, s⟩ := h c cs; ⟨v, w', r, stepsIn_wide.2 s⟩⟩
  | halt x w' => cases x <;> exact h
theorem wpOp_round {i : Nat} {K K' : Act → World → Prop} {a : Act} {w : World} (hnd : ∀ o : Oper, ops[i]? = some o → ∀ c, o.op ≠ .defer c) (hQ : ¬ LetsOut Q) (hK : ∀ a w, K a w → K' a w) (h : wpOp P ops Q i K a w) : wpOpIn (Fence.wide.inRound l) n P ops Q i K' a w := by
  have h := wpOp_mono hK h
  unfold wpOp at h
  unfold wpOpIn
  split
  · rename_i e
    simp only [e] at h
    exact h
  · rename_i o e
    simp only [e] at h
    split
    · rename_i e2
      rw [if_pos e2] at h
      rcases h with h | h
      · exact oper_round (hnd o e) h
      · exact absurd h.2 hQ
    · rename_i e2
      rw [if_neg e2] at h
      exact ⟨fun f _ => trivial, h⟩
theorem wpAny_round (hnd : ∀ (i : Nat) (o : Oper), ops[i]? = some o → ∀ c, o.op ≠ .defer c) (hQ : ¬ LetsOut Q) : ∀ (fuel : Nat) (listed : Array Bool) (a : Act) (w : World), wpAny P md ops Q fuel listed a w → wpAnyIn (Fence.wide.inRound l) n P md ops Q fuel listed a w
  | 0, _, _, _, h => h
  | fuel + 1, _, _, _, h => ⟨h.1, fun i hi => wpOp_round (hnd i) hQ (fun a w k => wpAny_round hnd hQ fuel _ a w k) (h.2 i hi)⟩
theorem wpIn_region_held {id : Nat} {S : World → Prop} {a : Act} {w : World} (hm : P.follows .mixedOrders = true) (hnd : ∀ (i : Nat) (o : Oper), ops[i]? = some o → ∀ c, o.op ≠ .defer c) (hQ : ¬ LetsOut Q)
    (h : wpAnyH P .any ops Q S ops.size (Array.replicate ops.size false) a w.drew) : (Code.region id ops true).wpIn (Fence.wide.inRound l) n P Q a w :=
  wpIn_region_any hm (wpAny_round hnd hQ _ _ _ _ (wpAny_of_held _ _ _ _ h))
def noDefer (o : Oper) : Bool := match o.op with | .defer _ => false | _ => true
theorem noDefer_all (h : ops.all noDefer = true) (i : Nat) (o : Oper) (ho : ops[i]? = some o) (c : Call) : o.op ≠ .defer c := by
  intro e
  obtain ⟨hi, rfl⟩ := Array.getElem?_eq_some_iff.1 ho
  have h1 := (Array.all_eq_true.1 h) i hi
  unfold noDefer at h1
  rw [e] at h1
  cases h1
/-- an operation is taken first, that yields its value wherever S holds -/
theorem takeH {S : World → Prop} {i fuel dst : Nat} {oi : Oper} {listed : Array Bool} {a : Act} {w : World} {v : Value} (hi : ops[i]? = some oi) (hs : Region.noSelect ops = true) (hf : Region.free md ops listed i = true) (hr : (Region.ready md ops listed).contains i = true)
    (hQ : ∀ c a w, Q (.panic c) (a.put oi.dst v) w → Q (.panic c) a w) (hd : oi.dst = some dst) (hg : oi.guard = none) (hrun : ∀ w, S w → (execOp a.eval oi).run P w = .ok (.value v) w) (hS : S w)
    (h : wpAnyH P md ops Q S fuel (listed.setIfInBounds i true) { a with tmps := a.tmps.setIfInBounds dst v } w) : wpAnyH P md ops Q S (fuel + 1) listed a w :=
  wpAnyH_take hi hs hf hr hQ (.inl ⟨by simp [Region.wanted, hg], hrun⟩) hS (by rw [hd]; exact h)
/-- the one that may come up -/
theorem oneH {S : World → Prop} {i fuel : Nat} {oi : Oper} {listed : Array Bool} {a : Act} {w : World} (hi : ops[i]? = some oi) (hr : Region.ready md ops listed = [i]) (hg : oi.guard = none)
    (h : if Region.wanted oi (yielded ops a.tmps) = true then oi.wp P a w (fun a' w' => S w' ∧ wpAnyH P md ops Q S fuel (listed.setIfInBounds i true) a' w') Q else True) : wpAnyH P md ops Q S (fuel + 1) listed a w :=
  wpAnyH_all hr (by simp) fun j hj => by
    rw [List.mem_singleton.1 hj]
    have hw : Region.wanted oi (yielded ops a.tmps) = true := by simp [Region.wanted, hg]
    rw [if_pos hw] at h
    unfold wpOp
    simp only [hi]
    rw [if_pos hw]
    exact .inl h
/-- two may come up -/
theorem twoH {S : World → Prop} {i j fuel : Nat} {oi oj : Oper} {listed : Array Bool} {a : Act} {w : World} (hi : ops[i]? = some oi) (hj : ops[j]? = some oj) (hr : Region.ready md ops listed = [i, j]) (hg : oi.guard = none) (hg2 : oj.guard = none)
    (h : if Region.wanted oi (yielded ops a.tmps) = true then oi.wp P a w (fun a' w' => S w' ∧ wpAnyH P md ops Q S fuel (listed.setIfInBounds i true) a' w') Q else True)
    (h2 : if Region.wanted oj (yielded ops a.tmps) = true then oj.wp P a w (fun a' w' => S w' ∧ wpAnyH P md ops Q S fuel (listed.setIfInBounds j true) a' w') Q else True) : wpAnyH P md ops Q S (fuel + 1) listed a w :=
  wpAnyH_all hr (by simp) fun k hk => by
    have hw : Region.wanted oi (yielded ops a.tmps) = true := by simp [Region.wanted, hg]
    have hw2 : Region.wanted oj (yielded ops a.tmps) = true := by simp [Region.wanted, hg2]
    rw [if_pos hw] at h
    rw [if_pos hw2] at h2
    unfold wpOp
    rcases List.mem_cons.1 hk with rfl | hk
    · simp only [hi]
      rw [if_pos hw]
      exact .inl h
    · rw [List.mem_singleton.1 hk]
      simp only [hj]
      rw [if_pos hw2]
      exact .inl h2
end
end Go.Proofs.Ytmjkohlhbboapaa
