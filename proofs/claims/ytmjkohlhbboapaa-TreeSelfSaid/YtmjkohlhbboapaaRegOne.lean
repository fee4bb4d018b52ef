/- A drawn region by hand: one operation at a known world. -/
import Derived.Test.YtmjkohlhbboapaaRegHand
namespace Go.Proofs.Ytmjkohlhbboapaa
open Go.RowKit Go.Shelf
set_option linter.unusedVariables false
section
variable {P : Program} {ops : Array Oper} {Q : Exit → Act → World → Prop} {md : Region.Mode}
/-- an operation, the one that may come up, that yields a value -/
theorem oneW {S : World → Prop} {i fuel dst : Nat} {oi : Oper} {listed : Array Bool} {a : Act} {w w' : World} {v : Value} (hi : ops[i]? = some oi) (hr : Region.ready md ops listed = [i]) (hd : oi.dst = some dst) (hw : Region.wanted oi (yielded ops a.tmps) = true)
    (hrun : (execOp a.eval oi).run P w = .ok (.value v) w') (hS : S w') (h : wpAnyH P md ops Q S fuel (listed.setIfInBounds i true) { a with tmps := a.tmps.setIfInBounds dst v } w') : wpAnyH P md ops Q S (fuel + 1) listed a w :=
  wpAnyH_all hr (by simp) fun j hj => by
    rw [List.mem_singleton.1 hj]
    unfold wpOp
    simp only [hi]
    rw [if_pos hw]
    refine .inl ?_
    unfold Oper.wp
    rw [hrun]
    show S w' ∧ wpAnyH P md ops Q S fuel (listed.setIfInBounds i true) (a.put oi.dst v) w'
    rw [hd]
    exact ⟨hS, h⟩
/-- a store of some kind: it yields nothing -/
theorem oneS {S : World → Prop} {i fuel : Nat} {oi : Oper} {listed : Array Bool} {a : Act} {w w' : World} {v : Value} (hi : ops[i]? = some oi) (hr : Region.ready md ops listed = [i]) (hd : oi.dst = none) (hw : Region.wanted oi (yielded ops a.tmps) = true)
    (hrun : (execOp a.eval oi).run P w = .ok .skip w' ∨ (execOp a.eval oi).run P w = .ok (.value v) w') (hS : S w') (h : wpAnyH P md ops Q S fuel (listed.setIfInBounds i true) a w') : wpAnyH P md ops Q S (fuel + 1) listed a w :=
  wpAnyH_all hr (by simp) fun j hj => by
    rw [List.mem_singleton.1 hj]
    unfold wpOp
    simp only [hi]
    rw [if_pos hw]
    refine .inl ?_
    unfold Oper.wp
    rcases hrun with hrun | hrun
    · rw [hrun]
      show S w' ∧ wpAnyH P md ops Q S fuel (listed.setIfInBounds i true) (a.put oi.dst undef) w'
      rw [hd]
      exact ⟨hS, h⟩
    · rw [hrun]
      show S w' ∧ wpAnyH P md ops Q S fuel (listed.setIfInBounds i true) (a.put oi.dst v) w'
      rw [hd]
      exact ⟨hS, h⟩
/-- two that may come up, in either order; each yields a value -/
theorem twoW {S : World → Prop} {i j fuel di dj : Nat} {oi oj : Oper} {listed : Array Bool} {a : Act} {w wi wj : World} {vi vj : Value} (hi : ops[i]? = some oi) (hj : ops[j]? = some oj) (hr : Region.ready md ops listed = [i, j]) (hdi : oi.dst = some di) (hdj : oj.dst = some dj)
    (hwi : Region.wanted oi (yielded ops a.tmps) = true) (hwj : Region.wanted oj (yielded ops a.tmps) = true) (hri : (execOp a.eval oi).run P w = .ok (.value vi) wi) (hrj : (execOp a.eval oj).run P w = .ok (.value vj) wj) (hSi : S wi) (hSj : S wj)
    (h1 : wpAnyH P md ops Q S fuel (listed.setIfInBounds i true) { a with tmps := a.tmps.setIfInBounds di vi } wi)
    (h2 : wpAnyH P md ops Q S fuel (listed.setIfInBounds j true) { a with tmps := a.tmps.setIfInBounds dj vj } wj) : wpAnyH P md ops Q S (fuel + 1) listed a w :=
  wpAnyH_all hr (by simp) fun k hk => by
    rcases List.mem_cons.1 hk with rfl | hk
    · unfold wpOp
      simp only [hi]
      rw [if_pos hwi]
      refine .inl ?_
      unfold Oper.wp
      rw [hri]
      show S wi ∧ wpAnyH P md ops Q S fuel (listed.setIfInBounds k true) (a.put oi.dst vi) wi
      rw [hdi]
      exact ⟨hSi, h1⟩
    · rw [List.mem_singleton.1 hk]
      unfold wpOp
      simp only [hj]
      rw [if_pos hwj]
      refine .inl ?_
      unfold Oper.wp
      rw [hrj]
      show S wj ∧ wpAnyH P md ops Q S fuel (listed.setIfInBounds j true) (a.put oj.dst vj) wj
      rw [hdj]
      exact ⟨hSj, h2⟩
/-- an operation that yields a value, at a known world -/
theorem val_if {o : Oper} {dst : Nat} {a : Act} {w w' : World} {v : Value} {K : Act → World → Prop} {E : Prop} (hd : o.dst = some dst) (hw : Region.wanted o (yielded ops a.tmps) = true)
    (hrun : (execOp a.eval o).run P w = .ok (.value v) w') (h : K { a with tmps := a.tmps.setIfInBounds dst v } w') : if Region.wanted o (yielded ops a.tmps) = true then o.wp P a w K Q else E := by
  rw [if_pos hw]
  unfold Oper.wp
  rw [hrun]
  show K (a.put o.dst v) w'
  rw [hd]
  exact h
/-- an operation by a law of its own, the one that may come up -/
theorem oneA {S : World → Prop} {i fuel dst : Nat} {oi : Oper} {listed : Array Bool} {a : Act} {w : World} (hi : ops[i]? = some oi) (hr : Region.ready md ops listed = [i]) (hg : oi.guard = none) (hd : oi.dst = some dst)
    (h : ∀ K : Act → World → Prop, (∀ v w', S w' → wpAnyH P md ops Q S fuel (listed.setIfInBounds i true) { a with tmps := a.tmps.setIfInBounds dst v } w' → K (a.put oi.dst v) w') → if Region.wanted oi (yielded ops a.tmps) = true then oi.wp P a w K Q else True) : wpAnyH P md ops Q S (fuel + 1) listed a w :=
  oneH hi hr hg (h _ fun v w' hS hw => by
    refine ⟨hS, ?_⟩
    rw [hd]
    exact hw)
theorem oneN {S : World → Prop} {i fuel : Nat} {oi : Oper} {listed : Array Bool} {a : Act} {w : World} (hi : ops[i]? = some oi) (hr : Region.ready md ops listed = [i]) (hg : oi.guard = none) (hd : oi.dst = none)
    (h : ∀ K : Act → World → Prop, (∀ v w', S w' → wpAnyH P md ops Q S fuel (listed.setIfInBounds i true) a w' → K (a.put oi.dst v) w') → if Region.wanted oi (yielded ops a.tmps) = true then oi.wp P a w K Q else True) : wpAnyH P md ops Q S (fuel + 1) listed a w :=
  oneH hi hr hg (h _ fun v w' hS hw => by
    refine ⟨hS, ?_⟩
    rw [hd]
    exact hw)
/-- one of two, by a law of its own -/
theorem law_if {S : World → Prop} {i fuel dst : Nat} {oi : Oper} {listed : Array Bool} {a : Act} {w : World} (hd : oi.dst = some dst)
    (h : ∀ K : Act → World → Prop, (∀ v w', S w' → wpAnyH P md ops Q S fuel (listed.setIfInBounds i true) { a with tmps := a.tmps.setIfInBounds dst v } w' → K (a.put oi.dst v) w') → if Region.wanted oi (yielded ops a.tmps) = true then oi.wp P a w K Q else True) :
    if Region.wanted oi (yielded ops a.tmps) = true then oi.wp P a w (fun a' w' => S w' ∧ wpAnyH P md ops Q S fuel (listed.setIfInBounds i true) a' w') Q else True :=
  h _ fun v w' hS hw => by
    refine ⟨hS, ?_⟩
    rw [hd]
    exact hw
end
end Go.Proofs.Ytmjkohlhbboapaa
