/- Laws for the walk inside a fence: make with a size, copy into a row that is known whole, one row more appended. -/
import Derived.Test.YtmjkohlhbboapaaRow
import Derived.RangeFuncNested
import Derived.RangeFuncBound
import Derived.RangeFuncCalls
import Derived.RangeFuncLeaves
import Derived.Shelf.Abstract
import Derived.Shelf.RegionOpen
import Derived.WalkKit
import Derived.OwnWalkIn
import Derived.TacticsInMore
import Derived.LoopNIn
import Derived.LoopIn
import Derived.Maps.AppendAt
import Derived.Laws.CopyOwn
namespace Go.Proofs.Ytmjkohlhbboapaa
open Go.RowKit Go.Shelf
set_option linter.unusedVariables false
section
variable {P : Program} {F : Fence} {n : Nat}
theorem wpListIn_make_full {w : World} {ops : Array Oper} {rest : List Oper} {o : Oper} {a : Act} {Q : Exit → Act → World → Prop}
    (hg : o.guard = none) (l c : Operand) (t : TypeId) (hop : o.op = Op.makeSlice t l c)
    (base : Nat) (e : TypeId) {z : Value} {size bytes : Nat} (h1 : P.underlying t = some (.slice e)) (hi : (P.info? e).map (fun i => (i.zero, i.size, i.bytes)) = some (some z, size, bytes))
    (kl kc : IntKind) (L C : Int) (m : Nat) (hl : a.eval l = .int kl L) (hc : a.eval c = .int kc C) (hL : L = (m : Int)) (hC : C = (m : Int)) (b2 : bytes * m ≤ 281474976710656) (b3 : m ≤ maxLen) (b4 : base ≤ w.heap.size)
    (hK : ∀ w', w'.ownsRow base e size (.slice (some ⟨w.heap.size, 0, none⟩) m m) m (madeCells z.cells (m * size)).toList → w.grownBy w' none → wpListIn F n P ops Q rest (a.put o.dst (.slice (some ⟨w.heap.size, 0, none⟩) m m)) w') :
    wpListIn F n P ops Q (o :: rest) a w := by
  refine wpListIn_plain hg fun K hK' => ?_
  obtain ⟨i, h2, h3, h4, h5⟩ := info_parts hi
  obtain ⟨w', hrun, r1, r2⟩ := run_make_full (P := P) w base t e i z size h1 h2 h3 h4 kl kc m (by rw [h5]; exact b2) b3 b4
  subst hL
  subst hC
  unfold Oper.wpIn
  refine ⟨?_, ?_⟩
  · simp [Oper.about, hop]
  · rw [Oper.semAt_plain F _ _ (by rw [hop]; intro c hc'; cases hc')]
    simp [execOp, hop, hl, hc, hrun, Result.andThen]
    exact hK' _ _ (hK w' r1 r2)
theorem wpListIn_copy_row {w : World} {ops : Array Oper} {rest : List Oper} {o : Oper} {a : Act} {Q : Exit → Act → World → Prop} (hgd : o.guard = none) (d s : Operand) (dT sT : TypeId)
    (ho : o.op = .call { callee := .builtin .copy, args := #[d, s], argTypes := #[dT, sT] }) (elem : TypeId) (hu : P.underlying dT = some (.slice elem)) (hsz : (P.info? elem).map (·.size) = some 1)
    (g off dLen dCap : Nat) (ad : Addr) (sLen sCap : Nat) (hd : a.eval d = .slice (some ⟨g, off, none⟩) dLen dCap) (hs : a.eval s = .slice (some ad) sLen sCap)
    (cur : Array Value) (t : TypeId) (hg : w.heap[g]? = some (.cells cur t (0, 0))) (cs : List Value) (hn : cs.length = Nat.min sLen dLen)
    (hsrc : ∀ j v, cs[j]? = some v → w.cell? (ad.add j) = some v) (hfit : off + cs.length ≤ cur.size) (h1 : ∀ v ∈ cs, v.oneCell' = true)
    (h : wpListIn F n P ops Q rest (a.put o.dst (goInt cs.length)) (w.setRow g (cur.toList.take off ++ (cs ++ cur.toList.drop (off + cs.length))).toArray)) : wpListIn F n P ops Q (o :: rest) a w := by
  refine wpListIn_plain hgd fun K hK => ?_
  have hrun := run_copy_row (P := P) w dT sT o.type elem g off dLen dCap ad sLen sCap cur t cs hu hsz hg hn hsrc hfit h1
  unfold Oper.wpIn
  refine ⟨?_, ?_⟩
  · simp [Oper.about, ho, resolve, Target.leads, Sem.run_pure]
  · rw [Oper.semAt_plain F _ _ (by rw [ho]; intro c hc'; cases hc')]
    simp [execOp, ho, resolve, invoke, builtin, hd, hs, hrun, Result.andThen]
    exact hK _ _ h
theorem wpListIn_append1 {w : World} {ops : Array Oper} {rest : List Oper} {o : Oper} {a : Act} {Q : Exit → Act → World → Prop} (hgd : o.guard = none) (s x : Operand) (t : TypeId)
    (ho : o.op = .call { callee := .builtin .append, args := #[s, x], argTypes := #[t, t] })
    {e : TypeId} {z : Value} {size bytes : Nat} (ht : P.underlying t = some (.slice e)) (hi : (P.info? e).map (fun i => (i.zero, i.size, i.bytes)) = some (some z, size, bytes)) (hzs : z.cells.size = size) (hsz : 0 < size)
    {base k : Nat} {v : Value} {rows : List (List Value)} (hs : a.eval s = v) (hown : OwnR e size w base v k rows)
    {g c : Nat} {row : List Value} {C : Array Value} {e' : TypeId} {fr : Nat × Nat} (hx : a.eval x = .slice (some ⟨g, 0, none⟩) 1 c) (hg : w.heap.size = g) (hC : C.toList = row) (hl : row.length = size) (h1 : ∀ u ∈ row, u.oneCell' = true)
    (hbytes : (k + 1) * bytes ≤ 140737488355328) (hmax : k + 1 ≤ maxLen) (hbase : base ≤ w.heap.size + 1)
    (h : ∀ v' w', ExtR e size w w' base v v' (k + 1) (rows ++ [row]) → wpListIn F n P ops Q rest (a.put o.dst v') w') : wpListIn F n P ops Q (o :: rest) a (w.alloc (.cells C e' fr)) := by
  subst hg
  obtain ⟨i, hi, hz, h2, h3⟩ := info_parts hi
  refine wpListIn_plain hgd fun K hK => ?_
  obtain ⟨v', w', hrun, hE⟩ := run_append_rec (P := P) (t := t) (ty := o.type) ht hi hz h2 h3 hzs hsz (hown.alloc (.cells C e' fr)) c (Recs.const1 w row C e' size fr hC hl) (by intro r hr; rw [List.mem_singleton.1 hr]; exact hl) (by intro r hr; rw [List.mem_singleton.1 hr]; exact h1) hbytes hmax (by simpa using hbase)
  unfold Oper.wpIn
  refine ⟨?_, ?_⟩
  · simp [Oper.about, ho, resolve, Target.leads, Sem.run_pure]
  · rw [Oper.semAt_plain F _ _ (by rw [ho]; intro c hc'; cases hc')]
    simp [execOp, ho, resolve, invoke, builtin, hs, hx, hrun, Result.andThen]
    exact hK _ _ (h v' w' (hE.after ((Only.refl [] w).alloc _)))
end
theorem Only.setRow {w w' : World} {S : List Nat} (h : Only S w w') {g : Nat} (hg : g ∈ S ∨ w.heap.size ≤ g) (cs : Array Value) : Only S w (w'.setRow g cs) :=
  ⟨h.os, h.tape, h.output, by simpa [World.setRow] using h.size, fun i hi hn => (setRow_other w' g i cs (by
    rintro rfl
    rcases hg with hg | hg
    · exact hn hg
    · omega)).trans (h.block i hi hn)⟩
theorem Only.others {w w' : World} {S : List Nat} (h : Only S w w') (hS : ∀ g ∈ S, ∃ t cs, Blk w g t cs) : KeepsOthers w w' :=
  ⟨h.size, fun k o hk ho => (h.block k (Array.getElem?_eq_some_iff.1 hk).1 (fun hm => by
    obtain ⟨t, cs, hb⟩ := hS k hm
    unfold Blk at hb
    rw [hb] at hk
    cases hk
    cases ho)).trans hk⟩
/-- what a round keeps: all below n₁ but the one block B -/
def KeepsBut (n₁ B : Nat) (W W' : World) : Prop := W.heap.size ≤ W'.heap.size ∧ ∀ k, k < n₁ → k ≠ B → W'.heap[k]? = W.heap[k]?
theorem KeepsBut.refl (n₁ B : Nat) (W : World) : KeepsBut n₁ B W W := ⟨Nat.le_refl _, fun _ _ _ => rfl⟩
theorem keepsBut_t {n₁ B : Nat} {X Y Z : World} (h : KeepsBut n₁ B X Y) (k : KeepsBut n₁ B Y Z) : KeepsBut n₁ B X Z := ⟨Nat.le_trans h.1 k.1, fun i hi hn => (k.2 i hi hn).trans (h.2 i hi hn)⟩
theorem keepsBut_b {n₁ B : Nat} {w : World} (hn : n₁ ≤ w.heap.size) (W : World) (l : Nat) (o o' : Obj) (hl : w.heap.size ≤ l) (h : W.heap[l]? = some o) (_ : o.isCells = false) (_ : o.isWalk = false) : KeepsBut n₁ B W (W.putObj l o') :=
  have hb := belowK_b (n₀ := w.heap.size) (Nat.le_refl _) W l o o' hl h ‹_› ‹_›
  ⟨hb.size, fun k hk _ => hb.block k (by omega)⟩
theorem Only.keepsBut {w w' : World} {S : List Nat} (h : Only S w w') {n₁ B : Nat} (hn : n₁ ≤ w.heap.size) (hS : ∀ g ∈ S, g = B ∨ n₁ ≤ g) : KeepsBut n₁ B w w' :=
  ⟨h.size, fun k hk hne => h.block k (by omega) (fun hm => by rcases hS k hm with h1 | h1 <;> omega)⟩
end Go.Proofs.Ytmjkohlhbboapaa
