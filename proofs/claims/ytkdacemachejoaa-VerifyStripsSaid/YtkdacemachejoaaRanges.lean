/- Ranges: Laws for the walk inside a fence: make with a size, copy into a row that is known whole, one row more appended; A range over a function whose values point into memory: the iterator says of each value what holds where it is yielded; A region that draws its order, in the body of a loop over a function: what holds of it outside a fence holds in a round's frame; A region that draws its order, walked by hand: one operation after the other, as they stand in the text; A drawn region by hand: one operation at a known world; A range over a function whose loop variable is laid anew in each round, and whose body keeps what the iterator reads; A region that draws its order, whose last operation may break what held so far (x.f = append(x.f, y)): walked by hand. -/
import Derived.Test.YtkdacemachejoaaRow
import Derived.RangeFuncNested
import Derived.RangeFuncBound
import Derived.RangeFuncCalls
import Derived.RangeFuncLeaves
import Derived.Shelf.Abstract
import Derived.Shelf.RegionOpen
import Derived.WalkKit
import Derived.OwnWalkIn
import Derived.TacticsInMore
import Derived.LoopNIn
import Derived.LoopIn
import Derived.Maps.AppendAt
import Derived.Laws.CopyOwn
import Derived.RangeFuncWrites
import Derived.OrdersIn
import Derived.OrdersHeld
namespace Go.Proofs.Ytkdacemachejoaa
open Go.RowKit Go.Shelf
set_option linter.unusedVariables false
section
variable {P : Program} {F : Fence} {n : Nat}
theorem wpListIn_make_full {w : World} {ops : Array Oper} {rest : List Oper} {o : Oper} {a : Act} {Q : Exit → Act → World → Prop}
    (hg : o.guard = none) (l c : Operand) (t : TypeId) (hop : o.op = Op.makeSlice t l c)
    (base : Nat) (e : TypeId) {z : Value} {size bytes : Nat} (h1 : P.underlying t = some (.slice e)) (hi : (P.info? e).map (fun i => (i.zero, i.size, i.bytes)) = some (some z, size, bytes))
    (kl kc : IntKind) (L C : Int) (m : Nat) (hl : a.eval l = .int kl L) (hc : a.eval c = .int kc C) (hL : L = (m : Int)) (hC : C = (m : Int)) (b2 : bytes * m ≤ 281474976710656) (b3 : m ≤ maxLen) (b4 : base ≤ w.heap.size)
    (hK : ∀ w', w'.ownsRow base e size (.slice (some ⟨w.heap.size, 0, none⟩) m m) m (madeCells z.cells (m * size)).toList → w.grownBy w' none → wpListIn F n P ops Q rest (a.put o.dst (.slice (some ⟨w.heap.size, 0, none⟩) m m)) w') :
    wpListIn F n P ops Q (o :: rest) a w := by
  refine wpListIn_plain hg fun K hK' => ?_
  obtain ⟨i, h2, h3, h4, h5⟩ := info_parts hi
  obtain ⟨w', hrun, r1, r2⟩ := run_make_full (P := P) w base t e i z size h1 h2 h3 h4 kl kc m (by rw [h5]; exact b2) b3 b4
  subst hL
  subst hC
  unfold Oper.wpIn
  refine ⟨?_, ?_⟩
  · simp [Oper.about, hop]
  · rw [Oper.semAt_plain F _ _ (by rw [hop]; intro c hc'; cases hc')]
    simp [execOp, hop, hl, hc, hrun, Result.andThen]
    exact hK' _ _ (hK w' r1 r2)
theorem wpListIn_copy_row {w : World} {ops : Array Oper} {rest : List Oper} {o : Oper} {a : Act} {Q : Exit → Act → World → Prop} (hgd : o.guard = none) (d s : Operand) (dT sT : TypeId)
    (ho : o.op = .call { callee := .builtin .copy, args := #[d, s], argTypes := #[dT, sT] }) (elem : TypeId) (hu : P.underlying dT = some (.slice elem)) (hsz : (P.info? elem).map (·.size) = some 1)
    (g off dLen dCap : Nat) (ad : Addr) (sLen sCap : Nat) (hd : a.eval d = .slice (some ⟨g, off, none⟩) dLen dCap) (hs : a.eval s = .slice (some ad) sLen sCap)
    (cur : Array Value) (t : TypeId) (hg : w.heap[g]? = some (.cells cur t (0, 0))) (cs : List Value) (hn : cs.length = Nat.min sLen dLen)
    (hsrc : ∀ j v, cs[j]? = some v → w.cell? (ad.add j) = some v) (hfit : off + cs.length ≤ cur.size) (h1 : ∀ v ∈ cs, v.oneCell' = true)
    (h : wpListIn F n P ops Q rest (a.put o.dst (goInt cs.length)) (w.setRow g (cur.toList.take off ++ (cs ++ cur.toList.drop (off + cs.length))).toArray)) : wpListIn F n P ops Q (o :: rest) a w := by
  refine wpListIn_plain hgd fun K hK => ?_
  have hrun := run_copy_row (P := P) w dT sT o.type elem g off dLen dCap ad sLen sCap cur t cs hu hsz hg hn hsrc hfit h1
  unfold Oper.wpIn
  refine ⟨?_, ?_⟩
  · simp [Oper.about, ho, resolve, Target.leads, Sem.run_pure]
  · rw [Oper.semAt_plain F _ _ (by rw [ho]; intro c hc'; cases hc')]
    simp [execOp, ho, resolve, invoke, builtin, hd, hs, hrun, Result.andThen]
    exact hK _ _ h
theorem wpListIn_append1 {w : World} {ops : Array Oper} {rest : List Oper} {o : Oper} {a : Act} {Q : Exit → Act → World → Prop} (hgd : o.guard = none) (s x : Operand) (t : TypeId)
    (ho : o.op = .call { callee := .builtin .append, args := #[s, x], argTypes := #[t, t] })
    {e : TypeId} {z : Value} {size bytes : Nat} (ht : P.underlying t = some (.slice e)) (hi : (P.info? e).map (fun i => (i.zero, i.size, i.bytes)) = some (some z, size, bytes)) (hzs : z.cells.size = size) (hsz : 0 < size)
    {base k : Nat} {v : Value} {rows : List (List Value)} (hs : a.eval s = v) (hown : OwnR e size w base v k rows)
    {g c : Nat} {row : List Value} {C : Array Value} {e' : TypeId} {fr : Nat × Nat} (hx : a.eval x = .slice (some ⟨g, 0, none⟩) 1 c) (hg : w.heap.size = g) (hC : C.toList = row) (hl : row.length = size) (h1 : ∀ u ∈ row, u.oneCell' = true)
    (hbytes : (k + 1) * bytes ≤ 140737488355328) (hmax : k + 1 ≤ maxLen) (hbase : base ≤ w.heap.size + 1)
    (h : ∀ v' w', ExtR e size w w' base v v' (k + 1) (rows ++ [row]) → wpListIn F n P ops Q rest (a.put o.dst v') w') : wpListIn F n P ops Q (o :: rest) a (w.alloc (.cells C e' fr)) := by
  subst hg
  obtain ⟨i, hi, hz, h2, h3⟩ := info_parts hi
  refine wpListIn_plain hgd fun K hK => ?_
  obtain ⟨v', w', hrun, hE⟩ := run_append_rec (P := P) (t := t) (ty := o.type) ht hi hz h2 h3 hzs hsz (hown.alloc (.cells C e' fr)) c (Recs.const1 w row C e' size fr hC hl) (by intro r hr; rw [List.mem_singleton.1 hr]; exact hl) (by intro r hr; rw [List.mem_singleton.1 hr]; exact h1) hbytes hmax (by simpa using hbase)
  unfold Oper.wpIn
  refine ⟨?_, ?_⟩
  · simp [Oper.about, ho, resolve, Target.leads, Sem.run_pure]
  · rw [Oper.semAt_plain F _ _ (by rw [ho]; intro c hc'; cases hc')]
    simp [execOp, ho, resolve, invoke, builtin, hs, hx, hrun, Result.andThen]
    exact hK _ _ (h v' w' (hE.after ((Only.refl [] w).alloc _)))
end
theorem Only.setRow {w w' : World} {S : List Nat} (h : Only S w w') {g : Nat} (hg : g ∈ S ∨ w.heap.size ≤ g) (cs : Array Value) : Only S w (w'.setRow g cs) :=
  ⟨h.os, h.tape, h.output, by simpa [World.setRow] using h.size, fun i hi hn => (setRow_other w' g i cs (by
    rintro rfl
    rcases hg with hg | hg
    · exact hn hg
    · omega)).trans (h.block i hi hn)⟩
theorem Only.others {w w' : World} {S : List Nat} (h : Only S w w') (hS : ∀ g ∈ S, ∃ t cs, Blk w g t cs) : KeepsOthers w w' :=
  ⟨h.size, fun k o hk ho => (h.block k (Array.getElem?_eq_some_iff.1 hk).1 (fun hm => by
    obtain ⟨t, cs, hb⟩ := hS k hm
    unfold Blk at hb
    rw [hb] at hk
    cases hk
    cases ho)).trans hk⟩
/-- what a round keeps: all below n₁ but the one block B -/
def KeepsBut (n₁ B : Nat) (W W' : World) : Prop := W.heap.size ≤ W'.heap.size ∧ ∀ k, k < n₁ → k ≠ B → W'.heap[k]? = W.heap[k]?
theorem KeepsBut.refl (n₁ B : Nat) (W : World) : KeepsBut n₁ B W W := ⟨Nat.le_refl _, fun _ _ _ => rfl⟩
theorem keepsBut_t {n₁ B : Nat} {X Y Z : World} (h : KeepsBut n₁ B X Y) (k : KeepsBut n₁ B Y Z) : KeepsBut n₁ B X Z := ⟨Nat.le_trans h.1 k.1, fun i hi hn => (k.2 i hi hn).trans (h.2 i hi hn)⟩
theorem keepsBut_b {n₁ B : Nat} {w : World} (hn : n₁ ≤ w.heap.size) (W : World) (l : Nat) (o o' : Obj) (hl : w.heap.size ≤ l) (h : W.heap[l]? = some o) (_ : o.isCells = false) (_ : o.isWalk = false) : KeepsBut n₁ B W (W.putObj l o') :=
  have hb := belowK_b (n₀ := w.heap.size) (Nat.le_refl _) W l o o' hl h ‹_› ‹_›
  ⟨hb.size, fun k hk _ => hb.block k (by omega)⟩
theorem Only.keepsBut {w w' : World} {S : List Nat} (h : Only S w w') {n₁ B : Nat} (hn : n₁ ≤ w.heap.size) (hS : ∀ g ∈ S, g = B ∨ n₁ ≤ g) : KeepsBut n₁ B w w' :=
  ⟨h.size, fun k hk hne => h.block k (by omega) (fun hm => by rcases hS k hm with h1 | h1 <;> omega)⟩
end Go.Proofs.Ytkdacemachejoaa
namespace Go.Proofs.Ytkdacemachejoaa
open Go.RowKit Go.Shelf
set_option linter.unusedVariables false
section
variable {F : Fence} {n : Nat} {P : Program}
/-- what an iterator owes a loop whose body keeps K: V holds of each value where it is yielded, and S of all values in the end -/
def SeqV {α : Type} (F : Fence) (m : Nat) (P : Program) (gf : Nat) (lb : Array Value) (encs : α → Array Value) (K : World → Prop) (V : α → World → Prop) (S : List α → Prop) (N : Nat) : Prop :=
  ∀ (l : Nat) (J : List α → World → Prop) (W : World), (∀ s X Y, J s X → Only [] X Y → J s Y) → (∀ s X, J s X → K X) →
    (∀ pre x X, J pre X → V x X → pre.length < N → YieldAt F (m - 1) P l (encs x) X fun e Y => e = .returned (.bool true) ∧ J (pre ++ [x]) Y) →
    J [] W → CallsIn F m P gf (#[.func (.yield l) #[] #[]] ++ lb) W fun e Y => (∃ v, e = .returned v) ∧ ∃ xs, S xs ∧ J xs Y
/-- a round's body is left at its end alone -/
def roundV {α : Type} (B : Nat) (I : List α → World → Prop) (xs : List α) (W : World) : Exit → Act → World → Prop
  | .normal, _, Y => KeepsFrom B W Y ∧ I xs Y
  | _, _, _ => False
theorem wpIn_rangeV {α : Type} {g : Operand} {ps : Array Tmp} {assign body : Code} {Q : Exit → Act → World → Prop} {a : Act} {w : World}
    (hro : F.round = none) (h1 : 1 ≤ n) {gf : Nat} {lb : Array Value} (hg : a.eval g = .func (.func gf) #[] lb) (hFg : F.fn gf) (eg : ∀ args w, (callFunc gf args).run P w = .ok (.enter gf args) w)
    {encs : α → Array Value} {K : World → Prop} {V : α → World → Prop} {S : List α → Prop} {N : Nat} (hseq : SeqV F (n - 1) P gf lb encs K V S N) (hps : ∀ x, (encs x).size = ps.size)
    (I : List α → World → Prop) (hI : OwnFrom w.heap.size I) (hIo : ∀ s X Y, I s X → Only [] X Y → I s Y) (hIK : ∀ s X, I s X → K X) (hV : OwnFrom w.heap.size V) (h0 : I [] w) (a₁ : α → Act)
    (hassign : ∀ (l : Nat) (x : α) (W : World) (K : Act → World → Prop), K (a₁ x) W →
      assign.wpIn (F.inRound l) (n - 1 - 1) P (Exit.then K (fun _ _ _ => False)) { tmps := (ps.zip (encs x)).foldl (fun t (p, v) => t.setIfInBounds p v) a.tmps, defers := [] } W)
    (hbody : ∀ (l : Nat) (pre : List α) (x : α) (W : World), I pre W → V x W → pre.length < N → body.wpIn (F.inRound l) (n - 1 - 1) P (roundV w.heap.size I (pre ++ [x]) W) (a₁ x) W)
    (hdone : ∀ (D : Nat) (xs : List α) (W : World), w.heap.size ≤ D → S xs → I xs W → W.heap[D]? = some (.deferred (some [])) → Q .normal { a with defers := { target := .collected D, args := #[] } :: a.defers } W) :
    (Code.rangeFunc g ps assign body).wpIn F n P Q a w := by
  refine wpIn_rangeFunc fun fn hfn => ?_
  rw [hro]
  obtain ⟨rec, hrec⟩ : ∃ rec : LoopState → Option Code → Loop, rec = fun st pe => { state := st, pending := pe, fn, tmps := a.tmps, params := ps, assign, body, defers := w.heap.size } := ⟨_, rfl⟩
  obtain ⟨W1, hW1⟩ : ∃ W1, (w.alloc (.deferred (some []))).alloc (.loop (rec .ready none)) = W1 := ⟨_, rfl⟩
  have hL1 : W1.heap[w.heap.size + 1]? = some (.loop (rec .ready none)) := by
    have h := World.alloc_heap_new (w.alloc (.deferred (some []))) (.loop (rec .ready none))
    rwa [World.size_alloc, hW1] at h
  have hK1 : W1.heap[w.heap.size]? = some (.deferred (some [])) := by
    rw [← hW1]
    exact (Below.heap_alloc _ _ _ (by simp)).trans (World.alloc_heap_new w _)
  refine ⟨w.heap.size + 1, [{ target := .collected w.heap.size, args := #[] }], W1, { target := .fn (.func gf) lb, args := #[.func (.yield (w.heap.size + 1)) #[] #[]] }, W1, gf,
    #[.func (.yield (w.heap.size + 1)) #[] #[]] ++ lb, W1, ?_, ?_, ?_, ?_, fun _ => h1, ?_⟩
  · rw [← hW1, hrec]; exact run_enterLoop_outer _ _ _ _ _
  · simp only [resolve, hg]
    simp [go_sem]
  · intro f' hf'
    simp [Target.leads] at hf'
    subst hf'
    exact hFg
  · simp [invoke, go_sem, eg]
  · refine (hseq (w.heap.size + 1) (fun s W => I s W ∧ W.heap[w.heap.size + 1]? = some (.loop (rec .ready none)) ∧ W.heap[w.heap.size]? = some (.deferred (some []))) W1
      (fun s X Y h ho => ⟨hIo s X Y h.1 ho, (ho.block _ (Array.getElem?_eq_some_iff.1 h.2.1).1 (by simp)).trans h.2.1, (ho.block _ (Array.getElem?_eq_some_iff.1 h.2.2).1 (by simp)).trans h.2.2⟩)
      (fun s X h => hIK s X h.1) ?_ ⟨by rw [← hW1]; exact hI.alloc _ (hI.alloc _ h0), hL1, hK1⟩).mono ?_
    · rintro pre x W ⟨hi, hl, hk⟩ hv hlen
      have hlt := (Array.getElem?_eq_some_iff.1 hl).1
      have hy := run_yield (P := P) (args := encs x) hl (by rw [hrec]; exact hps x)
      rw [hrec] at hy
      refine ⟨fn, _, assign, body, hy, roundIn_of_wpIn hfn (hassign _ x W _ ⟨_, run_beginRound hl (by rw [hrec]), ?_⟩)⟩
      obtain ⟨W2, hW2⟩ : ∃ W2, W.putObj (w.heap.size + 1) (.loop { rec .ready none with state := .busy }) = W2 := ⟨_, rfl⟩
      have hl2 : W2.heap[w.heap.size + 1]? = some (.loop { rec .ready none with state := .busy }) := by rw [← hW2]; exact World.putObj_heap_same hlt
      have hk2 : W2.heap[w.heap.size]? = some (.deferred (some [])) := by rw [← hW2]; exact (World.putObj_heap_other (by omega)).trans hk
      have hi2 : I pre W2 := by rw [← hW2]; exact hI.putObj _ hi (by omega) hl rfl
      have hv2 : V x W2 := by rw [← hW2]; exact hV.putObj _ hv (by omega) hl rfl
      rw [hW2]
      refine wpIn_mono (hbody _ pre x W2 hi2 hv2 hlen) ?_
      rintro e a3 W3 hp
      cases e with
      | normal =>
        obtain ⟨hk3, hi3⟩ := hp
        have hl3 := hk3.same _ _ (by omega) hl2 rfl
        have hr := run_endRound (P := P) none hl3
        rw [hrec] at hr hl3
        refine ⟨_, _, hr, rfl, hI.putObj _ hi3 (by omega) hl3 rfl, ?_, (World.putObj_heap_other (by omega)).trans (hk3.same _ _ (Nat.le_refl _) hk2 rfl)⟩
        rw [hrec]
        exact World.putObj_heap_same (Array.getElem?_eq_some_iff.1 hl3).1
      | ret => exact hp.elim
      | exit id => exact hp.elim
      | goto t => exact hp.elim
      | panic ch => exact hp.elim
      | outgrown => exact hp.elim
    · rintro e W2 ⟨⟨v, rfl⟩, xs, hS, hi, hl, hk⟩
      have hr := run_endLoop (P := P) hl (by rw [hrec]; simp)
      rw [hrec] at hr
      exact ⟨none, _, hr, hdone _ xs _ (Nat.le_refl _) hS (hI.putObj _ hi (by omega) hl rfl) ((World.putObj_heap_other (by omega)).trans hk)⟩
end
end Go.Proofs.Ytkdacemachejoaa
namespace Go.Proofs.Ytkdacemachejoaa
open Go.RowKit Go.Shelf
set_option linter.unusedVariables false
section
variable {P : Program} {ops : Array Oper} {Q : Exit → Act → World → Prop} {md : Region.Mode} {l n : Nat}
theorem oper_round {o : Oper} {a : Act} {w : World} {K : Act → World → Prop} (hnd : ∀ c, o.op ≠ .defer c) (h : o.wp P a w K Q) : o.wpIn (Fence.wide.inRound l) n P a w K Q := by
  refine ⟨fun f _ => trivial, ?_⟩
  rw [Oper.semAt_plain _ _ _ hnd]
  unfold Oper.wp at h
  generalize (execOp a.eval o).run P w = r at h ⊢
  cases r with
  | ok x w' =>
    cases x <;> first
      | exact h
      | exact h.elim
      | exact ⟨fun hd => (by cases hd), CallsIn.inRound l (callsIn_wide.2 h)⟩
      | exact ⟨fun hd => (by cases hd), fun c cs _ => let ⟨v, w', r, s⟩ := h c cs; ⟨v, w', r, stepsIn_wide.2 s⟩⟩
  | halt x w' => cases x <;> exact h
theorem wpOp_round {i : Nat} {K K' : Act → World → Prop} {a : Act} {w : World} (hnd : ∀ o : Oper, ops[i]? = some o → ∀ c, o.op ≠ .defer c) (hQ : ¬ LetsOut Q) (hK : ∀ a w, K a w → K' a w) (h : wpOp P ops Q i K a w) : wpOpIn (Fence.wide.inRound l) n P ops Q i K' a w := by
  have h := wpOp_mono hK h
  unfold wpOp at h
  unfold wpOpIn
  split
  · rename_i e
    simp only [e] at h
    exact h
  · rename_i o e
    simp only [e] at h
    split
    · rename_i e2
      rw [if_pos e2] at h
      rcases h with h | h
      · exact oper_round (hnd o e) h
      · exact absurd h.2 hQ
    · rename_i e2
      rw [if_neg e2] at h
      exact ⟨fun f _ => trivial, h⟩
theorem wpAny_round (hnd : ∀ (i : Nat) (o : Oper), ops[i]? = some o → ∀ c, o.op ≠ .defer c) (hQ : ¬ LetsOut Q) : ∀ (fuel : Nat) (listed : Array Bool) (a : Act) (w : World), wpAny P md ops Q fuel listed a w → wpAnyIn (Fence.wide.inRound l) n P md ops Q fuel listed a w
  | 0, _, _, _, h => h
  | fuel + 1, _, _, _, h => ⟨h.1, fun i hi => wpOp_round (hnd i) hQ (fun a w k => wpAny_round hnd hQ fuel _ a w k) (h.2 i hi)⟩
theorem wpIn_region_held {id : Nat} {S : World → Prop} {a : Act} {w : World} (hm : P.follows .mixedOrders = true) (hnd : ∀ (i : Nat) (o : Oper), ops[i]? = some o → ∀ c, o.op ≠ .defer c) (hQ : ¬ LetsOut Q)
    (h : wpAnyH P .any ops Q S ops.size (Array.replicate ops.size false) a w.drew) : (Code.region id ops true).wpIn (Fence.wide.inRound l) n P Q a w :=
  wpIn_region_any hm (wpAny_round hnd hQ _ _ _ _ (wpAny_of_held _ _ _ _ h))
def noDefer (o : Oper) : Bool := match o.op with | .defer _ => false | _ => true
theorem noDefer_all (h : ops.all noDefer = true) (i : Nat) (o : Oper) (ho : ops[i]? = some o) (c : Call) : o.op ≠ .defer c := by
  intro e
  obtain ⟨hi, rfl⟩ := Array.getElem?_eq_some_iff.1 ho
  have h1 := (Array.all_eq_true.1 h) i hi
  unfold noDefer at h1
  rw [e] at h1
  cases h1
/-- an operation is taken first, that yields its value wherever S holds -/
theorem takeH {S : World → Prop} {i fuel dst : Nat} {oi : Oper} {listed : Array Bool} {a : Act} {w : World} {v : Value} (hi : ops[i]? = some oi) (hs : Region.noSelect ops = true) (hf : Region.free md ops listed i = true) (hr : (Region.ready md ops listed).contains i = true)
    (hQ : ∀ c a w, Q (.panic c) (a.put oi.dst v) w → Q (.panic c) a w) (hd : oi.dst = some dst) (hg : oi.guard = none) (hrun : ∀ w, S w → (execOp a.eval oi).run P w = .ok (.value v) w) (hS : S w)
    (h : wpAnyH P md ops Q S fuel (listed.setIfInBounds i true) { a with tmps := a.tmps.setIfInBounds dst v } w) : wpAnyH P md ops Q S (fuel + 1) listed a w :=
  wpAnyH_take hi hs hf hr hQ (.inl ⟨by simp [Region.wanted, hg], hrun⟩) hS (by rw [hd]; exact h)
/-- the one that may come up -/
theorem oneH {S : World → Prop} {i fuel : Nat} {oi : Oper} {listed : Array Bool} {a : Act} {w : World} (hi : ops[i]? = some oi) (hr : Region.ready md ops listed = [i]) (hg : oi.guard = none)
    (h : if Region.wanted oi (yielded ops a.tmps) = true then oi.wp P a w (fun a' w' => S w' ∧ wpAnyH P md ops Q S fuel (listed.setIfInBounds i true) a' w') Q else True) : wpAnyH P md ops Q S (fuel + 1) listed a w :=
  wpAnyH_all hr (by simp) fun j hj => by
    rw [List.mem_singleton.1 hj]
    have hw : Region.wanted oi (yielded ops a.tmps) = true := by simp [Region.wanted, hg]
    rw [if_pos hw] at h
    unfold wpOp
    simp only [hi]
    rw [if_pos hw]
    exact .inl h
/-- two may come up -/
theorem twoH {S : World → Prop} {i j fuel : Nat} {oi oj : Oper} {listed : Array Bool} {a : Act} {w : World} (hi : ops[i]? = some oi) (hj : ops[j]? = some oj) (hr : Region.ready md ops listed = [i, j]) (hg : oi.guard = none) (hg2 : oj.guard = none)
    (h : if Region.wanted oi (yielded ops a.tmps) = true then oi.wp P a w (fun a' w' => S w' ∧ wpAnyH P md ops Q S fuel (listed.setIfInBounds i true) a' w') Q else True)
    (h2 : if Region.wanted oj (yielded ops a.tmps) = true then oj.wp P a w (fun a' w' => S w' ∧ wpAnyH P md ops Q S fuel (listed.setIfInBounds j true) a' w') Q else True) : wpAnyH P md ops Q S (fuel + 1) listed a w :=
  wpAnyH_all hr (by simp) fun k hk => by
    have hw : Region.wanted oi (yielded ops a.tmps) = true := by simp [Region.wanted, hg]
    have hw2 : Region.wanted oj (yielded ops a.tmps) = true := by simp [Region.wanted, hg2]
    rw [if_pos hw] at h
    rw [if_pos hw2] at h2
    unfold wpOp
    rcases List.mem_cons.1 hk with rfl | hk
    · simp only [hi]
      rw [if_pos hw]
      exact .inl h
    · rw [List.mem_singleton.1 hk]
      simp only [hj]
      rw [if_pos hw2]
      exact .inl h2
end
end Go.Proofs.Ytkdacemachejoaa
namespace Go.Proofs.Ytkdacemachejoaa
open Go.RowKit Go.Shelf
set_option linter.unusedVariables false
section
variable {P : Program} {ops : Array Oper} {Q : Exit → Act → World → Prop} {md : Region.Mode}
theorem wp_region_hand {id : Nat} {S : World → Prop} {a : Act} {w : World} (hm : P.follows .mixedOrders = true)
    (h : wpAnyH P .any ops Q S ops.size (Array.replicate ops.size false) a w.drew) : (Code.region id ops true).wp P Q a w := wp_region_held hm h
/-- taken first: it yields its value wherever S holds -/
theorem takeW {S : World → Prop} {i fuel dst : Nat} {oi : Oper} {listed : Array Bool} {a : Act} {w : World} {v : Value} (hi : ops[i]? = some oi) (hs : Region.noSelect ops = true) (hf : Region.free md ops listed i = true) (hr : (Region.ready md ops listed).contains i = true)
    (hQ : ∀ c a w, Q (.panic c) (a.put oi.dst v) w → Q (.panic c) a w) (hd : oi.dst = some dst) (hw : Region.wanted oi (yielded ops a.tmps) = true) (hrun : ∀ w, S w → (execOp a.eval oi).run P w = .ok (.value v) w) (hS : S w)
    (h : wpAnyH P md ops Q S fuel (listed.setIfInBounds i true) { a with tmps := a.tmps.setIfInBounds dst v } w) : wpAnyH P md ops Q S (fuel + 1) listed a w :=
  wpAnyH_take hi hs hf hr hQ (.inl ⟨hw, hrun⟩) hS (by rw [hd]; exact h)
/-- passed over: its guard says no -/
theorem passW {S : World → Prop} {i fuel dst : Nat} {oi : Oper} {listed : Array Bool} {a : Act} {w : World} (hi : ops[i]? = some oi) (hs : Region.noSelect ops = true) (hf : Region.free md ops listed i = true) (hr : (Region.ready md ops listed).contains i = true)
    (hQ : ∀ c a w, Q (.panic c) (a.put oi.dst undef) w → Q (.panic c) a w) (hd : oi.dst = some dst) (hw : Region.wanted oi (yielded ops a.tmps) = false) (hS : S w)
    (h : wpAnyH P md ops Q S fuel (listed.setIfInBounds i true) { a with tmps := a.tmps.setIfInBounds dst undef } w) : wpAnyH P md ops Q S (fuel + 1) listed a w :=
  wpAnyH_take hi hs hf hr hQ (.inr ⟨hw, rfl⟩) hS (by rw [hd]; exact h)
/-- a call, the one that may come up -/
theorem callW {S : World → Prop} {i fuel dst : Nat} {oi : Oper} {listed : Array Bool} {a : Act} {w : World} {f : FuncId} {args : Array Value} {R : Ending → World → Prop} (hi : ops[i]? = some oi) (hr : Region.ready md ops listed = [i]) (hd : oi.dst = some dst) (hw : Region.wanted oi (yielded ops a.tmps) = true)
    (hrun : (execOp a.eval oi).run P w = .ok (.enter f args) w) (hc : Calls P f args w R)
    (h : ∀ e w', R e w' → ∃ v, e = .returned v ∧ S w' ∧ wpAnyH P md ops Q S fuel (listed.setIfInBounds i true) { a with tmps := a.tmps.setIfInBounds dst v } w') : wpAnyH P md ops Q S (fuel + 1) listed a w :=
  wpAnyH_all hr (by simp) fun j hj => by
    rw [List.mem_singleton.1 hj]
    unfold wpOp
    simp only [hi]
    rw [if_pos hw]
    refine .inl ?_
    unfold Oper.wp
    rw [hrun, Oper.upon_enter]
    refine hc.mono fun e w' he => ?_
    obtain ⟨v, rfl, hS, hk⟩ := h e w' he
    rw [hd]
    exact ⟨hS, hk⟩
theorem call_if {o : Oper} {dst : Nat} {a : Act} {w : World} {f : FuncId} {args : Array Value} {R : Ending → World → Prop} {K : Act → World → Prop} {E : Prop} (hd : o.dst = some dst) (hw : Region.wanted o (yielded ops a.tmps) = true)
    (hrun : (execOp a.eval o).run P w = .ok (.enter f args) w) (hc : Calls P f args w R) (h : ∀ e w', R e w' → ∃ v, e = .returned v ∧ K { a with tmps := a.tmps.setIfInBounds dst v } w') :
    if Region.wanted o (yielded ops a.tmps) = true then o.wp P a w K Q else E := by
  rw [if_pos hw]
  unfold Oper.wp
  rw [hrun, Oper.upon_enter]
  refine hc.mono fun e w' he => ?_
  obtain ⟨v, rfl, hk⟩ := h e w' he
  rw [hd]
  exact hk
end
end Go.Proofs.Ytkdacemachejoaa
namespace Go.Proofs.Ytkdacemachejoaa
open Go.RowKit Go.Shelf
set_option linter.unusedVariables false
section
variable {P : Program} {ops : Array Oper} {Q : Exit → Act → World → Prop} {md : Region.Mode}
/-- an operation, the one that may come up, that yields a value -/
theorem oneW {S : World → Prop} {i fuel dst : Nat} {oi : Oper} {listed : Array Bool} {a : Act} {w w' : World} {v : Value} (hi : ops[i]? = some oi) (hr : Region.ready md ops listed = [i]) (hd : oi.dst = some dst) (hw : Region.wanted oi (yielded ops a.tmps) = true)
    (hrun : (execOp a.eval oi).run P w = .ok (.value v) w') (hS : S w') (h : wpAnyH P md ops Q S fuel (listed.setIfInBounds i true) { a with tmps := a.tmps.setIfInBounds dst v } w') : wpAnyH P md ops Q S (fuel + 1) listed a w :=
  wpAnyH_all hr (by simp) fun j hj => by
    rw [List.mem_singleton.1 hj]
    unfold wpOp
    simp only [hi]
    rw [if_pos hw]
    refine .inl ?_
    unfold Oper.wp
    rw [hrun]
    show S w' ∧ wpAnyH P md ops Q S fuel (listed.setIfInBounds i true) (a.put oi.dst v) w'
    rw [hd]
    exact ⟨hS, h⟩
/-- a store of some kind: it yields nothing -/
theorem oneS {S : World → Prop} {i fuel : Nat} {oi : Oper} {listed : Array Bool} {a : Act} {w w' : World} {v : Value} (hi : ops[i]? = some oi) (hr : Region.ready md ops listed = [i]) (hd : oi.dst = none) (hw : Region.wanted oi (yielded ops a.tmps) = true)
    (hrun : (execOp a.eval oi).run P w = .ok .skip w' ∨ (execOp a.eval oi).run P w = .ok (.value v) w') (hS : S w') (h : wpAnyH P md ops Q S fuel (listed.setIfInBounds i true) a w') : wpAnyH P md ops Q S (fuel + 1) listed a w :=
  wpAnyH_all hr (by simp) fun j hj => by
    rw [List.mem_singleton.1 hj]
    unfold wpOp
    simp only [hi]
    rw [if_pos hw]
    refine .inl ?_
    unfold Oper.wp
    rcases hrun with hrun | hrun
    · rw [hrun]
      show S w' ∧ wpAnyH P md ops Q S fuel (listed.setIfInBounds i true) (a.put oi.dst undef) w'
      rw [hd]
      exact ⟨hS, h⟩
    · rw [hrun]
      show S w' ∧ wpAnyH P md ops Q S fuel (listed.setIfInBounds i true) (a.put oi.dst v) w'
      rw [hd]
      exact ⟨hS, h⟩
/-- two that may come up, in either order; each yields a value -/
theorem twoW {S : World → Prop} {i j fuel di dj : Nat} {oi oj : Oper} {listed : Array Bool} {a : Act} {w wi wj : World} {vi vj : Value} (hi : ops[i]? = some oi) (hj : ops[j]? = some oj) (hr : Region.ready md ops listed = [i, j]) (hdi : oi.dst = some di) (hdj : oj.dst = some dj)
    (hwi : Region.wanted oi (yielded ops a.tmps) = true) (hwj : Region.wanted oj (yielded ops a.tmps) = true) (hri : (execOp a.eval oi).run P w = .ok (.value vi) wi) (hrj : (execOp a.eval oj).run P w = .ok (.value vj) wj) (hSi : S wi) (hSj : S wj)
    (h1 : wpAnyH P md ops Q S fuel (listed.setIfInBounds i true) { a with tmps := a.tmps.setIfInBounds di vi } wi)
    (h2 : wpAnyH P md ops Q S fuel (listed.setIfInBounds j true) { a with tmps := a.tmps.setIfInBounds dj vj } wj) : wpAnyH P md ops Q S (fuel + 1) listed a w :=
  wpAnyH_all hr (by simp) fun k hk => by
    rcases List.mem_cons.1 hk with rfl | hk
    · unfold wpOp
      simp only [hi]
      rw [if_pos hwi]
      refine .inl ?_
      unfold Oper.wp
      rw [hri]
      show S wi ∧ wpAnyH P md ops Q S fuel (listed.setIfInBounds k true) (a.put oi.dst vi) wi
      rw [hdi]
      exact ⟨hSi, h1⟩
    · rw [List.mem_singleton.1 hk]
      unfold wpOp
      simp only [hj]
      rw [if_pos hwj]
      refine .inl ?_
      unfold Oper.wp
      rw [hrj]
      show S wj ∧ wpAnyH P md ops Q S fuel (listed.setIfInBounds j true) (a.put oj.dst vj) wj
      rw [hdj]
      exact ⟨hSj, h2⟩
/-- an operation that yields a value, at a known world -/
theorem val_if {o : Oper} {dst : Nat} {a : Act} {w w' : World} {v : Value} {K : Act → World → Prop} {E : Prop} (hd : o.dst = some dst) (hw : Region.wanted o (yielded ops a.tmps) = true)
    (hrun : (execOp a.eval o).run P w = .ok (.value v) w') (h : K { a with tmps := a.tmps.setIfInBounds dst v } w') : if Region.wanted o (yielded ops a.tmps) = true then o.wp P a w K Q else E := by
  rw [if_pos hw]
  unfold Oper.wp
  rw [hrun]
  show K (a.put o.dst v) w'
  rw [hd]
  exact h
/-- an operation by a law of its own, the one that may come up -/
theorem oneA {S : World → Prop} {i fuel dst : Nat} {oi : Oper} {listed : Array Bool} {a : Act} {w : World} (hi : ops[i]? = some oi) (hr : Region.ready md ops listed = [i]) (hg : oi.guard = none) (hd : oi.dst = some dst)
    (h : ∀ K : Act → World → Prop, (∀ v w', S w' → wpAnyH P md ops Q S fuel (listed.setIfInBounds i true) { a with tmps := a.tmps.setIfInBounds dst v } w' → K (a.put oi.dst v) w') → if Region.wanted oi (yielded ops a.tmps) = true then oi.wp P a w K Q else True) : wpAnyH P md ops Q S (fuel + 1) listed a w :=
  oneH hi hr hg (h _ fun v w' hS hw => by
    refine ⟨hS, ?_⟩
    rw [hd]
    exact hw)
theorem oneN {S : World → Prop} {i fuel : Nat} {oi : Oper} {listed : Array Bool} {a : Act} {w : World} (hi : ops[i]? = some oi) (hr : Region.ready md ops listed = [i]) (hg : oi.guard = none) (hd : oi.dst = none)
    (h : ∀ K : Act → World → Prop, (∀ v w', S w' → wpAnyH P md ops Q S fuel (listed.setIfInBounds i true) a w' → K (a.put oi.dst v) w') → if Region.wanted oi (yielded ops a.tmps) = true then oi.wp P a w K Q else True) : wpAnyH P md ops Q S (fuel + 1) listed a w :=
  oneH hi hr hg (h _ fun v w' hS hw => by
    refine ⟨hS, ?_⟩
    rw [hd]
    exact hw)
/-- one of two, by a law of its own -/
theorem law_if {S : World → Prop} {i fuel dst : Nat} {oi : Oper} {listed : Array Bool} {a : Act} {w : World} (hd : oi.dst = some dst)
    (h : ∀ K : Act → World → Prop, (∀ v w', S w' → wpAnyH P md ops Q S fuel (listed.setIfInBounds i true) { a with tmps := a.tmps.setIfInBounds dst v } w' → K (a.put oi.dst v) w') → if Region.wanted oi (yielded ops a.tmps) = true then oi.wp P a w K Q else True) :
    if Region.wanted oi (yielded ops a.tmps) = true then oi.wp P a w (fun a' w' => S w' ∧ wpAnyH P md ops Q S fuel (listed.setIfInBounds i true) a' w') Q else True :=
  h _ fun v w' hS hw => by
    refine ⟨hS, ?_⟩
    rw [hd]
    exact hw
end
end Go.Proofs.Ytkdacemachejoaa
namespace Go.Proofs.Ytkdacemachejoaa
open Go.RowKit Go.Shelf
set_option linter.unusedVariables false
section
variable {F : Fence} {n : Nat} {P : Program}
/-- what an iterator owes a loop whose rounds keep Kp -/
def SeqKp {α : Type} (F : Fence) (m : Nat) (P : Program) (gf : Nat) (lb : Array Value) (encs : α → Array Value) (Kp : World → World → Prop) (S : List α → Prop) (T : List α) (w0 : World) : Prop :=
  ∀ (l : Nat) (J : List α → World → Prop) (W : World), Only [] w0 W → (∀ s X Y, J s X → Only [] X Y → J s Y) →
    (∀ pre x X, J pre X → pre ++ [x] <+: T → YieldAt F (m - 1) P l (encs x) X fun e Y => e = .returned (.bool true) ∧ J (pre ++ [x]) Y ∧ Kp X Y) →
    J [] W → CallsIn F m P gf (#[.func (.yield l) #[] #[]] ++ lb) W fun e Y => (∃ v, e = .returned v) ∧ ∃ xs, S xs ∧ J xs Y
/-- a round's body is left at its end alone -/
def roundK {α : Type} (Kp : World → World → Prop) (B : Nat) (I : List α → World → Prop) (xs : List α) (W : World) : Exit → Act → World → Prop
  | .normal, _, Y => KeepsFrom B W Y ∧ Kp W Y ∧ I xs Y
  | _, _, _ => False
theorem wpIn_rangeK {α : Type} {g : Operand} {ps : Array Tmp} {assign body : Code} {Q : Exit → Act → World → Prop} {a : Act} {w : World}
    (hro : F.round = none) (h1 : 1 ≤ n) {gf : Nat} {lb : Array Value} (hg : a.eval g = .func (.func gf) #[] lb) (hFg : F.fn gf) (eg : ∀ args w, (callFunc gf args).run P w = .ok (.enter gf args) w)
    {encs : α → Array Value} {Kp : World → World → Prop} {S : List α → Prop} {T : List α} (hseq : SeqKp F (n - 1) P gf lb encs Kp S T w) (hps : ∀ x, (encs x).size = ps.size)
    (hKt : ∀ {A B C : World}, Kp A B → Kp B C → Kp A C) (hKb : ∀ (W : World) (l : Nat) (o o' : Obj), w.heap.size ≤ l → W.heap[l]? = some o → o.isCells = false → Kp W (W.putObj l o'))
    (I : List α → World → Prop) (hI : OwnFrom w.heap.size I) (hIo : ∀ s X Y, I s X → Only [] X Y → I s Y) (hIK : ∀ s X Y, I s X → Only [] X Y → Kp X Y) (h0 : I [] w)
    (mk : α → World → World) (hmk : ∀ x W, Only [] W (mk x W)) (M : α → World → World → Prop) (hM : ∀ x W, M x W (mk x W)) (hMo : ∀ x W, OwnFrom w.heap.size (fun (_ : Unit) X => M x W X)) (a₁ : α → World → Act)
    (hassign : ∀ (l : Nat) (x : α) (W : World) (K : Act → World → Prop), K (a₁ x W) (mk x W) →
      assign.wpIn (F.inRound l) (n - 1 - 1) P (Exit.then K (fun _ _ _ => False)) { tmps := (ps.zip (encs x)).foldl (fun t (p, v) => t.setIfInBounds p v) a.tmps, defers := [] } W)
    (hbody : ∀ (l : Nat) (pre : List α) (x : α) (W0 W : World), I pre W → M x W0 W → w.heap.size ≤ W0.heap.size → pre ++ [x] <+: T → body.wpIn (F.inRound l) (n - 1 - 1) P (roundK Kp w.heap.size I (pre ++ [x]) W) (a₁ x W0) W)
    (hdone : ∀ (D : Nat) (xs : List α) (W : World), w.heap.size ≤ D → S xs → I xs W → W.heap[D]? = some (.deferred (some [])) → Q .normal { a with defers := { target := .collected D, args := #[] } :: a.defers } W) :
    (Code.rangeFunc g ps assign body).wpIn F n P Q a w := by
  refine wpIn_rangeFunc fun fn hfn => ?_
  rw [hro]
  obtain ⟨rec, hrec⟩ : ∃ rec : LoopState → Option Code → Loop, rec = fun st pe => { state := st, pending := pe, fn, tmps := a.tmps, params := ps, assign, body, defers := w.heap.size } := ⟨_, rfl⟩
  obtain ⟨W1, hW1⟩ : ∃ W1, (w.alloc (.deferred (some []))).alloc (.loop (rec .ready none)) = W1 := ⟨_, rfl⟩
  have hO1 : Only [] w W1 := by rw [← hW1]; exact ((Only.refl [] w).alloc _).alloc _
  have hL1 : W1.heap[w.heap.size + 1]? = some (.loop (rec .ready none)) := by
    have h := World.alloc_heap_new (w.alloc (.deferred (some []))) (.loop (rec .ready none))
    rwa [World.size_alloc, hW1] at h
  have hK1 : W1.heap[w.heap.size]? = some (.deferred (some [])) := by
    rw [← hW1]
    exact (Below.heap_alloc _ _ _ (by simp)).trans (World.alloc_heap_new w _)
  refine ⟨w.heap.size + 1, [{ target := .collected w.heap.size, args := #[] }], W1, { target := .fn (.func gf) lb, args := #[.func (.yield (w.heap.size + 1)) #[] #[]] }, W1, gf,
    #[.func (.yield (w.heap.size + 1)) #[] #[]] ++ lb, W1, ?_, ?_, ?_, ?_, fun _ => h1, ?_⟩
  · rw [← hW1, hrec]; exact run_enterLoop_outer _ _ _ _ _
  · simp only [resolve, hg]
    simp [go_sem]
  · intro f' hf'
    simp [Target.leads] at hf'
    subst hf'
    exact hFg
  · simp [invoke, go_sem, eg]
  · refine (hseq (w.heap.size + 1) (fun s W => I s W ∧ W.heap[w.heap.size + 1]? = some (.loop (rec .ready none)) ∧ W.heap[w.heap.size]? = some (.deferred (some []))) W1 hO1
      (fun s X Y h ho => ⟨hIo s X Y h.1 ho, (ho.block _ (Array.getElem?_eq_some_iff.1 h.2.1).1 (by simp)).trans h.2.1, (ho.block _ (Array.getElem?_eq_some_iff.1 h.2.2).1 (by simp)).trans h.2.2⟩)
      ?_ ⟨hIo _ _ _ h0 hO1, hL1, hK1⟩).mono ?_
    · rintro pre x W ⟨hi, hl, hk⟩ hlen
      have hlt := (Array.getElem?_eq_some_iff.1 hl).1
      have hy := run_yield (P := P) (args := encs x) hl (by rw [hrec]; exact hps x)
      rw [hrec] at hy
      have hom := hmk x W
      have hi' := hIo _ _ _ hi hom
      have hl' := (hom.block _ (Array.getElem?_eq_some_iff.1 hl).1 (by simp)).trans hl
      have hk' := (hom.block _ (Array.getElem?_eq_some_iff.1 hk).1 (by simp)).trans hk
      have hkp' := hIK _ _ _ hi hom
      have hm' := hM x W
      refine ⟨fn, _, assign, body, hy, roundIn_of_wpIn hfn (hassign _ x W _ ⟨_, run_beginRound hl' (by rw [hrec]), ?_⟩)⟩
      obtain ⟨W', hW'⟩ : ∃ W', mk x W = W' := ⟨_, rfl⟩
      rw [hW'] at hom hi' hl' hk' hkp' hm' ⊢
      have hlt' := (Array.getElem?_eq_some_iff.1 hl').1
      obtain ⟨W2, hW2⟩ : ∃ W2, W'.putObj (w.heap.size + 1) (.loop { rec .ready none with state := .busy }) = W2 := ⟨_, rfl⟩
      have hl2 : W2.heap[w.heap.size + 1]? = some (.loop { rec .ready none with state := .busy }) := by rw [← hW2]; exact World.putObj_heap_same hlt'
      have hk2 : W2.heap[w.heap.size]? = some (.deferred (some [])) := by rw [← hW2]; exact (World.putObj_heap_other (by omega)).trans hk'
      have hi2 : I pre W2 := by rw [← hW2]; exact hI.putObj _ hi' (by omega) hl' rfl
      have hm2 : M x W W2 := by rw [← hW2]; exact (hMo x W).putObj (s := ()) _ hm' (by omega) hl' rfl
      have hkp2 : Kp W' W2 := by rw [← hW2]; exact hKb _ _ _ _ (by omega) hl' rfl
      rw [hW2]
      refine wpIn_mono (hbody _ pre x W W2 hi2 hm2 (by omega) hlen) ?_
      rintro e a3 W3 hp
      cases e with
      | normal =>
        obtain ⟨hk3, hkp3, hi3⟩ := hp
        have hl3 := hk3.same _ _ (by omega) hl2 rfl
        have hr := run_endRound (P := P) none hl3
        rw [hrec] at hr hl3
        refine ⟨_, _, hr, rfl, ⟨hI.putObj _ hi3 (by omega) hl3 rfl, ?_, (World.putObj_heap_other (by omega)).trans (hk3.same _ _ (Nat.le_refl _) hk2 rfl)⟩, hKt hkp' (hKt hkp2 (hKt hkp3 (hKb _ _ _ _ (by omega) hl3 rfl)))⟩
        rw [hrec]
        exact World.putObj_heap_same (Array.getElem?_eq_some_iff.1 hl3).1
      | ret => exact hp.elim
      | exit id => exact hp.elim
      | goto t => exact hp.elim
      | panic ch => exact hp.elim
      | outgrown => exact hp.elim
    · rintro e W2 ⟨⟨v, rfl⟩, xs, hS, hi, hl, hk⟩
      have hr := run_endLoop (P := P) hl (by rw [hrec]; simp)
      rw [hrec] at hr
      exact ⟨none, _, hr, hdone _ xs _ (Nat.le_refl _) hS (hI.putObj _ hi (by omega) hl rfl) ((World.putObj_heap_other (by omega)).trans hk)⟩
end
end Go.Proofs.Ytkdacemachejoaa
namespace Go.Proofs.Ytkdacemachejoaa
open Go.RowKit Go.Shelf
set_option linter.unusedVariables false
section
variable {P : Program} {ops : Array Oper} {Q : Exit → Act → World → Prop} {md : Region.Mode} {S : World → Prop} {k : Nat}
/-- whatever order is picked: S holds behind each operation but k -/
def wpAnyL (P : Program) (md : Region.Mode) (ops : Array Oper) (Q : Exit → Act → World → Prop) (S : World → Prop) (k : Nat) : Nat → Array Bool → Act → World → Prop
  | 0, listed, a, w => Region.ready md ops listed = [] ∧ Q .normal a w
  | fuel + 1, listed, a, w => (Region.ready md ops listed = [] → Q .normal a w) ∧
    ∀ i ∈ Region.ready md ops listed, wpOp P ops Q i (fun a' w' => (i ≠ k → S w') ∧ wpAnyL P md ops Q S k fuel (listed.setIfInBounds i true) a' w') a w
theorem wpAny_of_last : ∀ (fuel : Nat) (listed : Array Bool) (a : Act) (w : World), wpAnyL P md ops Q S k fuel listed a w → wpAny P md ops Q fuel listed a w
  | 0, _, _, _, h => h
  | fuel + 1, _, _, _, h => ⟨h.1, fun i hi => wpOp_mono (fun a' w' h' => wpAny_of_last fuel _ a' w' h'.2) (h.2 i hi)⟩
/-- k waits for i -/
def waits (md : Region.Mode) (ops : Array Oper) (k i : Nat) : Bool := match ops[k]? with
  | some o => o.after.any fun e => Region.binds md e && e.on == i
  | none => false
theorem waits_no {i : Nat} {listed : Array Bool} (hw : waits md ops k i = true) (hr : i ∈ Region.ready md ops listed) : k ∉ Region.ready md ops listed := fun hk => by
  obtain ⟨_, ok, hok, hall⟩ := mem_ready.1 hk
  unfold waits at hw
  rw [hok] at hw
  simp only [Array.any_eq_true', Bool.and_eq_true, beq_iff_eq] at hw
  obtain ⟨e, he, hb, heq⟩ := hw
  have h1 := hall e he hb
  have h0 := (mem_ready.1 hr).1
  rw [heq] at h1
  rcases Nat.lt_or_ge i listed.size with h' | h'
  · simp [h'] at h0 h1; rw [h0] at h1; cases h1
  · simp [Array.getElem?_eq_none h'] at h1
theorem wpAnyL_first {i : Nat} {oi : Oper} {v : Value} (hi : ops[i]? = some oi) (hsel : ∀ (j : Nat) (o : Oper) cs b, ops[j]? = some o → o.op ≠ .select cs b)
    (hQ : ∀ c a w, Q (.panic c) (a.put oi.dst v) w → Q (.panic c) a w) (hwt : waits md ops k i = true) :
    ∀ (fuel : Nat) (listed : Array Bool) (a : Act) (w : World),
      (∀ j oj, ops[j]? = some oj → j ≠ i → listed.getD j true = false → (∀ e ∈ oj.after, Region.binds md e = true → e.on ≠ i) → oi.apart ops oj = true) →
      i ∈ Region.ready md ops listed → YieldsIf P ops S oi v a → S w →
      wpAnyL P md ops Q S k fuel (listed.setIfInBounds i true) (a.put oi.dst v) w → wpAnyL P md ops Q S k (fuel + 1) listed a w := by
  intro fuel
  induction fuel with
  | zero =>
    intro listed a w _ hr hy hS H
    refine ⟨fun h => (by rw [h] at hr; cases hr), fun j hj => ?_⟩
    by_cases hji : j = i
    · subst hji; exact hy.wpOp hi hS ⟨fun _ => hS, H⟩
    · have := ready_mono hj hji
      rw [H.1] at this
      cases this
  | succ fuel ih =>
    intro listed a w hfree hr hy hS H
    refine ⟨fun h => (by rw [h] at hr; cases hr), fun j hj => ?_⟩
    by_cases hji : j = i
    · subst hji; exact hy.wpOp hi hS ⟨fun _ => hS, H⟩
    · have h1 := H.2 j (ready_mono hj hji)
      have hjk : j ≠ k := fun h => waits_no hwt hr (h ▸ hj)
      obtain ⟨hjun, oj, hoj, hall⟩ := mem_ready.1 hj
      have hnot : ∀ e ∈ oj.after, Region.binds md e = true → e.on ≠ i := fun e he hb heq => by
        have h1 := hall e he hb
        have h0 := (mem_ready.1 hr).1
        rw [heq] at h1
        rcases Nat.lt_or_ge i listed.size with h' | h'
        · simp [h'] at h0 h1; rw [h0] at h1; cases h1
        · simp [Array.getElem?_eq_none h'] at h1
      have h2 := wpOp_putIf hoj (hfree j oj hoj hji hjun hnot) (fun cs b => hsel i oi cs b hi) (fun cs b => hsel j oj cs b hoj) hQ hy h1
      have hfree' : ∀ l ol, ops[l]? = some ol → l ≠ i → (listed.setIfInBounds j true).getD l true = false →
          (∀ e ∈ ol.after, Region.binds md e = true → e.on ≠ i) → oi.apart ops ol = true := fun l ol hl hli hun hno => by
        refine hfree l ol hl hli ?_ hno
        by_cases hjl : j = l
        · subst hjl; exact hjun
        · rw [getD_set_ne true hjl] at hun; exact hun
      refine wpOp_mono (fun a' w' h3 => ⟨fun _ => h3.2.1 hjk, ih (listed.setIfInBounds j true) a' w' hfree' (ready_mono hr (Ne.symm hji)) h3.1 (h3.2.1 hjk) ?_⟩) h2
      rw [Array.setIfInBounds_comm _ _ hji]
      exact h3.2.2
theorem wp_region_last {id : Nat} {a : Act} {w : World} (S : World → Prop) (k : Nat) (hm : P.follows .mixedOrders = true)
    (h : wpAnyL P .any ops Q S k ops.size (Array.replicate ops.size false) a w.drew) : (Code.region id ops true).wp P Q a w := wp_region_any hm (wpAny_of_last _ _ _ _ h)
theorem wpAnyL_all {rs : List Nat} {fuel : Nat} {listed : Array Bool} {a : Act} {w : World} (hr : Region.ready md ops listed = rs) (hne : rs ≠ [])
    (h : ∀ i ∈ rs, wpOp P ops Q i (fun a' w' => (i ≠ k → S w') ∧ wpAnyL P md ops Q S k fuel (listed.setIfInBounds i true) a' w') a w) : wpAnyL P md ops Q S k (fuel + 1) listed a w :=
  ⟨fun h0 => absurd (hr ▸ h0) hne, hr ▸ h⟩
theorem wpAnyL_done {listed : Array Bool} {a : Act} {w : World} (hr : Region.ready md ops listed = []) (h : Q .normal a w) : ∀ fuel, wpAnyL P md ops Q S k fuel listed a w
  | 0 => ⟨hr, h⟩
  | _ + 1 => ⟨fun _ => h, by rw [hr]; simp⟩
/-- taken first: it yields its value wherever S holds, and k waits for it -/
theorem takeL {i fuel dst : Nat} {oi : Oper} {listed : Array Bool} {a : Act} {w : World} {v : Value} (hi : ops[i]? = some oi) (hs : Region.noSelect ops = true) (hf : Region.free md ops listed i = true) (hr : (Region.ready md ops listed).contains i = true) (hwt : waits md ops k i = true)
    (hQ : ∀ c a w, Q (.panic c) (a.put oi.dst v) w → Q (.panic c) a w) (hd : oi.dst = some dst) (hw : Region.wanted oi (yielded ops a.tmps) = true) (hrun : ∀ w, S w → (execOp a.eval oi).run P w = .ok (.value v) w) (hS : S w)
    (h : wpAnyL P md ops Q S k fuel (listed.setIfInBounds i true) { a with tmps := a.tmps.setIfInBounds dst v } w) : wpAnyL P md ops Q S k (fuel + 1) listed a w :=
  wpAnyL_first hi (Region.noSelect_spec hs) hQ hwt fuel listed a w (Region.free_spec hi hf) (by simpa using hr) (.inl ⟨hw, hrun⟩) hS (by rw [hd]; exact h)
/-- the one that may come up: it yields a value -/
theorem oneWL {i fuel dst : Nat} {oi : Oper} {listed : Array Bool} {a : Act} {w w' : World} {v : Value} (hi : ops[i]? = some oi) (hr : Region.ready md ops listed = [i]) (hd : oi.dst = some dst) (hw : Region.wanted oi (yielded ops a.tmps) = true)
    (hrun : (execOp a.eval oi).run P w = .ok (.value v) w') (hS : S w') (h : wpAnyL P md ops Q S k fuel (listed.setIfInBounds i true) { a with tmps := a.tmps.setIfInBounds dst v } w') : wpAnyL P md ops Q S k (fuel + 1) listed a w :=
  wpAnyL_all hr (by simp) fun j hj => by
    rw [List.mem_singleton.1 hj]
    unfold wpOp
    simp only [hi]
    rw [if_pos hw]
    refine .inl ?_
    unfold Oper.wp
    rw [hrun]
    show (i ≠ k → S w') ∧ wpAnyL P md ops Q S k fuel (listed.setIfInBounds i true) (a.put oi.dst v) w'
    rw [hd]
    exact ⟨fun _ => hS, h⟩
/-- the last one, a store -/
theorem lastS {fuel : Nat} {oi : Oper} {listed : Array Bool} {a : Act} {w w' : World} {v : Value} (hi : ops[k]? = some oi) (hr : Region.ready md ops listed = [k]) (hd : oi.dst = none) (hw : Region.wanted oi (yielded ops a.tmps) = true)
    (hrun : (execOp a.eval oi).run P w = .ok .skip w' ∨ (execOp a.eval oi).run P w = .ok (.value v) w') (h : wpAnyL P md ops Q S k fuel (listed.setIfInBounds k true) a w') : wpAnyL P md ops Q S k (fuel + 1) listed a w :=
  wpAnyL_all hr (by simp) fun j hj => by
    rw [List.mem_singleton.1 hj]
    unfold wpOp
    simp only [hi]
    rw [if_pos hw]
    refine .inl ?_
    unfold Oper.wp
    rcases hrun with hrun | hrun
    · rw [hrun]
      show (k ≠ k → S w') ∧ wpAnyL P md ops Q S k fuel (listed.setIfInBounds k true) (a.put oi.dst undef) w'
      rw [hd]
      exact ⟨fun h => absurd rfl h, h⟩
    · rw [hrun]
      show (k ≠ k → S w') ∧ wpAnyL P md ops Q S k fuel (listed.setIfInBounds k true) (a.put oi.dst v) w'
      rw [hd]
      exact ⟨fun h => absurd rfl h, h⟩
/-- by a law of its own, the one that may come up -/
theorem oneAL {i fuel dst : Nat} {oi : Oper} {listed : Array Bool} {a : Act} {w : World} (hi : ops[i]? = some oi) (hr : Region.ready md ops listed = [i]) (hg : oi.guard = none) (hd : oi.dst = some dst)
    (h : ∀ K : Act → World → Prop, (∀ v w', S w' → wpAnyL P md ops Q S k fuel (listed.setIfInBounds i true) { a with tmps := a.tmps.setIfInBounds dst v } w' → K (a.put oi.dst v) w') → if Region.wanted oi (yielded ops a.tmps) = true then oi.wp P a w K Q else True) : wpAnyL P md ops Q S k (fuel + 1) listed a w :=
  wpAnyL_all hr (by simp) fun j hj => by
    rw [List.mem_singleton.1 hj]
    unfold wpOp
    simp only [hi]
    have h1 := h (fun a' w' => (i ≠ k → S w') ∧ wpAnyL P md ops Q S k fuel (listed.setIfInBounds i true) a' w') (fun v w' hS hw => by
      refine ⟨fun _ => hS, ?_⟩
      rw [hd]
      exact hw)
    have hwn : Region.wanted oi (yielded ops a.tmps) = true := by simp [Region.wanted, hg]
    rw [if_pos hwn] at h1 ⊢
    exact .inl h1
end
end Go.Proofs.Ytkdacemachejoaa
