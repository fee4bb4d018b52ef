/- inExpr with the body of a loop for its yield. -/
import Derived.Test.YtmjkohlhbboapaaTrCnt
import Derived.Test.YtmjkohlhbboapaaRegRound
import Derived.RangeFuncWrites
import Derived.RangeFuncKeeps
namespace Go.Proofs.Ytmjkohlhbboapaa.Tree
open Go.RowKit Go.Shelf
set_option linter.unusedVariables false
set_option maxRecDepth 100000
/-- the blocks that the loop's body may turn: the variable's, and the row that it holds -/
def rowT (b3 : Nat) (X : World) : List Nat := b3 :: (match X.cell? ⟨b3, 0, none⟩ with
  | some v => ownL v
  | none => [])
theorem rowT_same {b3 : Nat} {X Y : World} (h : Y.heap[b3]? = X.heap[b3]?) : rowT b3 Y = rowT b3 X := by
  unfold rowT
  rw [World.cell?_of_block (w := X) h]
/-- what a round keeps -/
structure KpT (b3 : Nat) (X Y : World) : Prop where
  size : X.heap.size ≤ Y.heap.size
  same : ∀ (k : Nat) (cs : Array Value) (t : TypeId) (fr : Nat × Nat), X.heap[k]? = some (.cells cs t fr) → k ∉ rowT b3 X → Y.heap[k]? = X.heap[k]?
  grow : ∀ g ∈ rowT b3 Y, g ∈ rowT b3 X ∨ X.heap.size ≤ g
  fit : (∀ g ∈ rowT b3 X, g < X.heap.size) → ∀ g ∈ rowT b3 Y, g < Y.heap.size
theorem hlt_of {X : World} {k : Nat} {o : Obj} (h : X.heap[k]? = some o) : k < X.heap.size := (Array.getElem?_eq_some_iff.1 h).1
section
variable {b3 B : Nat} {X Y Z : World}
theorem KpT.refl (b3 : Nat) (X : World) : KpT b3 X X := ⟨Nat.le_refl _, fun _ _ _ _ _ _ => rfl, fun g hg => .inl hg, fun h => h⟩
theorem KpT.trans (h : KpT b3 X Y) (k : KpT b3 Y Z) : KpT b3 X Z := ⟨Nat.le_trans h.size k.size, fun i cs t fr hi hn => by
    have h1 := h.same i cs t fr hi hn
    have h2 := k.same i cs t fr (h1.trans hi) (fun hm => by
      rcases h.grow i hm with h3 | h3
      · exact hn h3
      · have := hlt_of hi; omega)
    exact h2.trans h1, fun g hg => by
    rcases k.grow g hg with h1 | h1
    · exact h.grow g h1
    · exact .inr (Nat.le_trans h.size h1), fun hf => k.fit (h.fit hf)⟩
theorem KpT.only0 (ho : Only [] X Y) (hb : b3 < X.heap.size) : KpT b3 X Y := by
  have e : rowT b3 Y = rowT b3 X := rowT_same (ho.block b3 hb (by simp))
  exact ⟨ho.size, fun k cs t fr hk _ => ho.block k (hlt_of hk) (by simp), fun g hg => .inl (by rw [← e]; exact hg), fun hf g hg => Nat.lt_of_lt_of_le (hf g (by rw [← e]; exact hg)) ho.size⟩
theorem KpT.putObj {l : Nat} {o o' : Obj} (hl : b3 < l) (h : X.heap[l]? = some o) (hc : o.isCells = false) : KpT b3 X (X.putObj l o') := by
  have hs : (X.putObj l o').heap.size = X.heap.size := by simp [World.putObj]
  have e : rowT b3 (X.putObj l o') = rowT b3 X := rowT_same (World.putObj_heap_other (by omega))
  refine ⟨by omega, fun k cs t fr hk _ => ?_, fun g hg => .inl (by rw [← e]; exact hg), fun hf g hg => by rw [hs]; exact hf g (by rw [← e]; exact hg)⟩
  refine World.putObj_heap_other (fun e => ?_)
  subst e
  rw [h] at hk
  injection hk with hk
  subst hk
  cases hc
/-- the tree lies apart from what the body turns -/
structure TOK (b3 B : Nat) (X : World) : Prop where
  lt : b3 < X.heap.size
  lo : B ≤ b3
  all : ∀ g ∈ rowT b3 X, B ≤ g ∧ g < X.heap.size
theorem TOK.kp (h : TOK b3 B X) (k : KpT b3 X Y) : TOK b3 B Y := ⟨Nat.lt_of_lt_of_le h.lt k.size, h.lo, fun g hg => ⟨by
    rcases k.grow g hg with h1 | h1
    · exact (h.all g h1).1
    · have := h.lo; have := h.lt; omega, k.fit (fun g hg => (h.all g hg).2) g hg⟩⟩
theorem TOK.not_ (h : TOK b3 B X) {g : Nat} (hg : g < B) : g ∉ rowT b3 X := fun hm => by have := (h.all g hm).1; omega
theorem cells_of {a : Addr} {v : Value} (h : X.cell? a = some v) : ∃ cs t fr, X.heap[a.block]? = some (.cells cs t fr) := by
  unfold World.cell? at h
  split at h
  · rename_i cs t fr hh
    exact ⟨_, _, _, hh⟩
  all_goals (first | (cases h; done) | skip)
theorem KpT.cell (h : KpT b3 X Y) {a : Addr} {v : Value} (hc : X.cell? a = some v) (hn : a.block ∉ rowT b3 X) : Y.cell? a = some v := by
  obtain ⟨cs, t, fr, hh⟩ := cells_of hc
  rw [World.cell?_of_block (w := X) (h.same a.block cs t fr hh hn)]
  exact hc
theorem KpT.blk (h : KpT b3 X Y) {g : Nat} {t : TypeId} {cs : Array Value} (hb : Blk X g t cs) (hn : g ∉ rowT b3 X) : Blk Y g t cs := (h.same g cs t (0, 0) hb hn).trans hb
theorem recs_kp {size n : Nat} {A : Option Addr} {rows : List (List Value)} (h : Recs X B size A n rows) (k : KpT b3 X Y) (ht : TOK b3 B X) : Recs Y B size A n rows :=
  ⟨h.1, fun hm => by
    obtain ⟨b, off, e, hb, hc⟩ := h.2 hm
    refine ⟨b, off, e, hb, fun i hi j hj => ?_⟩
    obtain ⟨h1, h2⟩ := hc i hi j hj
    obtain ⟨u, hu⟩ := Option.isSome_iff_exists.1 h2
    rw [hu] at h1
    exact ⟨by rw [k.cell h1 (ht.not_ hb), hu], h2⟩⟩
theorem XT.In.kp {d : Nat} {x : XT} (h : XT.In X B d x) (k : KpT b3 X Y) (ht : TOK b3 B X) : XT.In Y B d x := by
  induction d generalizing x with
  | zero => exact h.elim
  | succ d ih => exact ⟨recs_kp h.1 k ht, h.2.1, fun y hy => ih (h.2.2 y hy)⟩
theorem ST.In.kp {d : Nat} {x : ST} (h : ST.In X B d x) (k : KpT b3 X Y) (ht : TOK b3 B X) : ST.In Y B d x := by
  induction d generalizing x with
  | zero => exact h.elim
  | succ d ih => exact ⟨h.1.kp k ht, ⟨recs_kp h.2.1.1 k ht, h.2.1.2⟩, ⟨recs_kp h.2.2.1.1 k ht, h.2.2.1.2⟩, fun y hy => ih (h.2.2.2.1 y hy), fun y hy => ih (h.2.2.2.2 y hy)⟩
end
/-- expressions, as they are come to -/
def walkX : Nat → XT → List XT
  | 0, _ => []
  | d + 1, x => x :: x.X.flatMap (walkX d)
theorem flat_take {α β : Type} {f : α → List β} {l : List α} {k : Nat} {x : α} (h : l[k]? = some x) : (l.take (k + 1)).flatMap f = (l.take k).flatMap f ++ f x := by
  obtain ⟨h1, h2⟩ := List.getElem?_eq_some_iff.1 h
  rw [List.take_succ_eq_append_getElem h1, h2, List.flatMap_append]
  simp
theorem flat_le {α β : Type} {f : α → List β} {l : List α} {k : Nat} {x : α} (h : l[k]? = some x) : ((l.take k).flatMap f).length + (f x).length ≤ (l.flatMap f).length := by
  rw [← List.length_append, ← flat_take h]
  conv => rhs; rw [← List.take_append_drop (k + 1) l]
  rw [List.flatMap_append, List.length_append]
  omega
theorem flat_pre {α β : Type} {f : α → List β} {l : List α} {k : Nat} {x : α} (s : List β) (h : l[k]? = some x) : s ++ (l.take k).flatMap f ++ f x <+: s ++ l.flatMap f := by
  rw [List.append_assoc, ← flat_take h]
  conv => rhs; rw [← List.take_append_drop (k + 1) l]
  rw [List.flatMap_append, ← List.append_assoc]
  exact List.prefix_append _ _
/-- how a walk may end: it went on to its end, or the body left -/
def YO (b3 : Nat) (W : World) (J Jx : List XT → World → Prop) (s : List XT) (e : Ending) (Y : World) : Prop := (e = .returned (.bool true) ∧ J s Y ∧ KpT b3 W Y) ∨ (e = .returned (.bool false) ∧ ∃ p, Jx p Y)
section
variable {m l b3 B : Nat} {T : List XT} {J Jx : List XT → World → Prop}
theorem YO.after {W W0 : World} {s : List XT} {e : Ending} {Y : World} (k : KpT b3 W0 W) (h : YO b3 W J Jx s e Y) : YO b3 W0 J Jx s e Y := by
  rcases h with ⟨h1, h2, h3⟩ | h
  · exact .inl ⟨h1, h2, k.trans h3⟩
  · exact .inr h
set_option maxHeartbeats 8000000 in
theorem inExprY (hJ : ∀ s X Y, J s X → Only [] X Y → J s Y)
    (HY : ∀ pre (x : XT) W1, J pre W1 → pre ++ [x] <+: T → YieldAt Fence.wide m Try.prog l #[x.val] W1 fun e W' => (e = .returned (.bool true) ∧ J (pre ++ [x]) W' ∧ KpT b3 W1 W') ∨ (e = .returned (.bool false) ∧ Jx (pre ++ [x]) W')) :
    ∀ (d : Nat) (x : XT) (pre : List XT) (W : World), XT.In W B d x → TOK b3 B W → J pre W → pre ++ walkX d x <+: T →
    CallsIn Fence.wide (m + 1) Try.prog 41 #[x.val, .func (.yield l) #[] #[]] W fun e Y => YO b3 W J Jx (pre ++ walkX d x) e Y := by
  intro d
  induction d with
  | zero => intro x pre W hx; exact hx.elim
  | succ d ih =>
    intro x pre W hx ht hj hN
    have hxl := hx.2.1
    have HXY := fun W1 hj1 hl => HY pre x W1 hj1 hl
    have hw : walkX (d + 1) x = x :: x.X.flatMap (walkX d) := rfl
    rw [hw] at hN ⊢
    have HPX : Hid (pre ++ x :: x.X.flatMap (walkX d) = pre ++ [x] ++ x.X.flatMap (walkX d)) := Lib.hid (by simp)
    rw [HPX.out] at hN ⊢
    have hN1 : pre ++ [x] <+: T := (List.prefix_append _ _).trans hN
    obtain ⟨s1, hs1⟩ : ∃ s1, pre ++ [x] = s1 := ⟨_, rfl⟩
    rw [hs1] at hN ⊢
    replace HXY := fun W1 hj1 => HXY W1 hj1 hN1
    rw [hs1] at HXY
    obtain ⟨xo, xn, xs, xq, xA, xc, xX⟩ := x
    obtain ⟨hx1, _, hx2⟩ := hx
    simp only [XT.A, XT.X, XT.val, XT.op, XT.n, XT.s, XT.q, XT.c] at hxl hx1 hx2 hN HXY ⊢
    unfold maxLen at hxl
    obtain ⟨w1, hw1⟩ : ∃ w1, W.alloc (.cells #[.int .i64 xo, .int .i64 xn, .string xs, .string xq, .slice xA xX.length xc] 28) = w1 := ⟨_, rfl⟩
    have b1 : Blk w1 W.heap.size 28 #[.int .i64 xo, .int .i64 xn, .string xs, .string xq, .slice xA xX.length xc] := by rw [← hw1]; exact Blk.new W _ _
    have o1 : Only [] W w1 := by rw [← hw1]; exact (Only.refl [] W).alloc _
    have k1 := KpT.only0 o1 ht.lt
    have t1 := ht.kp k1
    have hn1 : W.heap.size ∉ rowT b3 w1 := fun hm => by
      rcases k1.grow _ hm with h1 | h1
      · have := (ht.all _ h1).2; omega
      · rw [rowT_same (o1.block b3 ht.lt (by simp))] at hm
        have := (ht.all _ hm).2; omega
    have p0 := b1.cell 0
    have p1 := b1.cell 1
    have p2 := b1.cell 2
    have p3 := b1.cell 3
    have p4 := b1.cell 4
    obtain ⟨fn, tmps, assign, body, hy, hR⟩ := HXY w1 (hJ _ _ _ hj o1)
    have HRR := Lib.hid hR
    have HX := Lib.hid (And.intro hx1 hx2)
    have HT := Lib.hid ht
    have HB1 := Lib.hid (And.intro b1 hn1)
    have HK1 := Lib.hid k1
    have HIH := Lib.hid ih
    have HJ := Lib.hid hJ
    have HN := Lib.hid hN
    clear hx1 hx2 b1 o1 ih hj hn1 t1 k1 ht hR HXY hs1 hJ HY hw hN hN1
    refine callsIn_of_wp Try.func41 rfl trivial ?_ rfl
    simp only [Try.ntmps41, List.size_toArray, List.length_cons, List.length_nil, Nat.reduceAdd, Nat.reduceSub, Array.replicate_succ, Array.replicate_zero, List.push_toArray, List.append_toArray, List.nil_append, List.cons_append]
    gi_wp2
    refine HRR.out.mono ?_
    rintro y w2 (⟨rfl, hj2, hk2⟩ | ⟨rfl, hj2⟩)
    · have b2 := hk2.blk HB1.out.1 HB1.out.2
      have r4 := b2.cell 4
      have HJ2 := Lib.hid (And.intro hj2 (HK1.out.trans hk2))
      clear hj2 hk2 b2 HRR hy
      gi_wp2
      gi_loopw [14] (fun iv wr => ∃ k : Nat, iv = .int .i64 k ∧ k ≤ xX.length ∧ J (s1 ++ (xX.take k).flatMap (walkX d)) wr ∧ KpT b3 W wr) (fun iv _ => xX.length - (intOf iv).toNat)
      case atStart => exact ⟨0, rfl, by omega, by simpa using HJ2.out.1, HJ2.out.2⟩
      case round =>
        obtain ⟨k, rfl, hk, hj, hkp⟩ := hrel
        clear HJ2
        by_cases hlt : k < xX.length
        · have d1 : decide ((k : Int) < (xX.length : Int)) = true := decide_eq_true (by omega)
          have htr := HT.out.kp hkp
          obtain ⟨b, off, y, rfl, _, hyx, hyk, q0, q1, q2, q3, q4⟩ := x_at (recs_kp HX.out.1 hkp HT.out) hlt
          obtain ⟨w3, hw3⟩ : ∃ w3, wr.alloc (.cells #[.int .i64 y.op, .int .i64 y.n, .string y.s, .string y.q, .slice y.A y.X.length y.c] 28) = w3 := ⟨_, rfl⟩
          have b3_ : Blk w3 wr.heap.size 28 #[.int .i64 y.op, .int .i64 y.n, .string y.s, .string y.q, .slice y.A y.X.length y.c] := by rw [← hw3]; exact Blk.new wr _ _
          have o3 : Only [] wr w3 := by rw [← hw3]; exact (Only.refl [] wr).alloc _
          have k3 := hkp.trans (KpT.only0 o3 htr.lt)
          have z0 := b3_.cell 0
          have z1 := b3_.cell 1
          have z2 := b3_.cell 2
          have z3 := b3_.cell 3
          have z4 := b3_.cell 4
          have hfl := (flat_pre (f := walkX d) s1 hyk).trans HN.out
          have HFT := Lib.hid (flat_take (f := walkX d) hyk)
          have HI := (callsIn_wide (n := m)).2 (callsIn_wide.1 (HIH.out y (s1 ++ (xX.take k).flatMap (walkX d)) w3 ((HX.out.2 y hyx).kp k3 HT.out) (HT.out.kp k3) (HJ.out _ _ _ hj o3) hfl))
          unfold XT.val at HI
          have HI2 := Lib.hid HI
          have HK3 := Lib.hid k3
          clear HI b3_ o3 hj htr hyx hyk hkp hfl k3
          gi_wp2
          refine ⟨trivial, HI2.out.mono ?_⟩
          rintro e w5 (⟨rfl, hj5, hk5⟩ | ⟨rfl, p5, hj5⟩)
          · have HF := Lib.hid (And.intro hj5 (HK3.out.trans hk5))
            clear hj5 hk5
            gi_wp2
            go_roundw
            case measure => simp [intOf]; omega
            case rel => exact ⟨k + 1, by go_num, by omega, by rw [HFT.out, ← List.append_assoc]; exact HF.out.1, HF.out.2⟩
          · have HF := Lib.hid hj5
            clear hj5
            gi_wp2
            go_ret
            exact .inr ⟨rfl, _, HF.out⟩
        · obtain rfl : k = xX.length := by omega
          have d1 : decide ((xX.length : Int) < (xX.length : Int)) = false := decide_eq_false (by omega)
          rw [List.take_length] at hj
          have HF := Lib.hid (And.intro hj hkp)
          clear hj hkp
          gi_wp2
          go_ret
          exact .inl ⟨rfl, HF.out⟩
    · have HF := Lib.hid hj2
      clear hj2
      gi_wp2
      go_ret
      exact .inr ⟨rfl, _, HF.out⟩
end
end Go.Proofs.Ytmjkohlhbboapaa.Tree
