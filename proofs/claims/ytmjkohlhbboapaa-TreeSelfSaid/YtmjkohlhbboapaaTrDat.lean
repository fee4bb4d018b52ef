/- Trees of expressions, statements, functions: how they lie; when two are the same. -/
import Derived.Test.YtmjkohlhbboapaaRowCut
import Derived.Test.YtmjkohlhbboapaaRegOne
import Derived.Deep.DeepCutAuto
import Derived.Deep.CutBlock
namespace Go.Proofs.Ytmjkohlhbboapaa.Tree
open Go.RowKit Go.Shelf
set_option linter.unusedVariables false
set_option maxRecDepth 100000
/-- an expression as it lies -/
inductive XT where
  | mk (op n : Int) (s q : ByteArray) (A : Option Addr) (c : Nat) (X : List XT)
def XT.op : XT → Int
  | mk op _ _ _ _ _ _ => op
def XT.n : XT → Int
  | mk _ n _ _ _ _ _ => n
def XT.s : XT → ByteArray
  | mk _ _ s _ _ _ _ => s
def XT.q : XT → ByteArray
  | mk _ _ _ q _ _ _ => q
def XT.A : XT → Option Addr
  | mk _ _ _ _ A _ _ => A
def XT.c : XT → Nat
  | mk _ _ _ _ _ c _ => c
def XT.X : XT → List XT
  | mk _ _ _ _ _ _ X => X
def XT.row (x : XT) : List Value := [.int .i64 x.op, .int .i64 x.n, .string x.s, .string x.q, .slice x.A x.X.length x.c]
def XT.val (x : XT) : Value := .agg #[.int .i64 x.op, .int .i64 x.n, .string x.s, .string x.q, .slice x.A x.X.length x.c]
def XT.In (w : World) (B : Nat) : Nat → XT → Prop
  | 0, _ => False
  | d + 1, x => Recs w B 5 x.A x.X.length (x.X.map XT.row) ∧ x.X.length ≤ maxLen ∧ ∀ y ∈ x.X, XT.In w B d y
/-- a statement as it lies -/
inductive ST where
  | mk (op : Int) (s : ByteArray) (e : XT) (bA : Option Addr) (bc : Nat) (body : List ST) (eA : Option Addr) (ec : Nat) (els : List ST)
def ST.op : ST → Int
  | mk op _ _ _ _ _ _ _ _ => op
def ST.s : ST → ByteArray
  | mk _ s _ _ _ _ _ _ _ => s
def ST.e : ST → XT
  | mk _ _ e _ _ _ _ _ _ => e
def ST.bA : ST → Option Addr
  | mk _ _ _ bA _ _ _ _ _ => bA
def ST.bc : ST → Nat
  | mk _ _ _ _ bc _ _ _ _ => bc
def ST.body : ST → List ST
  | mk _ _ _ _ _ b _ _ _ => b
def ST.eA : ST → Option Addr
  | mk _ _ _ _ _ _ eA _ _ => eA
def ST.ec : ST → Nat
  | mk _ _ _ _ _ _ _ ec _ => ec
def ST.els : ST → List ST
  | mk _ _ _ _ _ _ _ _ l => l
def ST.row (x : ST) : List Value := [.int .i64 x.op, .string x.s, .int .i64 x.e.op, .int .i64 x.e.n, .string x.e.s, .string x.e.q, .slice x.e.A x.e.X.length x.e.c, .slice x.bA x.body.length x.bc, .slice x.eA x.els.length x.ec]
def ST.val (x : ST) : Value := .agg #[.int .i64 x.op, .string x.s, .int .i64 x.e.op, .int .i64 x.e.n, .string x.e.s, .string x.e.q, .slice x.e.A x.e.X.length x.e.c, .slice x.bA x.body.length x.bc, .slice x.eA x.els.length x.ec]
def ST.In (w : World) (B : Nat) : Nat → ST → Prop
  | 0, _ => False
  | d + 1, x => XT.In w B (d + 1) x.e ∧ (Recs w B 9 x.bA x.body.length (x.body.map ST.row) ∧ x.body.length ≤ maxLen) ∧ (Recs w B 9 x.eA x.els.length (x.els.map ST.row) ∧ x.els.length ≤ maxLen) ∧ (∀ y ∈ x.body, ST.In w B d y) ∧ ∀ y ∈ x.els, ST.In w B d y
/-- a parameter, a function, a file -/
structure PT where
  name : ByteArray
  t : Int
def PT.row (x : PT) : List Value := [.string x.name, .int .u8 x.t]
def PT.val (x : PT) : Value := .agg #[.string x.name, .int .u8 x.t]
structure FT where
  name : ByteArray
  pA : Option Addr
  pc : Nat
  ps : List PT
  r : Int
  bA : Option Addr
  bc : Nat
  body : List ST
def FT.row (x : FT) : List Value := [.string x.name, .slice x.pA x.ps.length x.pc, .int .u8 x.r, .slice x.bA x.body.length x.bc]
def FT.val (x : FT) : Value := .agg #[.string x.name, .slice x.pA x.ps.length x.pc, .int .u8 x.r, .slice x.bA x.body.length x.bc]
def FT.In (w : World) (B d : Nat) (x : FT) : Prop := (Recs w B 2 x.pA x.ps.length (x.ps.map PT.row) ∧ x.ps.length ≤ maxLen) ∧ (Recs w B 9 x.bA x.body.length (x.body.map ST.row) ∧ x.body.length ≤ maxLen) ∧ ∀ y ∈ x.body, ST.In w B d y
def srow (s : ByteArray) : List Value := [.string s]
structure DT where
  name : ByteArray
  iA : Option Addr
  ic : Nat
  imps : List ByteArray
  fA : Option Addr
  fc : Nat
  fs : List FT
def DT.row (x : DT) : List Value := [.string x.name, .slice x.iA x.imps.length x.ic, .slice x.fA x.fs.length x.fc]
def DT.val (x : DT) : Value := .agg #[.string x.name, .slice x.iA x.imps.length x.ic, .slice x.fA x.fs.length x.fc]
def DT.In (w : World) (B d : Nat) (x : DT) : Prop := (Recs w B 1 x.iA x.imps.length (x.imps.map srow) ∧ x.imps.length ≤ maxLen) ∧ (Recs w B 4 x.fA x.fs.length (x.fs.map FT.row) ∧ x.fs.length ≤ maxLen) ∧ ∀ y ∈ x.fs, FT.In w B d y
section
variable {w w' : World} {B B' d d' : Nat}
theorem recs_only {size n : Nat} {A : Option Addr} {rows : List (List Value)} (h : Recs w B size A n rows) (ho : Only [] w w') (hB : B ≤ B') : Recs w' B' size A n rows := (h.only ho (by simp)).more hB
theorem XT.In.only {x : XT} (h : XT.In w B d x) (ho : Only [] w w') (hB : B ≤ B') : XT.In w' B' d x := by
  induction d generalizing x with
  | zero => exact h.elim
  | succ d ih => exact ⟨recs_only h.1 ho hB, h.2.1, fun y hy => ih (h.2.2 y hy)⟩
theorem XT.In.mono {x : XT} (h : XT.In w B d x) (hd : d ≤ d') : XT.In w B d' x := by
  induction d generalizing x d' with
  | zero => exact h.elim
  | succ d ih =>
    obtain ⟨k, rfl⟩ : ∃ k, d' = k + 1 := ⟨d' - 1, by omega⟩
    exact ⟨h.1, h.2.1, fun y hy => ih (h.2.2 y hy) (by omega)⟩
theorem ST.In.only {x : ST} (h : ST.In w B d x) (ho : Only [] w w') (hB : B ≤ B') : ST.In w' B' d x := by
  induction d generalizing x with
  | zero => exact h.elim
  | succ d ih => exact ⟨h.1.only ho hB, ⟨recs_only h.2.1.1 ho hB, h.2.1.2⟩, ⟨recs_only h.2.2.1.1 ho hB, h.2.2.1.2⟩, fun y hy => ih (h.2.2.2.1 y hy), fun y hy => ih (h.2.2.2.2 y hy)⟩
theorem ST.In.mono {x : ST} (h : ST.In w B d x) (hd : d ≤ d') : ST.In w B d' x := by
  induction d generalizing x d' with
  | zero => exact h.elim
  | succ d ih =>
    obtain ⟨k, rfl⟩ : ∃ k, d' = k + 1 := ⟨d' - 1, by omega⟩
    exact ⟨h.1.mono (by omega), h.2.1, h.2.2.1, fun y hy => ih (h.2.2.2.1 y hy) (by omega), fun y hy => ih (h.2.2.2.2 y hy) (by omega)⟩
theorem FT.In.only {x : FT} (h : FT.In w B d x) (ho : Only [] w w') (hB : B ≤ B') : FT.In w' B' d x := ⟨⟨recs_only h.1.1 ho hB, h.1.2⟩, ⟨recs_only h.2.1.1 ho hB, h.2.1.2⟩, fun y hy => (h.2.2 y hy).only ho hB⟩
theorem FT.In.mono {x : FT} (h : FT.In w B d x) (hd : d ≤ d') : FT.In w B d' x := ⟨h.1, h.2.1, fun y hy => (h.2.2 y hy).mono hd⟩
theorem DT.In.only {x : DT} (h : DT.In w B d x) (ho : Only [] w w') (hB : B ≤ B') : DT.In w' B' d x := ⟨⟨recs_only h.1.1 ho hB, h.1.2⟩, ⟨recs_only h.2.1.1 ho hB, h.2.1.2⟩, fun y hy => (h.2.2 y hy).only ho hB⟩
theorem DT.In.mono {x : DT} (h : DT.In w B d x) (hd : d ≤ d') : DT.In w B d' x := ⟨h.1, h.2.1, fun y hy => (h.2.2 y hy).mono hd⟩
/-- an element's cells -/
theorem recs_row {α : Type} {row : α → List Value} {size m k : Nat} {A : Option Addr} {l : List α} (hr : Recs w B size A m (l.map row)) (hk : k < m) :
    ∃ b off x, A = some ⟨b, off, none⟩ ∧ b < B ∧ x ∈ l ∧ l[k]? = some x ∧ ∀ j, j < size → w.cell? ⟨b, off + k * size + j, none⟩ = (row x)[j]? := by
  have hl : k < l.length := by have := hr.1; rw [List.length_map] at this; omega
  obtain ⟨b, off, hA, hb, hc⟩ := hr.at_ l[k] hk
  refine ⟨b, off, l[k], hA, hb, List.getElem_mem hl, List.getElem?_eq_getElem hl, fun j hj => ?_⟩
  have := hc j hj
  rwa [show l.getD k l[k] = l[k] from by rw [List.getD_eq_getElem?_getD, List.getElem?_eq_getElem hl]; rfl] at this
theorem x_at {k m : Nat} {A : Option Addr} {l : List XT} (hr : Recs w B 5 A m (l.map XT.row)) (hk : k < m) : ∃ b off x, A = some ⟨b, off, none⟩ ∧ b < B ∧ x ∈ l ∧ l[k]? = some x ∧ w.cell? ⟨b, off + k * 5, none⟩ = some (.int .i64 x.op) ∧ w.cell? ⟨b, off + k * 5 + 1, none⟩ = some (.int .i64 x.n) ∧ w.cell? ⟨b, off + k * 5 + 2, none⟩ = some (.string x.s) ∧ w.cell? ⟨b, off + k * 5 + 3, none⟩ = some (.string x.q) ∧ w.cell? ⟨b, off + k * 5 + 4, none⟩ = some (.slice x.A x.X.length x.c) := by
  obtain ⟨b, off, x, h1, h2, h3, h4, hc⟩ := recs_row hr hk
  exact ⟨b, off, x, h1, h2, h3, h4, hc 0 (by decide), hc 1 (by decide), hc 2 (by decide), hc 3 (by decide), hc 4 (by decide)⟩
theorem st_at {k m : Nat} {A : Option Addr} {l : List ST} (hr : Recs w B 9 A m (l.map ST.row)) (hk : k < m) : ∃ b off x, A = some ⟨b, off, none⟩ ∧ b < B ∧ x ∈ l ∧ l[k]? = some x ∧ w.cell? ⟨b, off + k * 9, none⟩ = some (.int .i64 x.op) ∧ w.cell? ⟨b, off + k * 9 + 1, none⟩ = some (.string x.s) ∧ w.cell? ⟨b, off + k * 9 + 2, none⟩ = some (.int .i64 x.e.op) ∧ w.cell? ⟨b, off + k * 9 + 3, none⟩ = some (.int .i64 x.e.n) ∧ w.cell? ⟨b, off + k * 9 + 4, none⟩ = some (.string x.e.s) ∧ w.cell? ⟨b, off + k * 9 + 5, none⟩ = some (.string x.e.q) ∧ w.cell? ⟨b, off + k * 9 + 6, none⟩ = some (.slice x.e.A x.e.X.length x.e.c) ∧ w.cell? ⟨b, off + k * 9 + 7, none⟩ = some (.slice x.bA x.body.length x.bc) ∧ w.cell? ⟨b, off + k * 9 + 8, none⟩ = some (.slice x.eA x.els.length x.ec) := by
  obtain ⟨b, off, x, h1, h2, h3, h4, hc⟩ := recs_row hr hk
  exact ⟨b, off, x, h1, h2, h3, h4, hc 0 (by decide), hc 1 (by decide), hc 2 (by decide), hc 3 (by decide), hc 4 (by decide), hc 5 (by decide), hc 6 (by decide), hc 7 (by decide), hc 8 (by decide)⟩
theorem ft_at {k m : Nat} {A : Option Addr} {l : List FT} (hr : Recs w B 4 A m (l.map FT.row)) (hk : k < m) : ∃ b off x, A = some ⟨b, off, none⟩ ∧ b < B ∧ x ∈ l ∧ l[k]? = some x ∧ w.cell? ⟨b, off + k * 4, none⟩ = some (.string x.name) ∧ w.cell? ⟨b, off + k * 4 + 1, none⟩ = some (.slice x.pA x.ps.length x.pc) ∧ w.cell? ⟨b, off + k * 4 + 2, none⟩ = some (.int .u8 x.r) ∧ w.cell? ⟨b, off + k * 4 + 3, none⟩ = some (.slice x.bA x.body.length x.bc) := by
  obtain ⟨b, off, x, h1, h2, h3, h4, hc⟩ := recs_row hr hk
  exact ⟨b, off, x, h1, h2, h3, h4, hc 0 (by decide), hc 1 (by decide), hc 2 (by decide), hc 3 (by decide)⟩
theorem pt_at {k m : Nat} {A : Option Addr} {l : List PT} (hr : Recs w B 2 A m (l.map PT.row)) (hk : k < m) : ∃ b off x, A = some ⟨b, off, none⟩ ∧ b < B ∧ x ∈ l ∧ l[k]? = some x ∧ w.cell? ⟨b, off + k * 2, none⟩ = some (.string x.name) ∧ w.cell? ⟨b, off + k * 2 + 1, none⟩ = some (.int .u8 x.t) := by
  obtain ⟨b, off, x, h1, h2, h3, h4, hc⟩ := recs_row hr hk
  exact ⟨b, off, x, h1, h2, h3, h4, hc 0 (by decide), hc 1 (by decide)⟩
end
/-- two lists, element by element -/
def sameL {α : Type} (f : α → α → Bool) : List α → List α → Bool
  | [], [] => true
  | a :: s, b :: t => f a b && sameL f s t
  | _, _ => false
section
variable {α : Type} {f : α → α → Bool}
theorem sameL_true : ∀ {xs ys : List α}, xs.length = ys.length → (∀ (i : Nat) (x y : α), xs[i]? = some x → ys[i]? = some y → f x y = true) → sameL f xs ys = true
  | [], [], _, _ => rfl
  | a :: s, b :: t, hl, h => by
    unfold sameL
    rw [h 0 a b rfl rfl, Bool.true_and]
    exact sameL_true (by simpa using hl) (fun i x y hx hy => h (i + 1) x y (by simpa using hx) (by simpa using hy))
  | [], b :: t, hl, _ => by simp at hl
  | a :: s, [], hl, _ => by simp at hl
theorem sameL_false : ∀ {xs ys : List α} {i : Nat} {x y : α}, xs[i]? = some x → ys[i]? = some y → f x y = false → sameL f xs ys = false
  | a :: s, b :: t, 0, x, y, hx, hy, h => by
    injection hx with hx
    injection hy with hy
    subst hx
    subst hy
    unfold sameL
    rw [h, Bool.false_and]
  | a :: s, b :: t, i + 1, x, y, hx, hy, h => by
    unfold sameL
    rw [sameL_false (xs := s) (ys := t) (i := i) (by simpa using hx) (by simpa using hy) h, Bool.and_false]
  | [], _, i, x, y, hx, _, _ => by simp at hx
  | a :: s, [], i, x, y, _, hy, _ => by simp at hy
theorem sameL_len : ∀ {xs ys : List α}, xs.length ≠ ys.length → sameL f xs ys = false
  | [], [], h => absurd rfl h
  | a :: s, b :: t, h => by
    unfold sameL
    rw [sameL_len (xs := s) (ys := t) (by simpa using h), Bool.and_false]
  | [], b :: t, _ => rfl
  | a :: s, [], _ => rfl
theorem sameL_refl {xs : List α} (h : ∀ x ∈ xs, f x x = true) : sameL f xs xs = true := sameL_true rfl (fun i x y hx hy => by
  rw [hx] at hy
  injection hy with hy
  subst hy
  obtain ⟨h1, h2⟩ := List.getElem?_eq_some_iff.1 hx
  exact h x (by rw [← h2]; exact List.getElem_mem h1))
end
def sameX : Nat → XT → XT → Bool
  | 0, _, _ => false
  | d + 1, x, y => (x.op == y.op) && ((x.n == y.n) && ((x.s.toList == y.s.toList) && ((x.q.toList == y.q.toList) && sameL (sameX d) x.X y.X)))
theorem sameX_refl {w : World} {B d : Nat} {x : XT} (h : XT.In w B d x) : sameX d x x = true := by
  induction d generalizing x with
  | zero => exact h.elim
  | succ d ih =>
    unfold sameX
    simp only [beq_self_eq_true, Bool.true_and]
    exact sameL_refl (fun y hy => ih (h.2.2 y hy))
/-- how many nodes -/
def cntX : Nat → XT → Nat
  | 0, _ => 0
  | d + 1, x => 1 + (x.X.map (cntX d)).sum
theorem sameL_sum {α : Type} {f : α → α → Bool} {g g' : α → Nat} : ∀ {xs ys : List α}, sameL f xs ys = true → (∀ x ∈ xs, ∀ y ∈ ys, f x y = true → g x = g' y) → (xs.map g).sum = (ys.map g').sum
  | [], [], _, _ => rfl
  | a :: s, b :: t, h, hg => by
    unfold sameL at h
    rw [Bool.and_eq_true] at h
    simp only [List.map_cons, List.sum_cons]
    rw [hg a (by simp) b (by simp) h.1, sameL_sum h.2 (fun x hx y hy => hg x (by simp [hx]) y (by simp [hy]))]
  | [], b :: t, h, _ => by cases h
  | a :: s, [], h, _ => by cases h
theorem sameX_cnt {w : World} {B d d2 : Nat} {x y : XT} (h : sameX d x y = true) (hy : XT.In w B d2 y) : cntX d x = cntX d2 y := by
  induction d generalizing x y d2 with
  | zero => cases h
  | succ d ih =>
    cases d2 with
    | zero => exact hy.elim
    | succ d2 =>
      unfold sameX at h
      simp only [Bool.and_eq_true] at h
      unfold cntX
      rw [sameL_sum h.2.2.2.2 (fun a ha b hb hab => ih hab (hy.2.2 b hb))]
theorem sum_same {α : Type} {f g : α → Nat} {l : List α} (h : ∀ x ∈ l, f x = g x) : (l.map f).sum = (l.map g).sum := by rw [List.map_congr_left h]
theorem cntX_mono {w : World} {B d d' : Nat} {x : XT} (h : XT.In w B d x) (hd : d ≤ d') : cntX d' x = cntX d x := by
  induction d generalizing x d' with
  | zero => exact h.elim
  | succ d ih =>
    obtain ⟨k, rfl⟩ : ∃ k, d' = k + 1 := ⟨d' - 1, by omega⟩
    unfold cntX
    rw [sum_same (fun y hy => ih (h.2.2 y hy) (by omega))]
end Go.Proofs.Ytmjkohlhbboapaa.Tree
