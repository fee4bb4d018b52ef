/- Words for memory that all my walks share: a slice that reads as a list; a block that is known whole; small lemmas. -/
import Derived.WalkKit
import Derived.WalkSpells
import Derived.WalkLawsBesides
import Derived.Below
import Derived.Laws.OwnMore
import Derived.Laws.Rows
import Derived.Deep.AppendLies
import Derived.Deep.Draws
import Derived.Deep.QuietTactic
import Derived.BigQuiet
import Derived.Lib.Hide
import Derived.Deep.DeepFit
import Derived.Laws.BitsAllLaws
import Derived.IntWalk
import Derived.Outline
import Derived.Lib.SlBytesConst
import Derived.RegionTactic
import Derived.OwnWalk
namespace Go.Proofs.Ytkdacemachejoaa
open Go.RowKit

theorem block_of_add (a : Addr) (n : Nat) : (a.add n).block = a.block := by unfold Addr.add; split <;> rfl
theorem add_of_add (a : Addr) (i j : Nat) : (a.add i).add j = a.add (i + j) := by
  unfold Addr.add
  by_cases hi : i = 0 <;> by_cases hj : j = 0 <;> simp [hi, hj, Nat.add_assoc]

/-- the slice value '.slice A n c' reads as the cells xs (size cells an element), below block B -/
def Reads (w : World) (B size : Nat) (A : Option Addr) (n : Nat) (xs : List Value) : Prop :=
  xs.length = n * size ∧ (0 < n → ∃ ad, A = some ad ∧ ad.block < B ∧ ∀ j u, xs[j]? = some u → w.cell? (ad.add j) = some u)

section
variable {w w' : World} {B B' size n : Nat} {A : Option Addr} {xs : List Value}
theorem Reads.none_ : Reads w B size A 0 [] := ⟨by simp, fun h => absurd h (by omega)⟩
theorem Reads.at_ {k : Nat} (h : Reads w B 1 A n xs) (hk : k < n) : ∃ ad u, A = some ad ∧ ad.block < B ∧ xs[k]? = some u ∧ w.cell? (ad.add k) = some u := by
  obtain ⟨ad, e, hb, hc⟩ := h.2 (by omega)
  have hl : k < xs.length := by have := h.1; omega
  exact ⟨ad, xs[k], e, hb, List.getElem?_eq_getElem hl, hc k _ (List.getElem?_eq_getElem hl)⟩
theorem Reads.keep (h : Reads w B size A n xs) (hk : ∀ p : Addr, p.block < B → w'.cell? p = w.cell? p) : Reads w' B size A n xs :=
  ⟨h.1, fun hn => by
    obtain ⟨ad, e, hb, hc⟩ := h.2 hn
    exact ⟨ad, e, hb, fun j u hu => (hk _ (by rw [block_of_add]; exact hb)).trans (hc j u hu)⟩⟩
theorem Reads.more (h : Reads w B size A n xs) (hB : B ≤ B') : Reads w B' size A n xs :=
  ⟨h.1, fun hn => by
    obtain ⟨ad, e, hb, hc⟩ := h.2 hn
    exact ⟨ad, e, by omega, hc⟩⟩
theorem Reads.below (h : Reads w B size A n xs) (hb : Below B w w') : Reads w' B size A n xs := h.keep fun _ hp => hb.cell hp
theorem Reads.drew (h : Reads w B size A n xs) : Reads w.drew B size A n xs := h
theorem Reads.drewN (h : Reads w B size A n xs) (k : Nat) : Reads (w.drewN k) B size A n xs := h
theorem Reads.alloc (h : Reads w B size A n xs) (hB : B ≤ w.heap.size) (o : Obj) : Reads (w.alloc o) B size A n xs := h.keep fun p hp => World.cell?_alloc_lt w o p (by omega)
theorem Reads.setCell (h : Reads w B size A n xs) {p : Addr} (hB : B ≤ p.block) (u : Value) : Reads (w.setCell p u) B size A n xs :=
  h.keep fun q hq => World.cell?_setCell_other w p q u (fun e => by subst e; omega)
theorem Reads.grown (h : Reads w B size A n xs) {row : Option Nat} (hg : w.grownBy w' row) (hB : B ≤ w.heap.size) (hr : ∀ g, row = some g → B ≤ g) : Reads w' B size A n xs :=
  h.keep fun p hp => World.cell?_of_block (hg.block p.block (by omega) (fun e => by have := hr _ e.symm; omega))
theorem Reads.cut (h : Reads w B size A n xs) {k cap : Nat} (hk : k ≤ n) (hc : n ≤ cap) :
    Reads w B size (if cap = k then A else A.map (·.add (k * size))) (n - k) (xs.drop (k * size)) := by
  refine ⟨by rw [List.length_drop, h.1, Nat.sub_mul], fun hn => ?_⟩
  obtain ⟨ad, rfl, hb, hcell⟩ := h.2 (by omega)
  rw [if_neg (by omega)]
  refine ⟨ad.add (k * size), rfl, by rw [block_of_add]; exact hb, fun j u hu => ?_⟩
  rw [add_of_add]
  exact hcell _ u (by rw [← hu, List.getElem?_drop])
theorem Reads.head (h : Reads w B size A n xs) {k : Nat} (hk : k ≤ n) : Reads w B size A k (xs.take (k * size)) := by
  refine ⟨by rw [List.length_take, h.1]; exact Nat.min_eq_left (Nat.mul_le_mul_right _ hk), fun hn => ?_⟩
  obtain ⟨ad, rfl, hb, hcell⟩ := h.2 (by omega)
  refine ⟨ad, rfl, hb, fun j u hu => hcell j u ?_⟩
  rw [List.getElem?_take] at hu
  split at hu
  · exact hu
  · cases hu
theorem Reads.of_own {base : Nat} {e : TypeId} {c : Nat} (h : w.ownsRow base e size (.slice A n c) n xs) : Reads w w.heap.size size A n xs := by
  refine ⟨h.1, fun hn => ?_⟩
  obtain ⟨g, cap, hv, _, hlt⟩ := h.form hn
  have hA : A = some ⟨g, 0, none⟩ := by injection hv
  subst hA
  exact ⟨_, rfl, hlt, h.cells (g := g) rfl⟩
end

theorem Reads.at1 {w : World} {B n : Nat} {A : Option Addr} {xs : List Value} {k : Nat} (h : Reads w B 1 A n xs) (hk : k < n) : ∃ b off, A = some ⟨b, off, none⟩ ∧ b < B ∧ w.cell? ⟨b, off + k, none⟩ = xs[k]? := by
  obtain ⟨⟨b, off, spot⟩, u, e, hb, hx, hc⟩ := Reads.at_ h hk
  obtain ⟨ad0, u0, e0, _, _, hc0⟩ := Reads.at_ (k := 0) h (by omega)
  have hs : spot = none := by
    have : ad0 = ⟨b, off, spot⟩ := by rw [e] at e0; injection e0 with e0; exact e0.symm
    subst this
    simpa [Addr.add] using World.cell?_spot hc0
  subst hs
  refine ⟨b, off, e, hb, ?_⟩
  have e1 : (Addr.add ⟨b, off, none⟩ k) = ⟨b, off + k, none⟩ := by
    unfold Addr.add
    by_cases hk0 : k = 0 <;> simp [hk0]
  rw [e1] at hc
  rw [hc, hx]
/-- a new block of one-cell values reads as them -/
theorem Reads.const (w : World) (xs : List Value) (C : Array Value) (e : TypeId) (fr : Nat × Nat) (hC : C.toList = xs) :
    Reads (w.alloc (.cells C e fr)) (w.heap.size + 1) 1 (some ⟨w.heap.size, 0, none⟩) xs.length xs := by
  refine ⟨by simp, fun _ => ⟨_, rfl, by simp, fun j u hu => ?_⟩⟩
  have e1 : (Addr.add ⟨w.heap.size, 0, none⟩ j) = ⟨w.heap.size, j, none⟩ := by
    unfold Addr.add
    by_cases hk0 : j = 0 <;> simp [hk0]
  rw [e1, ← hu, ← hC]
  unfold World.cell?
  rw [heap_alloc_new]
  simp

/-- a byte as a value -/
def B8 (c : UInt8) : Value := .int .u8 (c.toNat : Int)
theorem B8_one (c : UInt8) : (B8 c).oneCell' = true := rfl
/-- the slice value '.slice A n c' reads as the bytes l -/
def Bytes (w : World) (B : Nat) (A : Option Addr) (n : Nat) (l : List UInt8) : Prop := l.length = n ∧ Reads w B 1 A n (l.map B8)

section
variable {w w' : World} {B B' n : Nat} {A : Option Addr} {l : List UInt8}
theorem Bytes.len (h : Bytes w B A n l) : l.length = n := h.1
theorem Bytes.nil_ : Bytes w B A 0 [] := ⟨rfl, rfl, fun h => absurd h (by simp)⟩
theorem Bytes.at_ {k : Nat} (h : Bytes w B A n l) (hk : k < n) : ∃ b off, A = some ⟨b, off, none⟩ ∧ b < B ∧ w.cell? ⟨b, off + k, none⟩ = some (.int .u8 ((l.getD k 0).toNat : Int)) := by
  obtain ⟨hl, h⟩ := h
  subst hl
  obtain ⟨⟨b, off, spot⟩, u, e, hb, hx, hc⟩ := Reads.at_ h hk
  have h0 := Reads.at_ (k := 0) h (by omega)
  obtain ⟨ad0, u0, e0, _, _, hc0⟩ := h0
  have hs : spot = none := by
    have : ad0 = ⟨b, off, spot⟩ := by rw [e] at e0; injection e0 with e0; exact e0.symm
    subst this
    simpa [Addr.add] using World.cell?_spot hc0
  subst hs
  refine ⟨b, off, e, hb, ?_⟩
  rw [List.getElem?_map, List.getElem?_eq_getElem hk] at hx
  simp at hx
  subst hx
  rw [List.getD_eq_getElem?_getD, List.getElem?_eq_getElem hk]
  have e1 : (Addr.add ⟨b, off, none⟩ k) = ⟨b, off + k, none⟩ := by
    unfold Addr.add
    by_cases hk0 : k = 0 <;> simp [hk0]
  rw [e1] at hc
  exact hc
theorem Bytes.keep (h : Bytes w B A n l) (hk : ∀ p : Addr, p.block < B → w'.cell? p = w.cell? p) : Bytes w' B A n l := ⟨h.1, h.2.keep hk⟩
theorem Bytes.below (h : Bytes w B A n l) (hb : Below B w w') : Bytes w' B A n l := ⟨h.1, h.2.below hb⟩
theorem Bytes.more (h : Bytes w B A n l) (hB : B ≤ B') : Bytes w B' A n l := ⟨h.1, h.2.more hB⟩
theorem Bytes.drewN (h : Bytes w B A n l) (k : Nat) : Bytes (w.drewN k) B A n l := h
theorem Bytes.drew (h : Bytes w B A n l) : Bytes w.drew B A n l := h
theorem Bytes.alloc (h : Bytes w B A n l) (hB : B ≤ w.heap.size) (o : Obj) : Bytes (w.alloc o) B A n l := ⟨h.1, h.2.alloc hB o⟩
theorem Bytes.setCell (h : Bytes w B A n l) {p : Addr} (hB : B ≤ p.block) (u : Value) : Bytes (w.setCell p u) B A n l := ⟨h.1, h.2.setCell hB u⟩
theorem Bytes.grown (h : Bytes w B A n l) {row : Option Nat} (hg : w.grownBy w' row) (hB : B ≤ w.heap.size) (hr : ∀ g, row = some g → B ≤ g) : Bytes w' B A n l := ⟨h.1, h.2.grown hg hB hr⟩
theorem Bytes.cut (h : Bytes w B A n l) {k cap : Nat} (hk : k ≤ n) (hc : n ≤ cap) :
    Bytes w B (if cap = k then A else A.map (·.add (k * 1))) (n - k) (l.drop k) :=
  ⟨by rw [List.length_drop, h.1], by have := h.2.cut hk hc; rw [List.map_drop]; simpa using this⟩
theorem Bytes.rest (h : Bytes w B A n l) {k : Nat} (hk : k ≤ n) : Bytes w B (A.map (fun x => x.add k)) (n - k) (l.drop k) := by
  have := h.cut (k := k) (cap := n + k + 1) hk (by omega)
  rw [if_neg (by omega)] at this
  simpa using this
theorem Bytes.head (h : Bytes w B A n l) {k : Nat} (hk : k ≤ n) : Bytes w B A k (l.take k) :=
  ⟨by rw [List.length_take, h.1]; omega, by have := h.2.head hk; rw [List.map_take]; simpa using this⟩
theorem Bytes.of_own {base : Nat} {e : TypeId} {c : Nat} (h : w.ownsRow base e 1 (.slice A n c) n (l.map B8)) : Bytes w w.heap.size A n l :=
  ⟨by have := h.1; simpa using this, Reads.of_own h⟩
end

theorem add_zero_block (b j : Nat) : (Addr.add ⟨b, 0, none⟩ j) = ⟨b, j, none⟩ := by
  unfold Addr.add
  by_cases hk0 : j = 0 <;> simp [hk0]
theorem add_block (b o j : Nat) : (Addr.add ⟨b, o, none⟩ j) = ⟨b, o + j, none⟩ := by
  unfold Addr.add
  by_cases hk0 : j = 0 <;> simp [hk0]
/-- a new block of bytes reads as them -/
theorem Bytes.const (w : World) (l : List UInt8) (C : Array Value) (e : TypeId) (fr : Nat × Nat) (hC : C.toList = l.map B8) :
    Bytes (w.alloc (.cells C e fr)) (w.heap.size + 1) (some ⟨w.heap.size, 0, none⟩) l.length l := by
  refine ⟨rfl, by simp, fun _ => ⟨_, rfl, by simp, fun j u hu => ?_⟩⟩
  rw [add_zero_block, ← hu, ← hC]
  unfold World.cell?
  rw [heap_alloc_new]
  simp

/-- A block of cells, known whole, none frozen. -/
def Blk (w : World) (g : Nat) (t : TypeId) (cs : Array Value) : Prop := w.heap[g]? = some (.cells cs t (0, 0))

section
variable {w w' : World} {g : Nat} {t : TypeId} {cs : Array Value}
theorem Blk.lt (h : Blk w g t cs) : g < w.heap.size := by
  rcases Nat.lt_or_ge g w.heap.size with hlt | hge
  · exact hlt
  · unfold Blk at h; rw [Array.getElem?_eq_none hge] at h; cases h
theorem Blk.cell (h : Blk w g t cs) (i : Nat) : w.cell? ⟨g, i, none⟩ = cs[i]? := cell_of_row w g i cs t (0, 0) h
theorem Blk.frozen (h : Blk w g t cs) (i : Nat) : w.frozen? ⟨g, i, none⟩ = false := by
  unfold Blk at h
  simp [World.frozen?, h]
theorem Blk.new (w : World) (t : TypeId) (cs : Array Value) : Blk (w.alloc (.cells cs t)) w.heap.size t cs := heap_alloc_new w _
theorem Blk.drew (h : Blk w g t cs) : Blk w.drew g t cs := h
theorem Blk.drewN (h : Blk w g t cs) (n : Nat) : Blk (w.drewN n) g t cs := h
theorem Blk.alloc (h : Blk w g t cs) (o : Obj) : Blk (w.alloc o) g t cs := (Below.heap_alloc w o g h.lt).trans h
theorem Blk.set_ (h : Blk w g t cs) (i : Nat) (u : Value) : Blk (w.setCell ⟨g, i, none⟩ u) g t (cs.setIfInBounds i u) := by
  unfold Blk at h ⊢
  simp [World.setCell, Array.getElem?_modify, h]
theorem Blk.far (h : Blk w g t cs) {p : Addr} (hp : g ≠ p.block) (u : Value) : Blk (w.setCell p u) g t cs := (Below.heap_setCell w p u g hp).trans h
theorem Blk.below {B : Nat} (h : Blk w g t cs) (hb : Below B w w') (hg : g < B) : Blk w' g t cs := (hb.block g hg).trans h
theorem Blk.grown {row : Option Nat} (h : Blk w g t cs) (hb : w.grownBy w' row) (hg : some g ≠ row) : Blk w' g t cs := (hb.block g h.lt hg).trans h
theorem Blk.ne_ {g' : Nat} {t' : TypeId} {cs' : Array Value} (h : Blk w g t cs) (h' : Blk w g' t' cs') (hne : t ≠ t') : g ≠ g' := by
  rintro rfl
  unfold Blk at h h'
  rw [h] at h'
  injection h' with h'
  injection h' with _ ht
  exact hne ht
end

/-! ### What a call may touch -/
/-- the block of an address -/
def blkOf : Option Addr → List Nat
  | some a => [a.block]
  | none => []
theorem blkOf_map (A : Option Addr) (k : Nat) : blkOf (A.map (fun x => x.add k)) = blkOf A := by
  cases A with
  | none => rfl
  | some a => simp [blkOf, block_of_add]
/-- the block that a slice owns -/
def ownL (v : Value) : List Nat := v.ownBlock.toList
/-- of what was there only the blocks S may have turned -/
structure Only (S : List Nat) (w w' : World) : Prop where
  os : w'.os = w.os
  tape : w'.tape = w.tape
  output : w'.output = w.output
  size : w.heap.size ≤ w'.heap.size
  block : ∀ k, k < w.heap.size → k ∉ S → w'.heap[k]? = w.heap[k]?

section
variable {S S' : List Nat} {w w' w'' : World}
theorem Only.refl (S : List Nat) (w : World) : Only S w w := ⟨rfl, rfl, rfl, Nat.le_refl _, fun _ _ _ => rfl⟩
theorem Only.trans (h : Only S w w') (k : Only S' w' w'') (hs : ∀ g ∈ S', g ∈ S ∨ w.heap.size ≤ g) : Only S w w'' :=
  ⟨k.os.trans h.os, k.tape.trans h.tape, k.output.trans h.output, Nat.le_trans h.size k.size, fun i hi hn =>
    (k.block i (Nat.lt_of_lt_of_le hi h.size) (fun hm => by rcases hs i hm with h1 | h1; exact hn h1; omega)).trans (h.block i hi hn)⟩
theorem Only.mono (h : Only S w w') (hs : ∀ g ∈ S, g ∈ S' ∨ w.heap.size ≤ g) : Only S' w w' :=
  ⟨h.os, h.tape, h.output, h.size, fun i hi hn => h.block i hi (fun hm => by rcases hs i hm with h1 | h1; exact hn h1; omega)⟩
theorem Only.of_below (h : Below w.heap.size w w') : Only [] w w' := ⟨h.os, h.tape, h.output, h.size, fun i hi _ => h.block i hi⟩
theorem Only.to_below {B : Nat} (h : Only S w w') (hB : B ≤ w.heap.size) (hs : ∀ g ∈ S, B ≤ g) : Below B w w' :=
  ⟨h.os, h.tape, h.output, h.size, fun i hi => h.block i (by omega) (fun hm => by have := hs i hm; omega)⟩
theorem Only.below0 (h : Only [] w w') : Below w.heap.size w w' := h.to_below (Nat.le_refl _) (fun _ hg => by cases hg)
theorem Only.of_grown {row : Option Nat} (h : w.grownBy w' row) : Only row.toList w w' :=
  ⟨h.os, h.tape, h.output, h.size, fun i hi hn => h.block i hi (fun e => hn (by rw [← e]; simp))⟩
theorem Only.alloc (h : Only S w w') (o : Obj) : Only S w (w'.alloc o) :=
  ⟨h.os, h.tape, h.output, Nat.le_trans h.size (by simp), fun i hi hn => (Below.heap_alloc w' o i (Nat.lt_of_lt_of_le hi h.size)).trans (h.block i hi hn)⟩
theorem Only.drew (h : Only S w w') : Only S w w'.drew := ⟨h.os, h.tape, h.output, h.size, h.block⟩
theorem Only.drewN (h : Only S w w') (n : Nat) : Only S w (w'.drewN n) := ⟨h.os, h.tape, h.output, h.size, h.block⟩
theorem Only.setCell (h : Only S w w') {p : Addr} (hp : p.block ∈ S ∨ w.heap.size ≤ p.block) (u : Value) : Only S w (w'.setCell p u) :=
  ⟨h.os, h.tape, h.output, by simpa [World.setCell] using h.size, fun i hi hn => (Below.heap_setCell w' p u i (by
    rintro rfl
    rcases hp with hp | hp
    · exact hn hp
    · omega)).trans (h.block i hi hn)⟩
theorem Only.cell (h : Only S w w') {a : Addr} {v : Value} (hc : w.cell? a = some v) (hn : a.block ∉ S) : w'.cell? a = some v := by
  have hlt : a.block < w.heap.size := by
    rcases Nat.lt_or_ge a.block w.heap.size with hlt | hge
    · exact hlt
    · unfold World.cell? at hc
      rw [Array.getElem?_eq_none hge] at hc
      simp at hc
  rw [World.cell?_of_block (w := w) (h.block _ hlt hn)]
  exact hc
theorem Blk.only {g : Nat} {t : TypeId} {cs : Array Value} (hb : Blk w g t cs) (h : Only S w w') (hn : g ∉ S) : Blk w' g t cs := (h.block g hb.lt hn).trans hb
theorem Reads.only {B size n : Nat} {A : Option Addr} {xs : List Value} (hr : Reads w B size A n xs) (h : Only S w w') (hn : ∀ g ∈ blkOf A, g ∉ S) : Reads w' B size A n xs :=
  ⟨hr.1, fun hp => by
    obtain ⟨ad, rfl, hb, hc⟩ := hr.2 hp
    exact ⟨ad, rfl, hb, fun j u hu => h.cell (hc j u hu) (by rw [block_of_add]; exact hn _ (by simp [blkOf]))⟩⟩
theorem Bytes.only {B n : Nat} {A : Option Addr} {l : List UInt8} (hr : Bytes w B A n l) (h : Only S w w') (hn : ∀ g ∈ blkOf A, g ∉ S) : Bytes w' B A n l := ⟨hr.1, hr.2.only h hn⟩
end
theorem Bytes.ne_blk {w : World} {B n g : Nat} {t : TypeId} {A : Option Addr} {l : List UInt8} {cs : Array Value} (h : Bytes w B A n l) (hn : 0 < n) (hb : Blk w g t cs) (hcs : ∀ (i : Nat) (z : Int), cs[i]? ≠ some (Value.int .u8 z)) : ∀ k ∈ blkOf A, k ≠ g := by
  obtain ⟨b, off, rfl, _, hc⟩ := h.at_ (k := 0) hn
  intro k hk
  simp [blkOf] at hk
  subst hk
  rintro rfl
  rw [hb.cell] at hc
  exact hcs _ _ hc
theorem Bytes.only_pos {w w' : World} {B n : Nat} {A : Option Addr} {l : List UInt8} {S : List Nat} (hr : Bytes w B A n l) (h : Only S w w') (hn : 0 < n → ∀ g ∈ blkOf A, g ∉ S) : Bytes w' B A n l := by
  rcases Nat.eq_zero_or_pos n with h0 | h0
  · exact ⟨hr.1, hr.2.1, fun h => absurd h (by omega)⟩
  · exact hr.only h (hn h0)
theorem wp_append_run {P : Program} {w w' : World} {o : Oper} {a : Act} {K : Act → World → Prop} {Q : Exit → Act → World → Prop} (s x : Operand) (t u : TypeId)
    (ho : o.op = .call { callee := .builtin .append, args := #[s, x], argTypes := #[t, u] }) {v vx v' : Value} (hs : a.eval s = v) (hx : a.eval x = vx)
    (hr : (Builtin.append_ #[t, u] o.type #[v, vx]).run P w = .ok v' w') (h : K (a.put o.dst v') w') : o.wp P a w K Q := by
  unfold Oper.wp execOp
  simp only [ho, resolve, invoke, builtin, Sem.run_bind, Sem.run_pure, Result.andThen_ok, List.map_toArray, List.map_cons, List.map_nil, hs, hx, hr]
  exact h

theorem quiet_left {P : Program} {f : FuncId} {args : Array Value} {w : World} {n : Nat} {v : Value}
    (h : Calls P f args (w.drewN n) fun e w' => e = .returned v ∧ w.drewN n = w') : Calls P f args (w.drewN n) fun e w'' => e = .returned v ∧ ∃ m, w'' = w.drewN m :=
  h.mono fun _ _ ⟨he, hm⟩ => ⟨he, n, hm.symm⟩
theorem quiet_add_left {P : Program} {f : FuncId} {args : Array Value} {w : World} {a n : Nat} {v : Value}
    (h : Calls P f args (w.drewN (a + n)) fun e w' => e = .returned v ∧ w.drewN (a + n) = w') :
    Calls P f args (w.drewN (a + n)) fun e w'' => e = .returned v ∧ ∃ m, w'' = w.drewN (a + m) :=
  h.mono fun _ _ ⟨he, hm⟩ => ⟨he, n, hm.symm⟩
theorem flatMap_take_succ {α β : Type} (f : α → List β) (zs : List α) (d : α) (k : Nat) (h : k < zs.length) : (zs.take (k + 1)).flatMap f = (zs.take k).flatMap f ++ f (zs.getD k d) := by
  rw [List.take_succ_eq_append_getElem h, List.flatMap_append, List.flatMap_cons, List.flatMap_nil, List.append_nil, List.getD_eq_getElem?_getD, List.getElem?_eq_getElem h]
  rfl
theorem map_get {α : Type} (f : α → Value) (zs : List α) (d : α) (k : Nat) (h : k < zs.length) : (zs.map f)[k]? = some (f (zs.getD k d)) := by
  rw [List.getElem?_map, List.getElem?_eq_getElem h, List.getD_eq_getElem?_getD, List.getElem?_eq_getElem h]
  rfl
theorem below_drewN {B : Nat} {a w : World} (h : Below B a w) (n : Nat) : Below B a (w.drewN n) := ⟨h.os, h.tape, h.output, h.size, h.block⟩
theorem ret_int {k : IntKind} {a b : Int} (h : a = b) : Ending.returned (.int k a) = .returned (.int k b) := by rw [h]
theorem ret_bool {a b : Bool} (h : a = b) : Ending.returned (.bool a) = .returned (.bool b) := by rw [h]
theorem bcell {W w1 : World} (hb : Below W.heap.size W w1) : (∀ b o, b < W.heap.size → w1.cell? ⟨b, o, none⟩ = W.cell? ⟨b, o, none⟩) ∧ (∀ b o, b < W.heap.size → w1.frozen? ⟨b, o, none⟩ = W.frozen? ⟨b, o, none⟩) :=
  ⟨fun b o h => hb.cell (p := ⟨b, o, none⟩) h, fun b o h => hb.frozen (p := ⟨b, o, none⟩) h⟩
/-! ### slices of structs -/
/-- the slice value '.slice A m c' of elements of 'size' cells reads as the rows -/
def Recs (w : World) (B size : Nat) (A : Option Addr) (m : Nat) (rows : List (List Value)) : Prop :=
  rows.length = m ∧ (0 < m → ∃ b off, A = some ⟨b, off, none⟩ ∧ b < B ∧ ∀ i, i < m → ∀ j, j < size → w.cell? ⟨b, off + i * size + j, none⟩ = (rows.getD i [])[j]? ∧ ((rows.getD i [])[j]?).isSome)
section
variable {w w' : World} {B B' size m : Nat} {A : Option Addr} {rows : List (List Value)} {S : List Nat}
theorem Recs.nil_ : Recs w B size A 0 [] := ⟨rfl, fun h => absurd h (by omega)⟩
theorem Recs.only (h : Recs w B size A m rows) (ho : Only S w w') (hn : ∀ g ∈ blkOf A, g ∉ S) : Recs w' B size A m rows :=
  ⟨h.1, fun hm => by
    obtain ⟨b, off, rfl, hb, hc⟩ := h.2 hm
    refine ⟨b, off, rfl, hb, fun i hi j hj => ?_⟩
    obtain ⟨h1, h2⟩ := hc i hi j hj
    obtain ⟨u, hu⟩ := Option.isSome_iff_exists.1 h2
    rw [hu] at h1
    exact ⟨by rw [ho.cell h1 (hn b (by simp [blkOf])), hu], h2⟩⟩
theorem Recs.more (h : Recs w B size A m rows) (hB : B ≤ B') : Recs w B' size A m rows :=
  ⟨h.1, fun hm => by
    obtain ⟨b, off, e, hb, hc⟩ := h.2 hm
    exact ⟨b, off, e, by omega, hc⟩⟩
theorem Recs.below (h : Recs w B size A m rows) (hb : Below B w w') : Recs w' B size A m rows :=
  ⟨h.1, fun hm => by
    obtain ⟨b, off, e, hbb, hc⟩ := h.2 hm
    refine ⟨b, off, e, hbb, fun i hi j hj => ?_⟩
    rw [hb.cell (p := ⟨b, off + i * size + j, none⟩) hbb]
    exact hc i hi j hj⟩
theorem Recs.at_ {α : Type} {f : α → List Value} {xs : List α} {k : Nat} (h : Recs w B size A m (xs.map f)) (d : α) (hk : k < m) :
    ∃ b off, A = some ⟨b, off, none⟩ ∧ b < B ∧ ∀ j, j < size → w.cell? ⟨b, off + k * size + j, none⟩ = (f (xs.getD k d))[j]? := by
  obtain ⟨b, off, e, hb, hc⟩ := h.2 (by omega)
  refine ⟨b, off, e, hb, fun j hj => ?_⟩
  have hl : k < xs.length := by have := h.1; rw [List.length_map] at this; omega
  rw [(hc k hk j hj).1, List.getD_eq_getElem?_getD, List.getElem?_map, List.getElem?_eq_getElem hl, List.getD_eq_getElem?_getD, List.getElem?_eq_getElem hl]
  rfl
theorem Recs.blk_lt (h : Recs w B size A m rows) (hm : 0 < m) : ∀ g ∈ blkOf A, g < B := by
  obtain ⟨b, off, rfl, hb, _⟩ := h.2 hm
  intro g hg
  simp [blkOf] at hg
  omega
end
/-- a list out of its elements -/
theorem choose_list {α : Type} (m : Nat) (P : Nat → α → Prop) (h : ∀ i, i < m → ∃ x, P i x) : ∃ l : List α, l.length = m ∧ ∀ i x, l[i]? = some x → P i x := by
  induction m with
  | zero => exact ⟨[], rfl, fun i x hx => by simp at hx⟩
  | succ m ih =>
    obtain ⟨l, hl, hp⟩ := ih (fun i hi => h i (by omega))
    obtain ⟨x, hx⟩ := h m (by omega)
    refine ⟨l ++ [x], by simp [hl], fun i y hy => ?_⟩
    rw [List.getElem?_append] at hy
    split at hy
    · exact hp i y hy
    · rename_i hi
      have : i = m := by
        rcases Nat.lt_or_ge (i - l.length) 1 with h1 | h1
        · omega
        · rw [List.getElem?_eq_none (by simpa using h1)] at hy; cases hy
      subst this
      rw [hl, Nat.sub_self] at hy
      simp at hy
      subst hy
      exact hx
end Go.Proofs.Ytkdacemachejoaa
