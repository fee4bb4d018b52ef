/- A disk in memory: its words. -/
import Derived.Test.YtgbicimbggdpgaaIMap
import Derived.Test.YtgbicimbggdpgaaCopy
import Derived.Test.YtgbicimbggdpgaaIter
namespace Go.Proofs.Ytgbicimbggdpgaa.Disk
open Go.RowKit Go.Maps
set_option linter.unusedVariables false
set_option maxRecDepth 100000
/-- a disk as it is meant: what is safe, what waits, by sectors -/
structure DS where
  n : Nat
  left : Int
  done : Int
  off : Bool
  safe : Nat → List UInt8
  wait : Nat → Option (List UInt8)
def pk (i : Nat) : Lit := .int .i64 (i : Int)
theorem pk_inj {i j : Nat} (h : pk i = pk j) : i = j := by
  unfold pk at h
  injection h with _ h
  omega
theorem lawI : Keyed Try.prog 3 := int_keyed Try.underlying3
def in64 (n : Int) : Prop := -9223372036854775808 ≤ n ∧ n ≤ 9223372036854775807
theorem keyZ {d : Int} (h : in64 d) : keyOf Try.prog 3 (.int .i64 d) = some (.int .i64 d) := Go.Maps.keyOf_int_mk Try.underlying3 (by obtain ⟨h1, h2⟩ := h; show (decide (_ ≤ d) && decide (d ≤ _)) = true; rw [Bool.and_eq_true, decide_eq_true_eq, decide_eq_true_eq]; exact ⟨h1, h2⟩)
theorem keyI {i : Nat} (h : i ≤ 1000000) : keyOf Try.prog 3 (.int .i64 (i : Int)) = some (pk i) := keyZ ⟨by omega, by omega⟩
theorem zeroBs (w : World) : (zeroValue 29).run Try.prog w = .ok (.slice none 0 0) w := by kernel_rfl
/-- the safe bytes, in a row -/
def SafeAt (w : World) (g n cap : Nat) (safe : Nat → List UInt8) : Prop := ∃ C : Array Value, Blk w g 5 C ∧ C.size = cap ∧ 64 * n ≤ cap ∧ ∀ i, i < n → (safe i).length = 64 ∧ ∀ j, j < 64 → C[64 * i + j]? = some (B8 ((safe i).getD j 0))
/-- what waits, as the map holds it -/
structure WaitF (w : World) (W : List Nat) (n : Nat) (f : Lit → Option Value) (wait : Nat → Option (List UInt8)) : Prop where
  keys : ∀ k, (f k).isSome = true → ∃ i, i < n ∧ k = pk i
  some_ : ∀ i l, wait i = some l → i < n ∧ l.length = 64 ∧ ∃ q c, f (pk i) = some (.slice (some ⟨q, 0, none⟩) 64 c) ∧ q ∈ W ∧ Bytes w w.heap.size (some ⟨q, 0, none⟩) 64 l ∧ 64 ≤ c ∧ c ≤ maxLen
  none_ : ∀ i, wait i = none → f (pk i) = none
structure IsD (w : World) (p g b : Nat) (W : List Nat) (cap : Nat) (d : DS) : Prop where
  blk : Blk w p 47 #[.int .i64 d.left, .int .i64 d.done, .bool d.off, .slice (some ⟨g, 0, none⟩) (64 * d.n) cap, .map (some b)]
  safe : SafeAt w g d.n cap d.safe
  map : ∃ f, VM Try.prog 3 w b d.n f ∧ WaitF w W d.n f d.wait
  ne : p ≠ g ∧ p ≠ b ∧ g ≠ b
  apart : ∀ k ∈ W, k ≠ p ∧ k ≠ g ∧ k ≠ b
  low : ∀ k ∈ W, k < w.heap.size
  n0 : 0 < d.n ∧ d.n ≤ 65536
  cap_ : cap ≤ maxLen
  left_ : -1 ≤ d.left ∧ d.left ≤ 9223372036854775807
  done_ : 0 ≤ d.done ∧ d.done ≤ 9223372036854775807
/-- W' holds what W held, and what is new -/
def Newer (w : World) (W W' : List Nat) : Prop := ∀ k ∈ W', k ∈ W ∨ w.heap.size ≤ k
theorem Newer.refl (w : World) (W : List Nat) : Newer w W W := fun k h => .inl h
theorem Newer.trans {w w' : World} {W W' W'' : List Nat} {S : List Nat} (h : Newer w W W') (k : Newer w' W' W'') (ho : Only S w w') : Newer w W W'' := fun x hx => by
  rcases k x hx with h1 | h1
  · exact h x h1
  · exact .inr (Nat.le_trans ho.size h1)
section
variable {w w' : World} {p g b n cap : Nat} {W S : List Nat} {d : DS} {f : Lit → Option Value} {safe : Nat → List UInt8} {wait : Nat → Option (List UInt8)}
theorem SafeAt.only (h : SafeAt w g n cap safe) (ho : Only S w w') (hg : g ∉ S) : SafeAt w' g n cap safe := by
  obtain ⟨C, h1, h2⟩ := h
  exact ⟨C, h1.only ho hg, h2⟩
theorem SafeAt.bytes (h : SafeAt w g n cap safe) {i : Nat} (hi : i < n) : Bytes w w.heap.size (some ⟨g, 64 * i, none⟩) 64 (safe i) := by
  obtain ⟨C, h1, h2, h3, h4⟩ := h
  obtain ⟨h5, h6⟩ := h4 i hi
  refine ⟨h5, by rw [List.length_map, h5], fun _ => ⟨_, rfl, h1.lt, fun j u hu => ?_⟩⟩
  rw [List.getElem?_map] at hu
  have hj : j < 64 := by
    rcases Nat.lt_or_ge j 64 with h | h
    · exact h
    · rw [List.getElem?_eq_none (by omega)] at hu; cases hu
  rw [add_block, h1.cell, h6 j hj]
  rw [List.getElem?_eq_getElem (by omega)] at hu
  rw [List.getD_eq_getElem?_getD, List.getElem?_eq_getElem (by omega)]
  simpa using hu
theorem WaitF.only (h : WaitF w W n f wait) (ho : Only S w w') (hS : ∀ k ∈ W, k ∉ S) : WaitF w' W n f wait :=
  ⟨h.keys, fun i l hl => by
    obtain ⟨h1, h2, q, c, h3, h4, h5, h6⟩ := h.some_ i l hl
    exact ⟨h1, h2, q, c, h3, h4, (h5.only ho (fun k hk => by simp [blkOf] at hk; subst hk; exact hS _ h4)).more ho.size, h6⟩, h.none_⟩
theorem WaitF.mono {W' : List Nat} (h : WaitF w W n f wait) (hW : ∀ k ∈ W, k ∈ W') : WaitF w W' n f wait :=
  ⟨h.keys, fun i l hl => by
    obtain ⟨h1, h2, q, c, h3, h4, h5, h6⟩ := h.some_ i l hl
    exact ⟨h1, h2, q, c, h3, hW _ h4, h5, h6⟩, h.none_⟩
theorem IsD.only (h : IsD w p g b W cap d) (ho : Only S w w') (hS : p ∉ S ∧ g ∉ S ∧ b ∉ S) (hW : ∀ k ∈ W, k ∉ S) : IsD w' p g b W cap d := by
  obtain ⟨f, h1, h2⟩ := h.map
  exact ⟨h.blk.only ho hS.1, h.safe.only ho hS.2.1, ⟨f, h1.only ho hS.2.2, h2.only ho hW⟩, h.ne, h.apart, fun k hk => Nat.lt_of_lt_of_le (h.low k hk) ho.size, h.n0, h.cap_, h.left_, h.done_⟩
theorem IsD.only0 (h : IsD w p g b W cap d) (ho : Only [] w w') : IsD w' p g b W cap d := h.only ho (by simp) (by simp)
theorem IsD.wait_lt (h : IsD w p g b W cap d) {i : Nat} {l : List UInt8} (hl : d.wait i = some l) : i < d.n ∧ l.length = 64 := by
  obtain ⟨f, _, h2⟩ := h.map
  obtain ⟨h3, h4, _⟩ := h2.some_ i l hl
  exact ⟨h3, h4⟩
/-- the disk's own block turned, in its first three cells -/
theorem IsD.head (h : IsD w p g b W cap d) (ho : Only [p] w w') {left done : Int} {off : Bool} (hb : Blk w' p 47 #[.int .i64 left, .int .i64 done, .bool off, .slice (some ⟨g, 0, none⟩) (64 * d.n) cap, .map (some b)])
    (hl : -1 ≤ left ∧ left ≤ 9223372036854775807) (hd : 0 ≤ done ∧ done ≤ 9223372036854775807) : IsD w' p g b W cap { d with left := left, done := done, off := off } := by
  obtain ⟨f, h1, h2⟩ := h.map
  have e1 : g ∉ [p] := by simpa using fun e => h.ne.1 e.symm
  have e2 : b ∉ [p] := by simpa using fun e => h.ne.2.1 e.symm
  have e3 : ∀ k ∈ W, k ∉ [p] := fun k hk => by simpa using (h.apart k hk).1
  exact ⟨hb, h.safe.only ho e1, ⟨f, h1.only ho e2, h2.only ho e3⟩, h.ne, h.apart, fun k hk => Nat.lt_of_lt_of_le (h.low k hk) ho.size, h.n0, h.cap_, hl, hd⟩
/-- the safe bytes turned -/
theorem IsD.turned (h : IsD w p g b W cap d) (ho : Only [g] w w') {safe : Nat → List UInt8} (hs : SafeAt w' g d.n cap safe) : IsD w' p g b W cap { d with safe := safe } := by
  obtain ⟨f, h1, h2⟩ := h.map
  have e1 : p ∉ [g] := by simpa using h.ne.1
  have e2 : b ∉ [g] := by simpa using fun e => h.ne.2.2 e.symm
  have e3 : ∀ k ∈ W, k ∉ [g] := fun k hk => by simpa using (h.apart k hk).2.1
  exact ⟨h.blk.only ho e1, hs, ⟨f, h1.only ho e2, h2.only ho e3⟩, h.ne, h.apart, fun k hk => Nat.lt_of_lt_of_le (h.low k hk) ho.size, h.n0, h.cap_, h.left_, h.done_⟩
/-- the map turned -/
theorem IsD.mapped {f' : Lit → Option Value} {wait : Nat → Option (List UInt8)} {W' : List Nat} (h : IsD w p g b W cap d) (ho : Only [b] w w') (hv : VM Try.prog 3 w' b d.n f') (hf : WaitF w' W' d.n f' wait)
    (ha : ∀ k ∈ W', k ≠ p ∧ k ≠ g ∧ k ≠ b) (hl : ∀ k ∈ W', k < w'.heap.size) : IsD w' p g b W' cap { d with wait := wait } := by
  have e1 : p ∉ [b] := by simpa using h.ne.2.1
  have e2 : g ∉ [b] := by simpa using h.ne.2.2
  exact ⟨h.blk.only ho e1, h.safe.only ho e2, ⟨f', hv, hf⟩, h.ne, ha, hl, h.n0, h.cap_, h.left_, h.done_⟩
theorem IsD.cleared (h : IsD w p g b W cap d) (ho : Only [b] w w') (hv : VM Try.prog 3 w' b 0 (fun _ => none)) : IsD w' p g b W cap { d with wait := fun _ => none } :=
  h.mapped ho (hv.mono (Nat.zero_le _)) ⟨(fun k h => by cases h), (fun i l h => by cases h), fun _ _ => rfl⟩ h.apart (fun k hk => Nat.lt_of_lt_of_le (h.low k hk) ho.size)
end
/-- bytes laid over others -/
def lay (s : List UInt8) (o : Nat) (l : List UInt8) : List UInt8 := s.take o ++ l ++ s.drop (o + l.length)
theorem lay_len {s : List UInt8} {o : Nat} {l : List UInt8} (h : o + l.length ≤ s.length) : (lay s o l).length = s.length := by unfold lay; simp; omega
theorem lay_getD {s : List UInt8} {o : Nat} {l : List UInt8} (h : o + l.length ≤ s.length) (j : Nat) : (lay s o l).getD j 0 = if o ≤ j ∧ j < o + l.length then l.getD (j - o) 0 else s.getD j 0 := by
  unfold lay
  have htl : (s.take o).length = o := by rw [List.length_take]; omega
  simp only [List.getD_eq_getElem?_getD]
  by_cases h1 : j < o
  · rw [if_neg (by omega), List.append_assoc, List.getElem?_append_left (by omega), List.getElem?_take, if_pos h1]
  · rw [List.append_assoc, List.getElem?_append_right (by omega), htl]
    by_cases h2 : j < o + l.length
    · rw [if_pos ⟨by omega, h2⟩, List.getElem?_append_left (by omega)]
    · rw [if_neg (by omega), List.getElem?_append_right (by omega), List.getElem?_drop]
      congr 2
      omega
theorem lay_whole (s l : List UInt8) (h : l.length = s.length) : lay s 0 l = l := by unfold lay; simp [h]
theorem SafeAt.laid {w w' : World} {g n cap : Nat} {safe : Nat → List UInt8} {C : Array Value} {i o : Nat} {l : List UInt8} (hC : Blk w g 5 C) (h2 : C.size = cap) (h3 : 64 * n ≤ cap) (h4 : ∀ i, i < n → (safe i).length = 64 ∧ ∀ j, j < 64 → C[64 * i + j]? = some (B8 ((safe i).getD j 0)))
    (hi : i < n) (ho : o + l.length ≤ 64) (hb : Blk w' g 5 (spliced C (64 * i + o) l)) : SafeAt w' g n cap (fun k => if k = i then lay (safe i) o l else safe k) := by
  have hsz : (64 * i + o) + l.length ≤ C.size := by omega
  refine ⟨_, hb, by rw [spliced_size _ _ _ hsz, h2], h3, fun k hk => ?_⟩
  obtain ⟨h5, h6⟩ := h4 k hk
  by_cases e : k = i
  · subst e
    simp only [if_true]
    refine ⟨by rw [lay_len (by omega), h5], fun j hj => ?_⟩
    rw [spliced_at _ _ _ hsz, lay_getD (by omega)]
    by_cases h7 : o ≤ j ∧ j < o + l.length
    · rw [if_pos (by omega), if_pos h7]
      congr 3
      omega
    · rw [if_neg (by omega), if_neg h7]
      exact h6 j hj
  · simp only [if_neg e]
    refine ⟨h5, fun j hj => ?_⟩
    rw [spliced_at _ _ _ hsz, if_neg (by omega)]
    exact h6 j hj
end Go.Proofs.Ytgbicimbggdpgaa.Disk
