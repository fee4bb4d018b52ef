/- DiskA: A disk in memory: its words; The disk's small functions walk; deed walks, for each of the two closures that come to it; Write, and what it hands to deed, walk. -/
import Derived.Test.YthgfmoogagldmaaGreatMaps
import Derived.Test.YthgfmoogagldmaaGreatCopy
import Derived.Test.YthgfmoogagldmaaGreatIter
import Derived.Lib.SliceRun
import Derived.Deep.RegionHeld
import Derived.Deep.QuietTactic
import Derived.BigQuiet
import Derived.Deep.DeepFit
set_option linter.unusedVariables false
set_option maxRecDepth 100000
namespace Go.Proofs.YthgfmoogagldmaaGreat.Disk
open Go.RowKit Go.Maps
structure DS where
  n : Nat
  left : Int
  done : Int
  off : Bool
  safe : Nat → List UInt8
  wait : Nat → Option (List UInt8)
def pk (i : Nat) : Lit := .int .i64 (i : Int)
theorem pk_inj {i j : Nat} (h : pk i = pk j) : i = j := by
  unfold pk at h
  injection h with _ h
  omega
theorem lawI : Keyed Tryz.prog 3 := int_keyed Tryz.underlying3
def in64 (n : Int) : Prop := -9223372036854775808 ≤ n ∧ n ≤ 9223372036854775807
theorem keyZ {d : Int} (h : in64 d) : keyOf Tryz.prog 3 (.int .i64 d) = some (.int .i64 d) := Go.Maps.keyOf_int_mk Tryz.underlying3 (by obtain ⟨h1, h2⟩ := h; show (decide (_ ≤ d) && decide (d ≤ _)) = true; rw [Bool.and_eq_true, decide_eq_true_eq, decide_eq_true_eq]; exact ⟨h1, h2⟩)
theorem keyI {i : Nat} (h : i ≤ 1000000) : keyOf Tryz.prog 3 (.int .i64 (i : Int)) = some (pk i) := keyZ ⟨by omega, by omega⟩
theorem zeroBs (w : World) : (zeroValue 35).run Tryz.prog w = .ok (.slice none 0 0) w := by kernel_rfl
def SafeAt (w : World) (g n cap : Nat) (safe : Nat → List UInt8) : Prop := ∃ C : Array Value, Blk w g 5 C ∧ C.size = cap ∧ 64 * n ≤ cap ∧ ∀ i, i < n → (safe i).length = 64 ∧ ∀ j, j < 64 → C[64 * i + j]? = some (B8 ((safe i).getD j 0))
structure WaitF (w : World) (W : List Nat) (n : Nat) (f : Lit → Option Value) (wait : Nat → Option (List UInt8)) : Prop where
  keys : ∀ k, (f k).isSome = true → ∃ i, i < n ∧ k = pk i
  some_ : ∀ i l, wait i = some l → i < n ∧ l.length = 64 ∧ ∃ q c, f (pk i) = some (.slice (some ⟨q, 0, none⟩) 64 c) ∧ q ∈ W ∧ Bytes w w.heap.size (some ⟨q, 0, none⟩) 64 l ∧ 64 ≤ c ∧ c ≤ maxLen
  none_ : ∀ i, wait i = none → f (pk i) = none
structure IsD (w : World) (p g b : Nat) (W : List Nat) (cap : Nat) (d : DS) : Prop where
  blk : Blk w p 110 #[.int .i64 d.left, .int .i64 d.done, .bool d.off, .slice (some ⟨g, 0, none⟩) (64 * d.n) cap, .map (some b)]
  safe : SafeAt w g d.n cap d.safe
  map : ∃ f, VM Tryz.prog 3 w b d.n f ∧ WaitF w W d.n f d.wait
  ne : p ≠ g ∧ p ≠ b ∧ g ≠ b
  apart : ∀ k ∈ W, k ≠ p ∧ k ≠ g ∧ k ≠ b
  low : ∀ k ∈ W, k < w.heap.size
  n0 : 0 < d.n ∧ d.n ≤ 65536
  cap_ : cap ≤ maxLen
  left_ : -1 ≤ d.left ∧ d.left ≤ 9223372036854775807
  done_ : 0 ≤ d.done ∧ d.done ≤ 9223372036854775807
def Newer (w : World) (W W' : List Nat) : Prop := ∀ k ∈ W', k ∈ W ∨ w.heap.size ≤ k
theorem Newer.refl (w : World) (W : List Nat) : Newer w W W := fun k h => .inl h
theorem Newer.trans {w w' : World} {W W' W'' : List Nat} {S : List Nat} (h : Newer w W W') (k : Newer w' W' W'') (ho : Only S w w') : Newer w W W'' := fun x hx => by
  rcases k x hx with h1 | h1
  · exact h x h1
  · exact .inr (Nat.le_trans ho.size h1)
section
variable {w w' : World} {p g b n cap : Nat} {W S : List Nat} {d : DS} {f : Lit → Option Value} {safe : Nat → List UInt8} {wait : Nat → Option (List UInt8)}
theorem SafeAt.only (h : SafeAt w g n cap safe) (ho : Only S w w') (hg : g ∉ S) : SafeAt w' g n cap safe := by
  obtain ⟨C, h1, h2⟩ := h
  exact ⟨C, h1.only ho hg, h2⟩
theorem SafeAt.bytes (h : SafeAt w g n cap safe) {i : Nat} (hi : i < n) : Bytes w w.heap.size (some ⟨g, 64 * i, none⟩) 64 (safe i) := by
  obtain ⟨C, h1, h2, h3, h4⟩ := h
  obtain ⟨h5, h6⟩ := h4 i hi
  refine ⟨h5, by rw [List.length_map, h5], fun _ => ⟨_, rfl, h1.lt, fun j u hu => ?_⟩⟩
  rw [List.getElem?_map] at hu
  have hj : j < 64 := by
    rcases Nat.lt_or_ge j 64 with h | h
    · exact h
    · rw [List.getElem?_eq_none (by omega)] at hu; cases hu
  rw [add_block, h1.cell, h6 j hj]
  rw [List.getElem?_eq_getElem (by omega)] at hu
  rw [List.getD_eq_getElem?_getD, List.getElem?_eq_getElem (by omega)]
  simpa using hu
theorem WaitF.only (h : WaitF w W n f wait) (ho : Only S w w') (hS : ∀ k ∈ W, k ∉ S) : WaitF w' W n f wait :=
  ⟨h.keys, fun i l hl => by
    obtain ⟨h1, h2, q, c, h3, h4, h5, h6⟩ := h.some_ i l hl
    exact ⟨h1, h2, q, c, h3, h4, (h5.only ho (fun k hk => by simp [blkOf] at hk; subst hk; exact hS _ h4)).more ho.size, h6⟩, h.none_⟩
theorem WaitF.mono {W' : List Nat} (h : WaitF w W n f wait) (hW : ∀ k ∈ W, k ∈ W') : WaitF w W' n f wait :=
  ⟨h.keys, fun i l hl => by
    obtain ⟨h1, h2, q, c, h3, h4, h5, h6⟩ := h.some_ i l hl
    exact ⟨h1, h2, q, c, h3, hW _ h4, h5, h6⟩, h.none_⟩
theorem IsD.only (h : IsD w p g b W cap d) (ho : Only S w w') (hS : p ∉ S ∧ g ∉ S ∧ b ∉ S) (hW : ∀ k ∈ W, k ∉ S) : IsD w' p g b W cap d := by
  obtain ⟨f, h1, h2⟩ := h.map
  exact ⟨h.blk.only ho hS.1, h.safe.only ho hS.2.1, ⟨f, h1.only ho hS.2.2, h2.only ho hW⟩, h.ne, h.apart, fun k hk => Nat.lt_of_lt_of_le (h.low k hk) ho.size, h.n0, h.cap_, h.left_, h.done_⟩
theorem IsD.only0 (h : IsD w p g b W cap d) (ho : Only [] w w') : IsD w' p g b W cap d := h.only ho (by simp) (by simp)
theorem IsD.wait_lt (h : IsD w p g b W cap d) {i : Nat} {l : List UInt8} (hl : d.wait i = some l) : i < d.n ∧ l.length = 64 := by
  obtain ⟨f, _, h2⟩ := h.map
  obtain ⟨h3, h4, _⟩ := h2.some_ i l hl
  exact ⟨h3, h4⟩
theorem IsD.head (h : IsD w p g b W cap d) (ho : Only [p] w w') {left done : Int} {off : Bool} (hb : Blk w' p 110 #[.int .i64 left, .int .i64 done, .bool off, .slice (some ⟨g, 0, none⟩) (64 * d.n) cap, .map (some b)])
    (hl : -1 ≤ left ∧ left ≤ 9223372036854775807) (hd : 0 ≤ done ∧ done ≤ 9223372036854775807) : IsD w' p g b W cap { d with left := left, done := done, off := off } := by
  obtain ⟨f, h1, h2⟩ := h.map
  have e1 : g ∉ [p] := by simpa using fun e => h.ne.1 e.symm
  have e2 : b ∉ [p] := by simpa using fun e => h.ne.2.1 e.symm
  have e3 : ∀ k ∈ W, k ∉ [p] := fun k hk => by simpa using (h.apart k hk).1
  exact ⟨hb, h.safe.only ho e1, ⟨f, h1.only ho e2, h2.only ho e3⟩, h.ne, h.apart, fun k hk => Nat.lt_of_lt_of_le (h.low k hk) ho.size, h.n0, h.cap_, hl, hd⟩
theorem IsD.turned (h : IsD w p g b W cap d) (ho : Only [g] w w') {safe : Nat → List UInt8} (hs : SafeAt w' g d.n cap safe) : IsD w' p g b W cap { d with safe := safe } := by
  obtain ⟨f, h1, h2⟩ := h.map
  have e1 : p ∉ [g] := by simpa using h.ne.1
  have e2 : b ∉ [g] := by simpa using fun e => h.ne.2.2 e.symm
  have e3 : ∀ k ∈ W, k ∉ [g] := fun k hk => by simpa using (h.apart k hk).2.1
  exact ⟨h.blk.only ho e1, hs, ⟨f, h1.only ho e2, h2.only ho e3⟩, h.ne, h.apart, fun k hk => Nat.lt_of_lt_of_le (h.low k hk) ho.size, h.n0, h.cap_, h.left_, h.done_⟩
theorem IsD.mapped {f' : Lit → Option Value} {wait : Nat → Option (List UInt8)} {W' : List Nat} (h : IsD w p g b W cap d) (ho : Only [b] w w') (hv : VM Tryz.prog 3 w' b d.n f') (hf : WaitF w' W' d.n f' wait)
    (ha : ∀ k ∈ W', k ≠ p ∧ k ≠ g ∧ k ≠ b) (hl : ∀ k ∈ W', k < w'.heap.size) : IsD w' p g b W' cap { d with wait := wait } := by
  have e1 : p ∉ [b] := by simpa using h.ne.2.1
  have e2 : g ∉ [b] := by simpa using h.ne.2.2
  exact ⟨h.blk.only ho e1, h.safe.only ho e2, ⟨f', hv, hf⟩, h.ne, ha, hl, h.n0, h.cap_, h.left_, h.done_⟩
theorem IsD.cleared (h : IsD w p g b W cap d) (ho : Only [b] w w') (hv : VM Tryz.prog 3 w' b 0 (fun _ => none)) : IsD w' p g b W cap { d with wait := fun _ => none } :=
  h.mapped ho (hv.mono (Nat.zero_le _)) ⟨(fun k h => by cases h), (fun i l h => by cases h), fun _ _ => rfl⟩ h.apart (fun k hk => Nat.lt_of_lt_of_le (h.low k hk) ho.size)
end
def lay (s : List UInt8) (o : Nat) (l : List UInt8) : List UInt8 := s.take o ++ l ++ s.drop (o + l.length)
theorem lay_len {s : List UInt8} {o : Nat} {l : List UInt8} (h : o + l.length ≤ s.length) : (lay s o l).length = s.length := by unfold lay; simp; omega
theorem lay_getD {s : List UInt8} {o : Nat} {l : List UInt8} (h : o + l.length ≤ s.length) (j : Nat) : (lay s o l).getD j 0 = if o ≤ j ∧ j < o + l.length then l.getD (j - o) 0 else s.getD j 0 := by
  unfold lay
  have htl : (s.take o).length = o := by rw [List.length_take]; omega
  simp only [List.getD_eq_getElem?_getD]
  by_cases h1 : j < o
  · rw [if_neg (by omega), List.append_assoc, List.getElem?_append_left (by omega), List.getElem?_take, if_pos h1]
  · rw [List.append_assoc, List.getElem?_append_right (by omega), htl]
    by_cases h2 : j < o + l.length
    · rw [if_pos ⟨by omega, h2⟩, List.getElem?_append_left (by omega)]
    · rw [if_neg (by omega), List.getElem?_append_right (by omega), List.getElem?_drop]
      congr 2
      omega
theorem lay_whole (s l : List UInt8) (h : l.length = s.length) : lay s 0 l = l := by unfold lay; simp [h]
theorem SafeAt.laid {w w' : World} {g n cap : Nat} {safe : Nat → List UInt8} {C : Array Value} {i o : Nat} {l : List UInt8} (hC : Blk w g 5 C) (h2 : C.size = cap) (h3 : 64 * n ≤ cap) (h4 : ∀ i, i < n → (safe i).length = 64 ∧ ∀ j, j < 64 → C[64 * i + j]? = some (B8 ((safe i).getD j 0)))
    (hi : i < n) (ho : o + l.length ≤ 64) (hb : Blk w' g 5 (spliced C (64 * i + o) l)) : SafeAt w' g n cap (fun k => if k = i then lay (safe i) o l else safe k) := by
  have hsz : (64 * i + o) + l.length ≤ C.size := by omega
  refine ⟨_, hb, by rw [spliced_size _ _ _ hsz, h2], h3, fun k hk => ?_⟩
  obtain ⟨h5, h6⟩ := h4 k hk
  by_cases e : k = i
  · subst e
    simp only [if_true]
    refine ⟨by rw [lay_len (by omega), h5], fun j hj => ?_⟩
    rw [spliced_at _ _ _ hsz, lay_getD (by omega)]
    by_cases h7 : o ≤ j ∧ j < o + l.length
    · rw [if_pos (by omega), if_pos h7]
      congr 3
      omega
    · rw [if_neg (by omega), if_neg h7]
      exact h6 j hj
  · simp only [if_neg e]
    refine ⟨h5, fun j hj => ?_⟩
    rw [spliced_at _ _ _ hsz, if_neg (by omega)]
    exact h6 j hj
end Go.Proofs.YthgfmoogagldmaaGreat.Disk
namespace Go.Proofs.YthgfmoogagldmaaGreat.Disk
open Go.RowKit Go.Maps
theorem equalIn_map {P : Program} (w : World) (n : Nat) (t k e : TypeId) (p : Option Nat) (h : P.underlying t = some (.map k e)) : (Op.equalIn (n + 1) t (.map p) (.map none)).run P w = .ok p.isNone w := by
  cases p <;> simp [Op.equalIn, run_underlying h]
theorem eql_map_of {P : Program} (w : World) (t k e : TypeId) (p : Option Nat) (h : P.underlying t = some (.map k e)) : (binOp .eql t (.map p) (.map none)).run P w = .ok (.bool p.isNone) w := by
  have h2 : Op.equal t (.map p) (.map none) = Op.equalIn (9999 + 1) t (.map p) (.map none) := rfl
  simp only [binOp]
  simp [h2, equalIn_map w 9999 t k e p h]
theorem eql_map (p : Option Nat) (w : World) : (binOp .eql 108 (.map p) (.map none)).run Tryz.prog w = .ok (.bool p.isNone) w := eql_map_of w _ _ _ p Tryz.underlying108
theorem none_some (w : World) (p b : Nat) (h : w.cell? ⟨p, 4, none⟩ = some (.map (some b))) : Calls Tryz.prog 72 #[.pointer (some ⟨p, 0, none⟩)] w fun x w' => x = .returned (.bool false) ∧ w' = w := by
  have hq := eql_map (some b) w
  go_enter Tryz.func72, Tryz.ntmps72
  go_wp2_with fail
  go_ret
  exact ⟨rfl, rfl⟩
section
variable {w : World} {p g b cap : Nat} {W : List Nat} {d : DS}
theorem none_is (h : IsD w p g b W cap d) : Calls Tryz.prog 72 #[.pointer (some ⟨p, 0, none⟩)] w fun x w' => x = .returned (.bool false) ∧ w' = w := none_some w p b (h.blk.cell 4)
theorem sectors_any (h : IsD w p g b W cap d) : Calls Tryz.prog 55 #[.pointer (some ⟨p, 0, none⟩)] w fun x w' => x = .returned (.int .i64 d.n) ∧ w' = w := by
  have HN := Lib.hid (none_is h)
  have c3 := h.blk.cell 3
  obtain ⟨n0, n1⟩ := h.n0
  obtain ⟨n, hn⟩ : ∃ n, d.n = n := ⟨_, rfl⟩
  rw [hn] at c3 n0 n1 ⊢
  clear h hn
  go_enter Tryz.func55, Tryz.ntmps55
  go_wp2_with (go_at_call 72; refine HN.out.mono ?_; rintro x w2 ⟨rfl, rfl⟩)
  go_ret
  exact ⟨by congr 2 <;> omega, rfl⟩
theorem down_any (h : IsD w p g b W cap d) : Calls Tryz.prog 20 #[.pointer (some ⟨p, 0, none⟩)] w fun x w' => x = .returned (.bool d.off) ∧ w' = w := by
  have HN := Lib.hid (none_is h)
  have c2 := h.blk.cell 2
  clear h
  go_enter Tryz.func20, Tryz.ntmps20
  go_wp2_with (go_at_call 72; refine HN.out.mono ?_; rintro x w2 ⟨rfl, rfl⟩)
  go_ret
  exact ⟨rfl, rfl⟩
theorem at_is (h : IsD w p g b W cap d) (i : Nat) (hi : i < d.n) : Calls Tryz.prog 75 #[.pointer (some ⟨p, 0, none⟩), .int .i64 (i : Int)] w fun x w' => x = .returned (.slice (some ⟨g, 64 * i, none⟩) 64 (cap - 64 * i)) ∧ w' = w := by
  have c3 := h.blk.cell 3
  obtain ⟨n0, n1⟩ := h.n0
  obtain ⟨C, _, _, hc, _⟩ := h.safe
  have hm := h.cap_
  obtain ⟨n, hn⟩ : ∃ n, d.n = n := ⟨_, rfl⟩
  rw [hn] at c3 n0 n1 hi hc
  clear h hn
  have e1 : (i + 1) * 64 - i * 64 = 64 := by omega
  have e2 : i * 64 = 64 * i := by omega
  have HE1 := Lib.hid e1
  have HE2 := Lib.hid e2
  clear e1 e2
  unfold maxLen at hm
  go_enter Tryz.func75, Tryz.ntmps75
  go_wp2_with fail
  go_ret
  exact ⟨by rw [HE1.out, HE2.out]; rfl, rfl⟩
theorem at_any (h : IsD w p g b W cap d) (i : Nat) (hi : i < d.n) : Calls Tryz.prog 75 #[.pointer (some ⟨p, 0, none⟩), .int .i64 (i : Int)] w fun x w' => ∃ c, x = .returned (.slice (some ⟨g, 64 * i, none⟩) 64 c) ∧ 64 ≤ c ∧ c ≤ maxLen ∧ w' = w := by
  obtain ⟨C, _, _, hc, _⟩ := h.safe
  have hm := h.cap_
  exact (at_is h i hi).mono fun x w' ⟨hx, hw⟩ => ⟨_, hx, by omega, by omega, hw⟩
theorem clone_any (A : Option Addr) (n c B : Nat) (l : List UInt8) (w : World) (hr : Bytes w B A n l) (hB : B ≤ w.heap.size) (hn : 0 < n) (hm : n ≤ 1000000000) :
    Calls Tryz.prog 69 #[.slice A n c] w fun x w' => ∃ q cap, x = .returned (.slice (some ⟨q, 0, none⟩) n cap) ∧ w.heap.size ≤ q ∧ q < w'.heap.size ∧ OwnB w' w.heap.size (.slice (some ⟨q, 0, none⟩) n cap) n l ∧ n ≤ cap ∧ cap ≤ maxLen ∧ Only [] w w' := by
  have hnil := Lib.run_eql_slice_nil (P := Tryz.prog) w 35 5 A n c 0 0 Tryz.underlying35
  obtain ⟨ad, hA, _⟩ := hr.2.2 hn
  have hA2 : A.isNone = false := by rw [hA]; rfl
  rw [hA2] at hnil
  have HR := Lib.hid (hr.alloc hB (.cells #[] 5))
  have HN := Lib.hid hn
  clear hr hA hA2
  go_enter Tryz.func69, Tryz.ntmps69
  go_wp2_with (at_builtin; refine wpList_append_bytes rfl _ _ rfl (base := w.heap.size) (v := .slice (some ⟨w.heap.size, 0, none⟩) 0 0) rfl (OwnB.empty w _ (Nat.le_refl _)) rfl HR.out (by omega) (by simp) ?_; intro v' w2 hown ho hf)
  rw [Nat.zero_add, List.nil_append] at hown
  obtain ⟨q, cap, rfl, h1, h2, h3, h4⟩ := hown.form HN.out
  have hox : Only [] w w2 := by
    refine ((Only.refl [] w).alloc (.cells #[] 5)).trans ho (fun g hg => .inr ?_)
    have : g = w.heap.size := by simpa [ownL, Value.ownBlock] using hg
    omega
  go_ret
  exact ⟨q, cap, rfl, h1, h2, hown, h3, h4, hox⟩
end
end Go.Proofs.YthgfmoogagldmaaGreat.Disk
namespace Go.Proofs.YthgfmoogagldmaaGreat.Disk
open Go.RowKit Go.Maps
def Did (w : World) (p g b : Nat) (W : List Nat) (cap : Nat) (d' : DS) (w' : World) : Prop := ∃ W', IsD w' p g b W' cap d' ∧ Newer w W W' ∧ Only [p, g, b] w w'
theorem Did.trans {w w' w'' : World} {p g b : Nat} {W W' : List Nat} {cap : Nat} {d'' : DS} (hn : Newer w W W') (ho : Only [p, g, b] w w') (h : Did w' p g b W' cap d'' w'') : Did w p g b W cap d'' w'' := by
  obtain ⟨W2, h1, h2, h3⟩ := h
  exact ⟨W2, h1, hn.trans h2 ho, ho.trans h3 (fun g hg => .inl hg)⟩
def stepD (d : DS) : DS := { d with done := d.done + 1, left := if 0 < d.left then d.left - 1 else d.left }
section
variable {w : World} {p g b cap : Nat} {W : List Nat} {d : DS}
theorem IsD.offed (h : IsD w p g b W cap d) : IsD (w.setCell ⟨p, 2, none⟩ (.bool true)) p g b W cap { d with off := true } ∧ Only [p] w (w.setCell ⟨p, 2, none⟩ (.bool true)) := by
  have ho : Only [p] w (w.setCell ⟨p, 2, none⟩ (.bool true)) := (Only.refl [p] w).setCell (p := ⟨p, 2, none⟩) (.inl (by simp)) _
  exact ⟨h.head ho (h.blk.set_ 2 (.bool true)) h.left_ h.done_, ho⟩
theorem only_p {w w' : World} (h : Only [p] w w') : Only [p, g, b] w w' := h.mono (fun k hk => .inl (by simp at hk; simp [hk]))
set_option maxHeartbeats 1000000 in
theorem deed_noS (h : IsD w p g b W cap d) (hd : d.off = true ∨ d.left = 0) (binds : Array Value) :
    Calls Tryz.prog 104 #[.pointer (some ⟨p, 0, none⟩), .func (.func 105) #[] binds] w fun x w' => x = .returned (.int .i64 3) ∧ IsD w' p g b W cap { d with off := true } ∧ Only [p] w w' := by
  have c0 := h.blk.cell 0
  have c2 := h.blk.cell 2
  have f2 := h.blk.frozen 2
  have HS := Lib.hid h.offed
  obtain ⟨n, left, done, off, safe, wait⟩ := d
  simp only at hd c0 c2
  have hcase : off = true ∨ (off = false ∧ left = 0) := by
    cases off
    · right
      exact ⟨rfl, by simpa using hd⟩
    · exact .inl rfl
  clear h hd
  rcases hcase with rfl | ⟨rfl, rfl⟩
  all_goals
    go_enter Tryz.func104, Tryz.ntmps104
    go_wp2_with fail
    go_ret
    exact ⟨rfl, HS.out⟩
set_option maxHeartbeats 2000000 in
theorem deed_yesS (h : IsD w p g b W cap d) (h1 : d.off = false) (h2 : d.left ≠ 0) (hd : d.done ≤ 4611686018427387904) (binds : Array Value) (sf : Nat → List UInt8) (wt : Nat → Option (List UInt8))
    (HC : Calls Tryz.prog 105 binds w fun x w' => x = .returned (.tuple #[]) ∧ Did w p g b W cap { d with safe := sf, wait := wt } w') :
    Calls Tryz.prog 104 #[.pointer (some ⟨p, 0, none⟩), .func (.func 105) #[] binds] w fun x w' => x = .returned (.int .i64 0) ∧ Did w p g b W cap (stepD { d with safe := sf, wait := wt }) w' := by
  have c0 := h.blk.cell 0
  have c2 := h.blk.cell 2
  have hl := h.left_
  have hdn := h.done_
  have HC := Lib.hid HC
  obtain ⟨n, left, done, off, safe, wait⟩ := d
  simp only at h1 h2 hd c0 c2 hl hdn HC
  subst h1
  have e0 : (left == 0) = false := by simp [h2]
  unfold stepD
  simp only
  have hw1 : IntKind.i64.wrap (done + 1) = done + 1 := IntWalk.i64_in _ (by omega)
  clear h
  by_cases hpos : 0 < left
  · have e1 : decide (0 < left) = true := decide_eq_true hpos
    rw [if_pos hpos]
    clear h2
    go_enter Tryz.func104, Tryz.ntmps104
    go_wp2_with (go_at_call 105; refine HC.out.mono ?_; rintro x w2 ⟨rfl, W2, hi2, hn2, ho2⟩; have d0 := hi2.blk.cell 0; have d1 := hi2.blk.cell 1; have f0 := hi2.blk.frozen 0; have f1 := hi2.blk.frozen 1; have HI2 := Lib.hid hi2; have HN2 := Lib.hid hn2; have HO2 := Lib.hid ho2; clear hi2 hn2 ho2)
    have ho : Only [p] w2 ((w2.setCell ⟨p, 1, none⟩ (.int .i64 (done + 1))).setCell ⟨p, 0, none⟩ (.int .i64 (left - 1))) := ((Only.refl [p] w2).setCell (p := ⟨p, 1, none⟩) (.inl (by simp)) _).setCell (p := ⟨p, 0, none⟩) (.inl (by simp)) _
    have hb := (HI2.out.blk.set_ 1 (.int .i64 (done + 1))).set_ 0 (.int .i64 (left - 1))
    have hf := HI2.out.head ho hb (by omega) (by omega)
    go_ret
    exact ⟨rfl, W2, hf, HN2.out, HO2.out.trans (only_p ho) (fun g hg => .inl hg)⟩
  · have e1 : decide (0 < left) = false := decide_eq_false hpos
    rw [if_neg hpos]
    clear h2
    go_enter Tryz.func104, Tryz.ntmps104
    go_wp2_with (go_at_call 105; refine HC.out.mono ?_; rintro x w2 ⟨rfl, W2, hi2, hn2, ho2⟩; have d0 := hi2.blk.cell 0; have d1 := hi2.blk.cell 1; have f0 := hi2.blk.frozen 0; have f1 := hi2.blk.frozen 1; have HI2 := Lib.hid hi2; have HN2 := Lib.hid hn2; have HO2 := Lib.hid ho2; clear hi2 hn2 ho2)
    have ho : Only [p] w2 (w2.setCell ⟨p, 1, none⟩ (.int .i64 (done + 1))) := (Only.refl [p] w2).setCell (p := ⟨p, 1, none⟩) (.inl (by simp)) _
    have hb := HI2.out.blk.set_ 1 (.int .i64 (done + 1))
    have hf := HI2.out.head ho hb (by omega) (by omega)
    go_ret
    exact ⟨rfl, W2, hf, HN2.out, HO2.out.trans (only_p ho) (fun g hg => .inl hg)⟩
set_option maxHeartbeats 2000000 in
theorem deed_yesW (h : IsD w p g b W cap d) (h1 : d.off = false) (h2 : d.left ≠ 0) (hd : d.done ≤ 4611686018427387904) (binds : Array Value) (sf : Nat → List UInt8) (wt : Nat → Option (List UInt8))
    (HC : Calls Tryz.prog 136 binds w fun x w' => x = .returned (.tuple #[]) ∧ Did w p g b W cap { d with safe := sf, wait := wt } w') :
    Calls Tryz.prog 104 #[.pointer (some ⟨p, 0, none⟩), .func (.func 136) #[] binds] w fun x w' => x = .returned (.int .i64 0) ∧ Did w p g b W cap (stepD { d with safe := sf, wait := wt }) w' := by
  have c0 := h.blk.cell 0
  have c2 := h.blk.cell 2
  have hl := h.left_
  have hdn := h.done_
  have HC := Lib.hid HC
  obtain ⟨n, left, done, off, safe, wait⟩ := d
  simp only at h1 h2 hd c0 c2 hl hdn HC
  subst h1
  have e0 : (left == 0) = false := by simp [h2]
  unfold stepD
  simp only
  have hw1 : IntKind.i64.wrap (done + 1) = done + 1 := IntWalk.i64_in _ (by omega)
  clear h
  by_cases hpos : 0 < left
  · have e1 : decide (0 < left) = true := decide_eq_true hpos
    rw [if_pos hpos]
    clear h2
    go_enter Tryz.func104, Tryz.ntmps104
    go_wp2_with (go_at_call 136; refine HC.out.mono ?_; rintro x w2 ⟨rfl, W2, hi2, hn2, ho2⟩; have d0 := hi2.blk.cell 0; have d1 := hi2.blk.cell 1; have f0 := hi2.blk.frozen 0; have f1 := hi2.blk.frozen 1; have HI2 := Lib.hid hi2; have HN2 := Lib.hid hn2; have HO2 := Lib.hid ho2; clear hi2 hn2 ho2)
    have ho : Only [p] w2 ((w2.setCell ⟨p, 1, none⟩ (.int .i64 (done + 1))).setCell ⟨p, 0, none⟩ (.int .i64 (left - 1))) := ((Only.refl [p] w2).setCell (p := ⟨p, 1, none⟩) (.inl (by simp)) _).setCell (p := ⟨p, 0, none⟩) (.inl (by simp)) _
    have hb := (HI2.out.blk.set_ 1 (.int .i64 (done + 1))).set_ 0 (.int .i64 (left - 1))
    have hf := HI2.out.head ho hb (by omega) (by omega)
    go_ret
    exact ⟨rfl, W2, hf, HN2.out, HO2.out.trans (only_p ho) (fun g hg => .inl hg)⟩
  · have e1 : decide (0 < left) = false := decide_eq_false hpos
    rw [if_neg hpos]
    clear h2
    go_enter Tryz.func104, Tryz.ntmps104
    go_wp2_with (go_at_call 136; refine HC.out.mono ?_; rintro x w2 ⟨rfl, W2, hi2, hn2, ho2⟩; have d0 := hi2.blk.cell 0; have d1 := hi2.blk.cell 1; have f0 := hi2.blk.frozen 0; have f1 := hi2.blk.frozen 1; have HI2 := Lib.hid hi2; have HN2 := Lib.hid hn2; have HO2 := Lib.hid ho2; clear hi2 hn2 ho2)
    have ho : Only [p] w2 (w2.setCell ⟨p, 1, none⟩ (.int .i64 (done + 1))) := (Only.refl [p] w2).setCell (p := ⟨p, 1, none⟩) (.inl (by simp)) _
    have hb := HI2.out.blk.set_ 1 (.int .i64 (done + 1))
    have hf := HI2.out.head ho hb (by omega) (by omega)
    go_ret
    exact ⟨rfl, W2, hf, HN2.out, HO2.out.trans (only_p ho) (fun g hg => .inl hg)⟩
end
end Go.Proofs.YthgfmoogagldmaaGreat.Disk
namespace Go.Proofs.YthgfmoogagldmaaGreat.Disk
open Go.RowKit Go.Maps
def setW (wait : Nat → Option (List UInt8)) (i : Nat) (l : List UInt8) : Nat → Option (List UInt8) := fun k => if k = i then some l else wait k
theorem WaitF.ks {w : World} {W : List Nat} {n : Nat} {f : Lit → Option Value} {wait : Nat → Option (List UInt8)} (h : WaitF w W n f wait) : ∀ k, (f k).isSome = true → k ∈ (List.range n).map pk := fun k hk => by
  obtain ⟨i, hi, rfl⟩ := h.keys k hk
  exact List.mem_map.2 ⟨i, List.mem_range.2 hi, rfl⟩
section
variable {w w' : World} {p g b cap : Nat} {W : List Nat} {d : DS} {f : Lit → Option Value}
theorem IsD.put {i q c m : Nat} {l : List UInt8} (h : IsD w p g b W cap d) (hf : WaitF w W d.n f d.wait) (ho : Only [b] w w') (hv : VM Tryz.prog 3 w' b m (upd f (pk i) (some (.slice (some ⟨q, 0, none⟩) 64 c)))) (hB : Bytes w w.heap.size (some ⟨q, 0, none⟩) 64 l) (hc : 64 ≤ c ∧ c ≤ maxLen)
    (hq : q ≠ p ∧ q ≠ g ∧ q ≠ b) (hi : i < d.n) : IsD w' p g b (q :: W) cap { d with wait := setW d.wait i l } := by
  have hqw : q < w.heap.size := hB.blk_lt (by decide) q (by simp [blkOf])
  have hf2 := hf.only ho (fun k hk => by simpa using (h.apart k hk).2.2)
  have hw : WaitF w' (q :: W) d.n (upd f (pk i) (some (.slice (some ⟨q, 0, none⟩) 64 c))) (setW d.wait i l) := by
    refine ⟨fun k hk => ?_, fun j l' hl' => ?_, fun j hj => ?_⟩
    · by_cases e : k = pk i
      · exact ⟨i, hi, e⟩
      · rw [upd_other _ _ e] at hk
        exact hf.keys k hk
    · unfold setW at hl'
      by_cases e : j = i
      · subst e
        rw [if_pos rfl] at hl'
        injection hl' with hl'
        subst hl'
        exact ⟨hi, hB.len, q, c, upd_same _ _ _, List.mem_cons_self, (hB.only ho (fun k hk => by simp [blkOf] at hk; subst hk; simpa using hq.2.2)).more ho.size, hc⟩
      · rw [if_neg e] at hl'
        obtain ⟨h1, h2, q', c', h3, h4, h5⟩ := hf2.some_ j l' hl'
        exact ⟨h1, h2, q', c', by rw [upd_other _ _ (fun e' => e (pk_inj e'))]; exact h3, List.mem_cons_of_mem _ h4, h5⟩
    · unfold setW at hj
      by_cases e : j = i
      · rw [if_pos e] at hj; cases hj
      · rw [if_neg e] at hj
        rw [upd_other _ _ (fun e' => e (pk_inj e'))]
        exact hf.none_ j hj
  have hv2 := hv.tight lawI hw.ks
  rw [List.length_map, List.length_range] at hv2
  refine h.mapped ho hv2 hw ?_ ?_
  · intro k hk
    rcases List.mem_cons.1 hk with rfl | hk
    · exact hq
    · exact h.apart k hk
  · intro k hk
    rcases List.mem_cons.1 hk with rfl | hk
    · exact Nat.lt_of_lt_of_le hqw ho.size
    · exact Nat.lt_of_lt_of_le (h.low k hk) ho.size
theorem IsD.lt (h : IsD w p g b W cap d) : p < w.heap.size ∧ g < w.heap.size ∧ b < w.heap.size := by
  obtain ⟨C, hC, _⟩ := h.safe
  obtain ⟨f, hv, _⟩ := h.map
  exact ⟨h.blk.lt, hC.lt, hv.lt⟩
set_option maxHeartbeats 2000000 in
theorem write1_any (h : IsD w p g b W cap d) {q3 q4 q5 i c B : Nat} {A : Option Addr} {l : List UInt8} (x5 : w.cell? ⟨q5, 0, none⟩ = some (.slice A 64 c)) (x3 : w.cell? ⟨q3, 0, none⟩ = some (.pointer (some ⟨p, 0, none⟩))) (x4 : w.cell? ⟨q4, 0, none⟩ = some (.int .i64 (i : Int)))
    (hr : Bytes w B A 64 l) (hB : B ≤ w.heap.size) (hi : i < d.n) :
    Calls Tryz.prog 136 #[.pointer (some ⟨q5, 0, none⟩), .pointer (some ⟨q3, 0, none⟩), .pointer (some ⟨q4, 0, none⟩)] w fun x w' => x = .returned (.tuple #[]) ∧ Did w p g b W cap { d with safe := d.safe, wait := setW d.wait i l } w' := by
  have c4 := h.blk.cell 4
  have HH := Lib.hid h
  have HI := Lib.hid hi
  obtain ⟨n0, n1⟩ := h.n0
  have HKY := Lib.hid (keyI (i := i) (by omega))
  have HCL := Lib.hid (clone_any A 64 c B l w.drew hr.drew hB (by decide) (by decide))
  have HOD := Lib.hid ((Only.refl [] w).drew)
  have HX : Hid (∀ w', Only [] w w' → w'.cell? ⟨q5, 0, none⟩ = some (.slice A 64 c) ∧ w'.cell? ⟨q3, 0, none⟩ = some (.pointer (some ⟨p, 0, none⟩)) ∧ w'.cell? ⟨q4, 0, none⟩ = some (.int .i64 (i : Int)) ∧ w'.cell? ⟨p, 4, none⟩ = some (.map (some b))) := Lib.hid (fun w' ho => ⟨ho.cell x5 (by simp), ho.cell x3 (by simp), ho.cell x4 (by simp), ho.cell c4 (by simp)⟩)
  obtain ⟨d5, d3, d4, d6⟩ := HX.out _ HOD.out
  clear h hr hi x5 x3 x4 c4
  go_enter Tryz.func136, Tryz.ntmps136
  go_wp2_with fail
  go_region_law (go_simp; go_at_call 69; refine HCL.out.mono ?_; rintro x w2 ⟨q, qc, rfl, hq1, hq2, hown, hqc, hqm, ho2⟩; obtain ⟨e5, e3, e4, e6⟩ := HX.out w2 (HOD.out.trans ho2 (by simp)); obtain ⟨f, hv2, hf2⟩ := (HH.out.only0 (HOD.out.trans ho2 (by simp))).map; obtain ⟨w3, hrun, hv3, ho3⟩ := VM.run_put 108 lawI Tryz.underlying108 hv2 (by unfold maxLen; omega) (.slice (some ⟨q, 0, none⟩) 64 qc) HKY.out; have HV3 := Lib.hid hv3; have HF2 := Lib.hid hf2; have HO3 := Lib.hid ho3; clear hv2 hf2 hv3 ho3)
  all_goals
    have hox := HOD.out.trans ho2 (by simp)
    have hh2 := HH.out.only0 hox
    obtain ⟨l1, l2, l3⟩ := HH.out.lt
    have hq1' : w.heap.size ≤ q := hq1
    have hfin := hh2.put (l := l) HF2.out HO3.out HV3.out hown.reads ⟨hqc, hqm⟩ ⟨by omega, by omega, by omega⟩ HI.out
    have hnew : Newer w W (q :: W) := fun k hk => by
      rcases List.mem_cons.1 hk with rfl | hk
      · exact .inr hq1'
      · exact .inl hk
    have hon : Only [p, g, b] w w3 := (hox.mono (S' := [p, g, b]) (fun k hk => by cases hk)).trans HO3.out (fun k hk => .inl (by simp at hk; simp [hk]))
    go_wp2_with fail
    go_end0
    exact ⟨rfl, _, hfin, hnew, hon⟩
def WriteO (w : World) (p g b : Nat) (W : List Nat) (cap : Nat) (d : DS) (i : Int) (l : List UInt8) (x : Ending) (w' : World) : Prop :=
  if d.off = true ∨ d.left = 0 then x = .returned (.int .i64 3) ∧ Did w p g b W cap { d with off := true } w'
  else if 0 ≤ i ∧ i < d.n ∧ l.length = 64 then x = .returned (.int .i64 0) ∧ Did w p g b W cap (stepD { d with wait := setW d.wait i.toNat l }) w'
  else x = .returned (.int .i64 1) ∧ Did w p g b W cap d w'
theorem WriteO.no {i : Int} {l : List UInt8} {x : Ending} (hd : d.off = true ∨ d.left = 0) (hx : x = .returned (.int .i64 3)) (h : Did w p g b W cap { d with off := true } w') : WriteO w p g b W cap d i l x w' := by unfold WriteO; rw [if_pos hd]; exact ⟨hx, h⟩
theorem WriteO.bad {i : Int} {l : List UInt8} {x : Ending} (hd : ¬ (d.off = true ∨ d.left = 0)) (hi : ¬ (0 ≤ i ∧ i < d.n ∧ l.length = 64)) (hx : x = .returned (.int .i64 1)) (h : Did w p g b W cap d w') : WriteO w p g b W cap d i l x w' := by unfold WriteO; rw [if_neg hd, if_neg hi]; exact ⟨hx, h⟩
theorem WriteO.ok {i : Int} {l : List UInt8} {x : Ending} (hd : ¬ (d.off = true ∨ d.left = 0)) (hi : 0 ≤ i ∧ i < d.n ∧ l.length = 64) (hx : x = .returned (.int .i64 0)) (h : Did w p g b W cap (stepD { d with wait := setW d.wait i.toNat l }) w') : WriteO w p g b W cap d i l x w' := by unfold WriteO; rw [if_neg hd, if_pos hi]; exact ⟨hx, h⟩
theorem did_of {d' : DS} (ho : Only [] w w') (h : IsD w' p g b W cap d') : Did w p g b W cap d' w' := ⟨W, h, Newer.refl _ _, ho.mono (fun k hk => by cases hk)⟩
theorem did_after {w1 : World} {d' : DS} (ho : Only [] w w1) (h : Did w1 p g b W cap d' w') : Did w p g b W cap d' w' := by
  obtain ⟨W', h1, h2, h3⟩ := h
  exact ⟨W', h1, (Newer.refl w W).trans h2 ho, (ho.mono (S' := [p, g, b]) (fun k hk => by cases hk)).trans h3 (fun k hk => .inl hk)⟩
set_option maxHeartbeats 4000000 in
theorem write_any (h : IsD w p g b W cap d) (i : Int) {A : Option Addr} {n c B : Nat} {l : List UInt8} (hr : Bytes w B A n l) (hB : B ≤ w.heap.size) (hd : d.done ≤ 4611686018427387904) (hn : n ≤ 1000000000) :
    Calls Tryz.prog 106 #[.pointer (some ⟨p, 0, none⟩), .int .i64 i, .slice A n c] w fun x w' => WriteO w p g b W cap d i l x w' := by
  obtain ⟨W3, hW3⟩ : ∃ W3, ((w.alloc (.cells #[.pointer (some ⟨p, 0, none⟩)] 26)).alloc (.cells #[.int .i64 i] 3)).alloc (.cells #[.slice A n c] 35) = W3 := ⟨_, rfl⟩
  have ho3 : Only [] w W3 := by rw [← hW3]; exact (((Only.refl [] w).alloc _).alloc _).alloc _
  have b0 : Blk W3 w.heap.size 26 #[.pointer (some ⟨p, 0, none⟩)] := by rw [← hW3]; exact ((Blk.new w _ _).alloc _).alloc _
  have b1 : Blk W3 (w.heap.size + 1) 3 #[.int .i64 i] := by
    have := (Blk.new (w.alloc (.cells #[.pointer (some ⟨p, 0, none⟩)] 26)) 3 #[.int .i64 i]).alloc (.cells #[.slice A n c] 35)
    rw [World.size_alloc, hW3] at this
    exact this
  have b2 : Blk W3 (w.heap.size + 1 + 1) 35 #[.slice A n c] := by
    have := Blk.new ((w.alloc (.cells #[.pointer (some ⟨p, 0, none⟩)] 26)).alloc (.cells #[.int .i64 i] 3)) 35 #[.slice A n c]
    rw [World.size_alloc, World.size_alloc, hW3] at this
    exact this
  have x0 := b0.cell 0
  have x1 := b1.cell 0
  have x2 := b2.cell 0
  have h3 := h.only0 ho3
  have c0 := h3.blk.cell 0
  have c2 := h3.blk.cell 2
  have f2 := h3.blk.frozen 2
  have HNN := Lib.hid (none_is h3)
  have HSC := Lib.hid (sectors_any h3)
  have HOF := Lib.hid h3.offed
  have HDN : Hid (∀ w1, Only [] W3 w1 → ∀ j : Nat, n = 64 → i = (j : Int) → d.off = false → d.left ≠ 0 → j < d.n → Calls Tryz.prog 104 #[.pointer (some ⟨p, 0, none⟩), .func (.func 136) #[] #[.pointer (some ⟨w.heap.size + 1 + 1, 0, none⟩), .pointer (some ⟨w.heap.size, 0, none⟩), .pointer (some ⟨w.heap.size + 1, 0, none⟩)]] w1 fun x w' => x = .returned (.int .i64 0) ∧ Did w1 p g b W cap (stepD { d with wait := setW d.wait j l }) w') := Lib.hid (by
    intro w1 ho1 j hn64 hij h1 h2 hj
    subst hn64
    subst hij
    have h1' := h3.only0 ho1
    exact deed_yesW h1' h1 h2 hd _ d.safe (setW d.wait j l) (write1_any h1' (ho1.cell x2 (by simp)) (ho1.cell x0 (by simp)) (ho1.cell x1 (by simp)) ((hr.only ho3 (by simp)).only ho1 (by simp)) (Nat.le_trans hB (Nat.le_trans ho3.size ho1.size)) hj))
  have H3 := Lib.hid h3
  have HW3 := Lib.hid hW3
  have HO3 := Lib.hid ho3
  have hlen := hr.len
  have HL := Lib.hid hlen
  obtain ⟨n0, n1⟩ := h.n0
  clear h hr h3 ho3 b0 b1 b2 hlen
  obtain ⟨n', left, done, off, safe, wait⟩ := d
  simp only at c0 c2 n0 n1 hd HSC HDN HOF H3 HNN ⊢
  by_cases hdn : off = true ∨ left = 0
  · have HDD := Lib.hid hdn
    have hcase : off = true ∨ (off = false ∧ left = 0) := by
      cases off
      · right
        exact ⟨rfl, by simpa using hdn⟩
      · exact .inl rfl
    clear hdn
    rcases hcase with rfl | ⟨rfl, rfl⟩
    all_goals
      go_enter Tryz.func106, Tryz.ntmps106
      go_wp2_with (go_at_call 72; refine HNN.out.mono ?_; rintro x w4 ⟨rfl, rfl⟩)
      go_ret
      exact WriteO.no (by simp) rfl ⟨W, HOF.out.1, Newer.refl _ _, (HO3.out.mono (S' := [p, g, b]) (fun k hk => by cases hk)).trans (only_p HOF.out.2) (fun k hk => .inl hk)⟩
  · have HDD := Lib.hid hdn
    obtain ⟨h1, h2⟩ : off = false ∧ left ≠ 0 := by
      cases off
      · exact ⟨rfl, by simpa using hdn⟩
      · simp at hdn
    subst h1
    have e0 : (left == 0) = false := by simp [h2]
    have HD := Lib.hid h2
    clear hdn h2
    have hkey : decide (i < 0) = true ∨ (decide (i < 0) = false ∧ decide ((n' : Int) ≤ i) = true) ∨ (decide (i < 0) = false ∧ decide ((n' : Int) ≤ i) = false ∧ ((n : Int) != 64) = true) ∨ (decide (i < 0) = false ∧ decide ((n' : Int) ≤ i) = false ∧ ((n : Int) != 64) = false) := by
      by_cases a : i < 0
      · exact .inl (decide_eq_true a)
      · by_cases b' : (n' : Int) ≤ i
        · exact .inr (.inl ⟨decide_eq_false a, decide_eq_true b'⟩)
        · by_cases c' : (n : Int) = 64
          · exact .inr (.inr (.inr ⟨decide_eq_false a, decide_eq_false b', by simp [c']⟩))
          · exact .inr (.inr (.inl ⟨decide_eq_false a, decide_eq_false b', by simpa using c'⟩))
    have hno : decide (i < 0) = true ∨ decide ((n' : Int) ≤ i) = true ∨ ((n : Int) != 64) = true → ¬ (0 ≤ i ∧ i < (n' : Int) ∧ l.length = 64) := by
      simp only [decide_eq_true_eq, bne_iff_ne, ne_eq]
      rw [HL.out]
      omega
    have HNO := Lib.hid hno
    clear hno
    have HQ : Hid (∀ k, Calls Tryz.prog 55 #[.pointer (some ⟨p, 0, none⟩)] (W3.drewN k) fun x w' => x = .returned (.int .i64 n') ∧ w' = W3.drewN k) := Lib.hid (fun k => sectors_any (H3.out.only0 ((Only.refl [] W3).drewN k)))
    rcases hkey with d1 | ⟨d1, d2⟩ | ⟨d1, d2, d3⟩ | ⟨d1, d2, d3⟩
    · have HB := Lib.hid (HNO.out (.inl d1))
      go_enter Tryz.func106, Tryz.ntmps106
      go_wp2_with (go_at_call 72; refine HNN.out.mono ?_; rintro x w4 ⟨rfl, rfl⟩)
      go_quiet ((go_at_call 55; exact Calls.quiet_of_same (HQ.out _)))
      go_wp2_with fail
      go_ret
      exact WriteO.bad HDD.out HB.out rfl (did_of (HO3.out.drewN nq) (H3.out.only0 ((Only.refl [] _).drewN nq)))
    · have HB := Lib.hid (HNO.out (.inr (.inl d2)))
      go_enter Tryz.func106, Tryz.ntmps106
      go_wp2_with (go_at_call 72; refine HNN.out.mono ?_; rintro x w4 ⟨rfl, rfl⟩)
      go_quiet ((go_at_call 55; exact Calls.quiet_of_same (HQ.out _)))
      go_wp2_with fail
      go_ret
      exact WriteO.bad HDD.out HB.out rfl (did_of (HO3.out.drewN nq) (H3.out.only0 ((Only.refl [] _).drewN nq)))
    · have HB := Lib.hid (HNO.out (.inr (.inr d3)))
      go_enter Tryz.func106, Tryz.ntmps106
      go_wp2_with (go_at_call 72; refine HNN.out.mono ?_; rintro x w4 ⟨rfl, rfl⟩)
      go_quiet ((go_at_call 55; exact Calls.quiet_of_same (HQ.out _)))
      go_wp2_with fail
      go_ret
      exact WriteO.bad HDD.out HB.out rfl (did_of (HO3.out.drewN nq) (H3.out.only0 ((Only.refl [] _).drewN nq)))
    · have hb1 : 0 ≤ i ∧ i < (n' : Int) ∧ n = 64 := by
        rw [decide_eq_false_iff_not] at d1 d2
        simp only [bne_eq_false_iff_eq] at d3
        omega
      have HB1 := Lib.hid hb1
      clear hb1
      go_enter Tryz.func106, Tryz.ntmps106
      go_wp2_with (go_at_call 72; refine HNN.out.mono ?_; rintro x w4 ⟨rfl, rfl⟩)
      go_quiet ((go_at_call 55; exact Calls.quiet_of_same (HQ.out _)))
      go_wp2_with fail
      refine (HDN.out (w4.drewN nq) ((Only.refl [] w4).drewN nq) i.toNat HB1.out.2.2 (by have := HB1.out.1; omega) (by simp) HD.out (by have := HB1.out; omega)).mono ?_
      rintro x w5 ⟨rfl, hd5⟩
      have HD5 := Lib.hid (did_after (HO3.out.drewN nq) hd5)
      clear hd5
      go_wp2_with fail
      go_ret
      exact WriteO.ok HDD.out ⟨HB1.out.1, HB1.out.2.1, by rw [HL.out]; exact HB1.out.2.2⟩ rfl HD5.out
end
end Go.Proofs.YthgfmoogagldmaaGreat.Disk
