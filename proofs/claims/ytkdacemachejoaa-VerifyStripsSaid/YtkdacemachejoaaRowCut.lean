/- A row of the call's own, read, stored into, cut, and cleared from somewhere on. -/
import Derived.Test.YtkdacemachejoaaRecs
import Derived.Lib.SliceRun
namespace Go.Proofs.Ytkdacemachejoaa
open Go.RowKit
set_option linter.unusedVariables false
theorem setCells_heap {e : TypeId} (b : Nat) : ∀ (vs : List Value) (o : Nat) (w : World) (cur : Array Value), w.heap[b]? = some (.cells cur e (0, 0)) → o + vs.length ≤ cur.size →
    ∃ cur', (w.setCells b o vs).heap[b]? = some (.cells cur' e (0, 0)) ∧ cur'.size = cur.size ∧ (∀ k, k < o → cur'[k]? = cur[k]?) ∧ Only [b] w (w.setCells b o vs)
  | [], o, w, cur, h, _ => ⟨cur, h, rfl, fun _ _ => rfl, Only.refl _ _⟩
  | v :: r, o, w, cur, h, hl => by
    have h1 : (w.setCell ⟨b, o, none⟩ v).heap[b]? = some (.cells (cur.setIfInBounds o v) e (0, 0)) := Blk.set_ (w := w) (g := b) (t := e) (cs := cur) h o v
    obtain ⟨cur', a1, a2, a3, a4⟩ := setCells_heap b r (o + 1) (w.setCell ⟨b, o, none⟩ v) _ h1 (by simp at hl ⊢; omega)
    refine ⟨cur', a1, by rw [a2]; simp, fun k hk => ?_, ((Only.refl [b] w).setCell (.inl (by simp)) v).trans a4 (fun g hg => .inl hg)⟩
    rw [a3 k (by omega), Array.getElem?_setIfInBounds_ne (by omega)]
theorem zeros_one {z : Value} {n : Nat} (hs : 0 < z.cells.size) (h1 : ∀ u ∈ z.cells.toList, u.oneCell' = true) : ∀ u ∈ (Builtin.zeroCells z.cells n).toList, u.oneCell' = true := by
  intro u hu
  unfold Builtin.zeroCells at hu
  simp only [Array.toList_map, List.mem_map, Array.toList_range, List.mem_range] at hu
  obtain ⟨i, hi, rfl⟩ := hu
  have hm : i % z.cells.size < z.cells.size := Nat.mod_lt _ hs
  rw [getElem!_pos z.cells _ hm]
  exact h1 _ (by simp)
theorem zeros_len (z : Array Value) (n : Nat) : (Builtin.zeroCells z n).toList.length = n * z.size := by
  simp [Builtin.zeroCells]
theorem take_flat {size : Nat} : ∀ {rows : List (List Value)} (i : Nat), (∀ r ∈ rows, r.length = size) → (rows.take i).flatten = rows.flatten.take (i * size)
  | [], i, _ => by simp
  | r :: rows, 0, _ => by simp
  | r :: rows, i + 1, h => by
    have hr := h r (by simp)
    have e : (i + 1) * size = r.length + i * size := by rw [hr, Nat.add_mul]; omega
    rw [List.take_succ_cons, List.flatten_cons, List.flatten_cons, take_flat i (fun x hx => h x (by simp [hx])), e, List.take_length_add_append]
section
variable {P : Program} {w : World}
/-- 'clear(s[i:])' of an own row: what stands ahead stays -/
theorem run_clear_row {t e ty : TypeId} {z : Value} {size : Nat} (ht : P.underlying t = some (.slice e)) (hv : ∀ w, (zeroValue e).run P w = .ok z w) (hz : z.cells.size = size) (hs : 0 < size) (h1 : ∀ u ∈ z.cells.toList, u.oneCell' = true)
    {base g n cap i : Nat} {rows : List (List Value)} (hown : OwnR e size w base (.slice (some ⟨g, 0, none⟩) n cap) n rows) (hi : i < n) (c : Nat) :
    ∃ w', (Builtin.clear_ #[t] ty #[.slice (some ⟨g, i * size, none⟩) (n - i) c]).run P w = .ok (.tuple #[]) w' ∧ OwnR e size w' base (.slice (some ⟨g, 0, none⟩) i cap) i (rows.take i) ∧ Only [g] w w' := by
  obtain ⟨hl, he, hl2, h0⟩ := hown
  rcases h0 with ⟨hbad, _⟩ | ⟨g', cap', cur, hv', hg, hh, hc, hm, hsz, htk⟩
  · cases hbad
  · injection hv' with e1 e2 e3
    injection e1 with e1
    injection e1 with e1
    subst e1
    subst e3
    have hin : i * size + (n - i) * size = n * size := by rw [← Nat.add_mul]; congr 1; omega
    have hcs : n * size ≤ cap * size := Nat.mul_le_mul_right _ hc
    obtain ⟨cur', a1, a2, a3, a4⟩ := setCells_heap g (Builtin.zeroCells z.cells (n - i)).toList (i * size) w cur hh (by rw [zeros_len, hz, hin, hsz]; exact hcs)
    have hst := run_storeCells_cells (P := P) g (i * size) (Builtin.zeroCells z.cells (n - i)).toList 0 w
      (fun j hj => by
        rw [zeros_len, hz] at hj
        have : w.cell? ⟨g, i * size + 0 + j, none⟩ = cur[i * size + 0 + j]? := Blk.cell (w := w) (g := g) (t := e) (cs := cur) hh _
        rw [this, Array.getElem?_eq_getElem (by omega)]; rfl)
      (fun j hj => Blk.frozen (w := w) (g := g) (t := e) (cs := cur) hh _)
      (zeros_one (by omega) h1)
    simp only [Nat.add_zero] at hst
    refine ⟨_, ?_, ⟨by rw [List.length_take]; omega, fun r hr => he r (List.mem_of_mem_take hr), ?_, .inr ⟨g, cap, cur', rfl, hg, a1, by omega, hm, by rw [a2, hsz], ?_⟩⟩, a4⟩
    · obtain ⟨k, hk⟩ : ∃ k, n - i = k + 1 := ⟨n - i - 1, by omega⟩
      rw [hk] at hst ⊢
      simp [Builtin.clear_, run_underlying ht, hv, hst]
    · rw [flatten_len (fun r hr => he r (List.mem_of_mem_take hr)), List.length_take]
      congr 1
      omega
    · have hft : (rows.take i).flatten = rows.flatten.take (i * size) := take_flat i he
      rw [hft, ← htk, List.take_take, Nat.min_eq_left (by omega)]
      apply List.ext_getElem?
      intro k
      rw [List.getElem?_take, List.getElem?_take]
      split
      · rw [Array.getElem?_toList, Array.getElem?_toList, a3 k (by assumption)]
      · rfl
/-- an own row, cut -/
theorem OwnR.cut {e size base g n cap i : Nat} {rows : List (List Value)} (hown : OwnR e size w base (.slice (some ⟨g, 0, none⟩) n cap) n rows) (hi : i ≤ n) : OwnR e size w base (.slice (some ⟨g, 0, none⟩) i cap) i (rows.take i) := by
  obtain ⟨hl, he, hl2, h0⟩ := hown
  rcases h0 with ⟨hbad, _⟩ | ⟨g', cap', cur, hv', hg, hh, hc, hm, hsz, htk⟩
  · cases hbad
  · injection hv' with e1 e2 e3
    injection e1 with e1
    injection e1 with e1
    subst e1
    subst e3
    have hft : (rows.take i).flatten = rows.flatten.take (i * size) := take_flat i he
    have hin : i * size ≤ n * size := Nat.mul_le_mul_right _ hi
    refine ⟨by rw [List.length_take]; omega, fun r hr => he r (List.mem_of_mem_take hr), ?_, .inr ⟨g, cap, cur, rfl, hg, hh, by omega, hm, hsz, ?_⟩⟩
    · rw [flatten_len (fun r hr => he r (List.mem_of_mem_take hr)), List.length_take]
      congr 1
      omega
    · rw [hft, ← htk, List.take_take, Nat.min_eq_left (by omega)]
/-- a row of one element, stored -/
theorem OwnR.put {e size base g n cap : Nat} {rows : List (List Value)} (h : OwnR e size w base (.slice (some ⟨g, 0, none⟩) n cap) n rows) {i : Nat} (hi : i < n) {j : Nat} (hj : j < size) (u : Value) :
    OwnR e size (w.setCell ⟨g, i * size + j, none⟩ u) base (.slice (some ⟨g, 0, none⟩) n cap) n (rows.set i ((rows.getD i []).set j u)) := by
  have hl := h.len
  have fs : ∀ {rows : List (List Value)} (i : Nat), (∀ r ∈ rows, r.length = size) → i < rows.length → (rows.set i ((rows.getD i []).set j u)).flatten = rows.flatten.set (i * size + j) u := by
    intro rows
    induction rows with
    | nil => intro i _ hi; simp at hi
    | cons r rows ih =>
      intro i h hi
      have hr := h r (by simp)
      cases i with
      | zero =>
        simp only [List.set_cons_zero, List.getD_cons_zero, List.flatten_cons, Nat.zero_mul, Nat.zero_add]
        rw [List.set_append_left _ _ (by omega)]
      | succ i =>
        have ih := ih i (fun x hx => h x (by simp [hx])) (by simpa using hi)
        simp only [List.set_cons_succ, List.getD_cons_succ, List.flatten_cons]
        rw [ih, List.set_append_right _ _ (by rw [hr, Nat.add_mul]; omega), hr]
        congr 2
        rw [Nat.add_mul]
        omega
  refine ⟨by rw [List.length_set]; exact h.len, ?_, ?_⟩
  · intro r hr
    rcases List.mem_or_eq_of_mem_set hr with hr | rfl
    · exact h.each r hr
    · rw [List.length_set, List.getD_eq_getElem?_getD, List.getElem?_eq_getElem (by omega)]
      exact h.each _ (List.getElem_mem _)
  · rw [fs i h.each (by omega)]
    exact (h.own.stored (i * size + j) u).1
theorem OwnR.cellOf {e size base g n cap : Nat} {rows : List (List Value)} (h : OwnR e size w base (.slice (some ⟨g, 0, none⟩) n cap) n rows) {i j : Nat} (hi : i < n) (hj : j < size) : w.cell? ⟨g, i * size + j, none⟩ = (rows.getD i [])[j]? := by
  rw [h.own.cellAt (i * size + j) (by have := Nat.mul_le_mul_right size (show i + 1 ≤ n from hi); rw [Nat.add_mul] at this; omega), flatten_get h.each i j hj]
theorem OwnR.frozenOf {e size base g n cap : Nat} {rows : List (List Value)} (h : OwnR e size w base (.slice (some ⟨g, 0, none⟩) n cap) n rows) (q : Nat) : w.frozen? ⟨g, q, none⟩ = false := h.own.frozenAt q
/-- an element of one cell, stored into its row -/
theorem OwnR.put1 {e base g n cap : Nat} {w : World} {rows : List (List Value)} (h : OwnR e 1 w base (.slice (some ⟨g, 0, none⟩) n cap) n rows) {i : Nat} (hi : i < n) (u : Value) :
    OwnR e 1 (w.setCell ⟨g, i, none⟩ u) base (.slice (some ⟨g, 0, none⟩) n cap) n (rows.set i [u]) := by
  have hl := h.len
  have h1 := h.put hi (j := 0) (by decide) u
  have h2 : (rows.getD i []).length = 1 := by
    rw [List.getD_eq_getElem?_getD, List.getElem?_eq_getElem (by omega)]
    exact h.each _ (List.getElem_mem _)
  have h3 : (rows.getD i []).set 0 u = [u] := by
    match hr : rows.getD i [], h2 with
    | [x], _ => rfl
  rw [h3] at h1
  simpa using h1
/-- an element of two cells, stored into its row -/
theorem OwnR.put2 {e base g n cap : Nat} {w : World} {rows : List (List Value)} (h : OwnR e 2 w base (.slice (some ⟨g, 0, none⟩) n cap) n rows) {i : Nat} (hi : i < n) (u v : Value) :
    OwnR e 2 ((w.setCell ⟨g, i * 2, none⟩ u).setCell ⟨g, i * 2 + 1, none⟩ v) base (.slice (some ⟨g, 0, none⟩) n cap) n (rows.set i [u, v]) := by
  have hl := h.len
  have h1 := h.put hi (j := 0) (by decide) u
  have h2 : (rows.getD i []).length = 2 := by
    rw [List.getD_eq_getElem?_getD, List.getElem?_eq_getElem (by omega)]
    exact h.each _ (List.getElem_mem _)
  have h4 := h1.put hi (j := 1) (by decide) v
  have h5 : (rows.set i ((rows.getD i []).set 0 u)).getD i [] = (rows.getD i []).set 0 u := by
    rw [List.getD_eq_getElem?_getD, List.getElem?_set_self (by omega)]
    rfl
  rw [h5, List.set_set] at h4
  have h3 : ((rows.getD i []).set 0 u).set 1 v = [u, v] := by
    match hr : rows.getD i [], h2 with
    | [x, y], _ => rfl
  rw [h3] at h4
  simpa using h4
end
end Go.Proofs.Ytkdacemachejoaa
