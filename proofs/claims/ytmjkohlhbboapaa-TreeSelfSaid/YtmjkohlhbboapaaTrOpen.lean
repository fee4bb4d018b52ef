/- Trees as they come in. -/
import Derived.Test.YtmjkohlhbboapaaTrLaw
import Derived.Test.YtmjkohlhbboapaaOpen
namespace Go.Proofs.Ytmjkohlhbboapaa.Tree
open Go.RowKit Go.Shelf Go.ChangeShapes Go.WideShapes Go.Deep
set_option linter.unusedVariables false
set_option maxRecDepth 100000
section
variable {H : Type} {enc : TypeId × Value → H} {P : Program} {w : World} {base : Nat} {spare : Nat → Bool} {held : Bool}
theorem cells_fun {cs cs' : List Value} {n : Nat} (h1 : cs.length = n) (h2 : cs'.length = n) (h : ∀ j, j < n → cs[j]? = cs'[j]?) : cs = cs' := by
  refine List.ext_getElem? fun j => ?_
  rcases Nat.lt_or_ge j n with hj | hj
  · exact h j hj
  · rw [List.getElem?_eq_none (by omega), List.getElem?_eq_none (by omega)]
/-- a slice that came in, whose elements are known with less fuel -/
theorem open_list {α : Type} (row : α → List Value) (rd : α → Prop) {t e : TypeId} {fuel size : Nat} {v : Value} {x : DataW H × List MemPlace} (ht : P.underlying t = some (.slice e)) (hC : P.cellsOf e = size) (hs : 0 < size)
    (h : DataW.trod enc P w base spare held fuel t [v] = some x)
    (hel : ∀ k, fuel = k + 1 → ∀ cs y, cs.length = size → DataW.trod enc P w base spare held k e cs = some y → ∃ a, rd a ∧ row a = cs) :
    ∃ A c l, v = .slice A (List.length l) c ∧ l.length ≤ maxLen ∧ Recs w w.heap.size size A l.length (l.map row) ∧ ∀ a ∈ l, rd a := by
  rcases DataW.trod_slice ht h with ⟨hcs, _⟩ | ⟨a, len, cap, elems, rest, n, hn, hcs, _, _, hl, hm, hlen, hi, _⟩
  · injection hcs with hcs
    exact ⟨none, 0, [], by rw [hcs]; rfl, by simp [maxLen], Recs.nil_, by simp⟩
  · injection hcs with hcs
    rw [hC] at hi
    obtain ⟨l, hll, hp⟩ := choose_list len (fun i b => rd b ∧ (row b).length = size ∧ ∀ j, j < size → w.cell? (a.add (i * size + j)) = (row b)[j]?) (fun i hil => by
      have h1 := hi i hil
      rw [List.getElem?_eq_getElem (by omega)] at h1
      obtain ⟨cs, hc, ht'⟩ := Option.bind_eq_some_iff.1 h1
      obtain ⟨_, hcl, hat⟩ := World.cells?_some hc
      obtain ⟨b, hb, rfl⟩ := hel n hn cs _ hcl ht'
      refine ⟨b, hb, hcl, fun j hj => ?_⟩
      rw [← Go.Deep.add_add]
      exact hat j hj)
    have hget : ∀ i, i < len → ∃ b, l[i]? = some b := fun i hi => ⟨l[i]'(by omega), List.getElem?_eq_getElem _⟩
    refine ⟨some a, cap, l, by rw [hcs, hll], by omega, ?_, fun b hb => ?_⟩
    · rw [hll]
      refine recs_of hs (by rw [List.length_map, hll]) (fun i hi j hj => ?_)
      obtain ⟨b, hb⟩ := hget i hi
      obtain ⟨_, h2, h3⟩ := hp i b hb
      rw [List.getD_eq_getElem?_getD, List.getElem?_map, hb]
      refine ⟨h3 j hj, ?_⟩
      show ((row b)[j]?).isSome = true
      rw [List.getElem?_eq_getElem (by omega)]
      rfl
    · obtain ⟨i, hi, rfl⟩ := List.getElem_of_mem hb
      exact (hp i _ (List.getElem?_eq_getElem hi)).1
end
theorem kX : Try.prog.cellsOf 28 = 5 := by kernel_rfl
theorem kS : Try.prog.cellsOf 31 = 9 := by kernel_rfl
theorem kP : Try.prog.cellsOf 43 = 2 := by kernel_rfl
theorem kF : Try.prog.cellsOf 35 = 4 := by kernel_rfl
theorem kD : Try.prog.cellsOf 25 = 3 := by kernel_rfl
theorem k_int : Try.prog.cellsOf 3 = 1 := by kernel_rfl
theorem k_i64 : Try.prog.cellsOf 2 = 1 := by kernel_rfl
theorem k_str : Try.prog.cellsOf 9 = 1 := by kernel_rfl
theorem k_typ : Try.prog.cellsOf 33 = 1 := by kernel_rfl
theorem k_sx : Try.prog.cellsOf 26 = 1 := by kernel_rfl
theorem k_ss : Try.prog.cellsOf 29 = 1 := by kernel_rfl
theorem k_sp : Try.prog.cellsOf 32 = 1 := by kernel_rfl
theorem k_sf : Try.prog.cellsOf 23 = 1 := by kernel_rfl
theorem k_st : Try.prog.cellsOf 22 = 1 := by kernel_rfl
section
variable {H : Type} {enc : TypeId × Value → H} {w : World} {base : Nat} {spare : Nat → Bool} {held : Bool}
theorem x_open : ∀ (n : Nat) (cs : List Value) (y : DataW H × List MemPlace), DataW.trod enc Try.prog w base spare held n 28 cs = some y → ∃ x : XT, XT.In w w.heap.size n x ∧ x.row = cs := by
  intro n
  induction n using Nat.strongRecOn with
  | _ n ih =>
  intro cs y h
  obtain ⟨xs, m, rfl, _, hl, hlen, hf⟩ := DataW.trod_struct Try.underlying28 h
  rw [kX] at hl
  have hx : xs.length = 5 := hlen
  match cs, hl with
  | [c0, c1, c2, c3, c4], _ =>
    have g0 : ∃ z, DataW.trod enc Try.prog w base spare held m 3 [c0] = some z := by
      have h0 : DataW.trod enc Try.prog w base spare held m 3 (List.take (Try.prog.cellsOf 3) (List.drop 0 [c0, c1, c2, c3, c4])) = xs[0]? := hf 0 _ rfl
      rw [k_int] at h0
      exact ⟨_, h0.trans (List.getElem?_eq_getElem (by omega))⟩
    obtain ⟨z0, g0⟩ := g0
    have g1 : ∃ z, DataW.trod enc Try.prog w base spare held m 2 [c1] = some z := by
      have h0 : DataW.trod enc Try.prog w base spare held m 2 (List.take (Try.prog.cellsOf 2) (List.drop 1 [c0, c1, c2, c3, c4])) = xs[1]? := hf 1 _ rfl
      rw [k_i64] at h0
      exact ⟨_, h0.trans (List.getElem?_eq_getElem (by omega))⟩
    obtain ⟨z1, g1⟩ := g1
    have g2 : ∃ z, DataW.trod enc Try.prog w base spare held m 9 [c2] = some z := by
      have h0 : DataW.trod enc Try.prog w base spare held m 9 (List.take (Try.prog.cellsOf 9) (List.drop 2 [c0, c1, c2, c3, c4])) = xs[2]? := hf 2 _ rfl
      rw [k_str] at h0
      exact ⟨_, h0.trans (List.getElem?_eq_getElem (by omega))⟩
    obtain ⟨z2, g2⟩ := g2
    have g3 : ∃ z, DataW.trod enc Try.prog w base spare held m 9 [c3] = some z := by
      have h0 : DataW.trod enc Try.prog w base spare held m 9 (List.take (Try.prog.cellsOf 9) (List.drop 3 [c0, c1, c2, c3, c4])) = xs[3]? := hf 3 _ rfl
      rw [k_str] at h0
      exact ⟨_, h0.trans (List.getElem?_eq_getElem (by omega))⟩
    obtain ⟨z3, g3⟩ := g3
    have g4 : ∃ z, DataW.trod enc Try.prog w base spare held m 26 [c4] = some z := by
      have h0 : DataW.trod enc Try.prog w base spare held m 26 (List.take (Try.prog.cellsOf 26) (List.drop 4 [c0, c1, c2, c3, c4])) = xs[4]? := hf 4 _ rfl
      rw [k_sx] at h0
      exact ⟨_, h0.trans (List.getElem?_eq_getElem (by omega))⟩
    obtain ⟨z4, g4⟩ := g4
    obtain ⟨op, rfl, _⟩ := trod1_int Try.underlying3 g0
    obtain ⟨nn, rfl, _⟩ := trod1_int Try.underlying2 g1
    obtain ⟨s, rfl, _⟩ := trod1_string Try.underlying9 g2
    obtain ⟨q, rfl, _⟩ := trod1_string Try.underlying9 g3
    obtain ⟨A, c, l, rfl, hm, hr, hin⟩ := open_list XT.row (fun x => XT.In w w.heap.size m x) Try.underlying26 kX (by decide) g4 (fun k hk cs y hcl h => by
      obtain ⟨x, h1, h2⟩ := ih k (by omega) cs y h
      exact ⟨x, h1.mono (by omega), h2⟩)
    exact ⟨.mk op nn s q A c l, ⟨hr, hm, hin⟩, rfl⟩
theorem s_open : ∀ (n : Nat) (cs : List Value) (y : DataW H × List MemPlace), DataW.trod enc Try.prog w base spare held n 31 cs = some y → ∃ x : ST, ST.In w w.heap.size n x ∧ x.row = cs := by
  intro n
  induction n using Nat.strongRecOn with
  | _ n ih =>
  intro cs y h
  obtain ⟨xs, m, rfl, _, hl, hlen, hf⟩ := DataW.trod_struct Try.underlying31 h
  rw [kS] at hl
  have hx : xs.length = 5 := hlen
  match cs, hl with
  | [c0, c1, c2, c3, c4, c5, c6, c7, c8], _ =>
    have g0 : ∃ z, DataW.trod enc Try.prog w base spare held m 3 [c0] = some z := by
      have h0 : DataW.trod enc Try.prog w base spare held m 3 (List.take (Try.prog.cellsOf 3) (List.drop 0 [c0, c1, c2, c3, c4, c5, c6, c7, c8])) = xs[0]? := hf 0 _ rfl
      rw [k_int] at h0
      exact ⟨_, h0.trans (List.getElem?_eq_getElem (by omega))⟩
    obtain ⟨z0, g0⟩ := g0
    have g1 : ∃ z, DataW.trod enc Try.prog w base spare held m 9 [c1] = some z := by
      have h0 : DataW.trod enc Try.prog w base spare held m 9 (List.take (Try.prog.cellsOf 9) (List.drop 1 [c0, c1, c2, c3, c4, c5, c6, c7, c8])) = xs[1]? := hf 1 _ rfl
      rw [k_str] at h0
      exact ⟨_, h0.trans (List.getElem?_eq_getElem (by omega))⟩
    obtain ⟨z1, g1⟩ := g1
    have g2 : ∃ z, DataW.trod enc Try.prog w base spare held m 28 [c2, c3, c4, c5, c6] = some z := by
      have h0 : DataW.trod enc Try.prog w base spare held m 28 (List.take (Try.prog.cellsOf 28) (List.drop 2 [c0, c1, c2, c3, c4, c5, c6, c7, c8])) = xs[2]? := hf 2 _ rfl
      rw [kX] at h0
      exact ⟨_, h0.trans (List.getElem?_eq_getElem (by omega))⟩
    obtain ⟨z2, g2⟩ := g2
    have g3 : ∃ z, DataW.trod enc Try.prog w base spare held m 29 [c7] = some z := by
      have h0 : DataW.trod enc Try.prog w base spare held m 29 (List.take (Try.prog.cellsOf 29) (List.drop 7 [c0, c1, c2, c3, c4, c5, c6, c7, c8])) = xs[3]? := hf 3 _ rfl
      rw [k_ss] at h0
      exact ⟨_, h0.trans (List.getElem?_eq_getElem (by omega))⟩
    obtain ⟨z3, g3⟩ := g3
    have g4 : ∃ z, DataW.trod enc Try.prog w base spare held m 29 [c8] = some z := by
      have h0 : DataW.trod enc Try.prog w base spare held m 29 (List.take (Try.prog.cellsOf 29) (List.drop 8 [c0, c1, c2, c3, c4, c5, c6, c7, c8])) = xs[4]? := hf 4 _ rfl
      rw [k_ss] at h0
      exact ⟨_, h0.trans (List.getElem?_eq_getElem (by omega))⟩
    obtain ⟨z4, g4⟩ := g4
    obtain ⟨op, rfl, _⟩ := trod1_int Try.underlying3 g0
    obtain ⟨s, rfl, _⟩ := trod1_string Try.underlying9 g1
    obtain ⟨e, he, hrow⟩ := x_open m _ _ g2
    obtain ⟨A, c, l, rfl, hm, hr, hin⟩ := open_list ST.row (fun x => ST.In w w.heap.size m x) Try.underlying29 kS (by decide) g3 (fun k hk cs y hcl h => by
      obtain ⟨x, h1, h2⟩ := ih k (by omega) cs y h
      exact ⟨x, h1.mono (by omega), h2⟩)
    obtain ⟨A', c', l', rfl, hm', hr', hin'⟩ := open_list ST.row (fun x => ST.In w w.heap.size m x) Try.underlying29 kS (by decide) g4 (fun k hk cs y hcl h => by
      obtain ⟨x, h1, h2⟩ := ih k (by omega) cs y h
      exact ⟨x, h1.mono (by omega), h2⟩)
    simp only [XT.row, List.cons.injEq, and_true] at hrow
    obtain ⟨rfl, rfl, rfl, rfl, rfl⟩ := hrow
    exact ⟨.mk op s e A c l A' c' l', ⟨he.mono (by omega), ⟨hr, hm⟩, ⟨hr', hm'⟩, hin, hin'⟩, rfl⟩
theorem p_open (n : Nat) (cs : List Value) (y : DataW H × List MemPlace) (h : DataW.trod enc Try.prog w base spare held n 43 cs = some y) : ∃ x : PT, True ∧ x.row = cs := by
  obtain ⟨xs, m, rfl, _, hl, hlen, hf⟩ := DataW.trod_struct Try.underlying43 h
  rw [kP] at hl
  have hx : xs.length = 2 := hlen
  match cs, hl with
  | [c0, c1], _ =>
    have g0 : ∃ z, DataW.trod enc Try.prog w base spare held m 9 [c0] = some z := by
      have h0 : DataW.trod enc Try.prog w base spare held m 9 (List.take (Try.prog.cellsOf 9) (List.drop 0 [c0, c1])) = xs[0]? := hf 0 _ rfl
      rw [k_str] at h0
      exact ⟨_, h0.trans (List.getElem?_eq_getElem (by omega))⟩
    obtain ⟨z0, g0⟩ := g0
    have g1 : ∃ z, DataW.trod enc Try.prog w base spare held m 33 [c1] = some z := by
      have h0 : DataW.trod enc Try.prog w base spare held m 33 (List.take (Try.prog.cellsOf 33) (List.drop 1 [c0, c1])) = xs[1]? := hf 1 _ rfl
      rw [k_typ] at h0
      exact ⟨_, h0.trans (List.getElem?_eq_getElem (by omega))⟩
    obtain ⟨z1, g1⟩ := g1
    obtain ⟨s, rfl, _⟩ := trod1_string Try.underlying9 g0
    obtain ⟨t, rfl, _⟩ := trod1_int Try.underlying33 g1
    exact ⟨⟨s, t⟩, trivial, rfl⟩
theorem f_open (n : Nat) (cs : List Value) (y : DataW H × List MemPlace) (h : DataW.trod enc Try.prog w base spare held n 35 cs = some y) : ∃ x : FT, FT.In w w.heap.size n x ∧ x.row = cs := by
  obtain ⟨xs, m, rfl, _, hl, hlen, hf⟩ := DataW.trod_struct Try.underlying35 h
  rw [kF] at hl
  have hx : xs.length = 4 := hlen
  match cs, hl with
  | [c0, c1, c2, c3], _ =>
    have g0 : ∃ z, DataW.trod enc Try.prog w base spare held m 9 [c0] = some z := by
      have h0 : DataW.trod enc Try.prog w base spare held m 9 (List.take (Try.prog.cellsOf 9) (List.drop 0 [c0, c1, c2, c3])) = xs[0]? := hf 0 _ rfl
      rw [k_str] at h0
      exact ⟨_, h0.trans (List.getElem?_eq_getElem (by omega))⟩
    obtain ⟨z0, g0⟩ := g0
    have g1 : ∃ z, DataW.trod enc Try.prog w base spare held m 32 [c1] = some z := by
      have h0 : DataW.trod enc Try.prog w base spare held m 32 (List.take (Try.prog.cellsOf 32) (List.drop 1 [c0, c1, c2, c3])) = xs[1]? := hf 1 _ rfl
      rw [k_sp] at h0
      exact ⟨_, h0.trans (List.getElem?_eq_getElem (by omega))⟩
    obtain ⟨z1, g1⟩ := g1
    have g2 : ∃ z, DataW.trod enc Try.prog w base spare held m 33 [c2] = some z := by
      have h0 : DataW.trod enc Try.prog w base spare held m 33 (List.take (Try.prog.cellsOf 33) (List.drop 2 [c0, c1, c2, c3])) = xs[2]? := hf 2 _ rfl
      rw [k_typ] at h0
      exact ⟨_, h0.trans (List.getElem?_eq_getElem (by omega))⟩
    obtain ⟨z2, g2⟩ := g2
    have g3 : ∃ z, DataW.trod enc Try.prog w base spare held m 29 [c3] = some z := by
      have h0 : DataW.trod enc Try.prog w base spare held m 29 (List.take (Try.prog.cellsOf 29) (List.drop 3 [c0, c1, c2, c3])) = xs[3]? := hf 3 _ rfl
      rw [k_ss] at h0
      exact ⟨_, h0.trans (List.getElem?_eq_getElem (by omega))⟩
    obtain ⟨z3, g3⟩ := g3
    obtain ⟨s, rfl, _⟩ := trod1_string Try.underlying9 g0
    obtain ⟨A, c, l, rfl, hm, hr, _⟩ := open_list PT.row (fun x => True) Try.underlying32 kP (by decide) g1 (fun k hk cs y hcl h => p_open k cs y h)
    obtain ⟨t, rfl, _⟩ := trod1_int Try.underlying33 g2
    obtain ⟨A', c', l', rfl, hm', hr', hin'⟩ := open_list ST.row (fun x => ST.In w w.heap.size (m + 1) x) Try.underlying29 kS (by decide) g3 (fun k hk cs y hcl h => by
      obtain ⟨x, h1, h2⟩ := s_open k cs y h
      exact ⟨x, h1.mono (by omega), h2⟩)
    exact ⟨⟨s, A, c, l, t, A', c', l'⟩, ⟨⟨hr, hm⟩, ⟨hr', hm'⟩, hin'⟩, rfl⟩
theorem d_open (n : Nat) (cs : List Value) (y : DataW H × List MemPlace) (h : DataW.trod enc Try.prog w base spare held n 25 cs = some y) : ∃ x : DT, DT.In w w.heap.size n x ∧ x.row = cs := by
  obtain ⟨xs, m, rfl, _, hl, hlen, hf⟩ := DataW.trod_struct Try.underlying25 h
  rw [kD] at hl
  have hx : xs.length = 3 := hlen
  match cs, hl with
  | [c0, c1, c2], _ =>
    have g0 : ∃ z, DataW.trod enc Try.prog w base spare held m 9 [c0] = some z := by
      have h0 : DataW.trod enc Try.prog w base spare held m 9 (List.take (Try.prog.cellsOf 9) (List.drop 0 [c0, c1, c2])) = xs[0]? := hf 0 _ rfl
      rw [k_str] at h0
      exact ⟨_, h0.trans (List.getElem?_eq_getElem (by omega))⟩
    obtain ⟨z0, g0⟩ := g0
    have g1 : ∃ z, DataW.trod enc Try.prog w base spare held m 22 [c1] = some z := by
      have h0 : DataW.trod enc Try.prog w base spare held m 22 (List.take (Try.prog.cellsOf 22) (List.drop 1 [c0, c1, c2])) = xs[1]? := hf 1 _ rfl
      rw [k_st] at h0
      exact ⟨_, h0.trans (List.getElem?_eq_getElem (by omega))⟩
    obtain ⟨z1, g1⟩ := g1
    have g2 : ∃ z, DataW.trod enc Try.prog w base spare held m 23 [c2] = some z := by
      have h0 : DataW.trod enc Try.prog w base spare held m 23 (List.take (Try.prog.cellsOf 23) (List.drop 2 [c0, c1, c2])) = xs[2]? := hf 2 _ rfl
      rw [k_sf] at h0
      exact ⟨_, h0.trans (List.getElem?_eq_getElem (by omega))⟩
    obtain ⟨z2, g2⟩ := g2
    obtain ⟨s, rfl, _⟩ := trod1_string Try.underlying9 g0
    obtain ⟨A, c, l, rfl, hm, hr, _⟩ := open_list srow (fun x => True) Try.underlying22 k_str (by decide) g1 (fun k hk cs y hcl h => by
      match cs, hcl with
      | [v], _ =>
        obtain ⟨s, rfl, _⟩ := trod1_string Try.underlying9 h
        exact ⟨s, trivial, rfl⟩)
    obtain ⟨A', c', l', rfl, hm', hr', hin'⟩ := open_list FT.row (fun x => FT.In w w.heap.size (m + 1) x) Try.underlying23 kF (by decide) g2 (fun k hk cs y hcl h => by
      obtain ⟨x, h1, h2⟩ := f_open k cs y h
      exact ⟨x, h1.mono (by omega), h2⟩)
    exact ⟨⟨s, A, c, l, A', c', l'⟩, ⟨⟨hr, hm⟩, ⟨hr', hm'⟩, hin'⟩, rfl⟩
theorem top_x {r : Reach} {b0 : Nat} {v : Value} {d : DataW H} {p : List MemPlace} (hv : Value.okWide Try.prog w r b0 28 v) (h : DataW.Trod enc Try.prog w base spare held 28 v d p) : ∃ n x, XT.In w w.heap.size n x ∧ v = x.val := by
  obtain ⟨cs, rfl, hsz⟩ := okWide_struct Try.underlying28 hv
  obtain ⟨fuel, hf⟩ := h
  obtain ⟨x, hx, hrow⟩ := x_open fuel _ _ hf
  exact ⟨fuel, x, hx, by rw [show cs = x.row.toArray from (by rw [hrow]; rfl)]; rfl⟩
theorem top_d {r : Reach} {b0 : Nat} {v : Value} {d : DataW H} {p : List MemPlace} (hv : Value.okWide Try.prog w r b0 25 v) (h : DataW.Trod enc Try.prog w base spare held 25 v d p) : ∃ n x, DT.In w w.heap.size n x ∧ v = x.val := by
  obtain ⟨cs, rfl, hsz⟩ := okWide_struct Try.underlying25 hv
  obtain ⟨fuel, hf⟩ := h
  obtain ⟨x, hx, hrow⟩ := d_open fuel _ _ hf
  exact ⟨fuel, x, hx, by rw [show cs = x.row.toArray from (by rw [hrow]; rfl)]; rfl⟩
theorem self_law {a : DT} {e : XT} {n m : Nat} {W : World} (ha : DT.In W W.heap.size n a) (he : XT.In W W.heap.size m e) :
    Calls Try.prog 3 #[a.val, e.val] W fun y W' => y = .returned (.bool true) ∧ Below W.heap.size W W' :=
  (law_any (n + m) a e W (ha.mono (by omega)) (he.mono (by omega))).mono fun y W' ⟨h1, h2⟩ => ⟨h1, h2.below0⟩
end
end Go.Proofs.Ytmjkohlhbboapaa.Tree
