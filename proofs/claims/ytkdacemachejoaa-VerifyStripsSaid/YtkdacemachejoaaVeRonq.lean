/- The document's on; its worklist, with no memory in sight. -/
import Derived.Test.YtkdacemachejoaaVePutq
namespace Go.Proofs.Ytkdacemachejoaa.Vm
open Go.RowKit Go.Shelf Go.Maps Object
set_option linter.unusedVariables false
set_option maxRecDepth 100000
/-- numbers that were made just now, to be read -/
def NewL (w w' : World) (y : Ending) (L : List Nat) : Prop := ∃ A c, y = .returned (.slice A L.length c) ∧ Sl w' A L ∧ (∀ g ∈ blkOf A, w.heap.size ≤ g) ∧ Only [] w w'
theorem sl_blk {w : World} {g : Nat} {L : List Nat} (hb : Blk w g 3 (L.map nv).toArray) : Sl w (some ⟨g, 0, none⟩) L :=
  ⟨⟨by simp, fun _ => ⟨_, rfl, hb.lt, fun j u hu => by
    show w.cell? ((Addr.mk g 0 none).add j) = some u
    rw [add_zero_block, hb.cell j, List.getElem?_toArray]
    exact hu⟩⟩, fun g' hg' => by
    have : g' = g := by simpa [blkOf] using hg'
    subst this
    exact ⟨_, hb⟩⟩
theorem sl_nil {w : World} : Sl w none [] := ⟨⟨rfl, fun h => absurd h (by simp)⟩, by simp [blkOf]⟩
set_option maxHeartbeats 4000000 in
theorem ron_any (A : Option Addr) (n cc i : Nat) (cs : List Cd) (c : Cd) (w : World) (hr : Recs w w.heap.size 5 A n (cs.map Cd.row)) (hR : vmRight cs = true) (hc : cs[i]? = some c) :
    Calls Try.prog 52 #[.slice A n cc, .int .i64 (i : Int)] w fun y w' => NewL w w' y (leadsN c i) := by
  have hl : cs.length = n := by have := hr.1; simpa using this
  have hi : i < n := by have := (List.getElem?_eq_some_iff.1 hc).1; omega
  have hlen := (right_len hR).2.1
  have hz := leadsZ_nat hR hc
  obtain ⟨b, off, rfl, hbB, c', _, hc', q0, q1, q2, q3, q4⟩ := cd_at hr i hi
  obtain rfl : c' = c := by rw [hc] at hc'; exact (Option.some.inj hc').symm
  obtain ⟨op, a, bb, c3, z⟩ := c'
  simp only at q0 q1 q2 q3 q4
  obtain ⟨w2, hw2⟩ : ∃ w2, w.alloc (.cells #[.int .i64 0, .int .i64 0, .int .i64 0, .int .i64 0, .int .i64 0] 27) = w2 := ⟨_, rfl⟩
  have bz : Blk w2 w.heap.size 27 #[.int .i64 0, .int .i64 0, .int .i64 0, .int .i64 0, .int .i64 0] := by rw [← hw2]; exact Blk.new w _ _
  have o2 : Only [] w w2 := by rw [← hw2]; exact (Only.refl [] w).alloc _
  have t0 : w2.cell? ⟨w.heap.size, 0, none⟩ = some (.int .i64 0) := bz.cell 0
  have t1 : w2.cell? ⟨w.heap.size, 1, none⟩ = some (.int .i64 0) := bz.cell 1
  have t2 : w2.cell? ⟨w.heap.size, 2, none⟩ = some (.int .i64 0) := bz.cell 2
  have t3 : w2.cell? ⟨w.heap.size, 3, none⟩ = some (.int .i64 0) := bz.cell 3
  have t4 : w2.cell? ⟨w.heap.size, 4, none⟩ = some (.int .i64 0) := bz.cell 4
  have v0 := bz.frozen 0
  have v1 := bz.frozen 1
  have v2 := bz.frozen 2
  have v3 := bz.frozen 3
  have v4 := bz.frozen 4
  obtain ⟨w3, hw3⟩ : ∃ w3, ((((w2.setCell ⟨w.heap.size, 0, none⟩ (.int .i64 op)).setCell ⟨w.heap.size, 1, none⟩ (.int .i64 a)).setCell ⟨w.heap.size, 2, none⟩ (.int .i64 bb)).setCell ⟨w.heap.size, 3, none⟩ (.int .i64 c3)).setCell ⟨w.heap.size, 4, none⟩ (.int .i64 z) = w3 := ⟨_, rfl⟩
  have b3 : Blk w3 w.heap.size 27 #[.int .i64 op, .int .i64 a, .int .i64 bb, .int .i64 c3, .int .i64 z] := by rw [← hw3]; exact ((((bz.set_ 0 _).set_ 1 _).set_ 2 _).set_ 3 _).set_ 4 _
  have o3 : Only [] w w3 := by rw [← hw3]; exact ((((o2.setCell (.inr (Nat.le_refl _)) _).setCell (.inr (Nat.le_refl _)) _).setCell (.inr (Nat.le_refl _)) _).setCell (.inr (Nat.le_refl _)) _).setCell (.inr (Nat.le_refl _)) _
  have y0 : w3.cell? ⟨w.heap.size, 0, none⟩ = some (.int .i64 op) := b3.cell 0
  have y4 : w3.cell? ⟨w.heap.size, 4, none⟩ = some (.int .i64 z) := b3.cell 4
  have hwr : wrap64 ((i : Int) + 1) = (i : Int) + 1 := wrap_le (by omega) (by omega)
  have HZ := Lib.hid hz
  have HO3 := Lib.hid o3
  obtain ⟨LN, hLN⟩ : ∃ L, leadsN ⟨op, a, bb, c3, z⟩ i = L := ⟨_, rfl⟩
  rw [hLN]
  rw [hLN] at HZ
  have HB : Hid (∀ (cells : Array Value), cells = (LN.map nv).toArray → NewL w (w3.alloc (.cells cells 3)) (.returned (.slice (some ⟨w3.heap.size, 0, none⟩) LN.length LN.length)) LN) := Lib.hid (fun cells he => by
    subst he
    exact ⟨_, _, rfl, sl_blk (Blk.new w3 _ _), fun g hg => by
      have : g = w3.heap.size := by simpa [blkOf] using hg
      rw [this]; exact o3.size, o3.alloc _⟩)
  have HL : Hid (∀ l : List Int, leadsZ ⟨op, a, bb, c3, z⟩ i = l → LN.length = l.length ∧ (LN.map nv).toArray = (l.map fun z => Value.int .i64 z).toArray) := Lib.hid (fun l hl => by
    rw [← hl, HZ.out, List.map_map, List.length_map]
    exact ⟨rfl, rfl⟩)
  clear hr hR hc hl hlen hz hbB hc' bz o2 b3 o3 hLN
  have hop : op = 16 ∨ op = 17 ∨ op = 19 ∨ op = 21 ∨ (op ≠ 16 ∧ op ≠ 17 ∧ op ≠ 19 ∧ op ≠ 21) := by omega
  go_enter Try.func52, Try.ntmps52
  rcases hop with rfl | rfl | rfl | rfl | ⟨n1, n2, n3, n4⟩
  · have h := HL.out _ leadsZ_16
    have hres := HB.out #[.int .i64 z] (by rw [h.2]; rfl)
    rw [h.1] at hres
    have HRES := Lib.hid hres
    clear h hres HL HB HZ
    go_wp2_with fail
    go_ret
    exact HRES.out
  · have h := HL.out _ leadsZ_17
    have hres := HB.out #[.int .i64 z, .int .i64 ((i : Int) + 1)] (by rw [h.2]; rfl)
    rw [h.1] at hres
    have HRES := Lib.hid hres
    clear h hres HL HB HZ
    go_wp2_with fail
    go_ret
    exact HRES.out
  · have h := HL.out _ leadsZ_19
    have hn : LN = [] := List.eq_nil_of_length_eq_zero h.1
    subst hn
    have HRES : Hid (NewL w w3 (.returned (.slice none 0 0)) []) := Lib.hid ⟨none, 0, rfl, sl_nil, by simp [blkOf], HO3.out⟩
    clear h HL HB HZ
    go_wp2_with fail
    go_ret
    exact HRES.out
  · have h := HL.out _ leadsZ_21
    have hn : LN = [] := List.eq_nil_of_length_eq_zero h.1
    subst hn
    have HRES : Hid (NewL w w3 (.returned (.slice none 0 0)) []) := Lib.hid ⟨none, 0, rfl, sl_nil, by simp [blkOf], HO3.out⟩
    clear h HL HB HZ
    go_wp2_with fail
    go_ret
    exact HRES.out
  · have e1 : (op == 16) = false := by simpa using n1
    have e2 : (op == 17) = false := by simpa using n2
    have e3 : (op == 19) = false := by simpa using n3
    have e4 : (op == 21) = false := by simpa using n4
    have h := HL.out _ (leadsZ_on n1 n2 n3 n4)
    have hres := HB.out #[.int .i64 ((i : Int) + 1)] (by rw [h.2]; rfl)
    rw [h.1] at hres
    have HRES := Lib.hid hres
    clear h hres HL HB HZ
    go_wp2_with fail
    go_ret
    exact HRES.out
/-- the document's worklist: all that ever came, and how many of them are done -/
structure QI (cs : List Cd) (f : Nat) (W : List Nat) (k : Nat) : Prop where
  nd : W.Nodup
  seen : ∀ j ∈ W, Rp cs f j
  start : f ∈ W
  closed : ∀ j, j < k → ∀ i, W[j]? = some i → ∀ t, Lead cs i t → t ∈ W
section
variable {cs : List Cd} {f k t i : Nat} {W : List Nat}
theorem qi_start : QI cs f [f] 0 := ⟨by simp, fun j hj => by rw [List.mem_singleton.1 hj]; exact .zero, by simp, fun j hj => absurd hj (by omega)⟩
theorem qi_put (h : QI cs f W k) (hk : k ≤ W.length) (ht : Rp cs f t) (hn : t ∉ W) : QI cs f (W ++ [t]) k := by
  refine ⟨?_, fun j hj => ?_, by simp [h.start], fun j hj i hi u hu => ?_⟩
  · rw [List.nodup_append]
    exact ⟨h.nd, by simp, fun a ha b hb e => hn (by rw [List.mem_singleton.1 hb] at e; exact e ▸ ha)⟩
  · rcases List.mem_append.1 hj with hj | hj
    · exact h.seen j hj
    · rw [List.mem_singleton.1 hj]; exact ht
  · rw [List.getElem?_append_left (by omega)] at hi
    exact List.mem_append_left _ (h.closed j hj i hi u hu)
theorem qi_next (h : QI cs f W k) (hi : W[k]? = some i) (hl : ∀ u, Lead cs i u → u ∈ W) : QI cs f W (k + 1) := by
  refine ⟨h.nd, h.seen, h.start, fun j hj i' hi' u hu => ?_⟩
  by_cases e : j = k
  · subst e
    rw [hi] at hi'
    obtain rfl := Option.some.inj hi'
    exact hl u hu
  · exact h.closed j (by omega) i' hi' u hu
theorem qi_done (h : QI cs f W k) (hk : k = W.length) (j : Nat) : j ∈ W ↔ Rp cs f j := by
  constructor
  · exact h.seen j
  · intro hj
    induction hj with
    | zero => exact h.start
    | on _ hl ih =>
      obtain ⟨m, hm⟩ := List.getElem?_of_mem ih
      have := (List.getElem?_eq_some_iff.1 hm).1
      exact h.closed m (by omega) _ hm _ hl
theorem qi_len (hR : vmRight cs = true) (hf : f < cs.length) (h : QI cs f W k) : W.length ≤ cs.length := nodup_bound h.nd (fun j hj => rp_lt hR hf (h.seen j hj))
end
end Go.Proofs.Ytkdacemachejoaa.Vm
