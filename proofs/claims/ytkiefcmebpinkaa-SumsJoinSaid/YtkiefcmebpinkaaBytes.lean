/- Rows of bytes that a call owns: append, read, store, over this program. -/
import Derived.Test.YtkiefcmebpinkaaChecked
import Derived.Test.YtkiefcmebpinkaaAppend
import Derived.Deep.DeepMust
namespace Go.Proofs.Ytkiefcmebpinkaa
open Go.RowKit

theorem byte_info : (Try.prog.info? 5).map (fun i => (i.zero, i.size, i.bytes)) = some (some (.int .u8 0), 1, 1) := by kernel_rfl
/-- v is a slice of n bytes l, in a row of the call's own (from block 'base' on), or nil -/
def OwnB (w : World) (base : Nat) (v : Value) (n : Nat) (l : List UInt8) : Prop := w.ownsRow base 5 1 v n (l.map B8)
theorem B8_all (l : List UInt8) : ∀ u ∈ l.map B8, u.oneCell' = true := by intro u hu; obtain ⟨c, _, rfl⟩ := List.mem_map.1 hu; rfl

section
variable {w w' : World} {base n : Nat} {v : Value} {l : List UInt8}
theorem OwnB.len (h : OwnB w base v n l) : l.length = n := by have := h.1; simpa using this
theorem OwnB.nil_ (w : World) (base : Nat) : OwnB w base (.slice none 0 0) 0 [] := World.ownsRow_nil _ _ _ _
theorem OwnB.empty (w : World) (base : Nat) (h : base ≤ w.heap.size) : OwnB (w.alloc (.cells #[] 5)) base (.slice (some ⟨w.heap.size, 0, none⟩) 0 0) 0 [] :=
  World.ownsRow_lit w #[] 0 h (by simp) rfl
theorem OwnB.form (h : OwnB w base v n l) (hn : 0 < n) : ∃ g cap, v = .slice (some ⟨g, 0, none⟩) n cap ∧ base ≤ g ∧ g < w.heap.size ∧ n ≤ cap ∧ cap ≤ maxLen := by
  obtain ⟨_, h⟩ := h
  rcases h with ⟨_, h0⟩ | ⟨g, cap, cur, hv, hg, hh, hc, hm, _⟩
  · omega
  · refine ⟨g, cap, hv, hg, ?_, hc, hm⟩
    rcases Nat.lt_or_ge g w.heap.size with hlt | hge
    · exact hlt
    · rw [Array.getElem?_eq_none hge] at hh; cases hh
/-- its shape: a slice of length n -/
theorem OwnB.shape (h : OwnB w base v n l) : ∃ A cap, v = .slice A n cap ∧ n ≤ cap ∧ cap ≤ maxLen ∧ Bytes w w.heap.size A n l ∧ ((A = none ∧ cap = 0) ∨ ∃ g, A = some ⟨g, 0, none⟩ ∧ base ≤ g ∧ g < w.heap.size) := by
  obtain ⟨hl, h0⟩ := h
  rcases h0 with ⟨rfl, rfl⟩ | ⟨g, cap, cur, rfl, hg, hh, hc, hm, hz, ht⟩
  · exact ⟨none, 0, rfl, Nat.le_refl _, by simp [maxLen], ⟨by simpa using hl, Reads.of_own (base := base) (e := 5) (c := 0) ⟨hl, .inl ⟨rfl, rfl⟩⟩⟩, .inl ⟨rfl, rfl⟩⟩
  · refine ⟨_, cap, rfl, hc, hm, ⟨by simpa using hl, Reads.of_own (base := base) (e := 5) (c := cap) ⟨hl, .inr ⟨g, cap, cur, rfl, hg, hh, hc, hm, hz, ht⟩⟩⟩, .inr ⟨g, rfl, hg, ?_⟩⟩
    rcases Nat.lt_or_ge g w.heap.size with hlt | hge
    · exact hlt
    · rw [Array.getElem?_eq_none hge] at hh; cases hh
theorem OwnB.cell {g cap k : Nat} (h : OwnB w base (.slice (some ⟨g, 0, none⟩) n cap) n l) (hk : k < n) : w.cell? ⟨g, k, none⟩ = some (.int .u8 ((l.getD k 0).toNat : Int)) := by
  have hl := h.len
  have e := World.ownsRow.cellAt h k (by omega)
  rw [e, List.getElem?_map, List.getElem?_eq_getElem (by omega), List.getD_eq_getElem?_getD, List.getElem?_eq_getElem (by omega)]
  rfl
theorem map_set_B8 (l : List UInt8) (k : Nat) (c : UInt8) : (l.set k c).map B8 = (l.map B8).set k (B8 c) := by
  apply List.ext_getElem?
  intro i
  simp only [List.getElem?_map, List.getElem?_set, List.length_map]
  split <;> (try split) <;> simp_all
theorem OwnB.stored {g cap k : Nat} (h : OwnB w base (.slice (some ⟨g, 0, none⟩) n cap) n l) (c : UInt8) : OwnB (w.setCell ⟨g, k, none⟩ (B8 c)) base (.slice (some ⟨g, 0, none⟩) n cap) n (l.set k c) := by
  unfold OwnB
  rw [map_set_B8]
  exact (World.ownsRow.stored h k (B8 c)).1
theorem OwnB.frozen {g cap : Nat} (h : OwnB w base (.slice (some ⟨g, 0, none⟩) n cap) n l) (k : Nat) : w.frozen? ⟨g, k, none⟩ = false := World.ownsRow.frozenAt h k
theorem OwnB.reads {A : Option Addr} {cap : Nat} (h : OwnB w base (.slice A n cap) n l) : Bytes w w.heap.size A n l := Bytes.of_own h
theorem OwnB.alloc (h : OwnB w base v n l) (o : Obj) : OwnB (w.alloc o) base v n l := World.ownsRow.alloc h o
theorem OwnB.drew (h : OwnB w base v n l) : OwnB w.drew base v n l := h
theorem OwnB.drewN (h : OwnB w base v n l) (k : Nat) : OwnB (w.drewN k) base v n l := h
theorem OwnB.grown {row : Option Nat} (h : OwnB w base v n l) (hg : w.grownBy w' row) (hne : v.ownBlock = none ∨ v.ownBlock ≠ row) : OwnB w' base v n l := World.ownsRow.kept h hg hne
theorem OwnB.below (h : OwnB w base v n l) (hb : Below w.heap.size w w') : OwnB w' base v n l := by
  obtain ⟨hl, h0⟩ := h
  refine ⟨hl, ?_⟩
  rcases h0 with h0 | ⟨g, cap, cur, hv, hg, hh, r⟩
  · exact .inl h0
  · refine .inr ⟨g, cap, cur, hv, hg, ?_, r⟩
    have hlt : g < w.heap.size := by
      rcases Nat.lt_or_ge g w.heap.size with hlt | hge
      · exact hlt
      · rw [Array.getElem?_eq_none hge] at hh; cases hh
    rw [hb.block g hlt]; exact hh
theorem OwnB.setBelow (h : OwnB w base v n l) {a : Addr} (ha : a.block < base) (u : Value) : OwnB (w.setCell a u) base v n l := ownsRow_setCell_below h ha u
theorem OwnB.mono {base' : Nat} (h : OwnB w base v n l) (hB : base' ≤ base) : OwnB w base' v n l := by
  obtain ⟨hl, h0⟩ := h
  refine ⟨hl, ?_⟩
  rcases h0 with h0 | ⟨g, cap, cur, hv, hg, r⟩
  · exact .inl h0
  · exact .inr ⟨g, cap, cur, hv, by omega, r⟩
end

theorem wpList_append_bytes {w : World} {ops : Array Oper} {rest : List Oper} {o : Oper} {a : Act} {Q : Exit → Act → World → Prop} (hgd : o.guard = none) (s x : Operand)
    (ho : o.op = .call { callee := .builtin .append, args := #[s, x], argTypes := #[22, 22] })
    (base : Nat) (v : Value) (n : Nat) (l : List UInt8) (hs : a.eval s = v) (hown : OwnB w base v n l)
    (B : Nat) (A : Option Addr) (m c : Nat) (l' : List UInt8) (hx : a.eval x = .slice A m c) (hr : Bytes w B A m l')
    (hbytes : n + m ≤ 140737488355328) (hbase : base ≤ w.heap.size)
    (h : ∀ v' w', OwnB w' base v' (n + m) (l ++ l') → w.grownBy w' v.ownBlock → (v'.ownBlock = v.ownBlock ∨ v'.ownBlock = some w.heap.size) → wpList Try.prog ops Q rest (a.put o.dst v') w') : wpList Try.prog ops Q (o :: rest) a w := by
  obtain ⟨i0, hi0, hz0, hz1, hz2⟩ := info_parts byte_info
  refine wpList_append_any w hgd s x 22 ho base 5 i0 _ 1 1 Try.underlying22 hi0 hz0 hz1 hz2 rfl (by omega) v n (l.map B8) hs hown B A m c (l'.map B8) hx hr.2 (B8_all _)
    (by simp only [maxLen]; omega) (by omega) hbase (fun v' w' h1 h2 h3 => h v' w' ?_ h2 h3)
  unfold OwnB
  rw [List.map_append]
  exact h1
end Go.Proofs.Ytkiefcmebpinkaa
