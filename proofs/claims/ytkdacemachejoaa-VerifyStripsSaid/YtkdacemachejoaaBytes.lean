/- Rows of bytes that a call owns: append, read, store, over this program. -/
import Derived.Test.YtkdacemachejoaaChecked
import Derived.Test.YtkdacemachejoaaAppend
import Derived.Deep.DeepMust
import Derived.Laws.BytesArg
namespace Go.Proofs.Ytkdacemachejoaa
open Go.RowKit

theorem byte_info : (Try.prog.info? 5).map (fun i => (i.zero, i.size, i.bytes)) = some (some (.int .u8 0), 1, 1) := by kernel_rfl
/-- v is a slice of n bytes l, in a row of the call's own (from block 'base' on), or nil -/
def OwnB (w : World) (base : Nat) (v : Value) (n : Nat) (l : List UInt8) : Prop := w.ownsRow base 5 1 v n (l.map B8)
theorem B8_all (l : List UInt8) : ∀ u ∈ l.map B8, u.oneCell' = true := by intro u hu; obtain ⟨c, _, rfl⟩ := List.mem_map.1 hu; rfl

section
variable {w w' : World} {base n : Nat} {v : Value} {l : List UInt8}
theorem OwnB.len (h : OwnB w base v n l) : l.length = n := by have := h.1; simpa using this
theorem OwnB.nil_ (w : World) (base : Nat) : OwnB w base (.slice none 0 0) 0 [] := World.ownsRow_nil _ _ _ _
theorem OwnB.empty (w : World) (base : Nat) (h : base ≤ w.heap.size) : OwnB (w.alloc (.cells #[] 5)) base (.slice (some ⟨w.heap.size, 0, none⟩) 0 0) 0 [] :=
  World.ownsRow_lit w #[] 0 h (by simp) rfl
theorem OwnB.form (h : OwnB w base v n l) (hn : 0 < n) : ∃ g cap, v = .slice (some ⟨g, 0, none⟩) n cap ∧ base ≤ g ∧ g < w.heap.size ∧ n ≤ cap ∧ cap ≤ maxLen := by
  obtain ⟨_, h⟩ := h
  rcases h with ⟨_, h0⟩ | ⟨g, cap, cur, hv, hg, hh, hc, hm, _⟩
  · omega
  · refine ⟨g, cap, hv, hg, ?_, hc, hm⟩
    rcases Nat.lt_or_ge g w.heap.size with hlt | hge
    · exact hlt
    · rw [Array.getElem?_eq_none hge] at hh; cases hh
/-- its shape: a slice of length n -/
theorem OwnB.shape (h : OwnB w base v n l) : ∃ A cap, v = .slice A n cap ∧ n ≤ cap ∧ cap ≤ maxLen ∧ Bytes w w.heap.size A n l ∧ ((A = none ∧ cap = 0) ∨ ∃ g, A = some ⟨g, 0, none⟩ ∧ base ≤ g ∧ g < w.heap.size) := by
  obtain ⟨hl, h0⟩ := h
  rcases h0 with ⟨rfl, rfl⟩ | ⟨g, cap, cur, rfl, hg, hh, hc, hm, hz, ht⟩
  · exact ⟨none, 0, rfl, Nat.le_refl _, by simp [maxLen], ⟨by simpa using hl, Reads.of_own (base := base) (e := 5) (c := 0) ⟨hl, .inl ⟨rfl, rfl⟩⟩⟩, .inl ⟨rfl, rfl⟩⟩
  · refine ⟨_, cap, rfl, hc, hm, ⟨by simpa using hl, Reads.of_own (base := base) (e := 5) (c := cap) ⟨hl, .inr ⟨g, cap, cur, rfl, hg, hh, hc, hm, hz, ht⟩⟩⟩, .inr ⟨g, rfl, hg, ?_⟩⟩
    rcases Nat.lt_or_ge g w.heap.size with hlt | hge
    · exact hlt
    · rw [Array.getElem?_eq_none hge] at hh; cases hh
theorem OwnB.cell {g cap k : Nat} (h : OwnB w base (.slice (some ⟨g, 0, none⟩) n cap) n l) (hk : k < n) : w.cell? ⟨g, k, none⟩ = some (.int .u8 ((l.getD k 0).toNat : Int)) := by
  have hl := h.len
  have e := World.ownsRow.cellAt h k (by omega)
  rw [e, List.getElem?_map, List.getElem?_eq_getElem (by omega), List.getD_eq_getElem?_getD, List.getElem?_eq_getElem (by omega)]
  rfl
theorem map_set_B8 (l : List UInt8) (k : Nat) (c : UInt8) : (l.set k c).map B8 = (l.map B8).set k (B8 c) := by
  apply List.ext_getElem?
  intro i
  simp only [List.getElem?_map, List.getElem?_set, List.length_map]
  split <;> (try split) <;> simp_all
theorem OwnB.stored {g cap k : Nat} (h : OwnB w base (.slice (some ⟨g, 0, none⟩) n cap) n l) (c : UInt8) : OwnB (w.setCell ⟨g, k, none⟩ (B8 c)) base (.slice (some ⟨g, 0, none⟩) n cap) n (l.set k c) := by
  unfold OwnB
  rw [map_set_B8]
  exact (World.ownsRow.stored h k (B8 c)).1
theorem OwnB.frozen {g cap : Nat} (h : OwnB w base (.slice (some ⟨g, 0, none⟩) n cap) n l) (k : Nat) : w.frozen? ⟨g, k, none⟩ = false := World.ownsRow.frozenAt h k
theorem OwnB.reads {A : Option Addr} {cap : Nat} (h : OwnB w base (.slice A n cap) n l) : Bytes w w.heap.size A n l := Bytes.of_own h
theorem OwnB.alloc (h : OwnB w base v n l) (o : Obj) : OwnB (w.alloc o) base v n l := World.ownsRow.alloc h o
theorem OwnB.drew (h : OwnB w base v n l) : OwnB w.drew base v n l := h
theorem OwnB.drewN (h : OwnB w base v n l) (k : Nat) : OwnB (w.drewN k) base v n l := h
theorem OwnB.grown {row : Option Nat} (h : OwnB w base v n l) (hg : w.grownBy w' row) (hne : v.ownBlock = none ∨ v.ownBlock ≠ row) : OwnB w' base v n l := World.ownsRow.kept h hg hne
theorem OwnB.below (h : OwnB w base v n l) (hb : Below w.heap.size w w') : OwnB w' base v n l := by
  obtain ⟨hl, h0⟩ := h
  refine ⟨hl, ?_⟩
  rcases h0 with h0 | ⟨g, cap, cur, hv, hg, hh, r⟩
  · exact .inl h0
  · refine .inr ⟨g, cap, cur, hv, hg, ?_, r⟩
    have hlt : g < w.heap.size := by
      rcases Nat.lt_or_ge g w.heap.size with hlt | hge
      · exact hlt
      · rw [Array.getElem?_eq_none hge] at hh; cases hh
    rw [hb.block g hlt]; exact hh
theorem OwnB.setBelow (h : OwnB w base v n l) {a : Addr} (ha : a.block < base) (u : Value) : OwnB (w.setCell a u) base v n l := ownsRow_setCell_below h ha u
theorem OwnB.mono {base' : Nat} (h : OwnB w base v n l) (hB : base' ≤ base) : OwnB w base' v n l := by
  obtain ⟨hl, h0⟩ := h
  refine ⟨hl, ?_⟩
  rcases h0 with h0 | ⟨g, cap, cur, hv, hg, r⟩
  · exact .inl h0
  · exact .inr ⟨g, cap, cur, hv, by omega, r⟩
end

/-- what v' owns is what v owned, or new -/
def Fresh (w : World) (v v' : Value) : Prop := ∀ k ∈ ownL v', k ∈ ownL v ∨ w.heap.size ≤ k
theorem fresh_of {w : World} {v v' : Value} (h : v'.ownBlock = v.ownBlock ∨ v'.ownBlock = some w.heap.size) : Fresh w v v' := by
  intro k hk
  unfold ownL at hk ⊢
  rcases h with h | h
  · rw [h] at hk; exact .inl hk
  · rw [h] at hk; simp at hk; exact .inr (by omega)
theorem Fresh.trans {w w' : World} {v v' v'' : Value} {S : List Nat} (h : Fresh w v v') (k : Fresh w' v' v'') (ho : Only S w w') : Fresh w v v'' := by
  intro g hg
  rcases k g hg with h1 | h1
  · exact h g h1
  · exact .inr (Nat.le_trans ho.size h1)
theorem Fresh.refl (w : World) (v : Value) : Fresh w v v := fun _ h => .inl h
theorem OwnB.only {w w' : World} {base n : Nat} {v : Value} {l : List UInt8} {S : List Nat} (h : OwnB w base v n l) (ho : Only S w w') (hn : ∀ g ∈ ownL v, g ∉ S) : OwnB w' base v n l := by
  obtain ⟨hl, h0⟩ := h
  refine ⟨hl, ?_⟩
  rcases h0 with h0 | ⟨g, cap, cur, hv, hg, hh, r⟩
  · exact .inl h0
  · refine .inr ⟨g, cap, cur, hv, hg, ?_, r⟩
    have hlt : g < w.heap.size := by
      rcases Nat.lt_or_ge g w.heap.size with hlt | hge
      · exact hlt
      · rw [Array.getElem?_eq_none hge] at hh; cases hh
    rw [ho.block g hlt (hn g (by rw [hv]; simp [ownL, Value.ownBlock]))]; exact hh
theorem OwnB.lt {w : World} {base n : Nat} {v : Value} {l : List UInt8} (h : OwnB w base v n l) : ∀ g ∈ ownL v, base ≤ g ∧ g < w.heap.size := by
  intro g hg
  exact World.ownsRow.lt h g (by unfold ownL at hg; simpa using hg)
theorem OwnB.ne_blk {w : World} {base n : Nat} {v : Value} {l : List UInt8} {g : Nat} {t : TypeId} {cs : Array Value} (h : OwnB w base v n l) (hb : Blk w g t cs) (ht : 5 ≠ t) : g ∉ ownL v := by
  intro hg
  obtain ⟨_, h0⟩ := h
  rcases h0 with ⟨rfl, _⟩ | ⟨g', cap, cur, rfl, _, hh, _⟩
  · simp [ownL, Value.ownBlock] at hg
  · simp [ownL, Value.ownBlock] at hg
    subst hg
    exact Blk.ne_ (t := 5) hh hb ht rfl
theorem Bytes.blk_lt {w : World} {B n : Nat} {A : Option Addr} {l : List UInt8} (h : Bytes w B A n l) (hn : 0 < n) : ∀ g ∈ blkOf A, g < B := by
  obtain ⟨ad, rfl, hb, _⟩ := h.2.2 hn
  intro g hg
  simp [blkOf] at hg
  omega

theorem run_append_bytes {w : World} {base n : Nat} {v : Value} {l : List UInt8} (hown : OwnB w base v n l) {B : Nat} {A : Option Addr} {m : Nat} (c : Nat) {l' : List UInt8} (hr : Bytes w B A m l') (hbytes : n + m ≤ 140737488355328) (hbase : base ≤ w.heap.size) (ty : TypeId) :
    ∃ v' w', (Builtin.append_ #[37, 37] ty #[v, .slice A m c]).run Try.prog w = .ok v' w' ∧ OwnB w' base v' (n + m) (l ++ l') ∧ Only (ownL v) w w' ∧ Fresh w v v' := by
  obtain ⟨i0, hi0, hz0, hz1, hz2⟩ := info_parts byte_info
  obtain ⟨v', w', h1, h2, h3, h4⟩ := run_append_any (P := Try.prog) w base 37 ty 5 i0 _ 1 1 Try.underlying37 hi0 hz0 hz1 hz2 rfl (by omega) v n (l.map B8) hown B A m c (l'.map B8) hr.2 (B8_all _)
    (by simp only [maxLen]; omega) (by omega) hbase
  refine ⟨v', w', h1, ?_, Only.of_grown h3, fresh_of h4⟩
  unfold OwnB
  rw [List.map_append]
  exact h2
theorem strCells_B8 (s : ByteArray) : Lib.strCells s = s.data.toList.map B8 := rfl
theorem run_append_str {w : World} {base n : Nat} {v : Value} {l : List UInt8} (hown : OwnB w base v n l) (s : ByteArray) (hbytes : n + s.size ≤ 140737488355328) (hbase : base ≤ w.heap.size) (ty : TypeId) :
    ∃ v' w', (Builtin.append_ #[37, 9] ty #[v, .string s]).run Try.prog w = .ok v' w' ∧ OwnB w' base v' (n + s.size) (l ++ s.data.toList) ∧ Only (ownL v) w w' ∧ Fresh w v v' := by
  obtain ⟨i0, hi0, hz0, hz1, hz2⟩ := info_parts byte_info
  obtain ⟨v', w', h1, h2, h3, h4⟩ := run_append_str_at (P := Try.prog) w base 37 9 ty 5 i0 Try.underlying37 Try.underlying9 hi0 hz0 hz1 hz2 v n (l.map B8) hown s
    (by simp only [maxLen]; omega) (by omega) hbase
  refine ⟨v', w', h1, ?_, Only.of_grown h3, fresh_of h4⟩
  unfold OwnB
  rw [List.map_append]
  exact h2

section
variable {w : World} {ops : Array Oper} {rest : List Oper} {o : Oper} {a : Act} {K : Act → World → Prop} {Q : Exit → Act → World → Prop} {E : Prop}
theorem wpList_append_bytes (hgd : o.guard = none) (s x : Operand) (ho : o.op = .call { callee := .builtin .append, args := #[s, x], argTypes := #[37, 37] })
    {base : Nat} {v : Value} {n : Nat} {l : List UInt8} (hs : a.eval s = v) (hown : OwnB w base v n l)
    {B : Nat} {A : Option Addr} {m c : Nat} {l' : List UInt8} (hx : a.eval x = .slice A m c) (hr : Bytes w B A m l')
    (hbytes : n + m ≤ 140737488355328) (hbase : base ≤ w.heap.size)
    (h : ∀ v' w', OwnB w' base v' (n + m) (l ++ l') → Only (ownL v) w w' → Fresh w v v' → wpList Try.prog ops Q rest (a.put o.dst v') w') : wpList Try.prog ops Q (o :: rest) a w := by
  obtain ⟨v', w', h1, h2, h3, h4⟩ := run_append_bytes hown c hr hbytes hbase o.type
  exact wpList_plain hgd fun _ hK => wp_append_run s x _ _ ho hs hx h1 (hK _ _ (h v' w' h2 h3 h4))
theorem wpList_append_str (hgd : o.guard = none) (s x : Operand) (ho : o.op = .call { callee := .builtin .append, args := #[s, x], argTypes := #[37, 9] })
    {base : Nat} {v : Value} {n : Nat} {l : List UInt8} (hs : a.eval s = v) (hown : OwnB w base v n l)
    {st : ByteArray} (hx : a.eval x = .string st) (hbytes : n + st.size ≤ 140737488355328) (hbase : base ≤ w.heap.size)
    (h : ∀ v' w', OwnB w' base v' (n + st.size) (l ++ st.data.toList) → Only (ownL v) w w' → Fresh w v v' → wpList Try.prog ops Q rest (a.put o.dst v') w') : wpList Try.prog ops Q (o :: rest) a w := by
  obtain ⟨v', w', h1, h2, h3, h4⟩ := run_append_str hown st hbytes hbase o.type
  exact wpList_plain hgd fun _ hK => wp_append_run s x _ _ ho hs hx h1 (hK _ _ (h v' w' h2 h3 h4))
theorem step_append_bytes (hgd : o.guard = none) (s x : Operand) (ho : o.op = .call { callee := .builtin .append, args := #[s, x], argTypes := #[37, 37] })
    {base : Nat} {v : Value} {n : Nat} {l : List UInt8} (hs : a.eval s = v) (hown : OwnB w base v n l)
    {B : Nat} {A : Option Addr} {m c : Nat} {l' : List UInt8} (hx : a.eval x = .slice A m c) (hr : Bytes w B A m l')
    (hbytes : n + m ≤ 140737488355328) (hbase : base ≤ w.heap.size)
    (h : ∀ v' w', OwnB w' base v' (n + m) (l ++ l') → Only (ownL v) w w' → Fresh w v v' → K (a.put o.dst v') w') : if Region.wanted o (yielded ops a.tmps) = true then Oper.wp Try.prog o a w K Q else E := by
  rw [if_pos (by simp [Region.wanted, hgd])]
  obtain ⟨v', w', h1, h2, h3, h4⟩ := run_append_bytes hown c hr hbytes hbase o.type
  exact wp_append_run s x _ _ ho hs hx h1 (h v' w' h2 h3 h4)
theorem step_append_str (hgd : o.guard = none) (s x : Operand) (ho : o.op = .call { callee := .builtin .append, args := #[s, x], argTypes := #[37, 9] })
    {base : Nat} {v : Value} {n : Nat} {l : List UInt8} (hs : a.eval s = v) (hown : OwnB w base v n l)
    {st : ByteArray} (hx : a.eval x = .string st) (hbytes : n + st.size ≤ 140737488355328) (hbase : base ≤ w.heap.size)
    (h : ∀ v' w', OwnB w' base v' (n + st.size) (l ++ st.data.toList) → Only (ownL v) w w' → Fresh w v v' → K (a.put o.dst v') w') : if Region.wanted o (yielded ops a.tmps) = true then Oper.wp Try.prog o a w K Q else E := by
  rw [if_pos (by simp [Region.wanted, hgd])]
  obtain ⟨v', w', h1, h2, h3, h4⟩ := run_append_str hown st hbytes hbase o.type
  exact wp_append_run s x _ _ ho hs hx h1 (h v' w' h2 h3 h4)
end
/-- from w to w' the slice v became v', which owns l'; nothing else that was there turned -/
structure Ext (w w' : World) (base : Nat) (v v' : Value) (n' : Nat) (l' : List UInt8) : Prop where
  own : OwnB w' base v' n' l'
  only : Only (ownL v) w w'
  fresh : Fresh w v v'
theorem Ext.refl {w : World} {base n : Nat} {v : Value} {l : List UInt8} (h : OwnB w base v n l) : Ext w w base v v n l := ⟨h, Only.refl _ _, Fresh.refl _ _⟩
theorem Ext.trans {w w' w'' : World} {base n n' : Nat} {v v' v'' : Value} {l l' : List UInt8} (h : Ext w w' base v v' n l) (k : Ext w' w'' base v' v'' n' l') : Ext w w'' base v v'' n' l' :=
  ⟨k.own, h.only.trans k.only h.fresh, h.fresh.trans k.fresh h.only⟩
/-- behind blocks of the call's own -/
theorem Ext.after {w wa w' : World} {base n : Nat} {v v' : Value} {l : List UInt8} (ha : Only [] w wa) (h : Ext wa w' base v v' n l) : Ext w w' base v v' n l :=
  ⟨h.own, (ha.mono (S' := ownL v) (fun g hg => by cases hg)).trans h.only (fun g hg => .inl hg), fun g hg => by
    rcases h.fresh g hg with h1 | h1
    · exact .inl h1
    · exact .inr (Nat.le_trans ha.size h1)⟩

/-- a string of bytes -/
def str (l : List UInt8) : ByteArray := ⟨l.toArray⟩
theorem str_data (l : List UInt8) : (str l).data.toList = l := rfl
theorem str_size (l : List UInt8) : (str l).size = l.length := rfl
theorem str_of (s : ByteArray) : str s.data.toList = s := rfl
theorem str_inj {l m : List UInt8} (h : str l = str m) : l = m := by have := congrArg (fun s : ByteArray => s.data.toList) h; exact this
theorem strOfNums_str (l : List UInt8) : strOfNums (l.map fun c => (c.toNat : Int)) = str l := by
  unfold strOfNums str
  congr 1
  rw [List.map_map]
  congr 1
  conv => rhs; rw [← List.map_id l]
  apply List.map_congr_left
  intro c _
  simp
/-- string(b) -/
theorem run_str {w : World} {B n : Nat} {A : Option Addr} {l : List UInt8} (hr : Bytes w B A n l) (c : Nat) : (convert 37 9 (.slice A n c)).run Try.prog w = .ok (.string (str l)) w := by
  rw [run_convert_bytes_string w 37 9 5 _ n c Try.underlying37 Try.underlying5 Try.underlying9]
  cases A with
  | none =>
    have hn0 : n = 0 := by
      rcases Nat.eq_zero_or_pos n with h | h
      · exact h
      · obtain ⟨ad, e, _⟩ := hr.2.2 h
        cases e
    subst hn0
    have hl : l = [] := List.eq_nil_of_length_eq_zero hr.1
    subst hl
    simp [Conv.bytesToString]
    rfl
  | some ad =>
    have hm : l.map B8 = (l.map fun c => (c.toNat : Int)).map (Value.int .u8) := by rw [List.map_map]; rfl
    have hl := run_loadCells_list (P := Try.prog) w ad (l.map B8) (fun j v hj => by
      have hjl : j < n := by
        rcases Nat.lt_or_ge j n with h | h
        · exact h
        · rw [List.getElem?_eq_none (by rw [List.length_map, hr.1]; exact h)] at hj; cases hj
      obtain ⟨ad', e, _, hc⟩ := hr.2.2 (by omega)
      injection e with e
      subst e
      exact hc j v hj)
    rw [List.length_map, hr.1, hm] at hl
    rw [run_bytesToString w ad n c _ hl, foldl_push_bytes, ← strOfNums_str]
    simp [strOfNums, ByteArray.empty, ByteArray.emptyWithCapacity]
    rfl
end Go.Proofs.Ytkdacemachejoaa
