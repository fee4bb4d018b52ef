/- Slices of structs that a call owns: rows of cells; append, over whatever program and type. -/
import Derived.Test.YtkdacemachejoaaAppend
namespace Go.Proofs.Ytkdacemachejoaa
open Go.RowKit
set_option linter.unusedVariables false

theorem flatten_len {size : Nat} {rows : List (List Value)} (h : ∀ r ∈ rows, r.length = size) : rows.flatten.length = rows.length * size := by
  induction rows with
  | nil => simp
  | cons r rows ih =>
    rw [List.flatten_cons, List.length_append, h r (by simp), ih (fun x hx => h x (by simp [hx])), List.length_cons, Nat.add_mul]
    omega
theorem flatten_get {size : Nat} {rows : List (List Value)} (h : ∀ r ∈ rows, r.length = size) (i j : Nat) (hj : j < size) : rows.flatten[i * size + j]? = (rows.getD i [])[j]? := by
  induction rows generalizing i with
  | nil => simp
  | cons r rows ih =>
    have hr := h r (by simp)
    rw [List.flatten_cons]
    cases i with
    | zero =>
      rw [List.getElem?_append_left (by omega)]
      simp
    | succ i =>
      rw [List.getElem?_append_right (by rw [hr, Nat.add_mul]; omega), hr, show (i + 1) * size + j - size = i * size + j by rw [Nat.add_mul]; omega, ih (fun x hx => h x (by simp [hx]))]
      simp
/-- v is a slice of n elements, the rows, in a row of the call's own (from block 'base' on), or nil -/
structure OwnR (e size : Nat) (w : World) (base : Nat) (v : Value) (n : Nat) (rows : List (List Value)) : Prop where
  len : rows.length = n
  each : ∀ r ∈ rows, r.length = size
  own : w.ownsRow base e size v n rows.flatten

theorem Recs.reads {w : World} {B size m : Nat} {A : Option Addr} {rows : List (List Value)} (hs : 0 < size) (h : Recs w B size A m rows) (he : ∀ r ∈ rows, r.length = size) : Reads w B size A m rows.flatten := by
  refine ⟨by rw [flatten_len he, h.1], fun hm => ?_⟩
  obtain ⟨b, off, rfl, hb, hc⟩ := h.2 hm
  refine ⟨_, rfl, hb, fun q u hu => ?_⟩
  have hq : q < m * size := by
    rcases Nat.lt_or_ge q (m * size) with h1 | h1
    · exact h1
    · rw [List.getElem?_eq_none (by rw [flatten_len he, h.1]; exact h1)] at hu; cases hu
  have hd : q = q / size * size + q % size := by rw [Nat.mul_comm]; exact (Nat.div_add_mod q size).symm
  have hj : q % size < size := Nat.mod_lt _ hs
  have hi : q / size < m := Nat.div_lt_of_lt_mul (by rw [Nat.mul_comm]; exact hq)
  rw [add_block, hd, ← Nat.add_assoc, (hc _ hi _ hj).1, ← flatten_get he _ _ hj, ← hd]
  exact hu
theorem Reads.recs {w : World} {B size m : Nat} {A : Option Addr} {rows : List (List Value)} (hs : 0 < size) (hl : rows.length = m) (he : ∀ r ∈ rows, r.length = size) (h : Reads w B size A m rows.flatten) : Recs w B size A m rows := by
  refine ⟨hl, fun hm => ?_⟩
  obtain ⟨⟨b, off, spot⟩, rfl, hb, hc⟩ := h.2 hm
  have hget : ∀ i, i < m → ∀ j, j < size → ∃ u, (rows.getD i [])[j]? = some u ∧ rows.flatten[i * size + j]? = some u := by
    intro i hi j hj
    have hm' : rows.getD i [] ∈ rows := by
      rw [List.getD_eq_getElem?_getD, List.getElem?_eq_getElem (by omega)]; exact List.getElem_mem (by omega)
    have hlen := he _ hm'
    refine ⟨(rows.getD i [])[j]'(by omega), List.getElem?_eq_getElem (by omega), ?_⟩
    rw [flatten_get he _ _ hj, List.getElem?_eq_getElem (by omega)]
  have hsp : spot = none := by
    obtain ⟨u, _, hu⟩ := hget 0 hm 0 hs
    have := hc _ u hu
    have h1 : w.cell? ⟨b, off, spot⟩ = some u := by simpa [Addr.add] using this
    exact World.cell?_spot h1
  subst hsp
  refine ⟨b, off, rfl, hb, fun i hi j hj => ?_⟩
  obtain ⟨u, h1, h2⟩ := hget i hi j hj
  have := hc _ u h2
  rw [add_block, ← Nat.add_assoc] at this
  rw [h1]
  exact ⟨this, rfl⟩

section
variable {e size : Nat} {w w' : World} {base n : Nat} {v : Value} {rows : List (List Value)} {S : List Nat}
theorem OwnR.nil_ (e size : Nat) (w : World) (base : Nat) : OwnR e size w base (.slice none 0 0) 0 [] := ⟨rfl, fun _ h => absurd h (by simp), World.ownsRow_nil _ _ _ _⟩
theorem OwnR.alloc (h : OwnR e size w base v n rows) (o : Obj) : OwnR e size (w.alloc o) base v n rows := ⟨h.len, h.each, h.own.alloc o⟩
theorem OwnR.drew (h : OwnR e size w base v n rows) : OwnR e size w.drew base v n rows := ⟨h.len, h.each, h.own⟩
theorem OwnR.drewN (h : OwnR e size w base v n rows) (k : Nat) : OwnR e size (w.drewN k) base v n rows := ⟨h.len, h.each, h.own⟩
theorem own_only {xs : List Value} (h : w.ownsRow base e size v n xs) (ho : Only S w w') (hn : ∀ g ∈ ownL v, g ∉ S) : w'.ownsRow base e size v n xs := by
  obtain ⟨hl, h0⟩ := h
  refine ⟨hl, ?_⟩
  rcases h0 with h0 | ⟨g, cap, cur, hv, hg, hh, r⟩
  · exact .inl h0
  · refine .inr ⟨g, cap, cur, hv, hg, ?_, r⟩
    have hlt : g < w.heap.size := by
      rcases Nat.lt_or_ge g w.heap.size with hlt | hge
      · exact hlt
      · rw [Array.getElem?_eq_none hge] at hh; cases hh
    rw [ho.block g hlt (hn g (by rw [hv]; simp [ownL, Value.ownBlock]))]; exact hh
theorem own_lt {xs : List Value} (h : w.ownsRow base e size v n xs) : ∀ g ∈ ownL v, base ≤ g ∧ g < w.heap.size := by
  intro g hg
  exact World.ownsRow.lt h g (by unfold ownL at hg; simpa using hg)
theorem OwnR.only (h : OwnR e size w base v n rows) (ho : Only S w w') (hn : ∀ g ∈ ownL v, g ∉ S) : OwnR e size w' base v n rows := ⟨h.len, h.each, own_only h.own ho hn⟩
theorem OwnR.lt (h : OwnR e size w base v n rows) : ∀ g ∈ ownL v, base ≤ g ∧ g < w.heap.size := own_lt h.own
theorem OwnR.mono {base' : Nat} (h : OwnR e size w base v n rows) (hB : base' ≤ base) : OwnR e size w base' v n rows := by
  obtain ⟨hl, he, hl2, h0⟩ := h
  refine ⟨hl, he, hl2, ?_⟩
  rcases h0 with h0 | ⟨g, cap, cur, hv, hg, r⟩
  · exact .inl h0
  · exact .inr ⟨g, cap, cur, hv, by omega, r⟩
theorem OwnR.shape (hs : 0 < size) (h : OwnR e size w base v n rows) : ∃ A cap, v = .slice A n cap ∧ n ≤ cap ∧ cap ≤ maxLen ∧ Recs w w.heap.size size A n rows ∧ ((A = none ∧ cap = 0) ∨ ∃ g, A = some ⟨g, 0, none⟩ ∧ base ≤ g ∧ g < w.heap.size) := by
  obtain ⟨hl, he, hown⟩ := h
  obtain ⟨hlen, h0⟩ := hown
  rcases h0 with ⟨rfl, rfl⟩ | ⟨g, cap, cur, rfl, hg, hh, hc, hm, hz, ht⟩
  · exact ⟨none, 0, rfl, Nat.le_refl _, by simp [maxLen], Reads.recs hs hl he (Reads.of_own (base := base) (e := e) (c := 0) ⟨hlen, .inl ⟨rfl, rfl⟩⟩), .inl ⟨rfl, rfl⟩⟩
  · refine ⟨_, cap, rfl, hc, hm, Reads.recs hs hl he (Reads.of_own (base := base) (e := e) (c := cap) ⟨hlen, .inr ⟨g, cap, cur, rfl, hg, hh, hc, hm, hz, ht⟩⟩), .inr ⟨g, rfl, hg, ?_⟩⟩
    rcases Nat.lt_or_ge g w.heap.size with hlt | hge
    · exact hlt
    · rw [Array.getElem?_eq_none hge] at hh; cases hh
/-- what v' owns is what v owned, or new -/
def FreshV (w : World) (v v' : Value) : Prop := ∀ k ∈ ownL v', k ∈ ownL v ∨ w.heap.size ≤ k
theorem freshV_of {w : World} {v v' : Value} (h : v'.ownBlock = v.ownBlock ∨ v'.ownBlock = some w.heap.size) : FreshV w v v' := by
  intro k hk
  unfold ownL at hk ⊢
  rcases h with h | h
  · rw [h] at hk; exact .inl hk
  · rw [h] at hk; simp at hk; exact .inr (by omega)
theorem FreshV.trans {v' v'' : Value} (h : FreshV w v v') (k : FreshV w' v' v'') (ho : Only S w w') : FreshV w v v'' := by
  intro g hg
  rcases k g hg with h1 | h1
  · exact h g h1
  · exact .inr (Nat.le_trans ho.size h1)
theorem FreshV.refl (w : World) (v : Value) : FreshV w v v := fun _ h => .inl h
theorem FreshV.only {v' : Value} (h : FreshV w v v') (ho : Only S w' w) : FreshV w' v v' := fun g hg => by
  rcases h g hg with h1 | h1
  · exact .inl h1
  · exact .inr (Nat.le_trans ho.size h1)
end
/-- from w to w' the slice v became v', which owns the rows; nothing else that was there turned -/
structure ExtR (e size : Nat) (w w' : World) (base : Nat) (v v' : Value) (n' : Nat) (rows' : List (List Value)) : Prop where
  own : OwnR e size w' base v' n' rows'
  only : Only (ownL v) w w'
  fresh : FreshV w v v'
section
variable {e size : Nat} {w w' w'' wa : World} {base n n' : Nat} {v v' v'' : Value} {rows rows' : List (List Value)}
theorem ExtR.refl (h : OwnR e size w base v n rows) : ExtR e size w w base v v n rows := ⟨h, Only.refl _ _, FreshV.refl _ _⟩
theorem ExtR.trans (h : ExtR e size w w' base v v' n rows) (k : ExtR e size w' w'' base v' v'' n' rows') : ExtR e size w w'' base v v'' n' rows' :=
  ⟨k.own, h.only.trans k.only h.fresh, h.fresh.trans k.fresh h.only⟩
theorem ExtR.after (ha : Only [] w wa) (h : ExtR e size wa w' base v v' n rows) : ExtR e size w w' base v v' n rows :=
  ⟨h.own, (ha.mono (S' := ownL v) (fun g hg => by cases hg)).trans h.only (fun g hg => .inl hg), h.fresh.only ha⟩
theorem ExtR.base0 (h : ExtR e size w w' base v v' n rows) (hb : base = w.heap.size) (hv : ∀ g ∈ ownL v, w.heap.size ≤ g) : Only [] w w' :=
  h.only.mono (fun g hg => .inr (hv g hg))
end

/-- one new element, in a block of its own -/
theorem Recs.const1 (w : World) (row : List Value) (C : Array Value) (e size : Nat) (fr : Nat × Nat) (hC : C.toList = row) (hl : row.length = size) :
    Recs (w.alloc (.cells C e fr)) (w.heap.size + 1) size (some ⟨w.heap.size, 0, none⟩) 1 [row] := by
  refine ⟨rfl, fun _ => ⟨_, _, rfl, by omega, fun i hi j hj => ?_⟩⟩
  obtain rfl : i = 0 := by omega
  have hc : (w.alloc (.cells C e fr)).cell? ⟨w.heap.size, 0 + 0 * size + j, none⟩ = row[j]? := by
    rw [show 0 + 0 * size + j = j by omega]
    unfold World.cell?
    rw [heap_alloc_new]
    simp [← hC]
  refine ⟨hc, ?_⟩
  show (row[j]?).isSome = true
  rw [List.getElem?_eq_getElem (by omega)]
  rfl

section
variable {P : Program}
theorem run_append_rec {w : World} {t ty e : TypeId} {i : TypeInfo} {z : Value} {size bytes : Nat} (ht : P.underlying t = some (.slice e)) (hi : P.info? e = some i) (hz : i.zero = some z)
    (hsize : i.size = size) (hby : i.bytes = bytes) (hzs : z.cells.size = size) (hsz : 0 < size)
    {base n : Nat} {v : Value} {rows : List (List Value)} (hown : OwnR e size w base v n rows)
    {B : Nat} {A : Option Addr} {m : Nat} (c : Nat) {rows' : List (List Value)} (hr : Recs w B size A m rows') (he : ∀ r ∈ rows', r.length = size) (h1 : ∀ r ∈ rows', ∀ u ∈ r, u.oneCell' = true)
    (hbytes : (n + m) * bytes ≤ 140737488355328) (hmax : n + m ≤ maxLen) (hbase : base ≤ w.heap.size) :
    ∃ v' w', (Builtin.append_ #[t, t] ty #[v, .slice A m c]).run P w = .ok v' w' ∧ ExtR e size w w' base v v' (n + m) (rows ++ rows') := by
  obtain ⟨v', w', hrun, h2, h3, h4⟩ := run_append_any (P := P) w base t ty e i z size bytes ht hi hz hsize hby hzs hsz v n rows.flatten hown.own B A m c rows'.flatten (hr.reads hsz he)
    (fun u hu => by obtain ⟨r, hr, hu⟩ := List.mem_flatten.1 hu; exact h1 r hr u hu) hmax hbytes hbase
  refine ⟨v', w', hrun, ⟨⟨by rw [List.length_append, hown.len, hr.1], fun r hr => ?_, by rw [List.flatten_append]; exact h2⟩, Only.of_grown h3, freshV_of h4⟩⟩
  rcases List.mem_append.1 hr with h | h
  · exact hown.each r h
  · exact he r h
theorem wpList_append_rec {w : World} {ops : Array Oper} {rest : List Oper} {o : Oper} {a : Act} {Q : Exit → Act → World → Prop} (hgd : o.guard = none) (s x : Operand) (t : TypeId)
    (ho : o.op = .call { callee := .builtin .append, args := #[s, x], argTypes := #[t, t] })
    {e : TypeId} {i : TypeInfo} {z : Value} {size bytes : Nat} (ht : P.underlying t = some (.slice e)) (hi : P.info? e = some i) (hz : i.zero = some z)
    (hsize : i.size = size) (hby : i.bytes = bytes) (hzs : z.cells.size = size) (hsz : 0 < size)
    {base n : Nat} {v : Value} {rows : List (List Value)} (hs : a.eval s = v) (hown : OwnR e size w base v n rows)
    {B : Nat} {A : Option Addr} {m c : Nat} {rows' : List (List Value)} (hx : a.eval x = .slice A m c) (hr : Recs w B size A m rows') (he : ∀ r ∈ rows', r.length = size) (h1 : ∀ r ∈ rows', ∀ u ∈ r, u.oneCell' = true)
    (hbytes : (n + m) * bytes ≤ 140737488355328) (hmax : n + m ≤ maxLen) (hbase : base ≤ w.heap.size)
    (h : ∀ v' w', ExtR e size w w' base v v' (n + m) (rows ++ rows') → wpList P ops Q rest (a.put o.dst v') w') : wpList P ops Q (o :: rest) a w := by
  obtain ⟨v', w', h1, h2⟩ := run_append_rec (P := P) (ty := o.type) ht hi hz hsize hby hzs hsz hown c hr he h1 hbytes hmax hbase
  exact wpList_plain hgd fun _ hK => wp_append_run s x _ _ ho hs hx h1 (hK _ _ (h v' w' h2))
theorem step_append_rec {w : World} {ops : Array Oper} {o : Oper} {a : Act} {K : Act → World → Prop} {Q : Exit → Act → World → Prop} {E : Prop} (hgd : o.guard = none) (s x : Operand) (t : TypeId)
    (ho : o.op = .call { callee := .builtin .append, args := #[s, x], argTypes := #[t, t] })
    {e : TypeId} {i : TypeInfo} {z : Value} {size bytes : Nat} (ht : P.underlying t = some (.slice e)) (hi : P.info? e = some i) (hz : i.zero = some z)
    (hsize : i.size = size) (hby : i.bytes = bytes) (hzs : z.cells.size = size) (hsz : 0 < size)
    {base n : Nat} {v : Value} {rows : List (List Value)} (hs : a.eval s = v) (hown : OwnR e size w base v n rows)
    {B : Nat} {A : Option Addr} {m c : Nat} {rows' : List (List Value)} (hx : a.eval x = .slice A m c) (hr : Recs w B size A m rows') (he : ∀ r ∈ rows', r.length = size) (h1 : ∀ r ∈ rows', ∀ u ∈ r, u.oneCell' = true)
    (hbytes : (n + m) * bytes ≤ 140737488355328) (hmax : n + m ≤ maxLen) (hbase : base ≤ w.heap.size)
    (h : ∀ v' w', ExtR e size w w' base v v' (n + m) (rows ++ rows') → K (a.put o.dst v') w') : if Region.wanted o (yielded ops a.tmps) = true then Oper.wp P o a w K Q else E := by
  rw [if_pos (by simp [Region.wanted, hgd])]
  obtain ⟨v', w', h1, h2⟩ := run_append_rec (P := P) (ty := o.type) ht hi hz hsize hby hzs hsz hown c hr he h1 hbytes hmax hbase
  exact wp_append_run s x _ _ ho hs hx h1 (h v' w' h2)
end
end Go.Proofs.Ytkdacemachejoaa
