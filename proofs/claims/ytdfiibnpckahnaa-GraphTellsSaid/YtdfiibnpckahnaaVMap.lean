/- A map in memory as a function of its keys: elements of whatever type, kept as the values that they are. -/
import Derived.Maps.RangeWalk
import Derived.Maps.Ext
import Derived.Maps.Own
import Derived.Sort.KeysCollected
import Derived.Test.YtdfiibnpckahnaaKit
namespace Go.Proofs.Ytdfiibnpckahnaa
open Go.RowKit Go.Maps Go.ChangeMaps Go.MapKept
set_option linter.unusedVariables false
/-- an element, as it lies -/
def RV (v : Value) : Option (DataW Value × List MemPlace) := some (.held v, [])
/-- what stands at a key -/
def look (D : DataW Value) (k : Lit) : Option Value :=
  if has D k = true then (match D.atKey k .nil with | .held v => some v | _ => none) else none
open Classical in
/-- one more, or another one, at a key -/
noncomputable def upd (f : Lit → Option Value) (k : Lit) (v : Option Value) : Lit → Option Value := fun x => if x = k then v else f x
theorem upd_same (f : Lit → Option Value) (k : Lit) (v : Option Value) : upd f k v k = v := by unfold upd; rw [if_pos rfl]
theorem upd_other (f : Lit → Option Value) {k x : Lit} (v : Option Value) (h : x ≠ k) : upd f k v x = f x := by unfold upd; rw [if_neg h]
section
variable {P : Program} {K : TypeId} {w w' : World} {b n : Nat} {f : Lit → Option Value} {S : List Nat}
/-- block b is a map, of at most n entries, that holds f -/
def VM (P : Program) (K : TypeId) (w : World) (b n : Nat) (f : Lit → Option Value) : Prop := ∃ D : DataW Value, w.ownsMap P K RV b n D ∧ look D = f
theorem ownsMap_only {R : Value → Option (DataW Value × List MemPlace)} {D : DataW Value} (h : w.ownsMap P K R b n D) (ho : Only S w w') (hb : b ∉ S) : w'.ownsMap P K R b n D := by
  have hlt := h.lt
  obtain ⟨es, clock, hh, F, hs, hD⟩ := h
  exact ⟨es, clock, (ho.block b hlt hb).trans hh, F, hs, hD⟩
theorem VM.only (h : VM P K w b n f) (ho : Only S w w') (hb : b ∉ S) : VM P K w' b n f := by
  obtain ⟨D, hD, hf⟩ := h
  exact ⟨D, ownsMap_only hD ho hb, hf⟩
theorem VM.drew (h : VM P K w b n f) : VM P K w.drew b n f := h
theorem VM.lt (h : VM P K w b n f) : b < w.heap.size := by obtain ⟨D, hD, _⟩ := h; exact hD.lt
theorem VM.mono {n' : Nat} (h : VM P K w b n f) (hn : n ≤ n') : VM P K w b n' f := by obtain ⟨D, hD, hf⟩ := h; exact ⟨D, hD.mono hn, hf⟩
theorem VM.alloc (h : VM P K w b n f) (o : Obj) : VM P K (w.alloc o) b n f := h.only ((Only.refl [] w).alloc o) (by simp)
theorem look_empty : look (.map []) = fun _ => none := by funext k; unfold look; rfl
theorem VM.made (w : World) (P : Program) (K : TypeId) : VM P K (w.alloc (.map #[] 0)) w.heap.size 0 (fun _ => none) := ⟨.map [], World.ownsMap_made w P K RV, look_empty⟩
/-- every element of such a map is held -/
def AllHeld (D : DataW Value) : Prop := ∀ k, has D k = true → ∃ v, ∀ z, D.atKey k z = .held v
theorem all_held {D : DataW Value} (h : w.ownsMap P K RV b n D) (L : Keyed P K) : AllHeld D := by
  intro k hk
  obtain ⟨es, hD, hpw, hlit⟩ := h.entries L
  obtain ⟨es0, clock, hh, F, hs, hD2⟩ := h
  rw [hD2] at hk
  obtain ⟨p, hp, hpk⟩ := List.any_eq_true.1 hk
  have hp' : p ∈ es := by
    rw [hD2] at hD
    injection hD with hD
    rw [← hD]
    exact hp
  have ek := WideAt.sameKey_eq hpk
  have hv : ∃ v, p.2 = .held v := by
    obtain ⟨x, hx, rfl⟩ := List.mem_map.1 (mem_sorted.1 hp)
    obtain ⟨y, hy⟩ := F.reads x hx
    obtain ⟨z, hz, hzd⟩ := WideElems.rd_val hy
    refine ⟨x.val, ?_⟩
    rw [WideElems.rg_of hy, hzd]
    unfold RV at hz
    injection hz with hz
    rw [← hz]
  obtain ⟨v, hv⟩ := hv
  refine ⟨v, fun z => ?_⟩
  rw [← ek, hD, WideAt.atKey_mem z (hlit p hp') hpw hp', hv]
theorem look_some {D : DataW Value} (h : AllHeld D) {k : Lit} {v : Value} : look D k = some v ↔ has D k = true ∧ ∀ z, D.atKey k z = .held v := by
  unfold look
  constructor
  · intro hl
    split at hl
    · rename_i hk
      obtain ⟨u, hu⟩ := h k hk
      rw [hu] at hl
      injection hl with hl
      subst hl
      exact ⟨hk, hu⟩
    · cases hl
  · rintro ⟨hk, hu⟩
    rw [if_pos hk, hu]
theorem look_none {D : DataW Value} (h : AllHeld D) {k : Lit} : look D k = none ↔ has D k = false := by
  unfold look
  constructor
  · intro hl
    split at hl
    · rename_i hk
      obtain ⟨u, hu⟩ := h k hk
      rw [hu] at hl
      cases hl
    · rename_i hk
      cases hb : has D k
      · rfl
      · exact absurd hb hk
  · intro hk
    rw [if_neg (by rw [hk]; simp)]
theorem look_has {D : DataW Value} (h : AllHeld D) (k : Lit) : has D k = (look D k).isSome := by
  cases hl : look D k with
  | none => exact (look_none h).1 hl
  | some v => exact ((look_some h).1 hl).1
theorem look_put {D : DataW Value} (hD : IsMap D) {k : Lit} (hk : WideAt.IsKeyLit k) (v : Value) : look (D.put k (.held v)) = upd (look D) k (some v) := by
  funext x
  by_cases hx : x = k
  · subst hx
    rw [upd_same]
    unfold look
    rw [has_put_same hD hk, if_pos rfl, atKey_put_same hD hk]
  · rw [upd_other _ _ hx]
    unfold look
    rw [has_put_other hx, atKey_put_other hx]
theorem look_del {D : DataW Value} {k : Lit} : look (D.del k) = upd (look D) k none := by
  funext x
  by_cases hx : x = k
  · subst hx
    rw [upd_same]
    unfold look
    rw [has_del_same, if_neg (by simp)]
  · rw [upd_other _ _ hx]
    unfold look
    rw [has_del_other hx, atKey_del_other hx]
/-- 'v, ok := m[k]' -/
theorem VM.run_look {t e : TypeId} (h : VM P K w b n f) (L : Keyed P K) (ht : P.underlying t = some (.map K e)) {z : Value} (hz : (zeroValue e).run P w = .ok z w) {key : Value} {kl : Lit} (hkey : keyOf P K key = some kl) :
    (Instr.lookup t (.map (some b)) key true).run P w = .ok (.tuple #[(f kl).getD z, .bool (f kl).isSome]) w := by
  obtain ⟨D, hD, rfl⟩ := h
  have ha := all_held hD L
  obtain ⟨v, ps, hrun, hv⟩ := hD.look_ok L ht hz (zd := .held z) (zp := []) rfl hkey
  rw [hrun, look_has ha]
  have hv2 : D.atKey kl (.held z) = .held v := by unfold RV at hv; injection hv with hv; injection hv with hv _; exact hv.symm
  have : v = (look D kl).getD z := by
    cases hl : look D kl with
    | none =>
      have := atKey_of_not_has ((look_none ha).1 hl) (.held z)
      rw [this] at hv2
      injection hv2 with hv2
      exact hv2.symm
    | some u =>
      have := ((look_some ha).1 hl).2 (.held z)
      rw [this] at hv2
      injection hv2 with hv2
      exact hv2.symm
  rw [this]
/-- 'm[k]' -/
theorem VM.run_look1 {t e : TypeId} (h : VM P K w b n f) (L : Keyed P K) (ht : P.underlying t = some (.map K e)) {z : Value} (hz : (zeroValue e).run P w = .ok z w) {key : Value} {kl : Lit} (hkey : keyOf P K key = some kl) :
    (Instr.lookup t (.map (some b)) key false).run P w = .ok ((f kl).getD z) w := by
  obtain ⟨D, hD, rfl⟩ := h
  have ha := all_held hD L
  obtain ⟨v, ps, hrun, hv⟩ := hD.lookup L ht hz (zd := .held z) (zp := []) rfl hkey
  rw [hrun]
  have hv2 : D.atKey kl (.held z) = .held v := by unfold RV at hv; injection hv with hv; injection hv with hv _; exact hv.symm
  have : v = (look D kl).getD z := by
    cases hl : look D kl with
    | none =>
      have := atKey_of_not_has ((look_none ha).1 hl) (.held z)
      rw [this] at hv2
      injection hv2 with hv2
      exact hv2.symm
    | some u =>
      have := ((look_some ha).1 hl).2 (.held z)
      rw [this] at hv2
      injection hv2 with hv2
      exact hv2.symm
  rw [this]
theorem VM.run_len {t e : TypeId} (h : VM P K w b n f) (ht : P.underlying t = some (.map K e)) (ty : TypeId) : ∃ k, k ≤ n ∧ (Builtin.len_ #[t] ty #[.map (some b)]).run P w = .ok (.int .i64 (k : Nat)) w := by
  obtain ⟨D, hD, _⟩ := h
  exact ⟨_, hD.size_le, hD.len ht ty⟩
/-- how many entries such a map has: none just if it holds nothing -/
theorem VM.run_len0 {t e : TypeId} (L : Keyed P K) (h : VM P K w b n f) (ht : P.underlying t = some (.map K e)) (ty : TypeId) : ∃ k, k ≤ n ∧ (k = 0 ↔ ∀ x, f x = none) ∧ (Builtin.len_ #[t] ty #[.map (some b)]).run P w = .ok (.int .i64 (k : Nat)) w := by
  obtain ⟨D, hD, hf⟩ := h
  refine ⟨_, hD.size_le, ?_, hD.len ht ty⟩
  obtain ⟨es, rfl, hpw, hlit⟩ := hD.entries L
  subst hf
  constructor
  · intro h0 x
    have : es = [] := List.eq_nil_of_length_eq_zero h0
    subst this
    exact congrFun look_empty x
  · intro hn
    cases es with
    | nil => rfl
    | cons p es =>
      exfalso
      have hk : has (.map (p :: es)) p.1 = true := List.any_eq_true.2 ⟨p, List.mem_cons_self, WideAt.sameKey_self (hlit p List.mem_cons_self)⟩
      obtain ⟨v, hv⟩ := all_held hD L p.1 hk
      have := hn p.1
      unfold look at this
      rw [if_pos hk, hv] at this
      cases this
end
section
variable {P : Program} {w : World} {ops : Array Oper} {rest : List Oper} {o : Oper} {a : Act} {Q : Exit → Act → World → Prop} {b n : Nat} {f : Lit → Option Value}
/-- 'm[k] = v' -/
theorem wpList_put (hg : o.guard = none) (m x v : Operand) (t : TypeId) (hop : o.op = Op.mapUpdate t m x v) (K e : TypeId) (L : Keyed P K) (ht : P.underlying t = some (.map K e))
    (hm : a.eval m = .map (some b)) (h : VM P K w b n f) (hn : n < maxLen) {key val : Value} {kl : Lit} (hx : a.eval x = key) (hv : a.eval v = val) (hkey : keyOf P K key = some kl)
    (hK : ∀ w', VM P K w' b (n + 1) (upd f kl (some val)) → Only [b] w w' → wpList P ops Q rest (a.put o.dst undef) w') : wpList P ops Q (o :: rest) a w := by
  obtain ⟨D, hD, rfl⟩ := h
  refine wpList_mapUpdate_own w hg m x v t hop K e L ht RV b n D hm hD hn key val kl hx hv hkey (.held val) [] rfl ?_
  intro w' h1 h2
  exact hK w' ⟨_, h1, look_put hD.isMap (L.key hkey) val⟩ (Only.of_grown h2)
/-- 'delete(m, k)' -/
theorem wpList_drop (hg : o.guard = none) (m x : Operand) (t K : TypeId) (hop : o.op = Op.call { callee := Callee.builtin Builtin.delete, args := #[m, x], argTypes := #[t, K] }) (e : TypeId) (L : Keyed P K) (ht : P.underlying t = some (.map K e))
    (hm : a.eval m = .map (some b)) (h : VM P K w b n f) {key : Value} {kl : Lit} (hx : a.eval x = key) (hkey : keyOf P K key = some kl)
    (hK : ∀ w', VM P K w' b n (upd f kl none) → Only [b] w w' → wpList P ops Q rest (a.put o.dst (.tuple #[])) w') : wpList P ops Q (o :: rest) a w := by
  obtain ⟨D, hD, rfl⟩ := h
  refine wpList_plain hg fun K' hK' => ?_
  obtain ⟨w', hrun, r1, r2⟩ := hD.drop L ht hkey o.type
  unfold Oper.wp
  simp [execOp, hop, resolve, invoke, builtin, hm, hx, hrun, Result.andThen]
  exact hK' _ _ (hK w' ⟨_, r1, look_del⟩ (Only.of_grown r2.grown))
/-- 'len(m)' (at_len): none just if the map holds nothing -/
theorem wpList_lenV (hg : o.guard = none) (m : Operand) (t : TypeId) (hop : o.op = Op.call { callee := Callee.builtin Builtin.len, args := #[m], argTypes := #[t] }) (K e : TypeId) (L : Keyed P K) (ht : P.underlying t = some (.map K e))
    (hm : a.eval m = .map (some b)) (h : VM P K w b n f) (hK : ∀ k : Nat, k ≤ n → (k = 0 ↔ ∀ x, f x = none) → wpList P ops Q rest (a.put o.dst (.int .i64 k)) w) : wpList P ops Q (o :: rest) a w := by
  obtain ⟨k, h1, h2, hrun⟩ := h.run_len0 L ht o.type
  refine wpList_plain hg fun K' hK' => ?_
  unfold Oper.wp
  simp [execOp, hop, resolve, invoke, builtin, hm, hrun, Result.andThen]
  exact hK' _ _ (hK k h1 h2)
/-- 'm[k] = v' in a region that draws its order -/
theorem step_put {K1 : Act → World → Prop} {E : Prop} (hg : o.guard = none) (m x v : Operand) (t : TypeId) (hop : o.op = Op.mapUpdate t m x v) (K e : TypeId) (L : Keyed P K) (ht : P.underlying t = some (.map K e))
    (hm : a.eval m = .map (some b)) (h : VM P K w b n f) (hn : n < maxLen) {key val : Value} {kl : Lit} (hx : a.eval x = key) (hv : a.eval v = val) (hkey : keyOf P K key = some kl)
    (hK : ∀ w', VM P K w' b (n + 1) (upd f kl (some val)) → Only [b] w w' → K1 (a.put o.dst undef) w') : if Region.wanted o (yielded ops a.tmps) = true then Oper.wp P o a w K1 Q else E := by
  rw [if_pos (by simp [Region.wanted, hg])]
  obtain ⟨D, hD, rfl⟩ := h
  obtain ⟨w', hrun, r1, r2⟩ := hD.update L ht hn hkey (d := .held val) (ps := []) rfl
  unfold Oper.wp
  simp [execOp, hop, hm, hx, hv, hrun, Result.andThen]
  exact hK w' ⟨_, r1, look_put hD.isMap (L.key hkey) val⟩ (Only.of_grown r2)
/-- 'm[k] = v', as the instruction runs -/
theorem VM.run_put (t : TypeId) {K e : TypeId} (L : Keyed P K) (ht : P.underlying t = some (.map K e)) (h : VM P K w b n f) (hn : n < maxLen) {key : Value} (val : Value) {kl : Lit} (hkey : keyOf P K key = some kl) :
    ∃ w', (Instr.mapUpdate t (.map (some b)) key val).run P w = .ok () w' ∧ VM P K w' b (n + 1) (upd f kl (some val)) ∧ Only [b] w w' := by
  obtain ⟨D, hD, rfl⟩ := h
  obtain ⟨w', hrun, r1, r2⟩ := hD.update L ht hn hkey (d := .held val) (ps := []) rfl
  exact ⟨w', hrun, ⟨_, r1, look_put hD.isMap (L.key hkey) val⟩, Only.of_grown r2⟩
/-- 'delete(m, k)' in a region that draws its order -/
theorem step_drop {K1 : Act → World → Prop} {E : Prop} (hg : o.guard = none) (m x : Operand) (t K : TypeId) (hop : o.op = Op.call { callee := Callee.builtin Builtin.delete, args := #[m, x], argTypes := #[t, K] }) (e : TypeId) (L : Keyed P K) (ht : P.underlying t = some (.map K e))
    (hm : a.eval m = .map (some b)) (h : VM P K w b n f) {key : Value} {kl : Lit} (hx : a.eval x = key) (hkey : keyOf P K key = some kl)
    (hK : ∀ w', VM P K w' b n (upd f kl none) → Only [b] w w' → K1 (a.put o.dst (.tuple #[])) w') : if Region.wanted o (yielded ops a.tmps) = true then Oper.wp P o a w K1 Q else E := by
  rw [if_pos (by simp [Region.wanted, hg])]
  obtain ⟨D, hD, rfl⟩ := h
  obtain ⟨w', hrun, r1, r2⟩ := hD.drop L ht hkey o.type
  unfold Oper.wp
  simp [execOp, hop, resolve, invoke, builtin, hm, hx, hrun, Result.andThen]
  exact hK w' ⟨_, r1, look_del⟩ (Only.of_grown r2.grown)
end
end Go.Proofs.Ytdfiibnpckahnaa
