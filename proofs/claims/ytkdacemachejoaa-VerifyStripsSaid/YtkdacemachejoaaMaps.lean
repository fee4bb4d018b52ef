/- Maps: A map in memory as a function of its keys: elements of whatever type, kept as the values that they are; Ranges over maps that are functions of their keys; their keys, sorted; Maps whose keys are numbers: clear, how many entries there may be, the step of a range. -/
import Derived.Test.YtkdacemachejoaaKit
import Derived.Test.YtkdacemachejoaaRecs
import Derived.Maps.RangeWalk
import Derived.Maps.Ext
import Derived.Maps.Own
import Derived.Sort.KeysCollected
import Derived.Sort.MapsRangeIn
import Derived.Lib.SlKeysI
namespace Go.Proofs.Ytkdacemachejoaa
open Go.RowKit Go.Maps Go.ChangeMaps Go.MapKept
set_option linter.unusedVariables false
/-- an element, as it lies -/
def RV (v : Value) : Option (DataW Value × List MemPlace) := some (.held v, [])
/-- what stands at a key -/
def look (D : DataW Value) (k : Lit) : Option Value :=
  if has D k = true then (match D.atKey k .nil with | .held v => some v | _ => none) else none
open Classical in
/-- one more, or another one, at a key -/
noncomputable def upd (f : Lit → Option Value) (k : Lit) (v : Option Value) : Lit → Option Value := fun x => if x = k then v else f x
theorem upd_same (f : Lit → Option Value) (k : Lit) (v : Option Value) : upd f k v k = v := by unfold upd; rw [if_pos rfl]
theorem upd_other (f : Lit → Option Value) {k x : Lit} (v : Option Value) (h : x ≠ k) : upd f k v x = f x := by unfold upd; rw [if_neg h]
section
variable {P : Program} {K : TypeId} {w w' : World} {b n : Nat} {f : Lit → Option Value} {S : List Nat}
/-- block b is a map, of at most n entries, that holds f -/
def VM (P : Program) (K : TypeId) (w : World) (b n : Nat) (f : Lit → Option Value) : Prop := ∃ D : DataW Value, w.ownsMap P K RV b n D ∧ look D = f
theorem ownsMap_only {R : Value → Option (DataW Value × List MemPlace)} {D : DataW Value} (h : w.ownsMap P K R b n D) (ho : Only S w w') (hb : b ∉ S) : w'.ownsMap P K R b n D := by
  have hlt := h.lt
  obtain ⟨es, clock, hh, F, hs, hD⟩ := h
  exact ⟨es, clock, (ho.block b hlt hb).trans hh, F, hs, hD⟩
theorem VM.only (h : VM P K w b n f) (ho : Only S w w') (hb : b ∉ S) : VM P K w' b n f := by
  obtain ⟨D, hD, hf⟩ := h
  exact ⟨D, ownsMap_only hD ho hb, hf⟩
theorem VM.drew (h : VM P K w b n f) : VM P K w.drew b n f := h
theorem VM.lt (h : VM P K w b n f) : b < w.heap.size := by obtain ⟨D, hD, _⟩ := h; exact hD.lt
theorem VM.mono {n' : Nat} (h : VM P K w b n f) (hn : n ≤ n') : VM P K w b n' f := by obtain ⟨D, hD, hf⟩ := h; exact ⟨D, hD.mono hn, hf⟩
theorem VM.alloc (h : VM P K w b n f) (o : Obj) : VM P K (w.alloc o) b n f := h.only ((Only.refl [] w).alloc o) (by simp)
theorem look_empty : look (.map []) = fun _ => none := by funext k; unfold look; rfl
theorem VM.made (w : World) (P : Program) (K : TypeId) : VM P K (w.alloc (.map #[] 0)) w.heap.size 0 (fun _ => none) := ⟨.map [], World.ownsMap_made w P K RV, look_empty⟩
/-- every element of such a map is held -/
def AllHeld (D : DataW Value) : Prop := ∀ k, has D k = true → ∃ v, ∀ z, D.atKey k z = .held v
theorem all_held {D : DataW Value} (h : w.ownsMap P K RV b n D) (L : Keyed P K) : AllHeld D := by
  intro k hk
  obtain ⟨es, hD, hpw, hlit⟩ := h.entries L
  obtain ⟨es0, clock, hh, F, hs, hD2⟩ := h
  rw [hD2] at hk
  obtain ⟨p, hp, hpk⟩ := List.any_eq_true.1 hk
  have hp' : p ∈ es := by
    rw [hD2] at hD
    injection hD with hD
    rw [← hD]
    exact hp
  have ek := WideAt.sameKey_eq hpk
  have hv : ∃ v, p.2 = .held v := by
    obtain ⟨x, hx, rfl⟩ := List.mem_map.1 (mem_sorted.1 hp)
    obtain ⟨y, hy⟩ := F.reads x hx
    obtain ⟨z, hz, hzd⟩ := WideElems.rd_val hy
    refine ⟨x.val, ?_⟩
    rw [WideElems.rg_of hy, hzd]
    unfold RV at hz
    injection hz with hz
    rw [← hz]
  obtain ⟨v, hv⟩ := hv
  refine ⟨v, fun z => ?_⟩
  rw [← ek, hD, WideAt.atKey_mem z (hlit p hp') hpw hp', hv]
theorem look_some {D : DataW Value} (h : AllHeld D) {k : Lit} {v : Value} : look D k = some v ↔ has D k = true ∧ ∀ z, D.atKey k z = .held v := by
  unfold look
  constructor
  · intro hl
    split at hl
    · rename_i hk
      obtain ⟨u, hu⟩ := h k hk
      rw [hu] at hl
      injection hl with hl
      subst hl
      exact ⟨hk, hu⟩
    · cases hl
  · rintro ⟨hk, hu⟩
    rw [if_pos hk, hu]
theorem look_none {D : DataW Value} (h : AllHeld D) {k : Lit} : look D k = none ↔ has D k = false := by
  unfold look
  constructor
  · intro hl
    split at hl
    · rename_i hk
      obtain ⟨u, hu⟩ := h k hk
      rw [hu] at hl
      cases hl
    · rename_i hk
      cases hb : has D k
      · rfl
      · exact absurd hb hk
  · intro hk
    rw [if_neg (by rw [hk]; simp)]
theorem look_has {D : DataW Value} (h : AllHeld D) (k : Lit) : has D k = (look D k).isSome := by
  cases hl : look D k with
  | none => exact (look_none h).1 hl
  | some v => exact ((look_some h).1 hl).1
theorem look_put {D : DataW Value} (hD : IsMap D) {k : Lit} (hk : WideAt.IsKeyLit k) (v : Value) : look (D.put k (.held v)) = upd (look D) k (some v) := by
  funext x
  by_cases hx : x = k
  · subst hx
    rw [upd_same]
    unfold look
    rw [has_put_same hD hk, if_pos rfl, atKey_put_same hD hk]
  · rw [upd_other _ _ hx]
    unfold look
    rw [has_put_other hx, atKey_put_other hx]
theorem look_del {D : DataW Value} {k : Lit} : look (D.del k) = upd (look D) k none := by
  funext x
  by_cases hx : x = k
  · subst hx
    rw [upd_same]
    unfold look
    rw [has_del_same, if_neg (by simp)]
  · rw [upd_other _ _ hx]
    unfold look
    rw [has_del_other hx, atKey_del_other hx]
/-- 'v, ok := m[k]' -/
theorem VM.run_look {t e : TypeId} (h : VM P K w b n f) (L : Keyed P K) (ht : P.underlying t = some (.map K e)) {z : Value} (hz : (zeroValue e).run P w = .ok z w) {key : Value} {kl : Lit} (hkey : keyOf P K key = some kl) :
    (Instr.lookup t (.map (some b)) key true).run P w = .ok (.tuple #[(f kl).getD z, .bool (f kl).isSome]) w := by
  obtain ⟨D, hD, rfl⟩ := h
  have ha := all_held hD L
  obtain ⟨v, ps, hrun, hv⟩ := hD.look_ok L ht hz (zd := .held z) (zp := []) rfl hkey
  rw [hrun, look_has ha]
  have hv2 : D.atKey kl (.held z) = .held v := by unfold RV at hv; injection hv with hv; injection hv with hv _; exact hv.symm
  have : v = (look D kl).getD z := by
    cases hl : look D kl with
    | none =>
      have := atKey_of_not_has ((look_none ha).1 hl) (.held z)
      rw [this] at hv2
      injection hv2 with hv2
      exact hv2.symm
    | some u =>
      have := ((look_some ha).1 hl).2 (.held z)
      rw [this] at hv2
      injection hv2 with hv2
      exact hv2.symm
  rw [this]
/-- 'm[k]' -/
theorem VM.run_look1 {t e : TypeId} (h : VM P K w b n f) (L : Keyed P K) (ht : P.underlying t = some (.map K e)) {z : Value} (hz : (zeroValue e).run P w = .ok z w) {key : Value} {kl : Lit} (hkey : keyOf P K key = some kl) :
    (Instr.lookup t (.map (some b)) key false).run P w = .ok ((f kl).getD z) w := by
  obtain ⟨D, hD, rfl⟩ := h
  have ha := all_held hD L
  obtain ⟨v, ps, hrun, hv⟩ := hD.lookup L ht hz (zd := .held z) (zp := []) rfl hkey
  rw [hrun]
  have hv2 : D.atKey kl (.held z) = .held v := by unfold RV at hv; injection hv with hv; injection hv with hv _; exact hv.symm
  have : v = (look D kl).getD z := by
    cases hl : look D kl with
    | none =>
      have := atKey_of_not_has ((look_none ha).1 hl) (.held z)
      rw [this] at hv2
      injection hv2 with hv2
      exact hv2.symm
    | some u =>
      have := ((look_some ha).1 hl).2 (.held z)
      rw [this] at hv2
      injection hv2 with hv2
      exact hv2.symm
  rw [this]
theorem VM.run_len {t e : TypeId} (h : VM P K w b n f) (ht : P.underlying t = some (.map K e)) (ty : TypeId) : ∃ k, k ≤ n ∧ (Builtin.len_ #[t] ty #[.map (some b)]).run P w = .ok (.int .i64 (k : Nat)) w := by
  obtain ⟨D, hD, _⟩ := h
  exact ⟨_, hD.size_le, hD.len ht ty⟩
/-- how many entries such a map has: none just if it holds nothing -/
theorem VM.run_len0 {t e : TypeId} (L : Keyed P K) (h : VM P K w b n f) (ht : P.underlying t = some (.map K e)) (ty : TypeId) : ∃ k, k ≤ n ∧ (k = 0 ↔ ∀ x, f x = none) ∧ (Builtin.len_ #[t] ty #[.map (some b)]).run P w = .ok (.int .i64 (k : Nat)) w := by
  obtain ⟨D, hD, hf⟩ := h
  refine ⟨_, hD.size_le, ?_, hD.len ht ty⟩
  obtain ⟨es, rfl, hpw, hlit⟩ := hD.entries L
  subst hf
  constructor
  · intro h0 x
    have : es = [] := List.eq_nil_of_length_eq_zero h0
    subst this
    exact congrFun look_empty x
  · intro hn
    cases es with
    | nil => rfl
    | cons p es =>
      exfalso
      have hk : has (.map (p :: es)) p.1 = true := List.any_eq_true.2 ⟨p, List.mem_cons_self, WideAt.sameKey_self (hlit p List.mem_cons_self)⟩
      obtain ⟨v, hv⟩ := all_held hD L p.1 hk
      have := hn p.1
      unfold look at this
      rw [if_pos hk, hv] at this
      cases this
end
section
variable {P : Program} {w : World} {ops : Array Oper} {rest : List Oper} {o : Oper} {a : Act} {Q : Exit → Act → World → Prop} {b n : Nat} {f : Lit → Option Value}
/-- 'm[k] = v' -/
theorem wpList_put (hg : o.guard = none) (m x v : Operand) (t : TypeId) (hop : o.op = Op.mapUpdate t m x v) (K e : TypeId) (L : Keyed P K) (ht : P.underlying t = some (.map K e))
    (hm : a.eval m = .map (some b)) (h : VM P K w b n f) (hn : n < maxLen) {key val : Value} {kl : Lit} (hx : a.eval x = key) (hv : a.eval v = val) (hkey : keyOf P K key = some kl)
    (hK : ∀ w', VM P K w' b (n + 1) (upd f kl (some val)) → Only [b] w w' → wpList P ops Q rest (a.put o.dst undef) w') : wpList P ops Q (o :: rest) a w := by
  obtain ⟨D, hD, rfl⟩ := h
  refine wpList_mapUpdate_own w hg m x v t hop K e L ht RV b n D hm hD hn key val kl hx hv hkey (.held val) [] rfl ?_
  intro w' h1 h2
  exact hK w' ⟨_, h1, look_put hD.isMap (L.key hkey) val⟩ (Only.of_grown h2)
/-- 'delete(m, k)' -/
theorem wpList_drop (hg : o.guard = none) (m x : Operand) (t K : TypeId) (hop : o.op = Op.call { callee := Callee.builtin Builtin.delete, args := #[m, x], argTypes := #[t, K] }) (e : TypeId) (L : Keyed P K) (ht : P.underlying t = some (.map K e))
    (hm : a.eval m = .map (some b)) (h : VM P K w b n f) {key : Value} {kl : Lit} (hx : a.eval x = key) (hkey : keyOf P K key = some kl)
    (hK : ∀ w', VM P K w' b n (upd f kl none) → Only [b] w w' → wpList P ops Q rest (a.put o.dst (.tuple #[])) w') : wpList P ops Q (o :: rest) a w := by
  obtain ⟨D, hD, rfl⟩ := h
  refine wpList_plain hg fun K' hK' => ?_
  obtain ⟨w', hrun, r1, r2⟩ := hD.drop L ht hkey o.type
  unfold Oper.wp
  simp [execOp, hop, resolve, invoke, builtin, hm, hx, hrun, Result.andThen]
  exact hK' _ _ (hK w' ⟨_, r1, look_del⟩ (Only.of_grown r2.grown))
/-- 'len(m)' (at_len): none just if the map holds nothing -/
theorem wpList_lenV (hg : o.guard = none) (m : Operand) (t : TypeId) (hop : o.op = Op.call { callee := Callee.builtin Builtin.len, args := #[m], argTypes := #[t] }) (K e : TypeId) (L : Keyed P K) (ht : P.underlying t = some (.map K e))
    (hm : a.eval m = .map (some b)) (h : VM P K w b n f) (hK : ∀ k : Nat, k ≤ n → (k = 0 ↔ ∀ x, f x = none) → wpList P ops Q rest (a.put o.dst (.int .i64 k)) w) : wpList P ops Q (o :: rest) a w := by
  obtain ⟨k, h1, h2, hrun⟩ := h.run_len0 L ht o.type
  refine wpList_plain hg fun K' hK' => ?_
  unfold Oper.wp
  simp [execOp, hop, resolve, invoke, builtin, hm, hrun, Result.andThen]
  exact hK' _ _ (hK k h1 h2)
/-- 'm[k] = v' in a region that draws its order -/
theorem step_put {K1 : Act → World → Prop} {E : Prop} (hg : o.guard = none) (m x v : Operand) (t : TypeId) (hop : o.op = Op.mapUpdate t m x v) (K e : TypeId) (L : Keyed P K) (ht : P.underlying t = some (.map K e))
    (hm : a.eval m = .map (some b)) (h : VM P K w b n f) (hn : n < maxLen) {key val : Value} {kl : Lit} (hx : a.eval x = key) (hv : a.eval v = val) (hkey : keyOf P K key = some kl)
    (hK : ∀ w', VM P K w' b (n + 1) (upd f kl (some val)) → Only [b] w w' → K1 (a.put o.dst undef) w') : if Region.wanted o (yielded ops a.tmps) = true then Oper.wp P o a w K1 Q else E := by
  rw [if_pos (by simp [Region.wanted, hg])]
  obtain ⟨D, hD, rfl⟩ := h
  obtain ⟨w', hrun, r1, r2⟩ := hD.update L ht hn hkey (d := .held val) (ps := []) rfl
  unfold Oper.wp
  simp [execOp, hop, hm, hx, hv, hrun, Result.andThen]
  exact hK w' ⟨_, r1, look_put hD.isMap (L.key hkey) val⟩ (Only.of_grown r2)
/-- 'm[k] = v', as the instruction runs -/
theorem VM.run_put (t : TypeId) {K e : TypeId} (L : Keyed P K) (ht : P.underlying t = some (.map K e)) (h : VM P K w b n f) (hn : n < maxLen) {key : Value} (val : Value) {kl : Lit} (hkey : keyOf P K key = some kl) :
    ∃ w', (Instr.mapUpdate t (.map (some b)) key val).run P w = .ok () w' ∧ VM P K w' b (n + 1) (upd f kl (some val)) ∧ Only [b] w w' := by
  obtain ⟨D, hD, rfl⟩ := h
  obtain ⟨w', hrun, r1, r2⟩ := hD.update L ht hn hkey (d := .held val) (ps := []) rfl
  exact ⟨w', hrun, ⟨_, r1, look_put hD.isMap (L.key hkey) val⟩, Only.of_grown r2⟩
/-- 'delete(m, k)' in a region that draws its order -/
theorem step_drop {K1 : Act → World → Prop} {E : Prop} (hg : o.guard = none) (m x : Operand) (t K : TypeId) (hop : o.op = Op.call { callee := Callee.builtin Builtin.delete, args := #[m, x], argTypes := #[t, K] }) (e : TypeId) (L : Keyed P K) (ht : P.underlying t = some (.map K e))
    (hm : a.eval m = .map (some b)) (h : VM P K w b n f) {key : Value} {kl : Lit} (hx : a.eval x = key) (hkey : keyOf P K key = some kl)
    (hK : ∀ w', VM P K w' b n (upd f kl none) → Only [b] w w' → K1 (a.put o.dst (.tuple #[])) w') : if Region.wanted o (yielded ops a.tmps) = true then Oper.wp P o a w K1 Q else E := by
  rw [if_pos (by simp [Region.wanted, hg])]
  obtain ⟨D, hD, rfl⟩ := h
  obtain ⟨w', hrun, r1, r2⟩ := hD.drop L ht hkey o.type
  unfold Oper.wp
  simp [execOp, hop, resolve, invoke, builtin, hm, hx, hrun, Result.andThen]
  exact hK w' ⟨_, r1, look_del⟩ (Only.of_grown r2.grown)
end
end Go.Proofs.Ytkdacemachejoaa
namespace Go.Proofs.Ytkdacemachejoaa
open Go.RowKit Go.Maps Go.ChangeMaps Go.MapKept
set_option linter.unusedVariables false
section
variable {P : Program} {K : TypeId} {w w' : World} {b r n : Nat} {f : Lit → Option Value} {S : List Nat} {left : Lit → Bool} {cnt : Nat}
/-- a range over the map in block b, by the iterator in block r: 'left': what is still to come -/
def VR (P : Program) (K : TypeId) (w : World) (b r n : Nat) (f : Lit → Option Value) (left : Lit → Bool) (cnt : Nat) : Prop := ∃ D : DataW Value, w.ranges P K RV b r n D left cnt ∧ look D = f
theorem VR.owns (h : VR P K w b r n f left cnt) : VM P K w b n f := by obtain ⟨D, hD, hf⟩ := h; exact ⟨D, hD.owns, hf⟩
theorem VR.only (h : VR P K w b r n f left cnt) (ho : Only S w w') (hb : b ∉ S) (hr : r ∉ S) : VR P K w' b r n f left cnt := by
  obtain ⟨D, hD, hf⟩ := h
  have h1 := hD.owns.lt
  have h2 := hD.lt
  obtain ⟨es, clock, since, seen, c0, hh, F, hs, hDD, hit, rest⟩ := hD
  exact ⟨D, ⟨es, clock, since, seen, c0, (ho.block b h1 hb).trans hh, F, hs, hDD, (ho.block r h2 hr).trans hit, rest⟩, hf⟩
theorem VR.lt (h : VR P K w b r n f left cnt) : r < w.heap.size := by obtain ⟨D, hD, _⟩ := h; exact hD.lt
theorem VR.ne (h : VR P K w b r n f left cnt) : r ≠ b := by obtain ⟨D, hD, _⟩ := h; exact hD.ne
theorem VR.left_eq (h : VR P K w b r n f left cnt) : w.rangeLeft b r = cnt := by obtain ⟨D, hD, _⟩ := h; exact hD.left_eq
end
section
variable {P : Program} {w : World} {ops : Array Oper} {rest : List Oper} {o : Oper} {a : Act} {Q : Exit → Act → World → Prop} {b r n : Nat} {f : Lit → Option Value} {left : Lit → Bool} {cnt : Nat}
/-- 'range m' -/
theorem wpList_rangeV (hg : o.guard = none) (m : Operand) (t : TypeId) (hop : o.op = Op.range t m) (K e : TypeId) (L : Keyed P K) (ht : P.underlying t = some (.map K e))
    (hm : a.eval m = .map (some b)) (h : VM P K w b n f)
    (hK : ∀ w' cnt, VR P K w' b w.heap.size n f (fun k => (f k).isSome) cnt → cnt ≤ n → Only [] w w' → w'.heap.size = w.heap.size + 1 → wpList P ops Q rest (a.put o.dst (.pointer (some ⟨w.heap.size, 0, none⟩))) w') :
    wpList P ops Q (o :: rest) a w := by
  obtain ⟨D, hD, rfl⟩ := h
  have ha := all_held hD L
  refine wpList_range_own w hg m t hop K e L ht RV b n D hm hD ?_
  intro w' h1 h2 h3
  refine hK w' (size D) ⟨D, ?_, rfl⟩ hD.size_le (Only.of_grown h2) h3
  have : (fun k => (look D k).isSome) = has D := by funext k; exact (look_has ha k).symm
  rw [this]
  exact h1
/-- the step, keys that are texts -/
theorem wpList_nextS {β : Type} (hg : o.guard = none) (it : Operand) (hop : o.op = Op.next it false) (K : TypeId) (hk : P.underlying K = some .string) (mkV : β → Value)
    (hit : a.eval it = .pointer (some ⟨r, 0, none⟩)) (h : VR P K w b r n f left cnt) (invV : ∀ k v, f k = some v → ∃ c, v = mkV c)
    (hDone : (∀ k, left k = false) → wpList P ops Q rest (a.put o.dst (.tuple #[.bool false])) w)
    (hMore : ∀ (s : ByteArray) (c : β) (w' : World) (cnt' : Nat), s.size ≤ maxLen → left (.string s.data.toList) = true → f (.string s.data.toList) = some (mkV c) → VR P K w' b r n f (fun z => left z && !z.sameKey (.string s.data.toList)) cnt' → cnt' < cnt →
      Only [r] w w' → w'.heap.size = w.heap.size → (Instr.entry (.pointer (some ⟨r, 0, none⟩))).run P w' = .ok (.tuple #[.string s, mkV c]) w' → wpList P ops Q rest (a.put o.dst (.tuple #[.bool true, .string s, mkV c])) w') :
    wpList P ops Q (o :: rest) a w := by
  obtain ⟨D, hD, rfl⟩ := h
  have L : Keyed P K := string_keyed hk
  have ha := all_held hD.owns L
  refine wpList_plain hg fun K' hK' => ?_
  unfold Oper.wp
  rcases hD.next L o.type with ⟨h0, hl, hrun⟩ | ⟨key, v, kl, y, w', cnt', hkey, hlk, hv, hat, hrun, hrg, hlt, hgr, hsz, hen⟩
  · simp [execOp, hop, hit, hrun, Result.andThen]
    exact hK' _ _ (hDone hl)
  · obtain ⟨s, rfl⟩ := Maps.keyOf_string_inv hk hkey
    have hs : s.size ≤ maxLen ∧ kl = .string s.data.toList := by
      simp [keyOf, hk, mapKey] at hkey
      exact ⟨hkey.1, hkey.2.symm⟩
    obtain ⟨hs, rfl⟩ := hs
    have hl : look D (.string s.data.toList) = some v := by
      refine (look_some ha).2 ⟨has_true_of_atKey hat, fun z => ?_⟩
      rw [hat z]
      unfold RV at hv
      injection hv with hv
      rw [← hv]
    obtain ⟨c, rfl⟩ := invV _ _ hl
    simp [execOp, hop, hit, hrun, Result.andThen]
    exact hK' _ _ (hMore s c w' cnt' hs hlk hl ⟨D, hrg, rfl⟩ hlt (Only.of_grown hgr) hsz hen)
end
/-- the keys of a map, sorted -/
def KeysL (f : Lit → Option Value) (ss : List (List UInt8)) : Prop := ss.Pairwise (fun a b => leB a b = true) ∧ ss.Nodup ∧ ∀ x, x ∈ ss ↔ (f (.string x)).isSome = true
theorem KeysL.uniq {f : Lit → Option Value} {a b : List (List UInt8)} (ha : KeysL f a) (hb : KeysL f b) : a = b := by
  refine List.Perm.eq_of_pairwise (le := fun a b => leB a b = true) (fun x y _ _ h1 h2 => ?_) ha.1 hb.1 ((List.perm_ext_iff_of_nodup ha.2.1 hb.2.1).2 fun x => by rw [ha.2.2, hb.2.2])
  simp only [leB, decide_eq_true_eq] at h1 h2
  exact List.le_antisymm h1 h2
theorem KeysL.congr {f g : Lit → Option Value} {a b : List (List UInt8)} (ha : KeysL f a) (hb : KeysL g b) (h : ∀ x, (f (.string x)).isSome = (g (.string x)).isSome) : a = b :=
  ha.uniq ⟨hb.1, hb.2.1, fun x => by rw [hb.2.2, h]⟩
section
variable {P : Program} {K : TypeId} {w : World} {b n : Nat} {D : DataW Value}
theorem strKeys_nodup (hD : w.ownsMap P K RV b n D) (hk : P.underlying K = some .string) : (strKeys D).Nodup ∧ (∀ x, x ∈ strKeys D ↔ has D (.string x) = true) ∧ (strKeys D).length ≤ n := by
  have hsz := hD.size_le
  obtain ⟨es, rfl, hpw, hlit⟩ := hD.entries (string_keyed hk)
  obtain ⟨es', he, hks⟩ := hD.keysOf
  injection he with he
  subst he
  have hstr : ∀ p ∈ es, ∃ x, p.1 = .string x := fun p hp => by
    obtain ⟨v, hv⟩ := hks p hp
    obtain ⟨x, _, hx, _⟩ := Maps.keyOf_str hk hv
    exact ⟨x, hx⟩
  refine ⟨?_, fun x => ?_, by simpa [strKeys, size] using hsz⟩
  · show (es.map fun p => strOf p.1).Nodup
    refine List.pairwise_map.2 (hpw.imp_of_mem fun {p q} hp' hq' hne e => hne ?_)
    obtain ⟨a, ha⟩ := hstr p hp'
    obtain ⟨c, hc⟩ := hstr q hq'
    rw [ha, hc] at e ⊢
    exact congrArg _ e
  · rw [has_eq, List.any_eq_true]
    show x ∈ (es.map fun p => strOf p.1) ↔ _
    rw [List.mem_map]
    constructor
    · rintro ⟨p, hp, rfl⟩
      obtain ⟨a, ha⟩ := hstr p hp
      exact ⟨p, hp, by rw [ha]; exact WideAt.sameKey_self (by trivial)⟩
    · rintro ⟨p, hp, hs⟩
      exact ⟨p, hp, by rw [WideAt.sameKey_eq hs]; rfl⟩
theorem keysL_of (hD : w.ownsMap P K RV b n D) (hk : P.underlying K = some .string) {ss : List (List UInt8)} (hp : ss.Perm (strKeys D)) : KeysL (look D) (ss.mergeSort (fun x y => decide (x ≤ y))) ∧ ss.length ≤ n := by
  obtain ⟨h1, h2, h3⟩ := strKeys_nodup hD hk
  have ha := all_held hD (string_keyed hk)
  have tr : ∀ a b c : List UInt8, leB a b = true → leB b c = true → leB a c = true := fun a b c h1 h2 => by simp only [leB, decide_eq_true_eq] at *; exact List.le_trans h1 h2
  have to : ∀ a b : List UInt8, (leB a b || leB b a) = true := fun a b => by simp only [leB, Bool.or_eq_true, decide_eq_true_eq]; exact List.le_total a b
  refine ⟨⟨List.pairwise_mergeSort tr to ss, ?_, fun x => ?_⟩, by rw [hp.length_eq]; exact h3⟩
  · exact ((List.mergeSort_perm ss leB).trans hp).nodup_iff.2 h1
  · rw [(List.mergeSort_perm ss leB).mem_iff, hp.mem_iff, h2, look_has ha]
end
theorem singles_len (ss : List (List UInt8)) : ∀ r ∈ (ss.map fun x => [Go.Proofs.encStr x]), r.length = 1 := by
  intro r hr
  obtain ⟨x, _, rfl⟩ := List.mem_map.1 hr
  rfl
theorem singles_flat (ss : List (List UInt8)) : (ss.map fun x => [Go.Proofs.encStr x]).flatten = ss.map Go.Proofs.encStr := by
  induction ss with
  | nil => rfl
  | cons x ss ih => simp [ih]
end Go.Proofs.Ytkdacemachejoaa
namespace Go.Proofs.Ytkdacemachejoaa
open Go.RowKit Go.Maps Go.ChangeMaps Go.MapKept
open Go.WideElems (Fit rd rg pl rd_val elemAt)
set_option linter.unusedVariables false
section
variable {P : Program} {K : TypeId} {w w' : World} {b n : Nat} {f : Lit → Option Value}
theorem run_clearV {t e : TypeId} (ht : P.underlying t = some (.map K e)) (h : VM P K w b n f) (ty : TypeId) :
    ∃ w', (Builtin.clear_ #[t] ty #[.map (some b)]).run P w = .ok (.tuple #[]) w' ∧ VM P K w' b 0 (fun _ => none) ∧ Only [b] w w' := by
  obtain ⟨D, ⟨es, clock, hb, F, hs, rfl⟩, rfl⟩ := h
  refine ⟨{ w with heap := w.heap.setIfInBounds b (.map #[] clock) }, ?_, ⟨.map [], ⟨#[], clock, ?_, ⟨by simp, stamped_empty clock, by simp⟩, Nat.le_refl _, rfl⟩, look_empty⟩, ?_⟩
  · simp [Builtin.clear_, run_underlying ht, Go.MapKept.run_getObj_map hb, Go.MapKept.run_setObj_map _ hb, Result.andThen]
  · exact (heap_set hb).1
  · refine ⟨rfl, rfl, rfl, by simp, fun i hi hn => ?_⟩
    have hne : i ≠ b := fun e => hn (by simp [e])
    show (w.heap.setIfInBounds b (.map #[] clock))[i]? = w.heap[i]?
    rw [Array.getElem?_setIfInBounds_ne (fun e => hne e.symm)]
theorem wpList_clearV {ops : Array Oper} {rest : List Oper} {o : Oper} {a : Act} {Q : Exit → Act → World → Prop} (hg : o.guard = none) (m : Operand) (t : TypeId) (hop : o.op = Op.call { callee := Callee.builtin Builtin.clear, args := #[m], argTypes := #[t] }) (e : TypeId) (ht : P.underlying t = some (.map K e))
    (hm : a.eval m = .map (some b)) (h : VM P K w b n f) (hK : ∀ w', VM P K w' b 0 (fun _ => none) → Only [b] w w' → wpList P ops Q rest (a.put o.dst (.tuple #[])) w') : wpList P ops Q (o :: rest) a w := by
  obtain ⟨w', hrun, r1, r2⟩ := run_clearV ht h o.type
  refine wpList_plain hg fun K' hK' => ?_
  unfold Oper.wp
  simp [execOp, hop, resolve, invoke, builtin, hm, hrun, Result.andThen]
  exact hK' _ _ (hK w' r1 r2)
theorem nodup_le {α : Type} [DecidableEq α] : ∀ {A B : List α}, A.Nodup → (∀ a ∈ A, a ∈ B) → A.length ≤ B.length
  | [], B, _, _ => Nat.zero_le _
  | a :: A, B, hn, hs => by
    have hm := hs a List.mem_cons_self
    have hp := List.perm_cons_erase hm
    rw [List.nodup_cons] at hn
    have := nodup_le (A := A) (B := B.erase a) hn.2 (fun x hx => (List.mem_erase_of_ne (fun e : x = a => hn.1 (by rw [← e]; exact hx))).2 (hs x (List.mem_cons_of_mem _ hx)))
    have := hp.length_eq
    simp at this ⊢
    omega
/-- a map has no more entries than there are keys -/
theorem VM.tight (L : Keyed P K) (h : VM P K w b n f) {ks : List Lit} (hks : ∀ k, (f k).isSome = true → k ∈ ks) : VM P K w b ks.length f := by
  obtain ⟨D, hD, rfl⟩ := h
  obtain ⟨es, he, hpw, hlit⟩ := hD.entries L
  have hdec : DecidableEq Lit := fun a b => Classical.propDecidable (a = b)
  have hsz : Maps.size D ≤ ks.length := by
    subst he
    have hn : (es.map (·.1)).Nodup := by
      rw [List.Nodup, List.pairwise_map]
      exact hpw
    have := nodup_le (A := es.map (·.1)) (B := ks) hn (fun k hk => by
      obtain ⟨p, hp, rfl⟩ := List.mem_map.1 hk
      refine hks _ ?_
      have hh : has (.map es) p.1 = true := List.any_eq_true.2 ⟨p, hp, WideAt.sameKey_self (hlit p hp)⟩
      rw [← look_has (all_held hD L)]
      exact hh)
    simpa [Maps.size] using this
  obtain ⟨es2, clock, hb, F, hs, hD2⟩ := hD
  refine ⟨D, ⟨es2, clock, hb, F, ?_, hD2⟩, rfl⟩
  subst hD2
  simpa [Maps.size, length_sorted] using hsz
end
section
variable {P : Program} {w : World} {ops : Array Oper} {rest : List Oper} {o : Oper} {a : Act} {Q : Exit → Act → World → Prop} {b r n : Nat} {f : Lit → Option Value} {left : Lit → Bool} {cnt : Nat}
/-- the step, keys that are numbers -/
theorem wpList_nextI {β : Type} (hg : o.guard = none) (it : Operand) (hop : o.op = Op.next it false) (K : TypeId) (hk : P.underlying K = some (.int .i64)) (mkV : β → Value)
    (hit : a.eval it = .pointer (some ⟨r, 0, none⟩)) (h : VR P K w b r n f left cnt) (invV : ∀ k v, f k = some v → ∃ c, v = mkV c)
    (hDone : (∀ k, left k = false) → wpList P ops Q rest (a.put o.dst (.tuple #[.bool false])) w)
    (hMore : ∀ (s : Int) (c : β) (w' : World) (cnt' : Nat), left (.int .i64 s) = true → f (.int .i64 s) = some (mkV c) → VR P K w' b r n f (fun z => left z && !z.sameKey (.int .i64 s)) cnt' → cnt' < cnt →
      Only [r] w w' → w'.heap.size = w.heap.size → (Instr.entry (.pointer (some ⟨r, 0, none⟩))).run P w' = .ok (.tuple #[.int .i64 s, mkV c]) w' → wpList P ops Q rest (a.put o.dst (.tuple #[.bool true, .int .i64 s, mkV c])) w') :
    wpList P ops Q (o :: rest) a w := by
  obtain ⟨D, hD, rfl⟩ := h
  have L : Keyed P K := int_keyed hk
  have ha := all_held hD.owns L
  refine wpList_plain hg fun K' hK' => ?_
  unfold Oper.wp
  rcases hD.next L o.type with ⟨h0, hl, hrun⟩ | ⟨key, v, kl, y, w', cnt', hkey, hlk, hv, hat, hrun, hrg, hlt, hgr, hsz, hen⟩
  · simp [execOp, hop, hit, hrun, Result.andThen]
    exact hK' _ _ (hDone hl)
  · obtain ⟨s, rfl, rfl, _⟩ := Maps.keyOf_i64 hk hkey
    have hz : encZ s = .int .i64 s := rfl
    rw [hz] at hrun hen
    have hl : look D (.int .i64 s) = some v := by
      refine (look_some ha).2 ⟨has_true_of_atKey hat, fun z => ?_⟩
      rw [hat z]
      unfold RV at hv
      injection hv with hv
      rw [← hv]
    obtain ⟨c, rfl⟩ := invV _ _ hl
    simp [execOp, hop, hit, hrun, Result.andThen]
    exact hK' _ _ (hMore s c w' cnt' hlk hl ⟨D, hrg, rfl⟩ hlt (Only.of_grown hgr) hsz hen)
end
/-- the keys of a map, sorted -/
def KeysI (f : Lit → Option Value) (ss : List Int) : Prop := ss.Pairwise (fun a b => a ≤ b) ∧ ss.Nodup ∧ ∀ x, x ∈ ss ↔ (f (.int .i64 x)).isSome = true
theorem KeysI.uniq {f : Lit → Option Value} {a b : List Int} (ha : KeysI f a) (hb : KeysI f b) : a = b :=
  List.Perm.eq_of_pairwise (le := fun a b => a ≤ b) (fun x y _ _ h1 h2 => Int.le_antisymm h1 h2) ha.1 hb.1 ((List.perm_ext_iff_of_nodup ha.2.1 hb.2.1).2 fun x => by rw [ha.2.2, hb.2.2])
section
variable {P : Program} {K : TypeId} {w : World} {b n : Nat} {D : DataW Value}
theorem intKeys_nodup (hD : w.ownsMap P K RV b n D) (hk : P.underlying K = some (.int .i64)) : (intKeys D).Nodup ∧ (∀ x, x ∈ intKeys D ↔ has D (.int .i64 x) = true) ∧ (intKeys D).length ≤ n := by
  have hsz := hD.size_le
  obtain ⟨es, rfl, hpw, hlit⟩ := hD.entries (int_keyed hk)
  obtain ⟨es', he, hks⟩ := hD.keysOf
  injection he with he
  subst he
  have hint : ∀ p ∈ es, ∃ x, p.1 = .int .i64 x := fun p hp => by
    obtain ⟨v, hv⟩ := hks p hp
    obtain ⟨x, _, hx, _⟩ := Maps.keyOf_i64 hk hv
    exact ⟨x, hx⟩
  refine ⟨?_, fun x => ?_, by simpa [intKeys, size] using hsz⟩
  · show (es.map fun p => intOf p.1).Nodup
    refine List.pairwise_map.2 (hpw.imp_of_mem fun {p q} hp' hq' hne e => hne ?_)
    obtain ⟨a, ha⟩ := hint p hp'
    obtain ⟨c, hc⟩ := hint q hq'
    rw [ha, hc] at e ⊢
    exact congrArg _ e
  · rw [has_eq, List.any_eq_true]
    show x ∈ (es.map fun p => intOf p.1) ↔ _
    rw [List.mem_map]
    constructor
    · rintro ⟨p, hp, rfl⟩
      obtain ⟨a, ha⟩ := hint p hp
      exact ⟨p, hp, by rw [ha]; exact WideAt.sameKey_self (by trivial)⟩
    · rintro ⟨p, hp, hs⟩
      exact ⟨p, hp, by rw [WideAt.sameKey_eq hs]; rfl⟩
theorem keysI_of (hD : w.ownsMap P K RV b n D) (hk : P.underlying K = some (.int .i64)) {ss : List Int} (hp : ss.Perm (intKeys D)) : KeysI (look D) (ss.mergeSort (fun x y => decide (x ≤ y))) ∧ ss.length ≤ n := by
  obtain ⟨h1, h2, h3⟩ := intKeys_nodup hD hk
  have ha := all_held hD (int_keyed hk)
  have tr : ∀ a b c : Int, leI a b = true → leI b c = true → leI a c = true := fun a b c h1 h2 => by simp only [leI, decide_eq_true_eq] at *; omega
  have to : ∀ a b : Int, (leI a b || leI b a) = true := fun a b => by simp only [leI, Bool.or_eq_true, decide_eq_true_eq]; omega
  refine ⟨⟨(List.pairwise_mergeSort tr to ss).imp (fun h => of_decide_eq_true h), ?_, fun x => ?_⟩, by rw [hp.length_eq]; exact h3⟩
  · exact ((List.mergeSort_perm ss leI).trans hp).nodup_iff.2 h1
  · rw [(List.mergeSort_perm ss leI).mem_iff, hp.mem_iff, h2, look_has ha]
end
end Go.Proofs.Ytkdacemachejoaa
