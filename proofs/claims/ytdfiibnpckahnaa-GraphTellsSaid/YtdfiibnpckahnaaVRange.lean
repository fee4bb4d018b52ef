/- Ranges over maps that are functions of their keys; their keys, sorted. -/
import Derived.Test.YtdfiibnpckahnaaVMap
import Derived.Test.YtdfiibnpckahnaaRecs
import Derived.Sort.MapsRangeIn
namespace Go.Proofs.Ytdfiibnpckahnaa
open Go.RowKit Go.Maps Go.ChangeMaps Go.MapKept
set_option linter.unusedVariables false
section
variable {P : Program} {K : TypeId} {w w' : World} {b r n : Nat} {f : Lit → Option Value} {S : List Nat} {left : Lit → Bool} {cnt : Nat}
/-- a range over the map in block b, by the iterator in block r: 'left': what is still to come -/
def VR (P : Program) (K : TypeId) (w : World) (b r n : Nat) (f : Lit → Option Value) (left : Lit → Bool) (cnt : Nat) : Prop := ∃ D : DataW Value, w.ranges P K RV b r n D left cnt ∧ look D = f
theorem VR.owns (h : VR P K w b r n f left cnt) : VM P K w b n f := by obtain ⟨D, hD, hf⟩ := h; exact ⟨D, hD.owns, hf⟩
theorem VR.only (h : VR P K w b r n f left cnt) (ho : Only S w w') (hb : b ∉ S) (hr : r ∉ S) : VR P K w' b r n f left cnt := by
  obtain ⟨D, hD, hf⟩ := h
  have h1 := hD.owns.lt
  have h2 := hD.lt
  obtain ⟨es, clock, since, seen, c0, hh, F, hs, hDD, hit, rest⟩ := hD
  exact ⟨D, ⟨es, clock, since, seen, c0, (ho.block b h1 hb).trans hh, F, hs, hDD, (ho.block r h2 hr).trans hit, rest⟩, hf⟩
theorem VR.lt (h : VR P K w b r n f left cnt) : r < w.heap.size := by obtain ⟨D, hD, _⟩ := h; exact hD.lt
theorem VR.ne (h : VR P K w b r n f left cnt) : r ≠ b := by obtain ⟨D, hD, _⟩ := h; exact hD.ne
theorem VR.left_eq (h : VR P K w b r n f left cnt) : w.rangeLeft b r = cnt := by obtain ⟨D, hD, _⟩ := h; exact hD.left_eq
end
section
variable {P : Program} {w : World} {ops : Array Oper} {rest : List Oper} {o : Oper} {a : Act} {Q : Exit → Act → World → Prop} {b r n : Nat} {f : Lit → Option Value} {left : Lit → Bool} {cnt : Nat}
/-- 'range m' -/
theorem wpList_rangeV (hg : o.guard = none) (m : Operand) (t : TypeId) (hop : o.op = Op.range t m) (K e : TypeId) (L : Keyed P K) (ht : P.underlying t = some (.map K e))
    (hm : a.eval m = .map (some b)) (h : VM P K w b n f)
    (hK : ∀ w' cnt, VR P K w' b w.heap.size n f (fun k => (f k).isSome) cnt → cnt ≤ n → Only [] w w' → w'.heap.size = w.heap.size + 1 → wpList P ops Q rest (a.put o.dst (.pointer (some ⟨w.heap.size, 0, none⟩))) w') :
    wpList P ops Q (o :: rest) a w := by
  obtain ⟨D, hD, rfl⟩ := h
  have ha := all_held hD L
  refine wpList_range_own w hg m t hop K e L ht RV b n D hm hD ?_
  intro w' h1 h2 h3
  refine hK w' (size D) ⟨D, ?_, rfl⟩ hD.size_le (Only.of_grown h2) h3
  have : (fun k => (look D k).isSome) = has D := by funext k; exact (look_has ha k).symm
  rw [this]
  exact h1
/-- the step, keys that are texts -/
theorem wpList_nextS {β : Type} (hg : o.guard = none) (it : Operand) (hop : o.op = Op.next it false) (K : TypeId) (hk : P.underlying K = some .string) (mkV : β → Value)
    (hit : a.eval it = .pointer (some ⟨r, 0, none⟩)) (h : VR P K w b r n f left cnt) (invV : ∀ k v, f k = some v → ∃ c, v = mkV c)
    (hDone : (∀ k, left k = false) → wpList P ops Q rest (a.put o.dst (.tuple #[.bool false])) w)
    (hMore : ∀ (s : ByteArray) (c : β) (w' : World) (cnt' : Nat), s.size ≤ maxLen → left (.string s.data.toList) = true → f (.string s.data.toList) = some (mkV c) → VR P K w' b r n f (fun z => left z && !z.sameKey (.string s.data.toList)) cnt' → cnt' < cnt →
      Only [r] w w' → w'.heap.size = w.heap.size → (Instr.entry (.pointer (some ⟨r, 0, none⟩))).run P w' = .ok (.tuple #[.string s, mkV c]) w' → wpList P ops Q rest (a.put o.dst (.tuple #[.bool true, .string s, mkV c])) w') :
    wpList P ops Q (o :: rest) a w := by
  obtain ⟨D, hD, rfl⟩ := h
  have L : Keyed P K := string_keyed hk
  have ha := all_held hD.owns L
  refine wpList_plain hg fun K' hK' => ?_
  unfold Oper.wp
  rcases hD.next L o.type with ⟨h0, hl, hrun⟩ | ⟨key, v, kl, y, w', cnt', hkey, hlk, hv, hat, hrun, hrg, hlt, hgr, hsz, hen⟩
  · simp [execOp, hop, hit, hrun, Result.andThen]
    exact hK' _ _ (hDone hl)
  · obtain ⟨s, rfl⟩ := Maps.keyOf_string_inv hk hkey
    have hs : s.size ≤ maxLen ∧ kl = .string s.data.toList := by
      simp [keyOf, hk, mapKey] at hkey
      exact ⟨hkey.1, hkey.2.symm⟩
    obtain ⟨hs, rfl⟩ := hs
    have hl : look D (.string s.data.toList) = some v := by
      refine (look_some ha).2 ⟨has_true_of_atKey hat, fun z => ?_⟩
      rw [hat z]
      unfold RV at hv
      injection hv with hv
      rw [← hv]
    obtain ⟨c, rfl⟩ := invV _ _ hl
    simp [execOp, hop, hit, hrun, Result.andThen]
    exact hK' _ _ (hMore s c w' cnt' hs hlk hl ⟨D, hrg, rfl⟩ hlt (Only.of_grown hgr) hsz hen)
end
/-- the keys of a map, sorted -/
def KeysL (f : Lit → Option Value) (ss : List (List UInt8)) : Prop := ss.Pairwise (fun a b => leB a b = true) ∧ ss.Nodup ∧ ∀ x, x ∈ ss ↔ (f (.string x)).isSome = true
theorem KeysL.uniq {f : Lit → Option Value} {a b : List (List UInt8)} (ha : KeysL f a) (hb : KeysL f b) : a = b := by
  refine List.Perm.eq_of_pairwise (le := fun a b => leB a b = true) (fun x y _ _ h1 h2 => ?_) ha.1 hb.1 ((List.perm_ext_iff_of_nodup ha.2.1 hb.2.1).2 fun x => by rw [ha.2.2, hb.2.2])
  simp only [leB, decide_eq_true_eq] at h1 h2
  exact List.le_antisymm h1 h2
theorem KeysL.congr {f g : Lit → Option Value} {a b : List (List UInt8)} (ha : KeysL f a) (hb : KeysL g b) (h : ∀ x, (f (.string x)).isSome = (g (.string x)).isSome) : a = b :=
  ha.uniq ⟨hb.1, hb.2.1, fun x => by rw [hb.2.2, h]⟩
section
variable {P : Program} {K : TypeId} {w : World} {b n : Nat} {D : DataW Value}
theorem strKeys_nodup (hD : w.ownsMap P K RV b n D) (hk : P.underlying K = some .string) : (strKeys D).Nodup ∧ (∀ x, x ∈ strKeys D ↔ has D (.string x) = true) ∧ (strKeys D).length ≤ n := by
  have hsz := hD.size_le
  obtain ⟨es, rfl, hpw, hlit⟩ := hD.entries (string_keyed hk)
  obtain ⟨es', he, hks⟩ := hD.keysOf
  injection he with he
  subst he
  have hstr : ∀ p ∈ es, ∃ x, p.1 = .string x := fun p hp => by
    obtain ⟨v, hv⟩ := hks p hp
    obtain ⟨x, _, hx, _⟩ := Maps.keyOf_str hk hv
    exact ⟨x, hx⟩
  refine ⟨?_, fun x => ?_, by simpa [strKeys, size] using hsz⟩
  · show (es.map fun p => strOf p.1).Nodup
    refine List.pairwise_map.2 (hpw.imp_of_mem fun {p q} hp' hq' hne e => hne ?_)
    obtain ⟨a, ha⟩ := hstr p hp'
    obtain ⟨c, hc⟩ := hstr q hq'
    rw [ha, hc] at e ⊢
    exact congrArg _ e
  · rw [has_eq, List.any_eq_true]
    show x ∈ (es.map fun p => strOf p.1) ↔ _
    rw [List.mem_map]
    constructor
    · rintro ⟨p, hp, rfl⟩
      obtain ⟨a, ha⟩ := hstr p hp
      exact ⟨p, hp, by rw [ha]; exact WideAt.sameKey_self (by trivial)⟩
    · rintro ⟨p, hp, hs⟩
      exact ⟨p, hp, by rw [WideAt.sameKey_eq hs]; rfl⟩
theorem keysL_of (hD : w.ownsMap P K RV b n D) (hk : P.underlying K = some .string) {ss : List (List UInt8)} (hp : ss.Perm (strKeys D)) : KeysL (look D) (ss.mergeSort (fun x y => decide (x ≤ y))) ∧ ss.length ≤ n := by
  obtain ⟨h1, h2, h3⟩ := strKeys_nodup hD hk
  have ha := all_held hD (string_keyed hk)
  have tr : ∀ a b c : List UInt8, leB a b = true → leB b c = true → leB a c = true := fun a b c h1 h2 => by simp only [leB, decide_eq_true_eq] at *; exact List.le_trans h1 h2
  have to : ∀ a b : List UInt8, (leB a b || leB b a) = true := fun a b => by simp only [leB, Bool.or_eq_true, decide_eq_true_eq]; exact List.le_total a b
  refine ⟨⟨List.pairwise_mergeSort tr to ss, ?_, fun x => ?_⟩, by rw [hp.length_eq]; exact h3⟩
  · exact ((List.mergeSort_perm ss leB).trans hp).nodup_iff.2 h1
  · rw [(List.mergeSort_perm ss leB).mem_iff, hp.mem_iff, h2, look_has ha]
end
theorem singles_len (ss : List (List UInt8)) : ∀ r ∈ (ss.map fun x => [Go.Proofs.encStr x]), r.length = 1 := by
  intro r hr
  obtain ⟨x, _, rfl⟩ := List.mem_map.1 hr
  rfl
theorem singles_flat (ss : List (List UInt8)) : (ss.map fun x => [Go.Proofs.encStr x]).flatten = ss.map Go.Proofs.encStr := by
  induction ss with
  | nil => rfl
  | cons x ss ih => simp [ih]
end Go.Proofs.Ytdfiibnpckahnaa
