/- Maps whose keys are numbers: clear, how many entries there may be, the step of a range. -/
import Derived.Test.YtgbicimbggdpgaaVMap
import Derived.Test.YtgbicimbggdpgaaVRange
import Derived.Lib.SlKeysI
import Derived.Sort.KeysCollected
namespace Go.Proofs.Ytgbicimbggdpgaa
open Go.RowKit Go.Maps Go.ChangeMaps Go.MapKept
open Go.WideElems (Fit rd rg pl rd_val elemAt)
set_option linter.unusedVariables false
section
variable {P : Program} {K : TypeId} {w w' : World} {b n : Nat} {f : Lit → Option Value}
theorem run_clearV {t e : TypeId} (ht : P.underlying t = some (.map K e)) (h : VM P K w b n f) (ty : TypeId) :
    ∃ w', (Builtin.clear_ #[t] ty #[.map (some b)]).run P w = .ok (.tuple #[]) w' ∧ VM P K w' b 0 (fun _ => none) ∧ Only [b] w w' := by
  obtain ⟨D, ⟨es, clock, hb, F, hs, rfl⟩, rfl⟩ := h
  refine ⟨{ w with heap := w.heap.setIfInBounds b (.map #[] clock) }, ?_, ⟨.map [], ⟨#[], clock, ?_, ⟨by simp, stamped_empty clock, by simp⟩, Nat.le_refl _, rfl⟩, look_empty⟩, ?_⟩
  · simp [Builtin.clear_, run_underlying ht, Go.MapKept.run_getObj_map hb, Go.MapKept.run_setObj_map _ hb, Result.andThen]
  · exact (heap_set hb).1
  · refine ⟨rfl, rfl, rfl, by simp, fun i hi hn => ?_⟩
    have hne : i ≠ b := fun e => hn (by simp [e])
    show (w.heap.setIfInBounds b (.map #[] clock))[i]? = w.heap[i]?
    rw [Array.getElem?_setIfInBounds_ne (fun e => hne e.symm)]
theorem wpList_clearV {ops : Array Oper} {rest : List Oper} {o : Oper} {a : Act} {Q : Exit → Act → World → Prop} (hg : o.guard = none) (m : Operand) (t : TypeId) (hop : o.op = Op.call { callee := Callee.builtin Builtin.clear, args := #[m], argTypes := #[t] }) (e : TypeId) (ht : P.underlying t = some (.map K e))
    (hm : a.eval m = .map (some b)) (h : VM P K w b n f) (hK : ∀ w', VM P K w' b 0 (fun _ => none) → Only [b] w w' → wpList P ops Q rest (a.put o.dst (.tuple #[])) w') : wpList P ops Q (o :: rest) a w := by
  obtain ⟨w', hrun, r1, r2⟩ := run_clearV ht h o.type
  refine wpList_plain hg fun K' hK' => ?_
  unfold Oper.wp
  simp [execOp, hop, resolve, invoke, builtin, hm, hrun, Result.andThen]
  exact hK' _ _ (hK w' r1 r2)
theorem nodup_le {α : Type} [DecidableEq α] : ∀ {A B : List α}, A.Nodup → (∀ a ∈ A, a ∈ B) → A.length ≤ B.length
  | [], B, _, _ => Nat.zero_le _
  | a :: A, B, hn, hs => by
    have hm := hs a List.mem_cons_self
    have hp := List.perm_cons_erase hm
    rw [List.nodup_cons] at hn
    have := nodup_le (A := A) (B := B.erase a) hn.2 (fun x hx => (List.mem_erase_of_ne (fun e : x = a => hn.1 (by rw [← e]; exact hx))).2 (hs x (List.mem_cons_of_mem _ hx)))
    have := hp.length_eq
    simp at this ⊢
    omega
/-- a map has no more entries than there are keys -/
theorem VM.tight (L : Keyed P K) (h : VM P K w b n f) {ks : List Lit} (hks : ∀ k, (f k).isSome = true → k ∈ ks) : VM P K w b ks.length f := by
  obtain ⟨D, hD, rfl⟩ := h
  obtain ⟨es, he, hpw, hlit⟩ := hD.entries L
  have hdec : DecidableEq Lit := fun a b => Classical.propDecidable (a = b)
  have hsz : Maps.size D ≤ ks.length := by
    subst he
    have hn : (es.map (·.1)).Nodup := by
      rw [List.Nodup, List.pairwise_map]
      exact hpw
    have := nodup_le (A := es.map (·.1)) (B := ks) hn (fun k hk => by
      obtain ⟨p, hp, rfl⟩ := List.mem_map.1 hk
      refine hks _ ?_
      have hh : has (.map es) p.1 = true := List.any_eq_true.2 ⟨p, hp, WideAt.sameKey_self (hlit p hp)⟩
      rw [← look_has (all_held hD L)]
      exact hh)
    simpa [Maps.size] using this
  obtain ⟨es2, clock, hb, F, hs, hD2⟩ := hD
  refine ⟨D, ⟨es2, clock, hb, F, ?_, hD2⟩, rfl⟩
  subst hD2
  simpa [Maps.size, length_sorted] using hsz
end
section
variable {P : Program} {w : World} {ops : Array Oper} {rest : List Oper} {o : Oper} {a : Act} {Q : Exit → Act → World → Prop} {b r n : Nat} {f : Lit → Option Value} {left : Lit → Bool} {cnt : Nat}
/-- the step, keys that are numbers -/
theorem wpList_nextI {β : Type} (hg : o.guard = none) (it : Operand) (hop : o.op = Op.next it false) (K : TypeId) (hk : P.underlying K = some (.int .i64)) (mkV : β → Value)
    (hit : a.eval it = .pointer (some ⟨r, 0, none⟩)) (h : VR P K w b r n f left cnt) (invV : ∀ k v, f k = some v → ∃ c, v = mkV c)
    (hDone : (∀ k, left k = false) → wpList P ops Q rest (a.put o.dst (.tuple #[.bool false])) w)
    (hMore : ∀ (s : Int) (c : β) (w' : World) (cnt' : Nat), left (.int .i64 s) = true → f (.int .i64 s) = some (mkV c) → VR P K w' b r n f (fun z => left z && !z.sameKey (.int .i64 s)) cnt' → cnt' < cnt →
      Only [r] w w' → w'.heap.size = w.heap.size → (Instr.entry (.pointer (some ⟨r, 0, none⟩))).run P w' = .ok (.tuple #[.int .i64 s, mkV c]) w' → wpList P ops Q rest (a.put o.dst (.tuple #[.bool true, .int .i64 s, mkV c])) w') :
    wpList P ops Q (o :: rest) a w := by
  obtain ⟨D, hD, rfl⟩ := h
  have L : Keyed P K := int_keyed hk
  have ha := all_held hD.owns L
  refine wpList_plain hg fun K' hK' => ?_
  unfold Oper.wp
  rcases hD.next L o.type with ⟨h0, hl, hrun⟩ | ⟨key, v, kl, y, w', cnt', hkey, hlk, hv, hat, hrun, hrg, hlt, hgr, hsz, hen⟩
  · simp [execOp, hop, hit, hrun, Result.andThen]
    exact hK' _ _ (hDone hl)
  · obtain ⟨s, rfl, rfl, _⟩ := Maps.keyOf_i64 hk hkey
    have hz : encZ s = .int .i64 s := rfl
    rw [hz] at hrun hen
    have hl : look D (.int .i64 s) = some v := by
      refine (look_some ha).2 ⟨has_true_of_atKey hat, fun z => ?_⟩
      rw [hat z]
      unfold RV at hv
      injection hv with hv
      rw [← hv]
    obtain ⟨c, rfl⟩ := invV _ _ hl
    simp [execOp, hop, hit, hrun, Result.andThen]
    exact hK' _ _ (hMore s c w' cnt' hlk hl ⟨D, hrg, rfl⟩ hlt (Only.of_grown hgr) hsz hen)
end
/-- the keys of a map, sorted -/
def KeysI (f : Lit → Option Value) (ss : List Int) : Prop := ss.Pairwise (fun a b => a ≤ b) ∧ ss.Nodup ∧ ∀ x, x ∈ ss ↔ (f (.int .i64 x)).isSome = true
theorem KeysI.uniq {f : Lit → Option Value} {a b : List Int} (ha : KeysI f a) (hb : KeysI f b) : a = b :=
  List.Perm.eq_of_pairwise (le := fun a b => a ≤ b) (fun x y _ _ h1 h2 => Int.le_antisymm h1 h2) ha.1 hb.1 ((List.perm_ext_iff_of_nodup ha.2.1 hb.2.1).2 fun x => by rw [ha.2.2, hb.2.2])
section
variable {P : Program} {K : TypeId} {w : World} {b n : Nat} {D : DataW Value}
theorem intKeys_nodup (hD : w.ownsMap P K RV b n D) (hk : P.underlying K = some (.int .i64)) : (intKeys D).Nodup ∧ (∀ x, x ∈ intKeys D ↔ has D (.int .i64 x) = true) ∧ (intKeys D).length ≤ n := by
  have hsz := hD.size_le
  obtain ⟨es, rfl, hpw, hlit⟩ := hD.entries (int_keyed hk)
  obtain ⟨es', he, hks⟩ := hD.keysOf
  injection he with he
  subst he
  have hint : ∀ p ∈ es, ∃ x, p.1 = .int .i64 x := fun p hp => by
    obtain ⟨v, hv⟩ := hks p hp
    obtain ⟨x, _, hx, _⟩ := Maps.keyOf_i64 hk hv
    exact ⟨x, hx⟩
  refine ⟨?_, fun x => ?_, by simpa [intKeys, size] using hsz⟩
  · show (es.map fun p => intOf p.1).Nodup
    refine List.pairwise_map.2 (hpw.imp_of_mem fun {p q} hp' hq' hne e => hne ?_)
    obtain ⟨a, ha⟩ := hint p hp'
    obtain ⟨c, hc⟩ := hint q hq'
    rw [ha, hc] at e ⊢
    exact congrArg _ e
  · rw [has_eq, List.any_eq_true]
    show x ∈ (es.map fun p => intOf p.1) ↔ _
    rw [List.mem_map]
    constructor
    · rintro ⟨p, hp, rfl⟩
      obtain ⟨a, ha⟩ := hint p hp
      exact ⟨p, hp, by rw [ha]; exact WideAt.sameKey_self (by trivial)⟩
    · rintro ⟨p, hp, hs⟩
      exact ⟨p, hp, by rw [WideAt.sameKey_eq hs]; rfl⟩
theorem keysI_of (hD : w.ownsMap P K RV b n D) (hk : P.underlying K = some (.int .i64)) {ss : List Int} (hp : ss.Perm (intKeys D)) : KeysI (look D) (ss.mergeSort (fun x y => decide (x ≤ y))) ∧ ss.length ≤ n := by
  obtain ⟨h1, h2, h3⟩ := intKeys_nodup hD hk
  have ha := all_held hD (int_keyed hk)
  have tr : ∀ a b c : Int, leI a b = true → leI b c = true → leI a c = true := fun a b c h1 h2 => by simp only [leI, decide_eq_true_eq] at *; omega
  have to : ∀ a b : Int, (leI a b || leI b a) = true := fun a b => by simp only [leI, Bool.or_eq_true, decide_eq_true_eq]; omega
  refine ⟨⟨(List.pairwise_mergeSort tr to ss).imp (fun h => of_decide_eq_true h), ?_, fun x => ?_⟩, by rw [hp.length_eq]; exact h3⟩
  · exact ((List.mergeSort_perm ss leI).trans hp).nodup_iff.2 h1
  · rw [(List.mergeSort_perm ss leI).mem_iff, hp.mem_iff, h2, look_has ha]
end
end Go.Proofs.Ytgbicimbggdpgaa
