/- CacheG: Any entry as bytes, any bytes as an entry: CachePacks; What a cache on its disk makes of a Put, a crash: with no program in sight. And the map that the law keeps beside it; A cache in CacheWhole's loop, and the map that the law keeps beside it. -/
import Derived.Test.YthgfmoogagldmaaGreatCacheE
import Derived.Test.YthgfmoogagldmaaGreatJournalH
import Derived.Test.YthgfmoogagldmaaGreatCacheF
set_option linter.unusedVariables false
set_option maxRecDepth 100000
namespace Go.Proofs.YthgfmoogagldmaaGreat.Cache
open Go.RowKit Go.Maps Go.Shelf Journal Disk Codec
theorem unp_pack (e o : ByteArray) (he : e.size ≤ 10000) : unp (packB e o) = some (e.data.toList, o.data.toList) := by
  have hb := back_num (e.size : Int) (e.data.toList ++ o.data.toList) (by omega) (by omega)
  have hl : (le (u64 (e.size : Int)) 8).length = 8 := le_len _ _
  have e1 : packB e o = le (u64 (e.size : Int)) 8 ++ (e.data.toList ++ o.data.toList) := by unfold packB; rw [List.append_assoc]
  have ht : (packB e o).take 8 = le (u64 (e.size : Int)) 8 := by rw [e1, List.take_left' hl]
  have hd : (packB e o).drop 8 = e.data.toList ++ o.data.toList := by rw [e1, List.drop_left' hl]
  have hn : s64 (vle ((packB e o).take 8)) = (e.size : Int) := by
    rw [ht]
    have := hb.1
    rwa [rget_app _ _ _ hl] at this
  have hlen : (packB e o).length = 8 + e.size + o.size := by rw [e1]; simp [hl]; omega
  unfold unp
  rw [if_neg (by rw [hn, hlen]; omega), hn, hd, Int.toNat_natCast, List.take_left' (data_len e), List.drop_left' (data_len e)]
def big (e o : ByteArray) (n : Nat) : Prop := 1500 < e.size ∨ 1500 < o.size ∨ 1500 < n
end Go.Proofs.YthgfmoogagldmaaGreat.Cache
namespace Go.Proofs.YthgfmoogagldmaaGreat.Cache
open Go.RowKit Go.Maps Go.Shelf Journal Disk Codec
def Has (f : Lit → Option Value) (L : List Ent) : Prop := (∀ k : List UInt8, f (.string k) = (L.find? (fun e => decide (e.1 = k))).map (fun e => Value.string (str e.2))) ∧ ∀ l, (f l).isSome = true → ∃ k, l = .string k
theorem has_nil : Has (fun _ => none) [] := ⟨fun k => rfl, fun l h => by cases h⟩
theorem find_with (L : List Ent) (e : Ent) (k : List UInt8) : (withL L e).find? (fun a => decide (a.1 = k)) = if k = e.1 then some e else L.find? (fun a => decide (a.1 = k)) := by
  unfold withL
  rw [List.find?_append]
  by_cases h : k = e.1
  · subst h
    rw [if_pos rfl]
    have : (L.filter fun a => decide (a.1 ≠ e.1)).find? (fun a => decide (a.1 = e.1)) = none := by
      rw [List.find?_eq_none]
      intro a ha
      have := (List.mem_filter.1 ha).2
      simpa using this
    rw [this]
    simp
  · rw [if_neg h]
    have h1 : ([e] : List Ent).find? (fun a => decide (a.1 = k)) = none := by
      rw [List.find?_eq_none]
      intro a ha
      rw [List.mem_singleton.1 ha]
      simpa using fun x => h x.symm
    rw [h1]
    have h2 : (L.filter fun a => decide (a.1 ≠ e.1)).find? (fun a => decide (a.1 = k)) = L.find? (fun a => decide (a.1 = k)) := by
      induction L with
      | nil => rfl
      | cons a t ih =>
        by_cases h3 : a.1 = e.1
        · rw [List.filter_cons_of_neg (by simpa using h3), ih, List.find?_cons_of_neg]
          rw [h3]
          simpa using fun x => h x.symm
        · rw [List.filter_cons_of_pos (by simpa using h3)]
          by_cases h4 : a.1 = k
          · rw [List.find?_cons_of_pos (by simpa using h4), List.find?_cons_of_pos (by simpa using h4)]
          · rw [List.find?_cons_of_neg (by simpa using h4), List.find?_cons_of_neg (by simpa using h4), ih]
    rw [h2]
    simp
theorem Has.put {f : Lit → Option Value} {L : List Ent} (h : Has f L) (e : Ent) : Has (upd f (.string e.1) (some (.string (str e.2)))) (withL L e) := by
  refine ⟨fun k => ?_, fun l hl => ?_⟩
  · rw [find_with]
    by_cases hk : k = e.1
    · subst hk
      rw [upd_same, if_pos rfl]
      rfl
    · rw [upd_other _ _ (fun x => hk (by injection x)), if_neg hk]
      exact h.1 k
  · by_cases hk : l = .string e.1
    · exact ⟨_, hk⟩
    · rw [upd_other _ _ hk] at hl
      exact h.2 l hl
theorem findX_L (x : XS) (k : List UInt8) : x.L.find? (fun e => decide (e.1 = k)) = (findX x k).map (·.2) := by
  unfold XS.L findX
  rw [List.find?_map]
  rfl
theorem Has.keep {f : Lit → Option Value} {x : XS} (h : Has f x.L) {e : Ent} {a : Nat × Ent} (ha : findX x e.1 = some a) (hav : a.2.2 = e.2) : Has (upd f (.string e.1) (some (.string (str e.2)))) x.L := by
  refine ⟨fun k => ?_, fun l hl => ?_⟩
  · by_cases hk : k = e.1
    · subst hk
      rw [upd_same, findX_L, ha]
      simp [hav]
    · rw [upd_other _ _ (fun x => hk (by injection x))]
      exact h.1 k
  · by_cases hk : l = .string e.1
    · exact ⟨_, hk⟩
    · rw [upd_other _ _ hk] at hl
      exact h.2 l hl
theorem findX_add {x : XS} (hx : x.Ok) (e : Ent) : ∃ a, findX (addX x e) e.1 = some a ∧ a.2.2 = e.2 := by
  have h1 := findX_L (addX x e) e.1
  rw [(hx.add e).2.1, find_with, if_pos rfl] at h1
  cases hf : findX (addX x e) e.1 with
  | none => rw [hf] at h1; cases h1
  | some a =>
    rw [hf] at h1
    injection h1 with h1
    exact ⟨a, rfl, by rw [h1]⟩
theorem has_reopen {f : Lit → Option Value} {x x' : XS} (hx : x.Ok) (h : Has f x.L) {way : Bool} {e : Ent} (hx' : x' = x ∨ (way = true ∧ x' = addX x e)) :
    (∃ a, way = true ∧ findX x' e.1 = some a ∧ a.2.2 = e.2) → Has (upd f (.string e.1) (some (.string (str e.2)))) x'.L := by
  rintro ⟨a, _, ha, hav⟩
  rcases hx' with rfl | ⟨_, rfl⟩
  · exact h.keep ha hav
  · rw [(hx.add e).2.1]
    exact h.put e
theorem has_same {f : Lit → Option Value} {x x' : XS} (hx : x.Ok) (h : Has f x.L) {way : Bool} {e : Ent} (hx' : x' = x ∨ (way = true ∧ x' = addX x e)) (hn : ¬ ∃ a, way = true ∧ findX x' e.1 = some a ∧ a.2.2 = e.2) : Has f x'.L := by
  rcases hx' with rfl | ⟨hw, rfl⟩
  · exact h
  · obtain ⟨a, ha, hav⟩ := findX_add hx e
    exact absurd ⟨a, hw, ha, hav⟩ hn
theorem entries_uniq {x : XS} (hx : x.Ok) {e : Ent} (he : e ∈ x.L) : x.L.find? (fun a => decide (a.1 = e.1)) = some e := by
  obtain ⟨a, ha, rfl⟩ := List.mem_map.1 he
  rw [findX_L]
  cases hf : findX x a.2.1 with
  | none => exact absurd rfl (findX_none hf a ha)
  | some b =>
    obtain ⟨h1, h2⟩ := findX_some hf
    rw [uniq_key hx h1 ha h2]
    rfl
theorem Has.at_ {f : Lit → Option Value} {x : XS} (hx : x.Ok) (h : Has f x.L) {e : Ent} (he : e ∈ x.L) : f (.string e.1) = some (.string (str e.2)) := by
  rw [h.1, entries_uniq hx he]
  rfl
theorem has_len {K : TypeId} {w : World} {hb n : Nat} {f : Lit → Option Value} {x : XS} (hx : x.Ok) (h : Has f x.L) (L : Keyed Tryz.prog K) (hv : VM Tryz.prog K w hb n f) {t e : TypeId} (ht : Tryz.prog.underlying t = some (.map K e)) (ty : TypeId) :
    (Builtin.len_ #[t] ty #[.map (some hb)]).run Tryz.prog w = .ok (.int .i64 (x.L.length : Nat)) w := by
  obtain ⟨D, hD, rfl⟩ := hv
  obtain ⟨es, he, hpw, hlit⟩ := hD.entries L
  have hdec : DecidableEq Lit := fun a b => Classical.propDecidable (a = b)
  have hsz : Maps.size D = x.L.length := by
    have hsome : ∀ k, (look D k).isSome = true ↔ k ∈ es.map (·.1) := fun k => by
      rw [← look_has (all_held hD L), he]
      constructor
      · intro hk
        obtain ⟨p, hp, hpk⟩ := List.any_eq_true.1 hk
        exact List.mem_map.2 ⟨p, hp, WideAt.sameKey_eq hpk⟩
      · intro hk
        obtain ⟨p, hp, rfl⟩ := List.mem_map.1 hk
        exact List.any_eq_true.2 ⟨p, hp, WideAt.sameKey_self (hlit p hp)⟩
    have hn : (es.map (·.1)).Nodup := by
      rw [List.Nodup, List.pairwise_map]
      exact hpw
    have hk2 : (x.L.map fun e => Lit.string e.1).Nodup := by
      rw [List.Nodup, List.pairwise_map]
      unfold XS.L
      rw [List.pairwise_map]
      exact hx.keys.imp (fun h1 h2 => h1 (by injection h2))
    have e1 := nodup_le (A := es.map (·.1)) (B := x.L.map fun e => Lit.string e.1) hn (fun k hk => by
      have h1 := (hsome k).2 hk
      obtain ⟨kk, rfl⟩ := h.2 k h1
      rw [h.1, Option.isSome_map] at h1
      obtain ⟨e, he⟩ := Option.isSome_iff_exists.1 h1
      have h2 := List.find?_some he
      exact List.mem_map.2 ⟨e, List.mem_of_find?_eq_some he, by rw [of_decide_eq_true h2]⟩)
    have e2 := nodup_le (A := x.L.map fun e => Lit.string e.1) (B := es.map (·.1)) hk2 (fun k hk => by
      obtain ⟨e, he, rfl⟩ := List.mem_map.1 hk
      refine (hsome _).1 ?_
      rw [h.at_ hx he]
      rfl)
    rw [he]
    simp only [List.length_map] at e1 e2
    simpa [Maps.size] using Nat.le_antisymm e1 e2
  have := hD.len ht ty
  rw [hsz] at this
  exact this
structure Gps (gs : List (List UInt8)) (x : XS) (k : Nat) : Prop where
  load : loadX gs emptyX = some x
  few : gs.length ≤ k
  short : ∀ l ∈ gs, l.length ≤ 1508
theorem loadX_snoc : ∀ {gs : List (List UInt8)} {x0 x : XS} {b : List UInt8} {e : Ent}, loadX gs x0 = some x → unp b = some e → loadX (gs ++ [b]) x0 = some (addX x e)
  | [], x0, x, b, e, h, hb => by
    injection h with h
    subst h
    show (match unp b with | none => none | some e => loadX [] (addX x0 e)) = _
    rw [hb]
    rfl
  | l :: t, x0, x, b, e, h, hb => by
    unfold loadX at h
    show (match unp l with | none => none | some e => loadX (t ++ [b]) (addX x0 e)) = _
    cases hu : unp l with
    | none => rw [hu] at h; cases h
    | some c => rw [hu] at h; exact loadX_snoc h hb
theorem loadX_nx : ∀ {gs : List (List UInt8)} {x0 x : XS}, loadX gs x0 = some x → x0.Ok → x.Ok ∧ x.nx = x0.nx + gs.length
  | [], x0, x, h, ho => by
    injection h with h
    subst h
    exact ⟨ho, rfl⟩
  | l :: t, x0, x, h, ho => by
    unfold loadX at h
    cases hu : unp l with
    | none => rw [hu] at h; cases h
    | some c =>
      rw [hu] at h
      have h1 := ho.add c
      obtain ⟨h2, h3⟩ := loadX_nx h h1.1
      refine ⟨h2, ?_⟩
      rw [h3, h1.2.2, List.length_cons]
      omega
theorem unp_packC (e : Ent) (h : e.1.length ≤ 500) : unp (packC e) = some e := unp_pack (str e.1) (str e.2) (by rw [str_size]; omega)
theorem Gps.ok {gs : List (List UInt8)} {x : XS} {k : Nat} (h : Gps gs x k) : x.Ok ∧ x.nx ≤ k := by
  obtain ⟨h1, h2⟩ := loadX_nx h.load emptyX_ok
  have := h.few
  refine ⟨h1, ?_⟩
  rw [h2]
  show 0 + gs.length ≤ k
  omega
theorem Gps.up {gs : List (List UInt8)} {x : XS} {k k' : Nat} (h : Gps gs x k) (hk : k ≤ k') : Gps gs x k' := ⟨h.load, by have := h.few; omega, h.short⟩
theorem Gps.snoc {gs : List (List UInt8)} {x : XS} {k : Nat} (h : Gps gs x k) (e : Ent) (h1 : e.1.length ≤ 500) (h2 : e.2.length ≤ 1000) : Gps (gs ++ [packC e]) (addX x e) (k + 1) := by
  refine ⟨loadX_snoc h.load (unp_packC e h1), by rw [List.length_append]; have := h.few; simpa using this, fun l hl => ?_⟩
  rcases List.mem_append.1 hl with hl | hl
  · exact h.short l hl
  · rw [List.mem_singleton.1 hl, packC_len]; omega
theorem takesB_25 {b : List UInt8} (h : b.length ≤ 1508) : takesB b ≤ 25 := by
  unfold takesB Frame.needZ
  split <;> omega
theorem takes_25 : ∀ {gs : List (List UInt8)}, (∀ l ∈ gs, l.length ≤ 1508) → takesL gs ≤ 25 * (gs.length : Int)
  | [], _ => by rw [takesL_nil]; simp
  | b :: l, h => by
    have h1 := takesB_25 (h b (by simp))
    have h2 := takes_25 (gs := l) (fun a ha => h a (by simp [ha]))
    rw [takesL_cons, List.length_cons]
    omega
theorem app_03 {d : DS} {gs : List (List UInt8)} {b : List UInt8} (hs : ∀ l ∈ gs, l.length ≤ 1508) (hl : gs.length ≤ 50) (hb : b.length ≤ 1508) : (appendJ d ⟨halfN 4000 1, gs, false⟩ b).2.2 = 0 ∨ (appendJ d ⟨halfN 4000 1, gs, false⟩ b).2.2 = 3 := by
  have h1 := takes_25 hs
  have h2 := takesB_25 hb
  have hr : (halfN 4000 1).room = 1999 := by decide
  have hre : refuseJ ⟨halfN 4000 1, gs, false⟩ [b] ((halfN 4000 1).room - usedJ ⟨halfN 4000 1, gs, false⟩) = 0 := by
    unfold refuseJ usedJ
    rw [if_neg (fun h => by cases h), if_neg, if_neg]
    · rw [hr, takesL_cons, takesL_nil]
      simp only
      omega
    · rintro ⟨c, hc, h⟩
      rw [List.mem_singleton.1 hc] at h
      omega
  unfold appendJ
  simp only [hre]
  rw [if_neg (by decide)]
  split
  · exact .inl rfl
  · exact .inr rfl
theorem put_after {d : DS} {gs : List (List UInt8)} {x : XS} {k : Nat} {f : Lit → Option Value} (hR : Ready d 4000 1 gs) (hG : Gps gs x k) (hk : k ≤ 50) (hf : Has f x.L) (e : Ent) (h1 : e.1.length ≤ 500) (h2 : e.2.length ≤ 1000) :
    ∃ r : DS × JS × XS × Int, putC d ⟨halfN 4000 1, gs, false⟩ x e = r ∧ r.1.done ≤ d.done + 30 ∧
      ((r.2.2.2 = 0 ∧ ∃ gs', After r.1 r.2.1 4000 1 gs' gs' ∧ Gps gs' r.2.2.1 (k + 1) ∧ Has (upd f (.string e.1) (some (.string (str e.2)))) r.2.2.1.L) ∨
      (r.2.2.2 = 3 ∧ After r.1 r.2.1 4000 1 gs (gs ++ [packC e]) ∧ r.2.2.1 = x)) := by
  refine ⟨_, rfl, ?_⟩
  have hfew := hG.few
  have hpl : (packC e).length ≤ 1508 := by rw [packC_len]; omega
  rcases findX_dec x e with ⟨a, ha, hav⟩ | hne
  · rw [putC_same ha hav]
    exact ⟨by show d.done ≤ _; omega, .inl ⟨rfl, gs, .inl ⟨1, Int.le_refl _, hR, rfl⟩, hG.up (by omega), hf.keep ha hav⟩⟩
  · rw [putC_new hne]
    have hdn := app_done d ⟨halfN 4000 1, gs, false⟩ (packC e)
    have h25 := takesB_25 hpl
    refine ⟨by show (appendJ d _ _).1.done ≤ _; omega, ?_⟩
    simp only
    rcases after_append (b := packC e) hR (by decide) (by decide) with ⟨h0, hA⟩ | ⟨h3, hA⟩ | ⟨hb, _⟩
    · left
      rw [h0, if_pos rfl]
      refine ⟨rfl, gs ++ [packC e], ?_, hG.snoc e h1 h2, by rw [(hG.ok.1.add e).2.1]; exact hf.put e⟩
      rcases append_law (b := packC e) hR.wf hR.quiet hR.n_ (by decide) (by decide) hR.stands with ⟨_, g2, g3, g4, g5, g6⟩ | ⟨g1, _⟩ | ⟨g1, _⟩
      · exact .inl ⟨1, Int.le_refl _, ⟨g2, g3, g4, g5⟩, g6⟩
      · rw [h0] at g1; exact absurd g1 (by decide)
      · rw [h0] at g1; rcases g1 with g1 | g1 <;> exact absurd g1 (by decide)
    · right
      rw [h3, if_neg (by decide)]
      exact ⟨rfl, hA, rfl⟩
    · rcases app_03 (d := d) hG.short (by omega) hpl with h | h <;> rw [h] at hb <;> rcases hb with hb | hb <;> exact absurd hb (by decide)
theorem crash_open {d : DS} {js : JS} {gs ms : List (List UInt8)} {x : XS} {k : Nat} {way : Bool} {e : Ent} (hA : After d js 4000 1 gs ms) (hG : Gps gs x k) (hm : ms = gs ∨ (way = true ∧ ms = gs ++ [packC e])) (h1 : e.1.length ≤ 500) (h2 : e.2.length ≤ 1000) (fs : List Int) {ks : List Nat} (hk : waitsD d ks) :
    ∃ X x', Ready (crashD d fs ks) 4000 1 X ∧ (crashD d fs ks).off = false ∧ openJ (crashD d fs ks) = (crashD d fs ks, some ⟨halfN 4000 1, X, false⟩, 0) ∧ Gps X x' (k + 1) ∧ (x' = x ∨ (way = true ∧ x' = addX x e)) ∧ (crashD d fs ks).done = d.done := by
  obtain ⟨gen, X, hg, hX, hR⟩ := hA.crash fs hk
  have hg1 : gen = 1 := by have := hR.stands.g; omega
  subst hg1
  have hop := hR.open_ (by decide) (by decide) rfl
  rcases hX with rfl | rfl
  · exact ⟨X, x, hR, rfl, hop, hG.up (by omega), .inl rfl, rfl⟩
  · rcases hm with rfl | ⟨hw, rfl⟩
    · exact ⟨X, x, hR, rfl, hop, hG.up (by omega), .inl rfl, rfl⟩
    · exact ⟨_, _, hR, rfl, hop, hG.snoc e h1 h2, .inr ⟨hw, rfl⟩, rfl⟩
end Go.Proofs.YthgfmoogagldmaaGreat.Cache
namespace Go.Proofs.YthgfmoogagldmaaGreat.Cache
open Go.RowKit Go.Maps Go.Shelf Journal Disk Codec
theorem lawS7 : Keyed Tryz.prog 9 := string_keyed Tryz.underlying9
theorem zeroS7 (w : World) : (zeroValue 9).run Tryz.prog w = .ok (.string ⟨#[]⟩) w := by kernel_rfl
theorem keyS7 {k : List UInt8} (h : k.length ≤ maxLen) : keyOf Tryz.prog 9 (.string (str k)) = some (.string k) := Go.WideMaps.keyOf_string_mk Tryz.underlying9 (s := str k) h
def MapI (w0 w : World) (hb n : Nat) (f : Lit → Option Value) (U W : List Nat) (x : XS) : Prop := VM Tryz.prog 9 w hb n f ∧ Has f x.L ∧ hb ∉ U ∧ hb ∉ W ∧ w0.heap.size ≤ hb
section
variable {w0 w wr w' : World} {p g b q cap cq k hb n : Nat} {f : Lit → Option Value} {U U' W W' : List Nat} {x : XS} {way : Bool} {e : Ent}
theorem far_turn (hlt : hb < wr.heap.size) (h1 : hb ∉ U) (h2 : hb ∉ W) (ht : Turn wr U U' w') (hn : Newer wr W W') : hb ∉ U' ∧ hb ∉ W' :=
  ⟨fun h => (ht.2 hb h).elim h1 (fun h => by omega), fun h => (hn hb h).elim h2 (fun h => by omega)⟩
theorem MapI.turn (h : MapI w0 wr hb n f U W x) (ht : Turn wr U U' w') (hn : Newer wr W W') : MapI w0 w' hb n f U' W' x := by
  obtain ⟨h1, h2, h3, h4, h5⟩ := h
  obtain ⟨a, b⟩ := far_turn h1.lt h3 h4 ht hn
  exact ⟨h1.only ht.1 h3, h2, a, b, h5⟩
theorem MapI.only0 (h : MapI w0 wr hb n f U W x) (ho : Only [] wr w') : MapI w0 w' hb n f U W x := ⟨h.1.only ho (by simp), h.2⟩
def CLoop (w wr : World) (p g b q cap cq k hb : Nat) : Prop := ∃ d gs x U W f n, CW w.heap.size wr p g b q cap cq d ⟨halfN 4000 1, gs, false⟩ x 0 U W ∧ Ready d 4000 1 gs ∧ d.off = false ∧ Gps gs x k ∧ d.done ≤ 4 + 30 * (k : Int) ∧ n ≤ 2 * k ∧ MapI w wr hb n f U W x ∧ Only [] w wr
def CMid (w wr : World) (p g b q cap cq k hb : Nat) (way : Bool) (e : Ent) (d : DS) (js : JS) : Prop := ∃ gs ms x U W f n, CW w.heap.size wr p g b q cap cq d js x 0 U W ∧ After d js 4000 1 gs ms ∧ ((Gps gs x (k + 1) ∧ ms = gs) ∨ (Gps gs x k ∧ way = true ∧ ms = gs ++ [packC e])) ∧ d.done ≤ 4 + 30 * ((k : Int) + 1) ∧ n ≤ 2 * k + 1 ∧ MapI w wr hb n f U W x ∧ Only [] w wr
def CPut (w wr : World) (p g b q cap cq k hb : Nat) (e : Ent) : Prop := ∃ n f, VM Tryz.prog 9 wr hb n f ∧ n ≤ 2 * k ∧ Only [] w wr ∧ ∀ w2, VM Tryz.prog 9 w2 hb (n + 1) (upd f (.string e.1) (some (.string (str e.2)))) → Only [hb] wr w2 → ∃ d js, CMid w w2 p g b q cap cq k hb false e d js
theorem cw_only {lo : Nat} {d : DS} {js : JS} {ev : Nat} (h : CW lo wr p g b q cap cq d js x ev U W) (hl : w.heap.size ≤ lo) (ho : Only [] w wr) (ht : Only U wr w') : Only [] w w' := ho.trans ht (fun y hy => .inr (Nat.le_trans hl (h.above y hy)))
theorem CLoop.put (h : CLoop w wr p g b q cap cq k hb) (hk : k < 50) (e : Ent) (h1 : e.1.length ≤ 500) (h2 : e.2.length ≤ 1000) :
    Calls Tryz.prog 43 #[.pointer (some ⟨cq, 0, none⟩), .string (str e.1), .string (str e.2)] wr fun y w' => ∃ r : Int, y = .returned (.int .i64 r) ∧ Only [] w w' ∧ ((r = 0 ∧ CPut w w' p g b q cap cq k hb e) ∨ (r = 3 ∧ ∃ d js, CMid w w' p g b q cap cq k hb true e d js)) := by
  obtain ⟨d, gs, x, U, W, f, n, hC, hR, hoff, hG, hdn, hn, hM, ho⟩ := h
  have hpl : (packC e).length ≤ 1508 := by rw [packC_len]; omega
  obtain ⟨r, hr, hd', hcase⟩ := put_after hR hG (by omega) hM.2.1 e h1 h2
  have hput := hC.put (by rw [hR.n_]; omega) rfl e h1 h2 (by show gs.length ≤ 100000; have := hG.few; omega) (by omega) (by have := hG.ok.2; omega) (app_03 hG.short (by have := hG.few; omega) hpl)
  rw [hr] at hput
  refine hput.mono ?_
  rintro y w' ⟨rfl, U', W', hC', hT, hN⟩
  have hO := cw_only hC (Nat.le_refl _) ho hT.1
  obtain ⟨m1, m2, m3, m4, m5⟩ := hM
  obtain ⟨f1, f2⟩ := far_turn m1.lt m3 m4 hT hN
  have hv := m1.only hT.1 m3
  refine ⟨_, rfl, hO, ?_⟩
  rcases hcase with ⟨h0, gs', hA, hG', hf'⟩ | ⟨h3, hA, hx⟩
  · refine .inl ⟨h0, n, f, hv, hn, hO, fun w2 hv2 ho2 => ?_⟩
    refine ⟨_, _, gs', gs', _, U', W', _, n + 1, hC'.beside hv f1 f2 ho2, hA, .inl ⟨hG', rfl⟩, by omega, by omega, ⟨hv2, hf', f1, f2, m5⟩, hO.trans ho2 (fun y hy => by rw [List.mem_singleton.1 hy]; exact .inr m5)⟩
  · rw [hx] at hC'
    exact .inr ⟨h3, _, _, gs, _, x, U', W', f, n, hC', hA, .inr ⟨hG, rfl, rfl⟩, by omega, by omega, ⟨hv, m2, f1, f2, m5⟩, hO⟩
theorem CLoop.stop (h : CLoop w wr p g b q cap cq k hb) (a : Int) (ha : a ≤ 9223372036854775807) (e : Ent) :
    Calls Tryz.prog 18 #[.pointer (some ⟨p, 0, none⟩), .int .i64 a] wr fun y w' => y = .returned (.tuple #[]) ∧ ∃ d js, CMid w w' p g b q cap cq k hb false e d js := by
  obtain ⟨d, gs, x, U, W, f, n, hC, hR, hoff, hG, hdn, hn, hM, ho⟩ := h
  refine (hC.stop a ha).mono ?_
  rintro y w' ⟨rfl, W', hC', hT, hN⟩
  refine ⟨rfl, _, _, gs, gs, x, U, W', f, n, hC', .inl ⟨1, Int.le_refl _, hR.stop a, rfl⟩, .inl ⟨hG.up (by omega), rfl⟩, ?_, by omega, hM.turn hT hN, cw_only hC (Nat.le_refl _) ho hT.1⟩
  have : (stopD d a).done = d.done := by unfold stopD; split <;> rfl
  omega
theorem CLoop.mid (h : CLoop w wr p g b q cap cq k hb) (e : Ent) : ∃ d js, CMid w wr p g b q cap cq k hb false e d js := by
  obtain ⟨d, gs, x, U, W, f, n, hC, hR, hoff, hG, hdn, hn, hM, ho⟩ := h
  exact ⟨_, _, gs, gs, x, U, W, f, n, hC, .inl ⟨1, Int.le_refl _, hR, rfl⟩, .inl ⟨hG.up (by omega), rfl⟩, by omega, by omega, hM, ho⟩
theorem CLoop.out (h : CLoop w wr p g b q cap cq k hb) : Only [] w wr := by
  obtain ⟨d, gs, x, U, W, f, n, hC, hR, hoff, hG, hdn, hn, hM, ho⟩ := h
  exact ho
theorem CLoop.evicted (h : CLoop w wr p g b q cap cq k hb) : Calls Tryz.prog 45 #[.pointer (some ⟨cq, 0, none⟩)] wr fun y w' => y = .returned (.int .i64 0) ∧ w' = wr := by
  obtain ⟨d, gs, x, U, W, f, n, hC, hR, hoff, hG, hdn, hn, hM, ho⟩ := h
  exact hC.evicted
section
variable {d : DS} {js : JS}
theorem CMid.out (h : CMid w wr p g b q cap cq k hb way e d js) : Only [] w wr := by
  obtain ⟨gs, ms, x, U, W, f, n, hC, hA, hG, hdn, hn, hM, ho⟩ := h
  exact ho
theorem CMid.jdown (h : CMid w wr p g b q cap cq k hb way e d js) : Calls Tryz.prog 47 #[.pointer (some ⟨cq, 0, none⟩)] wr fun y w' => y = .returned (.bool js.off) ∧ w' = wr := by
  obtain ⟨gs, ms, x, U, W, f, n, hC, hA, hG, hdn, hn, hM, ho⟩ := h
  exact hC.jdown
theorem CMid.ddown (h : CMid w wr p g b q cap cq k hb way e d js) : Calls Tryz.prog 20 #[.pointer (some ⟨p, 0, none⟩)] wr fun y w' => y = .returned (.bool d.off) ∧ w' = wr := by
  obtain ⟨gs, ms, x, U, W, f, n, hC, hA, hG, hdn, hn, hM, ho⟩ := h
  exact hC.ddown
theorem CMid.on (h : CMid w wr p g b q cap cq k hb way e d js) (h1 : js.off = false) (h2 : d.off = false) : CLoop w wr p g b q cap cq (k + 1) hb := by
  obtain ⟨gs, ms, x, U, W, f, n, hC, hA, hG, hdn, hn, hM, ho⟩ := h
  have hG' : Gps gs x (k + 1) := by
    rcases hG with ⟨h, _⟩ | ⟨h, _⟩
    · exact h
    · exact h.up (by omega)
  rcases hA with ⟨gen, hg, hR, rfl⟩ | ⟨hx, _⟩
  · have hg1 : gen = 1 := by have := hR.stands.g; omega
    subst hg1
    exact ⟨d, gs, x, U, W, f, n, hC, hR, h2, hG', by omega, by omega, hM, ho⟩
  · rw [h1] at hx; cases hx
def CCr (w wr : World) (p g b q cap cq k hb : Nat) (way : Bool) (e : Ent) : Prop := ∃ d js X x x' U W f n, CW w.heap.size wr p g b q cap cq d js x 0 U W ∧ Ready d 4000 1 X ∧ d.off = false ∧ openJ d = (d, some ⟨halfN 4000 1, X, false⟩, 0) ∧ Gps X x' (k + 1) ∧ (x' = x ∨ (way = true ∧ x' = addX x e)) ∧ d.done ≤ 4 + 30 * ((k : Int) + 1) ∧ n ≤ 2 * k + 1 ∧ MapI w wr hb n f U W x ∧ Only [] w wr
def COp (w wr : World) (p g b q cap cq k hb : Nat) (way : Bool) (e : Ent) (x' : XS) : Prop := ∃ d X x U W f n, CW w.heap.size wr p g b q cap cq d ⟨halfN 4000 1, X, false⟩ x' 0 U W ∧ Ready d 4000 1 X ∧ d.off = false ∧ Gps X x' (k + 1) ∧ x.Ok ∧ (x' = x ∨ (way = true ∧ x' = addX x e)) ∧ d.done ≤ 4 + 30 * ((k : Int) + 1) ∧ n ≤ 2 * k + 1 ∧ MapI w wr hb n f U W x ∧ Only [] w wr
def CFin (w wr : World) (p g b q cap cq k hb : Nat) (x' : XS) : Prop := ∃ d X U W f n, CW w.heap.size wr p g b q cap cq d ⟨halfN 4000 1, X, false⟩ x' 0 U W ∧ Ready d 4000 1 X ∧ d.off = false ∧ Gps X x' (k + 1) ∧ d.done ≤ 4 + 30 * ((k : Int) + 1) ∧ n ≤ 2 * (k + 1) ∧ MapI w wr hb n f U W x' ∧ Only [] w wr
theorem CMid.crash (h : CMid w wr p g b q cap cq k hb way e d js) (h1 : e.1.length ≤ 500) (h2 : e.2.length ≤ 1000) (A : Option Addr) (c : Nat) (fs : List Int) (hr : Reads w w.heap.size 1 A fs.length (fs.map (Value.int .i64))) (hn : fs.length ≤ 1000000) :
    Calls Tryz.prog 21 #[.pointer (some ⟨p, 0, none⟩), .slice A fs.length c] wr fun y w' => y = .returned (.tuple #[]) ∧ CCr w w' p g b q cap cq k hb way e := by
  obtain ⟨gs, ms, x, U, W, f, n, hC, hA, hG, hdn, hn', hM, ho⟩ := h
  refine (hC.crash A fs.length c fs rfl ((hr.only ho (by simp)).more ho.size) hn (fun h0 k hk => reads_lt hr h0 k hk)).mono ?_
  rintro y w' ⟨ks, hks, rfl, W', hC', hT, hN⟩
  have hres : ∃ X x', Ready (crashD d fs ks) 4000 1 X ∧ (crashD d fs ks).off = false ∧ openJ (crashD d fs ks) = (crashD d fs ks, some ⟨halfN 4000 1, X, false⟩, 0) ∧ Gps X x' (k + 1) ∧ (x' = x ∨ (way = true ∧ x' = addX x e)) := by
    rcases hG with ⟨hg, hm⟩ | ⟨hg, hm⟩
    · obtain ⟨gen, X, hgen, hX, hR⟩ := hA.crash fs hks
      have hg1 : gen = 1 := by have := hR.stands.g; omega
      subst hg1
      have hXX : X = gs := by rcases hX with h | h; exact h; rw [h, hm]
      subst hXX
      exact ⟨X, x, hR, rfl, hR.open_ (by decide) (by decide) rfl, hg, .inl rfl⟩
    · obtain ⟨X, x', r1, r2, r3, r4, r5, _⟩ := crash_open hA hg (.inr hm) h1 h2 fs hks
      exact ⟨X, x', r1, r2, r3, r4, r5⟩
  obtain ⟨X, x', r1, r2, r3, r4, r5⟩ := hres
  exact ⟨rfl, _, js, X, x, x', U, W', f, n, hC', r1, r2, r3, r4, r5, hdn, hn', hM.turn hT hN, cw_only hC (Nat.le_refl _) ho hT.1⟩
end
theorem CCr.open_ (h : CCr w wr p g b q cap cq k hb way e) (hk : k < 50) : Calls Tryz.prog 48 #[.pointer (some ⟨p, 0, none⟩)] wr fun y w' => ∃ q' cq' x', y = .returned (.tuple #[.pointer (some ⟨cq', 0, none⟩), .int .i64 0]) ∧ COp w w' p g b q' cap cq' k hb way e x' := by
  obtain ⟨d, js, X, x, x', U, W, f, n, hC, hR, hoff, hop, hG, hx, hdn, hn, hM, ho⟩ := h
  refine (hC.open_ ho.size (by rw [hR.n_]; decide) (by have := hR.newest (by decide); omega) (by omega) hop (fun l hl => by have := hG.short l hl; omega) (by show X.length ≤ 100000; have := hG.few; omega) hG.load).mono ?_
  rintro y w' ⟨q', cq', U', W', rfl, hC', hT, hN⟩
  exact ⟨q', cq', x', rfl, d, X, x, U', W', f, n, hC', hR, hoff, hG, hC.ok, hx, hdn, hn, hM.turn hT hN, cw_only hC (Nat.le_refl _) ho hT.1⟩
section
variable {x' : XS}
theorem COp.only0 (h : COp w wr p g b q cap cq k hb way e x') (h0 : Only [] wr w') : COp w w' p g b q cap cq k hb way e x' := by
  obtain ⟨d, X, x, U, W, f, n, hC, hR, hoff, hG, hx0, hx, hdn, hn, hM, ho⟩ := h
  exact ⟨d, X, x, U, W, f, n, hC.only0 h0, hR, hoff, hG, hx0, hx, hdn, hn, hM.only0 h0, ho.trans h0 (by simp)⟩
theorem COp.out (h : COp w wr p g b q cap cq k hb way e x') : Only [] w wr := by
  obtain ⟨d, X, x, U, W, f, n, hC, hR, hoff, hG, hx0, hx, hdn, hn, hM, ho⟩ := h
  exact ho
theorem COp.get (h : COp w wr p g b q cap cq k hb way e x') (kk : List UInt8) (hk : kk.length ≤ 500) : Calls Tryz.prog 41 #[.pointer (some ⟨cq, 0, none⟩), .string (str kk)] wr fun y w' => y = .returned (foundG (findX x' kk)) ∧ COp w w' p g b q cap cq k hb way e x' := by
  have h' := h
  obtain ⟨d, X, x, U, W, f, n, hC, hR, hoff, hG, hx0, hx, hdn, hn, hM, ho⟩ := h
  exact (hC.get kk (by omega)).mono fun y w' ⟨h1, h2⟩ => ⟨h1, h'.only0 h2⟩
theorem COp.keep (h : COp w wr p g b q cap cq k hb way e x') (hn : ¬ ∃ a, way = true ∧ findX x' e.1 = some a ∧ a.2.2 = e.2) : CFin w wr p g b q cap cq k hb x' := by
  obtain ⟨d, X, x, U, W, f, n, hC, hR, hoff, hG, hx0, hx, hdn, hn', hM, ho⟩ := h
  obtain ⟨m1, m2, m3⟩ := hM
  exact ⟨d, X, U, W, f, n, hC, hR, hoff, hG, hdn, by omega, ⟨m1, has_same hx0 m2 hx hn, m3⟩, ho⟩
theorem COp.put (h : COp w wr p g b q cap cq k hb way e x') (hy : ∃ a, way = true ∧ findX x' e.1 = some a ∧ a.2.2 = e.2) : ∃ n f, VM Tryz.prog 9 wr hb n f ∧ n ≤ 2 * k + 1 ∧ ∀ w2, VM Tryz.prog 9 w2 hb (n + 1) (upd f (.string e.1) (some (.string (str e.2)))) → Only [hb] wr w2 → CFin w w2 p g b q cap cq k hb x' := by
  obtain ⟨d, X, x, U, W, f, n, hC, hR, hoff, hG, hx0, hx, hdn, hn', hM, ho⟩ := h
  obtain ⟨m1, m2, m3, m4, m5⟩ := hM
  exact ⟨n, f, m1, hn', fun w2 hv2 ho2 => ⟨d, X, U, W, _, n + 1, hC.beside m1 m3 m4 ho2, hR, hoff, hG, hdn, by omega, ⟨hv2, has_reopen hx0 m2 hx hy, m3, m4, m5⟩, ho.trans ho2 (fun y hy => by rw [List.mem_singleton.1 hy]; exact .inr m5)⟩⟩
theorem CFin.only0 (h : CFin w wr p g b q cap cq k hb x') (h0 : Only [] wr w') : CFin w w' p g b q cap cq k hb x' := by
  obtain ⟨d, X, U, W, f, n, hC, hR, hoff, hG, hdn, hn, hM, ho⟩ := h
  exact ⟨d, X, U, W, f, n, hC.only0 h0, hR, hoff, hG, hdn, hn, hM.only0 h0, ho.trans h0 (by simp)⟩
theorem CFin.loop (h : CFin w wr p g b q cap cq k hb x') : CLoop w wr p g b q cap cq (k + 1) hb := by
  obtain ⟨d, X, U, W, f, n, hC, hR, hoff, hG, hdn, hn, hM, ho⟩ := h
  exact ⟨d, X, x', U, W, f, n, hC, hR, hoff, hG, by omega, hn, hM, ho⟩
theorem CFin.entries (h : CFin w wr p g b q cap cq k hb x') : Calls Tryz.prog 44 #[.pointer (some ⟨cq, 0, none⟩)] wr fun y w' => ∃ A c, y = .returned (.slice A x'.L.length c) ∧ Recs w' w'.heap.size 2 A x'.L.length (x'.L.map entRow) ∧ CFin w w' p g b q cap cq k hb x' := by
  have h' := h
  obtain ⟨d, X, U, W, f, n, hC, hR, hoff, hG, hdn, hn, hM, ho⟩ := h
  refine hC.entries.mono ?_
  rintro y w' ⟨v, rfl, hown, h0⟩
  obtain ⟨A, c, rfl, _, _, hr, _⟩ := hown.shape (by decide)
  exact ⟨A, c, rfl, hr, h'.only0 h0⟩
theorem CFin.look (h : CFin w wr p g b q cap cq k hb x') {a : Ent} (ha : a ∈ x'.L) (hl : a.1.length ≤ 1000000) : (Instr.lookup 104 (.map (some hb)) (.string (str a.1)) true).run Tryz.prog wr = .ok (.tuple #[.string (str a.2), .bool true]) wr := by
  obtain ⟨d, X, U, W, f, n, hC, hR, hoff, hG, hdn, hn, hM, ho⟩ := h
  have := hM.1.run_look lawS7 Tryz.underlying104 (zeroS7 wr) (keyS7 (k := a.1) (by unfold maxLen; omega))
  rw [hM.2.1.at_ hG.ok.1 ha] at this
  exact this
theorem CFin.len (h : CFin w wr p g b q cap cq k hb x') (ty : TypeId) : (Builtin.len_ #[104] ty #[.map (some hb)]).run Tryz.prog wr = .ok (.int .i64 (x'.L.length : Nat)) wr := by
  obtain ⟨d, X, U, W, f, n, hC, hR, hoff, hG, hdn, hn, hM, ho⟩ := h
  exact has_len hG.ok.1 hM.2.1 lawS7 hM.1 Tryz.underlying104 ty
theorem CFin.key (h : CFin w wr p g b q cap cq k hb x') {a : Ent} (ha : a ∈ x'.L) : a.1.length ≤ 1000000 := by
  obtain ⟨d, X, U, W, f, n, hC, hR, hoff, hG, hdn, hn, hM, ho⟩ := h
  obtain ⟨base, v, ss, T, m, bb, ba, h1, h2, h3, h4, h5, _⟩ := hC
  obtain ⟨c, hc, rfl⟩ := List.mem_map.1 ha
  exact h5.idx.short c hc
theorem CFin.few (h : CFin w wr p g b q cap cq k hb x') : x'.L.length ≤ k + 1 := by
  obtain ⟨d, X, U, W, f, n, hC, hR, hoff, hG, hdn, hn, hM, ho⟩ := h
  have h1 := hG.ok
  have h2 := h1.1.len
  unfold XS.L
  rw [List.length_map]
  omega
end
theorem wpList_lenX {P : Program} {ops : Array Oper} {rest : List Oper} {o : Oper} {a : Act} {Q : Exit → Act → World → Prop} {hb c : Nat} (hg : o.guard = none) (m : Operand) (t : TypeId) (hop : o.op = Op.call { callee := Callee.builtin Builtin.len, args := #[m], argTypes := #[t] })
    (hm : a.eval m = .map (some hb)) (hrun : (Builtin.len_ #[t] o.type #[.map (some hb)]).run P wr = .ok (.int .i64 (c : Nat)) wr) (hK : wpList P ops Q rest (a.put o.dst (.int .i64 (c : Nat))) wr) : wpList P ops Q (o :: rest) a wr := by
  refine wpList_plain hg fun K' hK' => ?_
  unfold Oper.wp
  simp [execOp, hop, resolve, invoke, builtin, hm, hrun, Result.andThen]
  exact hK' _ _ hK
theorem cloop_start {w1 : World} (h1 : IsD w1 p g b [] cap (newD 4000)) (hp : w.heap.size ≤ p ∧ w.heap.size ≤ g ∧ w.heap.size ≤ b) (ho : Only [] w w1) :
    Calls Tryz.prog 48 #[.pointer (some ⟨p, 0, none⟩)] w1 fun y w' => ∃ q cq, y = .returned (.tuple #[.pointer (some ⟨cq, 0, none⟩), .int .i64 0]) ∧ CLoop w (w'.alloc (.map #[] 0)) p g b q cap cq 0 w'.heap.size := by
  obtain ⟨D, e1, hW, hQ, hn, hoff, hl, hd, hS⟩ := open_new 4000 (by decide) (by decide)
  have hnw : newestD (newD 4000) = 0 := by kernel_rfl
  refine (cw_open h1 hp ho.size (show 4000 ≤ 200000 by decide) (by rw [hnw]; decide) (show (0 : Int) ≤ 4611686018427000000 by decide) e1 (by intro l hl; cases hl) (by decide) (x' := emptyX) rfl).mono ?_
  rintro y w' ⟨q, cq, U, W, rfl, hC, hT, hN⟩
  have hoa : Only [] w' (w'.alloc (.map #[] 0)) := (Only.refl [] w').alloc _
  have hbel := hC.below
  have hlow : ∀ k ∈ W, k < w'.heap.size := by
    obtain ⟨base, v, ss, T, m, bb, ba, h1, _⟩ := hC
    exact h1.low
  have how : Only [] w w' := ho.trans hT.1 (fun y hy => .inr (by simp at hy; omega))
  exact ⟨q, cq, rfl, D, [], emptyX, U, W, _, 0, hC.only0 hoa, ⟨hW, hQ, hn, hS⟩, hoff, ⟨rfl, by decide, by intro l hl; cases hl⟩, by rw [hd]; decide, by omega, ⟨VM.made w' _ _, has_nil, fun h => by have := hbel _ h; omega, fun h => by have := hlow _ h; omega, how.size⟩, how.trans hoa (by simp)⟩
end
end Go.Proofs.YthgfmoogagldmaaGreat.Cache
