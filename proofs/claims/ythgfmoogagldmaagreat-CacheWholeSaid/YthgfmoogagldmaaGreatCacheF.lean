/- CacheF: A cache, its journal and its disk in memory, held together; what a Put makes of them; Acts on a cache, in memory and as they come in; Light. -/
import Derived.Test.YthgfmoogagldmaaGreatCacheE
import Derived.Test.YthgfmoogagldmaaGreatJournalG
import Derived.Test.YthgfmoogagldmaaGreatOpens
set_option linter.unusedVariables false
set_option maxRecDepth 100000
namespace Go.Proofs.YthgfmoogagldmaaGreat.Cache
open Go.RowKit Go.Maps Go.Shelf Journal Disk Codec
def CW (lo : Nat) (w : World) (p g b q cap cq : Nat) (d : DS) (js : JS) (x : XS) (ev : Nat) (U W : List Nat) : Prop :=
  ∃ base v ss T m bb ba, IsD w p g b W cap d ∧ IsJ w p g b q base js v ss ∧ (∀ k ∈ W, k ∉ q :: ownL v) ∧ base ≤ w.heap.size ∧ IsC w cq (.pointer (some ⟨q, 0, none⟩)) T m bb ba x ev ∧ m ≤ w.heap.size ∧ Sep (cq :: T) p g b q v W ss ∧ U = JT p g b q v ++ cq :: T ∧
    (lo ≤ p ∧ lo ≤ g ∧ lo ≤ b ∧ lo ≤ q ∧ lo ≤ base) ∧ lo ≤ cq ∧ lo ≤ m
def putC (d : DS) (js : JS) (x : XS) (e : Ent) : DS × JS × XS × Int :=
  match findX x e.1 with
  | some a => if a.2.2 = e.2 then (d, js, x, 0) else ((appendJ d js (packC e)).1, (appendJ d js (packC e)).2.1, (if (appendJ d js (packC e)).2.2 = 0 then addX x e else x), (appendJ d js (packC e)).2.2)
  | none => ((appendJ d js (packC e)).1, (appendJ d js (packC e)).2.1, (if (appendJ d js (packC e)).2.2 = 0 then addX x e else x), (appendJ d js (packC e)).2.2)
theorem putC_same {d : DS} {js : JS} {x : XS} {e : Ent} {a : Nat × Ent} (h : findX x e.1 = some a) (h2 : a.2.2 = e.2) : putC d js x e = (d, js, x, 0) := by
  unfold putC
  rw [h]
  simp only
  rw [if_pos h2]
theorem putC_new {d : DS} {js : JS} {x : XS} {e : Ent} (h : ∀ a, findX x e.1 = some a → a.2.2 ≠ e.2) : putC d js x e = ((appendJ d js (packC e)).1, (appendJ d js (packC e)).2.1, (if (appendJ d js (packC e)).2.2 = 0 then addX x e else x), (appendJ d js (packC e)).2.2) := by
  unfold putC
  cases hf : findX x e.1 with
  | none => rfl
  | some a => simp only; rw [if_neg (h a hf)]
theorem findX_dec (x : XS) (e : Ent) : (∃ a, findX x e.1 = some a ∧ a.2.2 = e.2) ∨ ∀ a, findX x e.1 = some a → a.2.2 ≠ e.2 := by
  cases hf : findX x e.1 with
  | none => exact .inr (fun a h => by cases h)
  | some a =>
    by_cases h : a.2.2 = e.2
    · exact .inl ⟨a, rfl, h⟩
    · exact .inr (fun c hc => by injection hc with hc; subst hc; exact h)
section
variable {lo : Nat} {w w' : World} {p g b q cap cq ev : Nat} {d : DS} {js : JS} {x : XS} {U W : List Nat}
theorem CW.only0 (h : CW lo w p g b q cap cq d js x ev U W) (ho : Only [] w w') : CW lo w' p g b q cap cq d js x ev U W := by
  obtain ⟨base, v, ss, T, m, bb, ba, h1, h2, h3, h4, h5, h6, h7⟩ := h
  exact ⟨base, v, ss, T, m, bb, ba, h1.only0 ho, h2.only0 ho, h3, Nat.le_trans h4 ho.size, h5.only0 ho, Nat.le_trans h6 ho.size, h7⟩
theorem CW.above (h : CW lo w p g b q cap cq d js x ev U W) : ∀ k ∈ U, lo ≤ k := by
  obtain ⟨base, v, ss, T, m, bb, ba, h1, h2, h3, h4, h5, h6, h7, rfl, h9, h10, h11⟩ := h
  have hs : St lo w p g b q cap d js (JT p g b q v) := ⟨base, W, v, ss, h1, h2, h3, h4, rfl, h9⟩
  intro k hk
  rcases List.mem_append.1 hk with hk | hk
  · exact hs.above k hk
  · rcases List.mem_cons.1 hk with hk | hk
    · omega
    · have := (h5.idx.lo k hk).1; omega
theorem CW.below (h : CW lo w p g b q cap cq d js x ev U W) : ∀ k ∈ U, k < w.heap.size := by
  obtain ⟨base, v, ss, T, m, bb, ba, h1, h2, h3, h4, h5, h6, h7, rfl, h9, h10, h11⟩ := h
  have hs : St lo w p g b q cap d js (JT p g b q v) := ⟨base, W, v, ss, h1, h2, h3, h4, rfl, h9⟩
  intro k hk
  rcases List.mem_append.1 hk with hk | hk
  · exact hs.below k hk
  · rcases List.mem_cons.1 hk with hk | hk
    · have := h5.blk.lt; omega
    · exact (h5.idx.lo k hk).2
theorem CW.put (h : CW lo w p g b q cap cq d js x ev U W) (hn2 : 2 ≤ d.n) (hoff : js.off = false) (e : Ent) (hk : e.1.length ≤ 500) (hval : e.2.length ≤ 1000) (hsl : js.l.length ≤ 100000) (hdn : d.done ≤ 4611686018427000000) (hnx : x.nx < 1000000)
    (hr : (appendJ d js (packC e)).2.2 = 0 ∨ (appendJ d js (packC e)).2.2 = 3) :
    Calls Tryz.prog 43 #[.pointer (some ⟨cq, 0, none⟩), .string (str e.1), .string (str e.2)] w fun y w' => y = .returned (.int .i64 (putC d js x e).2.2.2) ∧ ∃ U' W', CW lo w' p g b q cap cq (putC d js x e).1 (putC d js x e).2.1 (putC d js x e).2.2.1 ev U' W' ∧ Turn w U U' w' ∧ Newer w W W' := by
  have hw := h
  obtain ⟨base, v, ss, T, m, bb, ba, h1, h2, h3, h4, h5, h6, h7, rfl, h9, h10, h11⟩ := h
  obtain ⟨ek, evl⟩ := e
  simp only at hk hval ⊢
  rcases findX_dec x (ek, evl) with ⟨a, ha, hav⟩ | hne
  · rw [putC_same ha hav]
    refine (cput_same h5 h2 hoff ek evl hk hval ha hav).mono ?_
    rintro y w' ⟨rfl, ho⟩
    exact ⟨rfl, _, _, hw.only0 ho, ⟨ho.mono (by simp), fun k hk => .inl hk⟩, Newer.refl _ _⟩
  · rw [putC_new hne]
    have hss : ss.length ≤ 100000 := by rw [← h2.l, List.length_map] at hsl; exact hsl
    obtain ⟨D, hD⟩ : ∃ D, appendJ d js (packC (ek, evl)) = D := ⟨_, rfl⟩
    rw [hD] at hr ⊢
    obtain ⟨D, js', r⟩ := D
    simp only at hr ⊢
    have fin : ∀ {x' : XS} {w' : World}, PutO w p g b cap q base cq m bb ba W T v ss D js' x' ev w' → ∃ U' W', CW lo w' p g b q cap cq D js' x' ev U' W' ∧ Turn w (JT p g b q v ++ cq :: T) U' w' ∧ Newer w W W' := by
      rintro x' w' ⟨W', T', k1, k2, k3, v', ss', k4, k5, k6, k7, k8, k9⟩
      refine ⟨_, W', ⟨base, v', ss', T', m, bb, ba, k1, k4, k5, Nat.le_trans h4 k3.size, k2, Nat.le_trans h6 k3.size, k6, rfl, h9, h10, h11⟩, ⟨k3, fun k hk => ?_⟩, k9⟩
      rcases List.mem_append.1 hk with hk | hk
      · unfold JT at hk
        simp only [List.mem_cons] at hk
        rcases hk with e | e | e | e | e
        · exact .inl (by simp [JT, e])
        · exact .inl (by simp [JT, e])
        · exact .inl (by simp [JT, e])
        · exact .inl (by simp [JT, e])
        · rcases k8 k e with e | e
          · exact .inl (by simp [JT, e])
          · exact .inr e
      · rcases List.mem_cons.1 hk with e | e
        · exact .inl (by simp [e])
        · rcases k7 k e with e | e
          · exact .inl (by simp [e])
          · exact .inr e
    rcases hr with rfl | rfl
    · rw [if_pos rfl]
      refine (cput_ok h1 hn2 h2 h3 h5 h7 hoff ek evl hk hval hne hss hdn h4 h6 hnx hD).mono ?_
      rintro y w' ⟨rfl, ho⟩
      exact ⟨rfl, fin ho⟩
    · rw [if_neg (by decide)]
      refine (cput_no h1 hn2 h2 h3 h5 h7 hoff ek evl hk hval hne hss hdn h4 h6 hnx hD).mono ?_
      rintro y w' ⟨rfl, ho⟩
      exact ⟨rfl, fin ho⟩
theorem CW.did {d' : DS} {base m bb ba : Nat} {T : List Nat} {v : Value} {ss : List Sl} (h1 : IsD w p g b W cap d) (h2 : IsJ w p g b q base js v ss) (h3 : ∀ k ∈ W, k ∉ q :: ownL v) (h4 : base ≤ w.heap.size) (h5 : IsC w cq (.pointer (some ⟨q, 0, none⟩)) T m bb ba x ev) (h6 : m ≤ w.heap.size) (h7 : Sep (cq :: T) p g b q v W ss)
    (h9 : lo ≤ p ∧ lo ≤ g ∧ lo ≤ b ∧ lo ≤ q ∧ lo ≤ base) (h10 : lo ≤ cq) (h11 : lo ≤ m) (hdid : Did w p g b W cap d' w') : ∃ W', CW lo w' p g b q cap cq d' js x ev (JT p g b q v ++ cq :: T) W' ∧ Turn w (JT p g b q v ++ cq :: T) (JT p g b q v ++ cq :: T) w' ∧ Newer w W W' := by
  obtain ⟨W', k1, k2, k3⟩ := hdid
  have hjt : ∀ k ∈ [p, g, b], k ∈ JT p g b q v := fun k hk => jt_of k hk
  refine ⟨W', ⟨base, v, ss, T, m, bb, ba, k1, h2.deed h1 k3, fun k hk hm => ?_, Nat.le_trans h4 k3.size, h5.only k3 (fun k hk hm => (h7 k hk).1 (hjt k hm)), Nat.le_trans h6 k3.size, fun k hk => ⟨(h7 k hk).1, fun hm => ?_, (h7 k hk).2.2⟩, rfl, h9, h10, h11⟩, ⟨k3.mono (fun k hk => .inl (List.mem_append_left _ (hjt k hk))), fun k hk => .inl hk⟩, k2⟩
  · rcases k2 k hk with e | e
    · exact h3 k e hm
    · rcases List.mem_cons.1 hm with e2 | e2
      · have := h2.lt; omega
      · have := (h2.own.lt k e2).2; omega
  · rcases k2 k hm with e | e
    · exact (h7 k hk).2.1 e
    · rcases List.mem_cons.1 hk with e2 | e2
      · have := h5.blk.lt; omega
      · have := (h5.idx.lo k e2).2; omega
theorem CW.stop (h : CW lo w p g b q cap cq d js x ev U W) (a : Int) (ha : a ≤ 9223372036854775807) : Calls Tryz.prog 18 #[.pointer (some ⟨p, 0, none⟩), .int .i64 a] w fun y w' => y = .returned (.tuple #[]) ∧ ∃ W', CW lo w' p g b q cap cq (stopD d a) js x ev U W' ∧ Turn w U U w' ∧ Newer w W W' := by
  obtain ⟨base, v, ss, T, m, bb, ba, h1, h2, h3, h4, h5, h6, h7, rfl, h9, h10, h11⟩ := h
  exact (stop_any h1 a ha).mono fun y w' ⟨k1, k2⟩ => ⟨k1, CW.did h1 h2 h3 h4 h5 h6 h7 h9 h10 h11 k2⟩
theorem CW.crash (h : CW lo w p g b q cap cq d js x ev U W) (A : Option Addr) (n c : Nat) (fs : List Int) (hl : fs.length = n) (hr : Reads w w.heap.size 1 A n (fs.map (Value.int .i64))) (hn : n ≤ 1000000) (hfar : 0 < n → ∀ k ∈ blkOf A, k < lo) :
    Calls Tryz.prog 21 #[.pointer (some ⟨p, 0, none⟩), .slice A n c] w fun y w' => ∃ ks, waitsD d ks ∧ y = .returned (.tuple #[]) ∧ ∃ W', CW lo w' p g b q cap cq (crashD d fs ks) js x ev U W' ∧ Turn w U U w' ∧ Newer w W W' := by
  subst hl
  obtain ⟨base, v, ss, T, m, bb, ba, h1, h2, h3, h4, h5, h6, h7, rfl, h9, h10, h11⟩ := h
  refine (crash_any A c h1 fs hr hn (fun h k hk => by have := hfar h k hk; omega)).mono ?_
  rintro y w' ⟨ks, k1, rfl, k2⟩
  exact ⟨ks, k1, rfl, CW.did h1 h2 h3 h4 h5 h6 h7 h9 h10 h11 k2⟩
theorem CW.beside {P : Program} {K : TypeId} {hb n : Nat} {f : Lit → Option Value} (h : CW lo w p g b q cap cq d js x ev U W) (hv : VM P K w hb n f) (h1 : hb ∉ U) (h2 : hb ∉ W) (ho : Only [hb] w w') : CW lo w' p g b q cap cq d js x ev U W := by
  obtain ⟨base, v, ss, T, m, bb, ba, k1, k2, k3, k4, k5, k6, k7, rfl, k8⟩ := h
  have hs : Sep [hb] p g b q v W ss := fun k hk => by
    rw [List.mem_singleton.1 hk]
    refine ⟨fun hm => h1 (List.mem_append_left _ hm), h2, fun s hs hn hm => ?_⟩
    obtain ⟨b2, off, hA, hb2, hc⟩ := ((k2.held s hs).1).at_ (k := 0) hn
    rw [hA] at hm
    have e : hb = b2 := by simpa [blkOf] using hm
    subst e
    obtain ⟨es, cl, hh⟩ := vm_heap hv
    simp [World.cell?, hh] at hc
  have hx : ∀ k ∈ cq :: T, k ∉ [hb] := fun k hk hm => by
    rw [List.mem_singleton.1 hm] at hk
    exact h1 (List.mem_append_right _ hk)
  have hj : ∀ k ∈ JT p g b q v, k ≠ hb := fun k hk e => h1 (List.mem_append_left _ (e ▸ hk))
  exact ⟨base, v, ss, T, m, bb, ba, k1.only ho ⟨fun hm => hj p (by simp [JT]) (List.mem_singleton.1 hm), fun hm => hj g (by simp [JT]) (List.mem_singleton.1 hm), fun hm => hj b (by simp [JT]) (List.mem_singleton.1 hm)⟩ (fun k hk hm => h2 (by rw [← List.mem_singleton.1 hm]; exact hk)), isJ_apart k2 ho hs, k3, Nat.le_trans k4 ho.size, k5.only ho hx, Nat.le_trans k6 ho.size, k7, rfl, k8⟩
theorem CW.jdown (h : CW lo w p g b q cap cq d js x ev U W) : Calls Tryz.prog 47 #[.pointer (some ⟨cq, 0, none⟩)] w fun y w' => y = .returned (.bool js.off) ∧ w' = w := by
  obtain ⟨base, v, ss, T, m, bb, ba, h1, h2, h3, h4, h5, _⟩ := h
  exact cdown_any h5 h2
theorem CW.ddown (h : CW lo w p g b q cap cq d js x ev U W) : Calls Tryz.prog 20 #[.pointer (some ⟨p, 0, none⟩)] w fun y w' => y = .returned (.bool d.off) ∧ w' = w := by
  obtain ⟨base, v, ss, T, m, bb, ba, h1, _⟩ := h
  exact down_any h1
theorem CW.get (h : CW lo w p g b q cap cq d js x ev U W) (k : List UInt8) (hk : k.length ≤ 1000000) : Calls Tryz.prog 41 #[.pointer (some ⟨cq, 0, none⟩), .string (str k)] w fun y w' => y = .returned (foundG (findX x k)) ∧ Only [] w w' := by
  obtain ⟨base, v, ss, T, m, bb, ba, h1, h2, h3, h4, h5, _⟩ := h
  exact cget_any h5 k hk
theorem CW.entries (h : CW lo w p g b q cap cq d js x ev U W) : Calls Tryz.prog 44 #[.pointer (some ⟨cq, 0, none⟩)] w fun y w' => ∃ v, y = .returned v ∧ OwnR 69 2 w' w.heap.size v x.L.length (x.L.map entRow) ∧ Only [] w w' := by
  obtain ⟨base, v, ss, T, m, bb, ba, h1, h2, h3, h4, h5, _⟩ := h
  exact centries_any h5
theorem CW.evicted (h : CW lo w p g b q cap cq d js x ev U W) : Calls Tryz.prog 45 #[.pointer (some ⟨cq, 0, none⟩)] w fun y w' => y = .returned (.int .i64 (ev : Int)) ∧ w' = w := by
  obtain ⟨base, v, ss, T, m, bb, ba, h1, h2, h3, h4, h5, _⟩ := h
  exact cevicted_any h5
theorem CW.ok (h : CW lo w p g b q cap cq d js x ev U W) : x.Ok := by
  obtain ⟨base, v, ss, T, m, bb, ba, h1, h2, h3, h4, h5, _⟩ := h
  exact h5.idx.ok
theorem cw_open (hd : IsD w p g b W cap d) (hlo : lo ≤ p ∧ lo ≤ g ∧ lo ≤ b) (hw : lo ≤ w.heap.size) (hn2 : d.n ≤ 200000) (hg : newestD d ≤ 4611686018427387000) (hdn : d.done ≤ 4611686018427000000) {D : DS} {js' : JS} (hs : openJ d = (D, some js', 0)) (hlen : ∀ l ∈ js'.l, l.length ≤ 10000) (hcnt : js'.l.length ≤ 100000) {x' : XS} (hx : loadX js'.l emptyX = some x') :
    Calls Tryz.prog 48 #[.pointer (some ⟨p, 0, none⟩)] w fun y w' => ∃ q' cq' U' W', y = .returned (.tuple #[.pointer (some ⟨cq', 0, none⟩), .int .i64 0]) ∧ CW lo w' p g b q' cap cq' D js' x' 0 U' W' ∧ Turn w [p, g, b] U' w' ∧ Newer w W W' := by
  refine (copen_any hd hn2 hg hdn hs hlen hcnt hx).mono ?_
  rintro y w' ⟨q', v', ss', W', cq', T', m', bb', ba', rfl, k1, k2, k3, k4, k5, k6, k7, k8, k9, k10⟩
  refine ⟨q', cq', _, W', rfl, ⟨w.heap.size, v', ss', T', m', bb', ba', k1, k3, k4, k6.size, k5, ?_, k10, rfl, ⟨hlo.1, hlo.2.1, hlo.2.2, by omega, by omega⟩, by omega, by omega⟩, ⟨k6, fun k hk => ?_⟩, k2⟩
  · have := (k5.idx.lo bb' k5.idx.tt.1)
    omega
  · rcases List.mem_append.1 hk with hk | hk
    · unfold JT at hk
      simp only [List.mem_cons] at hk
      rcases hk with e | e | e | e | e
      · exact .inl (by simp [e])
      · exact .inl (by simp [e])
      · exact .inl (by simp [e])
      · exact .inr (by omega)
      · exact .inr (k3.own.lt k e).1
    · rcases List.mem_cons.1 hk with e | e
      · exact .inr (by omega)
      · have := (k5.idx.lo k e).1
        exact .inr (by omega)
theorem CW.open_ (h : CW lo w p g b q cap cq d js x ev U W) (hw : lo ≤ w.heap.size) (hn2 : d.n ≤ 200000) (hg : newestD d ≤ 4611686018427387000) (hdn : d.done ≤ 4611686018427000000) {D : DS} {js' : JS} (hs : openJ d = (D, some js', 0)) (hlen : ∀ l ∈ js'.l, l.length ≤ 10000) (hcnt : js'.l.length ≤ 100000) {x' : XS} (hx : loadX js'.l emptyX = some x') :
    Calls Tryz.prog 48 #[.pointer (some ⟨p, 0, none⟩)] w fun y w' => ∃ q' cq' U' W', y = .returned (.tuple #[.pointer (some ⟨cq', 0, none⟩), .int .i64 0]) ∧ CW lo w' p g b q' cap cq' D js' x' 0 U' W' ∧ Turn w U U' w' ∧ Newer w W W' := by
  obtain ⟨base, v, ss, T, m, bb, ba, h1, h2, h3, h4, h5, h6, h7, rfl, h9, h10, h11⟩ := h
  refine (cw_open h1 ⟨h9.1, h9.2.1, h9.2.2.1⟩ hw hn2 hg hdn hs hlen hcnt hx).mono ?_
  rintro y w' ⟨q', cq', U', W', rfl, k1, ⟨k2, k3⟩, k4⟩
  have hjt : ∀ k ∈ [p, g, b], k ∈ JT p g b q v ++ cq :: T := fun k hk => List.mem_append_left _ (jt_of k hk)
  exact ⟨q', cq', U', W', rfl, k1, ⟨k2.mono (fun k hk => .inl (hjt k hk)), fun k hk => (k3 k hk).elim (fun h => .inl (hjt k h)) .inr⟩, k4⟩
end
end Go.Proofs.YthgfmoogagldmaaGreat.Cache
namespace Go.Proofs.YthgfmoogagldmaaGreat.Cache
open Go.RowKit Go.Maps Go.Shelf Journal Disk Go.ChangeShapes Go.WideShapes Go.Deep
structure CA where
  kind : Int
  n : Int
  k : List UInt8
  v : List UInt8
  FA : Option Addr
  Fc : Nat
  fs : List Int
def CA.row (a : CA) : List Value := [.int .i64 a.kind, .int .i64 a.n, .string (str a.k), .string (str a.v), .slice a.FA a.fs.length a.Fc]
def ca0 : CA := ⟨0, 0, [], [], none, 0, []⟩
def CA.in_ (w : World) (a : CA) : Prop := Reads w w.heap.size 1 a.FA a.fs.length (a.fs.map (Value.int .i64))
def CA.lit (a : CA) : Prop := a.k.length ≤ 500 ∧ a.v.length ≤ 1000 ∧ a.fs.length ≤ 100
theorem ca_at {w : World} {B m : Nat} {A : Option Addr} {as_ : List CA} (hr : Recs w B 5 A m (as_.map CA.row)) (k : Nat) (hk : k < m) : ∃ b off, A = some ⟨b, off, none⟩ ∧ b < B ∧ ∃ a ∈ as_, as_[k]? = some a ∧
    w.cell? ⟨b, off + k * 5, none⟩ = some (.int .i64 a.kind) ∧ w.cell? ⟨b, off + k * 5 + 1, none⟩ = some (.int .i64 a.n) ∧ w.cell? ⟨b, off + k * 5 + 2, none⟩ = some (.string (str a.k)) ∧
    w.cell? ⟨b, off + k * 5 + 3, none⟩ = some (.string (str a.v)) ∧ w.cell? ⟨b, off + k * 5 + 4, none⟩ = some (.slice a.FA a.fs.length a.Fc) := by
  obtain ⟨b, off, hA, hb, hc⟩ := hr.at_ ca0 hk
  have hl : k < as_.length := by have := hr.1; rw [List.length_map] at this; omega
  refine ⟨b, off, hA, hb, as_.getD k ca0, ?_, ?_, ?_, ?_, ?_, ?_, ?_⟩
  · rw [List.getD_eq_getElem?_getD, List.getElem?_eq_getElem hl]; exact List.getElem_mem hl
  · rw [List.getD_eq_getElem?_getD, List.getElem?_eq_getElem hl]; rfl
  · have := hc 0 (by decide); rw [Nat.add_zero] at this; exact this
  · exact hc 1 (by decide)
  · exact hc 2 (by decide)
  · exact hc 3 (by decide)
  · exact hc 4 (by decide)
theorem ca_el {H : Type} {enc : TypeId × Value → H} {w : World} {base : Nat} {spare : Nat → Bool} {held : Bool} (fs : Array Field) (hfs : Tryz.prog.underlying 98 = some (.struct fs)) (g : Nat → Value)
    (h : ∀ (j : Nat) (f : Field), fs[j]? = some f → ∃ (y : DataW H × List MemPlace) (n : Nat), DataW.trod enc Tryz.prog w base spare held n f.type [g j] = some y) : ∃ x : CA, x.in_ w ∧ ∀ j, j < fs.size → x.row[j]? = some (g j) := by
  rw [Tryz.underlying98] at hfs
  injection hfs with hfs
  injection hfs with hfs
  subst hfs
  obtain ⟨y0, n0, t0⟩ := h 0 _ rfl
  obtain ⟨y1, n1, t1⟩ := h 1 _ rfl
  obtain ⟨y2, n2, t2⟩ := h 2 _ rfl
  obtain ⟨y3, n3, t3⟩ := h 3 _ rfl
  obtain ⟨y4, n4, t4⟩ := h 4 _ rfl
  obtain ⟨z0, e0, w0⟩ := trod1_int Tryz.underlying3 t0
  obtain ⟨z1, e1, w1⟩ := trod1_int Tryz.underlying3 t1
  obtain ⟨s2, e2, _⟩ := trod1_string Tryz.underlying9 t2
  obtain ⟨s3, e3, _⟩ := trod1_string Tryz.underlying9 t3
  obtain ⟨A4, len4, cap4, e4, r4⟩ := trod1_slice Tryz.underlying23 t4
  rw [e4] at r4
  obtain ⟨zs, hzs, _, _, hr4, _⟩ := open_one (Value.int .i64) (fun _ => True) Tryz.underlying23 (by kernel_rfl) r4 (fun v ⟨y, n, ht⟩ => by
    obtain ⟨z, e, _⟩ := trod1_int Tryz.underlying3 ht
    exact ⟨z, trivial, e.symm⟩)
  subst hzs
  refine ⟨⟨z0, z1, s2.data.toList, s3.data.toList, A4, cap4, zs⟩, hr4, fun j hj => ?_⟩
  match j, hj with
  | 0, _ => rw [e0]; rfl
  | 1, _ => rw [e1]; rfl
  | 2, _ => rw [e2]; rfl
  | 3, _ => rw [e3]; rfl
  | 4, _ => rw [e4]; rfl
section
variable {w w' : World}
set_option maxHeartbeats 2000000 in
theorem light7_any (A : Option Addr) (m c : Nat) (as_ : List CA) (w : World) (hr : Recs w w.heap.size 5 A m (as_.map CA.row)) :
    Calls Tryz.prog 49 #[.slice A m c] w fun x w' => (∃ b, x = .returned (.bool b) ∧ (b = true → m ≤ 50 ∧ ∀ a ∈ as_, a.lit)) ∧ w' = w := by
  have HR := Lib.hid hr
  have HL := Lib.hid (show as_.length = m by have := hr.1; rwa [List.length_map] at this)
  clear hr
  go_enter Tryz.func49, Tryz.ntmps49
  go_wp2_with fail
  go_loopw [3] (fun i wr => ∃ k : Nat, k ≤ m ∧ k ≤ 100 ∧ i = .int .i64 k ∧ wr = w ∧ ∀ a ∈ as_.take k, a.lit) (fun i _ => m - (intOf i).toNat)
  case atStart => exact ⟨0, by omega, by omega, rfl, rfl, by simp⟩
  case round =>
    obtain ⟨k, hk, hk2, rfl, hwr, hlit⟩ := hrel
    subst hwr
    by_cases hlt : k < m
    · have d1 : decide ((k : Int) < (m : Int)) = true := decide_eq_true (by omega)
      by_cases h100 : k < 100
      · have d2 : decide ((k : Int) < 100) = true := decide_eq_true (by omega)
        obtain ⟨b, off, rfl, hb, a, ha, hak, c0, c1, c2, c3, c4⟩ := ca_at HR.out k hlt
        have hk5 := str_size a.k
        have hv5 := str_size a.v
        by_cases q1 : 500 < (str a.k).size
        · have e1 : decide ((500 : Int) < ((str a.k).size : Int)) = true := decide_eq_true (by omega)
          have e1' : decide (500 < (str a.k).size) = true := decide_eq_true q1
          clear hlit hk5 hv5
          go_wp2_with fail
          go_ret
          exact ⟨⟨false, rfl, fun h => by cases h⟩, rfl⟩
        · have e1 : decide ((500 : Int) < ((str a.k).size : Int)) = false := decide_eq_false (by omega)
          have e1' : decide (500 < (str a.k).size) = false := decide_eq_false q1
          by_cases q2 : 1000 < (str a.v).size
          · have e2 : decide ((1000 : Int) < ((str a.v).size : Int)) = true := decide_eq_true (by omega)
            have e2' : decide (1000 < (str a.v).size) = true := decide_eq_true q2
            clear hlit hk5 hv5
            go_wp2_with fail
            go_ret
            exact ⟨⟨false, rfl, fun h => by cases h⟩, rfl⟩
          · have e2 : decide ((1000 : Int) < ((str a.v).size : Int)) = false := decide_eq_false (by omega)
            have e2' : decide (1000 < (str a.v).size) = false := decide_eq_false q2
            by_cases q3 : 100 < a.fs.length
            · have e3 : decide ((100 : Int) < (a.fs.length : Int)) = true := decide_eq_true (by omega)
              have e3' : decide (100 < a.fs.length) = true := decide_eq_true q3
              clear hlit hk5 hv5
              go_wp2_with fail
              go_ret
              exact ⟨⟨false, rfl, fun h => by cases h⟩, rfl⟩
            · have e3 : decide ((100 : Int) < (a.fs.length : Int)) = false := decide_eq_false (by omega)
              have e3' : decide (100 < a.fs.length) = false := decide_eq_false q3
              have HNX := Lib.hid (take_all_snoc (P := CA.lit) hlit hak ⟨by omega, by omega, by omega⟩)
              clear hlit hak ha hk5 hv5
              go_wp2_with fail
              go_roundw
              case measure => simp [intOf]; omega
              case rel => exact ⟨k + 1, by omega, by omega, by go_num, trivial, HNX.out⟩
      · obtain rfl : k = 100 := by omega
        have d2 : decide (((100 : Nat) : Int) < 100) = false := by decide
        have d3 : decide ((m : Int) ≤ 50) = false := decide_eq_false (by omega)
        clear hlit
        go_wp2_with fail
        go_ret
        exact ⟨⟨false, rfl, fun h => by cases h⟩, rfl⟩
    · obtain rfl : k = m := by omega
      have d1 : decide ((k : Int) < (k : Int)) = false := decide_eq_false (by omega)
      rw [List.take_of_length_le (by rw [HL.out]; exact Nat.le_refl _)] at hlit
      have HLT := Lib.hid hlit
      clear hlit
      by_cases q : k ≤ 50
      · have d3 : decide ((k : Int) ≤ 50) = true := decide_eq_true (by omega)
        go_wp2_with fail
        go_ret
        exact ⟨⟨true, rfl, fun _ => ⟨q, HLT.out⟩⟩, rfl⟩
      · have d3 : decide ((k : Int) ≤ 50) = false := decide_eq_false (by omega)
        go_wp2_with fail
        go_ret
        exact ⟨⟨false, rfl, fun h => by cases h⟩, rfl⟩
end
end Go.Proofs.YthgfmoogagldmaaGreat.Cache
