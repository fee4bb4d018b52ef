/- JournalG: The law's small functions: Same, either, Light; Acts in memory; Light; A journal in the law's loop: what is kept beside it. -/
import Derived.Test.YthgfmoogagldmaaGreatJournalF
import Derived.Test.YthgfmoogagldmaaGreatJournalM
set_option linter.unusedVariables false
set_option maxRecDepth 100000
namespace Go.Proofs.YthgfmoogagldmaaGreat.Journal
open Go.RowKit Go.Shelf Disk Go.Proofs.YthgfmoogagldmaaGreat.Frame
def Lst (w : World) (A : Option Addr) (n : Nat) (ls : List (List UInt8)) : Prop := ∃ ss : List Sl, ss.length = n ∧ Reads w w.heap.size 1 A n (ss.map Sl.val) ∧ ss.map (·.l) = ls ∧ ∀ s ∈ ss, Bytes w w.heap.size s.A s.n s.l
section
variable {w w' : World}
theorem Lst.only0 {A : Option Addr} {n : Nat} {ls : List (List UInt8)} (h : Lst w A n ls) (ho : Only [] w w') : Lst w' A n ls := by
  obtain ⟨ss, h1, h2, h3, h4⟩ := h
  exact ⟨ss, h1, (h2.only ho (by simp)).more ho.size, h3, fun s hs => ((h4 s hs).only ho (by simp)).more ho.size⟩
theorem Lst.len {A : Option Addr} {n : Nat} {ls : List (List UInt8)} (h : Lst w A n ls) : ls.length = n := by
  obtain ⟨ss, h1, _, h3, _⟩ := h
  rw [← h3, List.length_map, h1]
end
end Go.Proofs.YthgfmoogagldmaaGreat.Journal
namespace Go.Proofs.YthgfmoogagldmaaGreat.Journal
open Go.RowKit Go.Shelf Disk Go.Proofs.YthgfmoogagldmaaGreat.Frame
structure AJ where
  kind : Int
  n : Int
  b : Sl
  LA : Option Addr
  Lc : Nat
  ss : List Sl
  FA : Option Addr
  Fc : Nat
  fs : List Int
def AJ.row (a : AJ) : List Value := [.int .i64 a.kind, .int .i64 a.n, .slice a.b.A a.b.n a.b.c, .slice a.LA a.ss.length a.Lc, .slice a.FA a.fs.length a.Fc]
def aj0 : AJ := ⟨0, 0, ⟨none, 0, 0, []⟩, none, 0, [], none, 0, []⟩
structure AJ.in_ (w : World) (a : AJ) : Prop where
  b : Bytes w w.heap.size a.b.A a.b.n a.b.l ∧ a.b.n ≤ a.b.c ∧ a.b.c ≤ maxLen
  l : Reads w w.heap.size 1 a.LA a.ss.length (a.ss.map Sl.val)
  e : ∀ s ∈ a.ss, Bytes w w.heap.size s.A s.n s.l ∧ s.n ≤ s.c ∧ s.c ≤ maxLen
  f : Reads w w.heap.size 1 a.FA a.fs.length (a.fs.map (Value.int .i64))
def AJ.lit (a : AJ) : Prop := a.b.n ≤ 1000 ∧ a.ss.length ≤ 10 ∧ a.fs.length ≤ 100 ∧ ∀ s ∈ a.ss, s.n ≤ 1000
theorem take_all_snoc {α : Type} {P : α → Prop} {l : List α} {k : Nat} {a : α} (h : ∀ x ∈ l.take k, P x) (hk : l[k]? = some a) (ha : P a) : ∀ x ∈ l.take (k + 1), P x := by
  obtain ⟨hlt, rfl⟩ := List.getElem?_eq_some_iff.1 hk
  rw [List.take_succ_eq_append_getElem hlt]
  intro x hx
  rcases List.mem_append.1 hx with hx | hx
  · exact h x hx
  · rw [List.mem_singleton.1 hx]; exact ha
section
variable {w w' : World}
end
end Go.Proofs.YthgfmoogagldmaaGreat.Journal
namespace Go.Proofs.YthgfmoogagldmaaGreat.Journal
open Go.RowKit Go.Shelf Disk Go.Proofs.YthgfmoogagldmaaGreat.Frame
def St (m : Nat) (w : World) (p g b q cap : Nat) (d : DS) (js : JS) (T : List Nat) : Prop :=
  ∃ base W v ss, IsD w p g b W cap d ∧ IsJ w p g b q base js v ss ∧ (∀ k ∈ W, k ∉ q :: ownL v) ∧ base ≤ w.heap.size ∧ T = JT p g b q v ∧ m ≤ p ∧ m ≤ g ∧ m ≤ b ∧ m ≤ q ∧ m ≤ base
def Kept (w : World) (T : List Nat) (A : Option Addr) (n : Nat) (ls : List (List UInt8)) : Prop :=
  ∃ ss : List Sl, ss.length = n ∧ Reads w w.heap.size 1 A n (ss.map Sl.val) ∧ (0 < n → ∀ k ∈ blkOf A, k ∉ T) ∧ ss.map (·.l) = ls ∧ ∀ s ∈ ss, Bytes w w.heap.size s.A s.n s.l ∧ (0 < s.n → ∀ k ∈ blkOf s.A, k ∉ T)
section
variable {w w' : World} {p g b q cap m n : Nat} {d : DS} {js : JS} {T T' : List Nat} {A : Option Addr} {ls : List (List UInt8)}
theorem Kept.lst (h : Kept w T A n ls) : Lst w A n ls := by
  obtain ⟨ss, h1, h2, _, h3, h4⟩ := h
  exact ⟨ss, h1, h2, h3, fun s hs => (h4 s hs).1⟩
theorem reads_lt {B n : Nat} {A : Option Addr} {xs : List Value} (h : Reads w B 1 A n xs) (hn : 0 < n) : ∀ k ∈ blkOf A, k < B := by
  obtain ⟨ad, u, rfl, hb, _⟩ := h.at_ (k := 0) hn
  intro k hk
  simp [blkOf] at hk
  omega
theorem Kept.only (h : Kept w T A n ls) (ho : Only T w w') (hT : ∀ k ∈ T', k ∈ T ∨ w.heap.size ≤ k) : Kept w' T' A n ls := by
  obtain ⟨ss, h1, h2, h3, h4, h5⟩ := h
  refine ⟨ss, h1, (reads_pos h2 ho h3).more ho.size, fun hn k hk hm => ?_, h4, fun s hs => ?_⟩
  · rcases hT k hm with e | e
    · exact h3 hn k hk e
    · have := reads_lt h2 hn k hk; omega
  · obtain ⟨a1, a2⟩ := h5 s hs
    refine ⟨(a1.only_pos ho a2).more ho.size, fun hn k hk hm => ?_⟩
    rcases hT k hm with e | e
    · exact a2 hn k hk e
    · have := bytes_lt a1 hn k hk; omega
theorem Kept.only0 (h : Kept w T A n ls) (ho : Only [] w w') : Kept w' T A n ls := h.only (ho.mono (by simp)) (fun k hk => .inl hk)
theorem Kept.nil (w : World) (T : List Nat) : Kept w T none 0 [] := ⟨[], rfl, ⟨rfl, fun h => absurd h (by omega)⟩, fun h => absurd h (by omega), rfl, by simp⟩
theorem St.only0 (h : St m w p g b q cap d js T) (ho : Only [] w w') : St m w' p g b q cap d js T := by
  obtain ⟨base, W, v, ss, h1, h2, h3, h4, h5⟩ := h
  exact ⟨base, W, v, ss, h1.only0 ho, h2.only0 ho, h3, Nat.le_trans h4 ho.size, h5⟩
theorem St.above (h : St m w p g b q cap d js T) : ∀ k ∈ T, m ≤ k := by
  obtain ⟨base, W, v, ss, h1, h2, h3, h4, rfl, hp, hg, hb, hq, hbb⟩ := h
  intro k hk
  unfold JT at hk
  simp only [List.mem_cons] at hk
  rcases hk with e | e | e | e | e
  · omega
  · omega
  · omega
  · omega
  · have := (h2.own.lt k e).1; omega
theorem St.below (h : St m w p g b q cap d js T) : ∀ k ∈ T, k < w.heap.size := by
  obtain ⟨base, W, v, ss, h1, h2, h3, h4, rfl, hp, hg, hb, hq, hbb⟩ := h
  have e2 := h1.blk.lt
  obtain ⟨C, c1, _⟩ := h1.safe
  have e3 := c1.lt
  have e4 := isD_map_lt h1
  have e5 := h2.lt
  intro k hk
  unfold JT at hk
  simp only [List.mem_cons] at hk
  rcases hk with e | e | e | e | e
  · omega
  · omega
  · omega
  · omega
  · exact (h2.own.lt k e).2
def Turn (w : World) (T T' : List Nat) (w' : World) : Prop := Only T w w' ∧ ∀ k ∈ T', k ∈ T ∨ w.heap.size ≤ k
theorem app_turn {W : List Nat} {base : Nat} {v : Value} {r : DS × JS × Int} {x : Ending} {ss : List Sl} (h : AppO w p g b W cap q base v ss r x w') (hb : base ≤ w.heap.size) (hm : m ≤ p ∧ m ≤ g ∧ m ≤ b ∧ m ≤ q ∧ m ≤ base) :
    x = .returned (.int .i64 r.2.2) ∧ ∃ T', St m w' p g b q cap r.1 r.2.1 T' ∧ Turn w (JT p g b q v) T' w' := by
  obtain ⟨rfl, W', v', ss', k1, k2, k3, k4, k5, k6, _⟩ := h
  refine ⟨rfl, JT p g b q v', ⟨base, W', v', ss', k1, k3, k6, Nat.le_trans hb k4.size, rfl, hm.1, hm.2.1, hm.2.2.1, hm.2.2.2.1, hm.2.2.2.2⟩, k4, fun k hk => ?_⟩
  unfold JT at hk ⊢
  simp only [List.mem_cons] at hk ⊢
  rcases hk with e | e | e | e | e
  · exact .inl (.inl e)
  · exact .inl (.inr (.inl e))
  · exact .inl (.inr (.inr (.inl e)))
  · exact .inl (.inr (.inr (.inr (.inl e))))
  · rcases k5 k e with h | h
    · exact .inl (.inr (.inr (.inr (.inr h))))
    · exact .inr h
theorem St.append (h : St m w p g b q cap d js T) (hn2 : 2 ≤ d.n) (A : Option Addr) (n c : Nat) (l : List UInt8) (hr : Bytes w w.heap.size A n l) (hn : n ≤ 2000) (hnc : n ≤ c) (hcm : c ≤ maxLen) (hfar : 0 < n → ∀ k ∈ blkOf A, k ∉ T) (hsl : js.l.length ≤ 100000) (hdn : d.done ≤ 4611686018427000000) :
    Calls Tryz.prog 15 #[.pointer (some ⟨q, 0, none⟩), .slice A n c] w fun x w' => x = .returned (.int .i64 (appendJ d js l).2.2) ∧ ∃ T', St m w' p g b q cap (appendJ d js l).1 (appendJ d js l).2.1 T' ∧ Turn w T T' w' := by
  obtain ⟨base, W, v, ss, h1, h2, h3, h4, rfl, hm⟩ := h
  exact (append_any h1 hn2 h2 h3 A n c l hr hn hnc hcm hfar (by rw [← h2.l, List.length_map] at hsl; exact hsl) hdn h4).mono fun x w' hx => app_turn hx h4 hm
theorem St.reset (h : St m w p g b q cap d js T) (hn2 : 2 ≤ d.n) (A : Option Addr) (n c : Nat) (ts : List Sl) (hl : ts.length = n) (hr : Reads w w.heap.size 1 A n (ts.map Sl.val)) (hh : Held w T ts) (h2k : ∀ s ∈ ts, s.n ≤ 2000) (hn : n ≤ 100000) (hfar : 0 < n → ∀ k ∈ blkOf A, k ∉ T) (hdn : d.done ≤ 4611686018426000000)
    (hroom : js.half.room = roomD d) (hgen : 0 ≤ js.half.gen ∧ js.half.gen ≤ 4611686018427380000) (hsmall : (halfD d (js.half.gen + 1)).small) :
    Calls Tryz.prog 17 #[.pointer (some ⟨q, 0, none⟩), .slice A n c] w fun x w' => x = .returned (.int .i64 (resetJ d js (ts.map (·.l))).2.2) ∧ ∃ T', St m w' p g b q cap (resetJ d js (ts.map (·.l))).1 (resetJ d js (ts.map (·.l))).2.1 T' ∧ Turn w T T' w' := by
  obtain ⟨base, W, v, ss, h1, h2, h3, h4, rfl, hm⟩ := h
  exact (reset_any h1 hn2 h2 h3 A n c ts hl hr hh h2k hn hfar h4 hdn hroom hgen hsmall).mono fun x w' hx => app_turn hx h4 hm
theorem St.did {base : Nat} {W : List Nat} {v : Value} {ss : List Sl} {d' : DS} (hd : IsD w p g b W cap d) (hj : IsJ w p g b q base js v ss) (hWT : ∀ k ∈ W, k ∉ q :: ownL v) (hb : base ≤ w.heap.size) (hm : m ≤ p ∧ m ≤ g ∧ m ≤ b ∧ m ≤ q ∧ m ≤ base) (h : Did w p g b W cap d' w') : St m w' p g b q cap d' js (JT p g b q v) ∧ Turn w (JT p g b q v) (JT p g b q v) w' := by
  obtain ⟨W', h1, h2, h3⟩ := h
  refine ⟨⟨base, W', v, ss, h1, hj.deed hd h3, fun k hk hm => ?_, Nat.le_trans hb h3.size, rfl, hm⟩, h3.mono (fun k hk => .inl (jt_of k hk)), fun k hk => .inl hk⟩
  rcases h2 k hk with e | e
  · exact hWT k e hm
  · rcases List.mem_cons.1 hm with e2 | e2
    · have := hj.lt; omega
    · have := (hj.own.lt k e2).2; omega
theorem St.stop (h : St m w p g b q cap d js T) (a : Int) (ha : a ≤ 9223372036854775807) : Calls Tryz.prog 18 #[.pointer (some ⟨p, 0, none⟩), .int .i64 a] w fun x w' => x = .returned (.tuple #[]) ∧ St m w' p g b q cap (stopD d a) js T ∧ Turn w T T w' := by
  obtain ⟨base, W, v, ss, h1, h2, h3, h4, rfl, hm⟩ := h
  exact (stop_any h1 a ha).mono fun x w' ⟨k1, k2⟩ => ⟨k1, St.did h1 h2 h3 h4 hm k2⟩
theorem St.crash (h : St m w p g b q cap d js T) (A : Option Addr) (n c : Nat) (fs : List Int) (hl : fs.length = n) (hr : Reads w w.heap.size 1 A n (fs.map (Value.int .i64))) (hn : n ≤ 1000000) (hfar : 0 < n → ∀ k ∈ blkOf A, k < m) :
    Calls Tryz.prog 21 #[.pointer (some ⟨p, 0, none⟩), .slice A n c] w fun x w' => ∃ ks, waitsD d ks ∧ x = .returned (.tuple #[]) ∧ St m w' p g b q cap (crashD d fs ks) js T ∧ Turn w T T w' := by
  subst hl
  obtain ⟨base, W, v, ss, h1, h2, h3, h4, rfl, hm⟩ := h
  refine (crash_any A c h1 fs hr hn (fun h k hk => by have := hfar h k hk; omega)).mono ?_
  rintro x w' ⟨ks, k1, rfl, k2⟩
  exact ⟨ks, k1, rfl, St.did h1 h2 h3 h4 hm k2⟩
theorem St.groups (h : St m w p g b q cap d js T) (hn : js.l.length ≤ 1000000) : Calls Tryz.prog 23 #[.pointer (some ⟨q, 0, none⟩)] w fun x w' => GroupsO w js.l x w' := by
  obtain ⟨base, W, v, ss, h1, h2, h3, h4, _⟩ := h
  exact groups_is h2 (by rw [← h2.l, List.length_map] at hn; exact hn)
theorem St.jdown (h : St m w p g b q cap d js T) : Calls Tryz.prog 19 #[.pointer (some ⟨q, 0, none⟩)] w fun x w' => x = .returned (.bool js.off) ∧ w' = w := by
  obtain ⟨base, W, v, ss, h1, h2, h3, h4, _⟩ := h
  exact jdown_is h2
theorem St.ddown (h : St m w p g b q cap d js T) : Calls Tryz.prog 20 #[.pointer (some ⟨p, 0, none⟩)] w fun x w' => x = .returned (.bool d.off) ∧ w' = w := by
  obtain ⟨base, W, v, ss, h1, h2, h3, h4, _⟩ := h
  exact down_any h1
theorem St.open_ (h : St m w p g b q cap d js T) (hn2 : d.n ≤ 200000) (hg : newestD d ≤ 4611686018427387000) (hdn : d.done ≤ 4611686018427000000) {D : DS} {js' : JS} (hs : openJ d = (D, some js', 0)) :
    Calls Tryz.prog 13 #[.pointer (some ⟨p, 0, none⟩)] w fun x w' => ∃ q' T', x = .returned (.tuple #[.pointer (some ⟨q', 0, none⟩), .int .i64 0]) ∧ St m w' p g b q' cap D js' T' ∧ Turn w T T' w' := by
  obtain ⟨base, W, v, ss, h1, h2, h3, h4, rfl, hm⟩ := h
  refine (open_any h1 hn2 hg hdn).mono ?_
  intro x w' hx
  rw [hs] at hx
  rcases hx with ⟨h1', _⟩ | ⟨js'', q', v', ss', W', k0, rfl, k2, k3, k4, k5, k6, k7, k8⟩
  · cases k0' : h1'
  · cases k0
    have hsz := h2.lt
    refine ⟨q', JT p g b q' v', rfl, ⟨w.heap.size, W', v', ss', k3, k6, k8, k5.size, rfl, hm.1, hm.2.1, hm.2.2.1, by omega, by omega⟩, k5.mono (fun k hk => .inl (jt_of k hk)), fun k hk => ?_⟩
    unfold JT at hk ⊢
    simp only [List.mem_cons] at hk ⊢
    rcases hk with e | e | e | e | e
    · exact .inl (.inl e)
    · exact .inl (.inr (.inl e))
    · exact .inl (.inr (.inr (.inl e)))
    · exact .inr (by omega)
    · exact .inr (k6.own.lt k e).1
end
end Go.Proofs.YthgfmoogagldmaaGreat.Journal
