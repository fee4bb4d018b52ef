/- JournalH: What the acts of JournalWholly leave in memory; JournalWholly's acts, behind the switch: recovered, opened once more. -/
import Derived.Test.YthgfmoogagldmaaGreatJournalG
namespace Go.Proofs.YthgfmoogagldmaaGreat.Journal
open Go.RowKit Go.Shelf Disk Go.Proofs.YthgfmoogagldmaaGreat.Frame
set_option linter.unusedVariables false
set_option maxRecDepth 100000
theorem then_done {x : DS × Bool} {f : DS → DS × Bool} {D c1 c2 : Int} (h1 : x.1.done ≤ D + c1) (h0 : 0 ≤ c2) (h2 : ∀ y, (f y).1.done ≤ y.done + c2) : (andThen x f).1.done ≤ D + (c1 + c2) := by
  unfold andThen
  split
  · have := h2 x.1; omega
  · show x.1.done ≤ _; omega
theorem app_done (d : DS) (js : JS) (b : List UInt8) : (appendJ d js b).1.done ≤ d.done + (takesB b + 4) := by
  have ht := takesB_pos b
  unfold appendJ
  split
  · show d.done ≤ _; omega
  · have h1 : (packH d js.half (usedJ js) b).1.done ≤ d.done + takesB b := (packH_done _ _ _ _).1
    have h2 := then_done h1 (by decide : (0 : Int) ≤ 1) (fun y => (zero_done y js.half (usedJ js + takesB b)).1)
    have h3 := then_done h2 (by decide : (0 : Int) ≤ 1) (fun y => (syn_done y).1)
    have h4 := then_done h3 (by decide : (0 : Int) ≤ 1) (fun y => (wr_done y (js.half.fr + usedJ js) (putB (markH js.half js.l.length b))).1)
    have h5 := then_done h4 (by decide : (0 : Int) ≤ 1) (fun y => (syn_done y).1)
    simp only
    split <;> (simp only; omega)
theorem res_done (d : DS) (js : JS) (l : List (List UInt8)) : (resetJ d js l).1.done ≤ d.done + (takesL l + 4) := by
  have ht := takesL_nn l
  unfold resetJ
  split
  · show d.done ≤ _; omega
  · have h1 : (layH d (halfD d (js.half.gen + 1)) l).1.done ≤ d.done + (takesL l + 2) := by have := (layH_done d (halfD d (js.half.gen + 1)) l).1; omega
    have h2 := then_done h1 (by decide : (0 : Int) ≤ 2) (fun y => (lead_done y (halfD d (js.half.gen + 1))).1)
    simp only
    split <;> (simp only; omega)
theorem takesL_10 {l : List (List UInt8)} (h : ∀ b ∈ l, b.length ≤ 1048576) (hn : l.length ≤ 10) : takesL l ≤ 200000 := by
  have := (takesL_le l.length l h (Nat.le_refl _)).2
  rw [List.take_of_length_le (Nat.le_refl _)] at this
  omega
theorem takesB_1 {b : List UInt8} (h : b.length ≤ 1048576) : takesB b ≤ 20000 := by
  have := (takesL_le 1 [b] (by intro x hx; rw [List.mem_singleton.1 hx]; exact h) (Nat.le_refl _)).2
  rw [show ([b] : List (List UInt8)).take 1 = [b] from rfl, takesL_cons, takesL_nil] at this
  omega
theorem After.up {d : DS} {js : JS} {n : Nat} {G G' : Int} {l m : List (List UInt8)} (h : After d js n G l m) (hG : G ≤ G') : After d js n G' l m := by
  rcases h with ⟨gen, h1, h2, h3⟩ | ⟨h1, h2, h3, h4⟩
  · exact .inl ⟨gen, by omega, h2, h3⟩
  · refine .inr ⟨h1, h2, h3, fun fs ks hk => ?_⟩
    rcases h4 fs ks hk with ⟨gen, a, b⟩ | ⟨gen, a, b⟩
    · exact .inl ⟨gen, by omega, b⟩
    · exact .inr ⟨gen, by omega, b⟩
section
variable {w w' wr : World} {p g b q cap m n k : Nat} {d : DS} {js : JS} {T T' : List Nat} {A : Option Addr} {ls hs ms : List (List UInt8)}
/-- a list that the call made itself -/
theorem kept_own {base : Nat} {v : Value} {ss : List Sl} (h : OwnR 35 1 w base v ss.length (ss.map fun s => [s.val])) (hT : ∀ k ∈ T, k < base) (hs : ∀ s ∈ ss, Bytes w w.heap.size s.A s.n s.l ∧ (0 < s.n → ∀ k ∈ blkOf s.A, k ∉ T)) :
    ∃ A c, v = .slice A ss.length c ∧ Kept w T A ss.length (ss.map (·.l)) := by
  obtain ⟨A, c, rfl, _, _, hr, hA⟩ := h.shape (by decide)
  refine ⟨A, c, rfl, ss, rfl, reads_own h rfl, fun hn k hk hm => ?_, rfl, hs⟩
  rcases hA with ⟨rfl, _⟩ | ⟨gg, rfl, h1, _⟩
  · cases hk
  · have := hT k hm
    simp [blkOf] at hk
    omega
theorem Kept.len (h : Kept w T A n ls) : ls.length = n := h.lst.len
/-- the groups, asked for -/
theorem groups_kept {x : Ending} (h : GroupsO w ls x w') (hT : ∀ k ∈ T, k < w.heap.size) : ∃ A n c, x = .returned (.slice A n c) ∧ n = ls.length ∧ Kept w' T A n ls ∧ Only [] w w' := by
  obtain ⟨v, ts, rfl, hown, rfl, hts, ho⟩ := h
  obtain ⟨A, c, rfl, hk⟩ := kept_own hown hT (fun s hs => ⟨(hts s hs).1, fun hn k hk hm => by
    have h1 := (hts s hs).2.2.2.2 k hk
    have h2 := hT k hm
    omega⟩)
  exact ⟨A, ts.length, c, rfl, by simp, hk, ho⟩
/-- a new journal of the same disk, beside the old one -/
theorem St.open2 (h : St m w p g b q cap d js T) (hn2 : d.n ≤ 200000) (hg : newestD d ≤ 4611686018427387000) (hdn : d.done ≤ 4611686018427000000) {D : DS} {js' : JS} (hs : openJ d = (D, some js', 0)) :
    Calls Tryz.prog 13 #[.pointer (some ⟨p, 0, none⟩)] w fun x w' => ∃ q' T', x = .returned (.tuple #[.pointer (some ⟨q', 0, none⟩), .int .i64 0]) ∧ St m w' p g b q' cap D js' T' ∧ St m w' p g b q cap D js T ∧ Only T w w' := by
  obtain ⟨base, W, v, ss, h1, h2, h3, h4, rfl, hm⟩ := h
  refine (open_any h1 hn2 hg hdn).mono ?_
  intro x w' hx
  rw [hs] at hx
  rcases hx with ⟨h1', _⟩ | ⟨js'', q', v', ss', W', k0, rfl, k2, k3, k4, k5, k6, k7, k8⟩
  · cases k0' : h1'
  · cases k0
    have hsz := h2.lt
    obtain ⟨g1, g2, _⟩ := St.did (d' := D) h1 h2 h3 h4 hm ⟨W', k3, k4, k5⟩
    exact ⟨q', JT p g b q' v', rfl, ⟨w.heap.size, W', v', ss', k3, k6, k8, k5.size, rfl, hm.1, hm.2.1, hm.2.2.1, by omega, by omega⟩, g1, k5.mono (fun k hk => .inl (jt_of k hk))⟩
/-- what an act leaves: has as it was; hs, or else ms, stands -/
def Mid (m : Nat) (w wr : World) (p g b q cap k : Nat) (A : Option Addr) (n : Nat) (l hs ms : List (List UInt8)) : Prop :=
  ∃ d js T, St m wr p g b q cap d js T ∧ Kept wr T A n l ∧ After d js 40 (k + 2) hs ms ∧ d.done ≤ 4 + 300000 * ((k : Int) + 1) ∧ Only [] w wr
/-- the loop's state -/
def LoopS (m : Nat) (w wr : World) (p g b q cap k : Nat) (A : Option Addr) (n : Nat) (hs : List (List UInt8)) : Prop :=
  ∃ d gen T, St m wr p g b q cap d ⟨halfN 40 gen, hs, false⟩ T ∧ Kept wr T A n hs ∧ Ready d 40 gen hs ∧ d.off = false ∧ gen ≤ (k : Int) + 1 ∧ d.done ≤ 4 + 300000 * (k : Int) ∧ Only [] w wr
theorem turn_only (h : St m wr p g b q cap d js T) (hm : w.heap.size ≤ m) (ho : Only [] w wr) (h2 : Only T wr w') : Only [] w w' :=
  ho.trans h2 (fun x hx => .inr (Nat.le_trans hm (h.above x hx)))
theorem n_of {gen : Int} {hs : List (List UInt8)} (h : Ready d 40 gen hs) : d.n = 40 := h.n_
theorem LoopS.append (h : LoopS m w wr p g b q cap k A n hs) (hm : m = w.heap.size) (hk : k ≤ 60) (hl : hs.length ≤ 100) (s : Sl) (hb : Bytes w w.heap.size s.A s.n s.l) (h1 : s.n ≤ 1000) (h2 : s.n ≤ s.c) (h3 : s.c ≤ maxLen) :
    Calls Tryz.prog 15 #[.pointer (some ⟨q, 0, none⟩), s.val] wr fun x w' =>
      (x = .returned (.int .i64 0) ∧ Mid m w w' p g b q cap k A n hs (hs ++ [s.l]) hs) ∨ (x = .returned (.int .i64 3) ∧ Mid m w w' p g b q cap k A n hs hs (hs ++ [s.l])) ∨
      (∃ f : Int, (f = 1 ∨ f = 2) ∧ x = .returned (.int .i64 f) ∧ Mid m w w' p g b q cap k A n hs hs hs) := by
  obtain ⟨d, gen, T, hS, hK, hR, hoff, hgen, hdn, ho⟩ := h
  have hfar : 0 < s.n → ∀ k ∈ blkOf s.A, k ∉ T := fun hn k hk hm' => by
    have := bytes_lt hb hn k hk
    have := hS.above k hm'
    omega
  have hbr : Bytes wr wr.heap.size s.A s.n s.l := (hb.only ho (by simp)).more ho.size
  refine (hS.append (by rw [hR.n_]; omega) s.A s.n s.c s.l hbr (by omega) h2 h3 hfar (by show hs.length ≤ 100000; omega) (by omega)).mono ?_
  rintro x w' ⟨rfl, T', hS', hT1, hT2⟩
  have hK' := hK.only hT1 hT2
  have hO' := turn_only hS (by omega) ho hT1
  have hd' : (appendJ d ⟨halfN 40 gen, hs, false⟩ s.l).1.done ≤ 4 + 300000 * ((k : Int) + 1) := by
    have e1 := app_done d ⟨halfN 40 gen, hs, false⟩ s.l
    have e2 := takesB_1 (b := s.l) (by rw [hb.len]; omega)
    omega
  have up : ∀ {l r : List (List UInt8)}, After (appendJ d ⟨halfN 40 gen, hs, false⟩ s.l).1 (appendJ d ⟨halfN 40 gen, hs, false⟩ s.l).2.1 40 gen l r → After (appendJ d ⟨halfN 40 gen, hs, false⟩ s.l).1 (appendJ d ⟨halfN 40 gen, hs, false⟩ s.l).2.1 40 ((k : Int) + 2) l r := fun hA => hA.up (by omega)
  rcases after_append (b := s.l) hR (by decide) (by decide) with ⟨e, hA⟩ | ⟨e, hA⟩ | ⟨e, hA⟩
  · exact .inl ⟨by rw [e], _, _, T', hS', hK', up hA, hd', hO'⟩
  · exact .inr (.inl ⟨by rw [e], _, _, T', hS', hK', up hA, hd', hO'⟩)
  · exact .inr (.inr ⟨_, e, rfl, _, _, T', hS', hK', up hA, hd', hO'⟩)
theorem LoopS.reset (h : LoopS m w wr p g b q cap k A n hs) (hm : m = w.heap.size) (hk : k ≤ 60) (LA : Option Addr) (Lc : Nat) (ss : List Sl) (hr : Reads w w.heap.size 1 LA ss.length (ss.map Sl.val))
    (he : ∀ s ∈ ss, Bytes w w.heap.size s.A s.n s.l ∧ s.n ≤ s.c ∧ s.c ≤ maxLen) (h10 : ss.length ≤ 10) (h1 : ∀ s ∈ ss, s.n ≤ 1000) :
    Calls Tryz.prog 17 #[.pointer (some ⟨q, 0, none⟩), .slice LA ss.length Lc] wr fun x w' =>
      (x = .returned (.int .i64 0) ∧ Mid m w w' p g b q cap k A n hs (ss.map (·.l)) hs) ∨ (x = .returned (.int .i64 3) ∧ Mid m w w' p g b q cap k A n hs hs (ss.map (·.l))) ∨
      (∃ f : Int, (f = 1 ∨ f = 2) ∧ x = .returned (.int .i64 f) ∧ Mid m w w' p g b q cap k A n hs hs hs) := by
  obtain ⟨d, gen, T, hS, hK, hR, hoff, hgen, hdn, ho⟩ := h
  have hg1 := hR.stands.g
  have hfar : 0 < ss.length → ∀ k ∈ blkOf LA, k ∉ T := fun hn k hk hm' => by
    have := reads_lt hr hn k hk
    have := hS.above k hm'
    omega
  have hrr : Reads wr wr.heap.size 1 LA ss.length (ss.map Sl.val) := (hr.only ho (by simp)).more ho.size
  have hh : Held wr T ss := fun s hs => by
    obtain ⟨a1, a2, a3⟩ := he s hs
    have a4 := h1 s hs
    exact ⟨(a1.only ho (by simp)).more ho.size, a2, a3, by omega, fun hn k hk hm' => by
      have := bytes_lt a1 hn k hk
      have := hS.above k hm'
      omega⟩
  have hsm : (halfD d (gen + 1)).small := by
    rw [halfD_eq, hR.n_]
    unfold Half.small halfN
    simp only
    omega
  refine (hS.reset (by rw [hR.n_]; omega) LA ss.length Lc ss rfl hrr hh (fun s hs => by have := h1 s hs; omega) (by omega) hfar (by omega) (by rw [roomD, hR.n_]; rfl) (by show 0 ≤ gen ∧ gen ≤ 4611686018427380000; omega) hsm).mono ?_
  rintro x w' ⟨rfl, T', hS', hT1, hT2⟩
  have hK' := hK.only hT1 hT2
  have hO' := turn_only hS (by omega) ho hT1
  have hd' : (resetJ d ⟨halfN 40 gen, hs, false⟩ (ss.map (·.l))).1.done ≤ 4 + 300000 * ((k : Int) + 1) := by
    have e1 := res_done d ⟨halfN 40 gen, hs, false⟩ (ss.map (·.l))
    have e2 := takesL_10 (l := ss.map (·.l)) (fun b hb => by
      obtain ⟨s, hs, rfl⟩ := List.mem_map.1 hb
      have := h1 s hs
      rw [(he s hs).1.len]
      omega) (by rw [List.length_map]; exact h10)
    omega
  have up : ∀ {l r : List (List UInt8)}, After (resetJ d ⟨halfN 40 gen, hs, false⟩ (ss.map (·.l))).1 (resetJ d ⟨halfN 40 gen, hs, false⟩ (ss.map (·.l))).2.1 40 (gen + 1) l r → After (resetJ d ⟨halfN 40 gen, hs, false⟩ (ss.map (·.l))).1 (resetJ d ⟨halfN 40 gen, hs, false⟩ (ss.map (·.l))).2.1 40 ((k : Int) + 2) l r := fun hA => hA.up (by omega)
  rcases after_reset (m := ss.map (·.l)) hR (by decide) (by decide) (by omega) with ⟨e, hA⟩ | ⟨e, hA⟩ | ⟨e, hA⟩
  · exact .inl ⟨by rw [e], _, _, T', hS', hK', up hA, hd', hO'⟩
  · exact .inr (.inl ⟨by rw [e], _, _, T', hS', hK', up hA, hd', hO'⟩)
  · exact .inr (.inr ⟨_, e, rfl, _, _, T', hS', hK', up hA, hd', hO'⟩)
theorem LoopS.stop (h : LoopS m w wr p g b q cap k A n hs) (hm : m = w.heap.size) (a : Int) (ha : a ≤ 9223372036854775807) :
    Calls Tryz.prog 18 #[.pointer (some ⟨p, 0, none⟩), .int .i64 a] wr fun x w' => x = .returned (.tuple #[]) ∧ Mid m w w' p g b q cap k A n hs hs hs := by
  obtain ⟨d, gen, T, hS, hK, hR, hoff, hgen, hdn, ho⟩ := h
  refine (hS.stop a ha).mono ?_
  rintro x w' ⟨rfl, hS', hT1, hT2⟩
  refine ⟨rfl, _, _, T, hS', hK.only hT1 hT2, .inl ⟨gen, by omega, hR.stop a, rfl⟩, ?_, turn_only hS (by omega) ho hT1⟩
  have : (stopD d a).done = d.done := by unfold stopD; split <;> rfl
  omega
theorem LoopS.mid (h : LoopS m w wr p g b q cap k A n hs) : Mid m w wr p g b q cap k A n hs hs hs := by
  obtain ⟨d, gen, T, hS, hK, hR, hoff, hgen, hdn, ho⟩ := h
  exact ⟨d, _, T, hS, hK, .inl ⟨gen, by omega, hR, rfl⟩, by omega, ho⟩
end
end Go.Proofs.YthgfmoogagldmaaGreat.Journal
namespace Go.Proofs.YthgfmoogagldmaaGreat.Journal
open Go.RowKit Go.Shelf Disk Go.Proofs.YthgfmoogagldmaaGreat.Frame
set_option linter.unusedVariables false
set_option maxRecDepth 100000
theorem sl_empty {e size : Nat} (w : World) : OwnR e size (w.alloc (.cells #[] e)) w.heap.size (.slice (some ⟨w.heap.size, 0, none⟩) 0 0) 0 [] := by
  refine ⟨rfl, by simp, ⟨by simp, .inr ⟨w.heap.size, 0, #[], rfl, Nat.le_refl _, ?_, Nat.le_refl _, by simp [maxLen], by simp, by simp⟩⟩⟩
  exact heap_alloc_new w _
section
variable {w w' wr : World} {p g b q cap m n n2 k : Nat} {d : DS} {js : JS} {T T' : List Nat} {A A2 : Option Addr} {l l2 hs ms X : List (List UInt8)}
def MidD (m : Nat) (w wr : World) (p g b q cap k : Nat) (A : Option Addr) (n : Nat) (l : List (List UInt8)) (A2 : Option Addr) (n2 : Nat) (l2 hs ms : List (List UInt8)) (d : DS) (js : JS) : Prop :=
  ∃ T, St m wr p g b q cap d js T ∧ Kept wr T A n l ∧ Kept wr T A2 n2 l2 ∧ After d js 40 (k + 2) hs ms ∧ d.done ≤ 4 + 300000 * ((k : Int) + 1) ∧ Only [] w wr
def Mid2 (m : Nat) (w wr : World) (p g b q cap k : Nat) (A : Option Addr) (n : Nat) (l : List (List UInt8)) (A2 : Option Addr) (n2 : Nat) (l2 hs ms : List (List UInt8)) : Prop := ∃ d js, MidD m w wr p g b q cap k A n l A2 n2 l2 hs ms d js
theorem Mid.only0 (h : Mid m w wr p g b q cap k A n l hs ms) (ho : Only [] wr w') : Mid m w w' p g b q cap k A n l hs ms := by
  obtain ⟨d, js, T, h1, h2, h3, h4, h5⟩ := h
  exact ⟨d, js, T, h1.only0 ho, h2.only0 ho, h3, h4, h5.trans ho (by simp)⟩
theorem Mid.dup (h : Mid m w wr p g b q cap k A n l hs ms) : Mid2 m w wr p g b q cap k A n l A n l hs ms := by
  obtain ⟨d, js, T, h1, h2, h3, h4, h5⟩ := h
  exact ⟨d, js, T, h1, h2, h2, h3, h4, h5⟩
theorem Mid2.swap (h : Mid2 m w wr p g b q cap k A n l A2 n2 l2 hs ms) : Mid2 m w wr p g b q cap k A2 n2 l2 A n l hs ms := by
  obtain ⟨d, js, T, h1, h2, h2', h3, h4, h5⟩ := h
  exact ⟨d, js, T, h1, h2', h2, h3, h4, h5⟩
theorem Mid2.left (h : Mid2 m w wr p g b q cap k A n l A2 n2 l2 hs ms) : Mid2 m w wr p g b q cap k A n l A n l hs ms := by
  obtain ⟨d, js, T, h1, h2, h2', h3, h4, h5⟩ := h
  exact ⟨d, js, T, h1, h2, h2, h3, h4, h5⟩
theorem Mid2.only0 (h : Mid2 m w wr p g b q cap k A n l A2 n2 l2 hs ms) (ho : Only [] wr w') : Mid2 m w w' p g b q cap k A n l A2 n2 l2 hs ms := by
  obtain ⟨d, js, T, h1, h2, h2', h3, h4, h5⟩ := h
  exact ⟨d, js, T, h1.only0 ho, h2.only0 ho, h2'.only0 ho, h3, h4, h5.trans ho (by simp)⟩
theorem Mid2.lst (h : Mid2 m w wr p g b q cap k A n l A2 n2 l2 hs ms) : Lst wr A n l ∧ Lst wr A2 n2 l2 := by
  obtain ⟨d, js, T, h1, h2, h2', h3, h4, h5⟩ := h
  exact ⟨h2.lst, h2'.lst⟩
/-- a list that came in, beside it -/
theorem Mid.arg (h : Mid m w wr p g b q cap k A n l hs ms) (hm : m = w.heap.size) {LA : Option Addr} {ss : List Sl} (hr : Reads w w.heap.size 1 LA ss.length (ss.map Sl.val)) (he : ∀ s ∈ ss, Bytes w w.heap.size s.A s.n s.l ∧ s.n ≤ s.c ∧ s.c ≤ maxLen) :
    Mid2 m w wr p g b q cap k A n l LA ss.length (ss.map (·.l)) hs ms := by
  obtain ⟨d, js, T, h1, h2, h3, h4, ho⟩ := h
  refine ⟨d, js, T, h1, h2, ⟨ss, rfl, (hr.only ho (by simp)).more ho.size, fun hn k hk hm' => ?_, rfl, fun s hs => ⟨((he s hs).1.only ho (by simp)).more ho.size, fun hn k hk hm' => ?_⟩⟩, h3, h4, ho⟩
  · have := reads_lt hr hn k hk; have := h1.above k hm'; omega
  · have := bytes_lt (he s hs).1 hn k hk; have := h1.above k hm'; omega
/-- a list and one group more -/
theorem Mid.more (h : Mid m w wr p g b q cap k A n l hs ms) (hm : m = w.heap.size) (x : Sl) (hb : Bytes w w.heap.size x.A x.n x.l) :
    ∃ ss : List Sl, ss.length = n ∧ Recs wr wr.heap.size 1 A n (ss.map fun s => [s.val]) ∧ ∀ w5 v', Only [] wr w5 → OwnR 35 1 w5 wr.heap.size v' (0 + n + 1) (([] ++ ss.map fun s => [s.val]) ++ [[x.val]]) →
      ∃ A' c', v' = .slice A' (n + 1) c' ∧ Mid2 m w w5 p g b q cap k A n l A' (n + 1) (l ++ [x.l]) hs ms := by
  obtain ⟨d, js, T, h1, h2, h3, h4, ho⟩ := h
  have hbel := h1.below
  have habv := h1.above
  obtain ⟨ss, a1, a2, a3, a4, a5⟩ := id h2
  refine ⟨ss, a1, ?_, fun w5 v' h5 hown => ?_⟩
  · refine Reads.recs (by decide) (by rw [List.length_map]; exact a1) (by intro r hr; obtain ⟨s, _, rfl⟩ := List.mem_map.1 hr; rfl) ?_
    rw [show (ss.map fun s => [s.val]).flatten = ss.map Sl.val from by
      clear a1 a2 a3 a4 a5
      induction ss with
      | nil => rfl
      | cons s r ih => simp only [List.map_cons, List.flatten_cons, ih]; rfl]
    exact a2
  · have e : (([] ++ ss.map fun s => [s.val]) ++ [[x.val]]) = ((ss ++ [x]).map fun s => [s.val]) := by simp
    have e2 : 0 + n + 1 = (ss ++ [x]).length := by simp [a1]
    rw [e, e2] at hown
    obtain ⟨A', c', rfl, hk⟩ := kept_own hown hbel (fun s hs => by
      rcases List.mem_append.1 hs with hs | hs
      · exact ⟨((a5 s hs).1.only h5 (by simp)).more h5.size, (a5 s hs).2⟩
      · rw [List.mem_singleton.1 hs]
        refine ⟨(hb.only (ho.trans h5 (by simp)) (by simp)).more (ho.trans h5 (by simp)).size, fun hn k hk hm' => ?_⟩
        have := bytes_lt hb hn k hk
        have := habv k hm'
        omega)
    have e3 : (ss ++ [x]).length = n + 1 := by simp [a1]
    rw [e3] at hk ⊢
    refine ⟨A', c', rfl, d, js, T, h1.only0 h5, h2.only0 h5, ?_, h3, h4, ho.trans h5 (by simp)⟩
    rw [List.map_append, a4] at hk
    exact hk
/-- behind a crash -/
def Rec0 (m : Nat) (w wr : World) (p g b q cap k : Nat) (A : Option Addr) (n : Nat) (l : List (List UInt8)) (A2 : Option Addr) (n2 : Nat) (l2 X : List (List UInt8)) : Prop :=
  ∃ d js gen T, St m wr p g b q cap d js T ∧ Kept wr T A n l ∧ Kept wr T A2 n2 l2 ∧ Ready d 40 gen X ∧ d.off = false ∧ gen ≤ (k : Int) + 2 ∧ d.done ≤ 4 + 300000 * ((k : Int) + 1) ∧ Only [] w wr
/-- a journal that knows X, on a disk on which X stands; the disk may be down -/
def Rec2 (m : Nat) (w wr : World) (p g b q cap k : Nat) (o : Bool) (X : List (List UInt8)) : Prop :=
  ∃ d js gen T, St m wr p g b q cap d js T ∧ js.l = X ∧ Ready d 40 gen X ∧ (o = true → d.off = false) ∧ gen ≤ (k : Int) + 2 ∧ d.done ≤ 4 + 300000 * ((k : Int) + 1) ∧ Only [] w wr
/-- and one more, that is newer -/
def Two (m : Nat) (w wr : World) (p g b q q2 cap k : Nat) (X : List (List UInt8)) : Prop :=
  ∃ d js gen T T', St m wr p g b q cap d js T ∧ js.l = X ∧ St m wr p g b q2 cap d ⟨halfN 40 gen, X, false⟩ T' ∧ Ready d 40 gen X ∧ d.off = false ∧ gen ≤ (k : Int) + 2 ∧ d.done ≤ 4 + 300000 * ((k : Int) + 1) ∧ Only [] w wr
theorem crash_reads {FA : Option Addr} {Fn : Nat} {fs : List Int} (hr : Reads w w.heap.size 1 FA Fn (fs.map (Value.int .i64))) (hm : m = w.heap.size) : 0 < Fn → ∀ k ∈ blkOf FA, k < m := fun hn k hk => by
  have := reads_lt hr hn k hk
  omega
theorem MidD.crash (h : MidD m w wr p g b q cap k A n hs A2 n2 ms hs ms d js) (hm : m = w.heap.size) (FA : Option Addr) (Fn Fc : Nat) (fs : List Int) (hl : fs.length = Fn) (hr : Reads w w.heap.size 1 FA Fn (fs.map (Value.int .i64))) (hn : Fn ≤ 1000) :
    Calls Tryz.prog 21 #[.pointer (some ⟨p, 0, none⟩), .slice FA Fn Fc] wr fun x w' => x = .returned (.tuple #[]) ∧ ∃ X, (X = hs ∨ X = ms) ∧ Rec0 m w w' p g b q cap k A n hs A2 n2 ms X := by
  obtain ⟨T, h1, h2, h3, h4, h5, ho⟩ := h
  refine (h1.crash FA Fn Fc fs hl ((hr.only ho (by simp)).more ho.size) (by omega) (crash_reads hr hm)).mono ?_
  rintro x w' ⟨ks, hks, rfl, hS', hT1, hT2⟩
  obtain ⟨gen, X, hg, hX, hR⟩ := h4.crash fs hks
  exact ⟨rfl, X, hX, _, _, gen, T, hS', h2.only hT1 hT2, h3.only hT1 hT2, hR, rfl, hg, h5, turn_only h1 (by omega) ho hT1⟩
theorem Rec0.open_ (h : Rec0 m w wr p g b q cap k A n l A2 n2 l2 X) (hm : m = w.heap.size) (hk : k ≤ 60) : Calls Tryz.prog 13 #[.pointer (some ⟨p, 0, none⟩)] wr fun x w' => ∃ q', x = .returned (.tuple #[.pointer (some ⟨q', 0, none⟩), .int .i64 0]) ∧ Rec2 m w w' p g b q' cap k true X ∧ Lst w' A n l ∧ Lst w' A2 n2 l2 := by
  obtain ⟨d, js, gen, T, h1, h2, h3, hR, hoff, hg, hd, ho⟩ := h
  have hnw := hR.newest (by decide)
  refine (h1.open_ (by rw [hR.n_]; omega) (by omega) (by omega) (hR.open_ (by decide) (by decide) hoff)).mono ?_
  rintro x w' ⟨q', T', rfl, hS', hT1, hT2⟩
  exact ⟨q', rfl, ⟨d, _, gen, T', hS', rfl, hR, fun _ => hoff, hg, hd, turn_only h1 (by omega) ho hT1⟩, (h2.only hT1 hT2).lst, (h3.only hT1 hT2).lst⟩
theorem Rec2.only0 {o : Bool} (h : Rec2 m w wr p g b q cap k o X) (ho : Only [] wr w') : Rec2 m w w' p g b q cap k o X := by
  obtain ⟨d, js, gen, T, h1, h2, h3, h4, h5, h6, h7⟩ := h
  exact ⟨d, js, gen, T, h1.only0 ho, h2, h3, h4, h5, h6, h7.trans ho (by simp)⟩
theorem Rec2.groups {o : Bool} (h : Rec2 m w wr p g b q cap k o X) (hX : X.length ≤ 100000) : Calls Tryz.prog 23 #[.pointer (some ⟨q, 0, none⟩)] wr fun x w' => ∃ A n c, x = .returned (.slice A n c) ∧ n ≤ 100000 ∧ Lst w' A n X ∧ Only [] wr w' := by
  obtain ⟨d, js, gen, T, h1, rfl, h3, h4, h5, h6, h7⟩ := h
  refine (h1.groups (by omega)).mono ?_
  rintro x w' hx
  obtain ⟨A, n, c, rfl, rfl, hk, ho⟩ := groups_kept hx h1.below
  exact ⟨A, _, c, rfl, hX, hk.lst, ho⟩
theorem Rec2.stop {o : Bool} (h : Rec2 m w wr p g b q cap k o X) (hm : m = w.heap.size) (a : Int) (ha : a ≤ 9223372036854775807) : Calls Tryz.prog 18 #[.pointer (some ⟨p, 0, none⟩), .int .i64 a] wr fun x w' => x = .returned (.tuple #[]) ∧ Rec2 m w w' p g b q cap k false X := by
  obtain ⟨d, js, gen, T, h1, h2, h3, h4, h5, h6, h7⟩ := h
  refine (h1.stop a ha).mono ?_
  rintro x w' ⟨rfl, hS', hT1, hT2⟩
  have hd : (stopD d a).done = d.done := by unfold stopD; split <;> rfl
  exact ⟨rfl, _, js, gen, T, hS', h2, h3.stop a, (fun h => by cases h), h5, by omega, turn_only h1 (by omega) h7 hT1⟩
theorem Rec2.crash {o : Bool} (h : Rec2 m w wr p g b q cap k o X) (hm : m = w.heap.size) (FA : Option Addr) (Fn Fc : Nat) (fs : List Int) (hl : fs.length = Fn) (hr : Reads w w.heap.size 1 FA Fn (fs.map (Value.int .i64))) (hn : Fn ≤ 1000) :
    Calls Tryz.prog 21 #[.pointer (some ⟨p, 0, none⟩), .slice FA Fn Fc] wr fun x w' => x = .returned (.tuple #[]) ∧ Rec2 m w w' p g b q cap k true X := by
  obtain ⟨d, js, gen, T, h1, h2, h3, h4, h5, h6, ho⟩ := h
  refine (h1.crash FA Fn Fc fs hl ((hr.only ho (by simp)).more ho.size) (by omega) (crash_reads hr hm)).mono ?_
  rintro x w' ⟨ks, hks, rfl, hS', hT1, hT2⟩
  exact ⟨rfl, _, js, gen, T, hS', h2, h3.crash fs hks, fun _ => rfl, h5, h6, turn_only h1 (by omega) ho hT1⟩
/-- opened, and forgotten -/
theorem Rec2.lose {o : Bool} (h : Rec2 m w wr p g b q cap k o X) (hm : m = w.heap.size) (hk : k ≤ 60) : Calls Tryz.prog 13 #[.pointer (some ⟨p, 0, none⟩)] wr fun x w' => ∃ v e, x = .returned (.tuple #[v, .int .i64 e]) ∧ Rec2 m w w' p g b q cap k o X := by
  obtain ⟨d, js, gen, T, h1, h2, h3, h4, h5, h6, ho⟩ := h
  have hnw := h3.newest (by decide)
  cases hoff : d.off with
  | true =>
    refine (h1.open_no (by rw [h3.n_]; omega) (by omega) (by omega) (h3.open_off (by decide) hoff)).mono ?_
    rintro x w' ⟨rfl, hS', hT1, hT2⟩
    exact ⟨_, _, rfl, d, js, gen, T, hS', h2, h3, h4, h5, h6, turn_only h1 (by omega) ho hT1⟩
  | false =>
    refine (h1.open2 (by rw [h3.n_]; omega) (by omega) (by omega) (h3.open_ (by decide) (by decide) hoff)).mono ?_
    rintro x w' ⟨q', T', rfl, _, hS', hT1⟩
    exact ⟨_, _, rfl, d, js, gen, T, hS', h2, h3, h4, h5, h6, turn_only h1 (by omega) ho hT1⟩
theorem Rec2.open_ (h : Rec2 m w wr p g b q cap k true X) (hm : m = w.heap.size) (hk : k ≤ 60) : Calls Tryz.prog 13 #[.pointer (some ⟨p, 0, none⟩)] wr fun x w' => ∃ q', x = .returned (.tuple #[.pointer (some ⟨q', 0, none⟩), .int .i64 0]) ∧ Two m w w' p g b q q' cap k X := by
  obtain ⟨d, js, gen, T, h1, h2, h3, h4, h5, h6, ho⟩ := h
  have hnw := h3.newest (by decide)
  refine (h1.open2 (by rw [h3.n_]; omega) (by omega) (by omega) (h3.open_ (by decide) (by decide) (h4 rfl))).mono ?_
  rintro x w' ⟨q', T', rfl, hS2, hS', hT1⟩
  exact ⟨q', rfl, d, js, gen, T, T', hS', h2, hS2, h3, h4 rfl, h5, h6, turn_only h1 (by omega) ho hT1⟩
variable {q2 : Nat}
theorem Two.only0 (h : Two m w wr p g b q q2 cap k X) (ho : Only [] wr w') : Two m w w' p g b q q2 cap k X := by
  obtain ⟨d, js, gen, T, T', h1, h2, h3, h4, h5, h6, h7, h8⟩ := h
  exact ⟨d, js, gen, T, T', h1.only0 ho, h2, h3.only0 ho, h4, h5, h6, h7, h8.trans ho (by simp)⟩
theorem Two.old (h : Two m w wr p g b q q2 cap k X) : Rec2 m w wr p g b q cap k true X := by
  obtain ⟨d, js, gen, T, T', h1, h2, h3, h4, h5, h6, h7, h8⟩ := h
  exact ⟨d, js, gen, T, h1, h2, h4, fun _ => h5, h6, h7, h8⟩
theorem Two.new_ (h : Two m w wr p g b q q2 cap k X) : Rec2 m w wr p g b q2 cap k true X := by
  obtain ⟨d, js, gen, T, T', h1, h2, h3, h4, h5, h6, h7, h8⟩ := h
  exact ⟨d, _, gen, T', h3, rfl, h4, fun _ => h5, h6, h7, h8⟩
/-- the round's end, behind a crash -/
theorem Two.last (h : Two m w wr p g b q q2 cap k X) (hX : X.length ≤ 100000) : Calls Tryz.prog 23 #[.pointer (some ⟨q2, 0, none⟩)] wr fun x w' => ∃ A n c, x = .returned (.slice A n c) ∧ LoopS m w w' p g b q2 cap (k + 1) A n X := by
  obtain ⟨d, js, gen, T, T', h1, h2, h3, h4, h5, h6, h7, h8⟩ := h
  refine (h3.groups (by show X.length ≤ 1000000; omega)).mono ?_
  rintro x w' hx
  obtain ⟨A, n, c, rfl, rfl, hk, ho⟩ := groups_kept hx h3.below
  exact ⟨A, _, c, rfl, d, gen, T', h3.only0 ho, hk, h4, h5, by omega, by omega, h8.trans ho (by simp)⟩
/-- the round's end, where nothing went down -/
theorem MidD.on (h : MidD m w wr p g b q cap k A n hs A2 n2 l2 hs ms d js) (h1 : js.off = false) (h2 : d.off = false) : LoopS m w wr p g b q cap (k + 1) A n hs := by
  obtain ⟨T, a1, a2, a3, a4, a5, a6⟩ := h
  rcases a4 with ⟨gen, hg, hR, rfl⟩ | ⟨e, _⟩
  · exact ⟨d, gen, T, a1, a2, hR, h2, by omega, by omega, a6⟩
  · rw [h1] at e; cases e
theorem MidD.only0 (h : MidD m w wr p g b q cap k A n l A2 n2 l2 hs ms d js) (ho : Only [] wr w') : MidD m w w' p g b q cap k A n l A2 n2 l2 hs ms d js := by
  obtain ⟨T, h1, h2, h2', h3, h4, h5⟩ := h
  exact ⟨T, h1.only0 ho, h2.only0 ho, h2'.only0 ho, h3, h4, h5.trans ho (by simp)⟩
theorem MidD.jdown (h : MidD m w wr p g b q cap k A n l A2 n2 l2 hs ms d js) : Calls Tryz.prog 19 #[.pointer (some ⟨q, 0, none⟩)] wr fun x w' => x = .returned (.bool js.off) ∧ w' = wr := by
  obtain ⟨T, h1, _⟩ := h
  exact h1.jdown
theorem MidD.ddown (h : MidD m w wr p g b q cap k A n l A2 n2 l2 hs ms d js) : Calls Tryz.prog 20 #[.pointer (some ⟨p, 0, none⟩)] wr fun x w' => x = .returned (.bool d.off) ∧ w' = wr := by
  obtain ⟨T, h1, _⟩ := h
  exact h1.ddown
theorem LoopS.only0 (h : LoopS m w wr p g b q cap k A n hs) (ho : Only [] wr w') : LoopS m w w' p g b q cap k A n hs := by
  obtain ⟨d, gen, T, h1, h2, h3, h4, h5, h6, h7⟩ := h
  exact ⟨d, gen, T, h1.only0 ho, h2.only0 ho, h3, h4, h5, h6, h7.trans ho (by simp)⟩
theorem LoopS.lst (h : LoopS m w wr p g b q cap k A n hs) : Lst wr A n hs := by
  obtain ⟨d, gen, T, h1, h2, _⟩ := h
  exact h2.lst
theorem LoopS.out (h : LoopS m w wr p g b q cap k A n hs) : Only [] w wr := by
  obtain ⟨d, gen, T, h1, h2, h3, h4, h5, h6, h7⟩ := h
  exact h7
theorem LoopS.groups (h : LoopS m w wr p g b q cap k A n hs) (hX : hs.length ≤ 100000) : Calls Tryz.prog 23 #[.pointer (some ⟨q, 0, none⟩)] wr fun x w' => ∃ A n c, x = .returned (.slice A n c) ∧ n ≤ 100000 ∧ Lst w' A n hs ∧ Only [] wr w' := by
  obtain ⟨d, gen, T, h1, h2, h3, h4, h5, h6, h7⟩ := h
  refine (h1.groups (by show hs.length ≤ 1000000; omega)).mono ?_
  rintro x w' hx
  obtain ⟨A, n, c, rfl, rfl, hk, ho⟩ := groups_kept hx h1.below
  exact ⟨A, _, c, rfl, hX, hk.lst, ho⟩
/-- the loop begins -/
theorem loop_start {w1 : World} (h1 : IsD w1 p g b [] cap (newD 40)) (hm : m = w.heap.size) (hp : w.heap.size ≤ p ∧ w.heap.size ≤ g ∧ w.heap.size ≤ b) (ho : Only [] w w1) :
    Calls Tryz.prog 13 #[.pointer (some ⟨p, 0, none⟩)] w1 fun x w' => ∃ q, x = .returned (.tuple #[.pointer (some ⟨q, 0, none⟩), .int .i64 0]) ∧ LoopS m w w' p g b q cap 0 none 0 [] := by
  obtain ⟨D, e1, hW, hQ, hn, hoff, hl, hd, hS⟩ := open_new 40 (by decide) (by decide)
  have hnw : newestD (newD 40) = 0 := by kernel_rfl
  refine (open_any h1 (show 40 ≤ 200000 by decide) (by rw [hnw]; decide) (show (0 : Int) ≤ 4611686018427000000 by decide)).mono ?_
  intro x w' hx
  rw [e1] at hx
  rcases hx with ⟨h1', _⟩ | ⟨js', q', v', ss', W', k0, rfl, k2, k3, k4, k5, k6, k7, k8⟩
  · cases h1'
  · cases k0
    have hsz := ho.size
    exact ⟨q', rfl, D, 1, JT p g b q' v', ⟨w1.heap.size, W', v', ss', k3, k6, k8, k5.size, rfl, by omega, by omega, by omega, by omega, by omega⟩, Kept.nil _ _, ⟨hW, hQ, hn, hS⟩, hoff, by omega, by omega, ho.trans k5 (fun x hx => by simp at hx; right; omega)⟩
end
end Go.Proofs.YthgfmoogagldmaaGreat.Journal
