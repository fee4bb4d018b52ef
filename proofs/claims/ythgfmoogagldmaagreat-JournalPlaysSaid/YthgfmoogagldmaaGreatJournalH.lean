/- JournalH: What the acts of JournalWholly leave in memory; The plays of a journal: what holds of disk and journal from act to act, with no program in sight. -/
import Derived.Test.YthgfmoogagldmaaGreatJournalG
set_option linter.unusedVariables false
set_option maxRecDepth 100000
namespace Go.Proofs.YthgfmoogagldmaaGreat.Journal
open Go.RowKit Go.Shelf Disk Go.Proofs.YthgfmoogagldmaaGreat.Frame
theorem then_done {x : DS × Bool} {f : DS → DS × Bool} {D c1 c2 : Int} (h1 : x.1.done ≤ D + c1) (h0 : 0 ≤ c2) (h2 : ∀ y, (f y).1.done ≤ y.done + c2) : (andThen x f).1.done ≤ D + (c1 + c2) := by
  unfold andThen
  split
  · have := h2 x.1; omega
  · show x.1.done ≤ _; omega
theorem app_done (d : DS) (js : JS) (b : List UInt8) : (appendJ d js b).1.done ≤ d.done + (takesB b + 4) := by
  have ht := takesB_pos b
  unfold appendJ
  split
  · show d.done ≤ _; omega
  · have h1 : (packH d js.half (usedJ js) b).1.done ≤ d.done + takesB b := (packH_done _ _ _ _).1
    have h2 := then_done h1 (by decide : (0 : Int) ≤ 1) (fun y => (zero_done y js.half (usedJ js + takesB b)).1)
    have h3 := then_done h2 (by decide : (0 : Int) ≤ 1) (fun y => (syn_done y).1)
    have h4 := then_done h3 (by decide : (0 : Int) ≤ 1) (fun y => (wr_done y (js.half.fr + usedJ js) (putB (markH js.half js.l.length b))).1)
    have h5 := then_done h4 (by decide : (0 : Int) ≤ 1) (fun y => (syn_done y).1)
    simp only
    split <;> (simp only; omega)
theorem res_done (d : DS) (js : JS) (l : List (List UInt8)) : (resetJ d js l).1.done ≤ d.done + (takesL l + 4) := by
  have ht := takesL_nn l
  unfold resetJ
  split
  · show d.done ≤ _; omega
  · have h1 : (layH d (halfD d (js.half.gen + 1)) l).1.done ≤ d.done + (takesL l + 2) := by have := (layH_done d (halfD d (js.half.gen + 1)) l).1; omega
    have h2 := then_done h1 (by decide : (0 : Int) ≤ 2) (fun y => (lead_done y (halfD d (js.half.gen + 1))).1)
    simp only
    split <;> (simp only; omega)
theorem takesL_10 {l : List (List UInt8)} (h : ∀ b ∈ l, b.length ≤ 1048576) (hn : l.length ≤ 10) : takesL l ≤ 200000 := by
  have := (takesL_le l.length l h (Nat.le_refl _)).2
  rw [List.take_of_length_le (Nat.le_refl _)] at this
  omega
theorem takesB_1 {b : List UInt8} (h : b.length ≤ 1048576) : takesB b ≤ 20000 := by
  have := (takesL_le 1 [b] (by intro x hx; rw [List.mem_singleton.1 hx]; exact h) (Nat.le_refl _)).2
  rw [show ([b] : List (List UInt8)).take 1 = [b] from rfl, takesL_cons, takesL_nil] at this
  omega
theorem After.up {d : DS} {js : JS} {n : Nat} {G G' : Int} {l m : List (List UInt8)} (h : After d js n G l m) (hG : G ≤ G') : After d js n G' l m := by
  rcases h with ⟨gen, h1, h2, h3⟩ | ⟨h1, h2, h3, h4⟩
  · exact .inl ⟨gen, by omega, h2, h3⟩
  · refine .inr ⟨h1, h2, h3, fun fs ks hk => ?_⟩
    rcases h4 fs ks hk with ⟨gen, a, b⟩ | ⟨gen, a, b⟩
    · exact .inl ⟨gen, by omega, b⟩
    · exact .inr ⟨gen, by omega, b⟩
section
variable {w w' wr : World} {p g b q cap m n k : Nat} {d : DS} {js : JS} {T T' : List Nat} {A : Option Addr} {ls hs ms : List (List UInt8)}
theorem Kept.len (h : Kept w T A n ls) : ls.length = n := h.lst.len
def Mid (m : Nat) (w wr : World) (p g b q cap k : Nat) (A : Option Addr) (n : Nat) (l hs ms : List (List UInt8)) : Prop :=
  ∃ d js T, St m wr p g b q cap d js T ∧ Kept wr T A n l ∧ After d js 40 (k + 2) hs ms ∧ d.done ≤ 4 + 300000 * ((k : Int) + 1) ∧ Only [] w wr
def LoopS (m : Nat) (w wr : World) (p g b q cap k : Nat) (A : Option Addr) (n : Nat) (hs : List (List UInt8)) : Prop :=
  ∃ d gen T, St m wr p g b q cap d ⟨halfN 40 gen, hs, false⟩ T ∧ Kept wr T A n hs ∧ Ready d 40 gen hs ∧ d.off = false ∧ gen ≤ (k : Int) + 1 ∧ d.done ≤ 4 + 300000 * (k : Int) ∧ Only [] w wr
theorem turn_only (h : St m wr p g b q cap d js T) (hm : w.heap.size ≤ m) (ho : Only [] w wr) (h2 : Only T wr w') : Only [] w w' :=
  ho.trans h2 (fun x hx => .inr (Nat.le_trans hm (h.above x hx)))
theorem LoopS.append (h : LoopS m w wr p g b q cap k A n hs) (hm : m = w.heap.size) (hk : k ≤ 60) (hl : hs.length ≤ 100) (s : Sl) (hb : Bytes w w.heap.size s.A s.n s.l) (h1 : s.n ≤ 1000) (h2 : s.n ≤ s.c) (h3 : s.c ≤ maxLen) :
    Calls Tryz.prog 15 #[.pointer (some ⟨q, 0, none⟩), s.val] wr fun x w' =>
      (x = .returned (.int .i64 0) ∧ Mid m w w' p g b q cap k A n hs (hs ++ [s.l]) hs) ∨ (x = .returned (.int .i64 3) ∧ Mid m w w' p g b q cap k A n hs hs (hs ++ [s.l])) ∨
      (∃ f : Int, (f = 1 ∨ f = 2) ∧ x = .returned (.int .i64 f) ∧ Mid m w w' p g b q cap k A n hs hs hs) := by
  obtain ⟨d, gen, T, hS, hK, hR, hoff, hgen, hdn, ho⟩ := h
  have hfar : 0 < s.n → ∀ k ∈ blkOf s.A, k ∉ T := fun hn k hk hm' => by
    have := bytes_lt hb hn k hk
    have := hS.above k hm'
    omega
  have hbr : Bytes wr wr.heap.size s.A s.n s.l := (hb.only ho (by simp)).more ho.size
  refine (hS.append (by rw [hR.n_]; omega) s.A s.n s.c s.l hbr (by omega) h2 h3 hfar (by show hs.length ≤ 100000; omega) (by omega)).mono ?_
  rintro x w' ⟨rfl, T', hS', hT1, hT2⟩
  have hK' := hK.only hT1 hT2
  have hO' := turn_only hS (by omega) ho hT1
  have hd' : (appendJ d ⟨halfN 40 gen, hs, false⟩ s.l).1.done ≤ 4 + 300000 * ((k : Int) + 1) := by
    have e1 := app_done d ⟨halfN 40 gen, hs, false⟩ s.l
    have e2 := takesB_1 (b := s.l) (by rw [hb.len]; omega)
    omega
  have up : ∀ {l r : List (List UInt8)}, After (appendJ d ⟨halfN 40 gen, hs, false⟩ s.l).1 (appendJ d ⟨halfN 40 gen, hs, false⟩ s.l).2.1 40 gen l r → After (appendJ d ⟨halfN 40 gen, hs, false⟩ s.l).1 (appendJ d ⟨halfN 40 gen, hs, false⟩ s.l).2.1 40 ((k : Int) + 2) l r := fun hA => hA.up (by omega)
  rcases after_append (b := s.l) hR (by decide) (by decide) with ⟨e, hA⟩ | ⟨e, hA⟩ | ⟨e, hA⟩
  · exact .inl ⟨by rw [e], _, _, T', hS', hK', up hA, hd', hO'⟩
  · exact .inr (.inl ⟨by rw [e], _, _, T', hS', hK', up hA, hd', hO'⟩)
  · exact .inr (.inr ⟨_, e, rfl, _, _, T', hS', hK', up hA, hd', hO'⟩)
theorem LoopS.reset (h : LoopS m w wr p g b q cap k A n hs) (hm : m = w.heap.size) (hk : k ≤ 60) (LA : Option Addr) (Lc : Nat) (ss : List Sl) (hr : Reads w w.heap.size 1 LA ss.length (ss.map Sl.val))
    (he : ∀ s ∈ ss, Bytes w w.heap.size s.A s.n s.l ∧ s.n ≤ s.c ∧ s.c ≤ maxLen) (h10 : ss.length ≤ 10) (h1 : ∀ s ∈ ss, s.n ≤ 1000) :
    Calls Tryz.prog 17 #[.pointer (some ⟨q, 0, none⟩), .slice LA ss.length Lc] wr fun x w' =>
      (x = .returned (.int .i64 0) ∧ Mid m w w' p g b q cap k A n hs (ss.map (·.l)) hs) ∨ (x = .returned (.int .i64 3) ∧ Mid m w w' p g b q cap k A n hs hs (ss.map (·.l))) ∨
      (∃ f : Int, (f = 1 ∨ f = 2) ∧ x = .returned (.int .i64 f) ∧ Mid m w w' p g b q cap k A n hs hs hs) := by
  obtain ⟨d, gen, T, hS, hK, hR, hoff, hgen, hdn, ho⟩ := h
  have hg1 := hR.stands.g
  have hfar : 0 < ss.length → ∀ k ∈ blkOf LA, k ∉ T := fun hn k hk hm' => by
    have := reads_lt hr hn k hk
    have := hS.above k hm'
    omega
  have hrr : Reads wr wr.heap.size 1 LA ss.length (ss.map Sl.val) := (hr.only ho (by simp)).more ho.size
  have hh : Held wr T ss := fun s hs => by
    obtain ⟨a1, a2, a3⟩ := he s hs
    have a4 := h1 s hs
    exact ⟨(a1.only ho (by simp)).more ho.size, a2, a3, by omega, fun hn k hk hm' => by
      have := bytes_lt a1 hn k hk
      have := hS.above k hm'
      omega⟩
  have hsm : (halfD d (gen + 1)).small := by
    rw [halfD_eq, hR.n_]
    unfold Half.small halfN
    simp only
    omega
  refine (hS.reset (by rw [hR.n_]; omega) LA ss.length Lc ss rfl hrr hh (fun s hs => by have := h1 s hs; omega) (by omega) hfar (by omega) (by rw [roomD, hR.n_]; rfl) (by show 0 ≤ gen ∧ gen ≤ 4611686018427380000; omega) hsm).mono ?_
  rintro x w' ⟨rfl, T', hS', hT1, hT2⟩
  have hK' := hK.only hT1 hT2
  have hO' := turn_only hS (by omega) ho hT1
  have hd' : (resetJ d ⟨halfN 40 gen, hs, false⟩ (ss.map (·.l))).1.done ≤ 4 + 300000 * ((k : Int) + 1) := by
    have e1 := res_done d ⟨halfN 40 gen, hs, false⟩ (ss.map (·.l))
    have e2 := takesL_10 (l := ss.map (·.l)) (fun b hb => by
      obtain ⟨s, hs, rfl⟩ := List.mem_map.1 hb
      have := h1 s hs
      rw [(he s hs).1.len]
      omega) (by rw [List.length_map]; exact h10)
    omega
  have up : ∀ {l r : List (List UInt8)}, After (resetJ d ⟨halfN 40 gen, hs, false⟩ (ss.map (·.l))).1 (resetJ d ⟨halfN 40 gen, hs, false⟩ (ss.map (·.l))).2.1 40 (gen + 1) l r → After (resetJ d ⟨halfN 40 gen, hs, false⟩ (ss.map (·.l))).1 (resetJ d ⟨halfN 40 gen, hs, false⟩ (ss.map (·.l))).2.1 40 ((k : Int) + 2) l r := fun hA => hA.up (by omega)
  rcases after_reset (m := ss.map (·.l)) hR (by decide) (by decide) (by omega) with ⟨e, hA⟩ | ⟨e, hA⟩ | ⟨e, hA⟩
  · exact .inl ⟨by rw [e], _, _, T', hS', hK', up hA, hd', hO'⟩
  · exact .inr (.inl ⟨by rw [e], _, _, T', hS', hK', up hA, hd', hO'⟩)
  · exact .inr (.inr ⟨_, e, rfl, _, _, T', hS', hK', up hA, hd', hO'⟩)
theorem LoopS.stop (h : LoopS m w wr p g b q cap k A n hs) (hm : m = w.heap.size) (a : Int) (ha : a ≤ 9223372036854775807) :
    Calls Tryz.prog 18 #[.pointer (some ⟨p, 0, none⟩), .int .i64 a] wr fun x w' => x = .returned (.tuple #[]) ∧ Mid m w w' p g b q cap k A n hs hs hs := by
  obtain ⟨d, gen, T, hS, hK, hR, hoff, hgen, hdn, ho⟩ := h
  refine (hS.stop a ha).mono ?_
  rintro x w' ⟨rfl, hS', hT1, hT2⟩
  refine ⟨rfl, _, _, T, hS', hK.only hT1 hT2, .inl ⟨gen, by omega, hR.stop a, rfl⟩, ?_, turn_only hS (by omega) ho hT1⟩
  have : (stopD d a).done = d.done := by unfold stopD; split <;> rfl
  omega
end
end Go.Proofs.YthgfmoogagldmaaGreat.Journal
namespace Go.Proofs.YthgfmoogagldmaaGreat.Journal
open Disk Go.Proofs.YthgfmoogagldmaaGreat.Frame
theorem wr_off {d : DS} {i : Int} {l : List UInt8} (hi : 0 ≤ i ∧ i < d.n) (hl : l.length = 64) (h : (wrD d i l).2 = false) : (wrD d i l).1.off = true := by
  rcases wr_step hi hl with e | e
  · rw [e]
  · rw [e] at h; cases h
theorem syn_off {d : DS} (h : (synD d).2 = false) : (synD d).1.off = true := by
  unfold synD at h ⊢
  split
  · rfl
  · rename_i e
    rw [if_neg e] at h
    cases h
theorem puts_off : ∀ (xs : List (List UInt8)) (d : DS) (i : Int), (∀ x ∈ xs, x.length = 64) → 0 ≤ i → i + xs.length ≤ d.n → (putsD d i xs).2 = false → (putsD d i xs).1.off = true
  | [], d, i, _, _, _, h => by cases h
  | x :: xs, d, i, hx, h0, hn, h => by
    rw [List.length_cons] at hn
    unfold putsD at h ⊢
    by_cases e : (wrD d i x).2 = true
    · rw [if_pos e] at h ⊢
      exact puts_off xs _ _ (fun y hy => hx y (by simp [hy])) (by omega) (by rw [wrD_n]; omega) h
    · rw [if_neg e]
      exact wr_off (by omega) (hx x (by simp)) (by simpa using e)
theorem pack_off {d : DS} {h : Half} {a : Int} {b : List UInt8} (ha : 0 ≤ a) (hf : 0 ≤ h.fr) (hr : h.fr + h.room ≤ d.n) (hb : a + takesB b ≤ h.room) (hx : (packH d h a b).2 = false) : (packH d h a b).1.off = true := by
  have hn := needZ_nn b.length
  have hl := packsB_len b
  have htb : takesB b = 1 + needZ b.length := rfl
  exact puts_off _ _ _ (fun x hx => packsB_64 hx) (by omega) (by rw [hl]; omega) hx
theorem zero_off {d : DS} {h : Half} {a : Int} (ha : 0 ≤ a) (hf : 0 ≤ h.fr) (hr : h.fr + h.room ≤ d.n) (hx : (zeroH d h a).2 = false) : (zeroH d h a).1.off = true := by
  unfold zeroH at hx ⊢
  by_cases e : h.room ≤ a
  · rw [if_pos e] at hx; cases hx
  · rw [if_neg e] at hx ⊢
    exact wr_off (by omega) (by unfold zeros; rw [List.length_replicate]) hx
theorem then_off {x : DS × Bool} {f : DS → DS × Bool} (h1 : x.2 = false → x.1.off = true) (h2 : x.2 = true → (f x.1).2 = false → (f x.1).1.off = true) (h : (andThen x f).2 = false) : (andThen x f).1.off = true := by
  unfold andThen at h ⊢
  cases e : x.2 with
  | false => rw [if_neg (by decide)]; exact h1 e
  | true =>
    rw [e, if_pos rfl] at h
    rw [if_pos rfl]
    exact h2 e h
theorem then_n {x : DS × Bool} {f : DS → DS × Bool} {n : Nat} (h1 : x.1.n = n) (h2 : ∀ y, y.n = n → (f y).1.n = n) : (andThen x f).1.n = n := by
  unfold andThen
  split
  · exact h2 _ h1
  · exact h1
theorem packH_n (d : DS) (h : Half) (a : Int) (b : List UInt8) : (packH d h a b).1.n = d.n := putsD_n _ _ _
theorem zeroH_n (d : DS) (h : Half) (a : Int) : (zeroH d h a).1.n = d.n := by
  unfold zeroH
  split
  · rfl
  · exact wrD_n _ _ _
theorem append_off {d : DS} {js : JS} {b : List UInt8} {n : Nat} {gen : Int} (hdn : d.n = n) (hn : 8 ≤ n) (hn2 : n ≤ 100000) (hh : js.half = halfN n gen) (hg : 1 ≤ gen ∧ gen ≤ 1000000000) (hl : js.l.length ≤ 1000000) (hx : (appendJ d js b).2.2 = 3) (ho : js.off = false) : (appendJ d js b).1.off = true := by
  unfold appendJ at hx ⊢
  by_cases hre : refuseJ js [b] (js.half.room - usedJ js) = 0
  case neg =>
    rw [if_pos hre] at hx
    simp only at hx
    exfalso
    unfold refuseJ at hx
    rw [if_neg (by rw [ho]; decide)] at hx
    split at hx
    · cases hx
    · split at hx <;> cases hx
  case pos =>
    rw [if_neg (by rw [hre]; decide)] at hx ⊢
    simp only at hx ⊢
    have hfit := fits_of hre
    have hbl : b.length ≤ 1048576 := by
      unfold refuseJ at hre
      rw [if_neg (by rw [ho]; decide)] at hre
      split at hre
      · cases hre
      · rename_i h1
        rcases Nat.lt_or_ge 1048576 b.length with h | h
        · exact absurd ⟨b, by simp, h⟩ h1
        · exact h
    obtain ⟨hf, hr, hr0⟩ := half_in (n := n) (gen := gen) hn
    have hgen : (halfN n gen).gen = gen := rfl
    have hu := takesL_nn js.l
    have htp := takesB_pos b
    have hu2 : usedJ js = takesL js.l := rfl
    rw [hh] at hfit hx ⊢
    have hm64 := putB_64 (markH_ok (h := halfN n gen) (seq := (js.l.length : Int)) (b := b) (by rw [hgen]; omega) (by omega) hbl).1
    obtain ⟨r, hr'⟩ : ∃ r, andThen (andThen (andThen (andThen (packH d (halfN n gen) (usedJ js) b) (fun x => zeroH x (halfN n gen) (usedJ js + takesB b))) synD) (fun x => wrD x ((halfN n gen).fr + usedJ js) (putB (markH (halfN n gen) js.l.length b)))) synD = r := ⟨_, rfl⟩
    rw [hr'] at hx ⊢
    have hoff : r.2 = false → r.1.off = true := by
      intro h
      rw [← hr'] at h ⊢
      refine then_off (fun h => then_off (fun h => then_off (fun h => then_off (fun h => ?_) (fun _ h => ?_) h) (fun _ h => syn_off h) h) (fun _ h => ?_) h) (fun _ h => syn_off h) h
      · exact pack_off (by omega) (by omega) (by rw [hdn]; exact hr) hfit h
      · exact zero_off (by omega) (by omega) (by rw [packH_n, hdn]; exact hr) h
      · refine wr_off ⟨by omega, ?_⟩ hm64 h
        rw [then_n (n := n) (then_n (n := n) (by rw [packH_n]; exact hdn) (fun y hy => by rw [zeroH_n]; exact hy)) (fun y hy => by rw [synD_n]; exact hy)]
        omega
    cases e : r.2 with
    | true => rw [e, if_pos rfl] at hx; cases hx
    | false => rw [if_neg (by decide)]; exact hoff e
theorem layR_off {d : DS} {h : Half} {a i : Int} {b : List UInt8} (ha : 0 ≤ a) (hf : 0 ≤ h.fr) (hr : h.fr + h.room ≤ d.n) (hb : a + takesB b ≤ h.room) (hg : 0 ≤ h.gen ∧ h.gen ≤ 4611686018427387904) (hi : 0 ≤ i ∧ i ≤ 4611686018427387904) (hbl : b.length ≤ 1048576) (hx : (layR d h a i b).2 = false) : (layR d h a i b).1.off = true := by
  have htp := takesB_pos b
  refine then_off (fun h => wr_off (by omega) (putB_64 (markH_ok hg hi hbl).1) h) (fun _ h => pack_off ha hf (by rw [wrD_n]; exact hr) hb h) hx
theorem layG_off : ∀ (xs : List (List UInt8)) (d : DS) (h : Half) (a i : Int), 0 ≤ a → 0 ≤ h.fr → h.fr + h.room ≤ d.n → a + takesL xs ≤ h.room → 0 ≤ h.gen ∧ h.gen ≤ 4611686018427387904 → 0 ≤ i → i + xs.length ≤ 4611686018427387904 → (∀ b ∈ xs, b.length ≤ 1048576) → (layG d h a i xs).2.1 = false → (layG d h a i xs).1.off = true
  | [], d, h, a, i, _, _, _, _, _, _, _, _, hx => by cases hx
  | x :: xs, d, h, a, i, ha, hf, hr, ht, hg, hi, hi2, hb, hx => by
    rw [takesL_cons] at ht
    have htp := takesB_pos x
    have hnn := takesL_nn xs
    rw [List.length_cons] at hi2
    rw [layG_cons] at hx ⊢
    by_cases e : (layR d h a i x).2 = true
    · rw [if_pos e] at hx ⊢
      exact layG_off xs _ h _ _ (by omega) hf (by rw [layR_n]; exact hr) (by omega) hg (by omega) (by omega) (fun b hm => hb b (by simp [hm])) hx
    · rw [if_neg e]
      exact layR_off ha hf hr (by omega) hg ⟨hi, by omega⟩ (hb x (by simp)) (by simpa using e)
theorem layH_n (d : DS) (h : Half) (l : List (List UInt8)) : (layH d h l).1.n = d.n := by
  unfold layH
  simp only
  split
  · exact then_n (by rw [zeroH_n, layG_n]) (fun y hy => by rw [synD_n]; exact hy)
  · exact layG_n _ _ _ _ _
theorem reset_off {d : DS} {js : JS} {l : List (List UInt8)} {n : Nat} {gen : Int} (hdn : d.n = n) (hn : 8 ≤ n) (hn2 : n ≤ 100000) (hh : js.half = halfN n gen) (hg : 1 ≤ gen ∧ gen < 1000000000) (hx : (resetJ d js l).2.2 = 3) (ho : js.off = false) : (resetJ d js l).1.off = true := by
  unfold resetJ at hx ⊢
  by_cases hre : refuseJ js l js.half.room = 0
  case neg =>
    rw [if_pos hre] at hx
    simp only at hx
    exfalso
    unfold refuseJ at hx
    rw [if_neg (by rw [ho]; decide)] at hx
    split at hx
    · cases hx
    · split at hx <;> cases hx
  case pos =>
    rw [if_neg (by rw [hre]; decide)] at hx ⊢
    simp only at hx ⊢
    have hrr : (∀ b ∈ l, b.length ≤ 1048576) ∧ takesL l ≤ js.half.room := by
      unfold refuseJ at hre
      rw [if_neg (by rw [ho]; decide)] at hre
      split at hre
      · cases hre
      · rename_i h1
        split at hre
        · cases hre
        · rename_i h2
          refine ⟨fun b hb => ?_, by omega⟩
          rcases Nat.lt_or_ge 1048576 b.length with h | h
          · exact absurd ⟨b, hb, h⟩ h1
          · exact h
    have hhd : halfD d (js.half.gen + 1) = halfN n (gen + 1) := by rw [hh, ← hdn]; rfl
    rw [hhd] at hx ⊢
    obtain ⟨hf, hr, hr0⟩ := half_in (n := n) (gen := gen + 1) hn
    have hgen : (halfN n (gen + 1)).gen = gen + 1 := rfl
    have hroom : js.half.room = (halfN n (gen + 1)).room := by rw [hh]; rfl
    have hlt := len_takes l
    have hroom2 : (halfN n (gen + 1)).room ≤ 100000 := by unfold halfN; simp only; omega
    obtain ⟨r, hr'⟩ : ∃ r, andThen (layH d (halfN n (gen + 1)) l) (fun x => leadH x (halfN n (gen + 1))) = r := ⟨_, rfl⟩
    rw [hr'] at hx ⊢
    have hoff : r.2 = false → r.1.off = true := by
      intro h
      rw [← hr'] at h ⊢
      refine then_off (fun h => ?_) (fun _ h => ?_) h
      · unfold layH at h ⊢
        simp only at h ⊢
        split at h
        · rename_i e
          rw [if_pos e]
          have hat := layG_at _ _ _ _ _ e
          have hnn := takesL_nn l
          refine then_off (fun h => zero_off (by omega) (by omega) (by rw [layG_n, hdn]; exact hr) h) (fun _ h => syn_off h) h
        · rename_i e
          rw [if_neg e]
          exact layG_off l d _ 0 0 (Int.le_refl _) (by omega) (by rw [hdn]; exact hr) (by omega) (by rw [hgen]; omega) (Int.le_refl _) (by omega) hrr.1 (by simpa using e)
      · unfold leadH at h ⊢
        have hm2 : 0 ≤ (gen + 1) % 2 ∧ (gen + 1) % 2 < 2 := by omega
        split at h
        · rename_i e
          rw [if_pos e]
          exact syn_off h
        · rename_i e
          rw [if_neg e]
          refine wr_off ?_ (putB_64 (headM_ok (gen := gen + 1) (by omega)).1) (by simpa using e)
          rw [layH_n, hdn, hgen]
          omega
    cases e : r.2 with
    | true => rw [e, if_pos rfl] at hx; cases hx
    | false => rw [if_neg (by decide)]; exact hoff e
structure PL (d : DS) (js : JS) (n : Nat) (G : Int) : Prop where
  n_ : d.n = n
  half : ∃ gen, 1 ≤ gen ∧ gen ≤ G ∧ js.half = halfN n gen
  now : (js.off = false ∧ ∃ gen, gen ≤ G ∧ Ready d n gen js.l ∧ js = ⟨halfN n gen, js.l, false⟩) ∨ (js.off = true ∧ d.off = true ∧ ∃ l m, Torn d n l m G)
section
variable {d : DS} {js : JS} {n : Nat} {G : Int} {b : List UInt8} {m : List (List UInt8)}
theorem Torn.up {l : List (List UInt8)} {G' : Int} (h : Torn d n l m G) (hG : G ≤ G') : Torn d n l m G' := by
  obtain ⟨h2, h3, h4⟩ := h
  refine ⟨h2, h3, fun fs ks hk => ?_⟩
  rcases h4 fs ks hk with ⟨gen, a, b⟩ | ⟨gen, a, b⟩
  · exact .inl ⟨gen, by omega, b⟩
  · exact .inr ⟨gen, by omega, b⟩
theorem PL.up {G' : Int} (h : PL d js n G) (hG : G ≤ G') : PL d js n G' := by
  obtain ⟨h1, ⟨gen, h2, h3, h4⟩, h5⟩ := h
  refine ⟨h1, ⟨gen, h2, by omega, h4⟩, ?_⟩
  rcases h5 with ⟨a, g, b, c⟩ | ⟨a, b, l, m, c⟩
  · exact .inl ⟨a, g, by omega, c⟩
  · exact .inr ⟨a, b, l, m, c.up hG⟩
theorem PL.append (h : PL d js n G) (hn : 8 ≤ n) (hn2 : n ≤ 100000) (hG : G ≤ 1000000000) (hl : js.l.length ≤ 1000000) : PL (appendJ d js b).1 (appendJ d js b).2.1 n G := by
  obtain ⟨h1, ⟨gen0, h2, h3, h4⟩, h5⟩ := h
  rcases h5 with ⟨ho, gen, hg, hr, hj⟩ | ⟨ho, hoff, l, m, ht⟩
  · have hgen := hr.stands.g
    have hof := append_off (b := b) h1 hn hn2 (show js.half = halfN n gen by rw [hj]) hgen hl
    have hh2 : (appendJ d js b).2.1.half = js.half := by
      unfold appendJ
      split
      · rfl
      · simp only
        split <;> rfl
    obtain ⟨l, hjl⟩ : ∃ l, js.l = l := ⟨_, rfl⟩
    rw [hjl] at hr hj
    have hal := after_append (b := b) hr hn hn2
    rw [← hj] at hal
    have fin : ∀ {l' m' : List (List UInt8)}, ((appendJ d js b).2.2 = 3 → (appendJ d js b).1.off = true) → ((appendJ d js b).2.1.off = true → (appendJ d js b).2.2 = 3) → After (appendJ d js b).1 (appendJ d js b).2.1 n gen l' m' → PL (appendJ d js b).1 (appendJ d js b).2.1 n G := fun {l' m'} k1 k2 ha => by
      have hhalf : ∃ g, 1 ≤ g ∧ g ≤ G ∧ (appendJ d js b).2.1.half = halfN n g := ⟨gen, hgen.1, hg, by rw [hh2, hj]⟩
      rcases ha with ⟨g, a1, a2, a3⟩ | ⟨a1, a2⟩
      · exact ⟨a2.n_, hhalf, .inl ⟨by rw [a3], g, by omega, by rw [a3]; exact a2, by rw [a3]⟩⟩
      · exact ⟨a2.2.1, hhalf, .inr ⟨a1, k1 (k2 a1), _, _, a2.up hg⟩⟩
    have k2 : (appendJ d js b).2.1.off = true → (appendJ d js b).2.2 = 3 := by
      unfold appendJ
      split
      · intro h; rw [ho] at h; cases h
      · simp only
        split
        · intro h; simp only at h; rw [ho] at h; cases h
        · intro _; rfl
    rcases hal with ⟨_, h⟩ | ⟨_, h⟩ | ⟨_, h⟩
    · exact fin (fun h => hof h ho) k2 h
    · exact fin (fun h => hof h ho) k2 h
    · exact fin (fun h => hof h ho) k2 h
  · have e : appendJ d js b = (d, js, 3) := by
      have hre : refuseJ js [b] (js.half.room - usedJ js) = 3 := by unfold refuseJ; rw [if_pos ho]
      unfold appendJ
      rw [if_pos (by rw [hre]; decide), hre]
    rw [e]
    exact ⟨h1, ⟨gen0, h2, h3, h4⟩, .inr ⟨ho, hoff, l, m, ht⟩⟩
theorem PL.reset (h : PL d js n G) (hn : 8 ≤ n) (hn2 : n ≤ 100000) (hG : G < 1000000000) : PL (resetJ d js m).1 (resetJ d js m).2.1 n (G + 1) := by
  obtain ⟨h1, ⟨gen0, h2, h3, h4⟩, h5⟩ := h
  rcases h5 with ⟨ho, gen, hg, hr, hj⟩ | ⟨ho, hoff, l2, m2, ht⟩
  · have hgen := hr.stands.g
    have hof := reset_off (l := m) h1 hn hn2 (show js.half = halfN n gen by rw [hj]) ⟨hgen.1, by omega⟩
    have hh2 : (resetJ d js m).2.1.half = js.half ∨ (resetJ d js m).2.1.half = halfN n (gen + 1) := by
      unfold resetJ
      split
      · exact .inl rfl
      · simp only
        split
        · refine .inr ?_
          show halfD d (js.half.gen + 1) = _
          rw [hj, ← h1]
          rfl
        · exact .inl rfl
    obtain ⟨l, hjl⟩ : ∃ l, js.l = l := ⟨_, rfl⟩
    rw [hjl] at hr hj
    have hal := after_reset (m := m) hr hn hn2 (by omega)
    rw [← hj] at hal
    have fin : ∀ {l' m' : List (List UInt8)}, ((resetJ d js m).2.2 = 3 → (resetJ d js m).1.off = true) → ((resetJ d js m).2.1.off = true → (resetJ d js m).2.2 = 3) → After (resetJ d js m).1 (resetJ d js m).2.1 n (gen + 1) l' m' → PL (resetJ d js m).1 (resetJ d js m).2.1 n (G + 1) := fun {l' m'} k1 k2 ha => by
      have hhalf : ∃ g, 1 ≤ g ∧ g ≤ G + 1 ∧ (resetJ d js m).2.1.half = halfN n g := by
        rcases hh2 with e | e
        · exact ⟨gen, hgen.1, by omega, by rw [e, hj]⟩
        · exact ⟨gen + 1, by omega, by omega, e⟩
      rcases ha with ⟨g, a1, a2, a3⟩ | ⟨a1, a2⟩
      · exact ⟨a2.n_, hhalf, .inl ⟨by rw [a3], g, by omega, by rw [a3]; exact a2, by rw [a3]⟩⟩
      · exact ⟨a2.2.1, hhalf, .inr ⟨a1, k1 (k2 a1), _, _, a2.up (by omega)⟩⟩
    have k2 : (resetJ d js m).2.1.off = true → (resetJ d js m).2.2 = 3 := by
      unfold resetJ
      split
      · intro h; rw [ho] at h; cases h
      · simp only
        split
        · intro h; simp only at h; rw [ho] at h; cases h
        · intro _; rfl
    rcases hal with ⟨_, h⟩ | ⟨_, h⟩ | ⟨_, h⟩
    · exact fin (fun h => hof h ho) k2 h
    · exact fin (fun h => hof h ho) k2 h
    · exact fin (fun h => hof h ho) k2 h
  · have e : resetJ d js m = (d, js, 3) := by
      have hre : refuseJ js m js.half.room = 3 := by unfold refuseJ; rw [if_pos ho]
      unfold resetJ
      rw [if_pos (by rw [hre]; decide), hre]
    rw [e]
    exact PL.up ⟨h1, ⟨gen0, h2, h3, h4⟩, .inr ⟨ho, hoff, l2, m2, ht⟩⟩ (by omega)
theorem PL.stop (h : PL d js n G) (a : Int) : PL (stopD d a) js n G := by
  obtain ⟨h1, h2, h5⟩ := h
  rcases h5 with ⟨ho, gen, hg, hr, hj⟩ | ⟨ho, hoff, l, m, ht⟩
  · exact ⟨(hr.stop a).n_, h2, .inl ⟨ho, gen, hg, hr.stop a, hj⟩⟩
  · have e : stopD d a = d := by unfold stopD; rw [if_pos hoff]
    rw [e]
    exact ⟨h1, h2, .inr ⟨ho, hoff, l, m, ht⟩⟩
theorem PL.crash (h : PL d js n G) (fs : List Int) {ks : List Nat} (hk : waitsD d ks) : ∃ gen X, gen ≤ G ∧ Ready (crashD d fs ks) n gen X := by
  obtain ⟨h1, h2, h5⟩ := h
  rcases h5 with ⟨ho, gen, hg, hr, hj⟩ | ⟨ho, hoff, l, m, ht⟩
  · exact ⟨gen, js.l, hg, hr.crash fs hk⟩
  · obtain ⟨gen, hg, h⟩ := Torn.crash ht fs hk
    rcases h with h | h
    · exact ⟨gen, l, hg, h⟩
    · exact ⟨gen, m, hg, h⟩
theorem PL.of_ready {gen : Int} {l : List (List UInt8)} (h : Ready d n gen l) (hg : gen ≤ G) : PL d ⟨halfN n gen, l, false⟩ n G :=
  ⟨h.n_, ⟨gen, h.stands.g.1, hg, rfl⟩, .inl ⟨rfl, gen, hg, h, rfl⟩⟩
theorem PL.open_ (h : PL d js n G) (hn : 8 ≤ n) (hn2 : n ≤ 100000) : (d.off = true ∧ openJ d = (d, none, 3)) ∨ (d.off = false ∧ openJ d = (d, some js, 0) ∧ newestD d ≤ 1000000000 ∧ 1 ≤ newestD d) := by
  obtain ⟨h1, h2, h5⟩ := h
  cases ho : d.off with
  | true =>
    refine .inl ⟨rfl, ?_⟩
    unfold openJ
    rw [if_neg (by omega), if_pos ho]
  | false =>
    rcases h5 with ⟨_, gen, hg, hr, hj⟩ | ⟨_, hoff, _⟩
    · refine .inr ⟨rfl, by rw [hr.open_ hn hn2 ho, ← hj], hr.newest hn, ?_⟩
      have hs := hr.stands
      rw [← hr.n_] at hs
      rw [newest_stands hr.quiet ho (by omega) hs]
      exact hs.g.1
    · rw [ho] at hoff; cases hoff
theorem PL.newest (h : PL d js n G) (hn : 8 ≤ n) : newestD d ≤ 1000000000 := by
  obtain ⟨h1, h2, h5⟩ := h
  rcases h5 with ⟨_, gen, hg, hr, hj⟩ | ⟨_, hoff, _⟩
  · exact hr.newest hn
  · rw [newest_off hoff]; decide
end
end Go.Proofs.YthgfmoogagldmaaGreat.Journal
