/- JournalH: No journal, and one that nobody made: JournalNil; What the acts of JournalWholly leave in memory. -/
import Derived.Test.YthgfmoogagldmaaGreatJournalF
import Derived.Test.YthgfmoogagldmaaGreatJournalG
set_option linter.unusedVariables false
set_option maxRecDepth 100000
namespace Go.Proofs.YthgfmoogagldmaaGreat.Journal
open Go.RowKit Go.Shelf Disk Go.Proofs.YthgfmoogagldmaaGreat.Frame
def NoneJ (w : World) (J : Value) : Prop := ∀ wx, Only [] w wx → Calls Tryz.prog 73 #[J] wx fun x w' => x = .returned (.bool true) ∧ w' = wx
section
variable {w w' : World} {J : Value}
theorem NoneJ.only (h : NoneJ w J) (ho : Only [] w w') : NoneJ w' J := fun wx hx => h wx (ho.trans hx (by simp))
theorem nil_room (h : NoneJ w J) : Calls Tryz.prog 33 #[J] w fun x w' => x = .returned (.int .i64 0) ∧ w' = w := by
  have HN := Lib.hid (h w (Only.refl _ _))
  clear h
  go_enter Tryz.func33, Tryz.ntmps33
  go_wp2_with (go_at_call 73; refine HN.out.mono ?_; rintro x w2 ⟨rfl, hw2⟩; have hw2 := hw2.symm; subst hw2)
  go_ret
  exact ⟨rfl, rfl⟩
theorem nil_used (h : NoneJ w J) : Calls Tryz.prog 31 #[J] w fun x w' => x = .returned (.int .i64 0) ∧ w' = w := by
  have HN := Lib.hid (h w (Only.refl _ _))
  clear h
  go_enter Tryz.func31, Tryz.ntmps31
  go_wp2_with (go_at_call 73; refine HN.out.mono ?_; rintro x w2 ⟨rfl, hw2⟩; have hw2 := hw2.symm; subst hw2)
  go_ret
  exact ⟨rfl, rfl⟩
theorem nil_refuse (h : NoneJ w J) (x : Value) (z : Int) : Calls Tryz.prog 62 #[J, x, .int .i64 z] w fun x w' => x = .returned (.int .i64 1) ∧ w' = w := by
  have HN := Lib.hid (h w (Only.refl _ _))
  clear h
  go_enter Tryz.func62, Tryz.ntmps62
  go_wp2_with (go_at_call 73; refine HN.out.mono ?_; rintro x w2 ⟨rfl, hw2⟩; have hw2 := hw2.symm; subst hw2)
  go_ret
  exact ⟨rfl, rfl⟩
theorem nil_append (h : NoneJ w J) (A : Option Addr) (n c : Nat) : Calls Tryz.prog 15 #[J, .slice A n c] w fun x w' => x = .returned (.int .i64 1) ∧ Only [] w w' := by
  obtain ⟨w1, hw1⟩ : ∃ w1, w.alloc (.cells #[.slice A n c] 35) = w1 := ⟨_, rfl⟩
  have ho : Only [] w w1 := by rw [← hw1]; exact (Only.refl [] w).alloc _
  have HR := Lib.hid (nil_room (h.only ho))
  have HU := Lib.hid (nil_used (h.only ho))
  have HF := Lib.hid (fun x z => nil_refuse (h.only ho) x z)
  have HO := Lib.hid ho
  clear h ho
  go_enter Tryz.func15, Tryz.ntmps15
  go_wp2_with (first
    | (go_at_call 33; refine HR.out.mono ?_; rintro x w2 ⟨rfl, hw2⟩; have hw2 := hw2.symm; subst hw2)
    | (go_at_call 31; refine HU.out.mono ?_; rintro x w3 ⟨rfl, hw3⟩; have hw3 := hw3.symm; subst hw3)
    | (go_at_call 62; refine (HF.out _ _).mono ?_; rintro x w4 ⟨rfl, hw4⟩; have hw4 := hw4.symm; subst hw4))
  go_ret
  exact ⟨rfl, HO.out⟩
end
end Go.Proofs.YthgfmoogagldmaaGreat.Journal
namespace Go.Proofs.YthgfmoogagldmaaGreat.Journal
open Go.RowKit Go.Shelf Disk Go.Proofs.YthgfmoogagldmaaGreat.Frame
theorem then_done {x : DS × Bool} {f : DS → DS × Bool} {D c1 c2 : Int} (h1 : x.1.done ≤ D + c1) (h0 : 0 ≤ c2) (h2 : ∀ y, (f y).1.done ≤ y.done + c2) : (andThen x f).1.done ≤ D + (c1 + c2) := by
  unfold andThen
  split
  · have := h2 x.1; omega
  · show x.1.done ≤ _; omega
theorem app_done (d : DS) (js : JS) (b : List UInt8) : (appendJ d js b).1.done ≤ d.done + (takesB b + 4) := by
  have ht := takesB_pos b
  unfold appendJ
  split
  · show d.done ≤ _; omega
  · have h1 : (packH d js.half (usedJ js) b).1.done ≤ d.done + takesB b := (packH_done _ _ _ _).1
    have h2 := then_done h1 (by decide : (0 : Int) ≤ 1) (fun y => (zero_done y js.half (usedJ js + takesB b)).1)
    have h3 := then_done h2 (by decide : (0 : Int) ≤ 1) (fun y => (syn_done y).1)
    have h4 := then_done h3 (by decide : (0 : Int) ≤ 1) (fun y => (wr_done y (js.half.fr + usedJ js) (putB (markH js.half js.l.length b))).1)
    have h5 := then_done h4 (by decide : (0 : Int) ≤ 1) (fun y => (syn_done y).1)
    simp only
    split <;> (simp only; omega)
theorem res_done (d : DS) (js : JS) (l : List (List UInt8)) : (resetJ d js l).1.done ≤ d.done + (takesL l + 4) := by
  have ht := takesL_nn l
  unfold resetJ
  split
  · show d.done ≤ _; omega
  · have h1 : (layH d (halfD d (js.half.gen + 1)) l).1.done ≤ d.done + (takesL l + 2) := by have := (layH_done d (halfD d (js.half.gen + 1)) l).1; omega
    have h2 := then_done h1 (by decide : (0 : Int) ≤ 2) (fun y => (lead_done y (halfD d (js.half.gen + 1))).1)
    simp only
    split <;> (simp only; omega)
theorem takesL_10 {l : List (List UInt8)} (h : ∀ b ∈ l, b.length ≤ 1048576) (hn : l.length ≤ 10) : takesL l ≤ 200000 := by
  have := (takesL_le l.length l h (Nat.le_refl _)).2
  rw [List.take_of_length_le (Nat.le_refl _)] at this
  omega
theorem takesB_1 {b : List UInt8} (h : b.length ≤ 1048576) : takesB b ≤ 20000 := by
  have := (takesL_le 1 [b] (by intro x hx; rw [List.mem_singleton.1 hx]; exact h) (Nat.le_refl _)).2
  rw [show ([b] : List (List UInt8)).take 1 = [b] from rfl, takesL_cons, takesL_nil] at this
  omega
theorem After.up {d : DS} {js : JS} {n : Nat} {G G' : Int} {l m : List (List UInt8)} (h : After d js n G l m) (hG : G ≤ G') : After d js n G' l m := by
  rcases h with ⟨gen, h1, h2, h3⟩ | ⟨h1, h2, h3, h4⟩
  · exact .inl ⟨gen, by omega, h2, h3⟩
  · refine .inr ⟨h1, h2, h3, fun fs ks hk => ?_⟩
    rcases h4 fs ks hk with ⟨gen, a, b⟩ | ⟨gen, a, b⟩
    · exact .inl ⟨gen, by omega, b⟩
    · exact .inr ⟨gen, by omega, b⟩
section
variable {w w' wr : World} {p g b q cap m n k : Nat} {d : DS} {js : JS} {T T' : List Nat} {A : Option Addr} {ls hs ms : List (List UInt8)}
theorem Kept.len (h : Kept w T A n ls) : ls.length = n := h.lst.len
def Mid (m : Nat) (w wr : World) (p g b q cap k : Nat) (A : Option Addr) (n : Nat) (l hs ms : List (List UInt8)) : Prop :=
  ∃ d js T, St m wr p g b q cap d js T ∧ Kept wr T A n l ∧ After d js 40 (k + 2) hs ms ∧ d.done ≤ 4 + 300000 * ((k : Int) + 1) ∧ Only [] w wr
def LoopS (m : Nat) (w wr : World) (p g b q cap k : Nat) (A : Option Addr) (n : Nat) (hs : List (List UInt8)) : Prop :=
  ∃ d gen T, St m wr p g b q cap d ⟨halfN 40 gen, hs, false⟩ T ∧ Kept wr T A n hs ∧ Ready d 40 gen hs ∧ d.off = false ∧ gen ≤ (k : Int) + 1 ∧ d.done ≤ 4 + 300000 * (k : Int) ∧ Only [] w wr
theorem turn_only (h : St m wr p g b q cap d js T) (hm : w.heap.size ≤ m) (ho : Only [] w wr) (h2 : Only T wr w') : Only [] w w' :=
  ho.trans h2 (fun x hx => .inr (Nat.le_trans hm (h.above x hx)))
theorem LoopS.append (h : LoopS m w wr p g b q cap k A n hs) (hm : m = w.heap.size) (hk : k ≤ 60) (hl : hs.length ≤ 100) (s : Sl) (hb : Bytes w w.heap.size s.A s.n s.l) (h1 : s.n ≤ 1000) (h2 : s.n ≤ s.c) (h3 : s.c ≤ maxLen) :
    Calls Tryz.prog 15 #[.pointer (some ⟨q, 0, none⟩), s.val] wr fun x w' =>
      (x = .returned (.int .i64 0) ∧ Mid m w w' p g b q cap k A n hs (hs ++ [s.l]) hs) ∨ (x = .returned (.int .i64 3) ∧ Mid m w w' p g b q cap k A n hs hs (hs ++ [s.l])) ∨
      (∃ f : Int, (f = 1 ∨ f = 2) ∧ x = .returned (.int .i64 f) ∧ Mid m w w' p g b q cap k A n hs hs hs) := by
  obtain ⟨d, gen, T, hS, hK, hR, hoff, hgen, hdn, ho⟩ := h
  have hfar : 0 < s.n → ∀ k ∈ blkOf s.A, k ∉ T := fun hn k hk hm' => by
    have := bytes_lt hb hn k hk
    have := hS.above k hm'
    omega
  have hbr : Bytes wr wr.heap.size s.A s.n s.l := (hb.only ho (by simp)).more ho.size
  refine (hS.append (by rw [hR.n_]; omega) s.A s.n s.c s.l hbr (by omega) h2 h3 hfar (by show hs.length ≤ 100000; omega) (by omega)).mono ?_
  rintro x w' ⟨rfl, T', hS', hT1, hT2⟩
  have hK' := hK.only hT1 hT2
  have hO' := turn_only hS (by omega) ho hT1
  have hd' : (appendJ d ⟨halfN 40 gen, hs, false⟩ s.l).1.done ≤ 4 + 300000 * ((k : Int) + 1) := by
    have e1 := app_done d ⟨halfN 40 gen, hs, false⟩ s.l
    have e2 := takesB_1 (b := s.l) (by rw [hb.len]; omega)
    omega
  have up : ∀ {l r : List (List UInt8)}, After (appendJ d ⟨halfN 40 gen, hs, false⟩ s.l).1 (appendJ d ⟨halfN 40 gen, hs, false⟩ s.l).2.1 40 gen l r → After (appendJ d ⟨halfN 40 gen, hs, false⟩ s.l).1 (appendJ d ⟨halfN 40 gen, hs, false⟩ s.l).2.1 40 ((k : Int) + 2) l r := fun hA => hA.up (by omega)
  rcases after_append (b := s.l) hR (by decide) (by decide) with ⟨e, hA⟩ | ⟨e, hA⟩ | ⟨e, hA⟩
  · exact .inl ⟨by rw [e], _, _, T', hS', hK', up hA, hd', hO'⟩
  · exact .inr (.inl ⟨by rw [e], _, _, T', hS', hK', up hA, hd', hO'⟩)
  · exact .inr (.inr ⟨_, e, rfl, _, _, T', hS', hK', up hA, hd', hO'⟩)
theorem LoopS.reset (h : LoopS m w wr p g b q cap k A n hs) (hm : m = w.heap.size) (hk : k ≤ 60) (LA : Option Addr) (Lc : Nat) (ss : List Sl) (hr : Reads w w.heap.size 1 LA ss.length (ss.map Sl.val))
    (he : ∀ s ∈ ss, Bytes w w.heap.size s.A s.n s.l ∧ s.n ≤ s.c ∧ s.c ≤ maxLen) (h10 : ss.length ≤ 10) (h1 : ∀ s ∈ ss, s.n ≤ 1000) :
    Calls Tryz.prog 17 #[.pointer (some ⟨q, 0, none⟩), .slice LA ss.length Lc] wr fun x w' =>
      (x = .returned (.int .i64 0) ∧ Mid m w w' p g b q cap k A n hs (ss.map (·.l)) hs) ∨ (x = .returned (.int .i64 3) ∧ Mid m w w' p g b q cap k A n hs hs (ss.map (·.l))) ∨
      (∃ f : Int, (f = 1 ∨ f = 2) ∧ x = .returned (.int .i64 f) ∧ Mid m w w' p g b q cap k A n hs hs hs) := by
  obtain ⟨d, gen, T, hS, hK, hR, hoff, hgen, hdn, ho⟩ := h
  have hg1 := hR.stands.g
  have hfar : 0 < ss.length → ∀ k ∈ blkOf LA, k ∉ T := fun hn k hk hm' => by
    have := reads_lt hr hn k hk
    have := hS.above k hm'
    omega
  have hrr : Reads wr wr.heap.size 1 LA ss.length (ss.map Sl.val) := (hr.only ho (by simp)).more ho.size
  have hh : Held wr T ss := fun s hs => by
    obtain ⟨a1, a2, a3⟩ := he s hs
    have a4 := h1 s hs
    exact ⟨(a1.only ho (by simp)).more ho.size, a2, a3, by omega, fun hn k hk hm' => by
      have := bytes_lt a1 hn k hk
      have := hS.above k hm'
      omega⟩
  have hsm : (halfD d (gen + 1)).small := by
    rw [halfD_eq, hR.n_]
    unfold Half.small halfN
    simp only
    omega
  refine (hS.reset (by rw [hR.n_]; omega) LA ss.length Lc ss rfl hrr hh (fun s hs => by have := h1 s hs; omega) (by omega) hfar (by omega) (by rw [roomD, hR.n_]; rfl) (by show 0 ≤ gen ∧ gen ≤ 4611686018427380000; omega) hsm).mono ?_
  rintro x w' ⟨rfl, T', hS', hT1, hT2⟩
  have hK' := hK.only hT1 hT2
  have hO' := turn_only hS (by omega) ho hT1
  have hd' : (resetJ d ⟨halfN 40 gen, hs, false⟩ (ss.map (·.l))).1.done ≤ 4 + 300000 * ((k : Int) + 1) := by
    have e1 := res_done d ⟨halfN 40 gen, hs, false⟩ (ss.map (·.l))
    have e2 := takesL_10 (l := ss.map (·.l)) (fun b hb => by
      obtain ⟨s, hs, rfl⟩ := List.mem_map.1 hb
      have := h1 s hs
      rw [(he s hs).1.len]
      omega) (by rw [List.length_map]; exact h10)
    omega
  have up : ∀ {l r : List (List UInt8)}, After (resetJ d ⟨halfN 40 gen, hs, false⟩ (ss.map (·.l))).1 (resetJ d ⟨halfN 40 gen, hs, false⟩ (ss.map (·.l))).2.1 40 (gen + 1) l r → After (resetJ d ⟨halfN 40 gen, hs, false⟩ (ss.map (·.l))).1 (resetJ d ⟨halfN 40 gen, hs, false⟩ (ss.map (·.l))).2.1 40 ((k : Int) + 2) l r := fun hA => hA.up (by omega)
  rcases after_reset (m := ss.map (·.l)) hR (by decide) (by decide) (by omega) with ⟨e, hA⟩ | ⟨e, hA⟩ | ⟨e, hA⟩
  · exact .inl ⟨by rw [e], _, _, T', hS', hK', up hA, hd', hO'⟩
  · exact .inr (.inl ⟨by rw [e], _, _, T', hS', hK', up hA, hd', hO'⟩)
  · exact .inr (.inr ⟨_, e, rfl, _, _, T', hS', hK', up hA, hd', hO'⟩)
theorem LoopS.stop (h : LoopS m w wr p g b q cap k A n hs) (hm : m = w.heap.size) (a : Int) (ha : a ≤ 9223372036854775807) :
    Calls Tryz.prog 18 #[.pointer (some ⟨p, 0, none⟩), .int .i64 a] wr fun x w' => x = .returned (.tuple #[]) ∧ Mid m w w' p g b q cap k A n hs hs hs := by
  obtain ⟨d, gen, T, hS, hK, hR, hoff, hgen, hdn, ho⟩ := h
  refine (hS.stop a ha).mono ?_
  rintro x w' ⟨rfl, hS', hT1, hT2⟩
  refine ⟨rfl, _, _, T, hS', hK.only hT1 hT2, .inl ⟨gen, by omega, hR.stop a, rfl⟩, ?_, turn_only hS (by omega) ho hT1⟩
  have : (stopD d a).done = d.done := by unfold stopD; split <;> rfl
  omega
theorem LoopS.mid (h : LoopS m w wr p g b q cap k A n hs) : Mid m w wr p g b q cap k A n hs hs hs := by
  obtain ⟨d, gen, T, hS, hK, hR, hoff, hgen, hdn, ho⟩ := h
  exact ⟨d, _, T, hS, hK, .inl ⟨gen, by omega, hR, rfl⟩, by omega, ho⟩
end
end Go.Proofs.YthgfmoogagldmaaGreat.Journal
