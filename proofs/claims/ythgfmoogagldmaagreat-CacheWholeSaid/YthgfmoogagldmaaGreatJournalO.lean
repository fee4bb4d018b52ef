/- JournalO: A half's head is written, and synced; Groups are laid from a half's beginning on. -/
import Derived.Test.YthgfmoogagldmaaGreatJournalB
import Derived.Test.YthgfmoogagldmaaGreatJournalL
set_option linter.unusedVariables false
set_option maxRecDepth 100000
namespace Go.Proofs.YthgfmoogagldmaaGreat.Journal
open Go.RowKit Disk Go.Proofs.YthgfmoogagldmaaGreat.Frame
def errW (d : DS) (i : Int) (l : List UInt8) : Int := if d.off = true ∨ d.left = 0 then 3 else if 0 ≤ i ∧ i < d.n ∧ l.length = 64 then 0 else 1
def errS (d : DS) : Int := if d.off = true ∨ d.left = 0 then 3 else 0
theorem errW_is (d : DS) (i : Int) (l : List UInt8) : (errW d i l = 0 ∧ (wrD d i l).2 = true) ∨ (errW d i l = 1 ∧ (wrD d i l).2 = false) ∨ (errW d i l = 3 ∧ (wrD d i l).2 = false) := by
  unfold errW wrD
  split
  · exact .inr (.inr ⟨rfl, rfl⟩)
  · split
    · exact .inl ⟨rfl, rfl⟩
    · exact .inr (.inl ⟨rfl, rfl⟩)
theorem errS_is (d : DS) : (errS d = 0 ∧ (synD d).2 = true) ∨ (errS d = 3 ∧ (synD d).2 = false) := by
  unfold errS synD
  split
  · exact .inr ⟨rfl, rfl⟩
  · exact .inl ⟨rfl, rfl⟩
section
variable {w w' : World} {p g b cap : Nat} {W : List Nat} {d : DS}
theorem write_e (h : IsD w p g b W cap d) (i : Int) {A : Option Addr} {n c B : Nat} {l : List UInt8} (hr : Bytes w B A n l) (hB : B ≤ w.heap.size) (hd : d.done ≤ 4611686018427387904) (hn : n ≤ 1000000000) :
    Calls Tryz.prog 106 #[.pointer (some ⟨p, 0, none⟩), .int .i64 i, .slice A n c] w fun x w' => x = .returned (.int .i64 (errW d i l)) ∧ Did w p g b W cap (wrD d i l).1 w' :=
  (write_any h i hr hB hd hn).mono fun x w' hx => by
    unfold WriteO at hx
    unfold errW wrD
    split at hx
    · rename_i ho
      rw [if_pos ho, if_pos ho]
      exact hx
    · rename_i ho
      rw [if_neg ho, if_neg ho]
      split at hx
      · rename_i hi
        rw [if_pos hi, if_pos hi]
        exact hx
      · rename_i hi
        rw [if_neg hi, if_neg hi]
        exact hx
theorem sync_e (h : IsD w p g b W cap d) (hd : d.done ≤ 4611686018427387904) : Calls Tryz.prog 59 #[.pointer (some ⟨p, 0, none⟩)] w fun x w' => x = .returned (.int .i64 (errS d)) ∧ Did w p g b W cap (synD d).1 w' :=
  (sync_any h hd).mono fun x w' hx => by
    unfold SyncO at hx
    unfold errS synD
    split at hx
    · rename_i ho
      rw [if_pos ho, if_pos ho]
      exact hx
    · rename_i ho
      rw [if_neg ho, if_neg ho]
      exact hx
theorem write_0 (h : IsD w p g b W cap d) (i : Int) {A : Option Addr} {n c B : Nat} {l : List UInt8} {e : Int} {D : DS} (he : errW d i l = e) (hD : (wrD d i l).1 = D) (hr : Bytes w B A n l) (hB : B ≤ w.heap.size) (hd : d.done ≤ 4611686018427387904) (hn : n ≤ 1000000000) :
    Calls Tryz.prog 106 #[.pointer (some ⟨p, 0, none⟩), .int .i64 i, .slice A n c] w fun x w' => x = .returned (.int .i64 e) ∧ Did w p g b W cap D w' := by
  rw [← he, ← hD]
  exact write_e h i hr hB hd hn
theorem sync_0 (h : IsD w p g b W cap d) {e : Int} {D : DS} (he : errS d = e) (hD : (synD d).1 = D) (hd : d.done ≤ 4611686018427387904) : Calls Tryz.prog 59 #[.pointer (some ⟨p, 0, none⟩)] w fun x w' => x = .returned (.int .i64 e) ∧ Did w p g b W cap D w' := by
  rw [← he, ← hD]
  exact sync_e h hd
set_option maxHeartbeats 2000000 in
theorem lead_any (hd : IsD w p g b W cap d) (h : Half) (hs : h.small) (hdn : d.done ≤ 4611686018427380000) :
    Calls Tryz.prog 60 #[h.val p] w fun x w' => BoolJ w p g b W cap (leadH d h) x w' := by
  obtain ⟨w1, hw1⟩ : ∃ w1, w.alloc (.cells #[.pointer (some ⟨p, 0, none⟩), .int .i64 h.gen, .int .i64 h.fr, .int .i64 h.room] 63) = w1 := ⟨_, rfl⟩
  have ho : Only [] w w1 := by rw [← hw1]; exact (Only.refl [] w).alloc _
  have hbk : Blk w1 w.heap.size 63 #[.pointer (some ⟨p, 0, none⟩), .int .i64 h.gen, .int .i64 h.fr, .int .i64 h.room] := by rw [← hw1]; exact Blk.new w _ _
  have hwp : w.heap.size ∉ [p, g, b] := by
    have h2 := hd.blk.lt
    obtain ⟨C, c1, _⟩ := hd.safe
    have h3 := c1.lt
    have h4 := isD_map_lt hd
    simp; omega
  have h1 := i64_and1 h.gen
  have hle := putB_len ⟨1, h.gen, 0, 0⟩
  have HP := Lib.hid (Frame.put_any ⟨1, h.gen, 0, 0⟩ w1.drew)
  unfold leadH
  obtain ⟨L, hL⟩ : ∃ L, putB ⟨1, h.gen, 0, 0⟩ = L := ⟨_, rfl⟩
  rw [hL] at hle HP ⊢
  obtain ⟨i, hi⟩ : ∃ i, h.gen % 2 = i := ⟨_, rfl⟩
  rw [hi] at h1 ⊢
  have hdone := wr_done d i L
  have hcase := errW_is d i L
  obtain ⟨e, he⟩ : ∃ e, errW d i L = e := ⟨_, rfl⟩
  obtain ⟨D1, hD1⟩ : ∃ D1, (wrD d i L).1 = D1 := ⟨_, rfl⟩
  have hcs := errS_is D1
  obtain ⟨e2, he2⟩ : ∃ e, errS D1 = e := ⟨_, rfl⟩
  obtain ⟨D2, hD2⟩ : ∃ D2, (synD D1).1 = D2 := ⟨_, rfl⟩
  rw [he] at hcase
  rw [hD1] at hdone ⊢
  have HW := Lib.hid (fun (wx wy : World) (h : Only [] w1.drew wx) (A : Option Addr) (n c : Nat) (hb : Bytes wx wx.heap.size A n L) (hn : n = L.length) => (write_0 ((hd.only0 ho.drew).only0 h) i (c := c) he hD1 hb (Nat.le_refl _) (by omega) (by omega)))
  have HS := Lib.hid (fun (wx wy : World) (h : Only [] w1.drew wx) (hh : Did wx p g b W cap D1 wy) => (show ∃ W', Newer wx W W' ∧ Only [p, g, b] wx wy ∧ Calls Tryz.prog 59 #[.pointer (some ⟨p, 0, none⟩)] wy fun x w' => x = .returned (.int .i64 e2) ∧ Did wy p g b W' cap D2 w' from by
    obtain ⟨W', k1, k2, k3⟩ := hh
    exact ⟨W', k2, k3, sync_0 k1 he2 hD2 (by omega)⟩))
  have HB := Lib.hid (fun (wx : World) (h : Only [] w1.drew wx) => (hbk.drew.only h (by simp)))
  have HB3 := Lib.hid (fun (wx wy : World) (h : Only [] w1.drew wx) (k : Only [p, g, b] wx wy) => ((hbk.drew.only h (by simp)).only k hwp))
  have HO := Lib.hid ho.drew
  have y0 := hbk.drew.cell 0
  have y1 := hbk.drew.cell 1
  have HC := Lib.hid hcase
  have HCS := Lib.hid hcs
  have HD2 := Lib.hid hD2
  have HE2 := Lib.hid he2
  clear hd ho hbk hs hwp hL hi hdone he hD1 hcase hcs he2 hD2
  obtain ⟨gen, fr, room⟩ := h
  unfold Half.val
  simp only at hw1 y0 y1 h1 HB HB3 HP hle ⊢
  have hke := HC.out
  rcases hke with ⟨rfl, hk⟩ | ⟨rfl, hk⟩ | ⟨rfl, hk⟩
  · rw [if_pos hk]
    clear HC
    have hks := HCS.out
    rw [HE2.out] at hks
    rw [show synD D1 = (D2, (synD D1).2) from by rw [← HD2.out]]
    rcases hks with ⟨rfl, hk2⟩ | ⟨rfl, hk2⟩
    all_goals
      rw [hk2]
      clear hk hk2 HCS HE2
      go_enter Tryz.func60, Tryz.ntmps60
      go_wp2_with fail
      go_region_held3 (fun w' => w'.cell? ⟨w.heap.size, 0, none⟩ = some (.pointer (some ⟨p, 0, none⟩)) ∧ w'.cell? ⟨w.heap.size, 1, none⟩ = some (.int .i64 gen)) (first | go_keep | (refine ⟨?_, ?_⟩ <;> assumption)) ((first
        | (go_at_call 67; refine HP.out.mono ?_; rintro x w2 ⟨v, rfl, hown, ho2⟩; obtain ⟨A, vc, rfl, hvc, hvm, hrd, _⟩ := hown.shape; have hb2 := HB.out w2 ho2; have x0 := hb2.cell 0; have x1 := hb2.cell 1; have HO2 := Lib.hid ho2; have HW2 := Lib.hid (HW.out w2 w2 ho2 A _ vc hrd rfl); clear hown ho2 hrd hb2)
        | (go_at_call 106; refine HW2.out.mono ?_; rintro x w3 ⟨rfl, hdid⟩; obtain ⟨W', hn3, ho3, hsy⟩ := HS.out w2 w3 HO2.out hdid; have hb3 := HB3.out w2 w3 HO2.out ho3; have z0 := hb3.cell 0; have z1 := hb3.cell 1; have HSY := Lib.hid hsy; have HN3 := Lib.hid hn3; have HO3 := Lib.hid ho3; clear hdid hn3 ho3 hsy hb3)
        | (go_at_call 59; refine HSY.out.mono ?_; rintro x w4 ⟨rfl, hdid⟩; have HD4 := Lib.hid (Did.trans HN3.out HO3.out hdid); obtain ⟨W4, _, _, ho4⟩ := HD4.out; have hb4 := HB3.out w2 w4 HO2.out ho4; have u0 := hb4.cell 0; have u1 := hb4.cell 1; clear hdid ho4 hb4)))
      all_goals
        go_wp2_with fail
        go_ret
        exact ⟨rfl, did_after (HO.out.trans HO2.out (by simp)) HD4.out⟩
  all_goals
    rw [if_neg (by rw [hk]; decide)]
    clear HC hk HCS HE2 HS
    go_enter Tryz.func60, Tryz.ntmps60
    go_wp2_with fail
    first
      | (go_region_law (first
        | (go_simp; go_at_call 67; refine HP.out.mono ?_; rintro x w2 ⟨v, rfl, hown, ho2⟩; obtain ⟨A, vc, rfl, hvc, hvm, hrd, _⟩ := hown.shape; have hb2 := HB.out w2 ho2; have x0 := hb2.cell 0; have x1 := hb2.cell 1; have HO2 := Lib.hid ho2; have HW2 := Lib.hid (HW.out w2 w2 ho2 A _ vc hrd rfl); clear hown ho2 hrd hb2)
        | (go_simp; go_at_call 106; refine HW2.out.mono ?_; rintro x w3 ⟨rfl, hdid⟩)))
      | fail
    all_goals
      go_wp2_with fail
      go_ret
      exact ⟨rfl, did_after (HO.out.trans HO2.out (by simp)) hdid⟩
end
end Go.Proofs.YthgfmoogagldmaaGreat.Journal
namespace Go.Proofs.YthgfmoogagldmaaGreat.Journal
open Go.RowKit Disk Go.Proofs.YthgfmoogagldmaaGreat.Frame
def layR (d : DS) (h : Half) (a i : Int) (b : List UInt8) : DS × Bool := andThen (wrD d (h.fr + a) (putB (markH h i b))) (fun x => packH x h a b)
theorem layG_cons (d : DS) (h : Half) (a i : Int) (b : List UInt8) (bs : List (List UInt8)) : layG d h a i (b :: bs) = if (layR d h a i b).2 = true then layG (layR d h a i b).1 h (a + takesB b) (i + 1) bs else ((layR d h a i b).1, false, a) := rfl
theorem layG_snoc : ∀ (xs : List (List UInt8)) (y : List UInt8) (d : DS) (h : Half) (a i : Int), layG d h a i (xs ++ [y]) = if (layG d h a i xs).2.1 = true then layG (layG d h a i xs).1 h (layG d h a i xs).2.2 (i + xs.length) [y] else layG d h a i xs
  | [], y, d, h, a, i => by
    show layG d h a i [y] = if true = true then layG d h a (i + ((0 : Nat) : Int)) [y] else _
    rw [if_pos rfl, show i + ((0 : Nat) : Int) = i by omega]
  | x :: xs, y, d, h, a, i => by
    rw [List.cons_append, layG_cons, layG_cons]
    by_cases e : (layR d h a i x).2 = true
    · rw [if_pos e, if_pos e, layG_snoc xs y, List.length_cons, show i + ((xs.length + 1 : Nat) : Int) = i + 1 + (xs.length : Int) by omega]
    · rw [if_neg e, if_neg e]
      exact (if_neg (by simp)).symm
theorem layG_stop : ∀ (xs ys : List (List UInt8)) (d : DS) (h : Half) (a i : Int), (layG d h a i xs).2.1 = false → layG d h a i (xs ++ ys) = layG d h a i xs
  | [], ys, d, h, a, i, e => by cases e
  | x :: xs, ys, d, h, a, i, e => by
    rw [layG_cons] at e
    rw [List.cons_append, layG_cons, layG_cons]
    by_cases k : (layR d h a i x).2 = true
    · rw [if_pos k] at e
      rw [if_pos k, if_pos k]
      exact layG_stop xs ys _ h _ _ e
    · rw [if_neg k, if_neg k]
theorem layG_one (d : DS) (h : Half) (a i : Int) (y : List UInt8) : layG d h a i [y] = if (layR d h a i y).2 = true then ((layR d h a i y).1, true, a + takesB y) else ((layR d h a i y).1, false, a) := rfl
theorem layG_at : ∀ (xs : List (List UInt8)) (d : DS) (h : Half) (a i : Int), (layG d h a i xs).2.1 = true → (layG d h a i xs).2.2 = a + takesL xs
  | [], d, h, a, i, _ => by show a = a + takesL []; unfold takesL; simp
  | x :: xs, d, h, a, i, e => by
    rw [layG_cons] at e ⊢
    by_cases k : (layR d h a i x).2 = true
    · rw [if_pos k] at e ⊢
      rw [layG_at xs _ h _ _ e, takesL_cons]
      omega
    · rw [if_neg k] at e; cases e
theorem layR_done (d : DS) (h : Half) (a i : Int) (b : List UInt8) : (layR d h a i b).1.done ≤ d.done + takesB b ∧ d.done ≤ (layR d h a i b).1.done := by
  have h1 := wr_done d (h.fr + a) (putB (markH h i b))
  have h2 := puts_done (packsB b) (wrD d (h.fr + a) (putB (markH h i b))).1 (h.fr + a + 1)
  have hz : ((packsB b).length : Int) = needZ b.length := by
    rw [packsB_len']
    have : 0 ≤ needZ b.length := by unfold needZ; split <;> omega
    omega
  have hn : 0 ≤ needZ b.length := by unfold needZ; split <;> omega
  unfold layR andThen takesB packH
  split
  · dsimp only
    omega
  · show (wrD d (h.fr + a) (putB (markH h i b))).1.done ≤ _ ∧ _ ≤ (wrD d (h.fr + a) (putB (markH h i b))).1.done
    omega
theorem layG_done : ∀ (xs : List (List UInt8)) (d : DS) (h : Half) (a i : Int), (layG d h a i xs).1.done ≤ d.done + takesL xs ∧ d.done ≤ (layG d h a i xs).1.done
  | [], d, h, a, i => by show d.done ≤ d.done + takesL [] ∧ d.done ≤ d.done; unfold takesL; simp
  | x :: xs, d, h, a, i => by
    have h1 := layR_done d h a i x
    have h2 := layG_done xs (layR d h a i x).1 h (a + takesB x) (i + 1)
    have h3 : 0 ≤ takesL xs := takesL_nn xs
    rw [layG_cons, takesL_cons]
    split
    · omega
    · show (layR d h a i x).1.done ≤ _ ∧ _ ≤ (layR d h a i x).1.done
      omega
theorem takesL_take_le (l : List (List UInt8)) (k : Nat) : takesL (l.take k) ≤ takesL l := by
  have h := takesL_append (l.take k) (l.drop k)
  rw [List.take_append_drop] at h
  have := takesL_nn (l.drop k)
  omega
theorem wrD_n (d : DS) (i : Int) (l : List UInt8) : (wrD d i l).1.n = d.n := by
  unfold wrD
  split
  · rfl
  · split <;> rfl
theorem putsD_n : ∀ (xs : List (List UInt8)) (d : DS) (i : Int), (putsD d i xs).1.n = d.n
  | [], d, i => rfl
  | x :: xs, d, i => by
    unfold putsD
    split
    · rw [putsD_n xs, wrD_n]
    · exact wrD_n _ _ _
theorem layR_n (d : DS) (h : Half) (a i : Int) (b : List UInt8) : (layR d h a i b).1.n = d.n := by
  unfold layR andThen packH
  split
  · rw [putsD_n, wrD_n]
  · exact wrD_n _ _ _
theorem layG_n : ∀ (xs : List (List UInt8)) (d : DS) (h : Half) (a i : Int), (layG d h a i xs).1.n = d.n
  | [], d, h, a, i => rfl
  | x :: xs, d, h, a, i => by
    rw [layG_cons]
    split
    · rw [layG_n xs, layR_n]
    · exact layR_n _ _ _ _ _
theorem lay_step {d : DS} {h : Half} {P : List (List UInt8)} {k : Nat} {b : List UInt8} (hk : P[k]? = some b) (hok : (layG d h 0 0 (P.take k)).2.1 = true) :
    ((layR (layG d h 0 0 (P.take k)).1 h (takesL (P.take k)) k b).2 = true → layG d h 0 0 (P.take (k + 1)) = ((layR (layG d h 0 0 (P.take k)).1 h (takesL (P.take k)) k b).1, true, takesL (P.take k) + takesB b)) ∧
    ((layR (layG d h 0 0 (P.take k)).1 h (takesL (P.take k)) k b).2 = false → (layG d h 0 0 P).1 = (layR (layG d h 0 0 (P.take k)).1 h (takesL (P.take k)) k b).1 ∧ (layG d h 0 0 P).2.1 = false) := by
  obtain ⟨hlt, rfl⟩ := List.getElem?_eq_some_iff.1 hk
  have h1 : P.take (k + 1) = P.take k ++ [P[k]] := List.take_succ_eq_append_getElem hlt
  have ha := layG_at _ _ _ _ _ hok
  rw [Int.zero_add] at ha
  have h2 : layG d h 0 0 (P.take (k + 1)) = layG (layG d h 0 0 (P.take k)).1 h (takesL (P.take k)) k [P[k]] := by
    rw [h1, layG_snoc, if_pos hok, ha, List.length_take, Nat.min_eq_left (Nat.le_of_lt hlt), Int.zero_add]
  rw [layG_one] at h2
  constructor
  · intro e
    rw [h2, if_pos e]
  · intro e
    rw [if_neg (by rw [e]; decide)] at h2
    have h3 := layG_stop (P.take (k + 1)) (P.drop (k + 1)) d h 0 0 (by rw [h2])
    rw [List.take_append_drop] at h3
    rw [h3, h2]
    exact ⟨rfl, rfl⟩
theorem packH_done (d : DS) (h : Half) (a : Int) (b : List UInt8) : (packH d h a b).1.done ≤ d.done + takesB b ∧ d.done ≤ (packH d h a b).1.done := by
  have h2 := puts_done (packsB b) d (h.fr + a + 1)
  have hz : ((packsB b).length : Int) = needZ b.length := by
    rw [packsB_len']
    have : 0 ≤ needZ b.length := by unfold needZ; split <;> omega
    omega
  unfold packH takesB
  omega
theorem zero_done (d : DS) (h : Half) (a : Int) : (zeroH d h a).1.done ≤ d.done + 1 ∧ d.done ≤ (zeroH d h a).1.done := by
  unfold zeroH
  split
  · show d.done ≤ d.done + 1 ∧ d.done ≤ d.done
    omega
  · exact wr_done _ _ _
theorem layH_no {d : DS} {h : Half} {l : List (List UInt8)} (e : (layG d h 0 0 l).2.1 = false) : layH d h l = ((layG d h 0 0 l).1, false) := by
  unfold layH
  simp only
  rw [if_neg (by rw [e]; decide)]
theorem layH_ok {d : DS} {h : Half} {l : List (List UInt8)} (e : (layG d h 0 0 l).2.1 = true) : layH d h l = andThen (zeroH (layG d h 0 0 l).1 h (layG d h 0 0 l).2.2) synD := by
  unfold layH
  simp only
  rw [if_pos e]
section
variable {w w' : World} {p g b cap : Nat} {W : List Nat} {d : DS}
set_option maxHeartbeats 2000000 in
theorem lay_any (hd : IsD w p g b W cap d) (hn2 : 2 ≤ d.n) (h : Half) (hs : h.small) (A : Option Addr) (n c B : Nat) (ss : List Sl) (hl : ss.length = n) (hr : Reads w B 1 A n (ss.map Sl.val)) (hfA : 0 < n → ∀ k ∈ blkOf A, k ∉ [p, g, b])
    (hh : Held w [p, g, b] ss) (hn : n ≤ 100000) (h2 : ∀ s ∈ ss, s.n ≤ 2000) (ht : takesL (ss.map (·.l)) ≤ h.room) (hdn : d.done ≤ 4611686018427000000) :
    Calls Tryz.prog 70 #[h.val p, .slice A n c] w fun x w' => BoolJ w p g b W cap (layH d h (ss.map (·.l))) x w' := by
  obtain ⟨w1, hw1⟩ : ∃ w1, w.alloc (.cells #[.pointer (some ⟨p, 0, none⟩), .int .i64 h.gen, .int .i64 h.fr, .int .i64 h.room] 63) = w1 := ⟨_, rfl⟩
  have ho : Only [] w w1 := by rw [← hw1]; exact (Only.refl [] w).alloc _
  have hbk : Blk w1 w.heap.size 63 #[.pointer (some ⟨p, 0, none⟩), .int .i64 h.gen, .int .i64 h.fr, .int .i64 h.room] := by rw [← hw1]; exact Blk.new w _ _
  have hwp : w.heap.size ∉ [p, g, b] := by
    have h2 := hd.blk.lt
    obtain ⟨C, c1, _⟩ := hd.safe
    have h3 := c1.lt
    have h4 := isD_map_lt hd
    simp; omega
  have HD := Lib.hid (hd.only0 ho)
  have HO := Lib.hid ho
  have HBK := Lib.hid hbk
  have HS := Lib.hid hs
  have HR := Lib.hid (hr.only ho (by simp))
  have HH := Lib.hid (hh.only ho (by simp) (fun k hk => .inl hk))
  have HFA := Lib.hid hfA
  have HWP := Lib.hid hwp
  have HT := Lib.hid ht
  have H2 := Lib.hid h2
  have HL := Lib.hid (show (ss.map (·.l)).length = n by rw [List.length_map, hl])
  have HLS := Lib.hid (show ∀ (k : Nat) (s : Sl), ss[k]? = some s → (ss.map (·.l))[k]? = some s.l from fun k s hs => by rw [List.getElem?_map, hs]; rfl)
  obtain ⟨ls, hls⟩ : ∃ ls, ss.map (·.l) = ls := ⟨_, rfl⟩
  rw [hls] at HT HL HLS ⊢
  clear hd hr hfA hh ho hbk hs hwp ht h2 hl hls
  obtain ⟨gen, fr, room⟩ := h
  unfold Half.val
  simp only at hw1 ⊢
  go_enter Tryz.func70, Tryz.ntmps70
  go_wp2_with fail
  go_loopw [5, 10] (fun t i wr => ∃ k : Nat, k ≤ n ∧ i = .int .i64 k ∧ t = .int .i64 (takesL (ls.take k)) ∧ (layG d ⟨gen, fr, room⟩ 0 0 (ls.take k)).2.1 = true ∧ Did w1 p g b W cap (layG d ⟨gen, fr, room⟩ 0 0 (ls.take k)).1 wr) (fun _ i _ => n - (intOf i).toNat)
  case atStart => exact ⟨0, by omega, rfl, rfl, rfl, did_of (Only.refl [] w1) HD.out⟩
  case round =>
    obtain ⟨k, hk, rfl, rfl, hok, hdid⟩ := hrel
    obtain ⟨W', hd', hnew, ho3⟩ := hdid
    have hdone := layG_done (ls.take k) d ⟨gen, fr, room⟩ 0 0
    have hsm := HS.out
    obtain ⟨_, ⟨fr0, fr1⟩, room0, room1⟩ := hsm
    simp only at fr0 fr1 room0 room1
    have htt := HT.out
    by_cases hlt : k < n
    · have e1 : decide ((k : Int) < (n : Int)) = true := decide_eq_true (by omega)
      have e1' : decide (k < n) = true := decide_eq_true hlt
      obtain ⟨bb, off, hA, hbb, s, hs, hsk, hc⟩ := Reads.sl (HR.out.only ho3 (HFA.out (by omega))) k hlt
      subst hA
      have hat := HLS.out k s hsk
      have hft := foldl_take hat
      have hst := lay_step hat hok
      have htn := takesL_nn (ls.take k)
      have hle := takesL_take_le ls (k + 1)
      rw [hft] at hle
      have htp := takesB_pos s.l
      obtain ⟨D, hD⟩ : ∃ D, (layG d ⟨gen, fr, room⟩ 0 0 (ls.take k)).1 = D := ⟨_, rfl⟩
      rw [hD] at hd' hst hdone
      obtain ⟨t0, ht0⟩ : ∃ t, takesL (ls.take k) = t := ⟨_, rfl⟩
      rw [ht0] at hft hst htn hle hdone ⊢
      obtain ⟨s1, s2, s3, s4, s5⟩ := HH.out.only ho3 (fun k hk => .inl hk) (fun k hk => .inl hk) s hs
      have hsn := H2.out s hs
      have hsl := s1.len
      have htb : takesB s.l = 1 + needZ (s.n : Int) := by unfold takesB; rw [hsl]
      have HTK := Lib.hid (fun w => takes_any s.A s.n s.c w (by omega))
      obtain ⟨z, hz⟩ : ∃ z, 1 + needZ (s.n : Int) = z := ⟨_, rfl⟩
      rw [hz] at htb HTK
      rw [htb] at hft htp hle
      have hb3 := HBK.out.only ho3 HWP.out
      have y0 := hb3.cell 0
      have y1 := hb3.cell 1
      have y2 := hb3.cell 2
      have y3 := hb3.cell 3
      -- the mark
      have HMK := Lib.hid (mark_any wr.drew p ⟨gen, fr, room⟩ k s.A s.n s.c wr.heap.size s.l s1 s4)
      obtain ⟨M, hM⟩ : ∃ M, markH ⟨gen, fr, room⟩ k s.l = M := ⟨_, rfl⟩
      rw [hM] at HMK
      have hpl := putB_len M
      obtain ⟨⟨D1, b1⟩, hD1⟩ : ∃ r, wrD D (fr + t0) (putB M) = r := ⟨_, rfl⟩
      have hdn1 := wr_done D (fr + t0) (putB M)
      have hn1 : D1.n = D.n := by have := wrD_n D (fr + t0) (putB M); rw [hD1] at this; exact this
      have hn0 : D.n = d.n := by rw [← hD]; exact layG_n _ _ _ _ _
      rw [hD1] at hdn1
      simp only at hdn1
      have HPM := Lib.hid (fun wx => Frame.put_any M wx)
      have HPUT := Lib.hid (fun (wx : World) (ho : Only [] wr.drew wx) (A : Option Addr) (c n : Nat) (hb : Bytes wx wx.heap.size A n (putB M)) => (show Calls Tryz.prog 66 #[Half.val ⟨gen, fr, room⟩ p, .int .i64 t0, .slice A n c] wx fun x w' => BoolJ wx p g b W' cap (D1, b1) x w' from by
        have hbl := hb.len
        have := put_any ((hd'.only0 (Only.refl [] wr).drew).only0 ho) ⟨gen, fr, room⟩ HS.out t0 (by omega) (c := c) hb (Nat.le_refl _) (by omega) (by omega)
        simp only at this
        rw [hD1] at this
        exact this))
      have HNEW := Lib.hid hnew
      have HO3 := Lib.hid ho3
      unfold Half.val at HPUT HMK
      simp only at HPUT HMK
      have hdn2 := packH_done D1 ⟨gen, fr, room⟩ t0 s.l
      obtain ⟨⟨D2, b2⟩, hD2⟩ : ∃ r, packH D1 ⟨gen, fr, room⟩ t0 s.l = r := ⟨_, rfl⟩
      have hLR : layR D ⟨gen, fr, room⟩ t0 k s.l = if b1 = true then (D2, b2) else (D1, false) := by
        unfold layR
        rw [hM]
        simp only
        rw [hD1]
        show (if b1 = true then packH D1 ⟨gen, fr, room⟩ t0 s.l else _) = _
        rw [hD2]
      rw [hLR, htb] at hst
      have HST := Lib.hid hst
      have HPK := Lib.hid (fun (wx : World) (W6 : List Nat) (hd : IsD wx p g b W6 cap D1) (hb : Bytes wx wx.heap.size s.A s.n s.l) => (show Calls Tryz.prog 63 #[Half.val ⟨gen, fr, room⟩ p, .int .i64 t0, .slice s.A s.n s.c] wx fun x w' => BoolJ wx p g b W6 cap (D2, b2) x w' from by
        have := hpack_any hd (by omega) ⟨gen, fr, room⟩ HS.out t0 (by omega) s.A s.n s.c s.l hb hsn s2 s3 (by omega)
        rw [hD2] at this
        exact this))
      have HBY := Lib.hid (fun (wx : World) (ho : Only [p, g, b] wr wx) => ((s1.only_pos ho s5).more ho.size))
      have HBK6 := Lib.hid (fun (wx : World) (ho : Only [p, g, b] wr wx) => (HBK.out.only HO3.out HWP.out).only ho HWP.out)
      have HFT := Lib.hid hft
      unfold Half.val at HPK
      clear hd' hst hnew ho3 hb3 hok hD hD1 hD2 hdone hs hsk hat hdn1 hdn2 hn0 hn1 htb hM ht0 hz hft s1 s5
      cases b1 with
      | false =>
        go_wp2_with fail
        first
          | (go_region_law (first
            | (go_simp; go_at_call 68; refine HMK.out.mono ?_; rintro x w2 ⟨rfl, ho2⟩; have HO2 := Lib.hid ho2; have hb4 := (HBK.out.only HO3.out HWP.out).drew.only ho2 (by simp); have a0 := hb4.cell 0; have a1 := hb4.cell 1; have a2 := hb4.cell 2; have a3 := hb4.cell 3; clear ho2 hb4)
            | (go_simp; go_at_call 67; refine (HPM.out w2).mono ?_; rintro x w5 ⟨v, rfl, hown, ho5⟩; obtain ⟨A5, vc, rfl, hvc, hvm, hrd, _⟩ := hown.shape; have ho25 := HO2.out.trans ho5 (by simp); have HP5 := Lib.hid (HPUT.out w5 ho25 A5 vc _ hrd); have HO5 := Lib.hid ho25; have hb5 := (HBK.out.only HO3.out HWP.out).drew.only ho25 (by simp); have c0 := hb5.cell 0; have c1 := hb5.cell 1; have c2 := hb5.cell 2; have c3 := hb5.cell 3; clear hown ho5 hrd ho25 hb5)
            | (go_simp; go_at_call 66; refine HP5.out.mono ?_; rintro x w6 ⟨rfl, hdid⟩; have HDID := Lib.hid (did_after (Only.trans (Only.drew (Only.refl [] wr)) HO5.out (by simp)) hdid); obtain ⟨W6, hd6, hnew6, ho6⟩ := HDID.out; have hb6 := HBK6.out w6 ho6; have f0 := hb6.cell 0; have f1 := hb6.cell 1; have f2 := hb6.cell 2; have f3 := hb6.cell 3; have HK6 := Lib.hid (HPK.out w6 W6 hd6 (HBY.out w6 ho6)); have HN6 := Lib.hid hnew6; have HO6 := Lib.hid ho6; clear hb6 hdid hd6 hnew6 ho6)
            | (go_simp; go_at_call 63; refine HK6.out.mono ?_; rintro x w7 ⟨rfl, hdid7⟩; have HD7 := Lib.hid (Did.trans HN6.out HO6.out hdid7); obtain ⟨W7, _, _, ho7⟩ := HD7.out; have hb7 := HBK6.out w7 ho7; have g0 := hb7.cell 0; have g1 := hb7.cell 1; have g2 := hb7.cell 2; have g3 := hb7.cell 3; clear hb7 hdid7 ho7)))
          | fail
        all_goals
          go_wp2_with fail
          go_ret
          have hno := HST.out.2 rfl
          refine ⟨?_, did_after HO.out ?_⟩
          · show _ = Ending.returned (.bool (layH d ⟨gen, fr, room⟩ ls).2)
            rw [layH_no hno.2]
            rfl
          · rw [layH_no hno.2, hno.1]
            exact Did.trans HNEW.out HO3.out HDID.out
      | true =>
        cases b2 with
        | false =>
          go_wp2_with fail
          first
            | (go_region_held3 (fun w' => w'.cell? ⟨w.heap.size, 0, none⟩ = some (.pointer (some ⟨p, 0, none⟩)) ∧ w'.cell? ⟨w.heap.size, 1, none⟩ = some (.int .i64 gen) ∧ w'.cell? ⟨w.heap.size, 2, none⟩ = some (.int .i64 fr) ∧ w'.cell? ⟨w.heap.size, 3, none⟩ = some (.int .i64 room)) (first | go_keep | (refine ⟨?_, ?_, ?_, ?_⟩ <;> assumption)) ((first
            | (go_at_call 68; refine HMK.out.mono ?_; rintro x w2 ⟨rfl, ho2⟩; have HO2 := Lib.hid ho2; have hb4 := (HBK.out.only HO3.out HWP.out).drew.only ho2 (by simp); have a0 := hb4.cell 0; have a1 := hb4.cell 1; have a2 := hb4.cell 2; have a3 := hb4.cell 3; clear ho2 hb4)
            | (go_at_call 67; refine (HPM.out w2).mono ?_; rintro x w5 ⟨v, rfl, hown, ho5⟩; obtain ⟨A5, vc, rfl, hvc, hvm, hrd, _⟩ := hown.shape; have ho25 := HO2.out.trans ho5 (by simp); have HP5 := Lib.hid (HPUT.out w5 ho25 A5 vc _ hrd); have HO5 := Lib.hid ho25; have hb5 := (HBK.out.only HO3.out HWP.out).drew.only ho25 (by simp); have c0 := hb5.cell 0; have c1 := hb5.cell 1; have c2 := hb5.cell 2; have c3 := hb5.cell 3; clear hown ho5 hrd ho25 hb5)
            | (go_at_call 66; refine HP5.out.mono ?_; rintro x w6 ⟨rfl, hdid⟩; have HDID := Lib.hid (did_after (Only.trans (Only.drew (Only.refl [] wr)) HO5.out (by simp)) hdid); obtain ⟨W6, hd6, hnew6, ho6⟩ := HDID.out; have hb6 := HBK6.out w6 ho6; have f0 := hb6.cell 0; have f1 := hb6.cell 1; have f2 := hb6.cell 2; have f3 := hb6.cell 3; have HK6 := Lib.hid (HPK.out w6 W6 hd6 (HBY.out w6 ho6)); have HN6 := Lib.hid hnew6; have HO6 := Lib.hid ho6; clear hb6 hdid hd6 hnew6 ho6)
            | (go_at_call 63; refine HK6.out.mono ?_; rintro x w7 ⟨rfl, hdid7⟩; have HD7 := Lib.hid (Did.trans HN6.out HO6.out hdid7); obtain ⟨W7, _, _, ho7⟩ := HD7.out; have hb7 := HBK6.out w7 ho7; have g0 := hb7.cell 0; have g1 := hb7.cell 1; have g2 := hb7.cell 2; have g3 := hb7.cell 3; clear hb7 hdid7 ho7))))
            | fail
          all_goals
            go_wp2_with fail
            go_ret
            have hno := HST.out.2 rfl
            refine ⟨?_, did_after HO.out ?_⟩
            · show _ = Ending.returned (.bool (layH d ⟨gen, fr, room⟩ ls).2)
              rw [layH_no hno.2]
              rfl
            · rw [layH_no hno.2, hno.1]
              exact Did.trans HNEW.out HO3.out HD7.out
        | true =>
          go_wp2_with fail
          first
            | (go_region_held3 (fun w' => w'.cell? ⟨w.heap.size, 0, none⟩ = some (.pointer (some ⟨p, 0, none⟩)) ∧ w'.cell? ⟨w.heap.size, 1, none⟩ = some (.int .i64 gen) ∧ w'.cell? ⟨w.heap.size, 2, none⟩ = some (.int .i64 fr) ∧ w'.cell? ⟨w.heap.size, 3, none⟩ = some (.int .i64 room)) (first | go_keep | (refine ⟨?_, ?_, ?_, ?_⟩ <;> assumption)) ((first
            | (go_at_call 68; refine HMK.out.mono ?_; rintro x w2 ⟨rfl, ho2⟩; have HO2 := Lib.hid ho2; have hb4 := (HBK.out.only HO3.out HWP.out).drew.only ho2 (by simp); have a0 := hb4.cell 0; have a1 := hb4.cell 1; have a2 := hb4.cell 2; have a3 := hb4.cell 3; clear ho2 hb4)
            | (go_at_call 67; refine (HPM.out w2).mono ?_; rintro x w5 ⟨v, rfl, hown, ho5⟩; obtain ⟨A5, vc, rfl, hvc, hvm, hrd, _⟩ := hown.shape; have ho25 := HO2.out.trans ho5 (by simp); have HP5 := Lib.hid (HPUT.out w5 ho25 A5 vc _ hrd); have HO5 := Lib.hid ho25; have hb5 := (HBK.out.only HO3.out HWP.out).drew.only ho25 (by simp); have c0 := hb5.cell 0; have c1 := hb5.cell 1; have c2 := hb5.cell 2; have c3 := hb5.cell 3; clear hown ho5 hrd ho25 hb5)
            | (go_at_call 66; refine HP5.out.mono ?_; rintro x w6 ⟨rfl, hdid⟩; have HDID := Lib.hid (did_after (Only.trans (Only.drew (Only.refl [] wr)) HO5.out (by simp)) hdid); obtain ⟨W6, hd6, hnew6, ho6⟩ := HDID.out; have hb6 := HBK6.out w6 ho6; have f0 := hb6.cell 0; have f1 := hb6.cell 1; have f2 := hb6.cell 2; have f3 := hb6.cell 3; have HK6 := Lib.hid (HPK.out w6 W6 hd6 (HBY.out w6 ho6)); have HN6 := Lib.hid hnew6; have HO6 := Lib.hid ho6; clear hb6 hdid hd6 hnew6 ho6)
            | (go_at_call 63; refine HK6.out.mono ?_; rintro x w7 ⟨rfl, hdid7⟩; have HD7 := Lib.hid (Did.trans HN6.out HO6.out hdid7); obtain ⟨W7, _, _, ho7⟩ := HD7.out; have hb7 := HBK6.out w7 ho7; have g0 := hb7.cell 0; have g1 := hb7.cell 1; have g2 := hb7.cell 2; have g3 := hb7.cell 3; clear hb7 hdid7 ho7))))
            | fail
          all_goals
            go_wp2_with (go_at_call 64; refine (HTK.out _).mono ?_; rintro x w8 ⟨rfl, hw8⟩; subst hw8)
            go_roundw
            case measure => simp [intOf]; omega
            case rel =>
              have hyes := HST.out.1 rfl
              exact ⟨k + 1, by omega, by go_num, by rw [HFT.out], by rw [hyes], by rw [hyes]; exact Did.trans HNEW.out HO3.out HD7.out⟩
    · obtain rfl : k = n := by omega
      have e1 : decide ((k : Int) < (k : Int)) = false := decide_eq_false (by omega)
      have e1' : decide (k < k) = false := decide_eq_false (by omega)
      have hta : ls.take k = ls := List.take_of_length_le (by rw [HL.out]; exact Nat.le_refl _)
      rw [hta] at hok hd' hdone ⊢
      have hat := layG_at ls d ⟨gen, fr, room⟩ 0 0 hok
      rw [Int.zero_add] at hat
      have hlh := layH_ok hok
      rw [hat] at hlh
      have htn := takesL_nn ls
      obtain ⟨D, hD⟩ : ∃ D, (layG d ⟨gen, fr, room⟩ 0 0 ls).1 = D := ⟨_, rfl⟩
      rw [hD] at hd' hdone hlh
      obtain ⟨t0, ht0⟩ : ∃ t, takesL ls = t := ⟨_, rfl⟩
      rw [ht0] at hdone hlh htn htt ⊢
      have hzd := zero_done D ⟨gen, fr, room⟩ t0
      obtain ⟨⟨D1, b1⟩, hD1⟩ : ∃ r, zeroH D ⟨gen, fr, room⟩ t0 = r := ⟨_, rfl⟩
      have HZ := Lib.hid (zero_any hd' ⟨gen, fr, room⟩ HS.out t0 (by omega) (by omega))
      rw [hD1] at HZ hlh hzd
      simp only at hzd
      have hcs := errS_is D1
      obtain ⟨e, he⟩ : ∃ e, errS D1 = e := ⟨_, rfl⟩
      rw [he] at hcs
      have HSY := Lib.hid (fun (wx : World) (W6 : List Nat) (hd : IsD wx p g b W6 cap D1) => sync_0 hd he rfl (by omega))
      have hb3 := HBK.out.only ho3 HWP.out
      have y0 := hb3.cell 0
      have y1 := hb3.cell 1
      have y2 := hb3.cell 2
      have y3 := hb3.cell 3
      have HBK6 := Lib.hid (fun (wx : World) (ho : Only [p, g, b] wr wx) => hb3.only ho HWP.out)
      have HNEW := Lib.hid hnew
      have HO3 := Lib.hid ho3
      have HLH := Lib.hid hlh
      have HCS := Lib.hid hcs
      unfold Half.val at HZ
      simp only at HZ
      clear hd' hnew ho3 hb3 hok hat hD hdone hD1 hta ht0 hzd he hlh hcs
      cases b1 with
      | false =>
        go_wp2_with (go_at_call 58; refine HZ.out.mono ?_; rintro x w6 ⟨rfl, hdid⟩)
        go_ret
        refine ⟨?_, did_after HO.out ?_⟩
        · show _ = Ending.returned (.bool (layH d ⟨gen, fr, room⟩ ls).2)
          rw [HLH.out]
          rfl
        · rw [HLH.out]
          exact Did.trans HNEW.out HO3.out hdid
      | true =>
        have hks := HCS.out
        rcases hks with ⟨rfl, hk2⟩ | ⟨rfl, hk2⟩
        all_goals
          clear HCS
          have HK2 := Lib.hid hk2
          clear hk2
          go_wp2_with (first
            | (go_at_call 58; refine HZ.out.mono ?_; rintro x w6 ⟨rfl, hdid⟩; obtain ⟨W6, hd6, hnew6, ho6⟩ := hdid; have HSY6 := Lib.hid (HSY.out w6 W6 hd6); have HN6 := Lib.hid hnew6; have HO6 := Lib.hid ho6; have hb6 := HBK6.out w6 ho6; have f0 := hb6.cell 0; clear hd6 hnew6 ho6 hb6)
            | (go_at_call 59; refine HSY6.out.mono ?_; rintro x w7 ⟨rfl, hdid7⟩))
          go_ret
          refine ⟨?_, did_after HO.out ?_⟩
          · show _ = Ending.returned (.bool (layH d ⟨gen, fr, room⟩ ls).2)
            rw [HLH.out, andThen_ok rfl]
            simp only [HK2.out]
            rfl
          · rw [HLH.out, andThen_ok rfl]
            exact Did.trans HNEW.out HO3.out (Did.trans HN6.out HO6.out hdid7)
end
end Go.Proofs.YthgfmoogagldmaaGreat.Journal
