/- JournalG: The law's small functions: Same, either, Light; Acts in memory; Light; A journal in the law's loop: what is kept beside it. -/
import Derived.Test.YthgfmoogagldmaaGreatJournalF
import Derived.Test.YthgfmoogagldmaaGreatJournalM
set_option linter.unusedVariables false
set_option maxRecDepth 100000
namespace Go.Proofs.YthgfmoogagldmaaGreat.Journal
open Go.RowKit Go.Shelf Disk Go.Proofs.YthgfmoogagldmaaGreat.Frame
theorem take_same {α : Type} (l r : List α) (k : Nat) (a b : α) (hl : l[k]? = some a) (hr : r[k]? = some b) (h : l.take k = r.take k) (hab : a = b) : l.take (k + 1) = r.take (k + 1) := by
  obtain ⟨h1, e1⟩ := List.getElem?_eq_some_iff.1 hl
  obtain ⟨h2, e2⟩ := List.getElem?_eq_some_iff.1 hr
  rw [List.take_succ_eq_append_getElem h1, List.take_succ_eq_append_getElem h2, h, e1, e2, hab]
theorem get_differ {α : Type} (l r : List α) (k : Nat) (a b : α) (hl : l[k]? = some a) (hr : r[k]? = some b) (hab : ¬ a = b) : ¬ l = r := by
  rintro rfl
  rw [hl] at hr
  injection hr with hr
  exact hab hr
def Lst (w : World) (A : Option Addr) (n : Nat) (ls : List (List UInt8)) : Prop := ∃ ss : List Sl, ss.length = n ∧ Reads w w.heap.size 1 A n (ss.map Sl.val) ∧ ss.map (·.l) = ls ∧ ∀ s ∈ ss, Bytes w w.heap.size s.A s.n s.l
section
variable {w w' : World}
theorem Lst.only0 {A : Option Addr} {n : Nat} {ls : List (List UInt8)} (h : Lst w A n ls) (ho : Only [] w w') : Lst w' A n ls := by
  obtain ⟨ss, h1, h2, h3, h4⟩ := h
  exact ⟨ss, h1, (h2.only ho (by simp)).more ho.size, h3, fun s hs => ((h4 s hs).only ho (by simp)).more ho.size⟩
theorem Lst.len {A : Option Addr} {n : Nat} {ls : List (List UInt8)} (h : Lst w A n ls) : ls.length = n := by
  obtain ⟨ss, h1, _, h3, _⟩ := h
  rw [← h3, List.length_map, h1]
set_option maxHeartbeats 2000000 in
theorem same6_any (A1 A2 : Option Addr) (n m c1 c2 : Nat) (xs ys : List (List UInt8)) (w : World) (h1 : Lst w A1 n xs) (h2 : Lst w A2 m ys) (hn : n ≤ 100000) (hm : m ≤ 100000) :
    Calls Tryz.prog 16 #[.slice A1 n c1, .slice A2 m c2] w fun x w' => x = .returned (.bool (decide (xs = ys))) ∧ Only [] w w' := by
  obtain ⟨bb, hbb⟩ : ∃ b, decide (xs = ys) = b := ⟨_, rfl⟩
  rw [hbb]
  have HBB := Lib.hid hbb
  have HL1 := Lib.hid h1.len
  have HL2 := Lib.hid h2.len
  have H1 := Lib.hid h1
  have H2 := Lib.hid h2
  clear h1 h2 hbb
  by_cases hnm : n = m
  · subst hnm
    have e0 : ((n : Int) != (n : Int)) = false := by simp
    go_enter Tryz.func16, Tryz.ntmps16
    go_wp2_with fail
    go_loopw [5] (fun i wr => ∃ k : Nat, k ≤ n ∧ i = .int .i64 k ∧ Only [] w wr ∧ xs.take k = ys.take k) (fun i _ => n - (intOf i).toNat)
    case atStart => exact ⟨0, by omega, rfl, Only.refl _ _, by simp⟩
    case round =>
      obtain ⟨k, hk, rfl, ho, htk⟩ := hrel
      by_cases hlt : k < n
      · have d1 : decide ((k : Int) < (n : Int)) = true := decide_eq_true (by omega)
        obtain ⟨ss, hl1, hr1, hx, hk1⟩ := (H1.out.only0 ho.drew)
        obtain ⟨ts, hl2, hr2, hy, hk2⟩ := (H2.out.only0 ho.drew)
        obtain ⟨b1, o1, rfl, _, s, hs, hs2, hc1⟩ := Reads.sl hr1 k hlt
        obtain ⟨b2, o2, rfl, _, t, ht, ht2, hc2⟩ := Reads.sl hr2 k hlt
        have hs3 := run_str (hk1 s hs) s.c
        have ht3 := run_str (hk2 t ht) t.c
        have hxk : xs[k]? = some s.l := by rw [← hx, List.getElem?_map, hs2]; rfl
        have hyk : ys[k]? = some t.l := by rw [← hy, List.getElem?_map, ht2]; rfl
        have HST := Lib.hid (take_same xs ys k s.l t.l hxk hyk htk)
        have HNE := Lib.hid (get_differ xs ys k s.l t.l hxk hyk)
        have HO := Lib.hid ho
        clear ho htk hk1 hk2 hr1 hr2 hx hy hl1 hl2 hs ht hs2 ht2 hxk hyk
        by_cases hst : s.l = t.l
        · have HF := Lib.hid (HST.out hst)
          rw [← hst] at ht3
          clear hst HST HNE
          generalize str s.l = S at *
          generalize hSA : s.A = SA at *
          generalize s.n = sn at *
          generalize s.c = sc at *
          generalize t.A = TA at *
          generalize t.n = tn at *
          generalize t.c = tc at *
          go_wp2_with fail
          go_region
          all_goals (go_wp2_with fail; go_roundw)
          all_goals first
            | exact ⟨k + 1, by omega, by go_num, HO.out.drew, HF.out⟩
            | (simp [intOf]; omega)
        · have HF := Lib.hid (HNE.out hst)
          have hne : ¬ str s.l = str t.l := fun h => hst (str_inj h)
          have hne2 : ¬ (str s.l).toList = (str t.l).toList := fun h => by
            rw [Lib.toList_data, Lib.toList_data] at h
            exact hne (ByteArray.ext (Array.ext' h))
          have hne3 : ((str s.l).toList == (str t.l).toList) = false := by simpa using hne2
          clear hst HST HNE
          generalize str s.l = S at *
          generalize str t.l = T at *
          generalize hSA : s.A = SA at *
          generalize s.n = sn at *
          generalize s.c = sc at *
          generalize t.A = TA at *
          generalize t.n = tn at *
          generalize t.c = tc at *
          go_wp2_with fail
          go_region
          all_goals
            go_wp2_with fail
            go_ret
            exact ⟨by rw [← HBB.out, decide_eq_false HF.out]; rfl, HO.out.drew⟩
      · obtain rfl : k = n := by omega
        have d1 : decide ((k : Int) < (k : Int)) = false := decide_eq_false (by omega)
        have hxy : xs = ys := by
          rw [List.take_of_length_le (by rw [HL1.out]; exact Nat.le_refl _), List.take_of_length_le (by rw [HL2.out]; exact Nat.le_refl _)] at htk
          exact htk
        have HXY := Lib.hid hxy
        clear hxy htk
        go_wp2_with fail
        go_ret
        exact ⟨by rw [← HBB.out, decide_eq_true HXY.out]; rfl, ho⟩
  · have e0 : ((n : Int) != (m : Int)) = true := by simp; omega
    have HF := Lib.hid (show ¬ xs = ys from fun h => hnm (by rw [← HL1.out, ← HL2.out, h]))
    clear hnm
    go_enter Tryz.func16, Tryz.ntmps16
    go_wp2_with fail
    go_ret
    exact ⟨by rw [← HBB.out, decide_eq_false HF.out]; rfl, Only.refl _ _⟩
end
end Go.Proofs.YthgfmoogagldmaaGreat.Journal
namespace Go.Proofs.YthgfmoogagldmaaGreat.Journal
open Go.RowKit Go.Shelf Disk Go.Proofs.YthgfmoogagldmaaGreat.Frame
structure AJ where
  kind : Int
  n : Int
  b : Sl
  LA : Option Addr
  Lc : Nat
  ss : List Sl
  FA : Option Addr
  Fc : Nat
  fs : List Int
def AJ.row (a : AJ) : List Value := [.int .i64 a.kind, .int .i64 a.n, .slice a.b.A a.b.n a.b.c, .slice a.LA a.ss.length a.Lc, .slice a.FA a.fs.length a.Fc]
def aj0 : AJ := ⟨0, 0, ⟨none, 0, 0, []⟩, none, 0, [], none, 0, []⟩
structure AJ.in_ (w : World) (a : AJ) : Prop where
  b : Bytes w w.heap.size a.b.A a.b.n a.b.l ∧ a.b.n ≤ a.b.c ∧ a.b.c ≤ maxLen
  l : Reads w w.heap.size 1 a.LA a.ss.length (a.ss.map Sl.val)
  e : ∀ s ∈ a.ss, Bytes w w.heap.size s.A s.n s.l ∧ s.n ≤ s.c ∧ s.c ≤ maxLen
  f : Reads w w.heap.size 1 a.FA a.fs.length (a.fs.map (Value.int .i64))
def AJ.lit (a : AJ) : Prop := a.b.n ≤ 1000 ∧ a.ss.length ≤ 10 ∧ a.fs.length ≤ 100 ∧ ∀ s ∈ a.ss, s.n ≤ 1000
theorem aj_at {w : World} {B m : Nat} {A : Option Addr} {as_ : List AJ} (hr : Recs w B 5 A m (as_.map AJ.row)) (k : Nat) (hk : k < m) : ∃ b off, A = some ⟨b, off, none⟩ ∧ b < B ∧ ∃ a ∈ as_, as_[k]? = some a ∧
    w.cell? ⟨b, off + k * 5, none⟩ = some (.int .i64 a.kind) ∧ w.cell? ⟨b, off + k * 5 + 1, none⟩ = some (.int .i64 a.n) ∧ w.cell? ⟨b, off + k * 5 + 2, none⟩ = some (.slice a.b.A a.b.n a.b.c) ∧
    w.cell? ⟨b, off + k * 5 + 3, none⟩ = some (.slice a.LA a.ss.length a.Lc) ∧ w.cell? ⟨b, off + k * 5 + 4, none⟩ = some (.slice a.FA a.fs.length a.Fc) := by
  obtain ⟨b, off, hA, hb, hc⟩ := hr.at_ aj0 hk
  have hl : k < as_.length := by have := hr.1; rw [List.length_map] at this; omega
  refine ⟨b, off, hA, hb, as_.getD k aj0, ?_, ?_, ?_, ?_, ?_, ?_, ?_⟩
  · rw [List.getD_eq_getElem?_getD, List.getElem?_eq_getElem hl]; exact List.getElem_mem hl
  · rw [List.getD_eq_getElem?_getD, List.getElem?_eq_getElem hl]; rfl
  · have := hc 0 (by decide); rw [Nat.add_zero] at this; exact this
  · exact hc 1 (by decide)
  · exact hc 2 (by decide)
  · exact hc 3 (by decide)
  · exact hc 4 (by decide)
theorem take_all_snoc {α : Type} {P : α → Prop} {l : List α} {k : Nat} {a : α} (h : ∀ x ∈ l.take k, P x) (hk : l[k]? = some a) (ha : P a) : ∀ x ∈ l.take (k + 1), P x := by
  obtain ⟨hlt, rfl⟩ := List.getElem?_eq_some_iff.1 hk
  rw [List.take_succ_eq_append_getElem hlt]
  intro x hx
  rcases List.mem_append.1 hx with hx | hx
  · exact h x hx
  · rw [List.mem_singleton.1 hx]; exact ha
section
variable {w w' : World}
set_option maxHeartbeats 2000000 in
theorem light6_any (A : Option Addr) (m c : Nat) (as_ : List AJ) (w : World) (hr : Recs w w.heap.size 5 A m (as_.map AJ.row)) (hin : ∀ a ∈ as_, a.in_ w) :
    Calls Tryz.prog 10 #[.slice A m c] w fun x w' => (∃ b, x = .returned (.bool b) ∧ (b = true → m ≤ 60 ∧ ∀ a ∈ as_, a.lit)) ∧ w' = w := by
  have HR := Lib.hid hr
  have HIN := Lib.hid hin
  have HL := Lib.hid (show as_.length = m by have := hr.1; rwa [List.length_map] at this)
  clear hr hin
  go_enter Tryz.func10, Tryz.ntmps10
  go_wp2_with fail
  go_loopw [3] (fun i wr => ∃ k : Nat, k ≤ m ∧ k ≤ 100 ∧ i = .int .i64 k ∧ wr = w ∧ ∀ a ∈ as_.take k, a.lit) (fun i _ => m - (intOf i).toNat)
  case atStart => exact ⟨0, by omega, by omega, rfl, rfl, by simp⟩
  case round =>
    obtain ⟨k, hk, hk2, rfl, hwr, hlit⟩ := hrel
    subst hwr
    by_cases hlt : k < m
    · have d1 : decide ((k : Int) < (m : Int)) = true := decide_eq_true (by omega)
      by_cases h100 : k < 100
      · have d2 : decide ((k : Int) < 100) = true := decide_eq_true (by omega)
        obtain ⟨b, off, rfl, hb, a, ha, hak, c0, c1, c2, c3, c4⟩ := aj_at HR.out k hlt
        have hi := HIN.out a ha
        by_cases q1 : 1000 < a.b.n
        · have e1 : decide ((1000 : Int) < (a.b.n : Int)) = true := decide_eq_true (by omega)
          clear hi hlit
          go_wp2_with fail
          go_ret
          exact ⟨⟨false, rfl, fun h => by cases h⟩, rfl⟩
        · have e1 : decide ((1000 : Int) < (a.b.n : Int)) = false := decide_eq_false (by omega)
          by_cases q2 : 10 < a.ss.length
          · have e2 : decide ((10 : Int) < (a.ss.length : Int)) = true := decide_eq_true (by omega)
            clear hi hlit
            go_wp2_with fail
            go_ret
            exact ⟨⟨false, rfl, fun h => by cases h⟩, rfl⟩
          · have e2 : decide ((10 : Int) < (a.ss.length : Int)) = false := decide_eq_false (by omega)
            by_cases q3 : 100 < a.fs.length
            · have e3 : decide ((100 : Int) < (a.fs.length : Int)) = true := decide_eq_true (by omega)
              clear hi hlit
              go_wp2_with fail
              go_ret
              exact ⟨⟨false, rfl, fun h => by cases h⟩, rfl⟩
            · have e3 : decide ((100 : Int) < (a.fs.length : Int)) = false := decide_eq_false (by omega)
              have HI := Lib.hid hi
              have HLIT := Lib.hid hlit
              have HAK := Lib.hid hak
              clear hi hlit hak ha
              obtain ⟨kind, n, ⟨bA, bn, bc, bl⟩, LA, Lc, ss, FA, Fc, fs⟩ := a
              simp only at c0 c1 c2 c3 c4 q1 q2 q3 e1 e2 e3 HI
              obtain ⟨L, hL⟩ : ∃ L, ss.length = L := ⟨_, rfl⟩
              have HLL := Lib.hid hL
              rw [hL] at c3 q2 e2
              clear hL
              go_wp2_with fail
              go_loopw [4] (fun j wr2 => ∃ i : Nat, i ≤ L ∧ j = .int .i64 i ∧ wr2 = wr ∧ ∀ s ∈ ss.take i, s.n ≤ 1000) (fun j _ => L - (intOf j).toNat)
              case atStart => exact ⟨0, by omega, rfl, rfl, by simp⟩
              case round =>
                obtain ⟨i, hi, rfl, hw2, hs2⟩ := hrel
                subst hw2
                by_cases hli : i < L
                · have f1 : decide ((i : Int) < (L : Int)) = true := decide_eq_true (by omega)
                  have hrd := HI.out.l
                  simp only at hrd
                  rw [HLL.out] at hrd
                  obtain ⟨b2, o2, rfl, _, s, hs, hsk, hc⟩ := Reads.sl hrd i hli
                  by_cases q4 : 1000 < s.n
                  · have f2 : decide ((1000 : Int) < (s.n : Int)) = true := decide_eq_true (by omega)
                    clear hrd hs hsk hs2
                    go_wp2_with fail
                    go_ret
                    exact ⟨⟨false, rfl, fun h => by cases h⟩, rfl⟩
                  · have f2 : decide ((1000 : Int) < (s.n : Int)) = false := decide_eq_false (by omega)
                    have HS2 := Lib.hid (take_all_snoc hs2 hsk (by omega))
                    clear hrd hs hsk hs2
                    go_wp2_with fail
                    go_roundw
                    case measure => simp [intOf]; omega
                    case rel => exact ⟨i + 1, by omega, by go_num, trivial, HS2.out⟩
                · obtain rfl : i = L := by omega
                  have f1 : decide ((i : Int) < (i : Int)) = false := decide_eq_false (by omega)
                  rw [List.take_of_length_le (by rw [HLL.out]; exact Nat.le_refl _)] at hs2
                  have HNX := Lib.hid (take_all_snoc (P := AJ.lit) HLIT.out HAK.out ⟨by show bn ≤ 1000; omega, by show ss.length ≤ 10; rw [HLL.out]; omega, by show fs.length ≤ 100; omega, hs2⟩)
                  clear hs2
                  go_wp2_with fail
                  go_roundw
                  case measure => simp [intOf]; omega
                  case rel => exact ⟨k + 1, by omega, by omega, by go_num, trivial, HNX.out⟩
      · obtain rfl : k = 100 := by omega
        have d2 : decide (((100 : Nat) : Int) < 100) = false := by decide
        have d3 : decide ((m : Int) ≤ 60) = false := decide_eq_false (by omega)
        clear hlit
        go_wp2_with fail
        go_ret
        exact ⟨⟨false, rfl, fun h => by cases h⟩, rfl⟩
    · obtain rfl : k = m := by omega
      have d1 : decide ((k : Int) < (k : Int)) = false := decide_eq_false (by omega)
      rw [List.take_of_length_le (by rw [HL.out]; exact Nat.le_refl _)] at hlit
      have HLT := Lib.hid hlit
      clear hlit
      by_cases q : k ≤ 60
      · have d3 : decide ((k : Int) ≤ 60) = true := decide_eq_true (by omega)
        go_wp2_with fail
        go_ret
        exact ⟨⟨true, rfl, fun _ => ⟨q, HLT.out⟩⟩, rfl⟩
      · have d3 : decide ((k : Int) ≤ 60) = false := decide_eq_false (by omega)
        go_wp2_with fail
        go_ret
        exact ⟨⟨false, rfl, fun h => by cases h⟩, rfl⟩
end
end Go.Proofs.YthgfmoogagldmaaGreat.Journal
namespace Go.Proofs.YthgfmoogagldmaaGreat.Journal
open Go.RowKit Go.Shelf Disk Go.Proofs.YthgfmoogagldmaaGreat.Frame
def St (m : Nat) (w : World) (p g b q cap : Nat) (d : DS) (js : JS) (T : List Nat) : Prop :=
  ∃ base W v ss, IsD w p g b W cap d ∧ IsJ w p g b q base js v ss ∧ (∀ k ∈ W, k ∉ q :: ownL v) ∧ base ≤ w.heap.size ∧ T = JT p g b q v ∧ m ≤ p ∧ m ≤ g ∧ m ≤ b ∧ m ≤ q ∧ m ≤ base
def Kept (w : World) (T : List Nat) (A : Option Addr) (n : Nat) (ls : List (List UInt8)) : Prop :=
  ∃ ss : List Sl, ss.length = n ∧ Reads w w.heap.size 1 A n (ss.map Sl.val) ∧ (0 < n → ∀ k ∈ blkOf A, k ∉ T) ∧ ss.map (·.l) = ls ∧ ∀ s ∈ ss, Bytes w w.heap.size s.A s.n s.l ∧ (0 < s.n → ∀ k ∈ blkOf s.A, k ∉ T)
section
variable {w w' : World} {p g b q cap m n : Nat} {d : DS} {js : JS} {T T' : List Nat} {A : Option Addr} {ls : List (List UInt8)}
theorem Kept.lst (h : Kept w T A n ls) : Lst w A n ls := by
  obtain ⟨ss, h1, h2, _, h3, h4⟩ := h
  exact ⟨ss, h1, h2, h3, fun s hs => (h4 s hs).1⟩
theorem reads_lt {B n : Nat} {A : Option Addr} {xs : List Value} (h : Reads w B 1 A n xs) (hn : 0 < n) : ∀ k ∈ blkOf A, k < B := by
  obtain ⟨ad, u, rfl, hb, _⟩ := h.at_ (k := 0) hn
  intro k hk
  simp [blkOf] at hk
  omega
theorem Kept.only (h : Kept w T A n ls) (ho : Only T w w') (hT : ∀ k ∈ T', k ∈ T ∨ w.heap.size ≤ k) : Kept w' T' A n ls := by
  obtain ⟨ss, h1, h2, h3, h4, h5⟩ := h
  refine ⟨ss, h1, (reads_pos h2 ho h3).more ho.size, fun hn k hk hm => ?_, h4, fun s hs => ?_⟩
  · rcases hT k hm with e | e
    · exact h3 hn k hk e
    · have := reads_lt h2 hn k hk; omega
  · obtain ⟨a1, a2⟩ := h5 s hs
    refine ⟨(a1.only_pos ho a2).more ho.size, fun hn k hk hm => ?_⟩
    rcases hT k hm with e | e
    · exact a2 hn k hk e
    · have := bytes_lt a1 hn k hk; omega
theorem Kept.only0 (h : Kept w T A n ls) (ho : Only [] w w') : Kept w' T A n ls := h.only (ho.mono (by simp)) (fun k hk => .inl hk)
theorem Kept.nil (w : World) (T : List Nat) : Kept w T none 0 [] := ⟨[], rfl, ⟨rfl, fun h => absurd h (by omega)⟩, fun h => absurd h (by omega), rfl, by simp⟩
theorem St.only0 (h : St m w p g b q cap d js T) (ho : Only [] w w') : St m w' p g b q cap d js T := by
  obtain ⟨base, W, v, ss, h1, h2, h3, h4, h5⟩ := h
  exact ⟨base, W, v, ss, h1.only0 ho, h2.only0 ho, h3, Nat.le_trans h4 ho.size, h5⟩
theorem St.above (h : St m w p g b q cap d js T) : ∀ k ∈ T, m ≤ k := by
  obtain ⟨base, W, v, ss, h1, h2, h3, h4, rfl, hp, hg, hb, hq, hbb⟩ := h
  intro k hk
  unfold JT at hk
  simp only [List.mem_cons] at hk
  rcases hk with e | e | e | e | e
  · omega
  · omega
  · omega
  · omega
  · have := (h2.own.lt k e).1; omega
def Turn (w : World) (T T' : List Nat) (w' : World) : Prop := Only T w w' ∧ ∀ k ∈ T', k ∈ T ∨ w.heap.size ≤ k
theorem app_turn {W : List Nat} {base : Nat} {v : Value} {r : DS × JS × Int} {x : Ending} {ss : List Sl} (h : AppO w p g b W cap q base v ss r x w') (hb : base ≤ w.heap.size) (hm : m ≤ p ∧ m ≤ g ∧ m ≤ b ∧ m ≤ q ∧ m ≤ base) :
    x = .returned (.int .i64 r.2.2) ∧ ∃ T', St m w' p g b q cap r.1 r.2.1 T' ∧ Turn w (JT p g b q v) T' w' := by
  obtain ⟨rfl, W', v', ss', k1, k2, k3, k4, k5, k6, _⟩ := h
  refine ⟨rfl, JT p g b q v', ⟨base, W', v', ss', k1, k3, k6, Nat.le_trans hb k4.size, rfl, hm.1, hm.2.1, hm.2.2.1, hm.2.2.2.1, hm.2.2.2.2⟩, k4, fun k hk => ?_⟩
  unfold JT at hk ⊢
  simp only [List.mem_cons] at hk ⊢
  rcases hk with e | e | e | e | e
  · exact .inl (.inl e)
  · exact .inl (.inr (.inl e))
  · exact .inl (.inr (.inr (.inl e)))
  · exact .inl (.inr (.inr (.inr (.inl e))))
  · rcases k5 k e with h | h
    · exact .inl (.inr (.inr (.inr (.inr h))))
    · exact .inr h
theorem St.append (h : St m w p g b q cap d js T) (hn2 : 2 ≤ d.n) (A : Option Addr) (n c : Nat) (l : List UInt8) (hr : Bytes w w.heap.size A n l) (hn : n ≤ 2000) (hnc : n ≤ c) (hcm : c ≤ maxLen) (hfar : 0 < n → ∀ k ∈ blkOf A, k ∉ T) (hsl : js.l.length ≤ 100000) (hdn : d.done ≤ 4611686018427000000) :
    Calls Tryz.prog 15 #[.pointer (some ⟨q, 0, none⟩), .slice A n c] w fun x w' => x = .returned (.int .i64 (appendJ d js l).2.2) ∧ ∃ T', St m w' p g b q cap (appendJ d js l).1 (appendJ d js l).2.1 T' ∧ Turn w T T' w' := by
  obtain ⟨base, W, v, ss, h1, h2, h3, h4, rfl, hm⟩ := h
  exact (append_any h1 hn2 h2 h3 A n c l hr hn hnc hcm hfar (by rw [← h2.l, List.length_map] at hsl; exact hsl) hdn h4).mono fun x w' hx => app_turn hx h4 hm
theorem St.reset (h : St m w p g b q cap d js T) (hn2 : 2 ≤ d.n) (A : Option Addr) (n c : Nat) (ts : List Sl) (hl : ts.length = n) (hr : Reads w w.heap.size 1 A n (ts.map Sl.val)) (hh : Held w T ts) (h2k : ∀ s ∈ ts, s.n ≤ 2000) (hn : n ≤ 100000) (hfar : 0 < n → ∀ k ∈ blkOf A, k ∉ T) (hdn : d.done ≤ 4611686018426000000)
    (hroom : js.half.room = roomD d) (hgen : 0 ≤ js.half.gen ∧ js.half.gen ≤ 4611686018427380000) (hsmall : (halfD d (js.half.gen + 1)).small) :
    Calls Tryz.prog 17 #[.pointer (some ⟨q, 0, none⟩), .slice A n c] w fun x w' => x = .returned (.int .i64 (resetJ d js (ts.map (·.l))).2.2) ∧ ∃ T', St m w' p g b q cap (resetJ d js (ts.map (·.l))).1 (resetJ d js (ts.map (·.l))).2.1 T' ∧ Turn w T T' w' := by
  obtain ⟨base, W, v, ss, h1, h2, h3, h4, rfl, hm⟩ := h
  exact (reset_any h1 hn2 h2 h3 A n c ts hl hr hh h2k hn hfar h4 hdn hroom hgen hsmall).mono fun x w' hx => app_turn hx h4 hm
theorem St.did {base : Nat} {W : List Nat} {v : Value} {ss : List Sl} {d' : DS} (hd : IsD w p g b W cap d) (hj : IsJ w p g b q base js v ss) (hWT : ∀ k ∈ W, k ∉ q :: ownL v) (hb : base ≤ w.heap.size) (hm : m ≤ p ∧ m ≤ g ∧ m ≤ b ∧ m ≤ q ∧ m ≤ base) (h : Did w p g b W cap d' w') : St m w' p g b q cap d' js (JT p g b q v) ∧ Turn w (JT p g b q v) (JT p g b q v) w' := by
  obtain ⟨W', h1, h2, h3⟩ := h
  refine ⟨⟨base, W', v, ss, h1, hj.deed hd h3, fun k hk hm => ?_, Nat.le_trans hb h3.size, rfl, hm⟩, h3.mono (fun k hk => .inl (jt_of k hk)), fun k hk => .inl hk⟩
  rcases h2 k hk with e | e
  · exact hWT k e hm
  · rcases List.mem_cons.1 hm with e2 | e2
    · have := hj.lt; omega
    · have := (hj.own.lt k e2).2; omega
theorem St.stop (h : St m w p g b q cap d js T) (a : Int) (ha : a ≤ 9223372036854775807) : Calls Tryz.prog 18 #[.pointer (some ⟨p, 0, none⟩), .int .i64 a] w fun x w' => x = .returned (.tuple #[]) ∧ St m w' p g b q cap (stopD d a) js T ∧ Turn w T T w' := by
  obtain ⟨base, W, v, ss, h1, h2, h3, h4, rfl, hm⟩ := h
  exact (stop_any h1 a ha).mono fun x w' ⟨k1, k2⟩ => ⟨k1, St.did h1 h2 h3 h4 hm k2⟩
theorem St.crash (h : St m w p g b q cap d js T) (A : Option Addr) (n c : Nat) (fs : List Int) (hl : fs.length = n) (hr : Reads w w.heap.size 1 A n (fs.map (Value.int .i64))) (hn : n ≤ 1000000) (hfar : 0 < n → ∀ k ∈ blkOf A, k < m) :
    Calls Tryz.prog 21 #[.pointer (some ⟨p, 0, none⟩), .slice A n c] w fun x w' => ∃ ks, waitsD d ks ∧ x = .returned (.tuple #[]) ∧ St m w' p g b q cap (crashD d fs ks) js T ∧ Turn w T T w' := by
  subst hl
  obtain ⟨base, W, v, ss, h1, h2, h3, h4, rfl, hm⟩ := h
  refine (crash_any A c h1 fs hr hn (fun h k hk => by have := hfar h k hk; omega)).mono ?_
  rintro x w' ⟨ks, k1, rfl, k2⟩
  exact ⟨ks, k1, rfl, St.did h1 h2 h3 h4 hm k2⟩
theorem St.groups (h : St m w p g b q cap d js T) (hn : js.l.length ≤ 1000000) : Calls Tryz.prog 23 #[.pointer (some ⟨q, 0, none⟩)] w fun x w' => GroupsO w js.l x w' := by
  obtain ⟨base, W, v, ss, h1, h2, h3, h4, _⟩ := h
  exact groups_is h2 (by rw [← h2.l, List.length_map] at hn; exact hn)
theorem St.open_ (h : St m w p g b q cap d js T) (hn2 : d.n ≤ 200000) (hg : newestD d ≤ 4611686018427387000) (hdn : d.done ≤ 4611686018427000000) {D : DS} {js' : JS} (hs : openJ d = (D, some js', 0)) :
    Calls Tryz.prog 13 #[.pointer (some ⟨p, 0, none⟩)] w fun x w' => ∃ q' T', x = .returned (.tuple #[.pointer (some ⟨q', 0, none⟩), .int .i64 0]) ∧ St m w' p g b q' cap D js' T' ∧ Turn w T T' w' := by
  obtain ⟨base, W, v, ss, h1, h2, h3, h4, rfl, hm⟩ := h
  refine (open_any h1 hn2 hg hdn).mono ?_
  intro x w' hx
  rw [hs] at hx
  rcases hx with ⟨h1', _⟩ | ⟨js'', q', v', ss', W', k0, rfl, k2, k3, k4, k5, k6, k7, k8⟩
  · cases k0' : h1'
  · cases k0
    have hsz := h2.lt
    refine ⟨q', JT p g b q' v', rfl, ⟨w.heap.size, W', v', ss', k3, k6, k8, k5.size, rfl, hm.1, hm.2.1, hm.2.2.1, by omega, by omega⟩, k5.mono (fun k hk => .inl (jt_of k hk)), fun k hk => ?_⟩
    unfold JT at hk ⊢
    simp only [List.mem_cons] at hk ⊢
    rcases hk with e | e | e | e | e
    · exact .inl (.inl e)
    · exact .inl (.inr (.inl e))
    · exact .inl (.inr (.inr (.inl e)))
    · exact .inr (by omega)
    · exact .inr (k6.own.lt k e).1
theorem St.open_no (h : St m w p g b q cap d js T) (hn2 : d.n ≤ 200000) (hg : newestD d ≤ 4611686018427387000) (hdn : d.done ≤ 4611686018427000000) {e : Int} (hs : openJ d = (d, none, e)) :
    Calls Tryz.prog 13 #[.pointer (some ⟨p, 0, none⟩)] w fun x w' => x = .returned (.tuple #[.pointer none, .int .i64 e]) ∧ St m w' p g b q cap d js T ∧ Turn w T T w' := by
  obtain ⟨base, W, v, ss, h1, h2, h3, h4, rfl, hm⟩ := h
  refine (open_any h1 hn2 hg hdn).mono ?_
  intro x w' hx
  rw [hs] at hx
  rcases hx with ⟨_, h1', h2'⟩ | ⟨js', q', v', ss', W', k0, _⟩
  · exact ⟨h1', St.did h1 h2 h3 h4 hm h2'⟩
  · cases k0
end
end Go.Proofs.YthgfmoogagldmaaGreat.Journal
