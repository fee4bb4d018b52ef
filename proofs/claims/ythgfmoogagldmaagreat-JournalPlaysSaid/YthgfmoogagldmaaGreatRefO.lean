/- RefO: The document's journal: Open; The document's journal: Open of a new disk. -/
import Derived.Test.YthgfmoogagldmaaGreatRefG
import Derived.Test.YthgfmoogagldmaaGreatRJ4q
import Derived.Test.YthgfmoogagldmaaGreatJournalM
import Derived.Test.YthgfmoogagldmaaGreatJournalC
import Derived.Test.YthgfmoogagldmaaGreatRanges
set_option linter.unusedVariables false
set_option maxRecDepth 100000
namespace Go.Proofs.YthgfmoogagldmaaGreat.RefD
open Go.RowKit Go.Shelf Disk Journal Go.Proofs.YthgfmoogagldmaaGreat.Frame
def LR (w : World) (T : List Nat) (A : Option Addr) (n c : Nat) (ls : List (List UInt8)) : Prop :=
  ∃ ss : List Sl, ss.length = n ∧ Reads w w.heap.size 1 A n (ss.map Sl.val) ∧ ss.map (·.l) = ls ∧ n ≤ c ∧ c ≤ maxLen ∧ (0 < n → ∀ k ∈ blkOf A, k ∉ T) ∧ Held w T ss
theorem Sec.turn {w w' : World} {S T T' : List Nat} {s : Sl} {l : List UInt8} (h : Sec w T s l) (ho : Only S w w') (hS : ∀ k ∈ S, k ∈ T ∨ w.heap.size ≤ k) (hT : ∀ k ∈ T', k ∈ T ∨ w.heap.size ≤ k) : Sec w' T' s l := by
  have hlt := Sec.only.bytes_lt' h.2.2.1
  obtain ⟨h1, h2, h3, h4, h5, h6⟩ := h.only ho hS
  refine ⟨h1, h2, h3, h4, h5, fun k hk hm => ?_⟩
  rcases hT k hm with e | e
  · exact h6 k hk e
  · have := hlt k hk; omega
theorem IsR.turn {w w' : World} {p sb sc wb base : Nat} {d : DS} {X X' S : List Nat} (h : IsR X w p sb sc wb base d) (ho : Only S w w') (hS : p ∉ S ∧ sb ∉ S ∧ wb ∉ S) (hSX : ∀ k ∈ S, k ∈ X ∨ w.heap.size ≤ k) (hX : ∀ k ∈ X', k ∈ X ∨ w.heap.size ≤ k) (hl : ∀ k ∈ X', k < w'.heap.size) : IsR X' w' p sb sc wb base d := by
  obtain ⟨h1, ⟨ss, h2, h3⟩, ⟨vs, h4, h5⟩, h6, h7, h8, h9, h10, h11⟩ := h
  have hk : ∀ k ∈ S, k ∈ (p :: sb :: wb :: X) ∨ w.heap.size ≤ k := fun k hk => by
    rcases hSX k hk with e | e
    · exact .inl (by simp [e])
    · exact .inr e
  have hT : ∀ k ∈ (p :: sb :: wb :: X'), k ∈ (p :: sb :: wb :: X) ∨ w.heap.size ≤ k := fun k hk => by
    simp only [List.mem_cons] at hk ⊢
    rcases hk with e | e | e | e
    · exact .inl (.inl e)
    · exact .inl (.inr (.inl e))
    · exact .inl (.inr (.inr (.inl e)))
    · rcases hX k e with h | h
      · exact .inl (.inr (.inr (.inr h)))
      · exact .inr h
  refine ⟨h1.only ho hS.1, ⟨ss, h2.only ho (by simp [ownL, Value.ownBlock]; exact hS.2.1), fun i s hi => (h3 i s hi).turn ho hk hT⟩, ⟨vs, h4.only ho (by simp [ownL, Value.ownBlock]; exact hS.2.2), fun i v hi => ?_⟩, h6, h7, h8, h9, h10, hl⟩
  rcases h5 i v hi with h | ⟨s, l, a, b, c⟩
  · exact .inl h
  · exact .inr ⟨s, l, a, b, c.turn ho hk hT⟩
def IsRJ (X : List Nat) (w : World) (p sb wb q : Nat) (js : JS) : Prop :=
  ∃ A n c, Blk w q 55 #[.pointer (some ⟨p, 0, none⟩), .int .i64 js.half.gen, .slice A n c, .bool js.off] ∧ LR w (q :: p :: sb :: wb :: X) A n c js.l
section
variable {w w' wr : World} {p sb sc wb base q n c : Nat} {d : DS} {X S T T' : List Nat} {A : Option Addr} {ls : List (List UInt8)} {js : JS}
theorem reads_lt' {B n : Nat} {A : Option Addr} {xs : List Value} (h : Reads w B 1 A n xs) (hn : 0 < n) : ∀ k ∈ blkOf A, k < B := by
  obtain ⟨ad, u, rfl, hb, _⟩ := h.at_ (k := 0) hn
  intro k hk
  simp [blkOf] at hk
  omega
theorem LR.only (h : LR w T A n c ls) (ho : Only S w w') (hS : ∀ k ∈ S, k ∈ T ∨ w.heap.size ≤ k) (hT : ∀ k ∈ T', k ∈ T ∨ w.heap.size ≤ k) : LR w' T' A n c ls := by
  obtain ⟨ss, h1, h2, h3, h4, h5, h6, h7⟩ := h
  refine ⟨ss, h1, (reads_pos h2 ho (fun hn k hk hm => ?_)).more ho.size, h3, h4, h5, fun hn k hk hm => ?_, h7.only ho hS hT⟩
  · rcases hS k hm with e | e
    · exact h6 hn k hk e
    · have := reads_lt' h2 hn k hk; omega
  · rcases hT k hm with e | e
    · exact h6 hn k hk e
    · have := reads_lt' h2 hn k hk; omega
theorem LR.gs (h : LR w T A n c ls) : Gs w w.heap.size A n ls := by
  obtain ⟨ss, h1, h2, h3, _, _, _, h7⟩ := h
  rw [← h3]
  exact h7.gs h1 h2
theorem FreshG.lr (h : FreshG w w' A n c ls) (hT : ∀ k ∈ T, k < w.heap.size) : LR w' T A n c ls := by
  obtain ⟨ss, h1, h2, h3, h4, h5, h6, h7, _⟩ := h
  refine ⟨ss, h1, h2, h3, h6, h7, fun _ k hk hm => ?_, fun s hs => ?_⟩
  · have a := hT k hm; have b := h5 k hk; omega
  · obtain ⟨a1, a2, a3, a4, a5⟩ := h4 s hs
    exact ⟨a1, a2, a3, a4, fun _ k hk hm => by have a := hT k hm; have b := a5 k hk; omega⟩
theorem IsRJ.only (h : IsRJ X w p sb wb q js) (ho : Only S w w') (hq : q ∉ S) (hS : ∀ k ∈ S, k ∈ q :: p :: sb :: wb :: X ∨ w.heap.size ≤ k) {X' : List Nat} (hX : ∀ k ∈ X', k ∈ X ∨ w.heap.size ≤ k) : IsRJ X' w' p sb wb q js := by
  obtain ⟨A, n, c, h1, h2⟩ := h
  refine ⟨A, n, c, h1.only ho hq, h2.only ho hS (fun k hk => ?_)⟩
  simp only [List.mem_cons] at hk ⊢
  rcases hk with e | e | e | e | e
  · exact .inl (.inl e)
  · exact .inl (.inr (.inl e))
  · exact .inl (.inr (.inr (.inl e)))
  · exact .inl (.inr (.inr (.inr (.inl e))))
  · rcases hX k e with h | h
    · exact .inl (.inr (.inr (.inr (.inr h))))
    · exact .inr h
theorem IsRJ.lt (h : IsRJ X w p sb wb q js) : q < w.heap.size := by
  obtain ⟨A, n, c, h1, _⟩ := h
  exact h1.lt
theorem new_chain (n : Nat) (hn : 8 ≤ n) (hn2 : n ≤ 100000) : ∃ D1 D2 D3 D4, newestD (newD n) = 0 ∧ wrD (newD n) (halfD (newD n) 1).fr Journal.zeros = (D1, true) ∧ synD D1 = (D2, true) ∧ wrD D2 1 (putB ⟨1, 1, 0, 0⟩) = (D3, true) ∧ synD D3 = (D4, true) ∧
    openJ (newD n) = (D4, some ⟨halfD (newD n) 1, allH D4 (halfD (newD n) 1), false⟩, 0) ∧ D1.n = n ∧ D2.n = n ∧ D3.n = n ∧ D4.n = n ∧ D1.done ≤ 10 ∧ D2.done ≤ 10 ∧ D3.done ≤ 10 ∧ D4.done ≤ 10 := by
  obtain ⟨D, h1, _, _, h4, h5, h6, h7, _⟩ := open_new n hn hn2
  have hN : (newD n).n = n := rfl
  have hg0 : newestD (newD n) = 0 := by
    refine Classical.byContradiction fun hne => ?_
    unfold openJ at h1
    rw [if_neg (by rw [hN]; omega), if_neg (by simp [newD])] at h1
    simp only at h1
    rw [if_neg hne] at h1
    injection h1 with h1 _
    rw [← h1] at h7
    simp [newD] at h7
  have h8 := h1
  unfold openJ at h8
  rw [if_neg (by rw [hN]; omega), if_neg (by simp [newD])] at h8
  simp only at h8
  rw [if_pos hg0, hg0, show max (0 : Int) 1 = 1 from rfl] at h8
  obtain ⟨⟨D1, b1⟩, e1⟩ : ∃ r, wrD (newD n) (halfD (newD n) 1).fr Journal.zeros = r := ⟨_, rfl⟩
  have z1 : zeroH (newD n) (halfD (newD n) 1) 0 = (D1, b1) := by
    unfold zeroH
    rw [if_neg (by show ¬ roomD (newD n) ≤ 0; unfold roomD; rw [hN]; omega), Int.add_zero, e1]
  rw [z1] at h8
  obtain ⟨⟨D2, b2⟩, e2⟩ : ∃ r, synD D1 = r := ⟨_, rfl⟩
  obtain ⟨⟨D3, b3⟩, e3⟩ : ∃ r, wrD D2 1 (putB ⟨1, 1, 0, 0⟩) = r := ⟨_, rfl⟩
  obtain ⟨⟨D4, b4⟩, e4⟩ : ∃ r, synD D3 = r := ⟨_, rfl⟩
  have l1 : leadH D2 (halfD (newD n) 1) = if b3 = true then (D4, b4) else (D3, false) := by
    unfold leadH
    rw [show (halfD (newD n) 1).gen % 2 = 1 from rfl, show (halfD (newD n) 1).gen = 1 from rfl, e3]
    simp only
    cases b3 with
    | true => rw [if_pos rfl, if_pos rfl, e4]
    | false => rw [if_neg (by decide), if_neg (by decide)]
  cases b1 with
  | false =>
    unfold andThen at h8
    simp at h8
  | true =>
    have a1 : andThen ((D1, true) : DS × Bool) synD = (D2, b2) := by unfold andThen; rw [if_pos rfl, e2]
    rw [a1] at h8
    cases b2 with
    | false =>
      unfold andThen at h8
      simp at h8
    | true =>
      have a2 : andThen ((D2, true) : DS × Bool) (fun x => leadH x (halfD (newD n) 1)) = leadH D2 (halfD (newD n) 1) := by unfold andThen; rw [if_pos rfl]
      rw [a2, l1] at h8
      cases b3 with
      | false => simp at h8
      | true =>
        rw [if_pos rfl] at h8
        cases b4 with
        | false => simp at h8
        | true =>
          rw [if_pos rfl] at h8
          have k1 := wr_done (newD n) (halfD (newD n) 1).fr Journal.zeros
          have k2 := syn_done D1
          have k3 := wr_done D2 1 (putB ⟨1, 1, 0, 0⟩)
          have k4 := syn_done D3
          have m1 := wrD_n (newD n) (halfD (newD n) 1).fr Journal.zeros
          have m2 := synD_n D1
          have m3 := wrD_n D2 1 (putB ⟨1, 1, 0, 0⟩)
          have m4 := synD_n D3
          rw [e1] at k1 m1
          rw [e2] at k2 m2
          rw [e3] at k3 m3
          rw [e4] at k4 m4
          simp only at k1 k2 k3 k4 m1 m2 m3 m4
          have k0 : (newD n).done = 0 := rfl
          refine ⟨D1, D2, D3, D4, hg0, e1, e2, e3, e4, h1.trans h8.symm, by omega, by omega, by omega, by omega, by omega, by omega, by omega, by omega⟩
theorem ropen_few (hd : IsR X w p sb sc wb base d) (hn : d.n < 8) : Calls Tryz.prog 25 #[.pointer (some ⟨p, 0, none⟩)] w fun x w' => x = .returned (.tuple #[.pointer none, .int .i64 1]) ∧ w' = w := by
  have c0 : w.cell? ⟨p, 0, none⟩ = some (.slice (some ⟨sb, 0, none⟩) d.n sc) := hd.blk.cell 0
  have e1 : decide ((d.n : Int) < 8) = true := decide_eq_true (by omega)
  have e1' : decide (d.n < 8) = true := decide_eq_true hn
  clear hd hn
  go_enter Tryz.func25, Tryz.ntmps25
  go_wp2_with fail
  go_ret2
  exact ⟨rfl, rfl⟩
theorem ropen_off (hd : IsR X w p sb sc wb base d) (hn : 8 ≤ d.n) (ho : d.off = true) : Calls Tryz.prog 25 #[.pointer (some ⟨p, 0, none⟩)] w fun x w' => x = .returned (.tuple #[.pointer none, .int .i64 3]) ∧ w' = w := by
  have c0 : w.cell? ⟨p, 0, none⟩ = some (.slice (some ⟨sb, 0, none⟩) d.n sc) := hd.blk.cell 0
  have c4 : w.cell? ⟨p, 4, none⟩ = some (.bool d.off) := hd.blk.cell 4
  rw [ho] at c4
  have e1 : decide ((d.n : Int) < 8) = false := decide_eq_false (by omega)
  have e1' : decide (d.n < 8) = false := decide_eq_false (by omega)
  clear hd hn
  go_enter Tryz.func25, Tryz.ntmps25
  go_wp2_with fail
  go_ret2
  exact ⟨rfl, rfl⟩
def ROpen (X : List Nat) (w : World) (p sb sc wb base : Nat) (r : DS × Option JS × Int) (x : Ending) (w' : World) : Prop :=
  ∃ q js, x = .returned (.tuple #[.pointer (some ⟨q, 0, none⟩), .int .i64 0]) ∧ r.2.1 = some js ∧ w.heap.size ≤ q ∧ IsRJ X w' p sb wb q js ∧ IsR (q :: X) w' p sb sc wb base r.1 ∧ Only [p, sb, wb] w w'
set_option maxHeartbeats 8000000 in
theorem ropen_old (hd : IsR X w p sb sc wb base d) (h8 : 8 ≤ d.n) (hoff : d.off = false) (hcs : 1 ≤ newestD d ∧ newestD d ≤ 4611686018427387000) :
    Calls Tryz.prog 25 #[.pointer (some ⟨p, 0, none⟩)] w fun x w' => ROpen X w p sb sc wb base (openJ d) x w' := by
  have c0 : w.cell? ⟨p, 0, none⟩ = some (.slice (some ⟨sb, 0, none⟩) d.n sc) := hd.blk.cell 0
  have c4 : w.cell? ⟨p, 4, none⟩ = some (.bool d.off) := hd.blk.cell 4
  rw [hoff] at c4
  have e1 : decide ((d.n : Int) < 8) = false := decide_eq_false (by omega)
  have e1' : decide (d.n < 8) = false := decide_eq_false (by omega)
  have HD := Lib.hid hd
  have HD8 := Lib.hid h8
  have HOFF := Lib.hid hoff
  have HCS := Lib.hid hcs
  obtain ⟨r, hrr⟩ : ∃ r, openJ d = r := ⟨_, rfl⟩
  rw [hrr]
  have HRR := Lib.hid hrr
  clear hd hoff hcs h8 hrr
  go_enter Tryz.func25, Tryz.ntmps25
  go_wp2_with fail
  go_loopw [4, 5] (fun v i wr => ∃ k : Nat, k ≤ 2 ∧ i = .int .i64 k ∧ v = .int .i64 (newK d k) ∧ Only [] w wr) (fun _ i _ => 2 - (Go.RowKit.intOf i).toNat)
  case atStart => exact ⟨0, by omega, rfl, rfl, Only.refl _ _⟩
  case round =>
    obtain ⟨k, hk, rfl, rfl, ho⟩ := hrel
    by_cases hlt : k < 2
    · have e2 : decide ((k : Int) < 2) = true := decide_eq_true (by omega)
      have e2' : decide (k < 2) = true := decide_eq_true hlt
      have HR := Lib.hid (rread_any (HD.out.only0 ho) (k : Int))
      have hgi := getR_g (rdD d (k : Int))
      obtain ⟨⟨M, ok⟩, hM⟩ : ∃ R, getR (rdD d (k : Int)) = R := ⟨_, rfl⟩
      have hhk : headOk d (k : Int) = if ok = true ∧ 1 ≤ M.g ∧ M = ⟨1, M.g, 0, 0⟩ ∧ M.g % 2 = (k : Int) then some M.g else none := by
        unfold headOk
        rw [hM]
      have hst := newK_step d k hlt
      have hin := newK_in d k hk
      obtain ⟨L, hL⟩ : ∃ L, rdD d (k : Int) = L := ⟨_, rfl⟩
      rw [hL] at HR hM hgi
      have HGM := Lib.hid (fun A n c B w (hr : Bytes w B A n L) hB hnc hcm => rget_any A n c B L w hr hB hnc hcm)
      rw [hM] at HGM hgi
      rw [hhk] at hst
      have HO := Lib.hid ho
      obtain ⟨N, hN⟩ : ∃ N, newK d k = N := ⟨_, rfl⟩
      rw [hN] at hin hst ⊢
      clear ho hN hM hL hhk
      obtain ⟨mk, mg, ms, mn⟩ := M
      unfold Frame.Mark.val at HGM
      simp only at hst hgi HGM
      have HST := Lib.hid hst
      clear hst
      have h1 := i64_and1 mg
      by_cases hy : ok = true ∧ 1 ≤ mg ∧ (⟨mk, mg, ms, mn⟩ : Frame.Mark) = ⟨1, mg, 0, 0⟩ ∧ mg % 2 = (k : Int)
      · have HS2 : Hid (newK d (k + 1) = max N mg) := Lib.hid (by rw [HST.out, if_pos hy]; rfl)
        obtain ⟨rfl, y2, y3, y4⟩ := hy
        injection y3 with y5 _ y6 y7
        subst y5
        subst y6
        subst y7
        have q1 : decide (1 ≤ mg) = true := decide_eq_true y2
        go_wp2_with (first
          | (go_at_call 76; refine HR.out.mono ?_; rintro x w2 ⟨v2, n2, rfl, hb2, ho2⟩; obtain ⟨A2, c2, rfl, h21, h22, hby2, _⟩ := hb2.shape; have HMG := Lib.hid (HGM.out A2 n2 c2 _ w2 hby2 (Nat.le_refl _) h21 h22); have HO2 := Lib.hid (HO.out.trans ho2 (by simp)); clear hb2 hby2 ho2)
          | (go_at_call 77; refine HMG.out.mono ?_; rintro x w3 ⟨rfl, ho3⟩; have HO3 := Lib.hid (HO2.out.trans ho3 (by simp)); clear ho3))
        go_roundw
        case measure => simp [Go.RowKit.intOf]; omega
        case rel => exact ⟨k + 1, by omega, by go_num, by rw [HS2.out], by first | exact HO3.out.alloc _ | exact (HO3.out.alloc _).alloc _⟩
      · have HS2 : Hid (newK d (k + 1) = N) := Lib.hid (by rw [HST.out, if_neg hy]; show max N 0 = N; omega)
        have HY := Lib.hid hy
        clear hy
        go_wp2_with (first
          | (go_at_call 76; refine HR.out.mono ?_; rintro x w2 ⟨v2, n2, rfl, hb2, ho2⟩; obtain ⟨A2, c2, rfl, h21, h22, hby2, _⟩ := hb2.shape; have HMG := Lib.hid (HGM.out A2 n2 c2 _ w2 hby2 (Nat.le_refl _) h21 h22); have HO2 := Lib.hid (HO.out.trans ho2 (by simp)); clear hb2 hby2 ho2)
          | (go_at_call 77; refine HMG.out.mono ?_; rintro x w3 ⟨rfl, ho3⟩; have HO3 := Lib.hid (HO2.out.trans ho3 (by simp)); clear ho3))
        all_goals first
          | (exact absurd ⟨‹ok = true›, ‹1 ≤ mg›, by rw [‹mk = 1›, ‹ms = 0›, ‹mn = 0›], by simpa using ‹(mg % 2 == (k : Int)) = true›⟩ HY.out; done)
          | (go_roundw
             case measure => simp [Go.RowKit.intOf]; omega
             case rel => exact ⟨k + 1, by omega, by go_num, by rw [HS2.out], by first | exact HO3.out.alloc _ | exact (HO3.out.alloc _).alloc _⟩)
    · obtain rfl : k = 2 := by omega
      have hnk : newK d 2 = newestD d := rfl
      rw [hnk]
      have hcs := HCS.out
      clear HCS
      obtain ⟨g1, g2⟩ := hcs
      obtain ⟨N, hN⟩ : ∃ N, newestD d = N := ⟨_, rfl⟩
      have hopen : openJ d = (d, some ⟨halfD d N, allH d (halfD d N), false⟩, 0) := by
        unfold openJ
        rw [if_neg (by have := HD8.out; omega), if_neg (by rw [HOFF.out]; decide)]
        simp only
        rw [hN, if_neg (by omega), show max N 1 = N by omega]
      have hrr : r = (d, some ⟨halfD d N, allH d (halfD d N), false⟩, 0) := HRR.out.symm.trans hopen
      subst hrr
      rw [hN]
      rw [hN] at g1 g2
      have e0 : (N == 0) = false := by rw [beq_eq_false_iff_ne]; omega
      obtain ⟨q, hq⟩ : ∃ q, wr.heap.size = q := ⟨_, rfl⟩
      have HQS : Hid (w.heap.size ≤ q) := Lib.hid (by rw [← hq]; exact ho.size)
      obtain ⟨w2, hw2⟩ : ∃ w2, wr.alloc (.cells #[.pointer (some ⟨p, 0, none⟩), .int .i64 N, .slice none 0 0, .bool false] 55) = w2 := ⟨_, rfl⟩
      have hb2 : Blk w2 q 55 #[.pointer (some ⟨p, 0, none⟩), .int .i64 N, .slice none 0 0, .bool false] := by rw [← hw2, ← hq]; exact Blk.new wr _ _
      have ho2 : Only [] w w2 := by rw [← hw2]; exact ho.alloc _
      have HQF : Hid (q ∉ [p, sb, wb]) := Lib.hid ((HD.out.only0 ho2).far hb2 (by decide) (by decide))
      have HQX : Hid (∀ k ∈ [q], w.heap.size ≤ k) := Lib.hid (fun k hk => by rw [List.mem_singleton.1 hk]; exact HQS.out)
      have HDQ : Hid (IsR (q :: X) w2 p sb sc wb base d) := Lib.hid (HD.out.turn ho2 ⟨by simp, by simp, by simp⟩ (by simp) (fun k hk => by
        rcases List.mem_cons.1 hk with e | e
        · exact .inr (by rw [e]; exact HQS.out)
        · exact .inl e) (fun k hk => by
        rcases List.mem_cons.1 hk with e | e
        · rw [e]; exact hb2.lt
        · exact Nat.lt_of_lt_of_le (HD.out.xlt k e) ho2.size))
      have c2 := hb2.cell 1
      have HGR := Lib.hid (rgroups_any (HD.out.only0 ho2) (by have := HD8.out; omega) N ⟨by omega, by omega⟩)
      have HB2 := Lib.hid hb2
      have HO2 := Lib.hid ho2
      clear hopen ho ho2 hb2 hN
      go_wp2_with (first
        | (go_at_call 82; (try rw [hq]); (try rw [hw2]); refine HGR.out.mono ?_; rintro x wb' ⟨A, n, c, rfl, hfg⟩; have HFG := Lib.hid hfg; have hob : Only [] w2 wb' := (by obtain ⟨_, _, _, _, _, _, _, _, h⟩ := hfg; exact h); have HOB := Lib.hid hob; have hbb := HB2.out.only hob (by simp); have HBB := Lib.hid hbb; have fb := hbb.frozen 2; have cb := hbb.cell 2; clear hfg hob hbb))
      go_ret2
      have hset : Only [q] wb' (wb'.setCell ⟨q, 2, none⟩ (.slice A n c)) := (Only.refl [q] wb').setCell (p := ⟨q, 2, none⟩) (.inl (by simp)) _
      have hlr := HFG.out.lr (T := q :: p :: sb :: wb :: X) (fun k hk => by
        have h1 := HD.out.lt3
        have h3 := HD.out.xlt
        have h2 := HB2.out.lt
        have h4 := HO2.out.size
        simp only [List.mem_cons] at hk
        rcases hk with e | e | e | e | e
        · omega
        · exact Nat.lt_of_lt_of_le (h1 k (by simp [e])) h4
        · exact Nat.lt_of_lt_of_le (h1 k (by simp [e])) h4
        · exact Nat.lt_of_lt_of_le (h1 k (by simp [e])) h4
        · exact Nat.lt_of_lt_of_le (h3 k e) h4)
      exact ⟨q, _, rfl, rfl, HQS.out, ⟨A, n, c, HBB.out.set_ 2 _, hlr.only hset (fun k hk => .inl (by rw [List.mem_singleton.1 hk]; simp)) (fun k hk => .inl hk)⟩, (HDQ.out.only0 HOB.out).turn hset (by have := HQF.out; simp only [List.mem_cons, not_or, List.not_mem_nil, not_false_eq_true, and_true] at this ⊢; exact ⟨fun e => this.1 e.symm, fun e => this.2.1 e.symm, fun e => this.2.2 e.symm⟩) (fun k hk => .inl (by rw [List.mem_singleton.1 hk]; simp)) (fun k hk => .inl hk) (fun k hk => Nat.lt_of_lt_of_le (HDQ.out.xlt k hk) (Nat.le_trans HOB.out.size hset.size)), (((HO2.out.trans HOB.out (by simp)).mono (by simp)).trans hset (fun k hk => .inr (by rw [List.mem_singleton.1 hk]; exact HQS.out)))⟩
end
end Go.Proofs.YthgfmoogagldmaaGreat.RefD
namespace Go.Proofs.YthgfmoogagldmaaGreat.RefD
open Go.RowKit Go.Shelf Disk Journal Go.Proofs.YthgfmoogagldmaaGreat.Frame
section
variable {w w' wr : World} {p sb sc wb base q n c : Nat} {d : DS} {X S T T' : List Nat} {A : Option Addr} {ls : List (List UInt8)} {js : JS}
set_option maxHeartbeats 8000000 in
theorem ropen_new {n0 : Nat} (hd : IsR X w p sb sc wb base d) (h8 : 8 ≤ d.n) (hoff : d.off = false) (hcs : d = newD n0) :
    Calls Tryz.prog 25 #[.pointer (some ⟨p, 0, none⟩)] w fun x w' => ROpen X w p sb sc wb base (openJ d) x w' := by
  have c0 : w.cell? ⟨p, 0, none⟩ = some (.slice (some ⟨sb, 0, none⟩) d.n sc) := hd.blk.cell 0
  have c4 : w.cell? ⟨p, 4, none⟩ = some (.bool d.off) := hd.blk.cell 4
  rw [hoff] at c4
  have e1 : decide ((d.n : Int) < 8) = false := decide_eq_false (by omega)
  have e1' : decide (d.n < 8) = false := decide_eq_false (by omega)
  have HD := Lib.hid hd
  have HD8 := Lib.hid h8
  have HOFF := Lib.hid hoff
  have HCS := Lib.hid hcs
  obtain ⟨r, hrr⟩ : ∃ r, openJ d = r := ⟨_, rfl⟩
  rw [hrr]
  have HRR := Lib.hid hrr
  clear hd hoff hcs h8 hrr
  go_enter Tryz.func25, Tryz.ntmps25
  go_wp2_with fail
  go_loopw [4, 5] (fun v i wr => ∃ k : Nat, k ≤ 2 ∧ i = .int .i64 k ∧ v = .int .i64 (newK d k) ∧ Only [] w wr) (fun _ i _ => 2 - (Go.RowKit.intOf i).toNat)
  case atStart => exact ⟨0, by omega, rfl, rfl, Only.refl _ _⟩
  case round =>
    obtain ⟨k, hk, rfl, rfl, ho⟩ := hrel
    by_cases hlt : k < 2
    · have e2 : decide ((k : Int) < 2) = true := decide_eq_true (by omega)
      have e2' : decide (k < 2) = true := decide_eq_true hlt
      have HR := Lib.hid (rread_any (HD.out.only0 ho) (k : Int))
      have hgi := getR_g (rdD d (k : Int))
      obtain ⟨⟨M, ok⟩, hM⟩ : ∃ R, getR (rdD d (k : Int)) = R := ⟨_, rfl⟩
      have hhk : headOk d (k : Int) = if ok = true ∧ 1 ≤ M.g ∧ M = ⟨1, M.g, 0, 0⟩ ∧ M.g % 2 = (k : Int) then some M.g else none := by
        unfold headOk
        rw [hM]
      have hst := newK_step d k hlt
      have hin := newK_in d k hk
      obtain ⟨L, hL⟩ : ∃ L, rdD d (k : Int) = L := ⟨_, rfl⟩
      rw [hL] at HR hM hgi
      have HGM := Lib.hid (fun A n c B w (hr : Bytes w B A n L) hB hnc hcm => rget_any A n c B L w hr hB hnc hcm)
      rw [hM] at HGM hgi
      rw [hhk] at hst
      have HO := Lib.hid ho
      obtain ⟨N, hN⟩ : ∃ N, newK d k = N := ⟨_, rfl⟩
      rw [hN] at hin hst ⊢
      clear ho hN hM hL hhk
      obtain ⟨mk, mg, ms, mn⟩ := M
      unfold Frame.Mark.val at HGM
      simp only at hst hgi HGM
      have HST := Lib.hid hst
      clear hst
      have h1 := i64_and1 mg
      by_cases hy : ok = true ∧ 1 ≤ mg ∧ (⟨mk, mg, ms, mn⟩ : Frame.Mark) = ⟨1, mg, 0, 0⟩ ∧ mg % 2 = (k : Int)
      · have HS2 : Hid (newK d (k + 1) = max N mg) := Lib.hid (by rw [HST.out, if_pos hy]; rfl)
        obtain ⟨rfl, y2, y3, y4⟩ := hy
        injection y3 with y5 _ y6 y7
        subst y5
        subst y6
        subst y7
        have q1 : decide (1 ≤ mg) = true := decide_eq_true y2
        go_wp2_with (first
          | (go_at_call 76; refine HR.out.mono ?_; rintro x w2 ⟨v2, n2, rfl, hb2, ho2⟩; obtain ⟨A2, c2, rfl, h21, h22, hby2, _⟩ := hb2.shape; have HMG := Lib.hid (HGM.out A2 n2 c2 _ w2 hby2 (Nat.le_refl _) h21 h22); have HO2 := Lib.hid (HO.out.trans ho2 (by simp)); clear hb2 hby2 ho2)
          | (go_at_call 77; refine HMG.out.mono ?_; rintro x w3 ⟨rfl, ho3⟩; have HO3 := Lib.hid (HO2.out.trans ho3 (by simp)); clear ho3))
        go_roundw
        case measure => simp [Go.RowKit.intOf]; omega
        case rel => exact ⟨k + 1, by omega, by go_num, by rw [HS2.out], by first | exact HO3.out.alloc _ | exact (HO3.out.alloc _).alloc _⟩
      · have HS2 : Hid (newK d (k + 1) = N) := Lib.hid (by rw [HST.out, if_neg hy]; show max N 0 = N; omega)
        have HY := Lib.hid hy
        clear hy
        go_wp2_with (first
          | (go_at_call 76; refine HR.out.mono ?_; rintro x w2 ⟨v2, n2, rfl, hb2, ho2⟩; obtain ⟨A2, c2, rfl, h21, h22, hby2, _⟩ := hb2.shape; have HMG := Lib.hid (HGM.out A2 n2 c2 _ w2 hby2 (Nat.le_refl _) h21 h22); have HO2 := Lib.hid (HO.out.trans ho2 (by simp)); clear hb2 hby2 ho2)
          | (go_at_call 77; refine HMG.out.mono ?_; rintro x w3 ⟨rfl, ho3⟩; have HO3 := Lib.hid (HO2.out.trans ho3 (by simp)); clear ho3))
        all_goals first
          | (exact absurd ⟨‹ok = true›, ‹1 ≤ mg›, by rw [‹mk = 1›, ‹ms = 0›, ‹mn = 0›], by simpa using ‹(mg % 2 == (k : Int)) = true›⟩ HY.out; done)
          | (go_roundw
             case measure => simp [Go.RowKit.intOf]; omega
             case rel => exact ⟨k + 1, by omega, by go_num, by rw [HS2.out], by first | exact HO3.out.alloc _ | exact (HO3.out.alloc _).alloc _⟩)
    · obtain rfl : k = 2 := by omega
      have hnk : newK d 2 = newestD d := rfl
      rw [hnk]
      have hcs := HCS.out
      have HNW := Lib.hid hcs
      have HNN : Hid (d.n = n0) := Lib.hid (by rw [hcs]; rfl)
      have HCH := Lib.hid (new_chain n0 (by have h := HD8.out; rw [HNN.out] at h; exact h) (by have h := HD.out.n0; rw [HNN.out] at h; omega))
      have hz : newestD d = 0 := by rw [hcs]; obtain ⟨_, _, _, _, h, _⟩ := HCH.out; exact h
      rw [hz]
      have hd2 : 2 ≤ d.n := by have := HD8.out; omega
      clear HCS hcs hz
      obtain ⟨D1, D2, D3, D4, k0, k1, k2, k3, k4, k5, n1, n2, n3, n4, m1, m2, m3, m4⟩ := HCH.out
      obtain ⟨q, hq⟩ : ∃ q, wr.heap.size = q := ⟨_, rfl⟩
      have e0 : ((0 : Int) == 0) = true := rfl
      have HN4 := Lib.hid n4
      have HW1 := Lib.hid (fun wx (h : IsR (q :: X) wx p sb sc wb base d) A n c hb hn => rwrite_0 h (show wrD d (halfD (newD n0) 1).fr Journal.zeros = (D1, true) from by rw [HNW.out]; exact k1) A n c hb hn (by first | omega | (rw [HNW.out]; show (0 : Int) < _; decide) | (show (0 : Int) < _; decide)))
      have HS2 := Lib.hid (fun wx (h : IsR (q :: X) wx p sb sc wb base D1) => rsync_0 h k2 (by omega))
      have HW3 := Lib.hid (fun wx (h : IsR (q :: X) wx p sb sc wb base D2) A n c hb hn => rwrite_0 h k3 A n c hb hn (by omega))
      have HS4 := Lib.hid (fun wx (h : IsR (q :: X) wx p sb sc wb base D3) => rsync_0 h k4 (by omega))
      have hpbl : (putB ⟨1, 1, 0, 0⟩).length ≤ 1000000 := by have := putB_len ⟨1, 1, 0, 0⟩; omega
      have HPU0 : Hid (∀ wx, Calls Tryz.prog 81 #[.agg #[.int .i64 1, .int .i64 1, .int .i64 0, .int .i64 0]] wx fun x w' => ∃ v, x = .returned v ∧ OwnB w' wx.heap.size v (putB ⟨1, 1, 0, 0⟩).length (putB ⟨1, 1, 0, 0⟩) ∧ Only [] wx w') := Lib.hid (fun wx => rput_any ⟨1, 1, 0, 0⟩ wx)
      have HPU := HPU0
      obtain ⟨PB, hPB⟩ : ∃ m, putB ⟨1, 1, 0, 0⟩ = m := ⟨_, rfl⟩
      rw [hPB] at HPU hpbl HW3
      have HPBL := Lib.hid hpbl
      obtain ⟨h, hh⟩ : ∃ h, halfD d 1 = h := ⟨_, rfl⟩
      have hhd : halfD (newD n0) 1 = h := by rw [← HNW.out]; exact hh
      have HFI := Lib.hid (fun (wx : World) (ho : Only [] w wx) => rfirst_any (HD.out.only0 ho) (by omega) 1 ⟨by omega, by omega⟩)
      have HHF : Hid (halfD D4 1 = h) := Lib.hid (by
        rw [← hh]
        unfold halfD roomD
        rw [n4, HNN.out])
      rw [hh] at HFI
      rw [hhd] at HW1 k5
      have hrr : r = (D4, some ⟨h, allH D4 h, false⟩, 0) := by rw [← HRR.out, HNW.out, k5]
      subst hrr
      have hlg : h.gen = 1 := by rw [← hh]; rfl
      obtain ⟨hg1, fr, room⟩ := h
      simp only at hlg HFI HW1
      have hlg := hlg.symm
      subst hlg
      have HQS : Hid (w.heap.size ≤ q) := Lib.hid (by rw [← hq]; exact ho.size)
      obtain ⟨w2, hw2⟩ : ∃ w2, wr.alloc (.cells #[.pointer (some ⟨p, 0, none⟩), .int .i64 0, .slice none 0 0, .bool false] 55) = w2 := ⟨_, rfl⟩
      have hb2 : Blk w2 q 55 #[.pointer (some ⟨p, 0, none⟩), .int .i64 0, .slice none 0 0, .bool false] := by rw [← hw2, ← hq]; exact Blk.new wr _ _
      have ho2 : Only [] w w2 := by rw [← hw2]; exact ho.alloc _
      have HQF : Hid (q ∉ [p, sb, wb]) := Lib.hid ((HD.out.only0 ho2).far hb2 (by decide) (by decide))
      have HQX : Hid (∀ k ∈ [q], w.heap.size ≤ k) := Lib.hid (fun k hk => by rw [List.mem_singleton.1 hk]; exact HQS.out)
      have f2 := hb2.frozen 1
      have c2 := hb2.cell 1
      obtain ⟨w3, hw3⟩ : ∃ w3, w2.setCell ⟨q, 1, none⟩ (.int .i64 1) = w3 := ⟨_, rfl⟩
      have hb3 : Blk w3 q 55 #[.pointer (some ⟨p, 0, none⟩), .int .i64 1, .slice none 0 0, .bool false] := by rw [← hw3]; exact hb2.set_ 1 _
      have ho3 : Only [] w w3 := by rw [← hw3]; exact ho2.trans ((Only.refl [q] w2).setCell (p := ⟨q, 1, none⟩) (.inl (by simp)) _) (fun k hk => .inr (HQX.out k hk))
      have HDQ : Hid (IsR (q :: X) w3 p sb sc wb base d) := Lib.hid (HD.out.turn ho3 ⟨by simp, by simp, by simp⟩ (by simp) (fun k hk => by
        rcases List.mem_cons.1 hk with e | e
        · exact .inr (by rw [e]; exact HQS.out)
        · exact .inl e) (fun k hk => by
        rcases List.mem_cons.1 hk with e | e
        · rw [e]; exact hb3.lt
        · exact Nat.lt_of_lt_of_le (HD.out.xlt k e) ho3.size))
      obtain ⟨i1, hi1, hy0, hy1, hy2⟩ := info_parts byte_info
      obtain ⟨w5, hrun, hmk, hgk⟩ := run_make_full (P := Tryz.prog) w3.drew w3.drew.heap.size 35 5 i1 _ 1 Tryz.underlying35 hi1 hy0 hy1 .i64 .i64 64 (by rw [hy2]; decide) (by decide) (Nat.le_refl _)
      have ho35 : Only [] w3 w5 := ((Only.refl [] w3).drew).trans (Only.of_grown hgk) (by simp)
      have hrun' : Sem.run Tryz.prog (Instr.makeSlice 35 (.int .i64 64) (.int .i64 64)) w3.drew = .ok (.slice (some ⟨w3.heap.size, 0, none⟩) 64 64) w5 := hrun
      have hsec : SecAt w5 ⟨some ⟨w3.heap.size, 0, none⟩, 64, 64, Journal.zeros⟩ := ⟨w3.heap.size, rfl, rfl, rfl, made_blk [] hmk, by simp [Journal.zeros]⟩
      have HBZ : Hid (Bytes w5 w5.heap.size (some ⟨w3.heap.size, 0, none⟩) 64 Journal.zeros) := Lib.hid hsec.bytes
      have HO5 := Lib.hid (ho3.trans ho35 (by simp))
      have HDQ5 := Lib.hid (HDQ.out.only0 ho35)
      have HB5 := Lib.hid (hb3.only ho35 (by simp))
      have HFI3 := Lib.hid (HFI.out w3.drew ho3.drew)
      have HFI5 := Lib.hid (HFI.out w5 HO5.out)
      clear hrun hmk hgk hsec ho35 hi1 hy0 hy1 hy2 hb3 ho3 hpbl hPB k1 k2 k3 k4 k5 hh hhd n1 n2 n3 n4 m1 m2 m3 m4 k0 ho ho2 HFI
      go_wp2_with fail
      try rw [hq]
      try rw [hw2]
      refine wp_region_hand (S := fun _ => True) (by kernel_rfl) ?_
      refine takeV 0 (.pointer (some ⟨p, 0, none⟩)) rfl rfl (by kernel_rfl) (fun _ _ => by go_simp) trivial ?_; simp only [s0A, s0B, s0C]
      refine takeV 1 (.pointer (some ⟨p, 0, none⟩)) rfl rfl (by kernel_rfl) (fun _ _ => by go_simp) trivial ?_; simp only [s0A, s0B, s0C]
      refine twoH (i := 2) (j := 3) rfl rfl (by kernel_rfl) rfl rfl ?_ ?_
      · refine call_if rfl (by rfl) ?_ HFI3.out ?_
        · go_simp
        rintro x wx ⟨rfl, hwx⟩
        subst hwx
        refine ⟨_, rfl, trivial, ?_⟩
        simp only [s0A, s0B, s0C]
        refine oneW (i := 3) (v := .slice (some ⟨w3.heap.size, 0, none⟩) 64 64) (w' := w5) rfl (by kernel_rfl) rfl (by rfl) (by go_simp) trivial ?_; simp only [s0A, s0B, s0C]
        refine callW (i := 4) rfl (by kernel_rfl) rfl (by rfl) ?_ (HW1.out w5 HDQ5.out (some ⟨w3.heap.size, 0, none⟩) 64 64 HBZ.out (by decide)) ?_
        · go_simp
        rintro x w6 ⟨e6, rfl, he6, he6n, hd6, ho6⟩
        have he6n : (e6 != 0) = false := he6n
        have HD6 := Lib.hid hd6
        have HO6 := Lib.hid ho6
        clear hd6 ho6
        refine ⟨_, rfl, trivial, ?_⟩
        simp only [s0A, s0B, s0C]
        refine takeV 5 (.bool false) rfl rfl (by kernel_rfl) (fun _ _ => by go_simp) trivial ?_; simp only [s0A, s0B, s0C]
        refine takeV 6 (.bool false) rfl rfl (by kernel_rfl) (fun _ _ => by go_simp) trivial ?_; simp only [s0A, s0B, s0C]
        refine takeV 7 (.pointer (some ⟨p, 0, none⟩)) rfl rfl (by kernel_rfl) (fun _ _ => by go_simp) trivial ?_; simp only [s0A, s0B, s0C]
        refine callW (i := 8) rfl (by kernel_rfl) rfl (by rfl) ?_ (HS2.out w6 HD6.out) ?_
        · go_simp
        rintro x w7 ⟨e7, rfl, he7, he7n, hd7, ho7⟩
        have he7n : (e7 != 0) = false := he7n
        have HD7 := Lib.hid hd7
        have HO7 := Lib.hid ho7
        clear hd7 ho7
        refine ⟨_, rfl, trivial, ?_⟩
        simp only [s0A, s0B, s0C]
        refine takeV 9 (.bool false) rfl rfl (by kernel_rfl) (fun _ _ => by go_simp) trivial ?_; simp only [s0A, s0B, s0C]
        refine takeV 10 (.bool false) rfl rfl (by kernel_rfl) (fun _ _ => by go_simp) trivial ?_; simp only [s0A, s0B, s0C]
        refine takeV 11 (.bool false) rfl rfl (by kernel_rfl) (fun _ _ => by go_simp) trivial ?_; simp only [s0A, s0B, s0C]
        refine takeV 12 (.pointer (some ⟨p, 0, none⟩)) rfl rfl (by kernel_rfl) (fun _ _ => by go_simp) trivial ?_; simp only [s0A, s0B, s0C]
        refine takeV 13 (.agg #[.int .i64 1, .int .i64 1, .int .i64 0, .int .i64 0]) rfl rfl (by kernel_rfl) (fun _ _ => by go_simp) trivial ?_; simp only [s0A, s0B, s0C]
        refine callW (i := 14) rfl (by kernel_rfl) rfl (by rfl) ?_ (HPU.out w7) ?_
        · go_simp
        rintro x w8 ⟨v8, rfl, hown8, ho8⟩
        obtain ⟨A8, c8, rfl, _, _, hb8, _⟩ := hown8.shape
        have HW8 := Lib.hid (HW3.out w8 (HD7.out.only0 ho8) A8 _ c8 hb8 HPBL.out)
        have HO8 := Lib.hid ho8
        clear hown8 hb8 ho8
        refine ⟨_, rfl, trivial, ?_⟩
        simp only [s0A, s0B, s0C]
        refine callW (i := 15) rfl (by kernel_rfl) rfl (by rfl) ?_ (HW8.out) ?_
        · go_simp
        rintro x w9 ⟨e9, rfl, he9, he9n, hd9, ho9⟩
        have he9n : (e9 != 0) = false := he9n
        have HD9 := Lib.hid hd9
        have HO9 := Lib.hid ho9
        clear hd9 ho9
        refine ⟨_, rfl, trivial, ?_⟩
        simp only [s0A, s0B, s0C]
        refine takeV 16 (.bool false) rfl rfl (by kernel_rfl) (fun _ _ => by go_simp) trivial ?_; simp only [s0A, s0B, s0C]
        refine takeV 17 (.bool false) rfl rfl (by kernel_rfl) (fun _ _ => by go_simp) trivial ?_; simp only [s0A, s0B, s0C]
        refine takeV 18 (.bool false) rfl rfl (by kernel_rfl) (fun _ _ => by go_simp) trivial ?_; simp only [s0A, s0B, s0C]
        refine takeV 19 (.pointer (some ⟨p, 0, none⟩)) rfl rfl (by kernel_rfl) (fun _ _ => by go_simp) trivial ?_; simp only [s0A, s0B, s0C]
        refine callW (i := 20) rfl (by kernel_rfl) rfl (by rfl) ?_ (HS4.out w9 HD9.out) ?_
        · go_simp
        rintro x wa ⟨ea, rfl, hea, hean, hda, hoa⟩
        have hean : (ea != 0) = false := hean
        have HDA := Lib.hid hda
        have HOA := Lib.hid hoa
        clear hda hoa
        refine ⟨_, rfl, trivial, ?_⟩
        simp only [s0A, s0B, s0C]
        refine takeV 21 (.bool false) rfl rfl (by kernel_rfl) (fun _ _ => by go_simp) trivial ?_; simp only [s0A, s0B, s0C]
        refine takeV 22 (.bool false) rfl rfl (by kernel_rfl) (fun _ _ => by go_simp) trivial ?_; simp only [s0A, s0B, s0C]
        refine wpAnyH_done (by kernel_rfl) ?_ _
        clear he6 he6n he7 he7n he9 he9n hea hean
        have HOX : Hid (Only [p, sb, wb] w wa) := Lib.hid ((((((HO5.out.mono (by simp)).trans HO6.out (fun k hk => .inl hk)).trans HO7.out (fun k hk => .inl hk)).trans (HO8.out.mono (by simp)) (fun k hk => .inl hk)).trans HO9.out (fun k hk => .inl hk)).trans HOA.out (fun k hk => .inl hk))
        have HBX : Hid (Blk wa q 55 #[.pointer (some ⟨p, 0, none⟩), .int .i64 1, .slice none 0 0, .bool false]) := Lib.hid ((((((HB5.out.only HO6.out HQF.out).only HO7.out HQF.out).only HO8.out (by simp)).only HO9.out HQF.out).only HOA.out HQF.out))
        have ca := HBX.out.cell 1
        have HGR := Lib.hid (rgroups_any HDA.out (by rw [HN4.out, ← HNN.out]; exact hd2) 1 ⟨by omega, by omega⟩)
        rw [HHF.out] at HGR
        have HOXs := HOX.out.size
        go_wp2_with (first
          | (go_at_call 82; refine HGR.out.mono ?_; rintro x wb' ⟨A, n, c, rfl, hfg⟩; have HFG := Lib.hid hfg; have hob : Only [] wa wb' := (by obtain ⟨_, _, _, _, _, _, _, _, h⟩ := hfg; exact h); have HOB := Lib.hid hob; have hbb := HBX.out.only hob (by simp); have HBB := Lib.hid hbb; have fb := hbb.frozen 2; have cb := hbb.cell 2; clear hfg hob hbb))
        go_ret2
        have hset : Only [q] wb' (wb'.setCell ⟨q, 2, none⟩ (.slice A n c)) := (Only.refl [q] wb').setCell (p := ⟨q, 2, none⟩) (.inl (by simp)) _
        have hlr := HFG.out.lr (T := q :: p :: sb :: wb :: X) (fun k hk => by
          have h1 := HDA.out.lt3
          have h3 := HDA.out.xlt
          have h2 := HBX.out.lt
          simp only [List.mem_cons] at hk
          rcases hk with e | e | e | e | e
          · omega
          · exact h1 k (by simp [e])
          · exact h1 k (by simp [e])
          · exact h1 k (by simp [e])
          · exact h3 k (by simp [e]))
        exact ⟨q, _, rfl, rfl, HQS.out, ⟨A, n, c, HBB.out.set_ 2 _, hlr.only hset (fun k hk => .inl (by rw [List.mem_singleton.1 hk]; simp)) (fun k hk => .inl hk)⟩, (HDA.out.only0 HOB.out).turn hset (by have := HQF.out; simp only [List.mem_cons, not_or, List.not_mem_nil, not_false_eq_true, and_true] at this ⊢; exact ⟨fun e => this.1 e.symm, fun e => this.2.1 e.symm, fun e => this.2.2 e.symm⟩) (fun k hk => .inl (by rw [List.mem_singleton.1 hk]; simp)) (fun k hk => .inl hk) (fun k hk => Nat.lt_of_lt_of_le (HDA.out.xlt k hk) (Nat.le_trans HOB.out.size hset.size)), (HOX.out.trans (HOB.out.mono (by simp)) (fun k hk => .inl hk)).trans hset (fun k hk => .inr (by rw [List.mem_singleton.1 hk]; exact HQS.out))⟩
      · refine val_if rfl (by rfl) (v := .slice (some ⟨w3.heap.size, 0, none⟩) 64 64) (w' := w5) (by go_simp) ?_
        refine ⟨trivial, ?_⟩
        simp only [s0A, s0B, s0C]
        refine callW (i := 2) rfl (by kernel_rfl) rfl (by rfl) ?_ HFI5.out ?_
        · go_simp
        rintro x wx ⟨rfl, hwx⟩
        have hwx := hwx.symm
        subst hwx
        refine ⟨_, rfl, trivial, ?_⟩
        simp only [s0A, s0B, s0C]
        refine callW (i := 4) rfl (by kernel_rfl) rfl (by rfl) ?_ (HW1.out w5 HDQ5.out (some ⟨w3.heap.size, 0, none⟩) 64 64 HBZ.out (by decide)) ?_
        · go_simp
        rintro x w6 ⟨e6, rfl, he6, he6n, hd6, ho6⟩
        have he6n : (e6 != 0) = false := he6n
        have HD6 := Lib.hid hd6
        have HO6 := Lib.hid ho6
        clear hd6 ho6
        refine ⟨_, rfl, trivial, ?_⟩
        simp only [s0A, s0B, s0C]
        refine takeV 5 (.bool false) rfl rfl (by kernel_rfl) (fun _ _ => by go_simp) trivial ?_; simp only [s0A, s0B, s0C]
        refine takeV 6 (.bool false) rfl rfl (by kernel_rfl) (fun _ _ => by go_simp) trivial ?_; simp only [s0A, s0B, s0C]
        refine takeV 7 (.pointer (some ⟨p, 0, none⟩)) rfl rfl (by kernel_rfl) (fun _ _ => by go_simp) trivial ?_; simp only [s0A, s0B, s0C]
        refine callW (i := 8) rfl (by kernel_rfl) rfl (by rfl) ?_ (HS2.out w6 HD6.out) ?_
        · go_simp
        rintro x w7 ⟨e7, rfl, he7, he7n, hd7, ho7⟩
        have he7n : (e7 != 0) = false := he7n
        have HD7 := Lib.hid hd7
        have HO7 := Lib.hid ho7
        clear hd7 ho7
        refine ⟨_, rfl, trivial, ?_⟩
        simp only [s0A, s0B, s0C]
        refine takeV 9 (.bool false) rfl rfl (by kernel_rfl) (fun _ _ => by go_simp) trivial ?_; simp only [s0A, s0B, s0C]
        refine takeV 10 (.bool false) rfl rfl (by kernel_rfl) (fun _ _ => by go_simp) trivial ?_; simp only [s0A, s0B, s0C]
        refine takeV 11 (.bool false) rfl rfl (by kernel_rfl) (fun _ _ => by go_simp) trivial ?_; simp only [s0A, s0B, s0C]
        refine takeV 12 (.pointer (some ⟨p, 0, none⟩)) rfl rfl (by kernel_rfl) (fun _ _ => by go_simp) trivial ?_; simp only [s0A, s0B, s0C]
        refine takeV 13 (.agg #[.int .i64 1, .int .i64 1, .int .i64 0, .int .i64 0]) rfl rfl (by kernel_rfl) (fun _ _ => by go_simp) trivial ?_; simp only [s0A, s0B, s0C]
        refine callW (i := 14) rfl (by kernel_rfl) rfl (by rfl) ?_ (HPU.out w7) ?_
        · go_simp
        rintro x w8 ⟨v8, rfl, hown8, ho8⟩
        obtain ⟨A8, c8, rfl, _, _, hb8, _⟩ := hown8.shape
        have HW8 := Lib.hid (HW3.out w8 (HD7.out.only0 ho8) A8 _ c8 hb8 HPBL.out)
        have HO8 := Lib.hid ho8
        clear hown8 hb8 ho8
        refine ⟨_, rfl, trivial, ?_⟩
        simp only [s0A, s0B, s0C]
        refine callW (i := 15) rfl (by kernel_rfl) rfl (by rfl) ?_ (HW8.out) ?_
        · go_simp
        rintro x w9 ⟨e9, rfl, he9, he9n, hd9, ho9⟩
        have he9n : (e9 != 0) = false := he9n
        have HD9 := Lib.hid hd9
        have HO9 := Lib.hid ho9
        clear hd9 ho9
        refine ⟨_, rfl, trivial, ?_⟩
        simp only [s0A, s0B, s0C]
        refine takeV 16 (.bool false) rfl rfl (by kernel_rfl) (fun _ _ => by go_simp) trivial ?_; simp only [s0A, s0B, s0C]
        refine takeV 17 (.bool false) rfl rfl (by kernel_rfl) (fun _ _ => by go_simp) trivial ?_; simp only [s0A, s0B, s0C]
        refine takeV 18 (.bool false) rfl rfl (by kernel_rfl) (fun _ _ => by go_simp) trivial ?_; simp only [s0A, s0B, s0C]
        refine takeV 19 (.pointer (some ⟨p, 0, none⟩)) rfl rfl (by kernel_rfl) (fun _ _ => by go_simp) trivial ?_; simp only [s0A, s0B, s0C]
        refine callW (i := 20) rfl (by kernel_rfl) rfl (by rfl) ?_ (HS4.out w9 HD9.out) ?_
        · go_simp
        rintro x wa ⟨ea, rfl, hea, hean, hda, hoa⟩
        have hean : (ea != 0) = false := hean
        have HDA := Lib.hid hda
        have HOA := Lib.hid hoa
        clear hda hoa
        refine ⟨_, rfl, trivial, ?_⟩
        simp only [s0A, s0B, s0C]
        refine takeV 21 (.bool false) rfl rfl (by kernel_rfl) (fun _ _ => by go_simp) trivial ?_; simp only [s0A, s0B, s0C]
        refine takeV 22 (.bool false) rfl rfl (by kernel_rfl) (fun _ _ => by go_simp) trivial ?_; simp only [s0A, s0B, s0C]
        refine wpAnyH_done (by kernel_rfl) ?_ _
        clear he6 he6n he7 he7n he9 he9n hea hean
        have HOX : Hid (Only [p, sb, wb] w wa) := Lib.hid ((((((HO5.out.mono (by simp)).trans HO6.out (fun k hk => .inl hk)).trans HO7.out (fun k hk => .inl hk)).trans (HO8.out.mono (by simp)) (fun k hk => .inl hk)).trans HO9.out (fun k hk => .inl hk)).trans HOA.out (fun k hk => .inl hk))
        have HBX : Hid (Blk wa q 55 #[.pointer (some ⟨p, 0, none⟩), .int .i64 1, .slice none 0 0, .bool false]) := Lib.hid ((((((HB5.out.only HO6.out HQF.out).only HO7.out HQF.out).only HO8.out (by simp)).only HO9.out HQF.out).only HOA.out HQF.out))
        have ca := HBX.out.cell 1
        have HGR := Lib.hid (rgroups_any HDA.out (by rw [HN4.out, ← HNN.out]; exact hd2) 1 ⟨by omega, by omega⟩)
        rw [HHF.out] at HGR
        have HOXs := HOX.out.size
        go_wp2_with (first
          | (go_at_call 82; refine HGR.out.mono ?_; rintro x wb' ⟨A, n, c, rfl, hfg⟩; have HFG := Lib.hid hfg; have hob : Only [] wa wb' := (by obtain ⟨_, _, _, _, _, _, _, _, h⟩ := hfg; exact h); have HOB := Lib.hid hob; have hbb := HBX.out.only hob (by simp); have HBB := Lib.hid hbb; have fb := hbb.frozen 2; have cb := hbb.cell 2; clear hfg hob hbb))
        go_ret2
        have hset : Only [q] wb' (wb'.setCell ⟨q, 2, none⟩ (.slice A n c)) := (Only.refl [q] wb').setCell (p := ⟨q, 2, none⟩) (.inl (by simp)) _
        have hlr := HFG.out.lr (T := q :: p :: sb :: wb :: X) (fun k hk => by
          have h1 := HDA.out.lt3
          have h3 := HDA.out.xlt
          have h2 := HBX.out.lt
          simp only [List.mem_cons] at hk
          rcases hk with e | e | e | e | e
          · omega
          · exact h1 k (by simp [e])
          · exact h1 k (by simp [e])
          · exact h1 k (by simp [e])
          · exact h3 k (by simp [e]))
        exact ⟨q, _, rfl, rfl, HQS.out, ⟨A, n, c, HBB.out.set_ 2 _, hlr.only hset (fun k hk => .inl (by rw [List.mem_singleton.1 hk]; simp)) (fun k hk => .inl hk)⟩, (HDA.out.only0 HOB.out).turn hset (by have := HQF.out; simp only [List.mem_cons, not_or, List.not_mem_nil, not_false_eq_true, and_true] at this ⊢; exact ⟨fun e => this.1 e.symm, fun e => this.2.1 e.symm, fun e => this.2.2 e.symm⟩) (fun k hk => .inl (by rw [List.mem_singleton.1 hk]; simp)) (fun k hk => .inl hk) (fun k hk => Nat.lt_of_lt_of_le (HDA.out.xlt k hk) (Nat.le_trans HOB.out.size hset.size)), (HOX.out.trans (HOB.out.mono (by simp)) (fun k hk => .inl hk)).trans hset (fun k hk => .inr (by rw [List.mem_singleton.1 hk]; exact HQS.out))⟩
end
end Go.Proofs.YthgfmoogagldmaaGreat.RefD
