/- RefG: The document's journal: groups; The document's journal: groups, walked. -/
import Derived.Test.YthgfmoogagldmaaGreatRefC
import Derived.Test.YthgfmoogagldmaaGreatJournalC
import Derived.Test.YthgfmoogagldmaaGreatRanges
set_option linter.unusedVariables false
set_option maxRecDepth 100000
namespace Go.Proofs.YthgfmoogagldmaaGreat.RefD
open Go.RowKit Go.Shelf Disk Journal Go.Proofs.YthgfmoogagldmaaGreat.Frame
def FreshG (w w' : World) (A : Option Addr) (n c : Nat) (ls : List (List UInt8)) : Prop := ∃ ss : List Sl, ss.length = n ∧ Reads w' w'.heap.size 1 A n (ss.map Sl.val) ∧ ss.map (·.l) = ls ∧
  (∀ s ∈ ss, Bytes w' w'.heap.size s.A s.n s.l ∧ s.n ≤ s.c ∧ s.c ≤ maxLen ∧ s.n ≤ 1048576 ∧ ∀ k ∈ blkOf s.A, w.heap.size ≤ k) ∧ (∀ k ∈ blkOf A, w.heap.size ≤ k) ∧ n ≤ c ∧ c ≤ maxLen ∧ Only [] w w'
section
variable {w w' wr : World} {p sb sc wb base : Nat} {d : DS} {X : List Nat} {ss : List Sl}
theorem IsR.rd_len (h : IsR X w p sb sc wb base d) (i : Int) : (rdD d i).length ≤ 64 := by
  unfold rdD
  split
  · simp
  · split
    · rename_i h1 h2
      obtain ⟨vs, hw1, hw2⟩ := h.wait
      obtain ⟨ts, hs1, hs2⟩ := h.safe
      have hvl : vs.length = d.n := by have := hw1.len; rwa [List.length_map] at this
      have hsl : ts.length = d.n := by have := hs1.len; rwa [List.length_map] at this
      obtain ⟨v, hv⟩ : ∃ v, vs[i.toNat]? = some v := ⟨_, List.getElem?_eq_getElem (by omega)⟩
      obtain ⟨t, ht⟩ : ∃ t, ts[i.toNat]? = some t := ⟨_, List.getElem?_eq_getElem (by omega)⟩
      unfold readD
      rcases hw2 _ v hv with ⟨hn, _⟩ | ⟨s, l, hs, _, hsec⟩
      · rw [hn]
        obtain ⟨_, _, hb, _⟩ := hs2 _ t ht
        have := hb.len
        simpa using by omega
      · rw [hs]
        obtain ⟨_, _, hb, _⟩ := hsec
        have := hb.len
        simpa using by omega
    · simp
structure OutG (w wr : World) (AA : Option Addr) (cc : Nat) (ss : List Sl) : Prop where
  own : OwnR 35 1 wr w.heap.size (.slice AA ss.length cc) ss.length (ss.map fun s => [s.val])
  ok : ∀ s ∈ ss, Bytes wr wr.heap.size s.A s.n s.l ∧ s.n ≤ s.c ∧ s.c ≤ maxLen ∧ s.n ≤ 1048576 ∧ (∀ k ∈ blkOf s.A, w.heap.size ≤ k) ∧ (0 < s.n → ∀ k ∈ blkOf s.A, k ∉ ownL (.slice AA ss.length cc))
  out : Only [] w wr
theorem OutG.fin {AA : Option Addr} {cc : Nat} (h : OutG w wr AA cc ss) : FreshG w wr AA ss.length cc (ss.map (·.l)) := by
  obtain ⟨A, cap, he, h1, h2, h3, h4⟩ := h.own.shape (by decide)
  injection he with e1 _ e2
  subst e1
  subst e2
  refine ⟨ss, rfl, reads_own h.own rfl, rfl, fun s hs => ⟨(h.ok s hs).1, (h.ok s hs).2.1, (h.ok s hs).2.2.1, (h.ok s hs).2.2.2.1, (h.ok s hs).2.2.2.2.1⟩, fun k hk => ?_, h1, h2, h.out⟩
  rcases h4 with ⟨rfl, _⟩ | ⟨g, rfl, hg, _⟩
  · cases hk
  · simp [blkOf] at hk
    omega
theorem OutG.only0 {AA : Option Addr} {cc : Nat} (h : OutG w wr AA cc ss) (ho : Only [] wr w') : OutG w w' AA cc ss :=
  ⟨h.own.only ho (by simp), fun s hs => by
    obtain ⟨h1, h2, h3, h4, h5, h6⟩ := h.ok s hs
    exact ⟨(h1.only ho (by simp)).more ho.size, h2, h3, h4, h5, h6⟩, h.out.trans ho (by simp)⟩
theorem OutG.next {AA : Option Addr} {cc : Nat} {w5 w6 : World} {v' : Value} {x : Sl} (h : OutG w wr AA cc ss) (h5 : Only [] wr w5) (hb : Bytes w5 w5.heap.size x.A x.n x.l) (h1 : x.n ≤ x.c) (h2 : x.c ≤ maxLen) (h3 : x.n ≤ 1048576) (hf : ∀ k ∈ blkOf x.A, wr.heap.size ≤ k)
    (hE : ExtR 35 1 w5 w6 w.heap.size (.slice AA ss.length cc) v' (ss.length + 1) ((ss.map fun s => [s.val]) ++ [[x.val]])) : ∃ A' c', v' = .slice A' (ss ++ [x]).length c' ∧ OutG w w6 A' c' (ss ++ [x]) := by
  have hown := hE.own
  rw [show (ss.map fun s => [s.val]) ++ [[x.val]] = (ss ++ [x]).map fun s => [s.val] from by rw [List.map_append]; rfl, show ss.length + 1 = (ss ++ [x]).length from by simp] at hown
  obtain ⟨A', c', rfl, _, _, _, _⟩ := hown.shape (by decide)
  have hw := h.out.size
  have hx := h.only0 h5
  have hself : ∀ t : Sl, Bytes w5 w5.heap.size t.A t.n t.l → (0 < t.n → ∀ k ∈ blkOf t.A, k ∉ ownL (.slice AA ss.length cc)) → 0 < t.n → ∀ k ∈ blkOf t.A, k ∉ ownL (.slice A' (ss ++ [x]).length c') := fun t h1 h2 hn k hk hm => by
    rcases hE.fresh k hm with e | e
    · exact h2 hn k hk e
    · have := bytes_lt h1 hn k hk; omega
  have hnew : 0 < x.n → ∀ k ∈ blkOf x.A, k ∉ ownL (.slice AA ss.length cc) := fun hn k hk hm => by
    have h1 := hf k hk
    have h2 := h.own.lt k hm
    omega
  refine ⟨A', c', rfl, hown, fun s hs => ?_, hx.out.trans hE.only (fun g hg => .inr (hx.own.lt g hg).1)⟩
  rcases List.mem_append.1 hs with hs | hs
  · obtain ⟨t1, t2, t3, t4, t5, t6⟩ := hx.ok s hs
    exact ⟨(t1.only_pos hE.only t6).more hE.only.size, t2, t3, t4, t5, hself s t1 t6⟩
  · rw [List.mem_singleton.1 hs]
    exact ⟨(hb.only_pos hE.only hnew).more hE.only.size, h1, h2, h3, fun k hk => by have := hf k hk; omega, hself x hb hnew⟩
end
theorem flatten64 : ∀ (ss : List (List UInt8)), (∀ s ∈ ss, s.length = 64) → ss.flatten.length = 64 * ss.length
  | [], _ => rfl
  | a :: t, h => by
    rw [List.flatten_cons, List.length_append, h a (by simp), flatten64 t (fun s hs => h s (by simp [hs])), List.length_cons]
    omega
theorem unpL_need {ss : List (List UInt8)} {n : Int} {b : List UInt8} (h : unpL ss n = some b) : needZ b.length = (ss.length : Int) ∧ (b.length : Int) = n := by
  unfold unpL at h
  split at h
  · cases h
  · rename_i h1
    split at h
    · cases h
    · rename_i h2
      split at h
      · cases h
      · injection h with h
        have h64 : ∀ s ∈ ss, s.length = 64 := by simpa using h2
        have hf := flatten64 ss h64
        have hle := need_le n ss.length (by omega) (by omega)
        have hl : (b.length : Int) = n := by
          rw [← h, List.length_take, hf]
          omega
        refine ⟨?_, hl⟩
        rw [hl]
        omega
theorem group_odd {d : DS} {h : Half} {a seq : Int} (hb : (getR (rdD d (h.fr + a))).2 = false ∨ (getR (rdD d (h.fr + a))).1.k ≠ 2 ∨ (getR (rdD d (h.fr + a))).1.g ≠ h.gen ∨ (getR (rdD d (h.fr + a))).1.s ≠ seq ∨
    1048576 < (getR (rdD d (h.fr + a))).1.n / 4294967296 ∨ h.room < a + 1 + needZ ((getR (rdD d (h.fr + a))).1.n / 4294967296)) : groupH d h a seq = none := by
  unfold groupH
  simp only
  split
  · rfl
  · rename_i h1
    split
    · rfl
    · rename_i b hbb
      split
      · rename_i hm
        exfalso
        rcases hb with e | e | e | e | e | e
        · exact h1 (.inl e)
        · rw [← hm] at e; exact e rfl
        · rw [← hm] at e; exact e rfl
        · rw [← hm] at e; exact e rfl
        · exact h1 (.inr (.inl e))
        · exact h1 (.inr (.inr e))
      · rfl
theorem neq_rmark (x y : Frame.Mark) (w : World) : (binOp .neq 134 (.agg #[.int .i64 x.k, .int .i64 x.g, .int .i64 x.s, .int .i64 x.n]) (.agg #[.int .i64 y.k, .int .i64 y.g, .int .i64 y.s, .int .i64 y.n])).run Tryz.prog w = .ok (.bool (!decide (x = y))) w := by
  have u_int := Tryz.underlying3
  have a_int : ∀ w, (isAgg 3).run Tryz.prog w = .ok false w := fun _ => by kernel_rfl
  have z_int : ∀ w, (Go.sizeOf 3).run Tryz.prog w = .ok 1 w := fun _ => by kernel_rfl
  have u_i64 := Tryz.underlying2
  have a_i64 : ∀ w, (isAgg 2).run Tryz.prog w = .ok false w := fun _ => by kernel_rfl
  have z_i64 : ∀ w, (Go.sizeOf 2).run Tryz.prog w = .ok 1 w := fun _ => by kernel_rfl
  have hS : Tryz.prog.underlying 134 = some (.struct (Tryz.prog.fieldsOf 134)) := by kernel_rfl
  have hp : Tryz.prog.stoodInHeld 134 = false := by kernel_rfl
  have hd : decide (x = y) = decide (x.k = y.k ∧ x.g = y.g ∧ x.s = y.s ∧ x.n = y.n) := by rw [decide_eq_decide]; exact mark_ext x y
  rw [hd]
  obtain ⟨a, b, c, d⟩ := x
  obtain ⟨a', b', c', d'⟩ := y
  simp only
  rw [run_neq_struct, show (10000 : Nat) = 9999 + 1 from rfl, run_equalIn_agg w 9999 _ _ _ hS hp]
  simp only [Program.fieldsOf, Tryz.underlying134]
  go_simp
  by_cases h1 : a = a' <;> by_cases h2 : b = b' <;> by_cases h3 : c = c' <;> by_cases h4 : d = d' <;> simp [h1, h2, h3, h4]
end Go.Proofs.YthgfmoogagldmaaGreat.RefD
namespace Go.Proofs.YthgfmoogagldmaaGreat.RefD
open Go.RowKit Go.Shelf Disk Journal Go.Proofs.YthgfmoogagldmaaGreat.Frame
section
variable {w w' wr : World} {p sb sc wb base : Nat} {d : DS} {X : List Nat}
set_option maxHeartbeats 8000000 in
theorem rgroups_any (hd : IsR X w p sb sc wb base d) (h2 : 2 ≤ d.n) (gen : Int) (hg : 0 ≤ gen ∧ gen ≤ 4611686018427387904) :
    Calls Tryz.prog 82 #[.pointer (some ⟨p, 0, none⟩), .int .i64 gen] w fun x w' => ∃ A n c, x = .returned (.slice A n c) ∧ FreshG w w' A n c (allH d (halfD d gen)) := by
  have HRM := Lib.hid (fun (wx : World) (ho : Only [] w wx) => rroom_any (hd.only0 ho) h2)
  have HFI := Lib.hid (fun (wx : World) (ho : Only [] w wx) => rfirst_any (hd.only0 ho) h2 gen hg)
  have HRD := Lib.hid (fun (wx : World) (ho : Only [] w wx) (i : Int) => rread_any (hd.only0 ho) i)
  have HLN := Lib.hid (fun i => hd.rd_len i)
  have hn1 := hd.n0
  have hrm : 0 ≤ roomD d ∧ roomD d ≤ 40000 := by unfold roomD; omega
  have hfr : 0 ≤ (halfD d gen).fr ∧ (halfD d gen).fr ≤ 50000 := by
    unfold halfD
    simp only
    have hm : gen % 2 = 0 ∨ gen % 2 = 1 := by omega
    rcases hm with hm | hm <;> rw [hm] <;> omega
  obtain ⟨h, hh⟩ : ∃ h, halfD d gen = h := ⟨_, rfl⟩
  have hgen : h.gen = gen := by rw [← hh]; rfl
  have hroom : h.room = roomD d := by rw [← hh]; rfl
  rw [hh] at hfr HFI ⊢
  rw [← hroom] at hrm HRM
  obtain ⟨hg_, fr, room⟩ := h
  simp only at hgen hroom hrm hfr HRM HFI
  subst hgen
  obtain ⟨gen, hgen⟩ : ∃ gen, gen = hg_ := ⟨_, rfl⟩
  subst hgen
  obtain ⟨g0, g1⟩ := hg
  obtain ⟨rm0, rm1⟩ := hrm
  obtain ⟨fr0, fr1⟩ := hfr
  clear hd hh hroom
  go_enter Tryz.func82, Tryz.ntmps82
  go_wp2_with fail
  go_loopw [5, 6] (fun v i wr => ∃ (AA : Option Addr) (cc : Nat) (ss : List Sl) (a : Int) (f : Nat), v = .slice AA ss.length cc ∧ i = .int .i64 a ∧ OutG w wr AA cc ss ∧ 0 ≤ a ∧ a ≤ 200000 ∧ (ss.length : Int) ≤ a ∧ ss.map (·.l) ++ groupsH d ⟨gen, fr, room⟩ f a ss.length = allH d ⟨gen, fr, room⟩ ∧ room ≤ a + f) (fun _ i _ => room.toNat - (Go.RowKit.intOf i).toNat)
  case atStart => exact ⟨none, 0, [], 0, room.toNat, rfl, rfl, ⟨OwnR.nil_ _ _ _ _, by simp, Only.refl _ _⟩, by omega, by omega, by simp, by simp [allH], by omega⟩
  case round =>
    obtain ⟨AA, cc, ss, a, f, rfl, rfl, hO, a0, a1, hsa, heq, hfu⟩ := hrel
    obtain ⟨w8, rfl⟩ : ∃ w8, w8 = wr := ⟨_, rfl⟩
    have HR8 := Lib.hid (HRM.out w8 hO.out)
    have HF8 := Lib.hid (HFI.out w8 hO.out)
    have HO8 := Lib.hid hO
    by_cases hlt : a < room
    · have d1 : decide (a < room) = true := decide_eq_true hlt
      have HD8 := Lib.hid (HRD.out w8 hO.out (fr + a))
      obtain ⟨L, hL⟩ : ∃ L, rdD d (fr + a) = L := ⟨_, rfl⟩
      rw [hL] at HD8
      have HGM := Lib.hid (fun A n c B w (hr : Bytes w B A n L) hB hnc hcm => rget_any A n c B L w hr hB hnc hcm)
      have hn := getR_n L
      obtain ⟨R, hR⟩ : ∃ R, getR L = R := ⟨_, rfl⟩
      have HODD := Lib.hid (fun hb => group_odd (d := d) (h := ⟨gen, fr, room⟩) (a := a) (seq := ss.length) hb)
      simp only at HODD
      rw [hL, hR] at HODD
      have HNO : Hid (groupH d ⟨gen, fr, room⟩ a ss.length = none → allH d ⟨gen, fr, room⟩ = ss.map (·.l)) := Lib.hid (fun hn => by
        rw [← heq, groupsH_no _ _ _ _ _ hn, List.append_nil])
      have HUN : Hid (groupH d ⟨gen, fr, room⟩ a ss.length = if R.2 = false ∨ 1048576 < R.1.n / 4294967296 ∨ room < a + 1 + needZ (R.1.n / 4294967296) then none
          else match unpL ((List.range (needZ (R.1.n / 4294967296)).toNat).map fun i : Nat => rdD d (fr + (a + 1 + (i : Int)))) (R.1.n / 4294967296) with
            | none => none
            | some b => if markH ⟨gen, fr, room⟩ ss.length b = R.1 then some b else none) := Lib.hid (by
        unfold groupH
        simp only
        rw [hL, hR]
        rfl)
      rw [hR] at HGM hn
      clear hL hR hO
      obtain ⟨⟨mk, mg, ms, mn⟩, ok⟩ := R
      unfold Frame.Mark.val at HGM
      simp only at hn HGM HODD HUN
      have hz1 : -2147483648 ≤ mn / 4294967296 ∧ mn / 4294967296 < 2147483648 := by omega
      have HN := Lib.hid (fun w => rneed_int (mn / 4294967296) w (by omega) (by omega))
      have hnz : 0 ≤ needZ (mn / 4294967296) ∧ needZ (mn / 4294967296) ≤ 100000000 ∧ (mn / 4294967296 ≤ 1048576 → needZ (mn / 4294967296) ≤ 16384) := by unfold needZ; split <;> omega
      obtain ⟨m, hm⟩ : ∃ m, needZ (mn / 4294967296) = m := ⟨_, rfl⟩
      rw [hm] at HN hnz HODD HUN
      have HM := Lib.hid hm
      obtain ⟨m0, m1, m2⟩ := hnz
      have HM2 := Lib.hid m2
      have HHN := Lib.hid hn
      have heqX := Lib.hid heq
      clear hm hn m2 heq hn1
      go_wp2_with (first
        | (go_at_call 34; refine HR8.out.mono ?_; rintro x wx ⟨rfl, hwx⟩; have hwx := hwx.symm; subst hwx)
        | (go_at_call 79; refine HF8.out.mono ?_; rintro x wx ⟨rfl, hwx⟩; have hwx := hwx.symm; subst hwx)
        | (go_at_call 76; refine HD8.out.mono ?_; rintro x w2 ⟨v2, n2, rfl, hb2, ho2⟩; obtain ⟨A2, c2, rfl, h21, h22, hby2, _⟩ := hb2.shape; have HMG := Lib.hid (HGM.out A2 n2 c2 _ w2 hby2 (Nat.le_refl _) h21 h22); have HO2 := Lib.hid ho2; clear hb2 hby2 ho2)
        | (go_at_call 77; refine HMG.out.mono ?_; rintro x w3 ⟨rfl, ho3⟩; have HO3 := Lib.hid (HO2.out.trans ho3 (by simp)); clear ho3)
        | (go_at_call 83; refine (HN.out _).mono ?_; rintro x wx ⟨rfl, rfl⟩)
        | (go_at_call 34; refine (HRM.out _ ((HO8.out.out.trans HO3.out (by simp)).alloc _)).mono ?_; rintro x wx ⟨rfl, hwx⟩; have hwx := hwx.symm; subst hwx))
      all_goals first
        | (go_ret; exact ⟨AA, ss.length, cc, rfl, by rw [HNO.out (HODD.out (by first | exact .inl (by simpa using ‹¬ok = true›) | exact .inr (by omega)))]; exact (HO8.out.only0 (HO3.out.alloc _)).fin⟩; done)
        | skip
      have k1 : ok = true := by assumption
      have k2 : mk = 2 := by assumption
      have k3 : mg = gen := by assumption
      have k4 : ms = (ss.length : Int) := by assumption
      have k6 : mn / 4294967296 ≤ 1048576 ∧ a + 1 + m ≤ room := by assumption
      subst k1
      subst k2
      subst k3
      subst k4
      obtain ⟨M, hM⟩ := Int.eq_ofNat_of_zero_le m0
      subst hM
      have hMle : M ≤ 16384 := by have := HM2.out k6.1; omega
      have HU2 : Hid (groupH d ⟨mg, fr, room⟩ a ss.length = match unpL ((List.range M).map fun i : Nat => rdD d (fr + (a + 1 + (i : Int)))) (mn / 4294967296) with
            | none => none
            | some b => if markH ⟨mg, fr, room⟩ ss.length b = ⟨2, mg, ss.length, mn⟩ then some b else none) := Lib.hid (by
        rw [HUN.out, if_neg (by simp; omega), Int.toNat_natCast])
      obtain ⟨w4, hw4⟩ : ∃ w4, w3.alloc (.cells #[.int .i64 2, .int .i64 mg, .int .i64 (ss.length : Int), .int .i64 mn] 134) = w4 := ⟨_, rfl⟩
      have ho4 : Only [] w8 w4 := by rw [← hw4]; exact HO3.out.alloc _
      have hm4 : Blk w4 w3.heap.size 134 #[.int .i64 2, .int .i64 mg, .int .i64 (ss.length : Int), .int .i64 mn] := by rw [← hw4]; exact Blk.new w3 _ _
      rw [hw4]
      obtain ⟨q, hq⟩ : ∃ q, w3.heap.size = q := ⟨_, rfl⟩
      rw [hq] at hm4 ⊢
      have HM4 := Lib.hid hm4
      have HO4 := Lib.hid ho4
      have HS4 := Lib.hid (HO8.out.out.trans ho4 (by simp))
      have a2 := k6.2
      clear hw4 hq hm4 ho4 HUN HODD HO3 HO2 HMG HD8 HGM
      go_loopw [12, 13] (fun v i wr => ∃ (k : Nat) (ts : List Sl), k ≤ M ∧ i = .int .i64 k ∧ ts.length = k ∧ OwnR 35 1 wr w4.heap.size v k (ts.map fun s => [s.val]) ∧ ts.map (·.l) = (List.range k).map (fun i : Nat => rdD d (fr + (a + 1 + (i : Int)))) ∧
        (∀ s ∈ ts, Bytes wr wr.heap.size s.A s.n s.l ∧ (0 < s.n → ∀ k ∈ blkOf s.A, k ∉ ownL v) ∧ s.n ≤ 64) ∧ Only [] w4 wr) (fun _ i _ => M - (Go.RowKit.intOf i).toNat)
      case atStart => exact ⟨0, [], by omega, rfl, rfl, OwnR.nil_ _ _ _ _, rfl, by simp, Only.refl _ _⟩
      case round =>
        obtain ⟨k, ts, hk, rfl, htl, hown, hmap, hts, ho⟩ := hrel
        by_cases hlk : k < M
        · have e1 : decide ((k : Int) < (M : Int)) = true := decide_eq_true (by omega)
          have e1' : decide (k < M) = true := decide_eq_true hlk
          have HFR := Lib.hid (HFI.out wr (HS4.out.trans ho (by simp)))
          have HRR := Lib.hid (HRD.out wr (HS4.out.trans ho (by simp)) (fr + (a + 1 + (k : Int))))
          have hla := HLN.out (fr + (a + 1 + (k : Int)))
          have hsum : fr + a + 1 + (k : Int) = fr + (a + 1 + (k : Int)) := by omega
          have HTL := Lib.hid htl
          have HMAP := Lib.hid hmap
          have HTS := Lib.hid hts
          have HOO := Lib.hid ho
          have hws := ho.size
          rw [← hsum] at HRR hla
          obtain ⟨L2, hL2⟩ : ∃ L2, rdD d (fr + a + 1 + (k : Int)) = L2 := ⟨_, rfl⟩
          have HL2 : Hid (rdD d (fr + (a + 1 + (k : Int))) = L2) := Lib.hid (by rw [← hsum]; exact hL2)
          rw [hL2] at HRR hla
          have HLA := Lib.hid hla
          clear htl hmap hts ho hla hL2 hsum
          go_wp2_with (first
            | (go_at_call 83; refine (HN.out _).mono ?_; rintro x wx ⟨rfl, hwx⟩; subst hwx)
            | (go_at_call 79; refine HFR.out.mono ?_; rintro x wx ⟨rfl, hwx⟩; have hwx := hwx.symm; subst hwx)
            | (go_at_call 76; refine HRR.out.mono ?_; rintro x w6 ⟨v6, n6, rfl, hb6, ho6⟩; obtain ⟨A6, c6, rfl, h61, h62, hby6, hA6⟩ := hb6.shape; have hlen6 := hb6.len; have hown2 := hown.only ho6 (by simp); have hws2 := ho6.size; have HO6 := Lib.hid (HOO.out.trans ho6 (by simp)); clear hb6)
            | (at_builtin; refine wpList_append1 (w := w6) rfl (.tmp 94) (.tmp 96) 34 rfl Tryz.underlying34 sl_info rfl (by decide) rfl hown2 rfl rfl (row := [(⟨A6, n6, c6, L2⟩ : Sl).val]) rfl rfl (by intro u hu; rw [List.mem_singleton.1 hu]; rfl) (by omega) (by unfold maxLen; omega) (by omega) ?_; intro v7 w7 hE))
          go_roundw
          case measure => simp [Go.RowKit.intOf]; omega
          case rel =>
            have hfz : ∀ k ∈ blkOf A6, wr.heap.size ≤ k := fun k hk => by
              rcases hA6 with ⟨rfl, _⟩ | ⟨g6, rfl, hg6, _⟩
              · cases hk
              · simp [blkOf] at hk
                omega
            have hself : ∀ t : Sl, Bytes w6 w6.heap.size t.A t.n t.l → (0 < t.n → ∀ k ∈ blkOf t.A, k ∉ ownL u12) → 0 < t.n → ∀ k ∈ blkOf t.A, k ∉ ownL v7 := fun t h1 h2 hn k hk hm => by
              rcases hE.fresh k hm with e | e
              · exact h2 hn k hk e
              · have := bytes_lt h1 hn k hk; omega
            have hnew : 0 < n6 → ∀ k ∈ blkOf A6, k ∉ ownL u12 := fun hn k hk hm => by
              have h1 := hfz k hk
              have h2 := hown.lt k hm
              omega
            refine ⟨k + 1, ts ++ [⟨A6, n6, c6, L2⟩], by omega, by go_num, by rw [List.length_append, HTL.out]; rfl, by rw [List.map_append]; exact hE.own, ?_, ?_, HO6.out.trans hE.only (fun g hg => .inr (hown2.lt g hg).1)⟩
            · rw [List.map_append, HMAP.out, List.range_succ, List.map_append]
              simp only [List.map_cons, List.map_nil]
              rw [HL2.out]
            · intro t ht
              rcases List.mem_append.1 ht with ht | ht
              · obtain ⟨t1, t6, t7⟩ := HTS.out t ht
                have t1' := (t1.only ho6 (by simp)).more ho6.size
                exact ⟨(t1'.only_pos hE.only t6).more hE.only.size, hself t t1' t6, t7⟩
              · rw [List.mem_singleton.1 ht]
                exact ⟨(hby6.only_pos hE.only hnew).more hE.only.size, hself ⟨A6, n6, c6, L2⟩ hby6 hnew, by have := HLA.out; show n6 ≤ 64; omega⟩
        · obtain rfl : k = M := by omega
          have e1 : decide ((k : Int) < (k : Int)) = false := decide_eq_false (by omega)
          have e1' : decide (k < k) = false := decide_eq_false (by omega)
          obtain ⟨AL, cl, rfl, _, _, _, _⟩ := hown.shape (by decide)
          subst htl
          have hrr := reads_own hown rfl
          have hlen : ∀ s ∈ ts, s.l.length = s.n := fun s hs => (hts s hs).1.len
          have hz := HHN.out
          have HUP := Lib.hid (runpack_any AL ts.length cl wr.heap.size ts (mn / 4294967296) wr rfl (by omega) hrr (Nat.le_refl _) (fun s hs => (hts s hs).1) (by omega) (by omega) (fun s hs => by have := (hts s hs).2.2; omega))
          have hue := unp_eq ts hlen (mn / 4294967296)
          rw [hmap] at hue
          rw [hue] at HUP
          have hU3 := HU2.out
          obtain ⟨V, hV⟩ : ∃ V, unpL ((List.range ts.length).map fun i : Nat => rdD d (fr + (a + 1 + (i : Int)))) (mn / 4294967296) = V := ⟨_, rfl⟩
          rw [hV] at HUP hU3
          have HV := Lib.hid hV
          have HO5 := Lib.hid (HO4.out.trans ho (by simp))
          have hm5 := HM4.out.only ho (by simp)
          have HM5 := Lib.hid hm5
          have HU3 := Lib.hid hU3
          clear hts hmap hown hrr hlen hue HU2 hU3 hV hm5 ho hz
          go_wp2_with (first
            | (go_at_call 83; refine (HN.out _).mono ?_; rintro x wx ⟨rfl, hwx⟩; subst hwx)
            | (go_at_call 122; refine HUP.out.mono ?_; rintro x w6 ⟨A6, n6, c6, rfl, hb6, h61, h62, ho6⟩))
          have HB6 := Lib.hid hb6
          have HO6 := Lib.hid (HO5.out.trans ho6 (by simp))
          have hm6 := HM5.out.only ho6 (by simp)
          have HHM := Lib.hid hm6
          have t0 := hm6.cell 0
          have t1 := hm6.cell 1
          have t2 := hm6.cell 2
          have t3 := hm6.cell 3
          have hU3 := HU3.out
          clear ho6 hb6 HUP HU3 hm6
          cases V with
          | none =>
            simp only at hU3
            have HF := Lib.hid (HNO.out hU3)
            clear hU3
            go_quiet (fail)
            go_wp2_with fail
            go_ret
            exact ⟨AA, ss.length, cc, rfl, by rw [HF.out]; exact (HO8.out.only0 (HO6.out.drewN _)).fin⟩
          | some l =>
            simp only at hU3
            obtain ⟨hnd, hln⟩ := unpL_need HV.out
            rw [List.length_map, List.length_range] at hnd
            have hl6 := HB6.out.len
            have hn6 : n6 ≤ 1048576 := by simp at hl6; omega
            have hb6 : Bytes w6 w6.heap.size A6 n6 l := HB6.out
            have hmk := rmark_any w6.drew ⟨mg, fr, room⟩ ss.length A6 n6 c6 w6.heap.size l hb6.drew hn6
            obtain ⟨MM, hMM⟩ : ∃ MM, markH ⟨mg, fr, room⟩ ss.length l = MM := ⟨_, rfl⟩
            rw [hMM] at hU3 hmk
            obtain ⟨bb, hbb⟩ : ∃ bb, decide (MM = (⟨2, mg, (ss.length : Int), mn⟩ : Frame.Mark)) = bb := ⟨_, rfl⟩
            have hq := neq_rmark MM ⟨2, mg, (ss.length : Int), mn⟩
            rw [hbb] at hq
            have hta : a + takesB l = a + 1 + (ts.length : Int) := by unfold takesB; rw [hnd]; omega
            obtain ⟨ak, ag, as_, an⟩ := MM
            simp only at hq
            unfold Frame.Mark.val at hmk
            simp only at hmk
            have HMK := Lib.hid hmk
            have HUU : Hid (groupH d ⟨mg, fr, room⟩ a ss.length = if bb = true then some l else none) := by
              unfold Hid
              rw [hU3, ← hbb]
              by_cases e : (⟨ak, ag, as_, an⟩ : Frame.Mark) = ⟨2, mg, (ss.length : Int), mn⟩
              · rw [if_pos e, if_pos (decide_eq_true e)]
              · rw [if_neg e, if_neg (by rw [decide_eq_false e]; decide)]
            have HTA := Lib.hid hta
            have HHB := Lib.hid hb6
            have hns9 : n6 ≤ 1048576 := hn6
            clear hU3 hbb hmk hMM hta hnd hln hl6 hb6
            cases bb with
            | false =>
              have HF := Lib.hid (HNO.out HUU.out)
              have hq' : ∀ w, (binOp .neq 134 (.agg #[.int .i64 ak, .int .i64 ag, .int .i64 as_, .int .i64 an]) (.agg #[.int .i64 2, .int .i64 mg, .int .i64 (ss.length : Int), .int .i64 mn])).run Tryz.prog w = .ok (.bool true) w := hq
              clear hq
              have hS := (show (fun Y => Y.cell? ⟨q, 0, none⟩ = some (.int .i64 2) ∧ Y.cell? ⟨q, 1, none⟩ = some (.int .i64 mg) ∧ Y.cell? ⟨q, 2, none⟩ = some (.int .i64 (ss.length : Int)) ∧ Y.cell? ⟨q, 3, none⟩ = some (.int .i64 mn)) w6.drew from ⟨t0, t1, t2, t3⟩)
              go_upto_region 16 with fail
              refine wp_region_hand (S := (fun Y => Y.cell? ⟨q, 0, none⟩ = some (.int .i64 2) ∧ Y.cell? ⟨q, 1, none⟩ = some (.int .i64 mg) ∧ Y.cell? ⟨q, 2, none⟩ = some (.int .i64 (ss.length : Int)) ∧ Y.cell? ⟨q, 3, none⟩ = some (.int .i64 mn))) (by kernel_rfl) ?_
              refine takeV 0 (.bool true) rfl rfl (by kernel_rfl) (fun Y hY => by obtain ⟨y0, y1, y2, y3⟩ := hY; go_simp) hS ?_; simp only [s0A, s0B, s0C]
              refine takeV 1 (.bool false) rfl rfl (by kernel_rfl) (fun Y hY => by obtain ⟨y0, y1, y2, y3⟩ := hY; go_simp) hS ?_; simp only [s0A, s0B, s0C]
              refine takeV 2 (.bool false) rfl rfl (by kernel_rfl) (fun Y hY => by obtain ⟨y0, y1, y2, y3⟩ := hY; go_simp) hS ?_; simp only [s0A, s0B, s0C]
              refine takeV 3 (.int .i64 mg) rfl rfl (by kernel_rfl) (fun Y hY => by obtain ⟨y0, y1, y2, y3⟩ := hY; go_simp) hS ?_; simp only [s0A, s0B, s0C]
              refine takeV 4 (.slice AA ss.length cc) rfl rfl (by kernel_rfl) (fun Y hY => by obtain ⟨y0, y1, y2, y3⟩ := hY; go_simp) hS ?_; simp only [s0A, s0B, s0C]
              refine takeV 5 (.int .i64 (ss.length : Int)) rfl rfl (by kernel_rfl) (fun Y hY => by obtain ⟨y0, y1, y2, y3⟩ := hY; go_simp) hS ?_; simp only [s0A, s0B, s0C]
              refine takeV 6 (.slice A6 n6 c6) rfl rfl (by kernel_rfl) (fun Y hY => by obtain ⟨y0, y1, y2, y3⟩ := hY; go_simp) hS ?_; simp only [s0A, s0B, s0C]
              refine takeV 8 (.agg #[.int .i64 2, .int .i64 mg, .int .i64 (ss.length : Int), .int .i64 mn]) rfl rfl (by kernel_rfl) (fun Y hY => by obtain ⟨y0, y1, y2, y3⟩ := hY; go_simp) hS ?_; simp only [s0A, s0B, s0C]
              refine callW (i := 7) rfl (by kernel_rfl) rfl (by rfl) ?_ HMK.out ?_
              · go_simp
              rintro x w7 ⟨rfl, ho7⟩
              have hm7 := HHM.out.drew.only ho7 (by simp)
              have hS7 := (show (fun Y => Y.cell? ⟨q, 0, none⟩ = some (.int .i64 2) ∧ Y.cell? ⟨q, 1, none⟩ = some (.int .i64 mg) ∧ Y.cell? ⟨q, 2, none⟩ = some (.int .i64 (ss.length : Int)) ∧ Y.cell? ⟨q, 3, none⟩ = some (.int .i64 mn)) w7 from ⟨hm7.cell 0, hm7.cell 1, hm7.cell 2, hm7.cell 3⟩)
              have HO7 := Lib.hid (HO6.out.drew.trans ho7 (by simp))
              have HB7 := Lib.hid (((HHB.out.only (Only.refl [] w6).drew (by simp)).only ho7 (by simp)).more ho7.size)
              clear hm7 ho7
              refine ⟨_, rfl, hS7, ?_⟩
              simp only [s0A, s0B, s0C]
              refine takeV 9 (.bool true) rfl rfl (by kernel_rfl) (fun Y hY => by exact (by have h := hq' Y; go_simp)) hS7 ?_; simp only [s0A, s0B, s0C]
              refine takeV 10 (.bool true) rfl rfl (by kernel_rfl) (fun _ _ => by go_simp) hS7 ?_; simp only [s0A, s0B, s0C]
              refine wpAnyH_done (by kernel_rfl) ?_ _
              clear hS hS7
              go_wp2_with fail
              go_ret
              exact ⟨AA, ss.length, cc, rfl, by rw [HF.out]; exact (HO8.out.only0 HO7.out).fin⟩
            | true =>
              have hq' : ∀ w, (binOp .neq 134 (.agg #[.int .i64 ak, .int .i64 ag, .int .i64 as_, .int .i64 an]) (.agg #[.int .i64 2, .int .i64 mg, .int .i64 (ss.length : Int), .int .i64 mn])).run Tryz.prog w = .ok (.bool false) w := hq
              clear hq
              have hf1 : ∃ f', f = f' + 1 := by
                cases f with
                | zero => omega
                | succ f' => exact ⟨f', rfl⟩
              obtain ⟨f, rfl⟩ := hf1
              have hs1 := heqX.out
              rw [groupsH_yes _ _ _ _ _ _ hlt HUU.out, HTA.out] at hs1
              have HEQ := Lib.hid hs1
              clear hs1
              have hS := (show (fun Y => Y.cell? ⟨q, 0, none⟩ = some (.int .i64 2) ∧ Y.cell? ⟨q, 1, none⟩ = some (.int .i64 mg) ∧ Y.cell? ⟨q, 2, none⟩ = some (.int .i64 (ss.length : Int)) ∧ Y.cell? ⟨q, 3, none⟩ = some (.int .i64 mn)) w6.drew from ⟨t0, t1, t2, t3⟩)
              go_upto_region 16 with fail
              refine wp_region_hand (S := (fun Y => Y.cell? ⟨q, 0, none⟩ = some (.int .i64 2) ∧ Y.cell? ⟨q, 1, none⟩ = some (.int .i64 mg) ∧ Y.cell? ⟨q, 2, none⟩ = some (.int .i64 (ss.length : Int)) ∧ Y.cell? ⟨q, 3, none⟩ = some (.int .i64 mn))) (by kernel_rfl) ?_
              refine takeV 0 (.bool true) rfl rfl (by kernel_rfl) (fun Y hY => by obtain ⟨y0, y1, y2, y3⟩ := hY; go_simp) hS ?_; simp only [s0A, s0B, s0C]
              refine takeV 1 (.bool false) rfl rfl (by kernel_rfl) (fun Y hY => by obtain ⟨y0, y1, y2, y3⟩ := hY; go_simp) hS ?_; simp only [s0A, s0B, s0C]
              refine takeV 2 (.bool false) rfl rfl (by kernel_rfl) (fun Y hY => by obtain ⟨y0, y1, y2, y3⟩ := hY; go_simp) hS ?_; simp only [s0A, s0B, s0C]
              refine takeV 3 (.int .i64 mg) rfl rfl (by kernel_rfl) (fun Y hY => by obtain ⟨y0, y1, y2, y3⟩ := hY; go_simp) hS ?_; simp only [s0A, s0B, s0C]
              refine takeV 4 (.slice AA ss.length cc) rfl rfl (by kernel_rfl) (fun Y hY => by obtain ⟨y0, y1, y2, y3⟩ := hY; go_simp) hS ?_; simp only [s0A, s0B, s0C]
              refine takeV 5 (.int .i64 (ss.length : Int)) rfl rfl (by kernel_rfl) (fun Y hY => by obtain ⟨y0, y1, y2, y3⟩ := hY; go_simp) hS ?_; simp only [s0A, s0B, s0C]
              refine takeV 6 (.slice A6 n6 c6) rfl rfl (by kernel_rfl) (fun Y hY => by obtain ⟨y0, y1, y2, y3⟩ := hY; go_simp) hS ?_; simp only [s0A, s0B, s0C]
              refine takeV 8 (.agg #[.int .i64 2, .int .i64 mg, .int .i64 (ss.length : Int), .int .i64 mn]) rfl rfl (by kernel_rfl) (fun Y hY => by obtain ⟨y0, y1, y2, y3⟩ := hY; go_simp) hS ?_; simp only [s0A, s0B, s0C]
              refine callW (i := 7) rfl (by kernel_rfl) rfl (by rfl) ?_ HMK.out ?_
              · go_simp
              rintro x w7 ⟨rfl, ho7⟩
              have hm7 := HHM.out.drew.only ho7 (by simp)
              have hS7 := (show (fun Y => Y.cell? ⟨q, 0, none⟩ = some (.int .i64 2) ∧ Y.cell? ⟨q, 1, none⟩ = some (.int .i64 mg) ∧ Y.cell? ⟨q, 2, none⟩ = some (.int .i64 (ss.length : Int)) ∧ Y.cell? ⟨q, 3, none⟩ = some (.int .i64 mn)) w7 from ⟨hm7.cell 0, hm7.cell 1, hm7.cell 2, hm7.cell 3⟩)
              have HO7 := Lib.hid (HO6.out.drew.trans ho7 (by simp))
              have HB7 := Lib.hid (((HHB.out.only (Only.refl [] w6).drew (by simp)).only ho7 (by simp)).more ho7.size)
              clear hm7 ho7
              refine ⟨_, rfl, hS7, ?_⟩
              simp only [s0A, s0B, s0C]
              refine takeV 9 (.bool false) rfl rfl (by kernel_rfl) (fun Y hY => by exact (by have h := hq' Y; go_simp)) hS7 ?_; simp only [s0A, s0B, s0C]
              refine takeV 10 (.bool false) rfl rfl (by kernel_rfl) (fun _ _ => by go_simp) hS7 ?_; simp only [s0A, s0B, s0C]
              refine wpAnyH_done (by kernel_rfl) ?_ _
              clear hS hS7
              have hns := OwnB.empty w7 w7.heap.size (Nat.le_refl _)
              have hoe : Only [] w7 (w7.alloc (.cells #[] 5)) := (Only.refl [] w7).alloc _
              have hb8 := HB7.out.only hoe (by simp)
              have hO7 := HO8.out.only0 HO7.out
              have hsz := hO7.out.size
              go_wp2_with (first
                | (at_builtin; refine wpList_append_bytes rfl (.tmp 117) (.tmp 118) rfl rfl hns rfl hb8 (by omega) (by simp) ?_; intro v9 w9 ho9 hon9 hfr9; obtain ⟨A9, c9, rfl, h91, h92, hby9, hA9⟩ := ho9.shape; rw [Nat.zero_add] at h91 hby9; rw [List.nil_append] at hby9; have hoo9 : Only [] w7 w9 := hoe.trans hon9 (fun g hg => .inr (by have e : g ∈ [w7.heap.size] := hg; simp at e; omega)); have hown9 := (hO7.only0 hoo9).own; have hsz9 := hoo9.size)
                | (at_builtin; refine wpList_append1 (w := w9) rfl (.tmp 116) (.tmp 120) 34 rfl Tryz.underlying34 sl_info rfl (by decide) rfl hown9 rfl rfl (row := [(⟨A9, n6, c9, l⟩ : Sl).val]) rfl rfl (by intro u hu; rw [List.mem_singleton.1 hu]; rfl) (by omega) (by unfold maxLen; omega) (by omega) ?_; intro v10 w10 hE))
              go_roundw
              case measure => simp [Go.RowKit.intOf]; omega
              case rel =>
                obtain ⟨A', c', rfl, hON⟩ := hO7.next (x := ⟨A9, n6, c9, l⟩) hoo9 hby9 h91 h92 (by show n6 ≤ _; omega) (fun k hk => by
                  rcases hA9 with ⟨rfl, _⟩ | ⟨g6, rfl, hg6, _⟩
                  · cases hk
                  · simp [blkOf] at hk
                    omega) hE
                refine ⟨A', c', ss ++ [⟨A9, n6, c9, l⟩], a + 1 + (ts.length : Int), f, rfl, by go_num, hON, by omega, by omega, by simp; omega, ?_, by omega⟩
                rw [List.map_append, List.length_append]
                simp only [List.map_cons, List.map_nil, List.length_cons, List.length_nil, List.append_assoc, List.singleton_append]
                have := HEQ.out
                rw [← this]
                congr 2
    · have d1 : decide (a < room) = false := decide_eq_false hlt
      have hfin : allH d ⟨gen, fr, room⟩ = ss.map (·.l) := by rw [← heq, groupsH_out _ _ _ _ _ (by simpa using hlt), List.append_nil]
      have HF := Lib.hid hfin
      clear hfin heq
      obtain ⟨a_, ha_⟩ : ∃ x, a = x := ⟨_, rfl⟩
      go_wp2_with (go_at_call 34; refine HR8.out.mono ?_; rintro x wx ⟨rfl, hwx⟩; have hwx := hwx.symm; subst hwx)
      go_ret
      exact ⟨AA, ss.length, cc, rfl, by rw [HF.out]; exact HO8.out.fin⟩
end
end Go.Proofs.YthgfmoogagldmaaGreat.RefD
