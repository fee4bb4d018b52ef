/- JournalC: The groups, one by one: the iterator of a half; The newest generation that a head tells. -/
import Derived.Test.YthgfmoogagldmaaGreatJWalk6q
import Derived.Test.YthgfmoogagldmaaGreatRanges
import Derived.Stop.RegionWithIn
set_option linter.unusedVariables false
set_option maxRecDepth 100000
namespace Go.Proofs.YthgfmoogagldmaaGreat.Journal
open Go.RowKit Go.Shelf Disk Go.Proofs.YthgfmoogagldmaaGreat.Frame
attribute [local go_sem] Oper.semAt_some
theorem groupsH_out (d : DS) (h : Half) (f : Nat) (a s : Int) (ha : ¬ a < h.room) : groupsH d h f a s = [] := by
  cases f with
  | zero => rfl
  | succ f =>
    unfold groupsH
    rw [if_neg ha]
theorem groupsH_no (d : DS) (h : Half) (f : Nat) (a s : Int) (hg : groupH d h a s = none) : groupsH d h f a s = [] := by
  cases f with
  | zero => rfl
  | succ f =>
    unfold groupsH
    split
    · rw [hg]
    · rfl
theorem groupsH_yes (d : DS) (h : Half) (f : Nat) (a s : Int) (b : List UInt8) (ha : a < h.room) (hg : groupH d h a s = some b) : groupsH d h (f + 1) a s = b :: groupsH d h f (a + takesB b) (s + 1) := by
  show (if a < h.room then _ else _) = _
  rw [if_pos ha, hg]
def halfC (p : Nat) (h : Half) : Array Value := #[.pointer (some ⟨p, 0, none⟩), .int .i64 h.gen, .int .i64 h.fr, .int .i64 h.room]
def FreshSl (B : Nat) (s : Sl) (X : World) : Prop := Bytes X X.heap.size s.A s.n s.l ∧ s.n ≤ s.c ∧ s.c ≤ maxLen ∧ s.n ≤ 1048576 ∧ ∀ k ∈ blkOf s.A, B ≤ k ∧ ∃ cs, Blk X k 5 cs
set_option maxHeartbeats 1000000 in
theorem groups_in (F : Fence) (m : Nat) (h6 : F.fn 61) (hro : F.round = none) (p : Nat) (h : Half) (w : World) :
    CallsIn F m Tryz.prog 61 #[h.val p] w fun e w' => e = .returned (.func (.func 107) #[] #[.pointer (some ⟨w.heap.size, 0, none⟩)]) ∧ w' = w.alloc (.cells (halfC p h) 63) := by
  obtain ⟨gen, fr, room⟩ := h
  unfold Half.val halfC
  refine callsIn_of_wp Tryz.func61 rfl h6 ?_ hro
  simp only [Tryz.ntmps61, List.size_toArray, List.length_cons, List.length_nil, Nat.reduceAdd, Nat.reduceSub, Array.replicate_succ, Array.replicate_zero, List.push_toArray, List.append_toArray, List.nil_append, List.cons_append]
  gi_wp2
  go_ret
  exact ⟨by simp, rfl⟩
section
variable {w w' : World} {p g b cap : Nat} {W : List Nat} {d : DS}
set_option maxHeartbeats 2000000 in
theorem groups1_seq (m : Nat) (hm : 1 ≤ m) (h : Half) (hs : h.small) (hb B0 : Nat) :
    SeqV Fence.wide m Tryz.prog 107 #[.pointer (some ⟨hb, 0, none⟩)] (fun s : Sl => #[.slice s.A s.n s.c]) (fun X => IsD X p g b W cap d ∧ Blk X hb 63 (halfC p h) ∧ B0 ≤ X.heap.size) (FreshSl B0) (fun ys => ys.map (·.l) = allH d h) 100001 := by
  intro l J W0 hJo hJK hY h0
  obtain ⟨⟨g0, g1⟩, ⟨f0, f1⟩, r0, r1⟩ := hs
  obtain ⟨gen, fr, room⟩ := h
  unfold halfC at hJK
  simp only at hJK g0 g1 f0 f1 r0 r1
  have HS : Hid (⟨gen, fr, room⟩ : Half).small := ⟨⟨g0, g1⟩, ⟨f0, f1⟩, r0, r1⟩
  have HJK := Lib.hid hJK
  have HJO := Lib.hid hJo
  have HY := Lib.hid hY
  clear hJK hJo hY
  refine callsIn_of_wp Tryz.func107 rfl trivial ?_ rfl
  simp only [Tryz.ntmps107, List.size_toArray, List.length_cons, List.length_nil, Nat.reduceAdd, Nat.reduceSub, Array.replicate_succ, Array.replicate_zero, List.push_toArray, List.append_toArray, List.nil_append, List.cons_append]
  gi_wp2
  gi_loopw [3, 4] (fun t i wr => ∃ (pre : List Sl) (a : Int) (f : Nat), t = .int .i64 a ∧ i = .int .i64 pre.length ∧ 0 ≤ a ∧ a ≤ 200000 ∧ (pre.length : Int) ≤ a ∧ J pre wr ∧ pre.map (·.l) ++ groupsH d ⟨gen, fr, room⟩ f a pre.length = allH d ⟨gen, fr, room⟩ ∧ room ≤ a + f)
    (fun t _ _ => (room - intOf t).toNat)
  case atStart => exact ⟨[], 0, room.toNat, rfl, rfl, by omega, by omega, by simp, h0, rfl, by omega⟩
  case round =>
    obtain ⟨pre, a, f, rfl, rfl, a0, a1, hpl, hJ, hall, hf⟩ := hrel
    obtain ⟨hd, hbk, hB0⟩ := HJK.out _ _ hJ
    have x0 := hbk.cell 0
    have x1 := hbk.cell 1
    have x2 := hbk.cell 2
    have x3 := hbk.cell 3
    have HJ := Lib.hid hJ
    have HALL := Lib.hid hall
    by_cases hlt : a < room
    · have dlt : decide (a < room) = true := decide_eq_true hlt
      have HG := Lib.hid ((callsIn_wide (n := m - 1)).2 (group_any hd ⟨gen, fr, room⟩ HS.out a pre.length (by omega)))
      unfold Half.val at HG
      simp only at HG
      obtain ⟨U, hU⟩ : ∃ U, groupH d ⟨gen, fr, room⟩ a pre.length = U := ⟨_, rfl⟩
      rw [hU] at HG
      have HU := Lib.hid hU
      have HB0 := Lib.hid hB0
      clear hJ hall hd hbk hU hB0
      cases U with
      | none =>
        gi_wp2_with (refine ⟨trivial, ?_⟩; gi_at_call 108; refine HG.out.mono ?_; rintro x w2 ⟨A, n, c, rfl, _, hc1, hc2, hn, ho2, hf2⟩; have HJ2 := Lib.hid (HJO.out _ _ _ HJ.out ho2); clear ho2 hf2)
        refine ⟨fun f hf => (by cases hf), ?_⟩
        gi_wp2
        refine bodyPost_ret (results_none rfl _ _ _) rfl ?_
        refine ⟨⟨_, rfl⟩, pre, ?_, HJ2.out⟩
        have h1 := HALL.out
        rw [groupsH_no _ _ _ _ _ HU.out, List.append_nil] at h1
        exact h1
      | some bs =>
        gi_wp2_with (first
          | (refine ⟨trivial, ?_⟩; gi_at_call 108; refine HG.out.mono ?_; rintro x w2 ⟨A, n, c, rfl, hby, hc1, hc2, hn, ho2, hf2⟩; have HV2 := Lib.hid (show FreshSl B0 ⟨A, n, c, bs⟩ w2 from ⟨hby bs rfl, hc1, hc2, hn, fun k hk => ⟨Nat.le_trans HB0.out (hf2 k hk).1, (hf2 k hk).2⟩⟩); have HJ2 := Lib.hid (HJO.out _ _ _ HJ.out ho2); clear ho2 hf2 hby; obtain ⟨fn, tmps, assign, body, hy, hR⟩ := HY.out pre ⟨A, n, c, bs⟩ w2 HJ2.out HV2.out (by omega); simp only at hy; have HRR := Lib.hid hR; clear hR))
        refine HRR.out.mono ?_
        rintro x W3 ⟨rfl, hJ3⟩
        have hbl := (HV2.out).1.len
        simp only at hbl
        have htb : takesB bs = 1 + needZ (n : Int) := by unfold takesB; rw [hbl]
        have hz : 1 ≤ 1 + needZ (n : Int) ∧ 1 + needZ (n : Int) ≤ 20000 := by unfold needZ; split <;> omega
        have HT := Lib.hid ((callsIn_wide (n := m - 1)).2 (takes_any A n c W3 (by omega)))
        obtain ⟨t, ht⟩ : ∃ t, 1 + needZ (n : Int) = t := ⟨_, rfl⟩
        rw [ht] at htb hz HT
        obtain ⟨z0, z1⟩ := hz
        obtain ⟨f', rfl⟩ : ∃ f', f = f' + 1 := ⟨f - 1, by omega⟩
        have h1 := HALL.out
        rw [groupsH_yes _ _ _ _ _ _ hlt HU.out, htb] at h1
        have H1 := Lib.hid h1
        have HJ3 := Lib.hid hJ3
        clear hJ3 hbl h1 ht htb hy HRR HY
        gi_wp2_with (refine ⟨trivial, ?_⟩; gi_at_call 64; refine HT.out.mono ?_; rintro x w4 ⟨rfl, hw4⟩; subst hw4)
        go_roundw
        case measure => simp [intOf]; omega
        case rel =>
          refine ⟨pre ++ [⟨A, n, c, bs⟩], a + t, f', rfl, by rw [List.length_append]; go_num, by omega, by omega, by rw [List.length_append]; simp; omega, HJ3.out, ?_, by omega⟩
          have h1 := H1.out
          rw [List.map_append, List.append_assoc, List.length_append]
          simp only [List.map_cons, List.map_nil, List.singleton_append, List.length_cons, List.length_nil]
          exact h1
    · have dlt : decide (a < room) = false := decide_eq_false hlt
      clear hJ hall hd hbk hB0
      gi_wp2
      go_end0
      refine ⟨⟨_, rfl⟩, pre, ?_, HJ.out⟩
      have h1 := HALL.out
      rw [groupsH_out _ _ _ _ _ (by simpa using hlt), List.append_nil] at h1
      exact h1
end
end Go.Proofs.YthgfmoogagldmaaGreat.Journal
namespace Go.Proofs.YthgfmoogagldmaaGreat.Journal
open Go.RowKit Disk Go.Proofs.YthgfmoogagldmaaGreat.Frame
def newK (d : DS) (k : Nat) : Int := if k = 0 then 0 else if k = 1 then max 0 ((headOk d 0).getD 0) else newestD d
theorem getR_g (l : List UInt8) : -9223372036854775808 ≤ (getR l).1.g ∧ (getR l).1.g < 9223372036854775808 := by
  unfold getR
  split
  · exact s64_in _
  · exact ⟨by decide, by decide⟩
theorem headOk_cases (d : DS) (i : Int) {M : Frame.Mark} {ok : Bool} (h : getR (rdD d i) = (M, ok)) :
    (headOk d i = some M.g ∧ ok = true ∧ 1 ≤ M.g ∧ M = ⟨1, M.g, 0, 0⟩ ∧ M.g % 2 = i) ∨ (headOk d i = none ∧ ok = false) ∨ (headOk d i = none ∧ ok = true ∧ ¬ 1 ≤ M.g) ∨
      (headOk d i = none ∧ ok = true ∧ 1 ≤ M.g ∧ ¬ M = ⟨1, M.g, 0, 0⟩) ∨ (headOk d i = none ∧ ok = true ∧ 1 ≤ M.g ∧ M = ⟨1, M.g, 0, 0⟩ ∧ ¬ M.g % 2 = i) := by
  unfold headOk
  rw [h]
  simp only
  cases ok with
  | false => exact .inr (.inl ⟨if_neg (fun k => by cases k.1), rfl⟩)
  | true =>
    by_cases h1 : 1 ≤ M.g
    · by_cases h2 : M = ⟨1, M.g, 0, 0⟩
      · by_cases h3 : M.g % 2 = i
        · exact .inl ⟨if_pos ⟨rfl, h1, h2, h3⟩, rfl, h1, h2, h3⟩
        · exact .inr (.inr (.inr (.inr ⟨if_neg (fun k => h3 k.2.2.2), rfl, h1, h2, h3⟩)))
      · exact .inr (.inr (.inr (.inl ⟨if_neg (fun k => h2 k.2.2.1), rfl, h1, h2⟩)))
    · exact .inr (.inr (.inl ⟨if_neg (fun k => h1 k.2.1), rfl, h1⟩))
section
variable {w w' : World} {p g b cap : Nat} {W : List Nat} {d : DS}
theorem newK_step (d : DS) (k : Nat) (hk : k < 2) : newK d (k + 1) = max (newK d k) ((headOk d (k : Int)).getD 0) := by
  have : k = 0 ∨ k = 1 := by omega
  rcases this with rfl | rfl
  · rfl
  · rfl
theorem newK_in (d : DS) (k : Nat) (hk : k ≤ 2) : 0 ≤ newK d k := by
  unfold newK newestD
  split
  · exact Int.le_refl _
  · split
    · omega
    · omega
set_option maxHeartbeats 2000000 in
theorem newest_any (hd : IsD w p g b W cap d) : Calls Tryz.prog 56 #[.pointer (some ⟨p, 0, none⟩)] w fun x w' => x = .returned (.int .i64 (newestD d)) ∧ Only [] w w' := by
  have HD := Lib.hid hd
  clear hd
  go_enter Tryz.func56, Tryz.ntmps56
  go_wp2_with fail
  go_loopw [3, 9] (fun v i wr => ∃ k : Nat, k ≤ 2 ∧ i = .int .i64 k ∧ v = .int .i64 (newK d k) ∧ Only [] w wr) (fun _ i _ => 2 - (intOf i).toNat)
  case atStart => exact ⟨0, by omega, rfl, rfl, Only.refl _ _⟩
  case round =>
    obtain ⟨k, hk, rfl, rfl, ho⟩ := hrel
    by_cases hlt : k < 2
    · have e1 : decide ((k : Int) < 2) = true := decide_eq_true (by omega)
      have e1' : decide (k < 2) = true := decide_eq_true hlt
      have HR := Lib.hid (read_j (HD.out.only0 ho) (k : Int))
      have hgi := getR_g (rdD d (k : Int))
      obtain ⟨⟨M, ok⟩, hM⟩ : ∃ R, getR (rdD d (k : Int)) = R := ⟨_, rfl⟩
      have hcs := headOk_cases d (k : Int) hM
      have hst := newK_step d k hlt
      have hin := newK_in d k hk
      obtain ⟨L, hL⟩ : ∃ L, rdD d (k : Int) = L := ⟨_, rfl⟩
      unfold ReadJ at HR
      rw [hL] at HR hM hgi
      have HGM := Lib.hid (fun A n c B w (hr : Bytes w B A n L) hB hnc hcm => Frame.get_any A n c B L w hr hB hnc hcm)
      rw [hM] at HGM hgi
      have HO := Lib.hid ho
      have HST := Lib.hid hst
      obtain ⟨N, hN⟩ : ∃ N, newK d k = N := ⟨_, rfl⟩
      rw [hN] at hin hst HST ⊢
      obtain ⟨U, hU⟩ : ∃ U, headOk d (k : Int) = U := ⟨_, rfl⟩
      rw [hU] at hcs HST
      clear ho hst hN hM hL hU
      obtain ⟨mk, mg, ms, mn⟩ := M
      unfold Frame.Mark.val at HGM
      simp only at hcs hgi HGM
      have h1 := i64_and1 mg
      have HEQ := fun (bb : Bool) (hb : decide ((⟨mk, mg, ms, mn⟩ : Frame.Mark) = ⟨1, mg, 0, 0⟩) = bb) (w : World) => (show (binOp .eql 123 (.agg #[.int .i64 mk, .int .i64 mg, .int .i64 ms, .int .i64 mn]) (.agg #[.int .i64 1, .int .i64 mg, .int .i64 0, .int .i64 0])).run Tryz.prog w = .ok (.bool bb) w from by rw [← hb]; exact eql_mark ⟨mk, mg, ms, mn⟩ ⟨1, mg, 0, 0⟩ w)
      rcases hcs with ⟨rfl, rfl, c1, c2, c3⟩ | ⟨rfl, rfl⟩ | ⟨rfl, rfl, c1⟩ | ⟨rfl, rfl, c1, c2⟩ | ⟨rfl, rfl, c1, c2, c3⟩
      · have q1 : decide (1 ≤ mg) = true := decide_eq_true c1
        have q2 := HEQ true (decide_eq_true c2)
        clear HEQ c2
        go_wp2_with (first
          | (go_at_call 86; refine HR.out.mono ?_; rintro x w2 ⟨A, n, c, e, rfl, hby, hnc, hcm, ho2, _⟩; have HM2 := Lib.hid (HGM.out A n c _ w2 hby (Nat.le_refl _) hnc hcm); have HO2 := Lib.hid (HO.out.trans ho2 (by simp)); clear hby ho2)
          | (go_at_call 103; refine HM2.out.mono ?_; rintro x w3 ⟨rfl, ho3⟩; have HO3 := Lib.hid (HO2.out.trans ho3 (by simp)); clear ho3))
        go_roundw
        case measure => simp [intOf]; omega
        case rel => exact ⟨k + 1, by omega, by go_num, by rw [HST.out]; rfl, HO3.out.alloc _⟩
      · clear HEQ
        go_wp2_with (first
          | (go_at_call 86; refine HR.out.mono ?_; rintro x w2 ⟨A, n, c, e, rfl, hby, hnc, hcm, ho2, _⟩; have HM2 := Lib.hid (HGM.out A n c _ w2 hby (Nat.le_refl _) hnc hcm); have HO2 := Lib.hid (HO.out.trans ho2 (by simp)); clear hby ho2)
          | (go_at_call 103; refine HM2.out.mono ?_; rintro x w3 ⟨rfl, ho3⟩; have HO3 := Lib.hid (HO2.out.trans ho3 (by simp)); clear ho3))
        go_roundw
        case measure => simp [intOf]; omega
        case rel => exact ⟨k + 1, by omega, by go_num, by rw [HST.out]; show _ = Value.int .i64 (max N 0); rw [show max N 0 = N by omega], HO3.out.alloc _⟩
      · have q1 : decide (1 ≤ mg) = false := decide_eq_false c1
        clear HEQ
        go_wp2_with (first
          | (go_at_call 86; refine HR.out.mono ?_; rintro x w2 ⟨A, n, c, e, rfl, hby, hnc, hcm, ho2, _⟩; have HM2 := Lib.hid (HGM.out A n c _ w2 hby (Nat.le_refl _) hnc hcm); have HO2 := Lib.hid (HO.out.trans ho2 (by simp)); clear hby ho2)
          | (go_at_call 103; refine HM2.out.mono ?_; rintro x w3 ⟨rfl, ho3⟩; have HO3 := Lib.hid (HO2.out.trans ho3 (by simp)); clear ho3))
        go_roundw
        case measure => simp [intOf]; omega
        case rel => exact ⟨k + 1, by omega, by go_num, by rw [HST.out]; show _ = Value.int .i64 (max N 0); rw [show max N 0 = N by omega], HO3.out.alloc _⟩
      · have q1 : decide (1 ≤ mg) = true := decide_eq_true c1
        have q2 := HEQ false (decide_eq_false c2)
        clear HEQ c2
        go_wp2_with (first
          | (go_at_call 86; refine HR.out.mono ?_; rintro x w2 ⟨A, n, c, e, rfl, hby, hnc, hcm, ho2, _⟩; have HM2 := Lib.hid (HGM.out A n c _ w2 hby (Nat.le_refl _) hnc hcm); have HO2 := Lib.hid (HO.out.trans ho2 (by simp)); clear hby ho2)
          | (go_at_call 103; refine HM2.out.mono ?_; rintro x w3 ⟨rfl, ho3⟩; have HO3 := Lib.hid (HO2.out.trans ho3 (by simp)); clear ho3))
        go_roundw
        case measure => simp [intOf]; omega
        case rel => exact ⟨k + 1, by omega, by go_num, by rw [HST.out]; show _ = Value.int .i64 (max N 0); rw [show max N 0 = N by omega], HO3.out.alloc _⟩
      · have q1 : decide (1 ≤ mg) = true := decide_eq_true c1
        have q2 := HEQ true (decide_eq_true c2)
        have q3 : decide (mg % 2 = (k : Int)) = false := decide_eq_false c3
        have q4 : (mg % 2 == (k : Int)) = false := by simpa using c3
        clear HEQ c2
        go_wp2_with (first
          | (go_at_call 86; refine HR.out.mono ?_; rintro x w2 ⟨A, n, c, e, rfl, hby, hnc, hcm, ho2, _⟩; have HM2 := Lib.hid (HGM.out A n c _ w2 hby (Nat.le_refl _) hnc hcm); have HO2 := Lib.hid (HO.out.trans ho2 (by simp)); clear hby ho2)
          | (go_at_call 103; refine HM2.out.mono ?_; rintro x w3 ⟨rfl, ho3⟩; have HO3 := Lib.hid (HO2.out.trans ho3 (by simp)); clear ho3))
        go_roundw
        case measure => simp [intOf]; omega
        case rel => exact ⟨k + 1, by omega, by go_num, by rw [HST.out]; show _ = Value.int .i64 (max N 0); rw [show max N 0 = N by omega], HO3.out.alloc _⟩
    · obtain rfl : k = 2 := by omega
      have HO := Lib.hid ho
      clear ho
      go_wp2_with fail
      go_ret
      exact ⟨rfl, HO.out⟩
end
end Go.Proofs.YthgfmoogagldmaaGreat.Journal
