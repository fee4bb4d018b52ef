/- What the document counts as left over, where nothing is. PRINTED by wip/gen_pleft.py. -/
import Derived.Test.YtbeenfkmnchhbaaPeepRef
import Derived.Deep.RegionHeld
import Derived.Deep.DeepCutAuto
namespace Go.Proofs.Ytbeenfkmnchhbaa.Peep
open Go.RowKit Object
set_option linter.unusedVariables false
set_option maxRecDepth 100000
/-- what the region reads -/
def PS (O b off m1 p1 B k : Nat) (n : Int) (cs : List Cd) (w : World) : Prop :=
  w.cell? ⟨O, 0, none⟩ = some (.slice (some ⟨b, off, none⟩) m1 p1) ∧ w.cell? ⟨b, off + k * 5 + 4, none⟩ = some (.int .i64 n) ∧ Recs w B 5 (some ⟨b, off, none⟩) m1 (cs.map Cd.row)
theorem cd_cell0 {w : World} {B m b off : Nat} {cs : List Cd} (h : Recs w B 5 (some ⟨b, off, none⟩) m (cs.map Cd.row)) {t : Nat} {c : Cd} (ht : t < m) (hc : cs[t]? = some c ∧ c.op = 16) : w.cell? ⟨b, off + t * 5, none⟩ = some (.int .i64 16) := by
  obtain ⟨b2, off2, hA, _, x, _, hx, c0, _⟩ := cd_at h t ht
  injection hA with hA
  injection hA with h1 h2 _
  subst h1 h2
  rw [hc.1] at hx
  injection hx with hx
  rw [c0, ← hx, hc.2]
/-- nothing is left to be done, as the document counts it -/
structure Clear (cs : List Cd) : Prop where
  idle : ∀ (j : Nat) (c : Cd), cs[j]? = some c → idleB c j = true → j + 1 = cs.length
  lazy : ∀ c ∈ cs, lazyB cs c = true → ∀ t, Tgt cs c.n t → ∃ b, ins cs t = some b ∧ b.op = 16
theorem Ran.clear {d x : OD} (h : Ran d x) : Clear x.code := by
  refine ⟨fun j c hj hi => h.idle hj hi, fun c hc hl t ht => ?_⟩
  unfold lazyB at hl
  rw [Bool.and_eq_true] at hl
  cases he : ins x.code c.n with
  | none => rw [he] at hl; exact absurd hl.2 (by simp)
  | some e =>
    rw [he] at hl
    simp only [Bool.and_eq_true, beq_iff_eq] at hl
    exact h.round hc hl.1 he hl.2.1 ht
set_option maxHeartbeats 4000000 in
theorem left_any (o : Ob) (d : OD) (w : World) (h : IsOb w o d) (hm : o.m1 ≤ 1000000) (hb : InB d.code) (hcl : Clear d.code) :
    Calls Try.prog 49 #[o.val] w fun x w' => x = .returned (.int .i64 0) ∧ Only [] w w' := by
  obtain ⟨A1, m1, p1, A2, m2, p2, A3, m3, p3⟩ := o
  have hl : d.code.length = m1 := h.n1
  have hr := h.code
  simp only at hr hm
  unfold Ob.val
  simp only
  obtain ⟨cs, hcs⟩ : ∃ cs, d.code = cs := ⟨_, rfl⟩
  rw [hcs] at hl hr hcl hb
  clear h hcs
  have hbx := Blk.new w 57 #[.slice A1 m1 p1, .slice A2 m2 p2, .slice A3 m3 p3]
  have ho := (Only.refl [] w).alloc (.cells #[.slice A1 m1 p1, .slice A2 m2 p2, .slice A3 m3 p3] 57)
  have HL := Lib.hid hl
  have HR := Lib.hid hr
  have HB := Lib.hid hb
  have HCL := Lib.hid hcl
  have HBX := Lib.hid hbx
  have HO := Lib.hid ho
  clear hl hr hb hcl hbx ho
  go_enter Try.func49, Try.ntmps49
  go_wp2_with fail
  go_loopw [3, 4] (fun z i wr => ∃ k : Nat, k ≤ m1 ∧ i = .int .i64 k ∧ z = .int .i64 0 ∧ Blk wr w.heap.size 57 #[.slice A1 m1 p1, .slice A2 m2 p2, .slice A3 m3 p3] ∧ Only [] w wr) (fun _ i _ => m1 - (intOf i).toNat)
  case atStart => exact ⟨0, by omega, rfl, rfl, HBX.out, HO.out⟩
  case round =>
    clear HBX HO
    obtain ⟨k, hk, rfl, rfl, hbx, ho⟩ := hrel
    have HBX := Lib.hid hbx
    have HO := Lib.hid ho
    have x0 := hbx.cell 0
    by_cases hlt : k < m1
    · have e1 : decide ((k : Int) < (m1 : Int)) = true := decide_eq_true (by omega)
      have hrr := HR.out.only ho (by simp)
      have hsz := ho.size
      obtain ⟨b, off, hA, hbb, x, hmem, hsk, c0, c1, c2, c3, c4⟩ := cd_at hrr k hlt
      subst hA
      clear c0 c1 c2 c3 c4
      have HID := Lib.hid (fun w2 (h : Only [] wr w2) => ridle_any (some ⟨b, off, none⟩) m1 p1 w.heap.size k cs x w2 (hrr.only h (by simp)) hm hsk)
      have HI := Lib.hid (HCL.out.idle k x hsk)
      have HLZ' := Lib.hid (fun w2 (h : Only [] wr w2) => rlazy_any (some ⟨b, off, none⟩) m1 p1 w.heap.size k cs x w2 (hrr.only h (by simp)) (Nat.le_trans hsz h.size) hm HB.out hsk)
      have hX := HCL.out.lazy x hmem
      have hXI : lazyB cs x = true → 0 ≤ x.n ∧ x.n < (m1 : Int) := fun hh => by
        have := HB.out x hmem (by unfold lazyB at hh; rw [Bool.and_eq_true] at hh; exact hh.1)
        rw [HL.out] at this
        exact this
      have HC' : Hid (∀ w2, Only [] wr w2 → PS w.heap.size b off m1 p1 w.heap.size k x.n cs w2) := Lib.hid (fun w2 h => by
        obtain ⟨b2, off2, hA2, _, x2, _, hsk2, _, _, _, _, c4⟩ := cd_at (hrr.only h (by simp)) k hlt
        injection hA2 with hA2
        injection hA2 with h1 h2 _
        subst h1 h2
        rw [hsk] at hsk2
        injection hsk2 with hsk2
        subst hsk2
        exact ⟨(HBX.out.only h (by simp)).cell 0, c4, hrr.only h (by simp)⟩)
      have HX : Hid (lazyB cs x = true → ∀ t, Tgt cs x.n t → ∃ tn : Nat, t = (tn : Int) ∧ tn < m1 ∧ ∃ c, cs[tn]? = some c ∧ c.op = 16) := Lib.hid (fun hh t ht => by
        obtain ⟨e, he, ho⟩ := hX hh t ht
        obtain ⟨t0, t1, hk⟩ := ins_lt he
        rw [HL.out] at t1
        exact ⟨t.toNat, by omega, by omega, e, hk, ho⟩)
      have HTG' := Lib.hid (fun w2 (h : Only [] wr w2) (h0 : 0 ≤ x.n) (h1 : x.n < (m1 : Int)) => rtarget_any (some ⟨b, off, none⟩) m1 p1 w.heap.size cs x.n w2 (hrr.only h (by simp)) hm HB.out h0 h1)
      have HXI := Lib.hid hXI
      obtain ⟨n, hn⟩ : ∃ n, x.n = n := ⟨_, rfl⟩
      rw [hn] at HC' HX HTG' HXI
      obtain ⟨iv, hiv⟩ : ∃ v, idleB x k = v := ⟨_, rfl⟩
      obtain ⟨lv, hlv⟩ : ∃ v, lazyB cs x = v := ⟨_, rfl⟩
      rw [hiv] at HID HI
      rw [hlv] at HLZ' HX HXI
      have hkl : iv = true → k + 1 = m1 := fun h => by have := HI.out h; rw [HL.out] at this; exact this
      have e2 : iv = true → decide ((k : Int) < (m1 : Int) - 1) = false := fun h => decide_eq_false (by have := hkl h; omega)
      have E2 := Lib.hid e2
      clear hrr hsk hmem hX hn hiv hlv hbx ho hkl e2 HI hXI
      obtain ⟨fv, hfv⟩ : ∃ v, decide ((k : Int) < (m1 : Int) - 1) = v := ⟨_, rfl⟩
      rw [hfv] at E2
      have HFV := Lib.hid hfv
      have hfi : iv = false ∨ (iv = true ∧ fv = false) := by
        cases iv
        · exact .inl rfl
        · exact .inr ⟨rfl, E2.out rfl⟩
      clear E2
      rcases hfi with rfl | ⟨rfl, rfl⟩
      all_goals
        go_upto_region 7 with (go_at_call 104; refine (HID.out wr (Only.refl _ _)).mono ?_; rintro x w2 ⟨rfl, ho2⟩; have x02 := (HBX.out.only ho2 (by simp)).cell 0)
        have HC : Hid (∀ w', Only [] w2 w' → PS w.heap.size b off m1 p1 w.heap.size k n cs w') := Lib.hid (fun w' h => HC'.out w' (ho2.trans h (by simp)))
        have HOD := Lib.hid ((Only.refl [] w2).drew)
        have HPS := Lib.hid (HC.out w2.drew HOD.out)
        have HLZ := Lib.hid (HLZ'.out w2.drew (ho2.trans HOD.out (by simp)))
        have HTG'' := Lib.hid (fun w' (h : Only [] w2 w') => HTG'.out w' (ho2.trans h (by simp)))
        have HO2 := Lib.hid ho2
        have hw2 := HBX.out.only ho2 (by simp)
        have HW2 := Lib.hid hw2
        clear ho2 hw2 x02 x0 hfv
        cases lv with
        | false =>
          refine wp_region_held_drew (S := PS w.heap.size b off m1 p1 w.heap.size k n cs) (by kernel_rfl) HPS.out (fun hHeld => ?_)
          refine wpAnyH_take (i := 0) (oi := ⟨some 26, _, _, _, _, _⟩) (v := ?_) rfl (by kernel_rfl) (by kernel_rfl) (by kernel_rfl) (fun _ _ _ h => h) (Or.inl ⟨by rfl, ?_⟩) (by assumption) ?_
          rotate_left
          focus (intro w' hS; obtain ⟨s0, s1, s2⟩ := hS; clear s2; (try go_simp); (try with_reducible rfl))
          simp only [Act.put, List.setIfInBounds_toArray, List.set_cons_zero, List.set_cons_succ]
          refine wpAnyH_take (i := 1) (oi := ⟨some 27, _, _, _, _, _⟩) (v := ?_) rfl (by kernel_rfl) (by kernel_rfl) (by kernel_rfl) (fun _ _ _ h => h) (Or.inl ⟨by rfl, ?_⟩) (by assumption) ?_
          rotate_left
          focus (intro w' hS; obtain ⟨s0, s1, s2⟩ := hS; clear s2; (try go_simp); (try with_reducible rfl))
          simp only [Act.put, List.setIfInBounds_toArray, List.set_cons_zero, List.set_cons_succ]
          refine wpAnyH_take (i := 2) (oi := ⟨some 28, _, _, _, _, _⟩) (v := ?_) rfl (by kernel_rfl) (by kernel_rfl) (by kernel_rfl) (fun _ _ _ h => h) (Or.inl ⟨by rfl, ?_⟩) (by assumption) ?_
          rotate_left
          focus (intro w' hS; obtain ⟨s0, s1, s2⟩ := hS; clear s2; (try go_simp); (try with_reducible rfl))
          simp only [Act.put, List.setIfInBounds_toArray, List.set_cons_zero, List.set_cons_succ]
          refine wpAnyH_ready (rs := [3]) (by kernel_rfl) (by simp) ?_
          refine AllReadyH.cons (o := ⟨some 29, _, _, _, _, _⟩) rfl (fun K hK => ?_) AllReadyH.nil
          go_simp
          go_at_call 105
          refine (HLZ.out).mono ?_
          rintro x w3 ⟨rfl, ho3⟩
          have hPS3 := HC.out w3 (HOD.out.trans ho3 (by simp))
          go_wp2_with fail
          refine hK.out _ _ hPS3 (fun hHeld2 => ?_)
          clear hK K hHeld hPS3
          try simp only [Act.put, List.setIfInBounds_toArray, List.set_cons_zero, List.set_cons_succ]
          refine wpAnyH_take (i := 4) (oi := ⟨some 30, _, _, _, _, _⟩) (v := ?_) rfl (by kernel_rfl) (by kernel_rfl) (by kernel_rfl) (fun _ _ _ h => h) (Or.inl ⟨by rfl, ?_⟩) (by assumption) ?_
          rotate_left
          focus (intro w' hS; obtain ⟨s0, s1, s2⟩ := hS; clear s2; (try go_simp); (try with_reducible rfl))
          simp only [Act.put, List.setIfInBounds_toArray, List.set_cons_zero, List.set_cons_succ]
          refine wpAnyH_take (i := 5) (oi := ⟨some 31, _, _, _, _, _⟩) (v := undef) rfl (by kernel_rfl) (by kernel_rfl) (by kernel_rfl) (fun _ _ _ h => h) (Or.inr ⟨by rfl, rfl⟩) (by assumption) ?_
          simp only [Act.put, List.setIfInBounds_toArray, List.set_cons_zero, List.set_cons_succ]
          refine wpAnyH_take (i := 6) (oi := ⟨some 32, _, _, _, _, _⟩) (v := undef) rfl (by kernel_rfl) (by kernel_rfl) (by kernel_rfl) (fun _ _ _ h => h) (Or.inr ⟨by rfl, rfl⟩) (by assumption) ?_
          simp only [Act.put, List.setIfInBounds_toArray, List.set_cons_zero, List.set_cons_succ]
          refine wpAnyH_take (i := 7) (oi := ⟨some 33, _, _, _, _, _⟩) (v := undef) rfl (by kernel_rfl) (by kernel_rfl) (by kernel_rfl) (fun _ _ _ h => h) (Or.inr ⟨by rfl, rfl⟩) (by assumption) ?_
          simp only [Act.put, List.setIfInBounds_toArray, List.set_cons_zero, List.set_cons_succ]
          refine wpAnyH_take (i := 8) (oi := ⟨some 34, _, _, _, _, _⟩) (v := undef) rfl (by kernel_rfl) (by kernel_rfl) (by kernel_rfl) (fun _ _ _ h => h) (Or.inr ⟨by rfl, rfl⟩) (by assumption) ?_
          simp only [Act.put, List.setIfInBounds_toArray, List.set_cons_zero, List.set_cons_succ]
          refine wpAnyH_take (i := 9) (oi := ⟨some 35, _, _, _, _, _⟩) (v := undef) rfl (by kernel_rfl) (by kernel_rfl) (by kernel_rfl) (fun _ _ _ h => h) (Or.inr ⟨by rfl, rfl⟩) (by assumption) ?_
          simp only [Act.put, List.setIfInBounds_toArray, List.set_cons_zero, List.set_cons_succ]
          refine wpAnyH_take (i := 10) (oi := ⟨some 36, _, _, _, _, _⟩) (v := undef) rfl (by kernel_rfl) (by kernel_rfl) (by kernel_rfl) (fun _ _ _ h => h) (Or.inr ⟨by rfl, rfl⟩) (by assumption) ?_
          simp only [Act.put, List.setIfInBounds_toArray, List.set_cons_zero, List.set_cons_succ]
          refine wpAnyH_take (i := 11) (oi := ⟨some 37, _, _, _, _, _⟩) (v := undef) rfl (by kernel_rfl) (by kernel_rfl) (by kernel_rfl) (fun _ _ _ h => h) (Or.inr ⟨by rfl, rfl⟩) (by assumption) ?_
          simp only [Act.put, List.setIfInBounds_toArray, List.set_cons_zero, List.set_cons_succ]
          refine wpAnyH_take (i := 12) (oi := ⟨some 38, _, _, _, _, _⟩) (v := undef) rfl (by kernel_rfl) (by kernel_rfl) (by kernel_rfl) (fun _ _ _ h => h) (Or.inr ⟨by rfl, rfl⟩) (by assumption) ?_
          simp only [Act.put, List.setIfInBounds_toArray, List.set_cons_zero, List.set_cons_succ]
          refine wpAnyH_take (i := 13) (oi := ⟨some 39, _, _, _, _, _⟩) (v := undef) rfl (by kernel_rfl) (by kernel_rfl) (by kernel_rfl) (fun _ _ _ h => h) (Or.inr ⟨by rfl, rfl⟩) (by assumption) ?_
          simp only [Act.put, List.setIfInBounds_toArray, List.set_cons_zero, List.set_cons_succ]
          refine wpAnyH_take (i := 14) (oi := ⟨some 40, _, _, _, _, _⟩) (v := undef) rfl (by kernel_rfl) (by kernel_rfl) (by kernel_rfl) (fun _ _ _ h => h) (Or.inr ⟨by rfl, rfl⟩) (by assumption) ?_
          simp only [Act.put, List.setIfInBounds_toArray, List.set_cons_zero, List.set_cons_succ]
          refine wpAnyH_take (i := 15) (oi := ⟨some 41, _, _, _, _, _⟩) (v := undef) rfl (by kernel_rfl) (by kernel_rfl) (by kernel_rfl) (fun _ _ _ h => h) (Or.inr ⟨by rfl, rfl⟩) (by assumption) ?_
          simp only [Act.put, List.setIfInBounds_toArray, List.set_cons_zero, List.set_cons_succ]
          refine wpAnyH_take (i := 16) (oi := ⟨some 42, _, _, _, _, _⟩) (v := undef) rfl (by kernel_rfl) (by kernel_rfl) (by kernel_rfl) (fun _ _ _ h => h) (Or.inr ⟨by rfl, rfl⟩) (by assumption) ?_
          simp only [Act.put, List.setIfInBounds_toArray, List.set_cons_zero, List.set_cons_succ]
          refine wpAnyH_take (i := 17) (oi := ⟨some 43, _, _, _, _, _⟩) (v := undef) rfl (by kernel_rfl) (by kernel_rfl) (by kernel_rfl) (fun _ _ _ h => h) (Or.inr ⟨by rfl, rfl⟩) (by assumption) ?_
          simp only [Act.put, List.setIfInBounds_toArray, List.set_cons_zero, List.set_cons_succ]
          refine wpAnyH_take (i := 18) (oi := ⟨some 44, _, _, _, _, _⟩) (v := undef) rfl (by kernel_rfl) (by kernel_rfl) (by kernel_rfl) (fun _ _ _ h => h) (Or.inr ⟨by rfl, rfl⟩) (by assumption) ?_
          simp only [Act.put, List.setIfInBounds_toArray, List.set_cons_zero, List.set_cons_succ]
          refine wpAnyH_take (i := 19) (oi := ⟨some 45, _, _, _, _, _⟩) (v := undef) rfl (by kernel_rfl) (by kernel_rfl) (by kernel_rfl) (fun _ _ _ h => h) (Or.inr ⟨by rfl, rfl⟩) (by assumption) ?_
          simp only [Act.put, List.setIfInBounds_toArray, List.set_cons_zero, List.set_cons_succ]
          refine wpAnyH_take (i := 20) (oi := ⟨some 46, _, _, _, _, _⟩) (v := ?_) rfl (by kernel_rfl) (by kernel_rfl) (by kernel_rfl) (fun _ _ _ h => h) (Or.inl ⟨by rfl, ?_⟩) (by assumption) ?_
          rotate_left
          focus (intro w' hS; obtain ⟨s0, s1, s2⟩ := hS; clear s2; (try go_simp); (try with_reducible rfl))
          simp only [Act.put, List.setIfInBounds_toArray, List.set_cons_zero, List.set_cons_succ]
          refine wpAnyH_done (by kernel_rfl) ?_ _
          go_wp2_with fail
          go_roundw
          case measure => simp [intOf]; omega
          case rel => exact ⟨k + 1, by omega, by go_num, rfl, HW2.out.only (HOD.out.trans ho3 (by simp)) (by simp), (HO.out.trans HO2.out (by simp)).trans (HOD.out.trans ho3 (by simp)) (by simp)⟩
        | true =>
          obtain ⟨n0, n1⟩ := HXI.out rfl
          have HTG := Lib.hid (fun w' (h : Only [] w2 w') => HTG''.out w' h n0 n1)
          have HT16 := Lib.hid (HX.out rfl)
          refine wp_region_held_drew (S := PS w.heap.size b off m1 p1 w.heap.size k n cs) (by kernel_rfl) HPS.out (fun hHeld => ?_)
          refine wpAnyH_take (i := 0) (oi := ⟨some 26, _, _, _, _, _⟩) (v := ?_) rfl (by kernel_rfl) (by kernel_rfl) (by kernel_rfl) (fun _ _ _ h => h) (Or.inl ⟨by rfl, ?_⟩) (by assumption) ?_
          rotate_left
          focus (intro w' hS; obtain ⟨s0, s1, s2⟩ := hS; clear s2; (try go_simp); (try with_reducible rfl))
          simp only [Act.put, List.setIfInBounds_toArray, List.set_cons_zero, List.set_cons_succ]
          refine wpAnyH_take (i := 1) (oi := ⟨some 27, _, _, _, _, _⟩) (v := ?_) rfl (by kernel_rfl) (by kernel_rfl) (by kernel_rfl) (fun _ _ _ h => h) (Or.inl ⟨by rfl, ?_⟩) (by assumption) ?_
          rotate_left
          focus (intro w' hS; obtain ⟨s0, s1, s2⟩ := hS; clear s2; (try go_simp); (try with_reducible rfl))
          simp only [Act.put, List.setIfInBounds_toArray, List.set_cons_zero, List.set_cons_succ]
          refine wpAnyH_take (i := 2) (oi := ⟨some 28, _, _, _, _, _⟩) (v := ?_) rfl (by kernel_rfl) (by kernel_rfl) (by kernel_rfl) (fun _ _ _ h => h) (Or.inl ⟨by rfl, ?_⟩) (by assumption) ?_
          rotate_left
          focus (intro w' hS; obtain ⟨s0, s1, s2⟩ := hS; clear s2; (try go_simp); (try with_reducible rfl))
          simp only [Act.put, List.setIfInBounds_toArray, List.set_cons_zero, List.set_cons_succ]
          refine wpAnyH_ready (rs := [3]) (by kernel_rfl) (by simp) ?_
          refine AllReadyH.cons (o := ⟨some 29, _, _, _, _, _⟩) rfl (fun K hK => ?_) AllReadyH.nil
          go_simp
          go_at_call 105
          refine (HLZ.out).mono ?_
          rintro x w3 ⟨rfl, ho3⟩
          have hPS3 := HC.out w3 (HOD.out.trans ho3 (by simp))
          go_wp2_with fail
          refine hK.out _ _ hPS3 (fun hHeld2 => ?_)
          clear hK K hHeld hPS3
          try simp only [Act.put, List.setIfInBounds_toArray, List.set_cons_zero, List.set_cons_succ]
          refine wpAnyH_take (i := 4) (oi := ⟨some 30, _, _, _, _, _⟩) (v := ?_) rfl (by kernel_rfl) (by kernel_rfl) (by kernel_rfl) (fun _ _ _ h => h) (Or.inl ⟨by rfl, ?_⟩) (by assumption) ?_
          rotate_left
          focus (intro w' hS; obtain ⟨s0, s1, s2⟩ := hS; clear s2; (try go_simp); (try with_reducible rfl))
          simp only [Act.put, List.setIfInBounds_toArray, List.set_cons_zero, List.set_cons_succ]
          refine wpAnyH_take (i := 5) (oi := ⟨some 31, _, _, _, _, _⟩) (v := ?_) rfl (by kernel_rfl) (by kernel_rfl) (by kernel_rfl) (fun _ _ _ h => h) (Or.inl ⟨by rfl, ?_⟩) (by assumption) ?_
          rotate_left
          focus (intro w' hS; obtain ⟨s0, s1, s2⟩ := hS; clear s2; (try go_simp); (try with_reducible rfl))
          simp only [Act.put, List.setIfInBounds_toArray, List.set_cons_zero, List.set_cons_succ]
          refine wpAnyH_take (i := 6) (oi := ⟨some 32, _, _, _, _, _⟩) (v := ?_) rfl (by kernel_rfl) (by kernel_rfl) (by kernel_rfl) (fun _ _ _ h => h) (Or.inl ⟨by rfl, ?_⟩) (by assumption) ?_
          rotate_left
          focus (intro w' hS; obtain ⟨s0, s1, s2⟩ := hS; clear s2; (try go_simp); (try with_reducible rfl))
          simp only [Act.put, List.setIfInBounds_toArray, List.set_cons_zero, List.set_cons_succ]
          refine wpAnyH_take (i := 7) (oi := ⟨some 33, _, _, _, _, _⟩) (v := ?_) rfl (by kernel_rfl) (by kernel_rfl) (by kernel_rfl) (fun _ _ _ h => h) (Or.inl ⟨by rfl, ?_⟩) (by assumption) ?_
          rotate_left
          focus (intro w' hS; obtain ⟨s0, s1, s2⟩ := hS; clear s2; (try go_simp); (try with_reducible rfl))
          simp only [Act.put, List.setIfInBounds_toArray, List.set_cons_zero, List.set_cons_succ]
          refine wpAnyH_take (i := 8) (oi := ⟨some 34, _, _, _, _, _⟩) (v := ?_) rfl (by kernel_rfl) (by kernel_rfl) (by kernel_rfl) (fun _ _ _ h => h) (Or.inl ⟨by rfl, ?_⟩) (by assumption) ?_
          rotate_left
          focus (intro w' hS; obtain ⟨s0, s1, s2⟩ := hS; clear s2; (try go_simp); (try with_reducible rfl))
          simp only [Act.put, List.setIfInBounds_toArray, List.set_cons_zero, List.set_cons_succ]
          refine wpAnyH_take (i := 9) (oi := ⟨some 35, _, _, _, _, _⟩) (v := ?_) rfl (by kernel_rfl) (by kernel_rfl) (by kernel_rfl) (fun _ _ _ h => h) (Or.inl ⟨by rfl, ?_⟩) (by assumption) ?_
          rotate_left
          focus (intro w' hS; obtain ⟨s0, s1, s2⟩ := hS; clear s2; (try go_simp); (try with_reducible rfl))
          simp only [Act.put, List.setIfInBounds_toArray, List.set_cons_zero, List.set_cons_succ]
          refine wpAnyH_take (i := 10) (oi := ⟨some 36, _, _, _, _, _⟩) (v := ?_) rfl (by kernel_rfl) (by kernel_rfl) (by kernel_rfl) (fun _ _ _ h => h) (Or.inl ⟨by rfl, ?_⟩) (by assumption) ?_
          rotate_left
          focus (intro w' hS; obtain ⟨s0, s1, s2⟩ := hS; clear s2; (try go_simp); (try with_reducible rfl))
          simp only [Act.put, List.setIfInBounds_toArray, List.set_cons_zero, List.set_cons_succ]
          refine wpAnyH_take (i := 11) (oi := ⟨some 37, _, _, _, _, _⟩) (v := ?_) rfl (by kernel_rfl) (by kernel_rfl) (by kernel_rfl) (fun _ _ _ h => h) (Or.inl ⟨by rfl, ?_⟩) (by assumption) ?_
          rotate_left
          focus (intro w' hS; obtain ⟨s0, s1, s2⟩ := hS; clear s2; (try go_simp); (try with_reducible rfl))
          simp only [Act.put, List.setIfInBounds_toArray, List.set_cons_zero, List.set_cons_succ]
          refine wpAnyH_take (i := 12) (oi := ⟨some 38, _, _, _, _, _⟩) (v := ?_) rfl (by kernel_rfl) (by kernel_rfl) (by kernel_rfl) (fun _ _ _ h => h) (Or.inl ⟨by rfl, ?_⟩) (by assumption) ?_
          rotate_left
          focus (intro w' hS; obtain ⟨s0, s1, s2⟩ := hS; clear s2; (try go_simp); (try with_reducible rfl))
          simp only [Act.put, List.setIfInBounds_toArray, List.set_cons_zero, List.set_cons_succ]
          refine wpAnyH_take (i := 13) (oi := ⟨some 39, _, _, _, _, _⟩) (v := ?_) rfl (by kernel_rfl) (by kernel_rfl) (by kernel_rfl) (fun _ _ _ h => h) (Or.inl ⟨by rfl, ?_⟩) (by assumption) ?_
          rotate_left
          focus (intro w' hS; obtain ⟨s0, s1, s2⟩ := hS; clear s2; (try go_simp); (try with_reducible rfl))
          simp only [Act.put, List.setIfInBounds_toArray, List.set_cons_zero, List.set_cons_succ]
          refine wpAnyH_take (i := 14) (oi := ⟨some 40, _, _, _, _, _⟩) (v := ?_) rfl (by kernel_rfl) (by kernel_rfl) (by kernel_rfl) (fun _ _ _ h => h) (Or.inl ⟨by rfl, ?_⟩) (by assumption) ?_
          rotate_left
          focus (intro w' hS; obtain ⟨s0, s1, s2⟩ := hS; clear s2; (try go_simp); (try with_reducible rfl))
          simp only [Act.put, List.setIfInBounds_toArray, List.set_cons_zero, List.set_cons_succ]
          refine wpAnyH_ready (rs := [15]) (by kernel_rfl) (by simp) ?_
          refine AllReadyH.cons (o := ⟨some 41, _, _, _, _, _⟩) rfl (fun K hK => ?_) AllReadyH.nil
          go_simp
          go_at_call 106
          refine (HTG.out w3 (HOD.out.trans ho3 (by simp))).mono ?_
          rintro x w4 ⟨t, rfl, ht, hw4⟩
          subst hw4
          obtain ⟨tn, hte, htl, tc, htk⟩ := HT16.out t ht
          subst hte
          have hPS4 := HC.out w4 (HOD.out.trans ho3 (by simp))
          go_wp2_with fail
          refine hK.out _ _ hPS4 (fun hHeld3 => ?_)
          clear hK K hHeld2 hPS4 ht
          try simp only [Act.put, List.setIfInBounds_toArray, List.set_cons_zero, List.set_cons_succ]
          refine wpAnyH_take (i := 16) (oi := ⟨some 42, _, _, _, _, _⟩) (v := ?_) rfl (by kernel_rfl) (by kernel_rfl) (by kernel_rfl) (fun _ _ _ h => h) (Or.inl ⟨by rfl, ?_⟩) (by assumption) ?_
          rotate_left
          focus (intro w' hS; obtain ⟨s0, s1, s2⟩ := hS; clear s2; (try go_simp); (try with_reducible rfl))
          simp only [Act.put, List.setIfInBounds_toArray, List.set_cons_zero, List.set_cons_succ]
          refine wpAnyH_take (i := 17) (oi := ⟨some 43, _, _, _, _, _⟩) (v := ?_) rfl (by kernel_rfl) (by kernel_rfl) (by kernel_rfl) (fun _ _ _ h => h) (Or.inl ⟨by rfl, ?_⟩) (by assumption) ?_
          rotate_left
          focus (intro w' hS; obtain ⟨s0, s1, s2⟩ := hS; clear s2; (try go_simp); (try with_reducible rfl))
          simp only [Act.put, List.setIfInBounds_toArray, List.set_cons_zero, List.set_cons_succ]
          refine wpAnyH_take (i := 18) (oi := ⟨some 44, _, _, _, _, _⟩) (v := ?_) rfl (by kernel_rfl) (by kernel_rfl) (by kernel_rfl) (fun _ _ _ h => h) (Or.inl ⟨by rfl, ?_⟩) (by assumption) ?_
          rotate_left
          focus (intro w' hS; obtain ⟨s0, s1, s2⟩ := hS; have s3 := (cd_cell0 s2 htl htk); clear s2; (try go_simp); (try with_reducible rfl))
          simp only [Act.put, List.setIfInBounds_toArray, List.set_cons_zero, List.set_cons_succ]
          refine wpAnyH_take (i := 19) (oi := ⟨some 45, _, _, _, _, _⟩) (v := ?_) rfl (by kernel_rfl) (by kernel_rfl) (by kernel_rfl) (fun _ _ _ h => h) (Or.inl ⟨by rfl, ?_⟩) (by assumption) ?_
          rotate_left
          focus (intro w' hS; obtain ⟨s0, s1, s2⟩ := hS; clear s2; (try go_simp); (try with_reducible rfl))
          simp only [Act.put, List.setIfInBounds_toArray, List.set_cons_zero, List.set_cons_succ]
          refine wpAnyH_take (i := 20) (oi := ⟨some 46, _, _, _, _, _⟩) (v := ?_) rfl (by kernel_rfl) (by kernel_rfl) (by kernel_rfl) (fun _ _ _ h => h) (Or.inl ⟨by rfl, ?_⟩) (by assumption) ?_
          rotate_left
          focus (intro w' hS; obtain ⟨s0, s1, s2⟩ := hS; clear s2; (try go_simp); (try with_reducible rfl))
          simp only [Act.put, List.setIfInBounds_toArray, List.set_cons_zero, List.set_cons_succ]
          refine wpAnyH_done (by kernel_rfl) ?_ _
          go_wp2_with fail
          go_roundw
          case measure => simp [intOf]; omega
          case rel => exact ⟨k + 1, by omega, by go_num, rfl, HW2.out.only (HOD.out.trans ho3 (by simp)) (by simp), (HO.out.trans HO2.out (by simp)).trans (HOD.out.trans ho3 (by simp)) (by simp)⟩
    · obtain rfl : k = m1 := by omega
      have e1 : decide ((k : Int) < (k : Int)) = false := decide_eq_false (by omega)
      clear hbx ho
      go_wp2_with fail
      go_ret
      exact ⟨rfl, HO.out⟩
end Go.Proofs.Ytbeenfkmnchhbaa.Peep
