/- peep.thread walks. -/
import Derived.Test.YtbeenfkmnchhbaaPeepClone
namespace Go.Proofs.Ytbeenfkmnchhbaa.Peep
open Go.RowKit Object
set_option linter.unusedVariables false
set_option maxRecDepth 100000
theorem getD_map {cs : List Cd} {k : Nat} {c : Cd} (h : cs[k]? = some c) : (cs.map Cd.row).getD k [] = c.row := by
  rw [List.getD_eq_getElem?_getD, List.getElem?_map, h]
  rfl
theorem set_n {cs : List Cd} {k : Nat} {c : Cd} (h : cs[k]? = some c) (t : Int) : (cs.map Cd.row).set k (((cs.map Cd.row).getD k []).set 4 (.int .i64 t)) = (cs.set k { c with n := t }).map Cd.row := by
  rw [getD_map h, List.map_set]
  rfl
theorem thrd_succ {cs : List Cd} {k : Nat} {c : Cd} (h : (thrd cs k).1[k]? = some c) : thrd cs (k + 1) = ((thrd cs k).1.set k { c with n := thrN (thrd cs k).1 c }, (thrd cs k).2 || ch1 (thrd cs k).1 c) := by
  rw [thrd, thr1_at h, h]
theorem thrd_no {cs : List Cd} {k : Nat} {c : Cd} (h : (thrd cs k).1[k]? = some c) (hn : thrN (thrd cs k).1 c = c.n) : thrd cs (k + 1) = thrd cs k := by
  rw [thrd_succ h, hn]
  have h1 : (thrd cs k).1.set k { c with n := c.n } = (thrd cs k).1 := by
    obtain ⟨hl, rfl⟩ := List.getElem?_eq_some_iff.1 h
    exact List.set_getElem_self hl
  have h2 : ch1 (thrd cs k).1 c = false := by unfold ch1; rw [hn]; simp
  rw [h1, h2, Bool.or_false]
theorem thrd_yes {cs : List Cd} {k : Nat} {c : Cd} {t : Int} (h : (thrd cs k).1[k]? = some c) (hn : thrN (thrd cs k).1 c = t) (ht : t ≠ c.n) : thrd cs (k + 1) = ((thrd cs k).1.set k { c with n := t }, true) := by
  rw [thrd_succ h, hn]
  have h2 : ch1 (thrd cs k).1 c = true := by unfold ch1; rw [hn]; simp [ht]
  rw [h2, Bool.or_true]
theorem thrN_tgt {cs : List Cd} {c d : Cd} {t : Int} (hj : jmp c = true) (ht : Tgt cs c.n t) (hd : ins cs t = some d) : thrN cs c = if d.op = 16 then c.n else t := by
  obtain ⟨⟨d', h1, h2⟩, h3⟩ := ht
  rw [hd] at h1
  injection h1 with h1
  subst h1
  unfold thrN
  rw [if_pos hj]
  cases he : endOf cs c.n with
  | none => rw [if_pos (h2 he)]
  | some e =>
    have := h3 e he
    subst this
    obtain ⟨d', h4, h5⟩ := (endOf_some.1 he).end_
    rw [hd] at h4
    injection h4 with h4
    subst h4
    rw [if_neg h5]
theorem target_own (g m cap base : Nat) (cs : List Cd) (n0 : Int) (w : World) (hown : OwnR 59 5 w base (.slice (some ⟨g, 0, none⟩) m cap) m (cs.map Cd.row)) (hm : m ≤ 1000000) (hb : InB cs) (h0 : 0 ≤ n0) (h1 : n0 < (m : Int)) :
    Calls Try.prog 137 #[.slice (some ⟨g, 0, none⟩) m cap, .int .i64 n0] w fun x w' => ∃ t, x = .returned (.int .i64 t) ∧ Tgt cs n0 t ∧ Only [] w w' := by
  obtain ⟨A2, cap2, hv, _, _, hr2, _⟩ := hown.shape (by decide)
  injection hv with hv1 _ hv2
  subst hv1
  exact target_any _ m cap w.heap.size cs n0 w hr2 (Nat.le_refl _) hm hb h0 h1
set_option maxHeartbeats 2000000 in
theorem thread_any (g m cap base : Nat) (cs : List Cd) (w : World) (hown : OwnR 59 5 w base (.slice (some ⟨g, 0, none⟩) m cap) m (cs.map Cd.row)) (hb : InB cs) (hm : m ≤ 1000000) :
    Calls Try.prog 102 #[.slice (some ⟨g, 0, none⟩) m cap] w fun x w' => x = .returned (.bool (thrd cs m).2) ∧ OwnR 59 5 w' base (.slice (some ⟨g, 0, none⟩) m cap) m ((thrd cs m).1.map Cd.row) ∧ Only [g] w w' := by
  have hl : cs.length = m := by simpa using hown.len
  have HL := Lib.hid hl
  have HOW := Lib.hid hown
  have HB := Lib.hid hb
  clear hown hb hl
  go_enter Try.func102, Try.ntmps102
  go_wp2_with fail
  go_loopw [3, 9] (fun bv i wr => ∃ k : Nat, k ≤ m ∧ i = .int .i64 k ∧ bv = .bool (thrd cs k).2 ∧ OwnR 59 5 wr base (.slice (some ⟨g, 0, none⟩) m cap) m ((thrd cs k).1.map Cd.row) ∧ Only [g] w wr) (fun _ i _ => m - (intOf i).toNat)
  case atStart => exact ⟨0, by omega, rfl, rfl, HOW.out, Only.refl _ _⟩
  case round =>
    clear HOW
    obtain ⟨k, hk, rfl, rfl, hown, ho⟩ := hrel
    have HOW := Lib.hid hown
    have HO := Lib.hid ho
    by_cases hlt : k < m
    · have e1 : decide ((k : Int) < (m : Int)) = true := decide_eq_true (by omega)
      have hlk := thrd_like cs k
      have hll : (thrd cs k).1.length = m := by rw [hlk.1, HL.out]
      have hbk := hlk.inB HB.out
      obtain ⟨x, hx⟩ : ∃ x, (thrd cs k).1[k]? = some x := ⟨_, List.getElem?_eq_getElem (by omega)⟩
      have c0 : wr.cell? ⟨g, k * 5 + 0, none⟩ = some (.int .i64 x.op) := by rw [hown.cellAt hlt (by omega), getD_map hx]; rfl
      have c1 : wr.cell? ⟨g, k * 5 + 1, none⟩ = some (.int .i64 x.a) := by rw [hown.cellAt hlt (by omega), getD_map hx]; rfl
      have c2 : wr.cell? ⟨g, k * 5 + 2, none⟩ = some (.int .i64 x.b) := by rw [hown.cellAt hlt (by omega), getD_map hx]; rfl
      have c3 : wr.cell? ⟨g, k * 5 + 3, none⟩ = some (.int .i64 x.c) := by rw [hown.cellAt hlt (by omega), getD_map hx]; rfl
      have c4 : wr.cell? ⟨g, k * 5 + 4, none⟩ = some (.int .i64 x.n) := by rw [hown.cellAt hlt (by omega), getD_map hx]; rfl
      rw [Nat.add_zero] at c0
      have f4 := hown.frozenAt (k * 5 + 4)
      have HX := Lib.hid hx
      have HJ := Lib.hid (jumps_any x.op x.a x.b x.c x.n wr)
      have HXI : Hid (jmp x = true → 0 ≤ x.n ∧ x.n < (m : Int)) := Lib.hid (fun hj => by have := hbk x (mem_of_at hx) hj; rw [hll] at this; exact this)
      have HTG := Lib.hid (fun w2 (h : Only [] wr w2) (n0 : Int) h0 h1 => target_own g m cap base (thrd cs k).1 n0 w2 (hown.only h (by simp)) hm hbk h0 h1)
      have HNO := Lib.hid (fun h => thrd_no hx h)
      have HYES := Lib.hid (fun (t : Int) h h2 => thrd_yes (t := t) hx h h2)
      have HTT := Lib.hid (fun (hj : jmp x = true) {d : Cd} {t : Int} (ht : Tgt (thrd cs k).1 x.n t) hd => thrN_tgt (d := d) hj ht hd)
      have HTN := Lib.hid (fun (hj : jmp x = false) => thrN_jmp (cs := (thrd cs k).1) hj)
      have HSN := Lib.hid (fun t => set_n hx t)
      obtain ⟨jv, hjv⟩ : ∃ j, jmp x = j := ⟨_, rfl⟩
      obtain ⟨op, xa, xb, xc, xn⟩ := x
      simp only at c0 c1 c2 c3 c4 HJ HXI HNO HYES HTT HTN
      rw [hjv] at HJ HXI HTT HTN
      clear hx hjv hown ho hlk
      cases jv with
      | false =>
        go_wp2_with (go_at_call 136; refine HJ.out.mono ?_; rintro x w2 ⟨rfl, ho2⟩)
        go_roundw
        case measure => simp [intOf]; omega
        case rel =>
          exact ⟨k + 1, by omega, by go_num, by rw [HNO.out (HTN.out (by simp))], by rw [HNO.out (HTN.out (by simp))]; exact HOW.out.only ho2 (by simp), HO.out.trans ho2 (by simp)⟩
      | true =>
        obtain ⟨n0, n1⟩ := HXI.out rfl
        go_wp2_with (first
          | (go_at_call 136; refine HJ.out.mono ?_; rintro x w2 ⟨rfl, ho2⟩; have d4 := ho2.cell c4 (by simp))
          | (go_at_call 137; refine (HTG.out w2 ho2 xn n0 n1).mono ?_; rintro x w3 ⟨t, rfl, ht, ho3⟩; obtain ⟨d, hd, _⟩ := ht.1; have HT := Lib.hid ht; have HD := Lib.hid hd; obtain ⟨t0, t1, hdk⟩ := ins_lt hd; rw [hll] at t1; obtain ⟨tn, rfl⟩ : ∃ q : Nat, t = (q : Int) := ⟨t.toNat, by omega⟩; have hdk2 : (thrd cs k).1[tn]? = some d := hdk; have HOW3 := Lib.hid ((HOW.out.only ho2 (by simp)).only ho3 (by simp)); have z0 : w3.cell? ⟨g, tn * 5 + 0, none⟩ = some (.int .i64 d.op) := by { rw [HOW3.out.cellAt (by omega) (by omega), getD_map hdk2]; rfl }; rw [Nat.add_zero] at z0; have z4 := ho3.cell d4 (by simp); have f4 := HOW3.out.frozenAt (k * 5 + 4); clear ht hd hdk hdk2))
        · rename_i h16
          have htt := HTT.out (by simp) HT.out HD.out
          rw [if_pos h16] at htt
          have hno := HNO.out htt
          go_roundw
          case measure => simp [intOf]; omega
          case rel => exact ⟨k + 1, by omega, by go_num, by rw [hno], by rw [hno]; exact HOW3.out, (HO.out.trans ho2 (by simp)).trans ho3 (by simp)⟩
        · rename_i h16 hb
          have htt := HTT.out (by simp) HT.out HD.out
          rw [if_neg h16] at htt
          have hyes := HYES.out _ htt (by simpa using hb.2)
          have hset := HOW3.out.set (i := k) (j := 4) hlt (by omega) (.int .i64 (tn : Int))
          rw [HSN.out] at hset
          go_roundw
          case measure => simp [intOf]; omega
          case rel => exact ⟨k + 1, by omega, by go_num, by rw [hyes], by rw [hyes]; exact hset, Only.setCell (p := ⟨g, k * 5 + 4, none⟩) ((HO.out.trans ho2 (by simp)).trans ho3 (by simp)) (.inl (by simp)) _⟩
        · rename_i h16 hb
          have htt := HTT.out (by simp) HT.out HD.out
          rw [if_neg h16] at htt
          have htx : (tn : Int) = xn := by
            rcases hb with h | h
            · exact absurd (by simpa using h) h16
            · simpa using h
          rw [htx] at htt
          have hno := HNO.out htt
          go_roundw
          case measure => simp [intOf]; omega
          case rel => exact ⟨k + 1, by omega, by go_num, by rw [hno], by rw [hno]; exact HOW3.out, (HO.out.trans ho2 (by simp)).trans ho3 (by simp)⟩
    · obtain rfl : k = m := by omega
      have e1 : decide ((k : Int) < (k : Int)) = false := decide_eq_false (by omega)
      clear hown ho
      go_wp2_with fail
      go_ret
      exact ⟨rfl, HOW.out, HO.out⟩
/-- whatever slice it is -/
theorem thread_all (A : Option Addr) (m cap base : Nat) (cs : List Cd) (w : World) (hown : OwnR 59 5 w base (.slice A m cap) m (cs.map Cd.row)) (hb : InB cs) (hm : m ≤ 1000000) :
    Calls Try.prog 102 #[.slice A m cap] w fun x w' => x = .returned (.bool (thrd cs m).2) ∧ OwnR 59 5 w' base (.slice A m cap) m ((thrd cs m).1.map Cd.row) ∧ Only (ownL (.slice A m cap)) w w' := by
  obtain ⟨A2, cap2, hv, _, _, hr2, hA⟩ := hown.shape (by decide)
  injection hv with hv1 _ hv2
  subst hv1 hv2
  rcases hA with ⟨rfl, rfl⟩ | ⟨g, rfl, _, _⟩
  · have hl : cs.length = m := by simpa using hown.len
    have h0 : m = 0 := by
      rcases Nat.eq_zero_or_pos m with h | h
      · exact h
      · obtain ⟨_, _, e, _⟩ := hr2.2 h
        cases e
    subst h0
    have HOW := Lib.hid hown
    obtain rfl : cs = [] := List.eq_nil_of_length_eq_zero hl
    clear hown hr2
    go_enter Try.func102, Try.ntmps102
    go_wp2_with fail
    go_loop [3, 9] (fun b i => b = .bool false ∧ i = .int .i64 0) (fun b i => 0)
    case atStart => exact ⟨rfl, rfl⟩
    case round =>
      obtain ⟨rfl, rfl⟩ := hrel
      go_wp2_with fail
      go_ret
      exact ⟨rfl, HOW.out, Only.refl _ _⟩
  · exact thread_any g m cap base cs w hown hb hm
end Go.Proofs.Ytbeenfkmnchhbaa.Peep
