/- The document's idle, lazy and Target of peep walk. -/
import Derived.Test.YtbeenfkmnchhbaaPeepMath5
namespace Go.Proofs.Ytbeenfkmnchhbaa.Peep
open Go.RowKit Object
set_option linter.unusedVariables false
set_option maxRecDepth 100000
def lazyB (cs : List Cd) (c : Cd) : Bool := jmp c && (match ins cs c.n with | some e => e.op == 16 && !(e.n == c.n) | none => false)
set_option maxHeartbeats 1000000 in
theorem ridle_any (A : Option Addr) (m c B i : Nat) (cs : List Cd) (x : Cd) (w : World) (hr : Recs w B 5 A m (cs.map Cd.row)) (hm : m ≤ 1000000) (hx : cs[i]? = some x) :
    Calls Try.prog 104 #[.slice A m c, .int .i64 (i : Nat)] w fun e w' => e = .returned (.bool (idleB x i)) ∧ Only [] w w' := by
  have hl : cs.length = m := by simpa using hr.1
  have hi : i < m := by rw [← hl]; exact (List.getElem?_eq_some_iff.1 hx).1
  obtain ⟨b, off, hA, hb, y, hmem, hsk, c0, c1, c2, c3, c4⟩ := cd_at hr i hi
  subst hA
  obtain rfl : y = x := by rw [hx] at hsk; injection hsk with hsk; exact hsk.symm
  have HO := Lib.hid ((Only.refl [] w).alloc (.cells #[.int .i64 y.op, .int .i64 y.a, .int .i64 y.b, .int .i64 y.c, .int .i64 y.n] 59))
  have hB := Blk.new w 59 #[.int .i64 y.op, .int .i64 y.a, .int .i64 y.b, .int .i64 y.c, .int .i64 y.n]
  have hwr : IntKind.i64.wrap ((i : Int) + 1) = (i : Int) + 1 := IntWalk.i64_in _ (by omega)
  obtain ⟨op, ya, yb, yc, n⟩ := y
  simp only at c0 c1 c2 c3 c4 HO
  unfold idleB jmp
  simp only
  obtain ⟨q, hq⟩ : ∃ q, (n == (i : Int) + 1) = q := ⟨_, rfl⟩
  rw [hq]
  clear hr hsk hmem hx hB
  by_cases h2 : op = 2 ∧ ya = yb
  · obtain ⟨rfl, rfl⟩ := h2
    have e1 : (ya == ya) = true := by simp
    go_enter Try.func104, Try.ntmps104
    go_wp2_with fail
    go_ret
    exact ⟨by simp, HO.out⟩
  · have e0 : ((op == 2) && (ya == yb)) = false := by rw [Bool.and_eq_false_iff]; simp; omega
    rw [e0]
    by_cases h16 : op = 16
    · subst h16
      go_enter Try.func104, Try.ntmps104
      go_wp2_with fail
      go_ret
      exact ⟨by simp, HO.out⟩
    · by_cases h17 : op = 17
      · subst h17
        go_enter Try.func104, Try.ntmps104
        go_wp2_with fail
        go_ret
        exact ⟨by simp, HO.out⟩
      · have e1 : (op == 16) = false := by simp [h16]
        have e2 : (op == 17) = false := by simp [h17]
        rw [e1, e2]
        have hcase : (op == 2) = false ∨ ((op == 2) = true ∧ (ya == yb) = false) := by
          simp at e0 ⊢
          omega
        clear h2 e0 h16 h17
        rcases hcase with e3 | ⟨e3, e4⟩
        all_goals
          go_enter Try.func104, Try.ntmps104
          go_wp2_with fail
          go_ret
          exact ⟨by simp, HO.out⟩
set_option maxHeartbeats 1000000 in
theorem rlazy_any (A : Option Addr) (m c B i : Nat) (cs : List Cd) (x : Cd) (w : World) (hr : Recs w B 5 A m (cs.map Cd.row)) (hB : B ≤ w.heap.size) (hm : m ≤ 1000000) (hb : InB cs) (hx : cs[i]? = some x) :
    Calls Try.prog 105 #[.slice A m c, .int .i64 (i : Nat)] w fun e w' => e = .returned (.bool (lazyB cs x)) ∧ Only [] w w' := by
  have hl : cs.length = m := by simpa using hr.1
  have hi : i < m := by rw [← hl]; exact (List.getElem?_eq_some_iff.1 hx).1
  obtain ⟨b, off, hA, hbB, y, hmem, hsk, c0, c1, c2, c3, c4⟩ := cd_at hr i hi
  subst hA
  obtain rfl : y = x := by rw [hx] at hsk; injection hsk with hsk; exact hsk.symm
  have HO := Lib.hid ((Only.refl [] w).alloc (.cells #[.int .i64 y.op, .int .i64 y.a, .int .i64 y.b, .int .i64 y.c, .int .i64 y.n] 59))
  have hBl := Blk.new w 59 #[.int .i64 y.op, .int .i64 y.a, .int .i64 y.b, .int .i64 y.c, .int .i64 y.n]
  by_cases hj : jmp y = true
  · obtain ⟨n0, n1⟩ := hb y (mem_of_at hx) hj
    rw [hl] at n1
    obtain ⟨t, ht⟩ : ∃ t : Nat, y.n = (t : Int) := ⟨y.n.toNat, by omega⟩
    obtain ⟨b2, off2, hA2, hb2, z, hzm, hzk, z0, z1, z2, z3, z4⟩ := cd_at hr t (by omega)
    injection hA2 with hA2
    injection hA2 with hA3 hA4 _
    subst hA3 hA4
    have hz : ins cs y.n = some z := by rw [ht, ins_nat]; exact hzk
    have ho := HO.out
    have y0 := ho.cell z0 (by simp)
    have y1 := ho.cell z1 (by simp)
    have y2 := ho.cell z2 (by simp)
    have y3 := ho.cell z3 (by simp)
    have y4 := ho.cell z4 (by simp)
    have ho2 := ho.alloc (.cells #[.int .i64 z.op, .int .i64 z.a, .int .i64 z.b, .int .i64 z.c, .int .i64 z.n] 59)
    have HO2 := Lib.hid ho2
    unfold lazyB
    rw [hz, hj]
    simp only [Bool.true_and]
    obtain ⟨q, hq⟩ : ∃ q, (z.n == y.n) = q := ⟨_, rfl⟩
    rw [hq]
    rw [ht] at hq
    have hq2 : (z.n != (t : Int)) = !q := by rw [← hq]; rfl
    obtain ⟨op, ya, yb, yc, n⟩ := y
    obtain ⟨zop, za, zb, zc, zn⟩ := z
    simp only at c0 c1 c2 c3 c4 HO HO2 y0 y1 y2 y3 y4 z0 z1 z2 z3 z4 hq hq2 ht n0 n1
    subst ht
    have d0 : decide ((t : Int) < 0) = false := decide_eq_false (by omega)
    have d1 : decide ((m : Int) ≤ (t : Int)) = false := decide_eq_false (by omega)
    have d2 : decide (m ≤ t) = false := decide_eq_false (by omega)
    clear hr hsk hmem hx hBl hz hzk hzm ho ho2
    obtain ⟨zv, hzv⟩ : ∃ v, (zop == 16) = v := ⟨_, rfl⟩
    rw [hzv]
    cases zv
    all_goals
      rcases jmp_op hj with e | e <;> simp only at e <;> subst e <;> clear hj
      all_goals
        go_enter Try.func105, Try.ntmps105
        go_wp2_with fail
        go_ret
        exact ⟨by simp, HO2.out⟩
  · have hjf : jmp y = false := by simpa using hj
    unfold lazyB
    rw [hjf, Bool.false_and]
    obtain ⟨op, ya, yb, yc, n⟩ := y
    simp only at c0 c1 c2 c3 c4 HO
    unfold jmp at hjf
    simp only [Bool.or_eq_false_iff, beq_eq_false_iff_ne] at hjf
    obtain ⟨h16, h17⟩ := hjf
    have e1 : (op == 16) = false := by simp [h16]
    have e2 : (op == 17) = false := by simp [h17]
    have e3 : (op != 16) = true := by simp [h16]
    have e4 : (op != 17) = true := by simp [h17]
    clear hr hsk hmem hx hBl hj h16 h17
    go_enter Try.func105, Try.ntmps105
    go_wp2_with fail
    go_ret
    exact ⟨rfl, HO.out⟩
set_option maxHeartbeats 2000000 in
theorem rtarget_any (A : Option Addr) (m c B : Nat) (cs : List Cd) (n0 : Int) (w : World) (hr : Recs w B 5 A m (cs.map Cd.row)) (hm : m ≤ 1000000) (hb : InB cs) (h0 : 0 ≤ n0) (h1 : n0 < (m : Int)) :
    Calls Try.prog 106 #[.slice A m c, .int .i64 n0] w fun x w' => ∃ t, x = .returned (.int .i64 t) ∧ Tgt cs n0 t ∧ w' = w := by
  have hl : cs.length = m := by simpa using hr.1
  have HL := Lib.hid hl
  have HR := Lib.hid hr
  have HB := Lib.hid hb
  have HBG := Lib.hid (RWay.begin_ (cs := cs) h0 (by rw [hl]; exact h1))
  clear hr hb hl
  go_enter Try.func106, Try.ntmps106
  go_wp2_with fail
  go_loop [5, 6] (fun a i => ∃ k : Nat, k ≤ m ∧ i = .int .i64 k ∧ a = .int .i64 (pth cs n0 k) ∧ RWay cs n0 k) (fun _ i => m - (intOf i).toNat)
  case atStart => exact ⟨0, by omega, rfl, rfl, HBG.out⟩
  case round =>
    clear HBG h0 h1
    obtain ⟨k, hk, rfl, rfl, hw⟩ := hrel
    have hlt : k < m := by have := hw.lt; rw [HL.out] at this; exact this
    have HW := Lib.hid hw
    obtain ⟨a0, a1⟩ := hw.rng (Nat.le_refl k)
    rw [HL.out] at a1
    obtain ⟨j, hj⟩ : ∃ j : Nat, pth cs n0 k = (j : Int) := ⟨(pth cs n0 k).toNat, by omega⟩
    obtain ⟨b, off, hA, hbb, x, hmem, hsk, c0, c1, c2, c3, c4⟩ := cd_at HR.out j (by omega)
    subst hA
    have HI : Hid (ins cs (pth cs n0 k) = some x) := Lib.hid (by rw [hj, ins_nat]; exact hsk)
    have HJ := Lib.hid hj
    rw [hj] at a0 a1 ⊢
    have e1 : decide ((k : Int) < (m : Int)) = true := decide_eq_true (by omega)
    have HX := Lib.hid hmem
    obtain ⟨op, xa, xb, xc, xn⟩ := x
    simp only at c0 c4
    clear hw hsk hmem hj c1 c2 c3
    by_cases h16 : op = 16
    · subst h16
      obtain ⟨n0', n1'⟩ := HB.out _ HX.out (by unfold jmp; rfl)
      simp only at n0' n1'
      rw [HL.out] at n1'
      go_wp2_with fail
      clear c0 c4 e1
      go_loop [8, 9, 10] (fun s x i => ∃ q : Nat, q ≤ k + 1 ∧ i = .int .i64 q ∧ x = .int .i64 (pth cs n0 q) ∧ s = .bool (decide (xn ∈ pthL cs n0 q))) (fun _ _ i => k + 1 - (intOf i).toNat)
      case atStart => exact ⟨0, by omega, rfl, rfl, by simp [pthL]⟩
      case round =>
        obtain ⟨q, hq, rfl, rfl, rfl⟩ := hrel
        by_cases hqk : q ≤ k
        · have e1 : decide ((q : Int) ≤ (k : Int)) = true := decide_eq_true (by omega)
          have e2 : decide (q ≤ k) = true := decide_eq_true hqk
          obtain ⟨p0, p1⟩ := HW.out.rng hqk
          rw [HL.out] at p1
          obtain ⟨u, hu⟩ : ∃ u : Nat, pth cs n0 q = (u : Int) := ⟨(pth cs n0 q).toNat, by omega⟩
          obtain ⟨b2, off2, hA2, hb2, z, hzm, hzk, z0, z1, z2, z3, z4⟩ := cd_at HR.out u (by omega)
          injection hA2 with hA2
          injection hA2 with hA3 hA4 _
          subst hA3 hA4
          have HN : Hid (pth cs n0 (q + 1) = z.n) := Lib.hid (by rw [pth, nxt_at (by rw [hu, ins_nat]; exact hzk)])
          have HS : Hid (decide (xn ∈ pthL cs n0 (q + 1)) = (decide (xn ∈ pthL cs n0 q) || ((u : Int) == xn))) := Lib.hid (by
            rw [pthL, hu, Bool.eq_iff_iff]
            simp only [List.mem_cons, decide_eq_true_eq, Bool.or_eq_true, beq_iff_eq]
            constructor
            · rintro (h | h)
              · exact .inr h.symm
              · exact .inl h
            · rintro (h | h)
              · exact .inr h
              · exact .inl h.symm)
          rw [hu] at p0 p1 ⊢
          obtain ⟨sb, hsb⟩ : ∃ s, decide (xn ∈ pthL cs n0 q) = s := ⟨_, rfl⟩
          rw [hsb] at HS ⊢
          obtain ⟨op2, za, zb, zc, zn⟩ := z
          simp only at z4 HN
          clear hzm hzk z0 z1 z2 z3 hu hsb
          cases sb
          all_goals
            go_wp2_with fail
            go_round
            case measure => simp [intOf]; omega
            case rel => exact ⟨q + 1, by omega, by go_num, by rw [HN.out], by rw [HS.out]; simp⟩
        · obtain rfl : q = k + 1 := by omega
          have e1 : decide (((k + 1 : Nat) : Int) ≤ (k : Int)) = false := decide_eq_false (by omega)
          have e2 : decide (k + 1 ≤ k) = false := decide_eq_false (by omega)
          by_cases hs : xn ∈ pthL cs n0 (k + 1)
          · have HT := Lib.hid (HW.out.way.round HI.out rfl hs)
            rw [HJ.out] at HT
            rw [decide_eq_true hs]
            clear hs
            go_wp2_with fail
            go_ret
            exact ⟨_, rfl, HT.out, rfl⟩
          · have HN := Lib.hid (HW.out.next HI.out rfl ⟨n0', by rw [HL.out]; exact n1'⟩ hs)
            have HP : Hid (pth cs n0 (k + 1) = xn) := Lib.hid (by rw [pth, nxt_at HI.out])
            rw [decide_eq_false hs]
            clear hs
            go_wp2_with fail
            go_round
            case measure => simp [intOf]; omega
            case rel => exact ⟨k + 1, by omega, by go_num, by rw [HP.out], HN.out⟩
    · have HT := Lib.hid (HW.out.way.end_ HI.out h16)
      have e2 : (op == 16) = false := by simp [h16]
      have e3 : (op != 16) = true := by simp [h16]
      rw [HJ.out] at HT
      clear h16
      go_wp2_with fail
      go_ret
      exact ⟨_, rfl, HT.out, rfl⟩
end Go.Proofs.Ytbeenfkmnchhbaa.Peep
