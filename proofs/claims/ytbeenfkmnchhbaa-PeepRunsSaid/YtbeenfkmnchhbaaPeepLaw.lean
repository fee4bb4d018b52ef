/- PeepRuns, walked. -/
import Derived.Test.YtbeenfkmnchhbaaPeepLeft
import Derived.Test.YtbeenfkmnchhbaaPeepRun
import Derived.Test.YtbeenfkmnchhbaaObjSame2
import Derived.Test.YtbeenfkmnchhbaaObjRRight2
import Derived.Test.YtbeenfkmnchhbaaObjKnows
import Derived.BigRegion
namespace Go.Proofs.Ytbeenfkmnchhbaa.Peep
open Go.RowKit Object
set_option linter.unusedVariables false
set_option maxRecDepth 100000
theorem isOb_kd (w : World) : IsOb ((w.alloc (.cells #[.int .i64 16, .int .i64 0, .int .i64 0, .int .i64 0, .int .i64 1, .int .i64 19, .int .i64 (-1), .int .i64 0, .int .i64 0, .int .i64 0] 59)).alloc (.cells #[.string ⟨#[112, 46, 102]⟩, .int .i64 1] 73))
    ⟨some ⟨w.heap.size, 0, none⟩, 2, 2, some ⟨w.heap.size + 1, 0, none⟩, 1, 1, none, 0, 0⟩ kd := by
  have h1 := (Blk.new w 59 #[.int .i64 16, .int .i64 0, .int .i64 0, .int .i64 0, .int .i64 1, .int .i64 19, .int .i64 (-1), .int .i64 0, .int .i64 0, .int .i64 0]).alloc (.cells #[.string ⟨#[112, 46, 102]⟩, .int .i64 1] 73)
  have h2 := Blk.new (w.alloc (.cells #[.int .i64 16, .int .i64 0, .int .i64 0, .int .i64 0, .int .i64 1, .int .i64 19, .int .i64 (-1), .int .i64 0, .int .i64 0, .int .i64 0] 59)) 73 #[.string ⟨#[112, 46, 102]⟩, .int .i64 1]
  rw [World.size_alloc] at h2
  refine ⟨⟨rfl, fun _ => ⟨_, _, rfl, by simp <;> omega, fun i hi j hj => ?_⟩⟩, ⟨rfl, fun _ => ⟨_, _, rfl, by simp <;> omega, fun i hi j hj => ?_⟩⟩, Recs.nil_, by simp [maxLen], by simp [maxLen], by simp [maxLen]⟩
  · rw [h1.cell]
    have hi : i < 2 := hi
    obtain rfl | rfl : i = 0 ∨ i = 1 := by omega
    all_goals
      obtain rfl | rfl | rfl | rfl | rfl : j = 0 ∨ j = 1 ∨ j = 2 ∨ j = 3 ∨ j = 4 := by omega
    all_goals exact ⟨rfl, rfl⟩
  · rw [h2.cell]
    have hi : i < 1 := hi
    obtain rfl : i = 0 := by omega
    obtain rfl | rfl : j = 0 ∨ j = 1 := by omega
    all_goals exact ⟨rfl, rfl⟩
theorem run_kd {w : World} {x : Ending} {w' : World} (h : RunO kd w x w') : ∃ b1 o1 p1 b2 o2 p2 A3 p3, x = .returned (.tuple #[.agg #[.slice (some ⟨b1, o1, none⟩) 1 p1, .slice (some ⟨b2, o2, none⟩) 1 p2, .slice A3 0 p3], .bool true]) ∧ w'.cell? ⟨b1, o1, none⟩ = some (.int .i64 19) ∧ w'.cell? ⟨b2, o2 + 1, none⟩ = some (.int .i64 0) ∧ b1 < w'.heap.size ∧ b2 < w'.heap.size ∧ Only [] w w' := by
  obtain ⟨⟨B1, m1, p1, B2, m2, p2, B3, m3, p3⟩, e, rfl, hi, hr, _, ho⟩ := h
  obtain rfl := kd_run (hr kd_right)
  obtain rfl : m1 = 1 := hi.n1.symm
  obtain rfl : m2 = 1 := hi.n2.symm
  obtain rfl : m3 = 0 := hi.n3.symm
  obtain ⟨b1, o1, hA1, hl1, x1, _, hx1, y1, _⟩ := cd_at hi.code 0 (by show 0 < 1; decide)
  obtain ⟨b2, o2, hA2, hl2, x2, _, hx2, _, y2⟩ := en_at hi.ents 0 (by show 0 < 1; decide)
  simp only at hA1 hA2
  subst hA1 hA2
  obtain rfl : x1 = ⟨19, -1, 0, 0, 0⟩ := by have : (ke.code)[0]? = some (⟨19, -1, 0, 0, 0⟩ : Cd) := rfl; rw [this] at hx1; injection hx1 with h; exact h.symm
  obtain rfl : x2 = ⟨⟨#[112, 46, 102]⟩, 0⟩ := by have : (ke.ents)[0]? = some (⟨⟨#[112, 46, 102]⟩, 0⟩ : En) := rfl; rw [this] at hx2; injection hx2 with h; exact h.symm
  simp only [Nat.zero_mul, Nat.add_zero] at y1 y2
  refine ⟨b1, o1, p1, b2, o2, p2, B3, p3, by rw [kd_right]; rfl, y1, y2, hl1, hl2, ho⟩
set_option maxHeartbeats 1000000 in
theorem pknows_any (w : World) : Calls Try.prog 47 #[] w fun x w' => x = .returned (.bool true) ∧ Only [] w w' := by
  have HR := Lib.hid (run_any ⟨some ⟨w.heap.size, 0, none⟩, 2, 2, some ⟨w.heap.size + 1, 0, none⟩, 1, 1, none, 0, 0⟩ kd _ (isOb_kd w) (by simp) (by simp) (by simp))
  have HO := Lib.hid ((((Only.refl [] w).alloc (.cells #[.int .i64 16, .int .i64 0, .int .i64 0, .int .i64 0, .int .i64 1, .int .i64 19, .int .i64 (-1), .int .i64 0, .int .i64 0, .int .i64 0] 59)).alloc (.cells #[.string ⟨#[112, 46, 102]⟩, .int .i64 1] 73)))
  unfold Ob.val at HR
  simp only at HR
  go_enter Try.func47, Try.ntmps47
  go_wp2_with fail
  refine HR.out.mono ?_
  intro x w2 hx
  obtain ⟨b1, o1, p1, b2, o2, p2, A3, p3, rfl, y1, y2, hl1, hl2, ho⟩ := run_kd hx
  have HO2 := Lib.hid (HO.out.trans ho (by simp))
  clear hx ho
  go_wp2_with fail
  go_ret
  exact ⟨rfl, HO2.out.alloc _⟩
theorem map_name {l r : List En} (h : l.map (·.name) = r.map (·.name)) {i : Nat} {a b : En} (ha : l[i]? = some a) (hb : r[i]? = some b) : a.name = b.name := by
  have h1 := congrArg (·[i]?) h
  simp only [List.getElem?_map, ha, hb, Option.map_some, Option.some.injEq] at h1
  exact h1
set_option maxHeartbeats 4000000 in
theorem peeps_any (A1 : Option Addr) (m1 p1 : Nat) (A2 : Option Addr) (m2 p2 : Nat) (A3 : Option Addr) (m3 p3 : Nat) (d : OD) (w : World) (h : IsOb w ⟨A1, m1, p1, A2, m2, p2, A3, m3, p3⟩ d) :
    Calls Try.prog 10 #[.agg #[.slice A1 m1 p1, .slice A2 m2 p2, .slice A3 m3 p3]] w fun x w' => x = .returned (.bool true) ∧ Only [] w w' := by
  have hbx := Blk.new w 57 #[.slice A1 m1 p1, .slice A2 m2 p2, .slice A3 m3 p3]
  have ho1 := (Only.refl [] w).alloc (.cells #[.slice A1 m1 p1, .slice A2 m2 p2, .slice A3 m3 p3] 57)
  have HL := Lib.hid (light_any ⟨A1, m1, p1, A2, m2, p2, A3, m3, p3⟩ d 200 _ (h.only ho1))
  unfold Ob.val at HL
  simp only at HL
  rw [show ((200 : Nat) : Int) = 200 from rfl] at HL
  have HO1 := Lib.hid ho1
  have HBX := Lib.hid hbx
  have HH := Lib.hid h
  have HK := Lib.hid pknows_any
  have e00 := hbx.cell 0
  have e01 := hbx.cell 1
  have e02 := hbx.cell 2
  clear h hbx ho1
  go_enter Try.func10, Try.ntmps10
  go_wp2_with fail
  refine HL.out.mono ?_
  rintro x w2 ⟨b, rfl, hl, ho2⟩
  have HO2 := Lib.hid (HO1.out.trans ho2 (by simp))
  have HB2 := Lib.hid (HBX.out.only ho2 (by simp))
  clear ho2 e00 e01 e02 HO1 HBX
  cases b with
  | false =>
    clear hl
    go_wp2_with (go_at_call 47; refine (HK.out w2).mono ?_; rintro x w3 ⟨rfl, ho3⟩)
    go_ret
    exact ⟨rfl, HO2.out.trans ho3 (by simp)⟩
  | true =>
    obtain ⟨l1, l2, l3⟩ := hl rfl
    simp only at l1 l2 l3
    clear hl
    go_wp2_with fail
    refine (HK.out w2).mono ?_
    rintro x w3 ⟨rfl, ho3⟩
    have HO3 := Lib.hid (HO2.out.trans ho3 (by simp))
    have HB3 := Lib.hid (HB2.out.only ho3 (by simp))
    have hi3 := HH.out.only HO3.out
    have HI3 := Lib.hid hi3
    have HRUN := Lib.hid (run_any ⟨A1, m1, p1, A2, m2, p2, A3, m3, p3⟩ d w3 hi3 (by simp only; omega) (by simp only; omega) (by simp only; omega))
    unfold Ob.val at HRUN
    simp only at HRUN
    have x0 := HB3.out.cell 0
    have x1 := HB3.out.cell 1
    have x2 := HB3.out.cell 2
    clear ho3 hi3 HO2 HB2 HK HL
    go_wp2_with fail
    refine HRUN.out.mono ?_
    intro x w4 hx
    unfold RunO Ob.val at hx
    obtain ⟨⟨B1, n1, q1, B2, n2, q2, B3, n3, q3⟩, e, rfl, hi4, hr4, hf4, ho4⟩ := hx
    simp only
    have hb4 := HB3.out.only ho4 (by simp)
    have hbe := hb4.alloc (.cells #[.slice B1 n1 q1, .slice B2 n2 q2, .slice B3 n3 q3] 57)
    have hen := Blk.new w4 57 #[.slice B1 n1 q1, .slice B2 n2 q2, .slice B3 n3 q3]
    have hoe := (Only.refl [] w4).alloc (.cells #[.slice B1 n1 q1, .slice B2 n2 q2, .slice B3 n3 q3] 57)
    have HO5 := Lib.hid ((HO3.out.trans ho4 (by simp)).trans hoe (by simp))
    have HI5 := Lib.hid (hi4.only hoe)
    have HI4 := Lib.hid hi4
    have HRR := Lib.hid (fun w' (ho : Only [] (w4.alloc (.cells #[.slice B1 n1 q1, .slice B2 n2 q2, .slice B3 n3 q3] 57)) w') => rright_any ⟨A1, m1, p1, A2, m2, p2, A3, m3, p3⟩ d w' (HH.out.only (HO5.out.trans ho (by simp))) (by simp only; omega) (by simp only; omega) (by simp only; omega))
    have HB5 := Lib.hid hbe
    have HE5 := Lib.hid hen
    have y0 := hbe.cell 0
    have y1 := hbe.cell 1
    have y2 := hbe.cell 2
    have z0 := hen.cell 0
    have z1 := hen.cell 1
    have z2 := hen.cell 2
    have HR4 := Lib.hid hr4
    have HF4 := Lib.hid hf4
    obtain ⟨q, hq⟩ : ∃ q, objRight d = q := ⟨_, rfl⟩
    rw [hq] at HRR HR4 HF4 ⊢
    have HQ := Lib.hid hq
    unfold Ob.val at HRR
    simp only at HRR
    clear hb4 hbe hen hoe hr4 hf4 hi4 hq ho4 HB3 x0 x1 x2
    go_wp2_with fail
    refine (HRR.out _ (Only.refl _ _)).mono ?_
    rintro x w6 ⟨rfl, ho6⟩
    have hb6 := HB5.out.only ho6 (by simp)
    have he6 := HE5.out.only ho6 (by simp)
    have HO6 := Lib.hid (HO5.out.trans ho6 (by simp))
    have HI6 := Lib.hid (HI5.out.only ho6)
    have HB6 := Lib.hid hb6
    have HE6 := Lib.hid he6
    have z0 := he6.cell 0
    have z1 := he6.cell 1
    have z2 := he6.cell 2
    clear y0 y1 y2 HRR hb6 he6 ho6 HB5 HE5 HO5 HI5
    obtain ⟨bx, hbx⟩ : ∃ bx, w4.heap.size = bx := ⟨_, rfl⟩
    rw [hbx] at HE6 z0 z1 z2 ⊢
    clear hbx
    cases q with
    | false =>
      obtain rfl := HF4.out rfl
      obtain rfl : n1 = 0 := HI4.out.n1.symm
      obtain rfl : n2 = 0 := HI4.out.n2.symm
      obtain rfl : n3 = 0 := HI4.out.n3.symm
      go_wp2_with fail
      go_ret
      exact ⟨rfl, HO6.out⟩
    | true =>
      have HRN := Lib.hid ((HR4.out rfl).ran HQ.out)
      have hc1 := HRN.out.len
      have hc2 := congrArg List.length HRN.out.ents
      have hc3 := congrArg List.length HRN.out.calls
      rw [List.length_map, List.length_map] at hc2 hc3
      have e1 : e.code.length = n1 := HI4.out.n1
      have e2 : e.ents.length = n2 := HI4.out.n2
      have e3 : e.calls.length = n3 := HI4.out.n3
      have d1 : d.code.length = m1 := HH.out.n1
      have d2 : d.ents.length = m2 := HH.out.n2
      have d3 : d.calls.length = m3 := HH.out.n3
      have hle : n1 ≤ m1 := by omega
      obtain rfl : n2 = m2 := by omega
      obtain rfl : n3 = m3 := by omega
      clear e1 e2 e3 d1 d2 d3
      have HRU := Lib.hid (run_any ⟨B1, n1, q1, B2, n2, q2, B3, n3, q3⟩ e w6 HI6.out (by simp only; omega) (by simp only; omega) (by simp only; omega))
      unfold Ob.val at HRU
      simp only at HRU
      clear hc1 hc2 hc3 HR4 HF4 HI4 HRUN HI3 HO3
      go_wp2_with fail
      refine HRU.out.mono ?_
      intro x w7 hx
      unfold RunO Ob.val at hx
      obtain ⟨⟨C1, k1, r1, C2, k2, r2, C3, k3, r3⟩, f, rfl, hi7, hr7, _, ho7⟩ := hx
      rw [HRN.out.right] at hr7 ⊢
      obtain rfl : e = f := (((hr7 rfl).ran HRN.out.right).same HRN.out.stable).symm
      simp only
      have hb7 := HB6.out.only ho7 (by simp)
      have he7 := HE6.out.only ho7 (by simp)
      have hoa := (Only.refl [] w7).alloc (.cells #[.slice C1 k1 r1, .slice C2 k2 r2, .slice C3 k3 r3] 57)
      have hc8 := Blk.new w7 57 #[.slice C1 k1 r1, .slice C2 k2 r2, .slice C3 k3 r3]
      have hx8 := (HI6.out.only ho7).only hoa
      have hy8 := hi7.only hoa
      have HO8 := Lib.hid ((HO6.out.trans ho7 (by simp)).trans hoa (by simp))
      have HB8 := Lib.hid (hb7.only hoa (by simp))
      have HE8 := Lib.hid (he7.only hoa (by simp))
      have x0 := HB8.out.cell 0
      have x1 := HB8.out.cell 1
      have x2 := HB8.out.cell 2
      have y0 := HE8.out.cell 0
      have y1 := HE8.out.cell 1
      have y2 := HE8.out.cell 2
      have c0 := hc8.cell 0
      have c1 := hc8.cell 1
      have c2 := hc8.cell 2
      have HSM := Lib.hid (rsame30_any _ _ e e _ hx8 hy8 ⟨by simp only; omega, by simp only; omega, by simp only; omega⟩)
      rw [decide_eq_true rfl] at HSM
      unfold Ob.val at HSM
      simp only at HSM
      have hXK := fun w' (ho : Only [] (w7.alloc (.cells #[.slice C1 k1 r1, .slice C2 k2 r2, .slice C3 k3 r3] 57)) w') => hx8.only ho
      have HRR := Lib.hid (fun w' ho => rright_any ⟨B1, n1, q1, B2, n2, q2, B3, n3, q3⟩ e w' (hXK w' ho) (by simp only; omega) (by simp only; omega) (by simp only; omega))
      have HLF := Lib.hid (fun w' ho => left_any ⟨B1, n1, q1, B2, n2, q2, B3, n3, q3⟩ e w' (hXK w' ho) (by simp only; omega) (right_inB HRN.out.right) HRN.out.clear)
      have HXK := Lib.hid hXK
      rw [HRN.out.right] at HRR
      unfold Ob.val at HRR HLF
      simp only at HRR HLF
      have d1 : decide ((m1 : Int) < (n1 : Int)) = false := decide_eq_false (by omega)
      have d2 : decide (m1 < n1) = false := decide_eq_false (by omega)
      clear hb7 he7 hoa hc8 hx8 hy8 hXK z0 z1 z2 hi7 hr7 ho7 HB6 HE6 HI6 HO6 HRU
      go_wp2_with fail
      refine HSM.out.mono ?_
      rintro x w9 ⟨rfl, ho9⟩
      have y90 := (HE8.out.only ho9 (by simp)).cell 0
      have y91 := (HE8.out.only ho9 (by simp)).cell 1
      have y92 := (HE8.out.only ho9 (by simp)).cell 2
      have HO9 := Lib.hid ho9
      clear ho9
      go_wp2_with fail
      refine (HRR.out w9 HO9.out).mono ?_
      rintro x w10 ⟨rfl, ho10⟩
      have HO10 := Lib.hid (HO9.out.trans ho10 (by simp))
      have y100 := (HE8.out.only HO10.out (by simp)).cell 0
      have y101 := (HE8.out.only HO10.out (by simp)).cell 1
      have y102 := (HE8.out.only HO10.out (by simp)).cell 2
      clear ho10 y90 y91 y92 x0 x1 x2 y0 y1 y2 c0 c1 c2
      go_wp2_with fail
      refine (HLF.out w10 HO10.out).mono ?_
      rintro x w11 ⟨rfl, ho11⟩
      have HO11 := Lib.hid (HO10.out.trans ho11 (by simp))
      have HE11 := Lib.hid (HE8.out.only HO11.out (by simp))
      have HB11 := Lib.hid (HB8.out.only HO11.out (by simp))
      have y0 := HE11.out.cell 0
      have y1 := HE11.out.cell 1
      have y2 := HE11.out.cell 2
      have x0 := HB11.out.cell 0
      have x1 := HB11.out.cell 1
      have x2 := HB11.out.cell 2
      have HI11 := Lib.hid (HXK.out w11 HO11.out)
      have HW11 := Lib.hid (HO8.out.trans HO11.out (by simp))
      have HD11 := Lib.hid (HH.out.only HW11.out)
      have HNE := Lib.hid HRN.out.ents
      have HNC := Lib.hid HRN.out.calls
      clear ho11 y100 y101 y102 HSM HRR HLF HXK HO8 HO9 HO10 HO11 HE8 HB8 HRN HQ
      obtain ⟨by_, hby⟩ : ∃ by_, w7.heap.size = by_ := ⟨_, rfl⟩
      rw [hby]
      clear hby
      go_wp2_with fail
      go_loopw [7] (fun i wr => ∃ k : Nat, k ≤ n2 ∧ i = .int .i64 k ∧ Only [] w11 wr) (fun i _ => n2 - (intOf i).toNat)
      case atStart => exact ⟨0, by omega, rfl, Only.refl _ _⟩
      case round =>
        obtain ⟨k, hk, rfl, ho⟩ := hrel
        have y := (HE11.out.only ho (by simp)).cell 1
        by_cases hlt : k < n2
        · have e1 : decide ((k : Int) < (n2 : Int)) = true := decide_eq_true (by omega)
          have hod := ho.drew
          have yd := (HE11.out.only hod (by simp)).cell 1
          have xd := (HB11.out.only hod (by simp)).cell 1
          obtain ⟨b1, f1, hA1, hl1, u, _, hu, c10, c11⟩ := en_at (HI11.out.only hod).ents k hlt
          obtain ⟨b2, f2, hA2, hl2, v, _, hv, c20, c21⟩ := en_at (HD11.out.only hod).ents k hlt
          simp only at hA1 hA2
          subst hA1 hA2
          have hn := map_name HNE.out hu hv
          obtain ⟨un, up⟩ := u
          obtain ⟨vn, vp⟩ := v
          simp only at hn c10 c11 c20 c21
          subst hn
          have HOK := Lib.hid hod
          clear hu hv ho hod
          go_wp2_with fail
          go_region
          go_wp2_with fail
          go_roundw
          case measure => simp [intOf]; omega
          case rel => exact ⟨k + 1, by omega, by go_num, HOK.out⟩
        · obtain rfl : k = n2 := by omega
          have e1 : decide ((k : Int) < (k : Int)) = false := decide_eq_false (by omega)
          have HOK := Lib.hid ho
          clear ho
          go_wp2_with fail
          go_loopw [8] (fun i wr => ∃ k : Nat, k ≤ n3 ∧ i = .int .i64 k ∧ Only [] w11 wr) (fun i _ => n3 - (intOf i).toNat)
          case atStart => exact ⟨0, by omega, rfl, HOK.out⟩
          case round =>
            obtain ⟨k, hk, rfl, ho⟩ := hrel
            have y := (HE11.out.only ho (by simp)).cell 2
            by_cases hlt : k < n3
            · have e1 : decide ((k : Int) < (n3 : Int)) = true := decide_eq_true (by omega)
              have hod := ho.drew
              have yd := (HE11.out.only hod (by simp)).cell 2
              have xd := (HB11.out.only hod (by simp)).cell 2
              obtain ⟨b1, f1, hA1, hl1, u, _, hu, c10, c11⟩ := cl_at (HI11.out.only hod).calls k hlt
              obtain ⟨b2, f2, hA2, hl2, v, _, hv, c20, c21⟩ := cl_at (HD11.out.only hod).calls k hlt
              simp only at hA1 hA2
              subst hA1 hA2
              have hn := map_name HNC.out hu hv
              obtain ⟨un, up⟩ := u
              obtain ⟨vn, vp⟩ := v
              simp only at hn c10 c11 c20 c21
              subst hn
              have HOK := Lib.hid hod
              clear hu hv ho hod
              go_wp2_with fail
              go_region
              go_wp2_with fail
              go_roundw
              case measure => simp [intOf]; omega
              case rel => exact ⟨k + 1, by omega, by go_num, HOK.out⟩
            · obtain rfl : k = n3 := by omega
              have e1 : decide ((k : Int) < (k : Int)) = false := decide_eq_false (by omega)
              have HOK := Lib.hid ho
              clear ho
              go_wp2_with fail
              go_ret
              exact ⟨rfl, HW11.out.trans HOK.out (by simp)⟩
end Go.Proofs.Ytbeenfkmnchhbaa.Peep
