/- ObjectTells, walked. -/
import Derived.Test.YtbeenfkmnchhbaaObjREncode
import Derived.Test.YtbeenfkmnchhbaaObjRDecode
import Derived.Test.YtbeenfkmnchhbaaObjBack
import Derived.Deep.RegionHeld
import Derived.Deep.DeepCutAuto
namespace Go.Proofs.Ytbeenfkmnchhbaa.Object
open Go.RowKit Codec
set_option linter.unusedVariables false
set_option maxRecDepth 100000
/-- what the calls of the law come to, wherever the objects lie -/
structure LawR (w : World) (A1 : Option Addr) (m1 p1 : Nat) (A2 : Option Addr) (m2 p2 : Nat) (A3 : Option Addr) (m3 p3 : Nat) (d : OD) : Prop where
  enc : m1 ≤ 1000000 → m2 ≤ 1000000 → m3 ≤ 1000000 → Calls Try.prog 37 #[.agg #[.slice A1 m1 p1, .slice A2 m2 p2, .slice A3 m3 p3]] w fun x w' => encOut d w x w'
  right : m1 ≤ 1000000 → m2 ≤ 1000000 → m3 ≤ 1000000 → Calls Try.prog 43 #[.agg #[.slice A1 m1 p1, .slice A2 m2 p2, .slice A3 m3 p3]] w fun x w' => x = .returned (.bool (objRight d)) ∧ Only [] w w'
theorem lawr_of {w : World} {A1 : Option Addr} {m1 p1 : Nat} {A2 : Option Addr} {m2 p2 : Nat} {A3 : Option Addr} {m3 p3 : Nat} {d : OD} (h : IsOb w ⟨A1, m1, p1, A2, m2, p2, A3, m3, p3⟩ d) : LawR w A1 m1 p1 A2 m2 p2 A3 m3 p3 d :=
  ⟨fun h1 h2 h3 => rencode_any ⟨A1, m1, p1, A2, m2, p2, A3, m3, p3⟩ d w h ⟨by simp only; omega, by simp only; omega, by simp only; omega⟩,
   fun h1 h2 h3 => rright_any ⟨A1, m1, p1, A2, m2, p2, A3, m3, p3⟩ d w h (by simp only; omega) (by simp only; omega) (by simp only; omega)⟩
theorem rsame_at {w : World} {A1 : Option Addr} {m1 p1 : Nat} {A2 : Option Addr} {m2 p2 : Nat} {A3 : Option Addr} {m3 p3 : Nat} {B1 : Option Addr} {n1 q1 : Nat} {B2 : Option Addr} {n2 q2 : Nat} {B3 : Option Addr} {n3 q3 : Nat} {d e : OD} (h : IsOb w ⟨A1, m1, p1, A2, m2, p2, A3, m3, p3⟩ d) (k : IsOb w ⟨B1, n1, q1, B2, n2, q2, B3, n3, q3⟩ e) (hm : m1 ≤ 1000000 ∧ m2 ≤ 1000000 ∧ m3 ≤ 1000000) :
    Calls Try.prog 41 #[.agg #[.slice A1 m1 p1, .slice A2 m2 p2, .slice A3 m3 p3], .agg #[.slice B1 n1 q1, .slice B2 n2 q2, .slice B3 n3 q3]] w fun x w' => x = .returned (.bool (decide (d = e))) ∧ Only [] w w' :=
  rsame30_any ⟨A1, m1, p1, A2, m2, p2, A3, m3, p3⟩ ⟨B1, n1, q1, B2, n2, q2, B3, n3, q3⟩ d e w h k ⟨by simp only; omega, by simp only; omega, by simp only; omega⟩
def decE (l : List UInt8) : Int := if (dec l).isSome = true then 0 else 5
def decV (l : List UInt8) : OD := (dec l).getD od0
def DecO (er : Int) (dd : OD) (w : World) (x : Ending) (w' : World) : Prop :=
  ∃ (A1 : Option Addr) (m1 p1 : Nat) (A2 : Option Addr) (m2 p2 : Nat) (A3 : Option Addr) (m3 p3 : Nat),
    x = .returned (.tuple #[.agg #[.slice A1 m1 p1, .slice A2 m2 p2, .slice A3 m3 p3], .int .i64 er]) ∧ IsOb w' ⟨A1, m1, p1, A2, m2, p2, A3, m3, p3⟩ dd ∧ m1 ≤ 40000 ∧ m2 ≤ 40000 ∧ m3 ≤ 40000 ∧ Only [] w w'
theorem decO_of {l : List UInt8} {w w' : World} {x : Ending} (h : decOut l w x w') : DecO (decE l) (decV l) w x w' := decOut_open h
set_option maxHeartbeats 4000000 in
theorem tells_any (A1 : Option Addr) (m1 p1 : Nat) (A2 : Option Addr) (m2 p2 : Nat) (A3 : Option Addr) (m3 p3 : Nat) (d : OD) (B1 : Option Addr) (n1 q1 : Nat) (B2 : Option Addr) (n2 q2 : Nat) (B3 : Option Addr) (n3 q3 : Nat) (e : OD) (A : Option Addr) (n c : Nat) (l : List UInt8) (z : Cd) (w : World)
    (h : IsOb w ⟨A1, m1, p1, A2, m2, p2, A3, m3, p3⟩ d) (k : IsOb w ⟨B1, n1, q1, B2, n2, q2, B3, n3, q3⟩ e) (hr : Bytes w w.heap.size A n l) (hnc : n ≤ c) (hcm : c ≤ maxLen) :
    Calls Try.prog 8 #[.agg #[.slice A1 m1 p1, .slice A2 m2 p2, .slice A3 m3 p3], .agg #[.slice B1 n1 q1, .slice B2 n2 q2, .slice B3 n3 q3], .slice A n c, z.val] w fun x w' => x = .returned (.bool true) ∧ Only [] w w' := by
  have hCL := fun w => clean_is z w
  have hRCL := fun w => rclean_is z w
  generalize clean z = zc at *
  obtain ⟨z1, z2, z3, z4, z5⟩ := z
  obtain ⟨c1, c2, c3, c4, c5⟩ := zc
  unfold Cd.val at hCL hRCL ⊢
  simp only at hCL hRCL ⊢
  have HCL := Lib.hid hCL
  have HRCL := Lib.hid hRCL
  have HK := Lib.hid knows_any
  have HN := Lib.hid num_is
  have ha := Blk.new w 57 #[.slice A1 m1 p1, .slice A2 m2 p2, .slice A3 m3 p3]
  have hb := Blk.new (w.alloc (.cells #[.slice A1 m1 p1, .slice A2 m2 p2, .slice A3 m3 p3] 57)) 57 #[.slice B1 n1 q1, .slice B2 n2 q2, .slice B3 n3 q3]
  have hc := Blk.new ((w.alloc (.cells #[.slice A1 m1 p1, .slice A2 m2 p2, .slice A3 m3 p3] 57)).alloc (.cells #[.slice B1 n1 q1, .slice B2 n2 q2, .slice B3 n3 q3] 57)) 59 #[.int .i64 z1, .int .i64 z2, .int .i64 z3, .int .i64 z4, .int .i64 z5]
  rw [alloc_size] at hb
  rw [alloc_size, alloc_size] at hc
  have ho1 := (((Only.refl [] w).alloc (.cells #[.slice A1 m1 p1, .slice A2 m2 p2, .slice A3 m3 p3] 57)).alloc (.cells #[.slice B1 n1 q1, .slice B2 n2 q2, .slice B3 n3 q3] 57)).alloc (.cells #[.int .i64 z1, .int .i64 z2, .int .i64 z3, .int .i64 z4, .int .i64 z5] 59)
  have ha' := (ha.alloc (.cells #[.slice B1 n1 q1, .slice B2 n2 q2, .slice B3 n3 q3] 57)).alloc (.cells #[.int .i64 z1, .int .i64 z2, .int .i64 z3, .int .i64 z4, .int .i64 z5] 59)
  have hb' := hb.alloc (.cells #[.int .i64 z1, .int .i64 z2, .int .i64 z3, .int .i64 z4, .int .i64 z5] 59)
  obtain ⟨w1, hw1⟩ : ∃ w1, (((w.alloc (.cells #[.slice A1 m1 p1, .slice A2 m2 p2, .slice A3 m3 p3] 57)).alloc (.cells #[.slice B1 n1 q1, .slice B2 n2 q2, .slice B3 n3 q3] 57)).alloc (.cells #[.int .i64 z1, .int .i64 z2, .int .i64 z3, .int .i64 z4, .int .i64 z5] 59)) = w1 := ⟨_, rfl⟩
  rw [hw1] at ho1 ha' hb' hc
  have HW1 := Lib.hid hw1
  have HO1 := Lib.hid ho1
  have HA := Lib.hid ha'
  have HB := Lib.hid hb'
  have HC := Lib.hid hc
  have HH := Lib.hid h
  have HKK := Lib.hid k
  have HR := Lib.hid hr
  have hx : ∀ w', Only [] w1 w' → (w'.cell? ⟨w.heap.size, 0, none⟩ = some (.slice A1 m1 p1) ∧ w'.cell? ⟨w.heap.size, 1, none⟩ = some (.slice A2 m2 p2) ∧ w'.cell? ⟨w.heap.size, 2, none⟩ = some (.slice A3 m3 p3)) ∧ (w'.cell? ⟨w.heap.size + 1, 0, none⟩ = some (.slice B1 n1 q1) ∧ w'.cell? ⟨w.heap.size + 1, 1, none⟩ = some (.slice B2 n2 q2) ∧ w'.cell? ⟨w.heap.size + 1, 2, none⟩ = some (.slice B3 n3 q3)) :=
    fun w' ho => ⟨⟨(ha'.only ho (by simp)).cell 0, (ha'.only ho (by simp)).cell 1, (ha'.only ho (by simp)).cell 2⟩, (hb'.only ho (by simp)).cell 0, (hb'.only ho (by simp)).cell 1, (hb'.only ho (by simp)).cell 2⟩
  have HX := Lib.hid hx
  have HL1 := Lib.hid ((laws_of (h.only ho1)).light 300)
  have HL2 := Lib.hid (fun w' (ho : Only [] w1 w') => (laws_of ((k.only ho1).only ho)).light 300)
  rw [show ((300 : Nat) : Int) = 300 from rfl] at HL1 HL2
  clear ha hb hc ha' hb' ho1 hw1 h k hr hCL hRCL hx
  go_enter Try.func8, Try.ntmps8
  go_upto_region 1 with fail
  rw [HW1.out]
  obtain ⟨⟨x0, x1, x2⟩, y0, y1, y2⟩ := HX.out w1 (Only.refl _ _)
  go_cut [29] (fun s wx => ∃ b, s = .bool b ∧ (b = false → m1 ≤ 300 ∧ m2 ≤ 100 ∧ m3 ≤ 200 ∧ n1 ≤ 300 ∧ n2 ≤ 100 ∧ n3 ≤ 200 ∧ n ≤ 4000) ∧ Only [] w1 wx)
  case first =>
    go_wp2_with fail
    refine HL1.out.mono ?_
    rintro x w2 ⟨b1, rfl, hl1, ho2⟩
    have HO2 := Lib.hid ho2
    obtain ⟨_, y0', y1', y2'⟩ := HX.out w2 ho2
    clear ho2
    cases b1
    · clear hl1
      go_wp2_with fail
      go_meet
      exact ⟨true, rfl, (by intro h; cases h), HO2.out⟩
    · obtain ⟨r1, r2, r3⟩ := hl1 rfl
      clear hl1
      simp only at r1 r2 r3
      go_wp2_with fail
      refine (HL2.out w2 HO2.out).mono ?_
      rintro x w3 ⟨b2, rfl, hl2, ho3⟩
      have HO3 := Lib.hid (HO2.out.trans ho3 (by simp))
      clear ho3
      cases b2
      · clear hl2
        go_wp2_with fail
        go_meet
        exact ⟨true, rfl, (by intro h; cases h), HO3.out⟩
      · obtain ⟨s1, s2, s3⟩ := hl2 rfl
        clear hl2
        simp only at s1 s2 s3
        by_cases hbig : 4000 < n
        · have d1 : decide ((4000 : Int) < (n : Int)) = true := decide_eq_true (by omega)
          go_wp2_with fail
          go_meet
          exact ⟨true, rfl, (by intro h; cases h), HO3.out⟩
        · have d1 : decide ((4000 : Int) < (n : Int)) = false := decide_eq_false (by omega)
          go_wp2_with fail
          go_meet
          exact ⟨false, rfl, fun _ => ⟨r1, r2, r3, s1, s2, s3, by omega⟩, HO3.out⟩
  case rest =>
    obtain ⟨b, rfl, hall, ho⟩ := hcut
    have HO2 := Lib.hid ho
    cases b
    · obtain ⟨r1, r2, r3, s1, s2, s3, hn4⟩ := hall rfl
      clear hall
      have HOI := Lib.hid (HH.out.only (HO1.out.trans ho (by simp)))
      have HOJ := Lib.hid (HKK.out.only (HO1.out.trans ho (by simp)))
      have HRB := Lib.hid ((HR.out.only (HO1.out.trans ho (by simp)) (by simp)).more (HO1.out.trans ho (by simp)).size)
      clear HL1 HL2 x0 x1 x2 y0 y1 y2
      obtain ⟨⟨x0, x1, x2⟩, y0, y1, y2⟩ := HX.out wc ho
      clear ho
      have hE := fun w' (ho : Only [] wc w') => (laws_of (HOI.out.only ho)).enc (by omega) (by omega) (by omega)
      have hF := fun w' (ho : Only [] wc w') => (lawr_of (HOI.out.only ho)).enc (by omega) (by omega) (by omega)
      have hD := fun w' (ho : Only [] wc w') => (decode_any A n c l w' ((HRB.out.only ho (by simp)).more ho.size) (by omega)).mono (fun _ _ h => decO_of h)
      have hG := fun w' (ho : Only [] wc w') => (rdecode_any A n c l w' ((HRB.out.only ho (by simp)).more ho.size) hnc hcm (by omega)).mono (fun _ _ h => decO_of h)
      have hP := fun w' (ho : Only [] wc w') => (laws_of (HOI.out.only ho)).right (by omega) (by omega) (by omega)
      have hQ := fun w' (ho : Only [] wc w') => (lawr_of (HOI.out.only ho)).right (by omega) (by omega) (by omega)
      have hS := fun w' (ho : Only [] wc w') => same_at (HOI.out.only ho) (HOJ.out.only ho) ⟨by omega, by omega, by omega⟩ ⟨by omega, by omega, by omega⟩
      have hT := fun w' (ho : Only [] wc w') => rsame_at (HOI.out.only ho) (HOJ.out.only ho) ⟨by omega, by omega, by omega⟩
      unfold encOut at hE hF
      generalize encErr d = en at *
      generalize encBytes d = eb at *
      generalize objRight d = rb at *
      generalize decide (d = e) = sb at *
      generalize decE l = er at *
      generalize decV l = dv at *
      have HE := Lib.hid hE
      have HF := Lib.hid hF
      have HD := Lib.hid hD
      have HG := Lib.hid hG
      have HP := Lib.hid hP
      have HQ := Lib.hid hQ
      have HS := Lib.hid hS
      have HT := Lib.hid hT
      clear hE hF hD hG hP hQ hS hT
      go_wp2_with fail
      refine (HE.out wc (Only.refl _ _)).mono ?_
      rintro x w3 ⟨Ae, ne, ce, rfl, hbe, _, _, ho3⟩
      clear x0 x1 x2 y0 y1 y2
      obtain ⟨⟨x0, x1, x2⟩, y0, y1, y2⟩ := HX.out w3 (HO2.out.trans ho3 (by simp))
      have HO3 := Lib.hid ho3
      have HBE := Lib.hid hbe
      clear hbe ho3 HE
      go_wp2_with fail
      refine (HF.out w3 HO3.out).mono ?_
      rintro x w4 ⟨Af, nf, cf, rfl, hbf, _, _, ho4⟩
      clear x0 x1 x2 y0 y1 y2
      have HO4 := Lib.hid (HO3.out.trans ho4 (by simp))
      have HBE4 := Lib.hid (HBE.out.only ho4 (by simp))
      have HBF4 := Lib.hid hbf
      clear hbf ho4 HF HBE
      go_wp2_with fail
      refine (HD.out w4 HO4.out).mono ?_
      intro x w5 hx
      obtain ⟨U1, u1, t1, U2, u2, t2, U3, u3, t3, rfl, hu, hu1, hu2, hu3, ho5⟩ := hx
      have hov : Only [] w5 (w5.alloc (.cells #[.slice U1 u1 t1, .slice U2 u2 t2, .slice U3 u3 t3] 57)) := (Only.refl _ _).alloc _
      have HBU := Lib.hid (Blk.new w5 57 #[.slice U1 u1 t1, .slice U2 u2 t2, .slice U3 u3 t3])
      have HU := Lib.hid (hu.only hov)
      have HO5 := Lib.hid (HO4.out.trans (ho5.trans hov (by simp)) (by simp))
      have HBE5 := Lib.hid (HBE4.out.only (ho5.trans hov (by simp)) (by simp))
      have HBF5 := Lib.hid (HBF4.out.only (ho5.trans hov (by simp)) (by simp))
      clear hu ho5 hov HD HBE4 HBF4
      go_wp2_with fail
      obtain ⟨bu, hbu⟩ : ∃ bu, w5.heap.size = bu := ⟨_, rfl⟩
      obtain ⟨w6, hw6⟩ : ∃ w6, w5.alloc (.cells #[.slice U1 u1 t1, .slice U2 u2 t2, .slice U3 u3 t3] 57) = w6 := ⟨_, rfl⟩
      rw [hbu, hw6] at HBU
      rw [hw6] at HU HO5 HBE5 HBF5
      rw [hbu, hw6]
      clear hbu hw6
      refine (HG.out w6 HO5.out).mono ?_
      intro x w7 hx
      obtain ⟨V1, v1, r1, V2, v2, r2, V3, v3, r3, rfl, hv, hv1, hv2, hv3, ho7⟩ := hx
      have hov : Only [] w7 (w7.alloc (.cells #[.slice V1 v1 r1, .slice V2 v2 r2, .slice V3 v3 r3] 57)) := (Only.refl _ _).alloc _
      have hbv := Blk.new w7 57 #[.slice V1 v1 r1, .slice V2 v2 r2, .slice V3 v3 r3]
      have ho8 := ho7.trans hov (by simp)
      have hv8 := hv.only hov
      have hu8 := HU.out.only ho8
      have hbu8 := HBU.out.only ho8 (by simp)
      have hbe8 := HBE5.out.only ho8 (by simp)
      have hbf8 := HBF5.out.only ho8 (by simp)
      have ho8' := HO5.out.trans ho8 (by simp)
      clear hv ho7 hov HG
      go_wp2_with fail
      obtain ⟨bv, hbv'⟩ : ∃ bv, w7.heap.size = bv := ⟨_, rfl⟩
      obtain ⟨w8, hw8⟩ : ∃ w8, w7.alloc (.cells #[.slice V1 v1 r1, .slice V2 v2 r2, .slice V3 v3 r3] 57) = w8 := ⟨_, rfl⟩
      rw [hbv', hw8] at hbv
      rw [hw8] at hv8 hu8 hbu8 hbe8 hbf8 ho8 ho8'
      rw [hbv', hw8]
      clear hbv' hw8 ho8
      have hcc := (HC.out.only HO2.out (by simp)).only ho8' (by simp)
      have hy : ∀ w', Only [] w8 w' → (w'.cell? ⟨bu, 0, none⟩ = some (.slice U1 u1 t1) ∧ w'.cell? ⟨bu, 1, none⟩ = some (.slice U2 u2 t2) ∧ w'.cell? ⟨bu, 2, none⟩ = some (.slice U3 u3 t3)) ∧ (w'.cell? ⟨bv, 0, none⟩ = some (.slice V1 v1 r1) ∧ w'.cell? ⟨bv, 1, none⟩ = some (.slice V2 v2 r2) ∧ w'.cell? ⟨bv, 2, none⟩ = some (.slice V3 v3 r3)) ∧ (w'.cell? ⟨w.heap.size + 1 + 1, 0, none⟩ = some (.int .i64 z1) ∧ w'.cell? ⟨w.heap.size + 1 + 1, 1, none⟩ = some (.int .i64 z2) ∧ w'.cell? ⟨w.heap.size + 1 + 1, 2, none⟩ = some (.int .i64 z3) ∧ w'.cell? ⟨w.heap.size + 1 + 1, 3, none⟩ = some (.int .i64 z4) ∧ w'.cell? ⟨w.heap.size + 1 + 1, 4, none⟩ = some (.int .i64 z5)) :=
        fun w' ho => ⟨⟨(hbu8.only ho (by simp)).cell 0, (hbu8.only ho (by simp)).cell 1, (hbu8.only ho (by simp)).cell 2⟩, ⟨(hbv.only ho (by simp)).cell 0, (hbv.only ho (by simp)).cell 1, (hbv.only ho (by simp)).cell 2⟩, ⟨(hcc.only ho (by simp)).cell 0, (hcc.only ho (by simp)).cell 1, (hcc.only ho (by simp)).cell 2, (hcc.only ho (by simp)).cell 3, (hcc.only ho (by simp)).cell 4⟩⟩
      have HY := Lib.hid hy
      have HO8 := Lib.hid ho8'
      have HSV := Lib.hid (fun w' (ho : Only [] w8 w') => rsame_at (hu8.only ho) (hv8.only ho) ⟨by omega, by omega, by omega⟩)
      simp only [decide_true] at HSV
      have HCS := Lib.hid (fun w' (ho : Only [] w8 w') => And.intro (run_str (hbe8.only ho (by simp)) ce) (run_str (hbf8.only ho (by simp)) cf))
      have HOD : Hid (Only [] w8 w8.drew) := (Only.refl _ _).drew
      have HP8 := Lib.hid (fun w' (ho : Only [] w8 w') => HP.out w' (HO8.out.trans ho (by simp)))
      have HQ8 := Lib.hid (fun w' (ho : Only [] w8 w') => HQ.out w' (HO8.out.trans ho (by simp)))
      have HS8 := Lib.hid (fun w' (ho : Only [] w8 w') => HS.out w' (HO8.out.trans ho (by simp)))
      have HT8 := Lib.hid (fun w' (ho : Only [] w8 w') => HT.out w' (HO8.out.trans ho (by simp)))
      have hz : ∀ w', Only [] w8 w' → (w'.cell? ⟨w.heap.size, 0, none⟩ = some (.slice A1 m1 p1) ∧ w'.cell? ⟨w.heap.size, 1, none⟩ = some (.slice A2 m2 p2) ∧ w'.cell? ⟨w.heap.size, 2, none⟩ = some (.slice A3 m3 p3)) ∧ (w'.cell? ⟨w.heap.size + 1, 0, none⟩ = some (.slice B1 n1 q1) ∧ w'.cell? ⟨w.heap.size + 1, 1, none⟩ = some (.slice B2 n2 q2) ∧ w'.cell? ⟨w.heap.size + 1, 2, none⟩ = some (.slice B3 n3 q3)) := fun w' ho => HX.out w' ((HO2.out.trans HO8.out (by simp)).trans ho (by simp))
      have HZ := Lib.hid hz
      have HFIN := Lib.hid (fun w' (ho : Only [] w8 w') => (HO1.out.trans HO2.out (by simp)).trans (HO8.out.trans ho (by simp)) (by simp))
      clear hbv hv8 hu8 hbu8 hbe8 hbf8 ho8' hcc hy hz HP HQ HS HT HX HBE5 HBF5 HBU HU HO3 HO4 HO5 HOI HOJ HRB HA HB HC HH HKK HR HO1 HW1
      have hAll : ∀ w', Only [] w8 w' → (convert 24 9 (.slice Ae ne ce)).run Try.prog w' = .ok (.string (str eb)) w' ∧ (convert 24 9 (.slice Af nf cf)).run Try.prog w' = .ok (.string (str eb)) w' ∧ w'.cell? ⟨w.heap.size, 0, none⟩ = some (.slice A1 m1 p1) ∧ w'.cell? ⟨w.heap.size, 1, none⟩ = some (.slice A2 m2 p2) ∧ w'.cell? ⟨w.heap.size, 2, none⟩ = some (.slice A3 m3 p3) ∧ w'.cell? ⟨w.heap.size + 1, 0, none⟩ = some (.slice B1 n1 q1) ∧ w'.cell? ⟨w.heap.size + 1, 1, none⟩ = some (.slice B2 n2 q2) ∧ w'.cell? ⟨w.heap.size + 1, 2, none⟩ = some (.slice B3 n3 q3) ∧ w'.cell? ⟨bu, 0, none⟩ = some (.slice U1 u1 t1) ∧ w'.cell? ⟨bu, 1, none⟩ = some (.slice U2 u2 t2) ∧ w'.cell? ⟨bu, 2, none⟩ = some (.slice U3 u3 t3) ∧ w'.cell? ⟨bv, 0, none⟩ = some (.slice V1 v1 r1) ∧ w'.cell? ⟨bv, 1, none⟩ = some (.slice V2 v2 r2) ∧ w'.cell? ⟨bv, 2, none⟩ = some (.slice V3 v3 r3) ∧ w'.cell? ⟨w.heap.size + 1 + 1, 0, none⟩ = some (.int .i64 z1) ∧ w'.cell? ⟨w.heap.size + 1 + 1, 1, none⟩ = some (.int .i64 z2) ∧ w'.cell? ⟨w.heap.size + 1 + 1, 2, none⟩ = some (.int .i64 z3) ∧ w'.cell? ⟨w.heap.size + 1 + 1, 3, none⟩ = some (.int .i64 z4) ∧ w'.cell? ⟨w.heap.size + 1 + 1, 4, none⟩ = some (.int .i64 z5) := fun w' ho => by
        obtain ⟨b1, b2⟩ := HCS.out w' ho
        obtain ⟨⟨e0, e1, e2⟩, e3, e4, e5⟩ := HZ.out w' ho
        obtain ⟨⟨f0, f1, f2⟩, ⟨f3, f4, f5⟩, f6, f7, f8, f9, f10⟩ := HY.out w' ho
        exact ⟨b1, b2, e0, e1, e2, e3, e4, e5, f0, f1, f2, f3, f4, f5, f6, f7, f8, f9, f10⟩
      have HALL := Lib.hid hAll
      have HSB := HALL.out w8 (Only.refl _ _)
      have HSD := HALL.out w8.drew HOD.out
      clear hAll HCS HZ HY
      go_region_held (fun w' => (convert 24 9 (.slice Ae ne ce)).run Try.prog w' = .ok (.string (str eb)) w' ∧ (convert 24 9 (.slice Af nf cf)).run Try.prog w' = .ok (.string (str eb)) w' ∧ w'.cell? ⟨w.heap.size, 0, none⟩ = some (.slice A1 m1 p1) ∧ w'.cell? ⟨w.heap.size, 1, none⟩ = some (.slice A2 m2 p2) ∧ w'.cell? ⟨w.heap.size, 2, none⟩ = some (.slice A3 m3 p3) ∧ w'.cell? ⟨w.heap.size + 1, 0, none⟩ = some (.slice B1 n1 q1) ∧ w'.cell? ⟨w.heap.size + 1, 1, none⟩ = some (.slice B2 n2 q2) ∧ w'.cell? ⟨w.heap.size + 1, 2, none⟩ = some (.slice B3 n3 q3) ∧ w'.cell? ⟨bu, 0, none⟩ = some (.slice U1 u1 t1) ∧ w'.cell? ⟨bu, 1, none⟩ = some (.slice U2 u2 t2) ∧ w'.cell? ⟨bu, 2, none⟩ = some (.slice U3 u3 t3) ∧ w'.cell? ⟨bv, 0, none⟩ = some (.slice V1 v1 r1) ∧ w'.cell? ⟨bv, 1, none⟩ = some (.slice V2 v2 r2) ∧ w'.cell? ⟨bv, 2, none⟩ = some (.slice V3 v3 r3) ∧ w'.cell? ⟨w.heap.size + 1 + 1, 0, none⟩ = some (.int .i64 z1) ∧ w'.cell? ⟨w.heap.size + 1 + 1, 1, none⟩ = some (.int .i64 z2) ∧ w'.cell? ⟨w.heap.size + 1 + 1, 2, none⟩ = some (.int .i64 z3) ∧ w'.cell? ⟨w.heap.size + 1 + 1, 3, none⟩ = some (.int .i64 z4) ∧ w'.cell? ⟨w.heap.size + 1 + 1, 4, none⟩ = some (.int .i64 z5)) (exact HALL.out _ (Hid.out (by assumption))) ((first
        | (go_at_call 35; refine (HK.out w17).mono ?_; rintro x w18 ⟨rfl, hq⟩; have HQ18 := Lib.hid (HQ17.out.trans hq (by simp)); clear hq)
        | (go_at_call 46; refine (HRCL.out w16).mono ?_; rintro x w17 ⟨rfl, hq⟩; have HQ17 := Lib.hid (HQ16.out.trans hq (by simp)); clear hq)
        | (go_at_call 45; refine (HCL.out w15).mono ?_; rintro x w16 ⟨rfl, hq⟩; have HQ16 := Lib.hid (HQ15.out.trans hq (by simp)); clear hq)
        | (go_at_call 41; refine (HT8.out w14 HQ14.out).mono ?_; rintro x w15 ⟨rfl, hq⟩; have HQ15 := Lib.hid (HQ14.out.trans hq (by simp)); clear hq)
        | (go_at_call 44; refine (HS8.out w13 HQ13.out).mono ?_; rintro x w14 ⟨rfl, hq⟩; have HQ14 := Lib.hid (HQ13.out.trans hq (by simp)); clear hq)
        | (go_at_call 43; refine (HQ8.out w12 HQ12.out).mono ?_; rintro x w13 ⟨rfl, hq⟩; have HQ13 := Lib.hid (HQ12.out.trans hq (by simp)); clear hq)
        | (go_at_call 42; refine (HP8.out w11 HQ11.out).mono ?_; rintro x w12 ⟨rfl, hq⟩; have HQ12 := Lib.hid (HQ11.out.trans hq (by simp)); clear hq)
        | (go_at_call 41; refine (HSV.out w8.drew HOD.out).mono ?_; rintro x w11 ⟨rfl, hq⟩; have HQ11 := Lib.hid (HOD.out.trans hq (by simp)); clear hq)
        | (go_at_call 40; refine (HN.out _ _).mono ?_; rintro x wn ⟨rfl, rfl⟩)))
      all_goals
        go_wp2_with fail
        go_ret
        exact ⟨by simp, HFIN.out _ HQ18.out⟩
    · clear hall
      go_wp2_with (go_at_call 35; refine (HK.out _).mono ?_; rintro x wk ⟨rfl, hok⟩)
      go_ret
      exact ⟨rfl, (HO1.out.trans HO2.out (by simp)).trans hok (by simp)⟩
end Go.Proofs.Ytbeenfkmnchhbaa.Object
