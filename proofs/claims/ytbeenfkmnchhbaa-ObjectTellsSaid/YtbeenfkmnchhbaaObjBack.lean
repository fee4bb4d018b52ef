/- ObjectBack, walked. PRINTED by wip/gen_objback.py -/
import Derived.Test.YtbeenfkmnchhbaaObjKnows2
namespace Go.Proofs.Ytbeenfkmnchhbaa.Object
open Go.RowKit Codec
set_option linter.unusedVariables false
set_option maxRecDepth 100000
theorem layCd_len (c : Cd) : (layCd c).length = 16 := by rw [layCd_eq]; simp [le_len]
theorem layEn_len (e : En) (h : e.name.size ≤ 255) : (layEn e).length ≤ 265 := by
  rw [layEn_eq, List.length_append, text_len, le_len]
  omega
theorem flat_len {α : Type} (f : α → List UInt8) (k : Nat) : ∀ (l : List α), (∀ x ∈ l, (f x).length ≤ k) → (l.flatMap f).length ≤ k * l.length
  | [], _ => by simp
  | x :: l, h => by
    have := h x (by simp)
    have ih := flat_len f k l (fun y hy => h y (by simp [hy]))
    rw [List.flatMap_cons, List.length_append, List.length_cons, Nat.mul_add]
    omega
theorem layO_len {d : OD} (h : RightIn d) : (layO d).length ≤ 6 + 16 * d.code.length + 265 * d.ents.length + 265 * d.calls.length := by
  have h1 := flat_len layCd 16 d.code (fun c _ => by rw [layCd_len]; omega)
  have h2 := flat_len layEn 265 d.ents (fun e he => layEn_len e (h.ents e he).2)
  have h3 := flat_len layEn 265 d.calls (fun e he => layEn_len e (h.calls e he).2)
  have c1 := h.n1
  have c2 := h.n2
  have c3 := h.n3
  unfold layO
  rw [smalls_one _ (by omega), smalls_one _ (by omega), smalls_one _ (by omega)]
  simp only [List.length_append, le_len]
  omega
/-- what the calls of a law on one object come to, over the object's three slices -/
structure Laws (w : World) (A1 : Option Addr) (m1 p1 : Nat) (A2 : Option Addr) (m2 p2 : Nat) (A3 : Option Addr) (m3 p3 : Nat) (d : OD) : Prop where
  light : ∀ (most : Nat), Calls Try.prog 34 #[.agg #[.slice A1 m1 p1, .slice A2 m2 p2, .slice A3 m3 p3], .int .i64 (most : Int)] w (lightOut ⟨A1, m1, p1, A2, m2, p2, A3, m3, p3⟩ most w)
  enc : m1 ≤ 1000000 → m2 ≤ 1000000 → m3 ≤ 1000000 → Calls Try.prog 36 #[.agg #[.slice A1 m1 p1, .slice A2 m2 p2, .slice A3 m3 p3]] w fun x w' => encOut d w x w'
  right : m1 ≤ 1000000 → m2 ≤ 1000000 → m3 ≤ 1000000 → Calls Try.prog 42 #[.agg #[.slice A1 m1 p1, .slice A2 m2 p2, .slice A3 m3 p3]] w fun x w' => x = .returned (.bool (objRight d)) ∧ Only [] w w'
theorem laws_of {w : World} {A1 : Option Addr} {m1 p1 : Nat} {A2 : Option Addr} {m2 p2 : Nat} {A3 : Option Addr} {m3 p3 : Nat} {d : OD} (h : IsOb w ⟨A1, m1, p1, A2, m2, p2, A3, m3, p3⟩ d) : Laws w A1 m1 p1 A2 m2 p2 A3 m3 p3 d :=
  ⟨fun most => light_any ⟨A1, m1, p1, A2, m2, p2, A3, m3, p3⟩ d most w h,
   fun h1 h2 h3 => encode_any ⟨A1, m1, p1, A2, m2, p2, A3, m3, p3⟩ d w h ⟨by simp only; omega, by simp only; omega, by simp only; omega⟩,
   fun h1 h2 h3 => right_any ⟨A1, m1, p1, A2, m2, p2, A3, m3, p3⟩ d w h (by simp only; omega) (by simp only; omega) (by simp only; omega)⟩
theorem same_at {w : World} {A1 : Option Addr} {m1 p1 : Nat} {A2 : Option Addr} {m2 p2 : Nat} {A3 : Option Addr} {m3 p3 : Nat} {B1 : Option Addr} {n1 q1 : Nat} {B2 : Option Addr} {n2 q2 : Nat} {B3 : Option Addr} {n3 q3 : Nat} {d e : OD} (h : IsOb w ⟨A1, m1, p1, A2, m2, p2, A3, m3, p3⟩ d) (k : IsOb w ⟨B1, n1, q1, B2, n2, q2, B3, n3, q3⟩ e) (hm : m1 ≤ 1000000 ∧ m2 ≤ 1000000 ∧ m3 ≤ 1000000) (hn : n1 ≤ 1000000 ∧ n2 ≤ 1000000 ∧ n3 ≤ 1000000) :
    Calls Try.prog 44 #[.agg #[.slice A1 m1 p1, .slice A2 m2 p2, .slice A3 m3 p3], .agg #[.slice B1 n1 q1, .slice B2 n2 q2, .slice B3 n3 q3]] w fun x w' => x = .returned (.bool (decide (d = e))) ∧ Only [] w w' :=
  same_any ⟨A1, m1, p1, A2, m2, p2, A3, m3, p3⟩ ⟨B1, n1, q1, B2, n2, q2, B3, n3, q3⟩ d e w h k ⟨by simp only; omega, by simp only; omega, by simp only; omega⟩ ⟨by simp only; omega, by simp only; omega, by simp only; omega⟩
set_option maxHeartbeats 2000000 in
theorem back_any (A1 : Option Addr) (m1 p1 : Nat) (A2 : Option Addr) (m2 p2 : Nat) (A3 : Option Addr) (m3 p3 : Nat) (d : OD) (A : Option Addr) (n c : Nat) (l : List UInt8) (w : World) (h : IsOb w ⟨A1, m1, p1, A2, m2, p2, A3, m3, p3⟩ d) (h64 : In64 d) (hr : Bytes w w.heap.size A n l) (hnc : n ≤ maxLen) :
    Calls Try.prog 9 #[.agg #[.slice A1 m1 p1, .slice A2 m2 p2, .slice A3 m3 p3], .slice A n c] w fun x w' => x = .returned (.bool true) ∧ Only [] w w' := by
  have ho1 : Only [] w (w.alloc (.cells #[.slice A1 m1 p1, .slice A2 m2 p2, .slice A3 m3 p3] 57)) := (Only.refl _ _).alloc _
  have HO1 := Lib.hid ho1
  have HB1 := Lib.hid (Blk.new w 57 #[.slice A1 m1 p1, .slice A2 m2 p2, .slice A3 m3 p3])
  have HL := Lib.hid ((laws_of (h.only ho1)).light 300)
  have HH := Lib.hid h
  have H64 := Lib.hid h64
  have HR := Lib.hid hr
  have HK := Lib.hid knows_any
  have HN := Lib.hid num_is
  have hlr := hr.len
  have HLR := Lib.hid hlr
  clear h h64 hr ho1 hlr
  rw [show ((300 : Nat) : Int) = 300 from rfl] at HL
  by_cases hbig : 4000 < n
  · have d1 : decide ((4000 : Int) < (n : Int)) = true := decide_eq_true (by omega)
    go_enter Try.func9, Try.ntmps9
    go_wp2_with fail
    refine HL.out.mono ?_
    rintro x w2 ⟨b, rfl, _, ho2⟩
    have HO2 := Lib.hid (HO1.out.trans ho2 (by simp))
    clear ho2
    cases b
    all_goals
      go_wp2_with (go_at_call 35; refine (HK.out _).mono ?_; rintro x wk ⟨rfl, hok⟩)
      go_ret
      exact ⟨rfl, HO2.out.trans hok (by simp)⟩
  · have d1 : decide ((4000 : Int) < (n : Int)) = false := decide_eq_false (by omega)
    go_enter Try.func9, Try.ntmps9
    go_wp2_with fail
    refine HL.out.mono ?_
    rintro x w2 ⟨b, rfl, hlight, ho2⟩
    have HO2 := Lib.hid (HO1.out.trans ho2 (by simp))
    have HB2 := Lib.hid (HB1.out.only ho2 (by simp))
    clear ho2
    cases b
    · go_wp2_with (go_at_call 35; refine (HK.out _).mono ?_; rintro x wk ⟨rfl, hok⟩)
      go_ret
      exact ⟨rfl, HO2.out.trans hok (by simp)⟩
    · obtain ⟨l1, l2, l3⟩ := hlight rfl
      simp only at l1 l2 l3
      clear hlight
      go_wp2_with (go_at_call 35; refine (HK.out w2).mono ?_; clear HK; rintro x w3 ⟨rfl, hok⟩; have hb3 := HB2.out.only hok (by simp); have x0 : w3.cell? ⟨w.heap.size, 0, none⟩ = some (.slice A1 m1 p1) := hb3.cell 0; have x1 : w3.cell? ⟨w.heap.size, 1, none⟩ = some (.slice A2 m2 p2) := hb3.cell 1; have x2 : w3.cell? ⟨w.heap.size, 2, none⟩ = some (.slice A3 m3 p3) := hb3.cell 2; have HB3 := Lib.hid hb3; have HO3 := Lib.hid (HO2.out.trans hok (by simp)); clear hok hb3)
      have hE := (laws_of (HH.out.only HO3.out)).enc (by omega) (by omega) (by omega)
      have HE := Lib.hid hE
      have hlen : ∀ h : objRight d = true, (layO d).length ≤ 90000 := fun h => by
        have := layO_len (right_in h)
        have e1 := HH.out.n1
        have e2 := HH.out.n2
        have e3 := HH.out.n3
        simp only at e1 e2 e3
        omega
      have HLEN := Lib.hid hlen
      clear hE hlen
      cases hob : objRight d
      · have he := enc_no hob
        unfold encOut at HE
        rw [he.1, he.2] at HE
        refine HE.out.mono ?_
        rintro x wt ⟨Ae, ne, ce, rfl, _, _, _, hot⟩
        have HOT := Lib.hid (HO3.out.trans hot (by simp))
        clear he hob hot HLEN HE
        go_wp2_with (go_at_call 40; refine (HN.out _ _).mono ?_; rintro x wn ⟨rfl, rfl⟩)
        have hD := decode_any A n c l wt ((HR.out.only HOT.out (by simp)).more HOT.out.size) (by omega)
        cases hdec : dec l with
        | none =>
          refine hD.mono ?_
          intro x w8 hx
          obtain ⟨B1, k1, q1, B2, k2, q2, B3, k3, q3, rfl, hi, _, _, _, ho8⟩ := decOut_open hx
          rw [hdec] at hi ⊢
          have hi : IsOb w8 ⟨B1, k1, q1, B2, k2, q2, B3, k3, q3⟩ od0 := hi
          obtain rfl : k1 = 0 := hi.n1.symm
          obtain rfl : k2 = 0 := hi.n2.symm
          obtain rfl : k3 = 0 := hi.n3.symm
          have HO8 := Lib.hid (HOT.out.trans ho8 (by simp))
          clear hD hdec hx hi ho8
          simp only [Option.isSome_none, Bool.false_eq_true, if_false]
          go_wp2_with (go_at_call 40; refine (HN.out _ _).mono ?_; rintro x wn ⟨rfl, rfl⟩)
          go_ret
          exact ⟨rfl, HO8.out.alloc _⟩
        | some D =>
          refine hD.mono ?_
          intro x w8 hx
          obtain ⟨B1, k1, q1, B2, k2, q2, B3, k3, q3, rfl, hi, hk1, hk2, hk3, ho8⟩ := decOut_open hx
          rw [hdec] at hi ⊢
          have hi : IsOb w8 ⟨B1, k1, q1, B2, k2, q2, B3, k3, q3⟩ D := hi
          obtain ⟨hlD, hrD⟩ := dec_read l D hdec
          have hlen8 : (layO D).length ≤ 1048576 := by rw [← hlD, HLR.out]; omega
          have he := enc_ok hrD hlen8
          have ho9 : Only [] w8 (w8.alloc (.cells #[.slice B1 k1 q1, .slice B2 k2 q2, .slice B3 k3 q3] 57)) := (Only.refl _ _).alloc _
          have hE9 := (laws_of (hi.only ho9)).enc (by omega) (by omega) (by omega)
          unfold encOut at hE9
          simp only [he.1, he.2, ← hlD] at hE9
          have HE9 := Lib.hid hE9
          have HI := Lib.hid hi
          have HRD := Lib.hid hrD
          have HO9 := Lib.hid (HOT.out.trans (ho8.trans ho9 (by simp)) (by simp))
          have HB9 := Lib.hid (Blk.new w8 57 #[.slice B1 k1 q1, .slice B2 k2 q2, .slice B3 k3 q3])
          have HO89 := Lib.hid ho9
          clear hD hdec hx hi ho8 hlD hrD hlen8 he hE9 ho9
          simp only [Option.isSome_some, if_true]
          go_wp2_with (go_at_call 40; refine (HN.out _ _).mono ?_; rintro x wn ⟨rfl, rfl⟩)
          refine HE9.out.mono ?_
          rintro x w10 ⟨Ac, nc, cc, rfl, hbc, _, _, ho10⟩
          have hs1 := run_str hbc cc
          have HO10 := Lib.hid (HO9.out.trans ho10 (by simp))
          have hs2 := run_str (HR.out.only HO10.out (by simp)) c
          have hb10 := HB9.out.only ho10 (by simp)
          have z0 : w10.cell? ⟨w8.heap.size, 0, none⟩ = some (.slice B1 k1 q1) := hb10.cell 0
          have z1 : w10.cell? ⟨w8.heap.size, 1, none⟩ = some (.slice B2 k2 q2) := hb10.cell 1
          have z2 : w10.cell? ⟨w8.heap.size, 2, none⟩ = some (.slice B3 k3 q3) := hb10.cell 2
          have hR10 := (laws_of (HI.out.only (HO89.out.trans ho10 (by simp)))).right (by omega) (by omega) (by omega)
          rw [HRD.out] at hR10
          have HR10 := Lib.hid hR10
          clear hbc ho10 hb10 hR10 HE9
          go_wp2_with (first
            | (go_at_call 40; refine (HN.out _ _).mono ?_; rintro x wn ⟨rfl, rfl⟩)
            | (go_at_call 42; refine HR10.out.mono ?_; rintro x w11 ⟨rfl, ho11⟩))
          go_ret
          exact ⟨by simp, HO10.out.trans ho11 (by simp)⟩
      · have he := enc_ok hob (Nat.le_trans (HLEN.out hob) (by omega))
        unfold encOut at HE
        rw [he.1, he.2] at HE
        have hdb := dec_back d hob H64.out
        have HLL := Lib.hid (HLEN.out hob)
        refine HE.out.mono ?_
        rintro x w4 ⟨Ae, ne, ce, rfl, hbe, _, _, hoe⟩
        have hb4 := HB3.out.only hoe (by simp)
        have HO4 := Lib.hid (HO3.out.trans hoe (by simp))
        have HD4 := Lib.hid (decode_any Ae ne ce (layO d) w4 hbe (by rw [← hbe.len]; have := HLL.out; omega))
        have HDB := Lib.hid hdb
        have HB4 := Lib.hid hb4
        clear he hob hdb hbe hoe hb4 HLEN HE
        go_wp2_with (go_at_call 40; refine (HN.out _ _).mono ?_; rintro x wn ⟨rfl, rfl⟩)
        refine HD4.out.mono ?_
        intro x w5 hx
        obtain ⟨B1, k1, q1, B2, k2, q2, B3, k3, q3, rfl, hi, hk1, hk2, hk3, ho5⟩ := decOut_open hx
        rw [HDB.out] at hi ⊢
        have hi : IsOb w5 ⟨B1, k1, q1, B2, k2, q2, B3, k3, q3⟩ d := hi
        have hb5 := HB4.out.only ho5 (by simp)
        have y0 : w5.cell? ⟨w.heap.size, 0, none⟩ = some (.slice A1 m1 p1) := hb5.cell 0
        have y1 : w5.cell? ⟨w.heap.size, 1, none⟩ = some (.slice A2 m2 p2) := hb5.cell 1
        have y2 : w5.cell? ⟨w.heap.size, 2, none⟩ = some (.slice A3 m3 p3) := hb5.cell 2
        have hlt5 := hb5.lt
        have hoa : Only [] w5 (w5.alloc (.cells #[.slice B1 k1 q1, .slice B2 k2 q2, .slice B3 k3 q3] 57)) := (Only.refl _ _).alloc _
        have HO5 := Lib.hid (HO4.out.trans (ho5.trans hoa (by simp)) (by simp))
        have hS := same_at (HH.out.only HO5.out) (hi.only hoa) ⟨by omega, by omega, by omega⟩ ⟨by omega, by omega, by omega⟩
        rw [decide_eq_true rfl] at hS
        have HS := Lib.hid hS
        clear hx hi ho5 hb5 hoa hS HD4
        simp only [Option.isSome_some, if_true]
        go_wp2_with (first
          | (go_at_call 40; refine (HN.out _ _).mono ?_; rintro x wn ⟨rfl, rfl⟩)
          | (go_at_call 44; refine HS.out.mono ?_; clear HS; rintro x wt ⟨rfl, hot⟩; have HOT := Lib.hid (HO5.out.trans hot (by simp)); clear hot))
        go_wp2_with (go_at_call 40; refine (HN.out _ _).mono ?_; rintro x wn ⟨rfl, rfl⟩)
        have hD := decode_any A n c l wt ((HR.out.only HOT.out (by simp)).more HOT.out.size) (by omega)
        cases hdec : dec l with
        | none =>
          refine hD.mono ?_
          intro x w8 hx
          obtain ⟨B1, k1, q1, B2, k2, q2, B3, k3, q3, rfl, hi, _, _, _, ho8⟩ := decOut_open hx
          rw [hdec] at hi ⊢
          have hi : IsOb w8 ⟨B1, k1, q1, B2, k2, q2, B3, k3, q3⟩ od0 := hi
          obtain rfl : k1 = 0 := hi.n1.symm
          obtain rfl : k2 = 0 := hi.n2.symm
          obtain rfl : k3 = 0 := hi.n3.symm
          have HO8 := Lib.hid (HOT.out.trans ho8 (by simp))
          clear hD hdec hx hi ho8
          simp only [Option.isSome_none, Bool.false_eq_true, if_false]
          go_wp2_with (go_at_call 40; refine (HN.out _ _).mono ?_; rintro x wn ⟨rfl, rfl⟩)
          go_ret
          exact ⟨rfl, HO8.out.alloc _⟩
        | some D =>
          refine hD.mono ?_
          intro x w8 hx
          obtain ⟨B1, k1, q1, B2, k2, q2, B3, k3, q3, rfl, hi, hk1, hk2, hk3, ho8⟩ := decOut_open hx
          rw [hdec] at hi ⊢
          have hi : IsOb w8 ⟨B1, k1, q1, B2, k2, q2, B3, k3, q3⟩ D := hi
          obtain ⟨hlD, hrD⟩ := dec_read l D hdec
          have hlen8 : (layO D).length ≤ 1048576 := by rw [← hlD, HLR.out]; omega
          have he := enc_ok hrD hlen8
          have ho9 : Only [] w8 (w8.alloc (.cells #[.slice B1 k1 q1, .slice B2 k2 q2, .slice B3 k3 q3] 57)) := (Only.refl _ _).alloc _
          have hE9 := (laws_of (hi.only ho9)).enc (by omega) (by omega) (by omega)
          unfold encOut at hE9
          simp only [he.1, he.2, ← hlD] at hE9
          have HE9 := Lib.hid hE9
          have HI := Lib.hid hi
          have HRD := Lib.hid hrD
          have HO9 := Lib.hid (HOT.out.trans (ho8.trans ho9 (by simp)) (by simp))
          have HB9 := Lib.hid (Blk.new w8 57 #[.slice B1 k1 q1, .slice B2 k2 q2, .slice B3 k3 q3])
          have HO89 := Lib.hid ho9
          clear hD hdec hx hi ho8 hlD hrD hlen8 he hE9 ho9
          simp only [Option.isSome_some, if_true]
          go_wp2_with (go_at_call 40; refine (HN.out _ _).mono ?_; rintro x wn ⟨rfl, rfl⟩)
          refine HE9.out.mono ?_
          rintro x w10 ⟨Ac, nc, cc, rfl, hbc, _, _, ho10⟩
          have hs1 := run_str hbc cc
          have HO10 := Lib.hid (HO9.out.trans ho10 (by simp))
          have hs2 := run_str (HR.out.only HO10.out (by simp)) c
          have hb10 := HB9.out.only ho10 (by simp)
          have z0 : w10.cell? ⟨w8.heap.size, 0, none⟩ = some (.slice B1 k1 q1) := hb10.cell 0
          have z1 : w10.cell? ⟨w8.heap.size, 1, none⟩ = some (.slice B2 k2 q2) := hb10.cell 1
          have z2 : w10.cell? ⟨w8.heap.size, 2, none⟩ = some (.slice B3 k3 q3) := hb10.cell 2
          have hR10 := (laws_of (HI.out.only (HO89.out.trans ho10 (by simp)))).right (by omega) (by omega) (by omega)
          rw [HRD.out] at hR10
          have HR10 := Lib.hid hR10
          clear hbc ho10 hb10 hR10 HE9
          go_wp2_with (first
            | (go_at_call 40; refine (HN.out _ _).mono ?_; rintro x wn ⟨rfl, rfl⟩)
            | (go_at_call 42; refine HR10.out.mono ?_; rintro x w11 ⟨rfl, ho11⟩))
          go_ret
          exact ⟨by simp, HO10.out.trans ho11 (by simp)⟩
end Go.Proofs.Ytbeenfkmnchhbaa.Object
