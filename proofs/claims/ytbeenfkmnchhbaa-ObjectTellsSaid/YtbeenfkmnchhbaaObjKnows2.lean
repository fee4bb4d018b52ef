/- What must come of objects: knows. -/
import Derived.Test.YtbeenfkmnchhbaaObjKnows
namespace Go.Proofs.Ytbeenfkmnchhbaa.Object
open Go.RowKit Codec
set_option linter.unusedVariables false
set_option maxRecDepth 100000
set_option maxHeartbeats 1000000 in
theorem knows_any (w : World) : Calls Try.prog 35 #[] w fun x w' => x = .returned (.bool true) ∧ Only [] w w' := by
  have HN := Lib.hid num_is
  have hE1 : Calls Try.prog 36 #[.agg #[.slice none 0 0, .slice none 0 0, .slice none 0 0]] w fun x w' => encOut od0 w x w' := by
    have h := encode_any ⟨none, 0, 0, none, 0, 0, none, 0, 0⟩ od0 w (isOb_nil w) (by simp)
    unfold Ob.val at h
    exact h
  have hE2 := fun w1 : World => encode_any ⟨some ⟨w1.heap.size, 0, none⟩, 2, 2, some ⟨w1.heap.size + 1, 0, none⟩, 1, 1, some ⟨w1.heap.size + 1 + 1, 0, none⟩, 1, 1⟩ dK _ (isOb_dK w1) (by simp)
  simp only [Ob.val] at hE2
  have e0 := enc_ok right_od0 (by rw [lay_od0]; decide)
  have e1 := enc_ok right_dK len_dK
  have hd := dec_back dK right_dK in_dK
  have hlen : (layO dK).length = 6 + 2 * 16 + 2 * 13 := by decide +kernel
  unfold encOut at hE1 hE2
  simp only [e0.1, e0.2, e1.1, e1.2, lay_od0] at hE1 hE2
  generalize layO dK = LK at *
  have HE1 := Lib.hid hE1
  have HE2 := Lib.hid hE2
  have HD := Lib.hid hd
  have HL := Lib.hid hlen
  have hst : ((str [0, 0, 0, 0, 0, 0]).toList == [0, 0, 0, 0, 0, 0]) = true := by rw [Lib.toList_data]; rfl
  clear hE1 hE2 e0 e1 hd hlen
  go_enter Try.func35, Try.ntmps35
  go_wp2_with fail
  refine HE1.out.mono ?_
  rintro x w1 ⟨A1, n1, c1, rfl, hb1, _, _, ho1⟩
  clear HE1
  go_wp2_with fail
  refine (HE2.out w1).mono ?_
  rintro x w2 ⟨A2, n2, c2, rfl, hb2, _, _, ho2⟩
  have hoa : Only [] w1 w2 := ((((Only.refl [] w1).alloc _).alloc _).alloc _).trans ho2 (by simp)
  have hn2 : n2 ≤ 1000000 := by have := hb2.len; rw [HL.out] at this; omega
  have HDC := Lib.hid (decode_any A2 n2 c2 LK w2 hb2 hn2)
  have HO2 := Lib.hid (ho1.trans hoa (by simp))
  have HB1 := Lib.hid ((hb1.only hoa (by simp)).more hoa.size)
  clear HE2 ho2 hoa ho1 hb1 hb2
  go_wp2_with fail
  refine HDC.out.mono ?_
  intro x w3 hx
  obtain ⟨B1, m1, p1, B2, m2, p2, B3, m3, p3, rfl, hi, _, _, _, ho3⟩ := decOut_open hx
  rw [HD.out] at hi ⊢
  have hi : IsOb w3 ⟨B1, m1, p1, B2, m2, p2, B3, m3, p3⟩ dK := hi
  obtain rfl : m1 = 2 := hi.n1.symm
  obtain rfl : m2 = 1 := hi.n2.symm
  obtain rfl : m3 = 1 := hi.n3.symm
  obtain ⟨b1, o1, hA1, hl1, x1, _, hx1, _, y1, _⟩ := cd_at hi.code 0 (by show 0 < 2; decide)
  obtain ⟨b3, o3, hA3, hl3, x3, _, hx3, _, y3⟩ := cl_at hi.calls 0 (by show 0 < 1; decide)
  simp only at hA1 hA3
  subst hA1
  subst hA3
  obtain rfl : x1 = ⟨18, -1, 0, 0, 0⟩ := by have : (dK.code)[0]? = some (⟨18, -1, 0, 0, 0⟩ : Cd) := rfl; rw [this] at hx1; injection hx1 with h; exact h.symm
  obtain rfl : x3 = ⟨⟨#[112, 46, 103]⟩, 0⟩ := by have : (dK.calls)[0]? = some (⟨⟨#[112, 46, 103]⟩, 0⟩ : En) := rfl; rw [this] at hx3; injection hx3 with h; exact h.symm
  simp only [Nat.zero_mul, Nat.add_zero] at y1 y3
  have hs := run_str (((HB1.out.only ho3 (by simp)).more ho3.size).alloc (Nat.le_refl _) (.cells #[.slice (some ⟨b1, o1, none⟩) 2 p1, .slice B2 1 p2, .slice (some ⟨b3, o3, none⟩) 1 p3] 57)) c1
  have HO3 := Lib.hid (HO2.out.trans ho3 (by simp))
  clear hx hi hx1 hx3 ho3 HDC HB1
  go_wp2_with (go_at_call 40; refine (HN.out _ _).mono ?_; rintro x wn ⟨rfl, rfl⟩)
  go_ret
  exact ⟨by simp, HO3.out.alloc _⟩
end Go.Proofs.Ytbeenfkmnchhbaa.Object
