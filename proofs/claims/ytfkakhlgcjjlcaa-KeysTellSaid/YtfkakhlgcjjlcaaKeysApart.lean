/- The stage's theorem of keys, walked. -/
import Derived.Test.YtfkakhlgcjjlcaaKeysSame
import Derived.Test.YtfkakhlgcjjlcaaKeysLaw
namespace Go.Proofs.Ytfkakhlgcjjlcaa.Keys
open Go.RowKit Codec
set_option linter.unusedVariables false
set_option maxRecDepth 100000

theorem key_facts (r : Int) (p t : ByteArray) (ds : List DepT) : ∃ s e, keyV r p t ds = .tuple #[.string s, .int .i64 e] ∧
    ((e ≠ 0 ∧ s = ⟨#[]⟩) ∨ (e = 0 ∧ s ≠ ⟨#[]⟩ ∧ 0 ≤ r ∧ splitR s = ((r.toNat, p, t, ds), 0) ∧ s.size ≤ 65536)) := by
  unfold keyV
  split
  · exact ⟨_, _, rfl, .inl ⟨by decide, rfl⟩⟩
  · rename_i h1
    split
    · exact ⟨_, _, rfl, .inl ⟨by decide, rfl⟩⟩
    · rename_i h2
      split
      · exact ⟨_, _, rfl, .inl ⟨by decide, rfl⟩⟩
      · rename_i h3
        have hs := (magic_extract (keyB r p t ds)).2.2
        refine ⟨_, _, rfl, .inr ⟨rfl, ?_, ?_, split_ok (split_back r p t ds h1 h2 h3), by omega⟩⟩
        · intro h
          rw [h] at hs
          have : (⟨#[]⟩ : ByteArray).size = 0 := rfl
          omega
        · unfold keyBad at h1
          omega
structure MadeIn (w : World) (A : Option Addr) (m : Nat) (ds : List DepT) : Prop where
  len : ds.length = m
  recs : Recs w w.heap.size 2 A m (ds.map depRow)
  size : ∀ d ∈ ds, d.1.size ≤ maxLen ∧ d.2.size ≤ maxLen
theorem MadeIn.only {w w' : World} {A : Option Addr} {m : Nat} {ds : List DepT} (h : MadeIn w A m ds) (ho : Only [] w w') : MadeIn w' A m ds := ⟨h.len, (h.recs.only ho (by simp)).more ho.size, h.size⟩
set_option maxHeartbeats 4000000 in
theorem apart_any (r1 r2 : Int) (p1 p2 t1 t2 : ByteArray) (A1 A2 : Option Addr) (m1 m2 c1 c2 : Nat) (ds1 ds2 : List DepT) (w : World) (hA1 : MadeIn w A1 m1 ds1) (hA2 : MadeIn w A2 m2 ds2) :
    Calls Try.prog 5 #[.agg #[.int .i64 r1, .string p1, .string t1, .slice A1 m1 c1], .agg #[.int .i64 r2, .string p2, .string t2, .slice A2 m2 c2]] w fun x w' => x = .returned (.bool true) ∧ Only [] w w' := by
  have HK := Lib.hid knows_any
  have hb1 := (Blk.new w 38 #[.int .i64 r1, .string p1, .string t1, .slice A1 m1 c1]).alloc (.cells #[.int .i64 r2, .string p2, .string t2, .slice A2 m2 c2] 38)
  have hb2 := Blk.new (w.alloc (.cells #[.int .i64 r1, .string p1, .string t1, .slice A1 m1 c1] 38)) 38 #[.int .i64 r2, .string p2, .string t2, .slice A2 m2 c2]
  rw [alloc_size] at hb2
  have hO : Only [] w ((w.alloc (.cells #[.int .i64 r1, .string p1, .string t1, .slice A1 m1 c1] 38)).alloc (.cells #[.int .i64 r2, .string p2, .string t2, .slice A2 m2 c2] 38)) := ((Only.refl [] w).alloc _).alloc _
  go_enter Try.func5, Try.ntmps5
  go_wp2_with fail
  generalize (w.alloc (.cells #[.int .i64 r1, .string p1, .string t1, .slice A1 m1 c1] 38)).alloc (.cells #[.int .i64 r2, .string p2, .string t2, .slice A2 m2 c2] 38) = w1 at *
  have hc : ∀ w', Only [] w1 w' → (Only [] w w' ∧ MadeIn w' A1 m1 ds1 ∧ MadeIn w' A2 m2 ds2) ∧
      (w'.cell? ⟨w.heap.size, 0, none⟩ = some (.int .i64 r1) ∧ w'.cell? ⟨w.heap.size, 1, none⟩ = some (.string p1) ∧ w'.cell? ⟨w.heap.size, 2, none⟩ = some (.string t1) ∧ w'.cell? ⟨w.heap.size, 3, none⟩ = some (.slice A1 m1 c1)) ∧
      (w'.cell? ⟨w.heap.size + 1, 0, none⟩ = some (.int .i64 r2) ∧ w'.cell? ⟨w.heap.size + 1, 1, none⟩ = some (.string p2) ∧ w'.cell? ⟨w.heap.size + 1, 2, none⟩ = some (.string t2) ∧ w'.cell? ⟨w.heap.size + 1, 3, none⟩ = some (.slice A2 m2 c2)) := fun w' h =>
    ⟨⟨hO.trans h (by simp), hA1.only (hO.trans h (by simp)), hA2.only (hO.trans h (by simp))⟩,
     ⟨(hb1.only h (by simp)).cell 0, (hb1.only h (by simp)).cell 1, (hb1.only h (by simp)).cell 2, (hb1.only h (by simp)).cell 3⟩,
     ⟨(hb2.only h (by simp)).cell 0, (hb2.only h (by simp)).cell 1, (hb2.only h (by simp)).cell 2, (hb2.only h (by simp)).cell 3⟩⟩
  have HC := Lib.hid hc
  clear hc hb1 hb2 hA1 hA2 hO
  obtain ⟨⟨ho1, ha1, ha2⟩, ⟨x0, x1, x2, x3⟩, ⟨y0, y1, y2, y3⟩⟩ := HC.out w1 (Only.refl _ _)
  refine (light_any r1 p1 t1 A1 m1 c1 ds1 w1 ha1.len ha1.recs).mono ?_
  rintro x w2 ⟨b1, rfl, hl1, ho2⟩
  clear ho1 ha1 ha2 x0 x1 x2 x3 y0 y1 y2 y3
  obtain ⟨⟨ho1, ha1, ha2⟩, ⟨x0, x1, x2, x3⟩, ⟨y0, y1, y2, y3⟩⟩ := HC.out w2 ho2
  cases b1 with
  | false =>
    go_wp2_with (go_at_call 6; refine (HK.out _).mono ?_; rintro x wk ⟨rfl, hok⟩)
    go_ret
    exact ⟨rfl, ho1.trans hok (by simp)⟩
  | true =>
    have hl1 := hl1 rfl
    go_wp2_with fail
    refine (light_any r2 p2 t2 A2 m2 c2 ds2 w2 ha2.len ha2.recs).mono ?_
    rintro x w3 ⟨b2, rfl, hl2, ho3⟩
    have ho3 := ho2.trans ho3 (by simp)
    clear ho1 ha1 ha2 x0 x1 x2 x3 y0 y1 y2 y3
    obtain ⟨⟨ho1, ha1, ha2⟩, ⟨x0, x1, x2, x3⟩, ⟨y0, y1, y2, y3⟩⟩ := HC.out w3 ho3
    cases b2 with
    | false =>
      go_wp2_with (go_at_call 6; refine (HK.out _).mono ?_; rintro x wk ⟨rfl, hok⟩)
      go_ret
      exact ⟨rfl, ho1.trans hok (by simp)⟩
    | true =>
      have hl2 := hl2 rfl
      go_wp2_with fail
      refine (HK.out w3).mono ?_
      rintro x w4 ⟨rfl, ho4⟩
      have ho4 := ho3.trans ho4 (by simp)
      clear ho1 ha1 ha2 x0 x1 x2 x3 y0 y1 y2 y3
      obtain ⟨⟨ho1, ha1, ha2⟩, ⟨x0, x1, x2, x3⟩, ⟨y0, y1, y2, y3⟩⟩ := HC.out w4 ho4
      go_wp2_with fail
      refine (lkey_any r1 p1 t1 A1 m1 c1 ds1 w4 ha1.len ha1.recs (by have := ha1.len; omega) ha1.size).mono ?_
      rintro x w5 ⟨rfl, ho5⟩
      have ho5 := ho4.trans ho5 (by simp)
      clear ho1 ha1 ha2 x0 x1 x2 x3 y0 y1 y2 y3
      obtain ⟨⟨ho1, ha1, ha2⟩, ⟨x0, x1, x2, x3⟩, ⟨y0, y1, y2, y3⟩⟩ := HC.out w5 ho5
      obtain ⟨s1, e1, hk1, hf1⟩ := key_facts r1 p1 t1 ds1
      obtain ⟨s2, e2, hk2, hf2⟩ := key_facts r2 p2 t2 ds2
      have HEQ : Hid ((r1 = r2 ∧ p1 = p2 ∧ t1 = t2 ∧ ds1 = ds2) → s1 = s2) := by
        rintro ⟨rfl, rfl, rfl, rfl⟩
        rw [hk1] at hk2
        injection hk2 with hk2
        simp at hk2
        exact hk2.1
      rw [hk1]
      go_wp2_with fail
      refine (lkey_any r2 p2 t2 A2 m2 c2 ds2 w5 ha2.len ha2.recs (by have := ha2.len; omega) ha2.size).mono ?_
      rintro x w6 ⟨rfl, ho6⟩
      have ho6 := ho5.trans ho6 (by simp)
      clear ho1 ha1 ha2 x0 x1 x2 x3 y0 y1 y2 y3
      obtain ⟨⟨ho1, ha1, ha2⟩, ⟨x0, x1, x2, x3⟩, ⟨y0, y1, y2, y3⟩⟩ := HC.out w6 ho6
      rw [hk2]
      clear hk1 hk2
      have hnum := Lib.hid num_any
      have hemp : ∀ s : ByteArray, s ≠ ⟨#[]⟩ → (s.toList == []) = false := fun s hs => by
        have := str_neb hs
        rw [show (⟨#[]⟩ : ByteArray).toList = [] by rw [Lib.toList_data]] at this
        exact this
      have HEMP := Lib.hid hemp
      clear hemp
      rcases hf1 with ⟨he1, rfl⟩ | ⟨rfl, hs1, hr1, hsp1, hz1⟩
      · rcases hf2 with ⟨he2, rfl⟩ | ⟨rfl, hs2, hr2, hsp2, hz2⟩
        · clear HC ha1 ha2 HEQ HEMP
          go_wp2_with (go_at_call 11; refine (hnum.out _ _).mono ?_; rintro x wx ⟨rfl, rfl⟩)
          go_ret
          exact ⟨by simp [*], ho1⟩
        · have hx := HEMP.out s2 hs2
          clear HC ha1 ha2 HEQ HEMP hs2 hsp2
          go_wp2_with (go_at_call 11; refine (hnum.out _ _).mono ?_; rintro x wx ⟨rfl, rfl⟩)
          go_ret
          exact ⟨by simp [*], ho1⟩
      · have hx1 := HEMP.out s1 hs1
        rcases hf2 with ⟨he2, rfl⟩ | ⟨rfl, hs2, hr2, hsp2, hz2⟩
        · clear HC ha1 ha2 HEQ HEMP hs1 hsp1
          go_wp2_with (go_at_call 11; refine (hnum.out _ _).mono ?_; rintro x wx ⟨rfl, rfl⟩)
          go_ret
          exact ⟨by simp [*], ho1⟩
        · clear hs1 hs2 HEMP hx1
          have hsp := lsplit_any s1 w6 (by omega)
          rw [hsp1] at hsp
          unfold madeV at hsp
          simp only at hsp
          rw [Int.toNat_of_nonneg hr1] at hsp
          have HSP := Lib.hid hsp
          have HS1 := Lib.hid hsp1
          have HS2 := Lib.hid hsp2
          clear hsp hsp1 hsp2
          have hm1 : m1 ≤ 20 := by have := ha1.len; omega
          have hiff : Hid (s1 = s2 → (r1 = r2 ∧ p1 = p2 ∧ t1 = t2 ∧ ds1 = ds2)) := by
            intro h
            have a := HS1.out
            rw [h, HS2.out] at a
            simp only [Prod.mk.injEq, and_true] at a
            exact ⟨by omega, a.2.1.symm, a.2.2.1.symm, a.2.2.2.symm⟩
          clear HS1 HS2
          go_wp2_with (go_at_call 11; refine (hnum.out _ _).mono ?_; rintro x wx ⟨rfl, rfl⟩)
          refine HSP.out.mono ?_
          rintro x w7 ⟨v, rfl, hv, ho7⟩
          have ho7 := ho6.trans ho7 (by simp)
          obtain ⟨A7, cap7, rfl, hv1, hv2, hv3, _⟩ := hv.shape (by decide)
          have hb7 := Blk.new w7 38 #[.int .i64 r1, .string p1, .string t1, .slice A7 ds1.length cap7]
          have hr7 := (hv3.only ((Only.refl [] w7).alloc (.cells #[.int .i64 r1, .string p1, .string t1, .slice A7 ds1.length cap7] 38)) (by simp)).more (B' := (w7.alloc (.cells #[.int .i64 r1, .string p1, .string t1, .slice A7 ds1.length cap7] 38)).heap.size) (by rw [alloc_size]; omega)
          have ho8 := ho7.alloc (.cells #[.int .i64 r1, .string p1, .string t1, .slice A7 ds1.length cap7] 38)
          clear ho1 ha1 ha2 x0 x1 x2 x3 y0 y1 y2 y3 hv hv3 HSP
          obtain ⟨⟨ho1, ha1, ha2⟩, ⟨x0, x1, x2, x3⟩, ⟨y0, y1, y2, y3⟩⟩ := HC.out _ ho8
          have z0 : World.cell? _ ⟨w7.heap.size, 0, none⟩ = some (.int .i64 r1) := hb7.cell 0
          have z1 : World.cell? _ ⟨w7.heap.size, 1, none⟩ = some (.string p1) := hb7.cell 1
          have z2 : World.cell? _ ⟨w7.heap.size, 2, none⟩ = some (.string t1) := hb7.cell 2
          have z3 : World.cell? _ ⟨w7.heap.size, 3, none⟩ = some (.slice A7 ds1.length cap7) := hb7.cell 3
          go_wp2_with (go_at_call 11; refine (hnum.out _ _).mono ?_; rintro x wx ⟨rfl, rfl⟩)
          clear hb7 z0 z1 z2 z3
          generalize w7.alloc (.cells #[.int .i64 r1, .string p1, .string t1, .slice A7 ds1.length cap7] 38) = w8 at *
          refine (same_any r1 r1 p1 p1 t1 t1 A7 A1 ds1.length m1 cap7 c1 ds1 ds1 w8 rfl ha1.len (by omega) hr7 ha1.recs).mono ?_
          rintro _ w9 ⟨b9, rfl, hb9, ho9⟩
          obtain rfl : b9 = true := hb9.2 ⟨rfl, rfl, rfl, rfl⟩
          have ho9 := ho8.trans ho9 (by simp)
          clear ho1 ha1 ha2 x0 x1 x2 x3 y0 y1 y2 y3 hr7 hb9
          obtain ⟨⟨ho1, ha1, ha2⟩, ⟨x0, x1, x2, x3⟩, ⟨y0, y1, y2, y3⟩⟩ := HC.out _ ho9
          go_wp2_with fail
          refine (same_any r1 r2 p1 p2 t1 t2 A1 A2 m1 m2 c1 c2 ds1 ds2 w9 ha1.len ha2.len (by omega) ha1.recs ha2.recs).mono ?_
          rintro _ w10 ⟨b10, rfl, hb10, ho10⟩
          have ho10 := ho9.trans ho10 (by simp)
          have hq : (s1.toList == s2.toList) = b10 := by
            rw [str_eqb]
            cases b10 with
            | true => exact decide_eq_true (HEQ.out (hb10.1 rfl))
            | false => exact decide_eq_false (fun h => by have := hb10.2 (hiff.out h); cases this)
          have HO := Lib.hid (HC.out _ ho10).1.1
          clear ho1 ha1 ha2 x0 x1 x2 x3 y0 y1 y2 y3 hb10
          go_wp2_with fail
          go_ret
          exact ⟨by simp, HO.out⟩
end Go.Proofs.Ytfkakhlgcjjlcaa.Keys
