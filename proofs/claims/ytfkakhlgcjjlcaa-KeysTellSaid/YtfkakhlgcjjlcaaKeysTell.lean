/- Any key, and what any text is made of as one: walked. -/
import Derived.Test.YtfkakhlgcjjlcaaKeysApart
import Derived.Test.YtfkakhlgcjjlcaaKeysRefKey
import Derived.Test.YtfkakhlgcjjlcaaKeysRefSplit
namespace Go.Proofs.Ytfkakhlgcjjlcaa.Keys
open Go.RowKit Codec
set_option linter.unusedVariables false
set_option maxRecDepth 100000

set_option maxHeartbeats 4000000 in
theorem tell_any (r : Int) (p t : ByteArray) (A : Option Addr) (m c : Nat) (ds : List DepT) (s : ByteArray) (w : World) (hA : MadeIn w A m ds) :
    Calls Try.prog 4 #[.agg #[.int .i64 r, .string p, .string t, .slice A m c], .string s] w fun x w' => x = .returned (.bool true) ∧ Only [] w w' := by
  have HK := Lib.hid knows_any
  have hnum := Lib.hid num_any
  have hb := Blk.new w 38 #[.int .i64 r, .string p, .string t, .slice A m c]
  have hO : Only [] w (w.alloc (.cells #[.int .i64 r, .string p, .string t, .slice A m c] 38)) := (Only.refl [] w).alloc _
  go_enter Try.func4, Try.ntmps4
  go_wp2_with fail
  generalize w.alloc (.cells #[.int .i64 r, .string p, .string t, .slice A m c] 38) = w1 at *
  have hc : ∀ w', Only [] w1 w' → (Only [] w w' ∧ MadeIn w' A m ds) ∧
      (w'.cell? ⟨w.heap.size, 0, none⟩ = some (.int .i64 r) ∧ w'.cell? ⟨w.heap.size, 1, none⟩ = some (.string p) ∧ w'.cell? ⟨w.heap.size, 2, none⟩ = some (.string t) ∧ w'.cell? ⟨w.heap.size, 3, none⟩ = some (.slice A m c)) := fun w' h =>
    ⟨⟨hO.trans h (by simp), hA.only (hO.trans h (by simp))⟩,
     ⟨(hb.only h (by simp)).cell 0, (hb.only h (by simp)).cell 1, (hb.only h (by simp)).cell 2, (hb.only h (by simp)).cell 3⟩⟩
  have HC := Lib.hid hc
  clear hc hb hA hO
  obtain ⟨⟨ho1, ha1⟩, ⟨x0, x1, x2, x3⟩⟩ := HC.out w1 (Only.refl _ _)
  refine (light_any r p t A m c ds w1 ha1.len ha1.recs).mono ?_
  rintro x w2 ⟨b1, rfl, hl1, ho2⟩
  clear ho1 ha1 x0 x1 x2 x3
  obtain ⟨⟨ho1, ha1⟩, ⟨x0, x1, x2, x3⟩⟩ := HC.out w2 ho2
  cases b1 with
  | false =>
    go_wp2_with (go_at_call 6; refine (HK.out _).mono ?_; rintro x wk ⟨rfl, hok⟩)
    go_ret
    exact ⟨rfl, ho1.trans hok (by simp)⟩
  | true =>
    have hl1 := hl1 rfl
    by_cases hs : 3000 < s.size
    · have d1 : decide ((3000 : Int) < (s.size : Int)) = true := decide_eq_true (by omega)
      go_wp2_with (go_at_call 6; refine (HK.out _).mono ?_; rintro x wk ⟨rfl, hok⟩)
      go_ret
      exact ⟨rfl, ho1.trans hok (by simp)⟩
    · have d1 : decide ((3000 : Int) < (s.size : Int)) = false := decide_eq_false (by omega)
      go_wp2_with fail
      have hm20 : m ≤ 20 := by have := ha1.len; omega
      refine (lkey_any r p t A m c ds w2 ha1.len ha1.recs (by omega) ha1.size).mono ?_
      rintro x w3 ⟨rfl, ho3⟩
      have ho3 := ho2.trans ho3 (by simp)
      clear ho1 ha1 x0 x1 x2 x3
      obtain ⟨⟨ho1, ha1⟩, ⟨x0, x1, x2, x3⟩⟩ := HC.out w3 ho3
      obtain ⟨s1, e1, hk1, _⟩ := key_facts r p t ds
      have hrk := ref_key r p t A m c _ ds w3 ha1.len ha1.recs (Nat.le_refl _) ha1.size
      rw [hk1] at hrk ⊢
      clear hk1
      go_wp2_with fail
      refine hrk.mono ?_
      rintro x w4 ⟨rfl, ho4⟩
      have ho4 := ho3.trans ho4 (by simp)
      clear ho1 ha1 x0 x1 x2 x3 hrk
      have hsp := fun w => lsplit_any s w (by omega)
      have hrs := fun w => ref_split s w (by omega)
      have hn := splitR_len s
      unfold madeV at hsp hrs
      generalize splitR s = S at *
      obtain ⟨⟨sr, sp, st, sds⟩, sz⟩ := S
      simp only at hsp hrs hn
      go_wp2_with fail
      refine (hsp w4).mono ?_
      rintro x w5 ⟨v, rfl, hv, ho5⟩
      have ho5 := ho4.trans ho5 (by simp)
      obtain ⟨A5, cap5, rfl, hv1, hv2, hv3, _⟩ := hv.shape (by decide)
      have hb5 := Blk.new w5 38 #[.int .i64 sr, .string sp, .string st, .slice A5 sds.length cap5]
      have hr5 := (hv3.only ((Only.refl [] w5).alloc (.cells #[.int .i64 sr, .string sp, .string st, .slice A5 sds.length cap5] 38)) (by simp)).more (B' := (w5.alloc (.cells #[.int .i64 sr, .string sp, .string st, .slice A5 sds.length cap5] 38)).heap.size) (by rw [alloc_size]; omega)
      have ho6 := ho5.alloc (.cells #[.int .i64 sr, .string sp, .string st, .slice A5 sds.length cap5] 38)
      clear hv hv3 hsp
      go_wp2_with fail
      generalize w5.alloc (.cells #[.int .i64 sr, .string sp, .string st, .slice A5 sds.length cap5] 38) = w6 at *
      refine (hrs w6).mono ?_
      rintro x w7 ⟨v, rfl, hv, ho7⟩
      have hr7 := (hr5.only ho7 (by simp)).more ho7.size
      have hb7 := hb5.only ho7 (by simp)
      have ho7 := ho6.trans ho7 (by simp)
      obtain ⟨A7, cap7, rfl, hu1, hu2, hu3, _⟩ := hv.shape (by decide)
      have hoz : Only [] w7 (w7.alloc (.cells #[.int .i64 sr, .string sp, .string st, .slice A7 sds.length cap7] 38)) := (Only.refl [] w7).alloc _
      have hb8 := Blk.new w7 38 #[.int .i64 sr, .string sp, .string st, .slice A7 sds.length cap7]
      have hb9 := hb7.only hoz (by simp)
      have hr8 := (hu3.only hoz (by simp)).more hoz.size
      have hr9 := (hr7.only hoz (by simp)).more hoz.size
      have ho8 := ho7.trans hoz (by simp)
      clear hv hu3 hrs hr5 hr7 hb5 hb7 hoz
      have z0 : World.cell? _ ⟨w7.heap.size, 0, none⟩ = some (.int .i64 sr) := hb8.cell 0
      have z1 : World.cell? _ ⟨w7.heap.size, 1, none⟩ = some (.string sp) := hb8.cell 1
      have z2 : World.cell? _ ⟨w7.heap.size, 2, none⟩ = some (.string st) := hb8.cell 2
      have z3 : World.cell? _ ⟨w7.heap.size, 3, none⟩ = some (.slice A7 sds.length cap7) := hb8.cell 3
      have y0 : World.cell? _ ⟨w5.heap.size, 0, none⟩ = some (.int .i64 sr) := hb9.cell 0
      have y1 : World.cell? _ ⟨w5.heap.size, 1, none⟩ = some (.string sp) := hb9.cell 1
      have y2 : World.cell? _ ⟨w5.heap.size, 2, none⟩ = some (.string st) := hb9.cell 2
      have y3 : World.cell? _ ⟨w5.heap.size, 3, none⟩ = some (.slice A5 sds.length cap5) := hb9.cell 3
      clear hb8 hb9
      go_wp2_with fail
      generalize w7.alloc (.cells #[.int .i64 sr, .string sp, .string st, .slice A7 sds.length cap7] 38) = w8 at *
      refine (hnum.out _ _).mono ?_
      rintro _ wx ⟨rfl, rfl⟩
      go_wp2_with (go_at_call 11; refine (hnum.out _ _).mono ?_; rintro x wx ⟨rfl, rfl⟩)
      refine (same_any sr sr sp sp st st A5 A7 sds.length sds.length cap5 cap7 sds sds w8 rfl rfl (by omega) hr9 hr8).mono ?_
      rintro _ w9 ⟨b9, rfl, hb9, ho9⟩
      obtain rfl : b9 = true := hb9.2 ⟨rfl, rfl, rfl, rfl⟩
      have HO := Lib.hid (HC.out _ (ho8.trans ho9 (by simp))).1.1
      clear z0 z1 z2 z3 y0 y1 y2 y3 hr8 hr9 hb9 HC
      go_wp2_with (first
        | (go_at_call 11; refine (hnum.out _ _).mono ?_; rintro x wx ⟨rfl, rfl⟩)
        | (go_at_call 6; refine (HK.out _).mono ?_; rintro x wk ⟨rfl, hok⟩))
      go_ret
      exact ⟨by simp, HO.out.trans hok (by simp)⟩
end Go.Proofs.Ytfkakhlgcjjlcaa.Keys
