/- Whether parts are the same. -/
import Derived.Test.YtfkakhlgcjjlcaaKeysLawKey
namespace Go.Proofs.Ytfkakhlgcjjlcaa.Keys
open Go.RowKit Codec
set_option linter.unusedVariables false
set_option maxRecDepth 100000

theorem str_eqb (a b : ByteArray) : (a.toList == b.toList) = decide (a = b) := by
  rw [Lib.toList_data, Lib.toList_data]
  by_cases h : a = b
  · subst h; simp
  · have : ¬ a.data.toList = b.data.toList := fun he => h (by apply ByteArray.ext; apply Array.ext'; exact he)
    rw [decide_eq_false h]
    exact beq_eq_false_iff_ne.2 this
theorem str_neb {a b : ByteArray} (h : ¬ a = b) : (a.toList == b.toList) = false := by rw [str_eqb]; exact decide_eq_false h
def boolOut (P : Prop) (w : World) (x : Ending) (w' : World) : Prop := ∃ b, x = .returned (.bool b) ∧ (b = true ↔ P) ∧ Only [] w w'
set_option maxHeartbeats 2000000 in
theorem same_any (r1 r2 : Int) (p1 p2 t1 t2 : ByteArray) (A1 A2 : Option Addr) (m1 m2 c1 c2 : Nat) (ds1 ds2 : List DepT) (w : World) (hm1 : ds1.length = m1) (hm2 : ds2.length = m2) (hl : m1 ≤ 140737488355328)
    (hr1 : Recs w w.heap.size 2 A1 m1 (ds1.map depRow)) (hr2 : Recs w w.heap.size 2 A2 m2 (ds2.map depRow)) :
    Calls Try.prog 17 #[.agg #[.int .i64 r1, .string p1, .string t1, .slice A1 m1 c1], .agg #[.int .i64 r2, .string p2, .string t2, .slice A2 m2 c2]] w fun x w' => boolOut (r1 = r2 ∧ p1 = p2 ∧ t1 = t2 ∧ ds1 = ds2) w x w' := by
  by_cases e1 : r1 = r2
  · subst e1
    by_cases e2 : p1 = p2
    · subst e2
      by_cases e3 : t1 = t2
      · subst e3
        by_cases e4 : m1 = m2
        · subst e4
          have hb1 := (Blk.new w 38 #[.int .i64 r1, .string p1, .string t1, .slice A1 m1 c1]).alloc (.cells #[.int .i64 r1, .string p1, .string t1, .slice A2 m1 c2] 38)
          have hb2 := Blk.new (w.alloc (.cells #[.int .i64 r1, .string p1, .string t1, .slice A1 m1 c1] 38)) 38 #[.int .i64 r1, .string p1, .string t1, .slice A2 m1 c2]
          rw [alloc_size] at hb2
          have hO : Only [] w ((w.alloc (.cells #[.int .i64 r1, .string p1, .string t1, .slice A1 m1 c1] 38)).alloc (.cells #[.int .i64 r1, .string p1, .string t1, .slice A2 m1 c2] 38)) := ((Only.refl [] w).alloc _).alloc _
          have hq1 := hr1.only hO (by simp)
          have hq2 := hr2.only hO (by simp)
          go_enter Try.func17, Try.ntmps17
          go_wp2_with fail
          generalize (w.alloc (.cells #[.int .i64 r1, .string p1, .string t1, .slice A1 m1 c1] 38)).alloc (.cells #[.int .i64 r1, .string p1, .string t1, .slice A2 m1 c2] 38) = w1 at *
          have a3 : w1.cell? ⟨w.heap.size, 3, none⟩ = some (.slice A1 m1 c1) := hb1.cell 3
          have b3 : w1.cell? ⟨w.heap.size + 1, 3, none⟩ = some (.slice A2 m1 c2) := hb2.cell 3
          clear hb1 hb2 hr1 hr2
          have H1 := Lib.hid hm1
          have H2 := Lib.hid hm2
          clear hm1 hm2
          have hl' := hl
          go_loopw [5] (fun i wr => ∃ k : Nat, k ≤ m1 ∧ i = .int .i64 k ∧ ds1.take k = ds2.take k ∧ w1.heap = wr.heap ∧ Only [] w wr) (fun i _ => m1 - (intOf i).toNat)
          case atStart => exact ⟨0, by omega, rfl, rfl, rfl, hO⟩
          case round =>
            obtain ⟨k, hk, rfl, htk, hh, hOr⟩ := hrel
            have hcell : ∀ a, wr.cell? a = w1.cell? a := fun a => by unfold World.cell?; rw [hh]
            rw [← hcell] at a3 b3
            have HH := Lib.hid hh
            have HC := Lib.hid hcell
            clear hh hcell
            have HTK := Lib.hid htk
            clear htk
            by_cases hlt : k < m1
            · obtain ⟨bx, offx, rfl, _, hcx⟩ := hq1.at_ (ByteArray.empty, ByteArray.empty) hlt
              obtain ⟨by', offy, rfl, _, hcy⟩ := hq2.at_ (ByteArray.empty, ByteArray.empty) hlt
              have x0 : w1.cell? ⟨bx, offx + k * 2, none⟩ = _ := hcx 0 (by omega)
              have x1 := hcx 1 (by omega)
              have y0 : w1.cell? ⟨by', offy + k * 2, none⟩ = _ := hcy 0 (by omega)
              have y1 := hcy 1 (by omega)
              rw [← HC.out] at x0 x1 y0 y1
              have ht : ∀ (l : List DepT), k < l.length → l.take (k + 1) = l.take k ++ [l.getD k (ByteArray.empty, ByteArray.empty)] := fun l hl => by
                rw [List.take_succ_eq_append_getElem hl, List.getD_eq_getElem?_getD, List.getElem?_eq_getElem hl]; rfl
              have HT1 := Lib.hid (ht ds1 (by rw [H1.out]; exact hlt))
              have HT2 := Lib.hid (ht ds2 (by rw [H2.out]; exact hlt))
              have HG : Hid (ds1 = ds2 → ds1.getD k (ByteArray.empty, ByteArray.empty) = ds2.getD k (ByteArray.empty, ByteArray.empty)) := fun h => by rw [h]
              clear ht hcx hcy hq1 hq2
              generalize ds1.getD k (ByteArray.empty, ByteArray.empty) = d1 at *
              generalize ds2.getD k (ByteArray.empty, ByteArray.empty) = d2 at *
              obtain ⟨dp1, de1⟩ := d1
              obtain ⟨dp2, de2⟩ := d2
              simp only [depRow, List.getElem?_cons_zero, List.getElem?_cons_succ] at x0 x1 y0 y1
              by_cases e5 : dp1 = dp2
              · subst e5
                by_cases e6 : de1 = de2
                · subst e6
                  go_wp2_with fail
                  go_quiet (fail)
                  go_wp2_with fail
                  go_roundw
                  case rel =>
                    refine ⟨k + 1, by omega, by go_num, by rw [HT1.out, HT2.out, HTK.out], HH.out, Only.drewN hOr _⟩
                  case measure => simp [intOf]; omega
                · have d6 := str_neb e6
                  go_wp2_with fail
                  go_quiet (fail)
                  go_wp2_with fail
                  go_ret
                  exact ⟨false, by simp, by simp; intro h; have := HG.out h; simp at this; exact e6 this, Only.drewN hOr _⟩
              · have d5 := str_neb e5
                go_wp2_with fail
                go_quiet (fail)
                go_wp2_with fail
                go_ret
                exact ⟨false, by simp, by simp; intro h; have := HG.out h; simp at this; exact e5 this.1, Only.drewN hOr _⟩
            · obtain rfl : k = m1 := by omega
              have hEq : ds1 = ds2 := by
                have h := HTK.out
                rw [List.take_of_length_le (by rw [H1.out]; exact Nat.le_refl _), List.take_of_length_le (by rw [H2.out]; exact Nat.le_refl _)] at h
                exact h
              have HE := Lib.hid hEq
              clear hEq
              go_wp2_with fail
              go_ret
              exact ⟨true, by simp, by simp; exact HE.out, hOr⟩
        · have d4 : ((m1 : Int) = (m2 : Int)) = False := eq_false (by omega)
          have H1 := Lib.hid hm1
          have H2 := Lib.hid hm2
          clear hm1 hm2
          go_enter Try.func17, Try.ntmps17
          go_wp2_with fail
          go_ret
          exact ⟨false, by simp, by simp; intro h; exact e4 (by rw [← H1.out, ← H2.out, h]), ((Only.refl [] w).alloc _).alloc _⟩
      · have d3 := str_neb e3
        go_enter Try.func17, Try.ntmps17
        go_wp2_with fail
        go_ret
        exact ⟨false, by simp, by simp [e3], ((Only.refl [] w).alloc _).alloc _⟩
    · have d2 := str_neb e2
      go_enter Try.func17, Try.ntmps17
      go_wp2_with fail
      go_ret
      exact ⟨false, by simp, by simp [e2], ((Only.refl [] w).alloc _).alloc _⟩
  · go_enter Try.func17, Try.ntmps17
    go_wp2_with fail
    go_ret
    exact ⟨false, by simp, by simp [e1], ((Only.refl [] w).alloc _).alloc _⟩
end Go.Proofs.Ytfkakhlgcjjlcaa.Keys
