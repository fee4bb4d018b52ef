/- What the laws of objects begin with: Light, knows. -/
import Derived.Test.YtbeenfkmnchhbaaObjMath
import Derived.Test.YtbeenfkmnchhbaaObjEncode
import Derived.Test.YtbeenfkmnchhbaaObjSame2
namespace Go.Proofs.Ytbeenfkmnchhbaa.Object
open Go.RowKit Codec
set_option linter.unusedVariables false
set_option maxRecDepth 100000
theorem num_is (z : Int) (w : World) : Calls Try.prog 40 #[.int .i64 z] w fun x w' => x = .returned (.int .i64 z) ∧ w = w' := by
  go_enter Try.func40, Try.ntmps40
  go_wp2_with fail
  go_ret
  exact ⟨rfl, rfl⟩
def lightOut (o : Ob) (most : Nat) (w : World) (x : Ending) (w' : World) : Prop := ∃ b, x = .returned (.bool b) ∧ (b = true → o.m1 ≤ most ∧ o.m2 ≤ 100 ∧ o.m3 ≤ 200) ∧ Only [] w w'
theorem light_no {o : Ob} {most : Nat} {w w' : World} (ho : Only [] w w') : lightOut o most w (.returned (.bool false)) w' := ⟨false, rfl, (by intro h; cases h), ho⟩
theorem light_of {o : Ob} {most : Nat} {w w' : World} {b : Bool} (ho : Only [] w w') (h1 : o.m1 ≤ most) (h2 : o.m2 ≤ 100) (h3 : o.m3 ≤ 200) : lightOut o most w (.returned (.bool b)) w' := ⟨b, rfl, (fun _ => ⟨h1, h2, h3⟩), ho⟩
set_option maxHeartbeats 2000000 in
theorem light_any (o : Ob) (d : OD) (most : Nat) (w : World) (h : IsOb w o d) :
    Calls Try.prog 34 #[o.val, .int .i64 (most : Int)] w (lightOut o most w) := by
  have HH := Lib.hid h
  have N2 := Lib.hid h.n2
  have N3 := Lib.hid h.n3
  have hsz : ∀ s : ByteArray, (0 : Int) ≤ (s.size : Int) := fun s => by omega
  clear h
  obtain ⟨A1, m1, p1, A2, m2, p2, A3, m3, p3⟩ := o
  unfold Ob.val
  simp only at N2 N3 ⊢
  have HB := Lib.hid (Blk.new w 57 #[.slice A1 m1 p1, .slice A2 m2 p2, .slice A3 m3 p3])
  have HO := Lib.hid ((Only.refl [] w).alloc (.cells #[.slice A1 m1 p1, .slice A2 m2 p2, .slice A3 m3 p3] 57))
  by_cases h1 : m1 ≤ most
  · have d1 : decide (most < m1) = false := decide_eq_false (by omega)
    by_cases h2 : m2 ≤ 100
    · have d2 : decide ((100 : Int) < (m2 : Int)) = false := decide_eq_false (by omega)
      by_cases h3 : m3 ≤ 200
      · have d3 : decide ((200 : Int) < (m3 : Int)) = false := decide_eq_false (by omega)
        go_enter Try.func34, Try.ntmps34
        go_wp2_with fail
        obtain ⟨W, hW⟩ : ∃ W, (w.alloc (.cells #[.slice A1 m1 p1, .slice A2 m2 p2, .slice A3 m3 p3] 57)) = W := ⟨_, rfl⟩
        rw [hW] at HB HO ⊢
        clear hW
        have b1 : W.cell? ⟨w.heap.size, 1, none⟩ = some (.slice A2 m2 p2) := HB.out.cell 1
        have b2 : W.cell? ⟨w.heap.size, 2, none⟩ = some (.slice A3 m3 p3) := HB.out.cell 2
        go_loop [5, 6] (fun v i => ∃ (k : Nat) (z : Int), k ≤ m2 ∧ i = .int .i64 k ∧ v = .int .i64 z) (fun _ i => m2 - (intOf i).toNat)
        case atStart => exact ⟨0, 0, by omega, rfl, rfl⟩
        case round =>
          obtain ⟨k, z, hk, rfl, rfl⟩ := hrel
          by_cases hlt : k < m2
          · have e1 : decide ((k : Int) < (m2 : Int)) = true := decide_eq_true (by omega)
            obtain ⟨b, off, hA, hb, c, hmem, hck, c0, c1⟩ := en_at HH.out.ents k hlt
            simp only at hA
            subst hA
            have x0 := HO.out.cell c0 (by simp)
            clear c0 c1 hmem hck
            go_wp2_with fail
            all_goals
              go_round
              case rel => exact ⟨k + 1, _, by omega, by go_num, rfl⟩
              case measure => simp [intOf]; omega
          · obtain rfl : k = m2 := by omega
            have e1 : decide ((k : Int) < (k : Int)) = false := decide_eq_false (by omega)
            go_wp2_with fail
            go_loop [5, 7] (fun v i => ∃ (k : Nat) (z : Int), k ≤ m3 ∧ i = .int .i64 k ∧ v = .int .i64 z) (fun _ i => m3 - (intOf i).toNat)
            case atStart => exact ⟨0, z, by omega, rfl, rfl⟩
            case round =>
              clear e1 hlt
              obtain ⟨j, y, hj, rfl, rfl⟩ := hrel
              by_cases hlt : j < m3
              · have e1 : decide ((j : Int) < (m3 : Int)) = true := decide_eq_true (by omega)
                obtain ⟨b, off, hA, hb, c, hmem, hck, c0, c1⟩ := cl_at HH.out.calls j hlt
                simp only at hA
                subst hA
                have x0 := HO.out.cell c1 (by simp)
                clear c0 c1 hmem hck
                go_wp2_with fail
                all_goals
                  go_round
                  case rel => exact ⟨j + 1, _, by omega, by go_num, rfl⟩
                  case measure => simp [intOf]; omega
              · obtain rfl : j = m3 := by omega
                have e1 : decide ((j : Int) < (j : Int)) = false := decide_eq_false (by omega)
                go_wp2_with fail
                go_ret
                exact light_of HO.out h1 h2 h3
      · have d3 : decide ((200 : Int) < (m3 : Int)) = true := decide_eq_true (by omega)
        clear h3
        go_enter Try.func34, Try.ntmps34
        go_wp2_with fail
        go_ret
        exact light_no HO.out
    · have d2 : decide ((100 : Int) < (m2 : Int)) = true := decide_eq_true (by omega)
      clear h2
      go_enter Try.func34, Try.ntmps34
      go_wp2_with fail
      go_ret
      exact light_no HO.out
  · have d1 : decide (most < m1) = true := decide_eq_true (by omega)
    clear h1
    go_enter Try.func34, Try.ntmps34
    go_wp2_with fail
    go_ret
    exact light_no HO.out
/-- the object that knows encodes -/
def dK : OD := ⟨[⟨18, -1, 0, 0, 0⟩, ⟨21, 0, 0, 0, 0⟩], [⟨⟨#[112, 46, 102]⟩, 0⟩], [⟨⟨#[112, 46, 103]⟩, 0⟩]⟩
theorem right_od0 : objRight od0 = true := by decide +kernel
theorem right_dK : objRight dK = true := by decide +kernel
theorem lay_od0 : layO od0 = [0, 0, 0, 0, 0, 0] := by decide +kernel
theorem len_dK : (layO dK).length ≤ 1048576 := by decide +kernel
theorem in_dK : In64 dK := ⟨by intro c hc; simp [dK] at hc; rcases hc with rfl | rfl <;> (unfold in64; simp), by intro c hc; simp [dK] at hc; subst hc; unfold in64; simp, by intro c hc; simp [dK] at hc; subst hc; unfold in64; simp⟩
theorem decOut_open {l : List UInt8} {w w' : World} {x : Ending} (h : decOut l w x w') : ∃ (A1 : Option Addr) (m1 p1 : Nat) (A2 : Option Addr) (m2 p2 : Nat) (A3 : Option Addr) (m3 p3 : Nat),
    x = .returned (.tuple #[.agg #[.slice A1 m1 p1, .slice A2 m2 p2, .slice A3 m3 p3], .int .i64 (if (dec l).isSome = true then 0 else 5)]) ∧ IsOb w' ⟨A1, m1, p1, A2, m2, p2, A3, m3, p3⟩ ((dec l).getD od0) ∧ m1 ≤ 40000 ∧ m2 ≤ 40000 ∧ m3 ≤ 40000 ∧ Only [] w w' := by
  obtain ⟨⟨A1, m1, p1, A2, m2, p2, A3, m3, p3⟩, hx, hi, h1, h2, h3, ho⟩ := h
  exact ⟨A1, m1, p1, A2, m2, p2, A3, m3, p3, hx, hi, h1, h2, h3, ho⟩
def kCode : Array Value := #[.int .i64 18, .int .i64 (-1), .int .i64 0, .int .i64 0, .int .i64 0, .int .i64 21, .int .i64 0, .int .i64 0, .int .i64 0, .int .i64 0]
theorem isOb_dK (w : World) : IsOb (((w.alloc (.cells #[.int .i64 18, .int .i64 (-1), .int .i64 0, .int .i64 0, .int .i64 0, .int .i64 21, .int .i64 0, .int .i64 0, .int .i64 0, .int .i64 0] 59)).alloc (.cells #[.string ⟨#[112, 46, 102]⟩, .int .i64 0] 73)).alloc (.cells #[.int .i64 0, .string ⟨#[112, 46, 103]⟩] 75))
    ⟨some ⟨w.heap.size, 0, none⟩, 2, 2, some ⟨w.heap.size + 1, 0, none⟩, 1, 1, some ⟨w.heap.size + 1 + 1, 0, none⟩, 1, 1⟩ dK := by
  have h1 := ((Blk.new w 59 #[.int .i64 18, .int .i64 (-1), .int .i64 0, .int .i64 0, .int .i64 0, .int .i64 21, .int .i64 0, .int .i64 0, .int .i64 0, .int .i64 0]).alloc (.cells #[.string ⟨#[112, 46, 102]⟩, .int .i64 0] 73)).alloc (.cells #[.int .i64 0, .string ⟨#[112, 46, 103]⟩] 75)
  have h2 := (Blk.new (w.alloc (.cells #[.int .i64 18, .int .i64 (-1), .int .i64 0, .int .i64 0, .int .i64 0, .int .i64 21, .int .i64 0, .int .i64 0, .int .i64 0, .int .i64 0] 59)) 73 #[.string ⟨#[112, 46, 102]⟩, .int .i64 0]).alloc (.cells #[.int .i64 0, .string ⟨#[112, 46, 103]⟩] 75)
  have h3 := Blk.new ((w.alloc (.cells #[.int .i64 18, .int .i64 (-1), .int .i64 0, .int .i64 0, .int .i64 0, .int .i64 21, .int .i64 0, .int .i64 0, .int .i64 0, .int .i64 0] 59)).alloc (.cells #[.string ⟨#[112, 46, 102]⟩, .int .i64 0] 73)) 75 #[.int .i64 0, .string ⟨#[112, 46, 103]⟩]
  rw [World.size_alloc] at h2
  rw [World.size_alloc, World.size_alloc] at h3
  refine ⟨⟨rfl, fun _ => ⟨_, _, rfl, by simp <;> omega, fun i hi j hj => ?_⟩⟩, ⟨rfl, fun _ => ⟨_, _, rfl, by simp <;> omega, fun i hi j hj => ?_⟩⟩, ⟨rfl, fun _ => ⟨_, _, rfl, by simp <;> omega, fun i hi j hj => ?_⟩⟩, by simp [maxLen], by simp [maxLen], by simp [maxLen]⟩
  · rw [h1.cell]
    have hi : i < 2 := hi
    obtain rfl | rfl : i = 0 ∨ i = 1 := by omega
    all_goals
      obtain rfl | rfl | rfl | rfl | rfl : j = 0 ∨ j = 1 ∨ j = 2 ∨ j = 3 ∨ j = 4 := by omega
    all_goals exact ⟨rfl, rfl⟩
  · rw [h2.cell]
    have hi : i < 1 := hi
    obtain rfl : i = 0 := by omega
    obtain rfl | rfl : j = 0 ∨ j = 1 := by omega
    all_goals exact ⟨rfl, rfl⟩
  · rw [h3.cell]
    have hi : i < 1 := hi
    obtain rfl : i = 0 := by omega
    obtain rfl | rfl : j = 0 ∨ j = 1 := by omega
    all_goals exact ⟨rfl, rfl⟩
end Go.Proofs.Ytbeenfkmnchhbaa.Object
