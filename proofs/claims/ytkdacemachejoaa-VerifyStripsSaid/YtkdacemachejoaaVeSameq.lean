/- Outcomes compared. -/
import Derived.Test.YtkdacemachejoaaKnowsA
import Derived.Test.YtkdacemachejoaaRunA
namespace Go.Proofs.Ytkdacemachejoaa.Vm
open Go.RowKit Go.Shelf Go.Maps Object
set_option linter.unusedVariables false
set_option maxRecDepth 100000
theorem irows_flat (L : List Int) : (irows L).flatten = L.map iv := by
  induction L with
  | nil => rfl
  | cons a L ih =>
    unfold irows at *
    simp only [List.map_cons, List.flatten_cons, ih]
    rfl
/-- numbers, to be read -/
def Il (w : World) (A : Option Addr) (n : Nat) (L : List Int) : Prop := Reads w w.heap.size 1 A n (L.map iv)
theorem il_of {w : World} {base n : Nat} {v : Value} {L : List Int} (h : OwnR 2 1 w base v n (irows L)) : ∃ A c, v = .slice A n c ∧ Il w A n L ∧ (∀ g ∈ blkOf A, base ≤ g ∧ g < w.heap.size) ∧ n ≤ maxLen := by
  obtain ⟨A, c, rfl, hc, hm, _, _⟩ := h.shape (by decide)
  have hr := Reads.of_own h.own
  rw [irows_flat] at hr
  refine ⟨A, c, rfl, hr, fun g hg => h.lt g ?_, by omega⟩
  cases A with
  | none => simp [blkOf] at hg
  | some a => simpa [blkOf, ownL, Value.ownBlock] using hg
theorem Il.only0 {w w' : World} {A : Option Addr} {n : Nat} {L : List Int} (h : Il w A n L) (ho : Only [] w w') : Il w' A n L := (Reads.only h ho (by simp)).more ho.size
theorem Il.at_ {w : World} {A : Option Addr} {n : Nat} {L : List Int} (h : Il w A n L) {j : Nat} (hj : j < n) : ∃ b off t, A = some ⟨b, off, none⟩ ∧ L[j]? = some t ∧ w.cell? ⟨b, off + j, none⟩ = some (.int .i64 t) := by
  have hl : L.length = n := by have := h.1; simpa using this
  obtain ⟨b, off, hA, _, hc⟩ := Reads.at1 h hj
  rw [List.getElem?_map, List.getElem?_eq_getElem (by omega)] at hc
  exact ⟨b, off, L[j], hA, List.getElem?_eq_getElem (by omega), hc⟩
set_option maxHeartbeats 4000000 in
theorem same_any (A1 A2 : Option Addr) (n c1 c2 : Nat) (en : Int) (L : List Int) (w : World) (h1 : Il w A1 n L) (h2 : Il w A2 n L) (hn : n ≤ maxLen) :
    Calls Try.prog 11 #[.agg #[.slice A1 n c1, .int .i64 en], .agg #[.slice A2 n c2, .int .i64 en]] w fun y w' => y = .returned (.bool true) ∧ Only [] w w' := by
  obtain ⟨w1, hw1⟩ : ∃ w1, w.alloc (.cells #[.slice A1 n c1, .int .i64 en] 30) = w1 := ⟨_, rfl⟩
  have b1 : Blk w1 w.heap.size 30 #[.slice A1 n c1, .int .i64 en] := by rw [← hw1]; exact Blk.new w _ _
  have o1 : Only [] w w1 := by rw [← hw1]; exact (Only.refl [] w).alloc _
  obtain ⟨w2, hw2⟩ : ∃ w2, w1.alloc (.cells #[.slice A2 n c2, .int .i64 en] 30) = w2 := ⟨_, rfl⟩
  have b2 : Blk w2 w1.heap.size 30 #[.slice A2 n c2, .int .i64 en] := by rw [← hw2]; exact Blk.new w1 _ _
  have o2 : Only [] w1 w2 := by rw [← hw2]; exact (Only.refl [] w1).alloc _
  have b12 := b1.only o2 (by simp)
  have HO := Lib.hid (o1.trans o2 (by simp))
  have HB := Lib.hid (And.intro b12 b2)
  have H1 := Lib.hid (h1.only0 HO.out)
  have H2 := Lib.hid (h2.only0 HO.out)
  have HN := Lib.hid hn
  have p0 : w2.cell? ⟨w.heap.size, 0, none⟩ = some (.slice A1 n c1) := b12.cell 0
  have p1 : w2.cell? ⟨w.heap.size, 1, none⟩ = some (.int .i64 en) := b12.cell 1
  have q0 : w2.cell? ⟨w1.heap.size, 0, none⟩ = some (.slice A2 n c2) := b2.cell 0
  have q1 : w2.cell? ⟨w1.heap.size, 1, none⟩ = some (.int .i64 en) := b2.cell 1
  have e1 : (en != en) = false := by simp
  have e2 : ((n : Int) != (n : Int)) = false := by simp
  clear h1 h2 hn b1 b2 o1 o2 b12
  go_enter Try.func11, Try.ntmps11
  go_wp2_with fail
  clear hw1 hw2 p0 p1 q0 q1 e1 e2
  go_loopw [5] (fun i wr => ∃ k : Nat, i = .int .i64 (k : Int) ∧ k ≤ n ∧ Only [] w2 wr) (fun i _ => n - (intOf i).toNat)
  case atStart => exact ⟨0, rfl, by omega, Only.refl _ _⟩
  case round =>
    obtain ⟨k, rfl, hk, ho⟩ := hrel
    have p0 : wr.cell? ⟨w.heap.size, 0, none⟩ = some (.slice A1 n c1) := (HB.out.1.only ho (by simp)).cell 0
    have q0 : wr.cell? ⟨w1.heap.size, 0, none⟩ = some (.slice A2 n c2) := (HB.out.2.only ho (by simp)).cell 0
    have HO2 := Lib.hid ho
    by_cases hlt : k < n
    · have d1 : decide ((k : Int) < (n : Int)) = true := decide_eq_true (by omega)
      have d1' : decide (k < n) = true := decide_eq_true hlt
      obtain ⟨b1, o1, t, rfl, g1, r1⟩ := (H1.out.only0 ho).at_ hlt
      obtain ⟨b2, o2, t2, rfl, g2, r2⟩ := (H2.out.only0 ho).at_ hlt
      obtain rfl : t = t2 := by rw [g1] at g2; exact Option.some.inj g2
      have e5 : (t != t) = false := by simp
      have hw : wrap64 ((k : Int) + 1) = ((k + 1 : Nat) : Int) := by
        have h5 : (n : Int) ≤ 9223372036854775807 := by have := HN.out; unfold maxLen at this; omega
        unfold wrap64
        omega
      have HW := Lib.hid hw
      clear hw g1 g2 ho hk
      go_wp2_with fail
      go_region
      go_wp2_with fail
      go_roundw
      case measure => rw [HW.out]; simp [intOf]; omega
      case rel => exact ⟨k + 1, by rw [HW.out], hlt, HO2.out.drew⟩
    · obtain rfl : k = n := by omega
      have d1 : decide ((k : Int) < (k : Int)) = false := decide_eq_false (by omega)
      clear ho hk hlt
      go_wp2_with fail
      go_ret
      exact ⟨rfl, HO.out.trans HO2.out (by simp)⟩
theorem num_any (e : Int) (w : World) : Calls Try.prog 10 #[.int .i64 e] w fun y w' => y = .returned (.int .i64 e) ∧ w' = w := by
  go_enter Try.func10, Try.ntmps10
  go_wp2_with fail
  go_ret
  exact ⟨rfl, rfl⟩
end Go.Proofs.Ytkdacemachejoaa.Vm
