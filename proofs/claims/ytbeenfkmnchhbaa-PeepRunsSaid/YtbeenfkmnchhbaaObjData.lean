/- Code and names as they lie; slices.Index and Contains over numbers. -/
import Derived.Test.YtbeenfkmnchhbaaObjWord
import Derived.Test.YtbeenfkmnchhbaaRecs
namespace Go.Proofs.Ytbeenfkmnchhbaa.Object
open Go.RowKit
set_option linter.unusedVariables false
set_option maxRecDepth 100000
/-- a name, and where -/
structure En where
  name : ByteArray
  pos : Int
deriving DecidableEq
def En.row (x : En) : List Value := [.string x.name, .int .i64 x.pos]
/-- a call: where, and the name -/
def En.rowC (x : En) : List Value := [.int .i64 x.pos, .string x.name]
def cd0 : Cd := ⟨0, 0, 0, 0, 0⟩
def en0 : En := ⟨⟨#[]⟩, 0⟩
theorem cd_at {w : World} {B m : Nat} {A : Option Addr} {cs : List Cd} (hr : Recs w B 5 A m (cs.map Cd.row)) (k : Nat) (hk : k < m) : ∃ b off, A = some ⟨b, off, none⟩ ∧ b < B ∧ ∃ c ∈ cs, cs[k]? = some c ∧
    w.cell? ⟨b, off + k * 5, none⟩ = some (.int .i64 c.op) ∧ w.cell? ⟨b, off + k * 5 + 1, none⟩ = some (.int .i64 c.a) ∧ w.cell? ⟨b, off + k * 5 + 2, none⟩ = some (.int .i64 c.b) ∧ w.cell? ⟨b, off + k * 5 + 3, none⟩ = some (.int .i64 c.c) ∧ w.cell? ⟨b, off + k * 5 + 4, none⟩ = some (.int .i64 c.n) := by
  have hl : cs.length = m := by simpa using hr.1
  obtain ⟨b, off, e, hb, hc⟩ := hr.at_ cd0 hk
  have hg : cs.getD k cd0 = cs[k] := by rw [List.getD_eq_getElem?_getD, List.getElem?_eq_getElem (by omega)]; rfl
  refine ⟨b, off, e, hb, cs[k], List.getElem_mem (by omega), List.getElem?_eq_getElem (by omega), ?_⟩
  rw [hg] at hc
  exact ⟨hc 0 (by omega), hc 1 (by omega), hc 2 (by omega), hc 3 (by omega), hc 4 (by omega)⟩
theorem en_at {w : World} {B m : Nat} {A : Option Addr} {cs : List En} (hr : Recs w B 2 A m (cs.map En.row)) (k : Nat) (hk : k < m) : ∃ b off, A = some ⟨b, off, none⟩ ∧ b < B ∧ ∃ c ∈ cs, cs[k]? = some c ∧
    w.cell? ⟨b, off + k * 2, none⟩ = some (.string c.name) ∧ w.cell? ⟨b, off + k * 2 + 1, none⟩ = some (.int .i64 c.pos) := by
  have hl : cs.length = m := by simpa using hr.1
  obtain ⟨b, off, e, hb, hc⟩ := hr.at_ en0 hk
  have hg : cs.getD k en0 = cs[k] := by rw [List.getD_eq_getElem?_getD, List.getElem?_eq_getElem (by omega)]; rfl
  refine ⟨b, off, e, hb, cs[k], List.getElem_mem (by omega), List.getElem?_eq_getElem (by omega), ?_⟩
  rw [hg] at hc
  exact ⟨hc 0 (by omega), hc 1 (by omega)⟩
theorem cl_at {w : World} {B m : Nat} {A : Option Addr} {cs : List En} (hr : Recs w B 2 A m (cs.map En.rowC)) (k : Nat) (hk : k < m) : ∃ b off, A = some ⟨b, off, none⟩ ∧ b < B ∧ ∃ c ∈ cs, cs[k]? = some c ∧
    w.cell? ⟨b, off + k * 2, none⟩ = some (.int .i64 c.pos) ∧ w.cell? ⟨b, off + k * 2 + 1, none⟩ = some (.string c.name) := by
  have hl : cs.length = m := by simpa using hr.1
  obtain ⟨b, off, e, hb, hc⟩ := hr.at_ en0 hk
  have hg : cs.getD k en0 = cs[k] := by rw [List.getD_eq_getElem?_getD, List.getElem?_eq_getElem (by omega)]; rfl
  refine ⟨b, off, e, hb, cs[k], List.getElem_mem (by omega), List.getElem?_eq_getElem (by omega), ?_⟩
  rw [hg] at hc
  exact ⟨hc 0 (by omega), hc 1 (by omega)⟩
theorem all_snoc {α : Type} (f : α → Bool) (l : List α) (k : Nat) (x : α) (h : l[k]? = some x) : (l.take (k + 1)).all f = ((l.take k).all f && f x) := by
  obtain ⟨hk, rfl⟩ := List.getElem?_eq_some_iff.1 h
  rw [List.take_succ_eq_append_getElem hk, List.all_append]
  simp
theorem all_no {α : Type} (f : α → Bool) (l : List α) (x : α) (h : x ∈ l) (hf : f x = false) : l.all f = false := by
  rw [List.all_eq_false]
  exact ⟨x, h, by simp [hf]⟩
theorem take_all {α : Type} (l : List α) (k : Nat) (h : l.length = k) : l.take k = l := List.take_of_length_le (by omega)
set_option maxHeartbeats 400000 in
theorem index_int (A : Option Addr) (n c B : Nat) (zs : List Int) (z : Int) (w : World) (hr : Reads w B 1 A n (zs.map (Value.int .i64))) (hn : n ≤ 9000000000000000000) :
    Calls Try.prog 151 #[.slice A n c, .int .i64 z] w fun x w' => ∃ i : Int, x = .returned (.int .i64 i) ∧ (0 ≤ i ↔ z ∈ zs) ∧ w = w' := by
  have hl : zs.length = n := by have := hr.1; simpa using this
  have HL := Lib.hid hl
  clear hl
  go_enter Try.func151, Try.ntmps151
  go_wp2_with fail
  go_loop [8] (fun i => ∃ k : Nat, k ≤ n ∧ i = .int .i64 k ∧ z ∉ zs.take k) (fun i => n - (intOf i).toNat)
  case atStart => exact ⟨0, by omega, rfl, by simp⟩
  case round =>
    obtain ⟨k, hk, rfl, hz⟩ := hrel
    by_cases hlt : k < n
    · have e1 : decide ((k : Int) < (n : Int)) = true := decide_eq_true (by omega)
      obtain ⟨b, off, rfl, hb, hc⟩ := hr.at1 hlt
      have hkl : k < zs.length := by rw [HL.out]; exact hlt
      rw [List.getElem?_map, List.getElem?_eq_getElem hkl] at hc
      have hm : zs[k] ∈ zs := List.getElem_mem hkl
      have hs : z ≠ zs[k] → z ∉ zs.take (k + 1) := fun h hm => by
        rw [List.take_succ_eq_append_getElem hkl] at hm
        rcases List.mem_append.1 hm with hm | hm
        · exact hz hm
        · exact h (List.mem_singleton.1 hm)
      generalize zs[k] = y at *
      have HZ := Lib.hid hs
      have HM := Lib.hid hm
      have hc : w.cell? ⟨b, off + k, none⟩ = some (.int .i64 y) := hc
      clear hz hs hm
      by_cases hy : z = y
      · subst hy
        go_wp2_with fail
        go_ret
        exact ⟨_, rfl, ⟨fun _ => HM.out, fun _ => by omega⟩, rfl⟩
      · have e2 : (z == y) = false := by simp [hy]
        have HY := Lib.hid hy
        clear hy
        go_wp2_with fail
        go_round
        case rel => exact ⟨k + 1, by omega, by go_num, HZ.out HY.out⟩
        case measure => simp [intOf]; omega
    · obtain rfl : k = n := by omega
      have e1 : decide ((k : Int) < (k : Int)) = false := decide_eq_false (by omega)
      rw [take_all _ _ HL.out] at hz
      have HZ := Lib.hid hz
      clear hz
      go_wp2_with fail
      go_ret
      exact ⟨_, rfl, ⟨fun h => by omega, fun h => absurd h HZ.out⟩, rfl⟩
theorem contains_int (A : Option Addr) (n c B : Nat) (zs : List Int) (z : Int) (w : World) (hr : Reads w B 1 A n (zs.map (Value.int .i64))) (hn : n ≤ 9000000000000000000) :
    Calls Try.prog 132 #[.slice A n c, .int .i64 z] w fun x w' => x = .returned (.bool (decide (z ∈ zs))) ∧ w = w' := by
  have HI := Lib.hid (index_int A n c B zs z w hr hn)
  clear hr hn
  go_enter Try.func132, Try.ntmps132
  go_wp2_with fail
  refine HI.out.mono ?_
  rintro _ wx ⟨i, rfl, hi, rfl⟩
  have HD : Hid (decide (0 ≤ i) = decide (z ∈ zs)) := Lib.hid (decide_eq_decide.2 hi)
  clear hi HI
  go_wp2_with fail
  go_ret
  exact ⟨by rw [← HD.out]; rfl, rfl⟩
end Go.Proofs.Ytbeenfkmnchhbaa.Object
