/- Layer 3's law: items laid by the program and by the document. -/
import Derived.Test.YtehekhlajodflaaCodecRef
namespace Go.Proofs.Ytehekhlajodflaa.Codec
open Go.RowKit
set_option linter.unusedVariables false
set_option maxRecDepth 100000

structure Item where
  kind : Int
  n : Int
  s : ByteArray
def Item.row (x : Item) : List Value := [.int .i64 x.kind, .int .i64 x.n, .string x.s]
def dItem : Item := ⟨0, 0, ByteArray.empty⟩
def fewB (l : List Item) : Bool := (l.take 200).all (fun x => decide (x.s.size ≤ 2000)) && decide (l.length ≤ 100)
theorem all_take_succ {α : Type} (f : α → Bool) (l : List α) (d : α) (k : Nat) (h : k < l.length) : (l.take (k + 1)).all f = ((l.take k).all f && f (l.getD k d)) := by
  rw [List.take_succ_eq_append_getElem h, List.all_append, List.getD_eq_getElem?_getD, List.getElem?_eq_getElem h]
  simp
theorem all_false {α : Type} (f : α → Bool) (l : List α) (d : α) (k n : Nat) (h : k < l.length) (hn : k < n) (hf : f (l.getD k d) = false) : (l.take n).all f = false := by
  rw [List.all_eq_false]
  refine ⟨l.getD k d, ?_, by rw [hf]; decide⟩
  rw [List.getD_eq_getElem?_getD, List.getElem?_eq_getElem h]
  exact List.mem_take_iff_getElem.2 ⟨k, by omega, rfl⟩

theorem few_any (A : Option Addr) (m c B : Nat) (its : List Item) (w : World) (hr : Recs w B 3 A m (its.map Item.row)) (hm : m ≤ maxLen) (hsz : ∀ x ∈ its, x.s.size ≤ maxLen) :
    Calls Try.prog 6 #[.slice A m c] w fun e w' => e = .returned (.bool (fewB its)) ∧ w = w' := by
  have hl := hr.1
  rw [List.length_map] at hl
  have HL := Lib.hid hl
  have HSZ := Lib.hid hsz
  clear hl hsz
  unfold maxLen at hm
  go_enter Try.func6, Try.ntmps6
  go_wp2_with fail
  go_loop [3] (fun i => ∃ k : Nat, k ≤ m ∧ k ≤ 200 ∧ i = .int .i64 k ∧ (its.take k).all (fun x => decide (x.s.size ≤ 2000)) = true) (fun i => m - (intOf i).toNat)
  case atStart => exact ⟨0, by omega, by omega, rfl, rfl⟩
  case round =>
    obtain ⟨k, hk, hk2, rfl, hall⟩ := hrel
    have HA := Lib.hid hall
    clear hall
    by_cases hlt : k < m
    · by_cases h200 : k < 200
      · obtain ⟨b, off, rfl, hB, hc⟩ := hr.at_ dItem hlt
        have hkl : k < its.length := by rw [HL.out]; exact hlt
        have hc2 : w.cell? ⟨b, off + k * 3 + 2, none⟩ = some (.string (its.getD k dItem).s) := hc 2 (by omega)
        have hsl : (its.getD k dItem).s.size ≤ maxLen := by
          rw [List.getD_eq_getElem?_getD, List.getElem?_eq_getElem hkl]; exact HSZ.out _ (List.getElem_mem hkl)
        have HS := Lib.hid (all_take_succ (fun x : Item => decide (x.s.size ≤ 2000)) its dItem k hkl)
        have HF := Lib.hid (all_false (fun x : Item => decide (x.s.size ≤ 2000)) its dItem k 200 hkl h200)
        generalize (its.getD k dItem) = x at *
        obtain ⟨q, z, s⟩ := x
        simp only at hc2 hsl HS HF
        unfold maxLen at hsl
        clear hc hkl
        have h1 : decide ((k : Int) < (m : Int)) = true := by simp; omega
        have h2 : decide ((k : Int) < 200) = true := by simp; omega
        by_cases hs : s.size ≤ 2000
        · go_wp2_with fail
          go_round
          case rel => exact ⟨k + 1, by omega, by omega, by go_num, by rw [HS.out, HA.out]; simpa using hs⟩
          case measure => simp [intOf]; omega
        · go_wp2_with fail
          go_ret
          exact ⟨by unfold fewB; rw [HF.out (by simpa using hs)]; rfl, rfl⟩
      · have hk3 : Hid (k = 200) := by unfold Hid; omega
        have h1 : decide ((k : Int) < (m : Int)) = true := by simp; omega
        have h2 : decide ((k : Int) < 200) = false := by simp; omega
        have h3 : decide ((m : Int) ≤ 100) = false := by simp; omega
        go_wp2_with fail
        go_ret
        exact ⟨by unfold fewB; rw [HL.out]; have : decide (m ≤ 100) = false := by { simp; omega }; rw [this]; simp, rfl⟩
    · have hk3 : Hid (k = m) := by unfold Hid; omega
      have h1 : decide ((k : Int) < (m : Int)) = false := by simp; omega
      by_cases h100 : m ≤ 100
      · have h3 : decide ((m : Int) ≤ 100) = true := by simp; omega
        go_wp2_with fail
        go_ret
        refine ⟨?_, rfl⟩
        have e : its.take 200 = its.take k := by rw [List.take_of_length_le (by rw [HL.out]; omega), List.take_of_length_le (by rw [HL.out, hk3.out]; exact Nat.le_refl _)]
        unfold fewB; rw [HL.out, e, HA.out]; simp [h100]
      · have h3 : decide ((m : Int) ≤ 100) = false := by simp; omega
        go_wp2_with fail
        go_ret
        exact ⟨by unfold fewB; rw [HL.out]; have : decide (m ≤ 100) = false := by { simp; omega }; rw [this]; simp, rfl⟩
end Go.Proofs.Ytehekhlajodflaa.Codec
