/- Layer 3's law: a list of items, laid by the program, and by the document. -/
import Derived.Test.YtehekhlajodflaaCodecItems
namespace Go.Proofs.Ytehekhlajodflaa.Codec
open Go.RowKit
set_option linter.unusedVariables false
set_option maxRecDepth 100000

/-- an item's bytes -/
def ib (x : Item) : List UInt8 := if x.kind = 0 then le (u64 x.n) 8 else if x.kind = 1 then le (clamp x.n) 2 else if x.kind = 2 then text x.s else []
def ibs (l : List Item) : List UInt8 := l.flatMap ib
theorem ib_len (x : Item) : (ib x).length ≤ 65537 := by
  unfold ib
  split
  · rw [le_len]; omega
  · split
    · rw [le_len]; omega
    · split
      · rw [text_len]; omega
      · simp
theorem ibs_take (l : List Item) (k : Nat) (h : k < l.length) : ibs (l.take (k + 1)) = ibs (l.take k) ++ ib (l.getD k dItem) := flatMap_take_succ _ l _ k h
theorem ib0 (n : Int) (s : ByteArray) : ib ⟨0, n, s⟩ = le (u64 n) 8 := rfl
theorem ib1 (n : Int) (s : ByteArray) : ib ⟨1, n, s⟩ = le (clamp n) 2 := rfl
theorem ib2 (n : Int) (s : ByteArray) : ib ⟨2, n, s⟩ = text s := rfl
theorem ib3 (q n : Int) (s : ByteArray) (h0 : q ≠ 0) (h1 : q ≠ 1) (h2 : q ≠ 2) : ib ⟨q, n, s⟩ = [] := by unfold ib; simp [h0, h1, h2]

theorem new_ne {w : World} {p n : Nat} {v : Value} {l : List UInt8} (h : Wr w p v n l) : ∀ g ∈ blkOf (some ⟨w.heap.size, 0, none⟩), g ∉ p :: ownL v := by
  intro g hg hm
  simp [blkOf] at hg
  subst hg
  rcases List.mem_cons.1 hm with e | e
  · have := h.blk.lt; omega
  · have := h.own.lt _ e; omega

set_option maxHeartbeats 1000000 in
theorem layl_any (A : Option Addr) (m c B : Nat) (its : List Item) (w : World) (hr : Recs w B 3 A m (its.map Item.row)) (hB : B ≤ w.heap.size) (hm : m ≤ 100) (hsz : ∀ x ∈ its, x.s.size ≤ maxLen) :
    Calls Try.prog 23 #[.slice A m c] w fun e w' => ∃ p v' n', e = .returned (.pointer (some ⟨p, 0, none⟩)) ∧ Wr w' p v' n' (ibs its) ∧ n' ≤ 65537 * m ∧ Only [] w w' ∧ w.heap.size ≤ p := by
  have hl := hr.1
  rw [List.length_map] at hl
  have HL := Lib.hid hl
  have HSZ := Lib.hid hsz
  clear hl hsz
  go_enter Try.func23, Try.ntmps23
  go_wp2_with fail
  go_loopw [4] (fun i wr => ∃ k : Nat, k ≤ m ∧ i = .int .i64 k ∧ ∃ v' n', Wr wr w.heap.size v' n' (ibs (its.take k)) ∧ n' ≤ 65537 * k ∧ Only [] w wr ∧ ∀ g ∈ ownL v', w.heap.size ≤ g) (fun i _ => m - (intOf i).toNat)
  case atStart =>
    refine ⟨0, by omega, rfl, .slice none 0 0, 0, ⟨Blk.new _ _ _, OwnB.nil_ _ _⟩, by omega, (Only.refl [] w).alloc _, by simp [ownL, Value.ownBlock]⟩
  case round =>
    obtain ⟨k, hk, rfl, v1, n1, h1, hn1, ho1, hg1⟩ := hrel
    by_cases hlt : k < m
    · have hkl : k < its.length := by rw [HL.out]; exact hlt
      obtain ⟨b, off, rfl, hbB, hc⟩ := (hr.only ho1 (by simp)).at_ dItem hlt
      have hc0 : wr.cell? ⟨b, off + k * 3, none⟩ = some (.int .i64 (its.getD k dItem).kind) := hc 0 (by omega)
      have hc1 : wr.cell? ⟨b, off + k * 3 + 1, none⟩ = some (.int .i64 (its.getD k dItem).n) := hc 1 (by omega)
      have hc2 : wr.cell? ⟨b, off + k * 3 + 2, none⟩ = some (.string (its.getD k dItem).s) := hc 2 (by omega)
      have HS := Lib.hid (ibs_take its k hkl)
      have hsl : (its.getD k dItem).s.size ≤ maxLen := by
        rw [List.getD_eq_getElem?_getD, List.getElem?_eq_getElem hkl]; exact HSZ.out _ (List.getElem_mem hkl)
      have HI := Lib.hid (ib_len (its.getD k dItem))
      generalize (its.getD k dItem) = x at *
      obtain ⟨q, z, s⟩ := x
      simp only at hc0 hc1 hc2 hsl
      clear hc hkl
      have fin : ∀ (w2 : World) (v2 : Value) (n2 : Nat) (l2 : List UInt8) (o : Obj), Turned (wr.alloc o) w2 w.heap.size v1 v2 → Only [] w w2 ∧ ∀ g ∈ ownL v2, w.heap.size ≤ g := by
        intro w2 v2 n2 l2 o ht
        have hs := ho1.size
        refine ⟨(ho1.alloc o).trans ht.only (fun g hg => .inr ?_), fun g hg => ?_⟩
        · rcases List.mem_cons.1 hg with e | e
          · omega
          · exact hg1 g e
        · rcases ht.fresh g hg with e | e
          · exact hg1 g e
          · simp at e; omega
      have FIN := Lib.hid fin
      clear fin
      have hcase : q = 0 ∨ q = 1 ∨ q = 2 ∨ (q ≠ 0 ∧ q ≠ 1 ∧ q ≠ 2) := by omega
      rcases hcase with rfl | rfl | rfl | ⟨q0, q1, q2⟩
      · have HX := Lib.hid (ib0 z s)
        go_wp2_with fail
        refine (num_any w.heap.size n1 v1 _ _ 1 1 _ [z] _ (h1.only ((Only.refl [] wr).alloc _) (by simp) (by simp)) rfl (Reads.const wr [.int .i64 z] _ _ _ rfl) (new_ne h1) (by omega)).mono ?_
        rintro e w2 ⟨rfl, v2, h2, ht2⟩
        obtain ⟨f1, f2⟩ := FIN.out w2 v2 0 [] _ ht2
        go_wp2_with fail
        go_roundw
        case rel =>
          exact ⟨k + 1, by omega, by go_num, v2, n1 + 8 * 1, by rw [HS.out, HX.out]; simpa [nums] using h2, by omega, f1, f2⟩
        case measure => simp [intOf]; omega
      · have HX := Lib.hid (ib1 z s)
        go_wp2_with fail
        refine (small_any w.heap.size n1 v1 _ _ 1 1 _ [z] _ (h1.only ((Only.refl [] wr).alloc _) (by simp) (by simp)) rfl (Reads.const wr [.int .i64 z] _ _ _ rfl) (new_ne h1) (by omega)).mono ?_
        rintro e w2 ⟨rfl, v2, h2, ht2⟩
        obtain ⟨f1, f2⟩ := FIN.out w2 v2 0 [] _ ht2
        go_wp2_with fail
        go_roundw
        case rel =>
          exact ⟨k + 1, by omega, by go_num, v2, n1 + 2 * 1, by rw [HS.out, HX.out]; simpa [smalls] using h2, by omega, f1, f2⟩
        case measure => simp [intOf]; omega
      · have HX := Lib.hid (ib2 z s)
        go_wp2_with fail
        refine (text_any w.heap.size n1 v1 _ _ 1 1 _ [s] _ (h1.only ((Only.refl [] wr).alloc _) (by simp) (by simp)) rfl (Reads.const wr [.string s] _ _ _ rfl) (new_ne h1) (by simpa using hsl) (by omega)).mono ?_
        rintro e w2 ⟨rfl, v2, n2, h2, ht2⟩
        obtain ⟨f1, f2⟩ := FIN.out w2 v2 0 [] _ ht2
        go_wp2_with fail
        go_roundw
        case rel =>
          have hh : Wr w2 w.heap.size v2 n2 (ibs (its.take (k + 1))) := by rw [HS.out, HX.out]; simpa [texts] using h2
          refine ⟨k + 1, by omega, by go_num, v2, n2, hh, ?_, f1, f2⟩
          have e1 := h2.own.len
          have e2 := h1.own.len
          rw [List.length_append] at e1
          have e3 := text_len s
          have e4 : (texts [s]).length = (text s).length := by simp [texts]
          omega
        case measure => simp [intOf]; omega
      · have HX := Lib.hid (ib3 q z s q0 q1 q2)
        have b0 : (q == 0) = false := by rw [beq_eq_false_iff_ne]; exact q0
        have b1 : (q == 1) = false := by rw [beq_eq_false_iff_ne]; exact q1
        have b2 : (q == 2) = false := by rw [beq_eq_false_iff_ne]; exact q2
        go_wp2_with fail
        go_roundw
        case rel => exact ⟨k + 1, by omega, by go_num, v1, n1, by rw [HS.out, HX.out, List.append_nil]; exact h1, by omega, ho1, hg1⟩
        case measure => simp [intOf]; omega
    · obtain rfl : k = m := by omega
      go_wp2_with fail
      go_ret
      rw [List.take_of_length_le (by rw [HL.out]; exact Nat.le_refl _)] at h1
      exact ⟨w.heap.size, v1, n1, rfl, h1, hn1, ho1, Nat.le_refl _⟩

set_option maxHeartbeats 1000000 in
theorem laid_any (A : Option Addr) (m c B : Nat) (its : List Item) (w : World) (hr : Recs w B 3 A m (its.map Item.row)) (hm : m ≤ 100) (hsz : ∀ x ∈ its, x.s.size ≤ maxLen) :
    Calls Try.prog 25 #[.slice A m c] w fun e w' => ∃ v' n', e = .returned v' ∧ OwnB w' w.heap.size v' n' (ibs its) ∧ n' ≤ 65537 * m ∧ Only [] w w' := by
  have hl := hr.1
  rw [List.length_map] at hl
  have HL := Lib.hid hl
  have HSZ := Lib.hid hsz
  clear hl hsz
  go_enter Try.func25, Try.ntmps25
  go_wp2_with fail
  go_loopw [3, 4] (fun b i wr => ∃ k : Nat, k ≤ m ∧ i = .int .i64 k ∧ ∃ v1 n', v1 = b ∧ OwnB wr w.heap.size v1 n' (ibs (its.take k)) ∧ n' ≤ 65537 * k ∧ Only [] w wr) (fun _ i _ => m - (intOf i).toNat)
  case atStart => exact ⟨0, by omega, rfl, _, 0, rfl, OwnB.nil_ _ _, by omega, Only.refl _ _⟩
  case round =>
    obtain ⟨k, hk, rfl, v1, n1, rfl, h1, hn1, ho1⟩ := hrel
    by_cases hlt : k < m
    · have hkl : k < its.length := by rw [HL.out]; exact hlt
      obtain ⟨b, off, rfl, hbB, hc⟩ := (hr.only ho1 (by simp)).at_ dItem hlt
      have hc0 : wr.cell? ⟨b, off + k * 3, none⟩ = some (.int .i64 (its.getD k dItem).kind) := hc 0 (by omega)
      have hc1 : wr.cell? ⟨b, off + k * 3 + 1, none⟩ = some (.int .i64 (its.getD k dItem).n) := hc 1 (by omega)
      have hc2 : wr.cell? ⟨b, off + k * 3 + 2, none⟩ = some (.string (its.getD k dItem).s) := hc 2 (by omega)
      have HS := Lib.hid (ibs_take its k hkl)
      have hsl : (its.getD k dItem).s.size ≤ maxLen := by
        rw [List.getD_eq_getElem?_getD, List.getElem?_eq_getElem hkl]; exact HSZ.out _ (List.getElem_mem hkl)
      generalize (its.getD k dItem) = x at *
      obtain ⟨q, z, s⟩ := x
      simp only at hc0 hc1 hc2 hsl
      clear hc hkl
      have hs1 := ho1.size
      have FIN := Lib.hid (show ∀ (w2 : World) (v2 : Value) (n2 : Nat) (l2 : List UInt8), Ext wr w2 w.heap.size v1 v2 n2 l2 → Only [] w w2 from fun w2 v2 n2 l2 he => ho1.trans he.only (fun g hg => .inr (h1.lt g hg).1))
      have hcase : q = 0 ∨ q = 1 ∨ q = 2 ∨ (q ≠ 0 ∧ q ≠ 1 ∧ q ≠ 2) := by omega
      rcases hcase with rfl | rfl | rfl | ⟨q0, q1, q2⟩
      · have HX := Lib.hid (ib0 z s)
        go_wp2_with fail
        refine (ref_num v1 n1 _ _ z _ h1 hs1 (by omega)).mono ?_
        rintro e w2 ⟨v2, rfl, he⟩
        go_wp2_with fail
        go_roundw
        case rel => exact ⟨k + 1, by omega, by go_num, _, _, rfl, by rw [HS.out, HX.out]; exact he.own, by omega, FIN.out _ _ _ _ he⟩
        case measure => simp [intOf]; omega
      · have HX := Lib.hid (ib1 z s)
        go_wp2_with fail
        refine (ref_small v1 n1 _ _ z _ h1 hs1 (by omega)).mono ?_
        rintro e w2 ⟨v2, rfl, he⟩
        go_wp2_with fail
        go_roundw
        case rel => exact ⟨k + 1, by omega, by go_num, _, _, rfl, by rw [HS.out, HX.out]; exact he.own, by omega, FIN.out _ _ _ _ he⟩
        case measure => simp [intOf]; omega
      · have HX := Lib.hid (ib2 z s)
        have HT := Lib.hid (text_len s)
        go_wp2_with fail
        refine (ref_text v1 n1 _ _ s _ h1 hs1 hsl (by omega)).mono ?_
        rintro e w2 ⟨v2, rfl, he⟩
        go_wp2_with fail
        go_roundw
        case rel => exact ⟨k + 1, by omega, by go_num, _, _, rfl, by rw [HS.out, HX.out]; exact he.own, by rw [HT.out]; omega, FIN.out _ _ _ _ he⟩
        case measure => simp [intOf]; omega
      · have HX := Lib.hid (ib3 q z s q0 q1 q2)
        have b0 : (q == 0) = false := by rw [beq_eq_false_iff_ne]; exact q0
        have b1 : (q == 1) = false := by rw [beq_eq_false_iff_ne]; exact q1
        have b2 : (q == 2) = false := by rw [beq_eq_false_iff_ne]; exact q2
        go_wp2_with fail
        go_roundw
        case rel => exact ⟨k + 1, by omega, by go_num, _, n1, rfl, by rw [HS.out, HX.out, List.append_nil]; exact h1, by omega, ho1⟩
        case measure => simp [intOf]; omega
    · obtain rfl : k = m := by omega
      go_wp2_with fail
      go_ret
      rw [List.take_of_length_le (by rw [HL.out]; exact Nat.le_refl _)] at h1
      exact ⟨_, n1, rfl, h1, hn1, ho1⟩
end Go.Proofs.Ytehekhlajodflaa.Codec
