/- The disk's small functions walk. -/
import Derived.Test.YtgbicimbggdpgaaDiskKit
import Derived.Lib.SliceRun
namespace Go.Proofs.Ytgbicimbggdpgaa.Disk
open Go.RowKit Go.Maps
set_option linter.unusedVariables false
set_option maxRecDepth 100000
theorem equalIn_map {P : Program} (w : World) (n : Nat) (t k e : TypeId) (p : Option Nat) (h : P.underlying t = some (.map k e)) : (Op.equalIn (n + 1) t (.map p) (.map none)).run P w = .ok p.isNone w := by
  cases p <;> simp [Op.equalIn, run_underlying h]
theorem eql_map_of {P : Program} (w : World) (t k e : TypeId) (p : Option Nat) (h : P.underlying t = some (.map k e)) : (binOp .eql t (.map p) (.map none)).run P w = .ok (.bool p.isNone) w := by
  have h2 : Op.equal t (.map p) (.map none) = Op.equalIn (9999 + 1) t (.map p) (.map none) := rfl
  simp only [binOp]
  simp [h2, equalIn_map w 9999 t k e p h]
theorem eql_map (p : Option Nat) (w : World) : (binOp .eql 45 (.map p) (.map none)).run Try.prog w = .ok (.bool p.isNone) w := eql_map_of w _ _ _ p Try.underlying45
theorem none_nil (w : World) : Calls Try.prog 17 #[.pointer none] w fun x w' => x = .returned (.bool true) ∧ w' = w := by
  go_enter Try.func17, Try.ntmps17
  go_wp2_with fail
  go_ret
  exact ⟨rfl, rfl⟩
theorem none_zero (w : World) (p : Nat) (h : w.cell? ⟨p, 4, none⟩ = some (.map none)) : Calls Try.prog 17 #[.pointer (some ⟨p, 0, none⟩)] w fun x w' => x = .returned (.bool true) ∧ w' = w := by
  have hq := eql_map none w
  go_enter Try.func17, Try.ntmps17
  go_wp2_with fail
  go_ret
  exact ⟨rfl, rfl⟩
theorem none_some (w : World) (p b : Nat) (h : w.cell? ⟨p, 4, none⟩ = some (.map (some b))) : Calls Try.prog 17 #[.pointer (some ⟨p, 0, none⟩)] w fun x w' => x = .returned (.bool false) ∧ w' = w := by
  have hq := eql_map (some b) w
  go_enter Try.func17, Try.ntmps17
  go_wp2_with fail
  go_ret
  exact ⟨rfl, rfl⟩
section
variable {w : World} {p g b cap : Nat} {W : List Nat} {d : DS}
theorem none_is (h : IsD w p g b W cap d) : Calls Try.prog 17 #[.pointer (some ⟨p, 0, none⟩)] w fun x w' => x = .returned (.bool false) ∧ w' = w := none_some w p b (h.blk.cell 4)
theorem sectors_any (h : IsD w p g b W cap d) : Calls Try.prog 14 #[.pointer (some ⟨p, 0, none⟩)] w fun x w' => x = .returned (.int .i64 d.n) ∧ w' = w := by
  have HN := Lib.hid (none_is h)
  have c3 := h.blk.cell 3
  obtain ⟨n0, n1⟩ := h.n0
  obtain ⟨n, hn⟩ : ∃ n, d.n = n := ⟨_, rfl⟩
  rw [hn] at c3 n0 n1 ⊢
  clear h hn
  go_enter Try.func14, Try.ntmps14
  go_wp2_with (go_at_call 17; refine HN.out.mono ?_; rintro x w2 ⟨rfl, rfl⟩)
  go_ret
  exact ⟨by congr 2 <;> omega, rfl⟩
theorem sectors_nil (w : World) : Calls Try.prog 14 #[.pointer none] w fun x w' => x = .returned (.int .i64 0) ∧ w' = w := by
  have HN := Lib.hid (none_nil w)
  go_enter Try.func14, Try.ntmps14
  go_wp2_with (go_at_call 17; refine HN.out.mono ?_; rintro x w2 ⟨rfl, rfl⟩)
  go_ret
  exact ⟨rfl, rfl⟩
theorem sectors_zero (w : World) (p : Nat) (h : w.cell? ⟨p, 4, none⟩ = some (.map none)) : Calls Try.prog 14 #[.pointer (some ⟨p, 0, none⟩)] w fun x w' => x = .returned (.int .i64 0) ∧ w' = w := by
  have HN := Lib.hid (none_zero w p h)
  go_enter Try.func14, Try.ntmps14
  go_wp2_with (go_at_call 17; refine HN.out.mono ?_; rintro x w2 ⟨rfl, rfl⟩)
  go_ret
  exact ⟨rfl, rfl⟩
theorem down_any (h : IsD w p g b W cap d) : Calls Try.prog 13 #[.pointer (some ⟨p, 0, none⟩)] w fun x w' => x = .returned (.bool d.off) ∧ w' = w := by
  have HN := Lib.hid (none_is h)
  have c2 := h.blk.cell 2
  clear h
  go_enter Try.func13, Try.ntmps13
  go_wp2_with (go_at_call 17; refine HN.out.mono ?_; rintro x w2 ⟨rfl, rfl⟩)
  go_ret
  exact ⟨rfl, rfl⟩
theorem down_nil (w : World) : Calls Try.prog 13 #[.pointer none] w fun x w' => x = .returned (.bool true) ∧ w' = w := by
  have HN := Lib.hid (none_nil w)
  go_enter Try.func13, Try.ntmps13
  go_wp2_with (go_at_call 17; refine HN.out.mono ?_; rintro x w2 ⟨rfl, rfl⟩)
  go_ret
  exact ⟨rfl, rfl⟩
theorem down_zero (w : World) (p : Nat) (h : w.cell? ⟨p, 4, none⟩ = some (.map none)) : Calls Try.prog 13 #[.pointer (some ⟨p, 0, none⟩)] w fun x w' => x = .returned (.bool true) ∧ w' = w := by
  have HN := Lib.hid (none_zero w p h)
  go_enter Try.func13, Try.ntmps13
  go_wp2_with (go_at_call 17; refine HN.out.mono ?_; rintro x w2 ⟨rfl, rfl⟩)
  go_ret
  exact ⟨rfl, rfl⟩
theorem done_any (h : IsD w p g b W cap d) : Calls Try.prog 15 #[.pointer (some ⟨p, 0, none⟩)] w fun x w' => x = .returned (.int .i64 d.done) ∧ w' = w := by
  have HN := Lib.hid (none_is h)
  have c1 := h.blk.cell 1
  clear h
  go_enter Try.func15, Try.ntmps15
  go_wp2_with (go_at_call 17; refine HN.out.mono ?_; rintro x w2 ⟨rfl, rfl⟩)
  go_ret
  exact ⟨rfl, rfl⟩
theorem done_nil (w : World) : Calls Try.prog 15 #[.pointer none] w fun x w' => x = .returned (.int .i64 0) ∧ w' = w := by
  have HN := Lib.hid (none_nil w)
  go_enter Try.func15, Try.ntmps15
  go_wp2_with (go_at_call 17; refine HN.out.mono ?_; rintro x w2 ⟨rfl, rfl⟩)
  go_ret
  exact ⟨rfl, rfl⟩
theorem done_zero (w : World) (p : Nat) (h : w.cell? ⟨p, 4, none⟩ = some (.map none)) : Calls Try.prog 15 #[.pointer (some ⟨p, 0, none⟩)] w fun x w' => x = .returned (.int .i64 0) ∧ w' = w := by
  have HN := Lib.hid (none_zero w p h)
  go_enter Try.func15, Try.ntmps15
  go_wp2_with (go_at_call 17; refine HN.out.mono ?_; rintro x w2 ⟨rfl, rfl⟩)
  go_ret
  exact ⟨rfl, rfl⟩
/-- the safe bytes of a sector -/
theorem at_is (h : IsD w p g b W cap d) (i : Nat) (hi : i < d.n) : Calls Try.prog 20 #[.pointer (some ⟨p, 0, none⟩), .int .i64 (i : Int)] w fun x w' => x = .returned (.slice (some ⟨g, 64 * i, none⟩) 64 (cap - 64 * i)) ∧ w' = w := by
  have c3 := h.blk.cell 3
  obtain ⟨n0, n1⟩ := h.n0
  obtain ⟨C, _, _, hc, _⟩ := h.safe
  have hm := h.cap_
  obtain ⟨n, hn⟩ : ∃ n, d.n = n := ⟨_, rfl⟩
  rw [hn] at c3 n0 n1 hi hc
  clear h hn
  have e1 : (i + 1) * 64 - i * 64 = 64 := by omega
  have e2 : i * 64 = 64 * i := by omega
  have HE1 := Lib.hid e1
  have HE2 := Lib.hid e2
  clear e1 e2
  unfold maxLen at hm
  go_enter Try.func20, Try.ntmps20
  go_wp2_with fail
  go_ret
  exact ⟨by rw [HE1.out, HE2.out]; rfl, rfl⟩
theorem at_any (h : IsD w p g b W cap d) (i : Nat) (hi : i < d.n) : Calls Try.prog 20 #[.pointer (some ⟨p, 0, none⟩), .int .i64 (i : Int)] w fun x w' => ∃ c, x = .returned (.slice (some ⟨g, 64 * i, none⟩) 64 c) ∧ 64 ≤ c ∧ c ≤ maxLen ∧ w' = w := by
  obtain ⟨C, _, _, hc, _⟩ := h.safe
  have hm := h.cap_
  exact (at_is h i hi).mono fun x w' ⟨hx, hw⟩ => ⟨_, hx, by omega, by omega, hw⟩
/-- bytes.Clone of bytes that are -/
theorem clone_any (A : Option Addr) (n c B : Nat) (l : List UInt8) (w : World) (hr : Bytes w B A n l) (hB : B ≤ w.heap.size) (hn : 0 < n) (hm : n ≤ 1000000000) :
    Calls Try.prog 22 #[.slice A n c] w fun x w' => ∃ q cap, x = .returned (.slice (some ⟨q, 0, none⟩) n cap) ∧ w.heap.size ≤ q ∧ q < w'.heap.size ∧ OwnB w' w.heap.size (.slice (some ⟨q, 0, none⟩) n cap) n l ∧ n ≤ cap ∧ cap ≤ maxLen ∧ Only [] w w' := by
  have hnil := Lib.run_eql_slice_nil (P := Try.prog) w 29 5 A n c 0 0 Try.underlying29
  obtain ⟨ad, hA, _⟩ := hr.2.2 hn
  have hA2 : A.isNone = false := by rw [hA]; rfl
  rw [hA2] at hnil
  have HR := Lib.hid (hr.alloc hB (.cells #[] 5))
  have HN := Lib.hid hn
  clear hr hA hA2
  go_enter Try.func22, Try.ntmps22
  go_wp2_with (at_builtin; refine wpList_append_bytes rfl _ _ rfl (base := w.heap.size) (v := .slice (some ⟨w.heap.size, 0, none⟩) 0 0) rfl (OwnB.empty w _ (Nat.le_refl _)) rfl HR.out (by omega) (by simp) ?_; intro v' w2 hown ho hf)
  rw [Nat.zero_add, List.nil_append] at hown
  obtain ⟨q, cap, rfl, h1, h2, h3, h4⟩ := hown.form HN.out
  have hox : Only [] w w2 := by
    refine ((Only.refl [] w).alloc (.cells #[] 5)).trans ho (fun g hg => .inr ?_)
    have : g = w.heap.size := by simpa [ownL, Value.ownBlock] using hg
    omega
  go_ret
  exact ⟨q, cap, rfl, h1, h2, hown, h3, h4, hox⟩
end
end Go.Proofs.Ytgbicimbggdpgaa.Disk
