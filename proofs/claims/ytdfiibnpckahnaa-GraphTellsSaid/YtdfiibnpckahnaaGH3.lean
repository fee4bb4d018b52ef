/- The heap's Pop; the library's up. -/
import Derived.Test.YtdfiibnpckahnaaGH2
namespace Go.Proofs.Ytdfiibnpckahnaa.Graph
open Go.RowKit Go.Shelf
set_option linter.unusedVariables false
set_option maxRecDepth 100000
def ifc (c : Nat) : Value := .iface 74 (cp c)
theorem meth_less {w : World} {c : Nat} {v : Value} (h : w.cell? ⟨c, 2, none⟩ = some v) : (method 231 74 (.pointer (some ⟨c, 2, none⟩)) "Less").run Try.prog w = .ok (95, v) w := by
  have e : (method 231 74 (.pointer (some ⟨c, 2, none⟩)) "Less").run Try.prog w = (Sem.load .plain ⟨c, 2, none⟩ (fun v => Sem.pure (95, v))).run Try.prog w := by kernel_rfl
  rw [e]
  unfold Sem.run
  rw [h]
  rfl
theorem meth_swap {w : World} {c : Nat} {v : Value} (h : w.cell? ⟨c, 2, none⟩ = some v) : (method 231 74 (.pointer (some ⟨c, 2, none⟩)) "Swap").run Try.prog w = .ok (96, v) w := by
  have e : (method 231 74 (.pointer (some ⟨c, 2, none⟩)) "Swap").run Try.prog w = (Sem.load .plain ⟨c, 2, none⟩ (fun v => Sem.pure (96, v))).run Try.prog w := by kernel_rfl
  rw [e]
  unfold Sem.run
  rw [h]
  rfl
theorem meth_len {w : World} {c : Nat} {v : Value} (h : w.cell? ⟨c, 2, none⟩ = some v) : (method 231 74 (.pointer (some ⟨c, 2, none⟩)) "Len").run Try.prog w = .ok (43, v) w := by
  have e : (method 231 74 (.pointer (some ⟨c, 2, none⟩)) "Len").run Try.prog w = (Sem.load .plain ⟨c, 2, none⟩ (fun v => Sem.pure (43, v))).run Try.prog w := by kernel_rfl
  rw [e]
  unfold Sem.run
  rw [h]
  rfl
theorem meth_pop (w : World) (c : Nat) : (method 231 74 (.pointer (some ⟨c, 2, none⟩)) "Pop").run Try.prog w = .ok (97, .pointer (some ⟨c, 2, none⟩)) w := by kernel_rfl
theorem meth_push (w : World) (c : Nat) : (method 231 74 (.pointer (some ⟨c, 2, none⟩)) "Push").run Try.prog w = .ok (98, .pointer (some ⟨c, 2, none⟩)) w := by kernel_rfl
theorem half_up {j i : Nat} (h0 : 0 < j) (hi : (j - 1) / 2 = i) (hj : j ≤ 1000000) : ((j : Int) - 1) / 2 = (i : Int) ∧ ((i : Int) == (j : Int)) = false := by
  refine ⟨by omega, beq_eq_false_iff_ne.2 (by omega)⟩
section
variable {w w' : World} {c lb bb base n : Nat} {hs : List Path} {v : Value}
theorem HB.sl (h : HB w c lb bb base v hs) (hl : hs.length = n + 1) : ∃ g cap, v = .slice (some ⟨g, 0, none⟩) (n + 1) cap ∧ n + 1 ≤ cap ∧ OwnR 9 1 w base (.slice (some ⟨g, 0, none⟩) (n + 1) cap) (n + 1) (svs hs) ∧ ownL v = [g] := by
  have hown := h.own
  rw [hl] at hown
  obtain ⟨A, cap, rfl, h1, _, _, h2⟩ := hown.shape (by decide)
  rcases h2 with ⟨rfl, rfl⟩ | ⟨g, rfl, _⟩
  · omega
  · exact ⟨g, cap, rfl, h1, hown, rfl⟩
theorem hpop1_any (h : HB w c lb bb base v hs) (hl : hs.length = n + 1) : Calls Try.prog 97 #[cp c] w fun x w' => x = .returned (.iface 9 (sv (hat hs n))) ∧ ∃ v', HB w' c lb bb base v' (hs.take n) ∧ ownL v' = ownL v ∧ Only [c] w w' := by
  obtain ⟨g, cap, rfl, hcap, hown, hog⟩ := h.sl hl
  have c2 : w.cell? ⟨c, 2, none⟩ = some (.slice (some ⟨g, 0, none⟩) (n + 1) cap) := h.blk.cell 2
  have f2 := h.blk.frozen 2
  have q0 := hown.cellOf (i := n) (j := 0) (by omega) (by decide)
  rw [svs_get (by omega)] at q0
  simp only [Nat.mul_one, Nat.add_zero, sv] at q0
  have hsm := h.small
  have HF : Hid (HB (w.setCell ⟨c, 2, none⟩ (.slice (some ⟨g, 0, none⟩) n cap)) c lb bb base (.slice (some ⟨g, 0, none⟩) n cap) (hs.take n) ∧ Only [c] w (w.setCell ⟨c, 2, none⟩ (.slice (some ⟨g, 0, none⟩) n cap))) := Lib.hid (by
    have ho : Only [c] w (w.setCell ⟨c, 2, none⟩ (.slice (some ⟨g, 0, none⟩) n cap)) := (Only.refl [c] w).setCell (.inl (by simp)) _
    have hg : g ≠ c := fun e => h.far (by rw [hog, e]; simp)
    have hcut := (hown.cut (i := n) (by omega)).only ho (fun k hk hm => hg (by simp [ownL, Value.ownBlock] at hk; rw [← hk, List.mem_singleton.1 hm]))
    have ht : (svs hs).take n = svs (hs.take n) := by unfold svs; rw [List.map_take]
    have hln : (hs.take n).length = n := by rw [List.length_take]; omega
    rw [ht] at hcut
    exact ⟨⟨h.blk.set_ 2 _, by rw [hln]; exact hcut, fun hm => h.far hm, by rw [hln]; omega⟩, ho⟩)
  unfold cp sv
  clear h hown hog
  generalize hat hs n = s at *
  go_enter Try.func97, Try.ntmps97
  go_wp2_with fail
  go_ret
  exact ⟨rfl, _, HF.out.1, rfl, HF.out.2⟩
set_option maxHeartbeats 2000000 in
theorem hup_any (h : HB w c lb bb base v hs) {j : Nat} (hu : UpI hs j hs.length) (hj : j < hs.length) : Calls Try.prog 54 #[ifc c, .int .i64 (j : Int)] w fun x w' => x = .returned (.tuple #[]) ∧ ∃ hs', HB w' c lb bb base v hs' ∧ hs'.Perm hs ∧ HeapL hs' hs'.length ∧ Only (ownL v) w w' := by
  obtain ⟨n, hl⟩ : ∃ n, hs.length = n + 1 := ⟨hs.length - 1, by omega⟩
  rw [hl] at hu hj
  have HL := Lib.hid hl
  have HH := Lib.hid h
  have HU := Lib.hid hu
  clear h hl hu
  unfold ifc cp
  go_enter Try.func54, Try.ntmps54
  go_wp2_with fail
  go_loopw [1] (fun jv wr => ∃ (j : Nat) (hs' : List Path), jv = .int .i64 j ∧ j < n + 1 ∧ UpI hs' j (n + 1) ∧ HB wr c lb bb base v hs' ∧ hs'.Perm hs ∧ Only (ownL v) w wr) (fun jv _ => (intOf jv).toNat)
  case atStart => exact ⟨j, hs, rfl, hj, HU.out, HH.out, List.Perm.refl _, Only.refl _ _⟩
  case round =>
    obtain ⟨j2, hs2, rfl, hj2, hu2, hh2, hp2, ho2⟩ := hrel
    have hl2 : hs2.length = n + 1 := by rw [hp2.length_eq, HL.out]
    have HU2 := Lib.hid hu2
    have HH2 := Lib.hid hh2
    have HP2 := Lib.hid hp2
    have HO2 := Lib.hid ho2
    have HL2 := Lib.hid hl2
    clear hu2 hh2 hp2 ho2 hl2 HU HH
    obtain ⟨g, cap, rfl, hcap, hown, hog⟩ := HH2.out.sl HL2.out
    have HOWN := Lib.hid hown
    have hsm : n + 1 ≤ 100000 := by have := HH2.out.small; rw [HL2.out] at this; exact this
    clear hown
    rcases Nat.eq_zero_or_pos j2 with rfl | h0
    · have e0 : decide (((0 : Nat) : Int) = 0) = true := by decide
      go_wp2_with fail
      go_end0
      exact ⟨rfl, hs2, HH2.out, HP2.out, by rw [HL2.out]; exact HU2.out.done (.inl rfl), HO2.out⟩
    · obtain ⟨i, hi⟩ : ∃ i, (j2 - 1) / 2 = i := ⟨_, rfl⟩
      have hij : i < j2 := by omega
      obtain ⟨e2, e3⟩ := half_up h0 hi (by omega)
      have c2 : wr.cell? ⟨c, 2, none⟩ = some (.slice (some ⟨g, 0, none⟩) (n + 1) cap) := HH2.out.blk.cell 2
      have hm := meth_less c2
      have HLS := Lib.hid (hless_any HOWN.out HL2.out hj2 (show i < n + 1 by omega) (by omega))
      have HI := Lib.hid hi
      have HIJ := Lib.hid hij
      clear hi
      by_cases hlt : hat hs2 j2 < hat hs2 i
      · rw [decide_eq_true hlt] at HLS
        have HLT := Lib.hid hlt
        have HSW := Lib.hid (fun wx (ho : Only [] wr wx) => hswap_any (HOWN.out.only ho (by simp)) HL2.out (show i < n + 1 by omega) hj2 (by omega))
        clear hlt
        go_wp2_with (first
          | (go_at_call 95; refine HLS.out.mono ?_; rintro y w2 ⟨rfl, ho3⟩; have HO3 := Lib.hid ho3; have hm2 := meth_swap (ho3.cell c2 (by simp)); clear ho3)
          | (go_at_call 96; refine (HSW.out w2 HO3.out).mono ?_; rintro y w3 ⟨rfl, hown3, ho3⟩; have HOWN3 := Lib.hid hown3; have HO4 := Lib.hid ho3; clear hown3 ho3))
        go_roundw
        case measure => simp [intOf]; omega
        case rel =>
          have hi := HI.out
          subst hi
          have ho24 : Only [g] wr w3 := (HO3.out.mono (by simp)).trans HO4.out (fun k hk => .inl hk)
          have hlen : (swapL hs2 ((j2 - 1) / 2) j2).length = n + 1 := by rw [swapL_len, HL2.out]
          have hcg : c ≠ g := fun e => HH2.out.far (by rw [hog, e]; simp)
          refine ⟨(j2 - 1) / 2, _, rfl, by omega, HU2.out.step (by rw [HL2.out]; omega) hj2 h0 (by rcases List.le_total (hat hs2 j2) (hat hs2 ((j2 - 1) / 2)) with h | h; exact h; exact absurd HLT.out (List.not_lt.2 h)), ⟨HH2.out.blk.only ho24 (by simpa using hcg), by rw [hlen]; exact HOWN3.out, HH2.out.far, by rw [hlen]; exact hsm⟩, (swap_perm (by rw [HL2.out]; omega) (by rw [HL2.out]; omega)).trans HP2.out, HO2.out.trans ho24 (fun k hk => .inl (by rw [hog]; exact hk))⟩
      · rw [decide_eq_false hlt] at HLS
        have HLT := Lib.hid hlt
        clear hlt
        go_wp2_with (go_at_call 95; refine HLS.out.mono ?_; rintro y w2 ⟨rfl, ho3⟩; have HO3 := Lib.hid ho3; clear ho3)
        go_end0
        exact ⟨rfl, hs2, HH2.out.only0 HO3.out, HP2.out, by rw [HL2.out]; exact HU2.out.done (.inr (by rw [HI.out]; exact List.not_lt.1 HLT.out)), HO2.out.trans HO3.out (by simp)⟩
end
end Go.Proofs.Ytdfiibnpckahnaa.Graph
