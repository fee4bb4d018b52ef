/- The library's Push and Pop on the heap; next. -/
import Derived.Test.YtdfiibnpckahnaaGH4
namespace Go.Proofs.Ytdfiibnpckahnaa.Graph
open Go.RowKit Go.Shelf
set_option linter.unusedVariables false
set_option maxRecDepth 100000
section
variable {w w' : World} {c lb bb base n : Nat} {hs : List Path} {v : Value}
/-- behind a Push -/
def PushO (w : World) (c lb bb base : Nat) (v : Value) (hs : List Path) (s : Path) (w' : World) : Prop := ∃ v' hs', HB w' c lb bb base v' hs' ∧ hs'.Perm (hs ++ [s]) ∧ HeapL hs' hs'.length ∧ FreshV w v v' ∧ Only (c :: ownL v) w w'
set_option maxHeartbeats 1000000 in
theorem hPush_any (h : HB w c lb bb base v hs) (hh : HeapL hs hs.length) (s : Path) (hn : hs.length < 100000) (hb : base ≤ w.heap.size) : Calls Try.prog 42 #[ifc c, .iface 9 (sv s)] w fun x w' => x = .returned (.tuple #[]) ∧ PushO w c lb bb base v hs s w' := by
  have HP := Lib.hid (hpush1_any h s hn hb)
  have hmp := meth_push w c
  have HUP := Lib.hid (hh.push s)
  unfold ifc
  unfold cp at HP ⊢
  obtain ⟨n, hl⟩ : ∃ n, hs.length = n := ⟨_, rfl⟩
  have HL := Lib.hid hl
  have hn2 : n < 100000 := by omega
  clear h hh hb hl hn
  go_enter Try.func42, Try.ntmps42
  go_wp2_with fail
  refine HP.out.mono ?_
  rintro x w1 ⟨rfl, v1, h1, hf1, ho1⟩
  have c2 : w1.cell? ⟨c, 2, none⟩ = some v1 := h1.blk.cell 2
  have hml := meth_len c2
  obtain ⟨A, cap, hv1, _⟩ := h1.own.shape (by decide)
  have hl1 : (hs ++ [s]).length = n + 1 := by rw [List.length_append, HL.out]; rfl
  rw [hl1] at hv1
  have HLN := Lib.hid (hlen_any A (n + 1) cap w1)
  rw [← hv1] at HLN
  have hsub : ((n + 1 : Nat) : Int) - 1 = (n : Int) := by omega
  have hu := HUP.out
  rw [HL.out] at hu
  have HU := Lib.hid (hup_any h1 (j := n) (by rw [hl1]; exact hu) (by rw [hl1]; omega))
  unfold ifc cp at HU
  have HF1 := Lib.hid hf1
  have HO1 := Lib.hid ho1
  clear h1 hf1 ho1 hv1 hu hl1 HP
  go_wp2_with (first
    | (go_at_call 43; refine HLN.out.mono ?_; rintro y wn ⟨rfl, hwn⟩; have hwn := hwn.symm; subst hwn)
    | (go_at_call 54; refine HU.out.mono ?_; rintro y w2 ⟨rfl, hs2, h2, hp2, hhp2, ho2⟩; have H2 := Lib.hid h2; have HP2 := Lib.hid hp2; have HH2 := Lib.hid hhp2; have HO2 := Lib.hid ho2; clear h2 hp2 hhp2 ho2))
  go_end0
  refine ⟨rfl, v1, hs2, H2.out, HP2.out, HH2.out, HF1.out, HO1.out.trans HO2.out (fun k hk => ?_)⟩
  rcases HF1.out k hk with e | e
  · exact .inl (List.mem_cons_of_mem _ e)
  · exact .inr e
/-- behind a Pop that gave s -/
def PopO (w : World) (c lb bb base : Nat) (v : Value) (hs : List Path) (s : Path) (w' : World) : Prop := least hs = some s ∧ ∃ v' hs', HB w' c lb bb base v' hs' ∧ hs.Perm (s :: hs') ∧ HeapL hs' hs'.length ∧ ownL v' = ownL v ∧ Only (c :: ownL v) w w'
theorem take_last {hs : List Path} {m : Nat} (h : hs.length = m + 1) : hs = hs.take m ++ [hat hs m] := by
  rw [hat_eq (by omega)]
  have := List.take_succ_eq_append_getElem (l := hs) (i := m) (by omega)
  rw [← this, List.take_of_length_le (by omega)]
theorem hat_mem {hs : List Path} {i : Nat} (h : i < hs.length) : hat hs i ∈ hs := by rw [hat_eq h]; exact List.getElem_mem h
theorem root_least {hs : List Path} {m : Nat} (hl : hs.length = m + 1) (hh : HeapL hs (m + 1)) : least hs = some (hat hs 0) := by
  refine least_uniq (hat_mem (by omega)) fun y hy => ?_
  obtain ⟨i, hi, rfl⟩ := List.getElem_of_mem hy
  rw [← hat_eq hi]
  exact hh.root i (by omega)
set_option maxHeartbeats 1000000 in
theorem hPop_any {m : Nat} (h : HB w c lb bb base v hs) (hl : hs.length = m + 1) (hh : HeapL hs (m + 1)) : Calls Try.prog 55 #[ifc c] w fun x w' => ∃ s, x = .returned (.iface 9 (sv s)) ∧ PopO w c lb bb base v hs s w' := by
  have HLE := Lib.hid (root_least hl hh)
  obtain ⟨g, cap, rfl, hcap, hown, hog⟩ := h.sl hl
  have hsm : m + 1 ≤ 100000 := by have := h.small; omega
  have c2 : w.cell? ⟨c, 2, none⟩ = some (.slice (some ⟨g, 0, none⟩) (m + 1) cap) := h.blk.cell 2
  have hml := meth_len c2
  have hms := meth_swap c2
  have HLN := Lib.hid (hlen_any (some ⟨g, 0, none⟩) (m + 1) cap w)
  have hsub : ((m + 1 : Nat) : Int) - 1 = (m : Int) := by omega
  have HSW : Hid (Calls Try.prog 96 #[.slice (some ⟨g, 0, none⟩) (m + 1) cap, .int .i64 0, .int .i64 (m : Int)] w fun x w' => x = .returned (.tuple #[]) ∧ OwnR 9 1 w' base (.slice (some ⟨g, 0, none⟩) (m + 1) cap) (m + 1) (svs (swapL hs 0 m)) ∧ Only [g] w w') := Lib.hid (hswap_any hown hl (i := 0) (j := m) (by omega) (by omega) (by omega))
  have HDI := Lib.hid (hh.pop hl)
  have HH := Lib.hid h
  have HL := Lib.hid hl
  have HAT := Lib.hid (swap_at (hs := hs) (i := 0) (j := m) (by omega) (by omega) m)
  have HPM := Lib.hid (swap_perm (hs := hs) (i := 0) (j := m) (by omega) (by omega))
  unfold ifc cp
  clear h hl hown hh
  go_enter Try.func55, Try.ntmps55
  go_wp2_with (go_at_call 43; refine HLN.out.mono ?_; rintro y wn ⟨rfl, hwn⟩; have hwn := hwn.symm; subst hwn)
  refine HSW.out.mono ?_
  rintro y w1 ⟨rfl, hown1, ho1⟩
  have HOWN1 := Lib.hid hown1
  have HO1 := Lib.hid ho1
  clear hown1 ho1
  have hln1 : (swapL hs 0 m).length = m + 1 := by rw [swapL_len, HL.out]
  have hcg : c ≠ g := fun e => HH.out.far (by rw [hog, e]; simp)
  have HB1 : Hid (HB w1 c lb bb base (.slice (some ⟨g, 0, none⟩) (m + 1) cap) (swapL hs 0 m)) := Lib.hid ⟨HH.out.blk.only HO1.out (by simpa using hcg), by rw [hln1]; exact HOWN1.out, HH.out.far, by rw [hln1]; exact hsm⟩
  have HD := Lib.hid (hdown_any HB1.out hln1 HDI.out)
  unfold ifc cp at HD
  clear hln1 hcg
  go_wp2_with (first
    | (go_at_call 60; refine HD.out.mono ?_; rintro y w2 ⟨⟨b, rfl⟩, hs2, h2, hp2, hhp2, hat2, ho2⟩; have H2 := Lib.hid h2; have HP2 := Lib.hid hp2; have HH2 := Lib.hid hhp2; have HA2 := Lib.hid hat2; have HO2 := Lib.hid ho2; have hmp := meth_pop w2 c; have HPP := Lib.hid (hpop1_any h2 (n := m) (by rw [hp2.length_eq, swapL_len, HL.out])); unfold cp at HPP; clear h2 hp2 hhp2 hat2 ho2)
    | (go_at_call 97; refine HPP.out.mono ?_; rintro y w3 ⟨rfl, v3, h3, hov3, ho3⟩; have H3 := Lib.hid h3; have HV3 := Lib.hid hov3; have HO3 := Lib.hid ho3; clear h3 hov3 ho3))
  have HFIN : Hid (PopO w c lb bb base (.slice (some ⟨g, 0, none⟩) (m + 1) cap) hs (hat hs2 m) w3) := Lib.hid (by
    have e0 : hat hs2 m = hat hs 0 := by rw [HA2.out, HAT.out]; simp
    have hl2 : hs2.length = m + 1 := by rw [HP2.out.length_eq, swapL_len, HL.out]
    have hlt : (hs2.take m).length = m := by rw [List.length_take]; omega
    refine ⟨by rw [e0]; exact HLE.out, v3, hs2.take m, H3.out, ?_, by rw [hlt]; exact HH2.out.cut (Nat.le_refl _), HV3.out, ?_⟩
    · have h1 : hs2.Perm hs := HP2.out.trans HPM.out
      have h2 := take_last hl2
      have h3 : (hs2.take m ++ [hat hs2 m]).Perm (hat hs2 m :: hs2.take m) := List.perm_append_comm
      rw [← h2] at h3
      exact h1.symm.trans h3
    · rw [hog] at HO2 ⊢
      exact ((HO1.out.mono (fun k hk => .inl (by rw [List.mem_singleton.1 hk]; simp))).trans (HO2.out.mono (S' := c :: [g]) (fun k hk => .inl (List.mem_cons_of_mem _ hk))) (fun k hk => .inl hk)).trans HO3.out (fun k hk => .inl (by rw [List.mem_singleton.1 hk]; simp)))
  go_ret
  exact ⟨hat hs2 m, rfl, HFIN.out⟩
theorem hnext_any {m : Nat} (h : HB w c lb bb base v hs) (hl : hs.length = m + 1) (hh : HeapL hs (m + 1)) : Calls Try.prog 44 #[cp c] w fun x w' => ∃ s, x = .returned (.string (str s)) ∧ PopO w c lb bb base v hs s w' := by
  have HP := Lib.hid (hPop_any h hl hh)
  unfold ifc at HP
  unfold cp at HP ⊢
  clear h hl hh
  go_enter Try.func44, Try.ntmps44
  go_wp2_with (go_at_call 55; refine HP.out.mono ?_; rintro y w3 ⟨s, rfl, hP⟩; have hta := assert_str s w3; unfold sv; have HP3 := Lib.hid hP; clear hP)
  go_ret
  exact ⟨s, rfl, HP3.out⟩
end
end Go.Proofs.Ytdfiibnpckahnaa.Graph
