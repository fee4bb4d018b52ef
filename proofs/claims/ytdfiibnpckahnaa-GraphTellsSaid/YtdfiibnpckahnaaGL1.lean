/- GraphOrder's words: Own, texts, at, num, Light. -/
import Derived.Test.YtdfiibnpckahnaaGOrd
namespace Go.Proofs.Ytdfiibnpckahnaa.Graph
open Go.RowKit Go.Shelf Go.Maps
set_option linter.unusedVariables false
set_option maxRecDepth 100000
theorem node_info : (Try.prog.info? 43).map (fun i => (i.zero, i.size, i.bytes)) = some (some (.agg #[.string ⟨#[]⟩, .slice none 0 0]), 3 - 1, 40) := by kernel_rfl
theorem rnode_info : (Try.prog.info? 32).map (fun i => (i.zero, i.size, i.bytes)) = some (some (.agg #[.string ⟨#[]⟩, .slice none 0 0]), 2, 40) := by kernel_rfl
/-- a node as it comes in -/
def ND.rd (w : World) (B : Nat) (x : ND) : Prop := Reads w B 1 x.IA x.imps.length (x.imps.map sv)
def ND.lit (x : ND) : Prop := x.imps.length ≤ 40 ∧ x.path.length ≤ 300 ∧ ∀ i ∈ x.imps, i.length ≤ 300
theorem row_len (l : List ND) : ∀ r ∈ l.map ND.row, r.length = 2 := by
  intro r hr
  obtain ⟨x, _, rfl⟩ := List.mem_map.1 hr
  rfl
theorem take_row {l : List ND} {k : Nat} {x : ND} (hk : l[k]? = some x) : (l.take (k + 1)).map ND.row = (l.take k).map ND.row ++ [x.row] := by
  obtain ⟨h1, h2⟩ := List.getElem?_eq_some_iff.1 hk
  rw [List.take_succ_eq_append_getElem h1, h2, List.map_append]
  rfl
theorem take_snoc {α : Type} {l : List α} {k : Nat} {x : α} (hk : l[k]? = some x) : l.take (k + 1) = l.take k ++ [x] := by
  obtain ⟨h1, h2⟩ := List.getElem?_eq_some_iff.1 hk
  rw [List.take_succ_eq_append_getElem h1, h2]
theorem take_all {α : Type} {P : α → Prop} {l : List α} {k : Nat} {x : α} (h : ∀ a ∈ l.take k, P a) (hk : l[k]? = some x) (hx : P x) : ∀ a ∈ l.take (k + 1), P a := by
  rw [take_snoc hk]
  intro a ha
  rcases List.mem_append.1 ha with h1 | h1
  · exact h a h1
  · rw [List.mem_singleton.1 h1]; exact hx
section
variable {w w' : World}
set_option maxHeartbeats 4000000 in
theorem own_any (A : Option Addr) (m c : Nat) (l : List ND) (w : World) (hr : Recs w w.heap.size 2 A m (l.map ND.row)) (hm : m ≤ 60) :
    Calls Try.prog 8 #[.slice A m c] w fun y w' => ∃ v, y = .returned v ∧ OwnR 43 2 w' w.heap.size v m (l.map ND.row) ∧ Only [] w w' := by
  have HR := Lib.hid hr
  have HL := Lib.hid (show l.length = m by have := hr.1; rwa [List.length_map] at this)
  have HV0 := Lib.hid (OwnR.nil_ 43 2 w w.heap.size)
  clear hr
  go_enter Try.func8, Try.ntmps8
  go_wp2_with fail
  go_loopw [3, 4] (fun v i wr => ∃ k : Nat, i = .int .i64 k ∧ k ≤ m ∧ OwnR 43 2 wr w.heap.size v k ((l.take k).map ND.row) ∧ Only [] w wr) (fun _ i _ => m - (intOf i).toNat)
  case atStart => exact ⟨0, rfl, by omega, HV0.out, Only.refl _ _⟩
  case round =>
    obtain ⟨k, rfl, hk, hv, ho⟩ := hrel
    clear HV0
    obtain ⟨A3, c3, e3, _⟩ := hv.shape (by decide)
    subst e3
    have HV := Lib.hid hv
    have HO := Lib.hid ho
    clear hv ho
    by_cases hlt : k < m
    · have d1 : decide ((k : Int) < (m : Int)) = true := decide_eq_true (by omega)
      obtain ⟨b, off, rfl, _, x, _, hxk, h0, h1⟩ := nd_at HR.out k hlt
      have q0 := HO.out.cell h0 (by simp)
      have q1 := HO.out.cell h1 (by simp)
      unfold sv at q0
      have hsz := HO.out.size
      have HXK := Lib.hid hxk
      clear h0 h1 hxk
      go_wp2_with (at_builtin; refine wpList_append1 (w := wr) rfl (.tmp 11) (.tmp 16) 29 rfl Try.underlying29 node_info rfl (by decide) rfl HV.out rfl rfl (row := [.string (str x.path), .slice x.IA x.imps.length x.Ic]) rfl rfl (by intro u hu; simp at hu; rcases hu with rfl | rfl <;> rfl) (by omega) (by unfold maxLen; omega) (by omega) ?_; intro v' w5 hE; obtain ⟨A5, c5, e5, _⟩ := hE.own.shape (by decide); subst e5; have HE := Lib.hid hE; clear hE)
      have HO5 := Lib.hid (HO.out.trans HE.out.only (fun q hq => .inr (HV.out.lt q hq).1))
      go_roundw
      case measure => simp [intOf]; omega
      case rel =>
        refine ⟨k + 1, by go_num, by omega, ?_, HO5.out⟩
        rw [take_row HXK.out]
        exact HE.out.own
    · obtain rfl : k = m := by omega
      have d1 : decide ((k : Int) < (k : Int)) = false := decide_eq_false (by omega)
      have hv := HV.out
      rw [List.take_of_length_le (by rw [HL.out]; exact Nat.le_refl _)] at hv
      have HV2 := Lib.hid hv
      clear hv
      go_wp2_with fail
      go_ret
      exact ⟨_, rfl, HV2.out, HO.out⟩
theorem num_any (e : Int) (w : World) : Calls Try.prog 10 #[.int .i64 e] w fun y w' => y = .returned (.int .i64 e) ∧ w' = w := by
  go_enter Try.func10, Try.ntmps10
  go_wp2_with fail
  go_ret
  exact ⟨rfl, rfl⟩
set_option maxHeartbeats 4000000 in
theorem texts_any (A1 A2 : Option Addr) (n1 n2 c1 c2 : Nat) (l1 l2 : List Path) (w : World) (h1 : Recs w w.heap.size 1 A1 n1 (svs l1)) (h2 : Recs w w.heap.size 1 A2 n2 (svs l2)) (hn1 : n1 ≤ 1000000) :
    Calls Try.prog 9 #[.slice A1 n1 c1, .slice A2 n2 c2] w fun y w' => y = .returned (.bool (decide (l1 = l2))) ∧ Only [] w w' := by
  have hl1 : l1.length = n1 := by have := h1.1; simpa [svs] using this
  have hl2 : l2.length = n2 := by have := h2.1; simpa [svs] using this
  have H1 := Lib.hid h1
  have H2 := Lib.hid h2
  have L1 := Lib.hid hl1
  have L2 := Lib.hid hl2
  clear h1 h2 hl1 hl2
  go_enter Try.func9, Try.ntmps9
  by_cases hn : n1 = n2
  · subst hn
    have hne : ((n1 : Int) != (n1 : Int)) = false := by simp
    go_wp2_with fail
    go_loopw [5] (fun i wr => ∃ k : Nat, i = .int .i64 k ∧ k ≤ n1 ∧ l1.take k = l2.take k ∧ Only [] w wr) (fun i _ => n1 - (intOf i).toNat)
    case atStart => exact ⟨0, rfl, by omega, by simp, Only.refl _ _⟩
    case round =>
      obtain ⟨k, rfl, hk, htk, ho⟩ := hrel
      have HTK := Lib.hid htk
      have HO := Lib.hid ho
      clear htk ho
      by_cases hlt : k < n1
      · have d1 : decide ((k : Int) < (n1 : Int)) = true := decide_eq_true (by omega)
        obtain ⟨b1, o1, rfl, _, hc1⟩ := H1.out.at_ [] hlt
        obtain ⟨b2, o2, rfl, _, hc2⟩ := H2.out.at_ [] hlt
        have q1 := HO.out.cell (hc1 0 (by decide)) (by simp)
        have q2 := HO.out.cell (hc2 0 (by decide)) (by simp)
        simp only [Nat.mul_one, Nat.add_zero, sv] at q1 q2
        obtain ⟨s1, hs1⟩ : ∃ s, l1.getD k [] = s := ⟨_, rfl⟩
        obtain ⟨s2, hs2⟩ : ∃ s, l2.getD k [] = s := ⟨_, rfl⟩
        rw [hs1] at q1
        rw [hs2] at q2
        have g1 : l1[k]? = some s1 := by rw [← hs1, List.getD_eq_getElem?_getD, List.getElem?_eq_getElem (by rw [L1.out]; exact hlt)]; rfl
        have g2 : l2[k]? = some s2 := by rw [← hs2, List.getD_eq_getElem?_getD, List.getElem?_eq_getElem (by rw [L2.out]; exact hlt)]; rfl
        have G1 := Lib.hid g1
        have G2 := Lib.hid g2
        clear hc1 hc2 hs1 hs2 g1 g2
        by_cases he : s1 = s2
        · subst he
          have e5 : ((str s1).toList == (str s1).toList) = true := by simp
          go_wp2_with fail
          go_region
          go_wp2_with fail
          go_roundw
          case measure => simp [intOf]; omega
          case rel => exact ⟨k + 1, by go_num, by omega, by rw [take_snoc G1.out, take_snoc G2.out, HTK.out], HO.out.drew⟩
        · have e5 : ((str s1).toList == (str s2).toList) = false := by rw [str_eqb]; exact decide_eq_false he
          have HF : Hid (decide (l1 = l2) = false) := Lib.hid (decide_eq_false (fun e => he (by have h := G1.out; rw [e, G2.out] at h; injection h with h; exact h.symm)))
          clear he
          go_wp2_with fail
          go_region
          go_wp2_with fail
          go_ret
          exact ⟨by rw [HF.out]; rfl, HO.out.drew⟩
      · obtain rfl : k = n1 := by omega
        have d1 : decide ((k : Int) < (k : Int)) = false := decide_eq_false (by omega)
        have HF : Hid (decide (l1 = l2) = true) := Lib.hid (decide_eq_true (by have h := HTK.out; rwa [List.take_of_length_le (by rw [L1.out]; exact Nat.le_refl _), List.take_of_length_le (by rw [L2.out]; exact Nat.le_refl _)] at h))
        go_wp2_with fail
        go_ret
        exact ⟨by rw [HF.out]; rfl, HO.out⟩
  · have hne : ((n1 : Int) != (n2 : Int)) = true := by simp; omega
    have HF : Hid (decide (l1 = l2) = false) := Lib.hid (decide_eq_false (fun e => hn (by rw [← L1.out, ← L2.out, e])))
    go_wp2_with fail
    go_ret
    exact ⟨by rw [HF.out]; rfl, Only.refl _ _⟩
set_option maxHeartbeats 4000000 in
theorem at_any (A : Option Addr) (n c : Nat) (l : List Path) (s : Path) (w : World) (h : Recs w w.heap.size 1 A n (svs l)) (hn1 : n ≤ 1000000) :
    Calls Try.prog 11 #[.slice A n c, .string (str s)] w fun y w' => ((∃ p : Nat, l[p]? = some s ∧ y = .returned (.int .i64 p)) ∨ (s ∉ l ∧ y = .returned (.int .i64 (-1)))) ∧ w' = w := by
  have hl : l.length = n := by have := h.1; simpa [svs] using this
  have H := Lib.hid h
  have L := Lib.hid hl
  clear h hl
  go_enter Try.func11, Try.ntmps11
  go_wp2_with fail
  go_loopw [5] (fun i wr => ∃ k : Nat, i = .int .i64 k ∧ k ≤ n ∧ s ∉ l.take k ∧ wr = w) (fun i _ => n - (intOf i).toNat)
  case atStart => exact ⟨0, rfl, by omega, by simp, rfl⟩
  case round =>
    obtain ⟨k, rfl, hk, hn, rfl⟩ := hrel
    have HN := Lib.hid hn
    clear hn
    by_cases hlt : k < n
    · have d1 : decide ((k : Int) < (n : Int)) = true := decide_eq_true (by omega)
      obtain ⟨b, o, rfl, _, hc⟩ := H.out.at_ [] hlt
      have q := hc 0 (by decide)
      simp only [Nat.mul_one, Nat.add_zero, sv] at q
      obtain ⟨t, ht⟩ : ∃ s, l.getD k [] = s := ⟨_, rfl⟩
      rw [ht] at q
      have g : l[k]? = some t := by rw [← ht, List.getD_eq_getElem?_getD, List.getElem?_eq_getElem (by rw [L.out]; exact hlt)]; rfl
      have G := Lib.hid g
      clear hc ht g
      by_cases he : t = s
      · subst he
        have e5 : ((str t).toList == (str t).toList) = true := by simp
        go_wp2_with fail
        go_ret
        exact ⟨.inl ⟨k, G.out, rfl⟩, rfl⟩
      · have e5 : ((str t).toList == (str s).toList) = false := by rw [str_eqb]; exact decide_eq_false he
        have HE := Lib.hid he
        clear he
        go_wp2_with fail
        go_roundw
        case measure => simp [intOf]; omega
        case rel =>
          refine ⟨k + 1, by go_num, by omega, ?_, trivial⟩
          rw [take_snoc G.out]
          intro hm
          rcases List.mem_append.1 hm with h | h
          · exact HN.out h
          · exact HE.out (List.mem_singleton.1 h).symm
    · obtain rfl : k = n := by omega
      have d1 : decide ((k : Int) < (k : Int)) = false := decide_eq_false (by omega)
      have hn := HN.out
      rw [List.take_of_length_le (by rw [L.out]; exact Nat.le_refl _)] at hn
      have HN2 := Lib.hid hn
      clear hn
      go_wp2_with fail
      go_ret
      exact ⟨.inr ⟨HN2.out, rfl⟩, rfl⟩
end
end Go.Proofs.Ytdfiibnpckahnaa.Graph
