/- verify's (*tree).deep and Deep. -/
import Derived.Test.YtkdacemachejoaaReachA
import Derived.Test.YtkdacemachejoaaVeGrownq
namespace Go.Proofs.Ytkdacemachejoaa.Vm
open Go.RowKit Go.Maps Go.Shelf Object
set_option linter.unusedVariables false
set_option maxRecDepth 100000
theorem dp_path {cs : List Cd} (hR : vmRight cs = true) {s d : Nat} (h : Dp cs s d) : s < cs.length → ∃ L : List Nat, L.Nodup ∧ L.length = d + 1 ∧ ∀ x ∈ L, x < cs.length ∧ ∃ e, e ≤ d ∧ Dp cs x e := by
  induction h with
  | @mk s d g h h1 h2 ih =>
    intro hs
    have hself : Dp cs s d := .mk g h h1 h2
    rcases h2 with rfl | ⟨t, ht, rfl⟩
    · exact ⟨[s], by simp, rfl, fun x hx => by rw [List.mem_singleton.1 hx]; exact ⟨hs, 0, Nat.le_refl _, hself⟩⟩
    · obtain ⟨L, h3, h4, h5⟩ := ih t ht (call_lt hR ht)
      refine ⟨s :: L, List.nodup_cons.2 ⟨fun hm => ?_, h3⟩, by simp [h4], fun x hx => ?_⟩
      · obtain ⟨_, e, h6, h7⟩ := h5 s hm
        have := dp_uniq hself e h7
        omega
      · rcases List.mem_cons.1 hx with rfl | hx
        · exact ⟨hs, _, Nat.le_refl _, hself⟩
        · obtain ⟨h6, e, h7, h8⟩ := h5 x hx
          exact ⟨h6, e, by omega, h8⟩
theorem dp_lt {cs : List Cd} (hR : vmRight cs = true) {s d : Nat} (h : Dp cs s d) (hs : s < cs.length) : d < cs.length := by
  obtain ⟨L, h1, h2, h3⟩ := dp_path hR h hs
  have := nodup_bound h1 (fun x hx => (h3 x hx).1)
  omega
def DoneF (cs : List Cd) (KD : List Nat) (f : Lit → Option Value) : Prop := (∀ k ∈ KD, ∃ d : Nat, f (pk (k : Int)) = some (.int .i64 (d : Int)) ∧ Dp cs k d) ∧ ∀ l v, f l = some v → ∃ k ∈ KD, l = pk (k : Int)
theorem DoneF.none_ {cs : List Cd} {KD : List Nat} {f : Lit → Option Value} (h : DoneF cs KD f) {s : Nat} (hs : s ∉ KD) : f (pk (s : Int)) = none := by
  cases hh : f (pk (s : Int)) with
  | none => rfl
  | some v =>
    obtain ⟨k, hk, he⟩ := h.2 _ _ hh
    have := pk_inj he
    have : s = k := by omega
    exact absurd (this ▸ hk) hs
theorem DoneF.put {cs : List Cd} {KD : List Nat} {f : Lit → Option Value} (h : DoneF cs KD f) {s d : Nat} (hd : Dp cs s d) : DoneF cs (s :: KD) (upd f (pk (s : Int)) (some (.int .i64 (d : Int)))) := by
  refine ⟨fun k hk => ?_, fun l v hl => ?_⟩
  · by_cases he : k = s
    · subst he
      exact ⟨d, upd_same _ _ _, hd⟩
    · rcases List.mem_cons.1 hk with rfl | hk
      · exact absurd rfl he
      · obtain ⟨e, h1, h2⟩ := h.1 k hk
        refine ⟨e, ?_, h2⟩
        rw [upd_other _ _ (fun e => he (by have := pk_inj e; omega))]
        exact h1
  · by_cases he : l = pk (s : Int)
    · exact ⟨s, List.mem_cons_self, he⟩
    · rw [upd_other _ _ he] at hl
      obtain ⟨k, hk, hkl⟩ := h.2 l v hl
      exact ⟨k, List.mem_cons_of_mem _ hk, hkl⟩
/-- the two maps -/
structure DM (w : World) (md mo : Nat) (cs : List Cd) (KD KO : List Nat) : Prop where
  done : ∃ f, VM Try.prog 3 w md KD.length f ∧ DoneF cs KD f
  open_ : VM Try.prog 3 w mo KO.length (seenF (zs KO))
  nd : KO.Nodup
  lt : ∀ k ∈ KO, k < cs.length
  sub : ∀ k ∈ KD, k ∈ KO
  knd : KD.Nodup
theorem DM.not_int {w : World} {md mo : Nat} {cs : List Cd} {KD KO : List Nat} (h : DM w md mo cs KD KO) : ∀ g ∈ [md, mo], ∀ t c, ¬ Blk w g t c := by
  obtain ⟨f, hv, _⟩ := h.done
  intro g hg t c hb
  simp only [List.mem_cons, List.not_mem_nil, or_false] at hg
  rcases hg with rfl | rfl
  · exact vm_ne hv hb rfl
  · exact vm_ne h.open_ hb rfl
theorem TI.onlyM {w w' : World} {p mb rb : Nat} {cs : List Cd} {K : List Nat} {M : Nat → Prop} {S : List Nat} (h : TI w p mb rb cs K M) (ho : Only S w w') (hS : ∀ g ∈ S, ∀ t c, ¬ Blk w g t c) (hm : mb ∉ S) : TI w' p mb rb cs K M := by
  obtain ⟨f, hv, hc⟩ := h.map
  obtain ⟨R, h1, h2, h3⟩ := h.arr
  exact ⟨h.blk.only ho (fun hm => hS p hm _ _ h.blk), ⟨f, hv.only ho hm, hc.only ho (fun g hg c => hS g hg _ c)⟩, ⟨R, h1, h2.only ho (fun hm => hS rb hm _ _ h2), h3⟩, h.nd, h.lt⟩
theorem zeroI (w : World) : (zeroValue 3).run Try.prog w = .ok (.int .i64 0) w := by kernel_rfl
/-- what deep leaves -/
def DeepO (md mo : Nat) (cs : List Cd) (s : Nat) (KD KO : List Nat) (w : World) (y : Ending) (w' : World) : Prop :=
  Only [md, mo] w w' ∧ ((∃ r : Nat, y = .returned (.int .i64 (r : Int)) ∧ Dp cs s r ∧ ∃ KD' KO', DM w' md mo cs KD' KO' ∧ Same KD KO KD' KO') ∨ (y = .returned (.int .i64 (-1)) ∧ ∀ d, ¬ Dp cs s d))
theorem DeepO.cases {md mo : Nat} {cs : List Cd} {s : Nat} {KD KO : List Nat} {w w' : World} {y : Ending} (h : DeepO md mo cs s KD KO w y w') : ∃ r : Int, y = .returned (.int .i64 r) ∧ Only [md, mo] w w' ∧
    ((∃ k : Nat, r = (k : Int) ∧ Dp cs s k ∧ ∃ KD' KO', DM w' md mo cs KD' KO' ∧ Same KD KO KD' KO') ∨ (r = -1 ∧ ∀ d, ¬ Dp cs s d)) := by
  obtain ⟨ho, ⟨r, rfl, h1, h2⟩ | ⟨rfl, h1⟩⟩ := h
  · exact ⟨_, rfl, ho, .inl ⟨r, rfl, h1, h2⟩⟩
  · exact ⟨_, rfl, ho, .inr ⟨rfl, h1⟩⟩
/-- a round of the loop over calls -/
structure DR (w wr : World) (md mo : Nat) (cs : List Cd) (s : Nat) (KD KO : List Nat) (L : List Nat) (j b : Nat) : Prop where
  st : ∃ KD1 KO1, DM wr md mo cs KD1 KO1 ∧ Same KD (s :: KO) KD1 KO1
  best : Best cs s (L.take j) b
  only : Only [md, mo] w wr
set_option maxHeartbeats 8000000 in
theorem deep_any (p mb rb md mo : Nat) (cs : List Cd) (K : List Nat) (M : Nat → Prop) (hR : vmRight cs = true) (hK : ∀ k, k ∈ K ↔ Rs cs k) (hne : md ≠ mo ∧ mb ≠ md ∧ mb ≠ mo) : ∀ (m : Nat) (KD KO : List Nat) (s : Nat) (w : World), TI w p mb rb cs K M → DM w md mo cs KD KO → DInv cs s KD KO → Rs cs s → cs.length - KO.length < m →
    Calls Try.prog 29 #[.pointer (some ⟨p, 0, none⟩), .int .i64 (s : Int), .map (some md), .map (some mo)] w (DeepO md mo cs s KD KO w) := by
  intro m
  induction m with
  | zero => intro KD KO s w h hd hi hs hm; omega
  | succ m ih =>
  intro KD KO s w h hd hi hs hm
  have hlen := (right_len hR).2.1
  have hslt := rs_lt hR hs
  obtain ⟨fd, hvd, hfd⟩ := hd.done
  have hlk := VM.run_look hvd lawI Try.underlying63 (zeroI w) (keyP (in64n (n := s) (by omega)))
  by_cases hsD : s ∈ KD
  · obtain ⟨d, hd1, hd2⟩ := hfd.1 s hsD
    rw [hd1] at hlk
    have hlk : (Instr.lookup 63 (.map (some md)) (.int .i64 (s : Int)) true).run Try.prog w = .ok (.tuple #[.int .i64 (d : Int), .bool true]) w := hlk
    have HF : Hid (DeepO md mo cs s KD KO w (.returned (.int .i64 (d : Int))) w) := Lib.hid ⟨Only.refl _ _, .inl ⟨d, rfl, hd2, KD, KO, hd, Same.refl _ _⟩⟩
    clear h hd hi hs hm hlen hslt hvd hfd hd1 hd2 ih hR hK hne hsD
    go_enter Try.func29, Try.ntmps29
    go_wp2_with fail
    go_ret
    exact HF.out
  rw [hfd.none_ hsD] at hlk
  have hlk : (Instr.lookup 63 (.map (some md)) (.int .i64 (s : Int)) true).run Try.prog w = .ok (.tuple #[.int .i64 0, .bool false]) w := hlk
  have hlk2 := VM.run_look1 hd.open_ lawI Try.underlying64 (zeroB w) (keyP (in64n (n := s) (by omega)))
  rw [seenF_pk] at hlk2
  by_cases hsO : s ∈ KO
  · rw [decide_eq_true (mem_zs.2 hsO)] at hlk2
    obtain ⟨t, h1, h2⟩ := hi.gray s hsO hsD
    have HF : Hid (DeepO md mo cs s KD KO w (.returned (.int .i64 (-1))) w) := Lib.hid ⟨Only.refl _ _, .inr ⟨rfl, dp_cycle h1 h2⟩⟩
    clear h hd hi hs hm hlen hslt hvd hfd h1 h2 ih hR hK hne hsD hsO
    go_enter Try.func29, Try.ntmps29
    go_wp2_with fail
    go_ret
    exact HF.out
  rw [decide_eq_false (fun hh => hsO (mem_zs.1 hh))] at hlk2
  obtain ⟨w1, hput, hv1, ho1⟩ := VM.run_put (P := Try.prog) 64 lawI Try.underlying64 hd.open_ (by have := nodup_bound hd.nd hd.lt; unfold maxLen; omega) (.bool true) (keyP (in64n (n := s) (by omega)))
  rw [seenF_cons] at hv1
  have ho1' : Only [md, mo] w w1 := ho1.mono (by simp)
  have hmbS : mb ∉ [md, mo] := by simp only [List.mem_cons, List.not_mem_nil, or_false, not_or]; exact hne.2
  have hT1 := h.onlyM ho1' hd.not_int hmbS
  have hDM1 : DM w1 md mo cs KD (s :: KO) := ⟨⟨fd, hvd.only ho1 (by simpa using hne.1), hfd⟩, hv1, List.nodup_cons.2 ⟨hsO, hd.nd⟩, fun k hk => by
    rcases List.mem_cons.1 hk with rfl | hk
    · exact hslt
    · exact hd.lt k hk, fun k hk => List.mem_cons_of_mem _ (hd.sub k hk), hd.knd⟩
  have hsK : s ∈ K := (hK s).2 hs
  obtain ⟨f, hv, hc⟩ := hT1.map
  obtain ⟨A, c3, hfs, hsl⟩ := hc.1 s hsK
  have hlk3 := VM.run_look1 hv lawI Try.underlying69 (zeroL w1) (keyP (in64n (n := s) (by omega)))
  rw [hfs] at hlk3
  obtain ⟨L, hL⟩ : ∃ L, callsL cs s = L := ⟨_, rfl⟩
  rw [hL] at hlk3 hsl
  have hlk3 : (Instr.lookup 69 (.map (some mb)) (.int .i64 (s : Int)) false).run Try.prog w1 = .ok (.slice A L.length c3) w1 := hlk3
  have p0 : w1.cell? ⟨p, 0, none⟩ = some (.map (some mb)) := hT1.blk.cell 0
  have HT1 := Lib.hid hT1
  have HD1 := Lib.hid (And.intro hDM1 ho1')
  have HSL := Lib.hid hsl
  have HLL := Lib.hid hL
  have HI := Lib.hid (And.intro hi (And.intro hsO (And.intro hsD (And.intro hslt hs))))
  have HN := Lib.hid (And.intro hm (And.intro hlen (And.intro hmbS hne)))
  have HR := Lib.hid (And.intro hR hK)
  have HIH := Lib.hid ih
  have HLN : Hid (L.length ≤ 65536) := Lib.hid (by rw [← hL]; exact Nat.le_trans callsL_len hlen)
  clear h hd hi hs hm hlen hslt hvd hfd ih hR hK hne hsD hsO hv1 ho1 ho1' hmbS hT1 hDM1 hsK hv hc hfs hsl hL
  go_enter Try.func29, Try.ntmps29
  go_wp2_with fail
  clear hlk hlk2 hput hlk3 p0
  go_loopw [11, 35] (fun bv iv wr => ∃ j b : Nat, bv = .int .i64 (b : Int) ∧ iv = .int .i64 (j : Int) ∧ j ≤ L.length ∧ DR w1 wr md mo cs s KD KO L j b) (fun _ iv _ => L.length - (intOf iv).toNat)
  case atStart => exact ⟨0, 0, rfl, rfl, by omega, ⟨KD, s :: KO, HD1.out.1, Same.refl _ _⟩, best_nil, Only.refl _ _⟩
  case round =>
    obtain ⟨j, b, rfl, rfl, hj, hDR⟩ := hrel
    obtain ⟨⟨KD1, KO1, hDM, hS⟩, hb, ho⟩ := hDR
    have hni := HD1.out.1.not_int
    have hTr := HT1.out.onlyM ho hni HN.out.2.2.1
    have hmk : KO.length + 1 ≤ KO1.length := by
      have h9 := nodup_le (A := s :: KO) (B := KO1) (List.nodup_cons.2 ⟨HI.out.2.1, HI.out.1.nd⟩) hS.1
      simpa using h9
    by_cases hlt : j < L.length
    · have d1 : decide ((j : Int) < (L.length : Int)) = true := decide_eq_true (by omega)
      have d1' : decide (j < L.length) = true := decide_eq_true hlt
      obtain ⟨bl, off, t, rfl, ht, hcell⟩ := (HSL.out.only ho (fun g hg c => hni g hg _ c)).at_ hlt
      have htc : IsCall cs s t := (mem_callsL HR.out.1).1 (by rw [HLL.out]; exact List.mem_of_getElem? ht)
      have hDI := dinv_child HI.out.1 HI.out.2.1 HI.out.2.2.2.1 hS hDM.nd hDM.lt hDM.sub htc
      have hb1 := nodup_bound hDM.nd hDM.lt
      have HC := Lib.hid (HIH.out KD1 KO1 t _ hTr hDM hDI (.call HI.out.2.2.2.2 htc) (by have := HN.out; omega))
      have HW := Lib.hid (And.intro hS (And.intro hb (And.intro ho (And.intro ht (And.intro htc hj)))))
      have HLT := Lib.hid hlt
      clear hDM hS hb ho hni hTr hmk ht htc hDI hj hlt hb1
      go_wp2_with (go_at_call 29; refine HC.out.mono ?_; rintro y w6 hO; obtain ⟨r, rfl, ho6, hr⟩ := hO.cases; clear hO; have HO6 := Lib.hid ho6; have HRR := Lib.hid hr; clear ho6 hr; go_frame)
      · go_ret
        rcases HRR.out with ⟨k, rfl, _⟩ | ⟨_, hno⟩
        · omega
        · exact ⟨HD1.out.2.trans (HW.out.2.2.1.trans HO6.out (fun g hg => .inl hg)) (fun g hg => .inl hg), .inr ⟨rfl, fun d hd => by
            obtain ⟨d', h1, _⟩ := dp_call hd HW.out.2.2.2.2.1
            exact hno d' h1⟩⟩
      · rcases HRR.out with ⟨k, rfl, hdk, KD2, KO2, hDM2, hS2⟩ | ⟨rfl, _⟩
        · have hkl := dp_lt HR.out.1 hdk (call_lt HR.out.1 HW.out.2.2.2.2.1)
          have hw1 : wrap64 ((k : Int) + 1) = (k : Int) + 1 := by have := HN.out; exact wrap_le (by omega) (by omega)
          have hw2 : wrap64 ((j : Int) + 1) = ((j + 1 : Nat) : Int) := by have := HLN.out; have := HLT.out; rw [wrap_le (by omega) (by omega)]; omega
          rw [hw1, hw2]
          have hmx : max (b : Int) ((k : Int) + 1) = ((max b (k + 1) : Nat) : Int) := by omega
          refine ⟨⟨j + 1, max b (k + 1), by rw [hmx], rfl, HLT.out, ⟨KD2, KO2, hDM2, HW.out.1.trans hS2⟩, ?_, HW.out.2.2.1.trans HO6.out (fun g hg => .inl hg)⟩, by have := HLT.out; simp [intOf]; omega⟩
          obtain ⟨h1, h2⟩ := List.getElem?_eq_some_iff.1 HW.out.2.2.2.1
          rw [List.take_succ_eq_append_getElem h1, h2]
          exact best_snoc HW.out.2.1 hdk
        · omega
    · have hjl : j = L.length := by omega
      subst hjl
      have d1 : decide ((L.length : Int) < (L.length : Int)) = false := decide_eq_false (by omega)
      rw [List.take_length] at hb
      have hDs : Dp cs s b := best_dp (fun t => by rw [← HLL.out]; exact mem_callsL HR.out.1) hb
      obtain ⟨f1, hv1, hf1⟩ := hDM.done
      have hk1 := nodup_bound hDM.knd (fun k hk => hDM.lt k (hDM.sub k hk))
      obtain ⟨w6, hput, hv6, ho6⟩ := VM.run_put (P := Try.prog) 63 lawI Try.underlying63 hv1 (by have := HN.out; unfold maxLen; omega) (.int .i64 (b : Int)) (keyP (in64n (n := s) (by have := HN.out; have := HI.out; omega)))
      have hs1 : s ∉ KD1 := hS.2.2.2 s List.mem_cons_self HI.out.2.2.1
      have hDM6 : DM w6 md mo cs (s :: KD1) KO1 := ⟨⟨_, hv6, hf1.put hDs⟩, hDM.open_.only ho6 (by simpa using HN.out.2.2.2.1.symm), hDM.nd, hDM.lt, fun k hk => by
        rcases List.mem_cons.1 hk with rfl | hk
        · exact hS.1 _ List.mem_cons_self
        · exact hDM.sub k hk, List.nodup_cons.2 ⟨hs1, hDM.knd⟩⟩
      have HF : Hid (DeepO md mo cs s KD KO w (.returned (.int .i64 (b : Int))) w6) := Lib.hid ⟨HD1.out.2.trans (ho.trans (ho6.mono (S' := [md, mo]) (by simp)) (fun g hg => .inl hg)) (fun g hg => .inl hg), .inl ⟨b, rfl, hDs, _, _, hDM6, same_done HI.out.2.1 hS⟩⟩
      clear hDM hS hb ho hni hTr hmk hDs hv1 hf1 hk1 hv6 ho6 hs1 hDM6 hj hlt
      go_wp2_with fail
      go_ret
      exact HF.out
end Go.Proofs.Ytkdacemachejoaa.Vm
