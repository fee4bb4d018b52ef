/- counter.take, walked. -/
import Derived.Test.YtdfiibnpckahnaaGCnt2
namespace Go.Proofs.Ytdfiibnpckahnaa.Graph
open Go.RowKit Go.Shelf Go.Maps
set_option linter.unusedVariables false
set_option maxRecDepth 100000
section
variable {l : List Nd} {out bs : List Path} {s : Path} {x : Nd}
theorem lf_step (hnd : (l.map (·.path)).Nodup) (hx : x ∈ l) (hxo : x.path ∉ out) (hxs : x.path ≠ s) : (fun q => if q = x.path then some (leftC (impL x) (out ++ [s])) else lf l impL out (some s) bs q) = lf l impL out (some s) (bs ++ [x.path]) := by
  funext q
  by_cases e : q = x.path
  · subst e
    rw [if_pos rfl, lf_node_in hnd hx hxo hxs, if_pos (by simp)]
  · rw [if_neg e]
    unfold lf
    by_cases h : q ∈ out ∨ some s = some q
    · rw [if_pos h, if_pos h]
    · rw [if_neg h, if_neg h]
      congr 1
      funext y
      simp only
      by_cases h2 : q ∈ bs
      · rw [if_pos h2, if_pos (by simp [h2])]
      · rw [if_neg h2, if_neg (by simp [h2, e])]
theorem byL_nodup (hnd : (l.map (·.path)).Nodup) (s : Path) : (byL l impL s).Nodup := hnd.sublist (List.filter_sublist.map _)
theorem byL_node {b : Path} (h : b ∈ byL l impL s) : ∃ x ∈ l, x.path = b ∧ s ∈ impL x := by
  obtain ⟨x, hx, rfl⟩ := List.mem_map.1 h
  obtain ⟨h1, h2⟩ := List.mem_filter.1 hx
  exact ⟨x, h1, rfl, of_decide_eq_true h2⟩
/-- a node that imports what is taken now is not taken yet, and is another one -/
theorem later (hnd : (l.map (·.path)).Nodup) (hT : Tk l out) (hn : nextP l out = some s) (hx : x ∈ l) (hs : s ∈ impL x) : s ∉ out ∧ x.path ∉ out ∧ x.path ≠ s := by
  obtain ⟨h1, y, hy, he, hyi⟩ := nextP_some hn
  have hsx : s ∈ x.imps := ((impL_own x).mem s).1 hs
  refine ⟨h1, fun hm => ?_, fun e => ?_⟩
  · obtain ⟨k, hk⟩ := List.getElem?_of_mem hm
    obtain ⟨z, hz, hze, hzi⟩ := hT.ahead k _ hk
    rw [uniq_node hnd hz hx hze] at hzi
    exact h1 (List.mem_of_mem_take (hzi s hsx))
  · rw [uniq_node hnd hy hx (by rw [he, e])] at hyi
    exact h1 (hyi s hsx)
theorem lf_begin' : (fun q => if q = s then none else lf l impL out none [] q) = lf l impL out (some s) [] := by funext q; rw [lf_begin]
theorem lf_end' (hO : Owns l impL) : lf l impL out (some s) (byL l impL s) = lf l impL (out ++ [s]) none [] := by funext q; exact lf_end hO
end
/-- nothing below base turned -/
def Ab (base : Nat) (w w' : World) : Prop := ∃ S, Only S w w' ∧ ∀ k ∈ S, base ≤ k
section
variable {w w' w'' : World} {c lb bb base nl nb : Nat} {v : Value} {T S : List Nat} {l : List Nd} {hs : List Path}
theorem Ab.refl (base : Nat) (w : World) : Ab base w w := ⟨[], Only.refl _ _, by simp⟩
theorem Ab.then (h : Ab base w w') (ho : Only S w' w'') (hS : ∀ k ∈ S, base ≤ k) : Ab base w w'' := by
  obtain ⟨R, h1, h2⟩ := h
  refine ⟨R ++ S, (h1.mono (fun k hk => .inl (List.mem_append_left _ hk))).trans ho (fun k hk => .inl (List.mem_append_right _ hk)), fun k hk => ?_⟩
  rcases List.mem_append.1 hk with h | h
  · exact h2 k h
  · exact hS k h
theorem Ab.only (h : Ab base w w') (hb : w.heap.size ≤ base) : Only [] w w' := by
  obtain ⟨R, h1, h2⟩ := h
  exact h1.mono (fun k hk => .inr (Nat.le_trans hb (h2 k hk)))
theorem Ab.size (h : Ab base w w') : w.heap.size ≤ w'.heap.size := h.choose_spec.1.size
theorem CT.only {f : Path → Option Nat} {by_ : Path → List Path} (h : CT w c lb bb base nl nb v T f by_ hs) (ho : Only S w w') (hS : ∀ k ∈ S, k ∉ c :: lb :: bb :: ownL v ∧ k ∉ T) : CT w' c lb bb base nl nb v T f by_ hs := by
  obtain ⟨k1, k2, ⟨F, k3, k4⟩, k5, k6, k7, k8⟩ := h
  exact ⟨⟨k1.blk.only ho (fun hm => (hS _ hm).1 (by simp)), k1.own.only ho (fun k hk hm => (hS _ hm).1 (by simp [hk])), k1.far, k1.small⟩, k2, ⟨F, k3.only ho (fun hm => (hS _ hm).1 (by simp)), k4⟩, k5.only ho (fun hm => (hS _ hm).1 (by simp)) (fun k hk hm => (hS _ hm).2 hk), k6, k7, k8.1, k8.2.1, k8.2.2.1, Nat.le_trans k8.2.2.2 ho.size⟩
theorem CT.own_lo {f : Path → Option Nat} {by_ : Path → List Path} (h : CT w c lb bb base nl nb v T f by_ hs) : ∀ k ∈ c :: ownL v, base ≤ k := fun k hk => by
  rcases List.mem_cons.1 hk with e | e
  · rw [e]; exact h.lo.1
  · exact (h.hb.own.lt k e).1
/-- what a round of take knows -/
def TkR (w0 wr : World) (c lb bb base : Nat) (l : List Nd) (out : List Path) (vo v : Value) (hs : List Path) (T : List Nat) (nl nb n : Nat) : Prop :=
  CT wr c lb bb base nl nb v T (lf l impL out none []) (byL l impL) hs ∧ Wt l hs out ∧ Tk l out ∧ takeN l n out = taken l ∧ out.length + n = l.length ∧ OwnR 9 1 wr base vo out.length (svs out) ∧ (∀ k ∈ ownL vo, k ∉ c :: lb :: bb :: ownL v ∧ k ∉ T) ∧ Ab base w0 wr ∧ nl ≤ 60 + 61 * out.length
/-- what the counting down knows -/
def TkI (w0 wr : World) (c lb bb base : Nat) (l : List Nd) (out : List Path) (s : Path) (vo v : Value) (hs : List Path) (T : List Nat) (nl nb j : Nat) (bv : Value) : Prop :=
  CT wr c lb bb base nl nb v T (lf l impL out (some s) ((byL l impL s).take j)) (byL l impL) hs ∧ WtI l impL hs out s ((byL l impL s).take j) ∧ OwnR 9 1 wr base vo (out ++ [s]).length (svs (out ++ [s])) ∧ (∀ k ∈ ownL vo, k ∉ c :: lb :: bb :: ownL v ∧ k ∉ T) ∧ OwnR 9 1 wr base bv (byL l impL s).length (svs (byL l impL s)) ∧ (∀ k ∈ ownL bv, k ∈ T) ∧ Ab base w0 wr ∧ nl ≤ 60 + 61 * out.length + j
set_option maxHeartbeats 8000000 in
theorem take_any (hct : CT w c lb bb base nl nb v T (cntF l) (byL l impL) hs) (hp : hs.Perm (freeL l)) (hnd : ¬ dup l) (hl : l.length ≤ 60) (hnl : nl ≤ 60) (hpl : ∀ x ∈ l, x.path.length ≤ 300 ∧ x.imps.length ≤ 40) :
    Calls Try.prog 25 #[.pointer (some ⟨c, 0, none⟩)] w fun y w' => ∃ vo, y = .returned vo ∧ OwnR 9 1 w' base vo (taken l).length (svs (taken l)) ∧ Ab base w w' ∧ ∃ v T hs nl nb, CT w' c lb bb base nl nb v T (lf l impL (taken l) none []) (byL l impL) hs ∧ nl ≤ 100000 := by
  have hO := impL_owns hnd
  have HO := Lib.hid hO
  rw [cntF_lf] at hct
  have HST : Hid (TkR w w c lb bb base l [] (.slice none 0 0) v hs T nl nb l.length) := Lib.hid ⟨hct, Wt.start hO hp, Tk.nil l, rfl, by simp, OwnR.nil_ _ _ _ _, by simp [ownL, Value.ownBlock], Ab.refl _ _, by simpa using hnl⟩
  have HPL := Lib.hid hpl
  clear hct hp hnd hO hpl hnl
  go_enter Try.func25, Try.ntmps25
  go_wp2_with fail
  go_loopg [3] l.length (fun gk vo wr => ∃ (out : List Path) (v : Value) (hs : List Path) (T : List Nat) (nl nb : Nat), TkR w wr c lb bb base l out vo v hs T nl nb gk)
  case atStart => exact ⟨[], v, hs, T, nl, nb, HST.out⟩
  case round =>
    obtain ⟨out, v1, hs1, T1, nl1, nb1, hct, hwt, hT, htk, hlen, hown, hfar, hab, hnl1⟩ := hrel
    clear HST
    have HCT := Lib.hid hct
    have HWT := Lib.hid hwt
    have HT := Lib.hid hT
    have HTK := Lib.hid htk
    have HOWN := Lib.hid hown
    have HFAR := Lib.hid hfar
    have HAB := Lib.hid hab
    have HNX := Lib.hid hwt.next
    clear hct hwt hT htk hown hfar hab
    obtain ⟨A1, cap1, hv1, hcap1, _⟩ := HCT.out.hb.own.shape (by decide)
    subst hv1
    have c2 : wr.cell? ⟨c, 2, none⟩ = some (.slice A1 hs1.length cap1) := HCT.out.hb.blk.cell 2
    obtain ⟨Ao, capo, hvo, _⟩ := HOWN.out.shape (by decide)
    subst hvo
    have HLN := Lib.hid (hlen_any A1 hs1.length cap1 wr)
    rcases Nat.eq_zero_or_pos hs1.length with h0 | h0
    · have hs0 : hs1 = [] := List.length_eq_zero_iff.1 h0
      have d1 : decide ((0 : Int) < ((hs1.length : Nat) : Int)) = false := decide_eq_false (by omega)
      have d1' : decide (0 < hs1.length) = false := decide_eq_false (by omega)
      have HD : Hid (out = taken l) := Lib.hid (take_done HTK.out (by rw [HNX.out, hs0]; rfl))
      have HLEN := Lib.hid hlen
      clear hs0 h0 hlen
      go_wp2_with (go_at_call 43; refine HLN.out.mono ?_; rintro y wn ⟨rfl, hwn⟩; have hwn := hwn.symm; subst hwn)
      go_ret
      have hd := HD.out
      have h1 := HCT.out
      have h2 := HOWN.out
      rw [hd] at h1 h2
      refine ⟨_, rfl, ?_, HAB.out, _, T1, hs1, nl1, nb1, h1, by have := HLEN.out; omega⟩
      rw [hd]
      exact h2
    · obtain ⟨m, hm⟩ : ∃ m, hs1.length = m + 1 := ⟨hs1.length - 1, by omega⟩
      have d1 : decide ((0 : Int) < ((hs1.length : Nat) : Int)) = true := decide_eq_true (by omega)
      have d1' : decide (0 < hs1.length) = true := decide_eq_true (by omega)
      have hnx := hnext_any HCT.out.hb hm (by have := HCT.out.heap; rw [hm] at this; exact this)
      unfold cp at hnx
      have HNXT := Lib.hid hnx
      have HM := Lib.hid hm
      have HLEN := Lib.hid hlen
      have hol : out.length ≤ 60 := by omega
      clear hnx hm h0 hlen
      go_upto_region 4 with (first
        | (go_at_call 43; refine HLN.out.mono ?_; rintro y wn ⟨rfl, hwn⟩; have hwn := hwn.symm; subst hwn)
        | (go_at_call 44; refine HNXT.out.mono ?_; rintro y w2 ⟨s, rfl, hP⟩; have HP := Lib.hid hP; clear hP))
      obtain ⟨hle, v2, hs2, hb2, hp2, hh2, hv2, ho2⟩ := HP.out
      have HNP : Hid (nextP l out = some s) := Lib.hid (by rw [HNX.out]; exact hle)
      have HCT2 := Lib.hid (HCT.out.heap_ hb2 hh2 (by intro k hk; rw [hv2] at hk; exact .inl hk) ho2)
      have HWI := Lib.hid (Wt.pop (own := impL) HWT.out hp2)
      have HV2 := Lib.hid hv2
      have hown2 := HOWN.out.only ho2 (fun k hk hm => by
        have h1 := (HFAR.out k hk).1
        rcases List.mem_cons.1 hm with e | e
        · exact h1 (by simp [e])
        · exact h1 (by simp [e]))
      have HOWN2 := Lib.hid hown2
      have HFAR2 : Hid (∀ k ∈ ownL (.slice Ao out.length capo), k ∉ c :: lb :: bb :: ownL v2 ∧ k ∉ T1) := Lib.hid (by rw [hv2]; exact HFAR.out)
      have HAB2 := Lib.hid (HAB.out.then ho2 HCT.out.own_lo)
      have HS := Lib.hid (show s.length ≤ 300 by
        obtain ⟨_, x, hx, he, _⟩ := nextP_some HNP.out
        rw [← he]
        exact (HPL.out x hx).1)
      clear hle hb2 hp2 hh2 hv2 ho2 hown2 HP HNXT HLN c2
      have hm0 : v2 = v2 := rfl
      go_upto_region 5 with (at_builtin; refine wpList_append1 (w := w2) rfl (.tmp 17) (.tmp 19) 25 rfl Try.underlying25 str_inf rfl (by decide) rfl HOWN2.out rfl rfl (row := [sv s]) rfl rfl (by intro u hu; rw [List.mem_singleton.1 hu]; rfl) (by omega) (by unfold maxLen; omega) (Nat.le_trans HCT2.out.lo.2.2.2 (Nat.le_succ _)) ?_; intro v5 w5 hE; obtain ⟨A5, c5, e5, _⟩ := hE.own.shape (by decide); subst e5; have HE := Lib.hid hE; clear hE)
      have hlo5 : ∀ k ∈ ownL (.slice Ao out.length capo), base ≤ k := fun k hk => (HOWN2.out.lt k hk).1
      have HCT5 := Lib.hid (HCT2.out.only HE.out.only HFAR2.out)
      have HAB5 := Lib.hid (HAB2.out.then HE.out.only hlo5)
      have hlen5 : out.length + 1 = (out ++ [s]).length := by simp
      have HOWN5 : Hid (OwnR 9 1 w5 base (.slice A5 (out.length + 1) c5) (out ++ [s]).length (svs (out ++ [s]))) := Lib.hid (by
        have h1 := HE.out.own
        have h2 : svs out ++ [[sv s]] = svs (out ++ [s]) := by unfold svs; simp
        rw [h2] at h1
        rw [← hlen5]
        exact h1)
      have HFAR5 : Hid (∀ k ∈ ownL (.slice A5 (out.length + 1) c5), k ∉ c :: lb :: bb :: ownL v2 ∧ k ∉ T1) := Lib.hid (fun k hk => by
        rcases HE.out.fresh k hk with h | h
        · exact HFAR2.out k h
        · have hlt := HCT2.out.lt
          refine ⟨fun hm => ?_, fun hm => by have := (HCT2.out.by'.lo k hm).2; omega⟩
          simp only [List.mem_cons] at hm
          rcases hm with e | e | e | e
          · omega
          · omega
          · omega
          · have := (HCT2.out.hb.own.lt k e).2; omega)
      obtain ⟨LF, hlv, hlm, hln⟩ := HCT5.out.left_
      have HLV := Lib.hid hlv
      have HLM := Lib.hid hlm
      have HLN := Lib.hid hln
      have c50 : w5.cell? ⟨c, 0, none⟩ = some (.map (some lb)) := HCT5.out.hb.blk.cell 0
      clear hlv hlm hln hlo5 HE HOWN HOWN2 HFAR HFAR2 HAB HAB2 HCT2
      go_upto_region 6 with (at_delete; refine wpList_drop rfl (.tmp 24) (.tmp 25) 59 9 rfl 3 lawS Try.underlying59 rfl HLV.out rfl (keyS (k := s) (by have := HS.out; unfold maxLen; omega)) ?_; intro w6 hv6 ho6; have HV6 := Lib.hid hv6; have HO6 := Lib.hid ho6; clear hv6 ho6)
      have hct6 := HLN.out w6 _ _ _ HV6.out (HLM.out.drop s) HO6.out
      rw [lf_begin'] at hct6
      have HCT6 := Lib.hid hct6
      have HAB6 := Lib.hid (HAB5.out.then HO6.out (fun k hk => by rw [List.mem_singleton.1 hk]; exact HCT5.out.lo.2.1))
      have HOWN6 := Lib.hid (HOWN5.out.only HO6.out (fun k hk hm => (HFAR5.out k hk).1 (by rw [List.mem_singleton.1 hm]; simp)))
      obtain ⟨bg, bv, hbm, hbg, hbv, hbT, _⟩ := HCT6.out.by'.at_ s
      obtain ⟨Aq, capb, hbve, _, _, _, hAb⟩ := hbv.shape (by decide)
      subst hbve
      have hlk : (Instr.lookup 60 (.map (some bb)) (.string (str s)) false).run Try.prog w6 = .ok (.slice Aq (byL l impL s).length capb) w6 := by rw [hbm.run_look1 lawS Try.underlying60 (zeroL _) (keyS (k := s) (by have := HS.out; unfold maxLen; omega)), hbg]
      have c61 : w6.cell? ⟨c, 1, none⟩ = some (.map (some bb)) := HCT6.out.hb.blk.cell 1
      obtain ⟨nbs, hnbs⟩ : ∃ nbs, (byL l impL s).length = nbs := ⟨_, rfl⟩
      have hnb60 : nbs ≤ 60 := by rw [← hnbs]; exact Nat.le_trans (byL_len l s) hl
      have HNBS := Lib.hid hnbs
      have HST : Hid (TkI w w6 c lb bb base l out s (.slice A5 (out.length + 1) c5) v2 hs2 T1 nl1 nb1 0 (.slice Aq nbs capb)) := Lib.hid ⟨by rw [List.take_zero]; exact HCT6.out, by rw [List.take_zero]; exact HWI.out, HOWN6.out, HFAR5.out, by rw [← hnbs]; exact hbv, by rw [← hnbs]; exact hbT, HAB6.out, by omega⟩
      rw [hnbs] at hlk
      clear hct6 hbm hbg hbv hbT hnbs hlen5 HV6 HLV HLM HLN HO6 HCT5 HAB5 HOWN5 HFAR5 HCT6 HAB6 HOWN6 HWI c50 hm0
      go_wp2_with fail
      go_loopw [33] (fun jv wr => ∃ (j : Nat) (v : Value) (hs : List Path) (T : List Nat) (nl nb : Nat), jv = .int .i64 j ∧ j ≤ nbs ∧ TkI w wr c lb bb base l out s (.slice A5 (out.length + 1) c5) v hs T nl nb j (.slice Aq nbs capb)) (fun jv _ => nbs - (intOf jv).toNat)
      case atStart => exact ⟨0, v2, hs2, T1, nl1, nb1, rfl, by omega, HST.out⟩
      case round =>
        obtain ⟨j, v3, hs3, T3, nl3, nb3, rfl, hj, hct, hwi, hown, hfar, hbv, hbT, hab, hnl3⟩ := hrel
        clear HST
        have HCT := Lib.hid hct
        have HWI := Lib.hid hwi
        have HOWN := Lib.hid hown
        have HFAR := Lib.hid hfar
        have HBV := Lib.hid hbv
        have HBT := Lib.hid hbT
        have HAB := Lib.hid hab
        clear hct hwi hown hfar hbv hbT hab hlk c61
        by_cases hjn : j < nbs
        · have e1 : decide ((j : Int) < (nbs : Int)) = true := decide_eq_true (by omega)
          have e1' : decide (j < nbs) = true := decide_eq_true hjn
          have hbw := HBV.out
          rw [HNBS.out] at hbw
          obtain ⟨A6', c6', e6, hc6, _, _, h6⟩ := hbw.shape (by decide)
          obtain ⟨g6, hg6⟩ : ∃ g6, Aq = some ⟨g6, 0, none⟩ := by
            injection e6 with e7 e8 e9
            rcases h6 with ⟨_, h0⟩ | ⟨g, h0, _⟩
            · omega
            · exact ⟨g, by rw [e7, h0]⟩
          subst hg6
          have q0 := hbw.cellOf (i := j) (j := 0) hjn (by decide)
          rw [svs_get (by rw [HNBS.out]; exact hjn)] at q0
          simp only [Nat.mul_one, Nat.add_zero] at q0
          have hbm : hat (byL l impL s) j ∈ byL l impL s := hat_mem (by rw [HNBS.out]; exact hjn)
          have htk2 : (byL l impL s).take (j + 1) = (byL l impL s).take j ++ [hat (byL l impL s) j] := take_hat (by rw [HNBS.out]; exact hjn)
          obtain ⟨x, hx, hxp, hxs⟩ := byL_node hbm
          rw [← hxp] at q0 htk2
          have hnin : x.path ∉ (byL l impL s).take j := by
            have hn := byL_nodup HO.out.nd s
            rw [← List.take_append_drop (j + 1) (byL l impL s), htk2, List.nodup_append] at hn
            have h2 := hn.1
            rw [List.nodup_append] at h2
            exact fun hm => h2.2.2 _ hm x.path (by simp) rfl
          obtain ⟨hso, hxo, hxn⟩ := later HO.out.nd HT.out HNP.out hx hxs
          have hp300 := (HPL.out x hx).1
          have hi40 := (HPL.out x hx).2
          have hcnt := leftC_in (impL_own x).nd hxs hso
          obtain ⟨n1, hn1⟩ : ∃ n1, leftC (impL x) (out ++ [s]) = n1 := ⟨_, rfl⟩
          rw [hn1] at hcnt
          obtain ⟨LF, hlv, hlm, hln⟩ := HCT.out.left_
          have hLb : LF (.string x.path) = some (.int .i64 ((n1 + 1 : Nat) : Int)) := by
            rw [hlm x.path, lf_node_in HO.out.nd hx hxo hxn, if_neg hnin, hcnt]
            rfl
          have hl1 : (Instr.lookup 59 (.map (some lb)) (.string (str x.path)) false).run Try.prog wr = .ok (.int .i64 ((n1 + 1 : Nat) : Int)) wr := by rw [hlv.run_look1 lawS Try.underlying59 (zeroI _) (keyS (k := x.path) (by unfold maxLen; omega)), hLb]; rfl
          have hsub : ((n1 + 1 : Nat) : Int) - 1 = (n1 : Int) := by omega
          have HLV := Lib.hid hlv
          have HLM := Lib.hid hlm
          have HLN := Lib.hid hln
          have HX := Lib.hid (And.intro hx (And.intro hxs (And.intro hso (And.intro hxo (And.intro hxn hnin)))))
          have HTK2 := Lib.hid htk2
          have HN1 := Lib.hid hn1
          have c0 : wr.cell? ⟨c, 0, none⟩ = some (.map (some lb)) := HCT.out.hb.blk.cell 0
          have hn60 : n1 ≤ 40 := by
            rw [← hn1]
            exact Nat.le_trans (List.length_filter_le _ _) (Nat.le_trans (impL_len x) hi40)
          unfold sv at q0
          clear hbw e6 hc6 h6 hbm htk2 hx hxp hxs hnin hso hxo hxn hcnt hn1 hlv hlm hln hLb
          go_upto_region 10 with (at_mapUpdate; refine wpList_put (f := LF) (n := nl3) (val := .int .i64 (n1 : Int)) rfl (.tmp 40) (.tmp 41) (.tmp 43) 59 rfl 9 3 lawS Try.underlying59 rfl HLV.out (by unfold maxLen; omega) rfl rfl (keyS (k := x.path) (by unfold maxLen; omega)) ?_; intro w7 hv7 ho7; have HV7 := Lib.hid hv7; have HO7 := Lib.hid ho7; clear hv7 ho7)
          have hct7 := HLN.out w7 _ _ _ HV7.out (HLM.out.put x.path n1) HO7.out
          have hst := lf_step (out := out) (s := s) (bs := (byL l impL s).take j) HO.out.nd HX.out.1 HX.out.2.2.2.1 HX.out.2.2.2.2.1
          rw [HN1.out] at hst
          rw [hst, ← HTK2.out] at hct7
          have HCT7 := Lib.hid hct7
          have hl7 : (Instr.lookup 59 (.map (some lb)) (.string (str x.path)) false).run Try.prog w7 = .ok (.int .i64 (n1 : Int)) w7 := by rw [HV7.out.run_look1 lawS Try.underlying59 (zeroI _) (keyS (k := x.path) (by unfold maxLen; omega)), upd_same]; rfl
          have c70 : w7.cell? ⟨c, 0, none⟩ = some (.map (some lb)) := HCT7.out.hb.blk.cell 0
          have HOWN7 := Lib.hid (HOWN.out.only HO7.out (fun k hk hm => (HFAR.out k hk).1 (by rw [List.mem_singleton.1 hm]; simp)))
          have HBV7 := Lib.hid (HBV.out.only HO7.out (fun k hk hm => HCT.out.far.2.1 (by rw [← List.mem_singleton.1 hm]; exact HBT.out k hk)))
          have HAB7 := Lib.hid (HAB.out.then HO7.out (fun k hk => by rw [List.mem_singleton.1 hk]; exact HCT.out.lo.2.1))
          have hj60 : j < 60 := by omega
          clear hct7 hst HLN HLM HLV HV7 hl1 hsub c0 q0
          by_cases hz : n1 = 0
          · subst hz
            have HWI8 := Lib.hid (fun (hs8 : List Path) (hp : hs8.Perm (x.path :: hs3)) => HWI.out.step HO.out HX.out.1 HX.out.2.1 HX.out.2.2.1 HX.out.2.2.2.1 HX.out.2.2.2.2.1 HX.out.2.2.2.2.2 (fun _ => hp) (fun h => absurd HN1.out h))
            have hlen3 : hs3.length ≤ 60 := by
              have h1 := nodup_le (A := hs3) (B := l.map (·.path)) HWI.out.nd (fun a ha => by
                obtain ⟨_, y, hy, e, _⟩ := (HWI.out.mem a).1 ha
                exact List.mem_map.2 ⟨y, hy, e⟩)
              rw [List.length_map] at h1
              omega
            have hpu := hPush_any HCT7.out.hb HCT7.out.heap x.path (by omega) HCT7.out.lo.2.2.2
            unfold ifc cp sv at hpu
            have HPU := Lib.hid hpu
            clear hpu
            go_wp2_with (go_at_call 42; refine HPU.out.mono ?_; rintro y w8 ⟨rfl, hP⟩; have HP := Lib.hid hP; clear hP)
            obtain ⟨v8, hs8, h8, hp8, hh8, hf8, ho8⟩ := HP.out
            have HCT8 := Lib.hid (HCT7.out.heap_ h8 hh8 hf8 ho8)
            have hcv : ∀ k ∈ c :: ownL v3, k ∉ T3 := fun k hk => by
              rcases List.mem_cons.1 hk with e | e
              · rw [e]; exact HCT7.out.far.1
              · exact HCT7.out.far.2.2.2 k e
            have HFIN : Hid (TkI w w8 c lb bb base l out s (.slice A5 (out.length + 1) c5) v8 hs8 T3 (nl3 + 1) nb3 (j + 1) (.slice (some ⟨g6, 0, none⟩) nbs capb)) := Lib.hid (by
              refine ⟨HCT8.out, ?_, HOWN7.out.only ho8 (fun k hk hm => (HFAR.out k hk).1 ?_), fun k hk => ⟨fun hm => ?_, (HFAR.out k hk).2⟩, HBV7.out.only ho8 (fun k hk hm => hcv k hm (HBT.out k hk)), HBT.out, HAB7.out.then ho8 HCT7.out.own_lo, by omega⟩
              · rw [HTK2.out]
                exact HWI8.out hs8 (hp8.trans List.perm_append_comm)
              · rcases List.mem_cons.1 hm with e | e
                · simp [e]
                · simp [e]
              · have h1 := (HFAR.out k hk).1
                simp only [List.mem_cons] at hm h1
                rcases hm with e | e | e | e
                · exact h1 (.inl e)
                · exact h1 (.inr (.inl e))
                · exact h1 (.inr (.inr (.inl e)))
                · rcases hf8 k e with e | e
                  · exact h1 (.inr (.inr (.inr e)))
                  · have := (HOWN7.out.lt k hk).2; omega)
            clear h8 hp8 hh8 hf8 ho8 hcv HP HPU hl7 c70
            go_roundw
            case measure => simp [intOf]; omega
            case rel => exact ⟨j + 1, v8, hs8, T3, nl3 + 1, nb3, by go_num, by omega, HFIN.out⟩
          · have z1 : ((n1 : Int) == 0) = false := beq_eq_false_iff_ne.2 (by omega)
            have HFIN : Hid (TkI w w7 c lb bb base l out s (.slice A5 (out.length + 1) c5) v3 hs3 T3 (nl3 + 1) nb3 (j + 1) (.slice (some ⟨g6, 0, none⟩) nbs capb)) := Lib.hid ⟨HCT7.out, by rw [HTK2.out]; exact HWI.out.step HO.out HX.out.1 HX.out.2.1 HX.out.2.2.1 HX.out.2.2.2.1 HX.out.2.2.2.2.1 HX.out.2.2.2.2.2 (fun h => absurd (HN1.out.symm.trans h) hz) (fun _ => rfl), HOWN7.out, HFAR.out, HBV7.out, HBT.out, HAB7.out, by omega⟩
            go_wp2_with fail
            go_roundw
            case measure => simp [intOf]; omega
            case rel => exact ⟨j + 1, v3, hs3, T3, nl3 + 1, nb3, by go_num, by omega, HFIN.out⟩
        · obtain rfl : j = nbs := by omega
          have e1 : decide ((j : Int) < (j : Int)) = false := decide_eq_false (by omega)
          have hct9 := HCT.out
          have hwi9 := HWI.out
          rw [List.take_of_length_le (by rw [HNBS.out]; exact Nat.le_refl _)] at hct9 hwi9
          rw [lf_end' HO.out] at hct9
          have hso := (nextP_some HNP.out).1
          have HWT9 := Lib.hid (hwi9.done HO.out hso)
          obtain ⟨n', hn', htk', hlen'⟩ := take_next HTK.out HLEN.out HT.out HNP.out
          have HFIN : Hid (TkR w wr c lb bb base l (out ++ [s]) (.slice A5 (out.length + 1) c5) v3 hs3 T3 nl3 nb3 n') := Lib.hid ⟨hct9, HWT9.out, HT.out.snoc HNP.out, htk', hlen', HOWN.out, HFAR.out, HAB.out, by rw [List.length_append, List.length_singleton]; omega⟩
          clear hct9 hwi9 htk' hlen'
          go_wp2_with fail
          go_roundg n'
          case measure => omega
          case rel => exact ⟨out ++ [s], v3, hs3, T3, nl3, nb3, HFIN.out⟩
end
end Go.Proofs.Ytdfiibnpckahnaa.Graph
