/- (*mover).cycle walks. -/
import Derived.Test.YthaifmfioabmkaaMovesFree
namespace Go.Proofs.Ythaifmfioabmkaa.Moves
open Go.RowKit Go.Maps
set_option linter.unusedVariables false
set_option maxRecDepth 100000
/-- the cycle in which a place is, by the spare one; none: there is no such cycle -/
def cyc (first spare : Int) : Nat → List Mv → List Mv → Int → Option (List Mv × List Mv)
  | 0, _, _, _ => none
  | n + 1, S, O, p => match fro S p with
    | none => none
    | some s => if s = first then some (dropD S p, O ++ [⟨p, spare⟩]) else cyc first spare n (dropD S p) (O ++ [⟨p, s⟩]) s
theorem mw_app {w w5 : World} {p b1 b2 base N : Nat} {v v' : Value} {S G O : List Mv} {x : Mv} (h : MW w p b1 b2 v base N S G O) (hE : ExtR 33 2 w w5 base v v' (O.length + 1) (O.map Mv.row ++ [x.row])) (hl : O.length + 1 + S.length ≤ N) :
    MW (w5.setCell ⟨p, 2, none⟩ v') p b1 b2 v' base N S G (O ++ [x]) ∧ Turn w (w5.setCell ⟨p, 2, none⟩ v') p b1 b2 v v' := by
  obtain ⟨hb5, hb6, ho6, hown6⟩ := mw_out h hE
  obtain ⟨_, hpv, hp1, hp2⟩ := blk_step h
  obtain ⟨n1, hn1, hvm1⟩ := h.frm
  obtain ⟨n2, f, hn2, hvm2, haf⟩ := h.asked
  have h1 : b1 ∉ p :: ownL v := by
    intro hm
    rcases List.mem_cons.1 hm with e | e
    · exact hp1 e.symm
    · exact off_map h.out hvm1 e
  have h2 : b2 ∉ p :: ownL v := by
    intro hm
    rcases List.mem_cons.1 hm with e | e
    · exact hp2 e.symm
    · exact off_map h.out hvm2 e
  refine ⟨⟨hb6, ⟨n1, hn1, hvm1.only ho6 h1⟩, ⟨n2, f, hn2, hvm2.only ho6 h2, haf⟩, ?_, h.ne, h.uniq, by simp; omega, h.glen⟩, ho6.mono ?_, hE.fresh⟩
  · have e1 : (O ++ [x]).length = O.length + 1 := by simp
    have e2 : (O ++ [x]).map Mv.row = O.map Mv.row ++ [x.row] := by simp
    rw [e1, e2]
    exact hown6
  · intro g hg
    rcases List.mem_cons.1 hg with rfl | hg
    · exact .inl (by simp [mvBlocks])
    · exact .inl (by simp [mvBlocks, hg])
set_option maxHeartbeats 2000000 in
theorem cycle_any (p b1 b2 : Nat) (v : Value) (base N : Nat) (S G O : List Mv) (d sp : Int) (m : Nat) (r : List Mv × List Mv) (w : World) (h : MW w p b1 b2 v base N S G O) (ha : AllOk S) (hd : in64 d) (hsp : in64 sp) (hN : N ≤ 1000) (hb : base ≤ w.heap.size)
    (hl : O.length + 1 + S.length ≤ N) (hr : cyc d sp m S (O ++ [⟨sp, d⟩]) d = some r) :
    Calls Try.prog 22 #[.pointer (some ⟨p, 0, none⟩), .int .i64 d, .int .i64 sp] w fun x w' => ∃ v' G', x = .returned (.tuple #[]) ∧ MW w' p b1 b2 v' base N r.1 G' r.2 ∧ Turn w w' p b1 b2 v v' := by
  obtain ⟨⟨c0, c1, c2⟩, hpv, hp1, hp2⟩ := blk_step h
  have H := Lib.hid h
  have HA := Lib.hid ha
  have HD := Lib.hid hd
  have HSP := Lib.hid hsp
  have HR := Lib.hid hr
  clear h ha hd hr hsp
  go_enter Try.func22, Try.ntmps22
  go_wp2_with (at_builtin; refine wpList_append1 rfl (.tmp 12) (.tmp 16) 25 rfl Try.underlying25 mv_info rfl (by decide) rfl H.out.out rfl rfl (row := [.int .i64 sp, .int .i64 d]) rfl rfl (by intro u hu; simp at hu; rcases hu with rfl | rfl <;> rfl) (by omega) (by unfold maxLen; omega) (by omega) ?_; intro v' w5 hE; obtain ⟨A', cap', rfl, _⟩ := hE.own.shape (by decide); have HM := Lib.hid (mw_app (x := ⟨sp, d⟩) H.out hE hl); have HB5 := Lib.hid (mw_out (x := ⟨sp, d⟩) H.out hE).1; have y2 := HB5.out.cell 2; have f5 := HB5.out.frozen 2)
  go_loopg [1] m (fun gk i wr => ∃ (q : Int) (v1 : Value) (S1 O1 : List Mv), i = .int .i64 q ∧ in64 q ∧ AllOk S1 ∧ cyc d sp gk S1 O1 q = some r ∧ MW wr p b1 b2 v1 base N S1 G O1 ∧ Turn w wr p b1 b2 v v1)
  case atStart => exact ⟨d, _, S, _, rfl, HD.out, HA.out, HR.out, HM.out.1, HM.out.2⟩
  case round =>
    clear H HA HR HD HM HB5 y2 f5 c0 c1 c2 hpv hp1 hp2 hE
    obtain ⟨q, v1, S1, O1, rfl, hq, ha, hfr, h, ht⟩ := hrel
    cases gk with
    | zero => cases hfr
    | succ g' =>
    obtain ⟨⟨c0, c1, c2⟩, hpv, hp1, hp2⟩ := blk_step h
    obtain ⟨n1, hn1, hvm1⟩ := h.frm
    have hlk := VM.run_look1 hvm1 lawI Try.underlying38 (zeroI wr) (keyI hq)
    rw [fromF_ik] at hlk
    have hlenN := h.len
    rw [cyc] at hfr
    have H := Lib.hid h
    have HA := Lib.hid ha
    have HT := Lib.hid ht
    have HQ := Lib.hid hq
    have HV1 := Lib.hid hvm1
    have hbr : base ≤ wr.heap.size := Nat.le_trans hb ht.1.size
    clear h ha ht hvm1 hq
    cases hf : fro S1 q with
    | none =>
      rw [hf] at hfr
      cases hfr
    | some s =>
      rw [hf] at hlk hfr
      simp only [Option.map_some, Option.getD_some] at hlk hfr
      have hld := len_dropD H.out.uniq hf
      have HF := Lib.hid hf
      clear hf
      by_cases hk : s = d
      · rw [if_pos hk] at hfr
        injection hfr with hfr
        subst hk
        have hSp := HSP.out
        have HFR := Lib.hid hfr
        clear hfr hSp
        go_wp2_with (first
          | (at_builtin; refine wpList_append1 rfl (.tmp 34) (.tmp 38) 25 rfl Try.underlying25 mv_info rfl (by decide) rfl H.out.out rfl rfl (row := [.int .i64 q, .int .i64 sp]) rfl rfl (by intro u hu; simp at hu; rcases hu with rfl | rfl <;> rfl) (by omega) (by unfold maxLen; omega) (by omega) ?_; intro v' w5 hE; obtain ⟨A', cap', rfl, _⟩ := hE.own.shape (by decide); obtain ⟨hb5, hb6, ho6, hown6⟩ := mw_out (x := ⟨q, sp⟩) H.out hE; have x0 := hb6.cell 0; have y2 := hb5.cell 2; have f5 := hb5.frozen 2; have HV3 := Lib.hid (HV1.out.only ho6 (by intro h; rcases List.mem_cons.1 h with h | h; exact hp1 h.symm; exact off_map H.out.out HV1.out h)))
          | (at_delete; refine wpList_drop rfl (.tmp 45) (.tmp 46) 38 3 rfl 3 lawI Try.underlying38 rfl HV3.out rfl (keyI HQ.out) ?_; intro w7 hv7 ho7; go_frame))
        refine bodyPost_ret (results_none rfl _ _ _) rfl ?_
        obtain ⟨n2, f, hn2, hvm2, haf⟩ := H.out.asked
        have hn1 : b1 ∉ ownL (.slice A' (O1.length + 1) cap') := off_map hown6 HV3.out
        have hn2' : b2 ∉ p :: ownL v1 := by
          intro hm
          rcases List.mem_cons.1 hm with e | e
          · exact hp2 e.symm
          · exact off_map H.out.out hvm2 e
        have hown8 := hown6.only ho7 (fun g hg hm => hn1 (List.mem_singleton.1 hm ▸ hg))
        have haf' : AskF (dropD S1 q ++ (G ++ [⟨q, s⟩])) f := by
          intro x
          rw [haf x]
          have e1 := ask_dropD H.out.uniq HF.out x
          rw [ask_app, ask_app, ask_app, e1]
          have e2 : ask [(⟨q, s⟩ : Mv)] x = if s = x then 1 else 0 := by unfold ask; simp [List.countP_cons]
          rw [e2]
          congr 1
          omega
        have hgl := H.out.glen
        have hmw : MW w7 p b1 b2 (.slice A' (O1.length + 1) cap') base N (dropD S1 q) (G ++ [⟨q, s⟩]) (O1 ++ [⟨q, sp⟩]) := by
          refine ⟨hb6.only ho7 (by simpa using hp1), ⟨n1, by assumption, ?_⟩, ⟨n2, f, by omega, (hvm2.only ho6 hn2').only ho7 (by simpa using fun h => H.out.ne h.symm), haf'⟩, ?_, H.out.ne, H.out.uniq.dropD q, by simp; omega, by simp; omega⟩
          · rw [← fromF_drop]; exact hv7
          · have e1 : (O1 ++ [(⟨q, sp⟩ : Mv)]).length = O1.length + 1 := by simp
            have e2 : (O1 ++ [(⟨q, sp⟩ : Mv)]).map Mv.row = O1.map Mv.row ++ [[.int .i64 q, .int .i64 sp]] := by simp [Mv.row]
            rw [e1, e2]
            exact hown8
        rw [← HFR.out]
        refine ⟨_, _, rfl, hmw, HT.out.trans ⟨(ho6.mono (S' := mvBlocks p b1 b2 v1) ?_).trans (ho7.mono (S' := mvBlocks p b1 b2 v1) ?_) (fun g hg => .inl hg), hE.fresh⟩⟩
        · intro g hg
          rcases List.mem_cons.1 hg with rfl | h
          · exact .inl (by simp [mvBlocks])
          · exact .inl (by simp [mvBlocks, h])
        · intro g hg
          exact .inl (by simp [mvBlocks, List.mem_singleton.1 hg])
      · rw [if_neg hk] at hfr
        have HFR := Lib.hid hfr
        clear hfr
        go_wp2_with (go_at_call 23; refine (do_any p b1 b2 v1 base N S1 G O1 q s wr H.out HF.out HQ.out (HA.out.fro HF.out) hN hbr).mono ?_; rintro x w2 ⟨v2, rfl, h2, ht2⟩)
        go_roundg g'
        case measure => omega
        case rel => exact ⟨s, v2, _, _, rfl, HA.out.fro HF.out, HA.out.dropD q, HFR.out, h2, HT.out.trans ht2⟩
end Go.Proofs.Ythaifmfioabmkaa.Moves
