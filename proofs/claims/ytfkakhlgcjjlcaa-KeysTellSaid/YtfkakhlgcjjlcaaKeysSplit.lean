/- The walks of keys: what any text is made of, by the program. -/
import Derived.Test.YtfkakhlgcjjlcaaKeysMade
import Derived.Test.YtfkakhlgcjjlcaaKeysUnpack
import Derived.Test.YtfkakhlgcjjlcaaRow
import Derived.Lib.Strings
namespace Go.Proofs.Ytfkakhlgcjjlcaa.Keys
open Go.RowKit Codec
set_option linter.unusedVariables false
set_option maxRecDepth 100000

theorem dep_info : (Try.prog.info? 69).map (fun i => (i.zero, i.size, i.bytes)) = some (some (.agg #[.string ⟨#[]⟩, .string ⟨#[]⟩]), 2, 32) := by kernel_rfl
theorem dep_one (d : DepT) : ∀ u ∈ depRow d, u.oneCell' = true := by intro u hu; simp [depRow] at hu; rcases hu with rfl | rfl <;> rfl
def hasB (s : ByteArray) : Bool := decide (4 ≤ s.size ∧ s.extract 0 4 = magicB)
theorem has_any (s : ByteArray) (w : World) : Calls Try.prog 48 #[.string s, .string ⟨#[84, 77, 75, 49]⟩] w fun x w' => x = .returned (.bool (hasB s)) ∧ w = w' := by
  by_cases h4 : 4 ≤ s.size
  · have d4 : decide ((4 : Int) ≤ (s.size : Int)) = true := decide_eq_true (by omega)
    have h4' : (4 : Int) ≤ (s.size : Int) := by omega
    by_cases hx : s.extract 0 4 = ⟨#[84, 77, 75, 49]⟩
    · have hh : hasB s = true := by unfold hasB; exact decide_eq_true ⟨h4, hx⟩
      have HH := Lib.hid hh
      clear hh
      go_enter Try.func48, Try.ntmps48
      go_wp2_with fail
      go_ret
      exact ⟨by rw [HH.out]; rfl, rfl⟩
    · have hh : hasB s = false := by unfold hasB; exact decide_eq_false (fun h => hx h.2)
      have HH := Lib.hid hh
      clear hh
      go_enter Try.func48, Try.ntmps48
      have hne : ((s.extract 0 4).toList == [84, 77, 75, 49]) = false := by
        rw [Lib.toList_data]
        refine beq_eq_false_iff_ne.2 (fun h => hx ?_)
        apply ByteArray.ext
        apply Array.ext'
        exact h
      go_wp2_with fail
      go_ret
      exact ⟨by rw [HH.out]; rfl, rfl⟩
  · have d4 : decide ((4 : Int) ≤ (s.size : Int)) = false := decide_eq_false (by omega)
    have hh : hasB s = false := by unfold hasB; exact decide_eq_false (fun h => h4 h.1)
    have HH := Lib.hid hh
    clear hh
    go_enter Try.func48, Try.ntmps48
    go_wp2_with fail
    go_ret
    exact ⟨by rw [HH.out]; rfl, rfl⟩
theorem cut_any (s : ByteArray) (w : World) : Calls Try.prog 41 #[.string s, .string ⟨#[84, 77, 75, 49]⟩] w fun x w' => x = .returned (.tuple #[.string (if hasB s then s.extract 4 s.size else s), .bool (hasB s)]) ∧ w = w' := by
  have hin : Calls Try.prog 46 #[.string s, .string ⟨#[84, 77, 75, 49]⟩] w fun x w' => x = .returned (.tuple #[.string (if hasB s then s.extract 4 s.size else s), .bool (hasB s)]) ∧ w = w' := by
    have hh := has_any s w
    cases hb : hasB s with
    | true =>
      have h4 : 4 ≤ s.size := by unfold hasB at hb; exact (of_decide_eq_true hb).1
      have h4' : (4 : Int) ≤ (s.size : Int) := by omega
      rw [hb] at hh
      simp only [if_true]
      clear hb
      go_enter Try.func46, Try.ntmps46
      go_wp2_with (go_at_call 48; refine hh.mono ?_; rintro x wx ⟨rfl, rfl⟩)
      exact bodyPost_ret (v := .tuple #[.string (s.extract 4 s.size), .bool true]) (by simp [results, Try.results46, go_sem]) rfl ⟨rfl, rfl⟩
    | false =>
      rw [hb] at hh
      simp only [Bool.false_eq_true, if_false]
      clear hb
      go_enter Try.func46, Try.ntmps46
      go_wp2_with (go_at_call 48; refine hh.mono ?_; rintro x wx ⟨rfl, rfl⟩)
      exact bodyPost_ret (v := .tuple #[.string s, .bool false]) (by simp [results, Try.results46, go_sem]) rfl ⟨rfl, rfl⟩
  generalize (if hasB s then s.extract 4 s.size else s) = X at hin ⊢
  generalize hasB s = bb at *
  go_enter Try.func41, Try.ntmps41
  go_wp2_with (go_at_call 46; refine hin.mono ?_; rintro x wx ⟨rfl, rfl⟩)
  exact bodyPost_ret (v := .tuple #[.string X, .bool bb]) (by simp [results, Try.results41, go_sem]) rfl ⟨rfl, rfl⟩

theorem str_list (l : List UInt8) : (str l).data.toList = l := by simp [str]
theorem rcount_255 (st : Option (List UInt8)) : rcount 255 st ≤ 255 := by unfold rcount; split <;> omega
def splitV (s : ByteArray) (v : Value) : Value := .tuple #[.int .i64 ((splitR s).1.1 : Nat), .string (splitR s).1.2.1, .string (splitR s).1.2.2.1, v, .int .i64 (splitR s).2]
theorem split_bad {s : ByteArray} (h : splitOf s = none) : splitR s = ((0, ⟨#[]⟩, ⟨#[]⟩, []), 5) := by unfold splitR; rw [h]
theorem split_ok {s : ByteArray} {m : MadeT} (h : splitOf s = some m) : splitR s = (m, 0) := by unfold splitR; rw [h]

set_option maxHeartbeats 2000000 in
theorem split_any (s : ByteArray) (w : World) (hs : s.size ≤ 140737488355328) :
    Calls Try.prog 30 #[.string s] w fun x w' => ∃ v, x = .returned (splitV s v) ∧ OwnR 69 2 w' w.heap.size v (splitR s).1.2.2.2.length ((splitR s).1.2.2.2.map depRow) ∧ Only [] w w' := by
  have hcut := cut_any s w
  cases hb : hasB s with
  | false =>
    have hR : splitR s = ((0, ⟨#[]⟩, ⟨#[]⟩, []), 5) := split_bad (by
      unfold splitOf
      rw [if_neg]
      rintro ⟨h1, h2, _⟩
      unfold hasB at hb
      exact of_decide_eq_false hb ⟨h1, h2⟩)
    rw [hb] at hcut
    unfold splitV
    rw [hR]
    clear hR hb
    go_enter Try.func30, Try.ntmps30
    go_wp2_with (go_at_call 41; refine hcut.mono ?_; rintro x wx ⟨rfl, rfl⟩)
    exact bodyPost_ret (v := .tuple #[.int .i64 0, .string ⟨#[]⟩, .string ⟨#[]⟩, .slice none 0 0, .int .i64 5]) (by simp [results, Try.results30, go_sem]) rfl ⟨_, rfl, OwnR.nil_ _ _ _ _, Only.refl _ _⟩
  | true =>
    rw [hb] at hcut
    have hb' := of_decide_eq_true hb
    by_cases hl : 65536 < s.size
    · have d1 : decide ((65536 : Int) < (s.size : Int)) = true := decide_eq_true (by omega)
      have hR : splitR s = ((0, ⟨#[]⟩, ⟨#[]⟩, []), 5) := split_bad (by
        unfold splitOf
        rw [if_neg]
        rintro ⟨_, _, h3⟩
        omega)
      unfold splitV
      rw [hR]
      clear hR hb hb' hl
      go_enter Try.func30, Try.ntmps30
      go_wp2_with (go_at_call 41; refine hcut.mono ?_; rintro x wx ⟨rfl, rfl⟩)
      exact bodyPost_ret (v := .tuple #[.int .i64 0, .string ⟨#[]⟩, .string ⟨#[]⟩, .slice none 0 0, .int .i64 5]) (by simp [results, Try.results30, go_sem]) rfl ⟨_, rfl, OwnR.nil_ _ _ _ _, Only.refl _ _⟩
    · have d1 : decide ((65536 : Int) < (s.size : Int)) = false := decide_eq_false (by omega)
      have hS : splitOf s = madeOf (s.data.toList.drop 4) := by unfold splitOf; rw [if_pos ⟨hb'.1, hb'.2, by omega⟩]
      have HS := Lib.hid hS
      have hxl : (s.extract 4 s.size).data.toList = s.data.toList.drop 4 := by
        rw [extract_str, str_list, List.take_of_length_le (by simp)]
      have hxs : (s.extract 4 s.size).size = s.size - 4 := by rw [ByteArray.size_extract]; omega
      obtain ⟨cap, w1, hcv, hB1, hon1, hcc, hcm, hsz1⟩ := bytes_of w (s.extract 4 s.size) (by rw [hxs]; unfold maxLen; omega)
      rw [hxl, hxs] at hB1
      rw [hxs] at hcv hcc
      clear hxl hb hb' hS hl
      go_enter Try.func30, Try.ntmps30
      go_wp2_with (go_at_call 41; refine hcut.mono ?_; rintro x wx ⟨rfl, rfl⟩)
      refine (read_any _ (s.size - 4) cap _ _ w1 hB1 (by omega)).mono ?_
      rintro x w2 ⟨p, rfl, hR, hon2, hp⟩
      have hO := hon1.trans hon2 (by simp)
      have hpw : w.heap.size ≤ p := by omega
      clear hB1 hcv hcc hcm hsz1 hcut hon1 hon2 hp hxs
      unfold madeOf at HS
      generalize s.data.toList.drop 4 = l0 at *
      go_wp2_with fail
      refine (count_any p 255 _ w2 hR).mono ?_
      rintro x w3 ⟨rfl, hR3, hO3⟩
      have hO3' := hO.trans hO3 (by simp; omega)
      clear hR hO hO3
      generalize rcount 255 (some l0) = regs at *
      generalize rcounted 255 (some l0) = st1 at *
      go_wp2_with fail
      refine (text_r p 255 _ w3 hR3).mono ?_
      rintro x w4 ⟨rfl, hR4, hO4⟩
      have hO4' := hO3'.trans hO4 (by simp; omega)
      clear hR3 hO4 hO3'
      generalize str (rtext 255 st1) = path at *
      generalize rtexted 255 st1 = st2 at *
      go_wp2_with fail
      refine (text_r p 65535 _ w4 hR4).mono ?_
      rintro x w5 ⟨rfl, hR5, hO5⟩
      have hO5' := hO4'.trans hO5 (by simp; omega)
      clear hR4 hO5 hO4'
      generalize str (rtext 65535 st2) = txt at *
      generalize rtexted 65535 st2 = st3 at *
      go_wp2_with fail
      refine (count_any p 255 _ w5 hR5).mono ?_
      rintro x w6 ⟨rfl, hR6, hO6⟩
      have hO6' := hO5'.trans hO6 (by simp; omega)
      clear hR5 hO6 hO5'
      have hn255 := rcount_255 st3
      generalize rcount 255 st3 = n at *
      generalize rcounted 255 st3 = st4 at *
      obtain ⟨D, F, hDF⟩ : ∃ D F, rdeps n st4 = (D, F) := ⟨_, _, rfl⟩
      rw [hDF] at HS
      have HDF := Lib.hid hDF
      clear hDF
      go_wp2_with fail
      go_loopw [13, 14] (fun v i wr => ∃ (j : Nat) (st : Option (List UInt8)) (ds : List DepT), j + ds.length ≤ 255 ∧ i = .int .i64 j ∧ Hid (ds ++ (rdeps j st).1 = D ∧ (rdeps j st).2 = F) ∧ Rd wr p st ∧ OwnR 69 2 wr (p + 1) v ds.length (ds.map depRow) ∧ Only [] w wr) (fun _ i _ => (intOf i).toNat)
      case atStart => exact ⟨n, st4, [], by simpa using hn255, rfl, by unfold Hid; rw [HDF.out]; exact ⟨rfl, rfl⟩, hR6, OwnR.nil_ _ _ _ _, hO6'⟩
      case round =>
        obtain ⟨j, st, ds, hjd, rfl, hdf, hR, hD, hO⟩ := hrel
        have hgd := good_any p st wr hR
        have HG := Lib.hid hgd
        clear hgd
        by_cases hj : 0 < j
        · have dj : decide ((0 : Int) < (j : Int)) = true := decide_eq_true (by omega)
          cases st with
          | some l =>
            go_wp2_with (go_at_call 24; refine HG.out.mono ?_; rintro x wx ⟨rfl, rfl⟩)
            rw [show j = (j - 1) + 1 by omega, rdeps_succ] at hdf
            refine (text_r p 255 _ wr hR).mono ?_
            rintro x wa ⟨rfl, hRa, hOa⟩
            have hDa := hD.only hOa (fun g hg => by have := (hD.lt g hg).1; simp; omega)
            have hOa' := hO.trans hOa (by simp; omega)
            clear hR hD hO hOa HG
            generalize str (rtext 255 (some l)) = dp at *
            generalize rtexted 255 (some l) = sta at *
            go_wp2_with fail
            refine (text_r p 65535 _ wa hRa).mono ?_
            rintro x wb ⟨rfl, hRb, hOb⟩
            have hDb := hDa.only hOb (fun g hg => by have := (hDa.lt g hg).1; simp; omega)
            have hOb' := hOa'.trans hOb (by simp; omega)
            clear hRa hDa hOa' hOb
            generalize str (rtext 65535 sta) = de at *
            generalize rtexted 65535 sta = stb at *
            have hpb : p < wb.heap.size := by obtain ⟨A, n, c, hbb, _⟩ := hRb; exact hbb.lt
            go_wp2_with (at_builtin; refine wpList_append1 rfl (.tmp 49) (.tmp 54) 63 rfl Try.underlying63 dep_info rfl (by decide) rfl hDb rfl rfl (row := depRow (dp, de)) rfl rfl (dep_one _) (by omega) (by unfold maxLen; omega) (by omega) ?_; intro v' w' hE)
            go_roundw
            case rel =>
              refine ⟨j - 1, stb, ds ++ [(dp, de)], by simp; omega, by go_num, ?_, ?_, ?_, ?_⟩
              · unfold Hid
                have := hdf.out
                rw [List.append_assoc]
                exact this
              · exact hRb.later hE.only (fun g hg => by have := (hDb.lt g hg).1; omega)
              · rw [List.length_append, List.map_append]
                exact hE.own
              · exact hOb'.trans hE.only (fun g hg => .inr (by have := (hDb.lt g hg).1; omega))
            case measure => simp [intOf]; omega
          | none =>
            rw [rdeps_none] at hdf
            have hbad : splitR s = ((0, ⟨#[]⟩, ⟨#[]⟩, []), 5) := split_bad (by
              rw [HS.out, if_neg]
              intro h
              have := hdf.out.2
              rw [h] at this
              cases this)
            have hen := end_any p none wr hR
            have HE := Lib.hid hen
            have HV := Lib.hid hbad
            clear hen hbad HS
            go_wp2_with (first
              | (go_at_call 24; refine HG.out.mono ?_; rintro x wx ⟨rfl, rfl⟩)
              | (go_at_call 44; refine HE.out.mono ?_; rintro x wx ⟨rfl, rfl⟩))
            unfold splitV
            rw [HV.out]
            exact bodyPost_ret (v := .tuple #[.int .i64 0, .string ⟨#[]⟩, .string ⟨#[]⟩, .slice none 0 0, .int .i64 5]) (by simp [results, Try.results30, go_sem]) rfl ⟨_, rfl, OwnR.nil_ _ _ _ _, hO⟩
        · have dj : decide ((0 : Int) < (j : Int)) = false := decide_eq_false (by omega)
          obtain rfl : j = 0 := by omega
          have hd1 : ds = D := by have := hdf.out.1; simpa [rdeps] using this
          have hd2 : st = F := by have := hdf.out.2; simpa [rdeps] using this
          subst hd1
          subst hd2
          have hen := end_any p st wr hR
          have hD' : OwnR 69 2 wr w.heap.size u13 ds.length (ds.map depRow) := hD.mono (by omega)
          clear hdf HDF hD HG
          by_cases hF : st = some []
          · subst hF
            have hok : splitR s = ((regs, path, txt, ds), 0) := split_ok (by rw [HS.out, if_pos rfl])
            have HE := Lib.hid hen
            have HV := Lib.hid hok
            clear hen hok HS
            go_wp2_with (go_at_call 44; refine HE.out.mono ?_; rintro x wx ⟨rfl, rfl⟩)
            unfold splitV
            rw [HV.out]
            exact bodyPost_ret (v := .tuple #[.int .i64 (regs : Nat), .string path, .string txt, u13, .int .i64 0]) (by simp [results, Try.results30, go_sem]) rfl ⟨_, rfl, hD', hO⟩
          · have hbad : splitR s = ((0, ⟨#[]⟩, ⟨#[]⟩, []), 5) := split_bad (by rw [HS.out, if_neg hF])
            have hf : (st == some []) = false := beq_eq_false_iff_ne.2 hF
            rw [hf] at hen
            have HE := Lib.hid hen
            have HV := Lib.hid hbad
            clear hen hbad HS hf hF
            go_wp2_with (go_at_call 44; refine HE.out.mono ?_; rintro x wx ⟨rfl, rfl⟩)
            unfold splitV
            rw [HV.out]
            exact bodyPost_ret (v := .tuple #[.int .i64 0, .string ⟨#[]⟩, .string ⟨#[]⟩, .slice none 0 0, .int .i64 5]) (by simp [results, Try.results30, go_sem]) rfl ⟨_, rfl, OwnR.nil_ _ _ _ _, hO⟩
end Go.Proofs.Ytfkakhlgcjjlcaa.Keys
