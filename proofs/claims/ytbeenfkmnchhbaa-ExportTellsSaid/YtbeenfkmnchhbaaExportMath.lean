/- The plain law of lists of functions as bytes: what was laid is read as it was; what is read was laid so. -/
import Derived.Test.YtbeenfkmnchhbaaExportSame
import Derived.Test.YtbeenfkmnchhbaaCodecMath
namespace Go.Proofs.Ytbeenfkmnchhbaa.Export
open Go.RowKit Codec
set_option linter.unusedVariables false
set_option maxRecDepth 100000
theorem flatMap_same {α β : Type} {f g : α → List β} : ∀ (l : List α), (∀ x ∈ l, f x = g x) → l.flatMap f = l.flatMap g
  | [], _ => rfl
  | x :: l, h => by rw [List.flatMap_cons, List.flatMap_cons, h x (by simp), flatMap_same l (fun y hy => h y (by simp [hy]))]
def two (c : Nat) : List UInt8 := le c 2
def layD (d : SD) : List UInt8 := text d.1 ++ (two d.2.1.length ++ (d.2.1.flatMap two ++ two d.2.2))
theorem back_count (x : Nat) (b : List UInt8) (m : Int) (h : (x : Int) ≤ m) (hm : m ≤ 65535) : rcount m (some (two x ++ b)) = x ∧ rcounted m (some (two x ++ b)) = some b := by
  have hb := back_two x b (by omega)
  unfold rcount rcounted two
  rw [hb.1, hb.2, if_pos h, if_pos h]
  exact ⟨rfl, rfl⟩
theorem str_back (s : ByteArray) : str s.data.toList = s := by
  apply ByteArray.ext
  simp [str]
theorem le_back (l : List UInt8) (h : l.length = 2) : le (vle l) 2 = l := by
  match l, h with
  | [a, b], _ =>
    have ha := UInt8.toNat_lt a
    have hb := UInt8.toNat_lt b
    have hv : vle [a, b] = a.toNat + b.toNat * 256 := by
      have h1 := vle_snoc [a] b
      have h2 := vle_snoc [] a
      simp [vle] at h1 h2 ⊢
      omega
    rw [hv]
    show [byteAt _ 0, byteAt _ 1] = _
    have e0 : byteAt (a.toNat + b.toNat * 256) 0 = a := UInt8.toNat_inj.1 (by rw [byteAt_nat]; simp <;> omega)
    have e1 : byteAt (a.toNat + b.toNat * 256) 1 = b := UInt8.toNat_inj.1 (by rw [byteAt_nat]; simp <;> omega)
    rw [e0, e1]
theorem count_read (m : Int) (l t : List UInt8) (h : rcounted m (some l) = some t) : l = two (rcount m (some l)) ++ t := by
  unfold rcounted at h
  by_cases hm : (vle (rget 2 (some l)) : Int) ≤ m
  · rw [if_pos hm] at h
    have hc : rcount m (some l) = vle (rget 2 (some l)) := if_pos hm
    by_cases hl : l.length < 2
    · rw [rgot_bad hl] at h; cases h
    · rw [rgot_ok hl] at h
      injection h with h
      rw [hc, rget_ok hl]
      unfold two
      rw [le_back _ (by rw [List.length_take]; omega), ← h, List.take_append_drop]
  · rw [if_neg hm] at h; cases h
theorem text_read (l t : List UInt8) (h : rtexted 16 (some l) = some t) : l = text (str (rtext 16 (some l))) ++ t := by
  unfold rtexted at h
  cases hc : rcounted 16 (some l) with
  | none => rw [hc] at h; cases h
  | some u =>
    rw [hc] at h
    have h1 := count_read 16 l u hc
    have hn := rcount_le 16 (some l)
    have hrt : rtext 16 (some l) = rget (rcount 16 (some l)) (some u) := by unfold rtext; rw [hc]
    have hcc : ((16 : Nat) : Int) = 16 := rfl
    rw [hcc] at hn
    rw [hrt]
    by_cases hl : u.length < rcount 16 (some l)
    · rw [rgot_bad hl] at h; cases h
    · rw [rgot_ok hl] at h
      injection h with h
      rw [rget_ok hl]
      have hsz : (str (u.take (rcount 16 (some l)))).size = rcount 16 (some l) := by rw [str_size, List.length_take]; omega
      rw [text_small _ (by rw [hsz]; omega), hsz, str_data, List.append_assoc, ← h, List.take_append_drop]
      exact h1
theorem rps_read (l : List UInt8) : ∀ (k : Nat) (t : List UInt8), (rps k (some l)).2 = some t → l = (rps k (some l)).1.flatMap two ++ t
  | 0, t, h => by injection h
  | k + 1, t, h => by
    have hs : rcounted 2 (rps k (some l)).2 = some t := h
    cases hq : (rps k (some l)).2 with
    | none => rw [hq, rcounted_none] at hs; cases hs
    | some u =>
      have ih := rps_read l k u hq
      rw [hq] at hs
      have hc := count_read 2 u t hs
      show l = ((rps k (some l)).1 ++ [rcount 2 (rps k (some l)).2]).flatMap two ++ t
      rw [hq, List.flatMap_append, List.append_assoc]
      simp only [List.flatMap_cons, List.flatMap_nil, List.append_nil]
      rw [← hc]
      exact ih
theorem sig_read (l t : List UInt8) (h : rleft (some l) = some t) : l = layD (rsd (some l)) ++ t := by
  have hd : rsd (some l) = (str (rtext 16 (some l)), (rpar (some l)).1, rres (some l)) := rfl
  unfold rleft at h
  have hlen : (rpar (some l)).1.length = rnum (some l) := rps_len _ _
  cases hq : (rpar (some l)).2 with
  | none => rw [hq, rcounted_none] at h; cases h
  | some u =>
    rw [hq] at h
    have h4 := count_read 2 u t h
    have hr : rcount 2 (some u) = rres (some l) := by unfold rres; rw [hq]
    rw [hr] at h4
    have hp : rpar (some l) = rps (rnum (some l)) (rcounted 4 (rtexted 16 (some l))) := rfl
    cases ha : rtexted 16 (some l) with
    | none =>
      rw [hp, ha, rcounted_none, rps_none] at hq; cases hq
    | some a =>
      have h1 := text_read l a ha
      cases hb : rcounted 4 (some a) with
      | none => rw [hp, ha, hb, rps_none] at hq; cases hq
      | some b =>
        have h2 := count_read 4 a b hb
        have hn : rcount 4 (some a) = rnum (some l) := by unfold rnum; rw [ha]
        rw [hn] at h2
        rw [hp, ha, hb] at hq
        have h3 := rps_read b (rnum (some l)) u hq
        have hpl : (rps (rnum (some l)) (some b)).1 = (rpar (some l)).1 := by rw [hp, ha, hb]
        rw [hpl] at h3
        rw [hd]
        unfold layD
        simp only
        rw [hlen, List.append_assoc, List.append_assoc, List.append_assoc, ← h4, ← h3, ← h2]
        exact h1
theorem rss_read (l : List UInt8) : ∀ (k : Nat) (t : List UInt8), (rss k (some l)).2 = some t → l = (rss k (some l)).1.flatMap layD ++ t
  | 0, t, h => by injection h
  | k + 1, t, h => by
    have hs : rleft (rss k (some l)).2 = some t := h
    cases hq : (rss k (some l)).2 with
    | none => rw [hq, rleft_none] at hs; cases hs
    | some u =>
      have ih := rss_read l k u hq
      rw [hq] at hs
      have hc := sig_read u t hs
      show l = ((rss k (some l)).1 ++ [rsd (rss k (some l)).2]).flatMap layD ++ t
      rw [hq, List.flatMap_append, List.append_assoc]
      simp only [List.flatMap_cons, List.flatMap_nil, List.append_nil]
      rw [← hc]
      exact ih
theorem rss_len (st : Option (List UInt8)) : ∀ k, (rss k st).1.length = k
  | 0 => rfl
  | k + 1 => by show ((rss k st).1 ++ [_]).length = _; rw [List.length_append, rss_len st k]; rfl
theorem rss_none : ∀ k, (rss k none).2 = none
  | 0 => rfl
  | k + 1 => by show rleft (rss k none).2 = none; rw [rss_none k, rleft_none]
/-- what is read was laid so -/
theorem dec_read (l : List UInt8) (L : List SD) (h : dec l = some L) : l = two L.length ++ L.flatMap layD ∧ rightD L = true := by
  unfold dec at h
  split at h
  · rename_i hc
    injection h with h
    rw [← h]
    refine ⟨?_, hc.2⟩
    have hq : decQ l = rss (rcount 32 (some l)) (rcounted 32 (some l)) := rfl
    cases hs : rcounted 32 (some l) with
    | none => rw [hq, hs, rss_none] at hc; cases hc.1
    | some u =>
      have h1 := count_read 32 l u hs
      have h2 := rss_read u (rcount 32 (some l)) [] (by rw [← hs]; exact hc.1)
      rw [List.append_nil] at h2
      rw [hq, rss_len, hs, ← h2]
      exact h1
  · cases h
theorem rps_back (l : List Nat) (t : List UInt8) (h : ∀ c ∈ l, c ≤ 2) : ∀ k, k ≤ l.length → rps k (some (l.flatMap two ++ t)) = (l.take k, some ((l.drop k).flatMap two ++ t))
  | 0, _ => rfl
  | k + 1, hk => by
    have ih := rps_back l t h k (by omega)
    show ((rps k _).1 ++ [rcount 2 (rps k _).2], rcounted 2 (rps k _).2) = _
    rw [ih]
    have hd : (l.drop k).flatMap two ++ t = two l[k] ++ ((l.drop (k + 1)).flatMap two ++ t) := by
      rw [List.drop_eq_getElem_cons (by omega), List.flatMap_cons, List.append_assoc]
    have hb := back_count l[k] ((l.drop (k + 1)).flatMap two ++ t) 2 (by have := h _ (List.getElem_mem (show k < l.length by omega)); omega) (by omega)
    simp only [hd]
    rw [hb.1, hb.2, List.take_succ_eq_append_getElem (by omega)]
/-- what a function must be, to be read back -/
def okD (d : SD) : Prop := d.1.size ≤ 16 ∧ d.2.1.length ≤ 4 ∧ (∀ c ∈ d.2.1, c ≤ 2) ∧ d.2.2 ≤ 2
theorem sig_back (d : SD) (t : List UInt8) (h : okD d) : rsd (some (layD d ++ t)) = d ∧ rleft (some (layD d ++ t)) = some t := by
  obtain ⟨nm, ps, r⟩ := d
  obtain ⟨h1, h2, h3, h4⟩ := h
  simp only at h1 h2 h3 h4
  have e : layD (nm, ps, r) ++ t = text nm ++ (two ps.length ++ (ps.flatMap two ++ (two r ++ t))) := by unfold layD; simp only [List.append_assoc]
  rw [e]
  have b1 := back_text nm (two ps.length ++ (ps.flatMap two ++ (two r ++ t))) 16 (by omega) (by omega)
  have b2 := back_count ps.length (ps.flatMap two ++ (two r ++ t)) 4 (by omega) (by omega)
  have b3 := rps_back ps (two r ++ t) h3 ps.length (Nat.le_refl _)
  have b4 := back_count r t 2 (by omega) (by omega)
  rw [List.take_length, List.drop_length, List.flatMap_nil, List.nil_append] at b3
  have hp : rpar (some (text nm ++ (two ps.length ++ (ps.flatMap two ++ (two r ++ t))))) = (ps, some (two r ++ t)) := by
    unfold rpar rnum
    rw [b1.2, b2.1, b2.2, b3]
  unfold rsd rleft rres rname
  rw [hp, b1.1, b4.1, b4.2, str_back]
  exact ⟨rfl, rfl⟩
theorem rss_back (L : List SD) (t : List UInt8) (h : ∀ d ∈ L, okD d) : ∀ k, k ≤ L.length → rss k (some (L.flatMap layD ++ t)) = (L.take k, some ((L.drop k).flatMap layD ++ t))
  | 0, _ => rfl
  | k + 1, hk => by
    have ih := rss_back L t h k (by omega)
    show ((rss k _).1 ++ [rsd (rss k _).2], rleft (rss k _).2) = _
    rw [ih]
    have hd : (L.drop k).flatMap layD ++ t = layD L[k] ++ ((L.drop (k + 1)).flatMap layD ++ t) := by
      rw [List.drop_eq_getElem_cons (by omega), List.flatMap_cons, List.append_assoc]
    have hb := sig_back L[k] ((L.drop (k + 1)).flatMap layD ++ t) (h _ (List.getElem_mem (show k < L.length by omega)))
    simp only [hd]
    rw [hb.1, hb.2, List.take_succ_eq_append_getElem (by omega)]
theorem sgOkD_ok {a : List UInt8} {d : SD} (h : sgOkD a d = true) : okD d := by
  unfold sgOkD at h
  simp only [Bool.and_eq_true, decide_eq_true_eq] at h
  exact ⟨(nameOk_size h.1.1.1.1).2, h.1.1.2, fun c hc => by have := h.1.2 c hc; omega, h.2⟩
theorem chkD_each : ∀ (L : List SD) (a : List UInt8), chkD a L = true → ∀ d ∈ L, okD d
  | [], _, _, _, hs => by cases hs
  | t :: r, a, h, d, hd => by
    unfold chkD at h
    simp only [Bool.and_eq_true] at h
    rcases List.mem_cons.1 hd with rfl | hd
    · exact sgOkD_ok h.1
    · exact chkD_each r _ h.2 d hd
theorem rightD_parts {L : List SD} (h : rightD L = true) : L.length ≤ 32 ∧ ∀ d ∈ L, okD d := by
  unfold rightD at h
  simp only [Bool.and_eq_true, decide_eq_true_eq] at h
  exact ⟨h.1, chkD_each L [] h.2⟩
/-- what was laid is read as it was -/
theorem dec_back (L : List SD) (h : rightD L = true) : dec (two L.length ++ L.flatMap layD) = some L := by
  obtain ⟨h1, h2⟩ := rightD_parts h
  have b1 := back_count L.length (L.flatMap layD) 32 (by omega) (by omega)
  have b2 := rss_back L [] h2 L.length (Nat.le_refl _)
  rw [List.append_nil, List.take_length, List.drop_length] at b2
  have hq : decQ (two L.length ++ L.flatMap layD) = (L, some []) := by
    unfold decQ
    rw [b1.1, b1.2, b2]
    rfl
  unfold dec
  rw [hq, if_pos ⟨rfl, h⟩]
theorem smalls_one (c : Nat) (h : c ≤ 65535) : smalls [(c : Int)] = two c := by
  have : clamp (c : Int) = c := by unfold clamp; omega
  simp [smalls, two, this]
theorem laySg_data (s : Sg) (h : s.ps.length = s.n) (hn : s.n ≤ 4) : laySg s = layD s.data := by
  have hr := UInt8.toNat_lt s.res
  have hp : layP s.ps = (s.ps.map (·.toNat)).flatMap two := by
    unfold layP
    rw [List.flatMap_map]
    refine flatMap_same _ fun c _ => ?_
    have := UInt8.toNat_lt c
    exact smalls_one c.toNat (by omega)
  unfold laySg layD Sg.data
  simp only [List.length_map]
  rw [smalls_one _ (by omega), smalls_one _ (by omega), hp, h]
  simp [texts]
theorem layL_data (ss : List Sg) (h : ∀ s ∈ ss, s.ps.length = s.n) (hr : rightL ss = true) : layL ss = two (ss.map Sg.data).length ++ (ss.map Sg.data).flatMap layD := by
  have hrd := right_data ss h
  rw [hr] at hrd
  obtain ⟨h1, h2⟩ := rightD_parts hrd.symm
  rw [List.length_map] at h1
  unfold layL
  rw [smalls_one _ (by omega), List.length_map, List.flatMap_map]
  congr 1
  refine flatMap_same _ fun s hs => ?_
  refine laySg_data s (h s hs) ?_
  have := (h2 s.data (List.mem_map.2 ⟨s, hs, rfl⟩)).2.1
  unfold Sg.data at this
  simp only [List.length_map] at this
  have := h s hs
  omega
end Go.Proofs.Ytbeenfkmnchhbaa.Export
