/- The plain law: what was laid is read as it was; what is read has these bytes. -/
import Derived.Test.YtbeenfkmnchhbaaObjDecode
import Derived.Test.YtbeenfkmnchhbaaCodecMath
namespace Go.Proofs.Ytbeenfkmnchhbaa.Object
open Go.RowKit Codec
set_option linter.unusedVariables false
theorem le_mod (x z k : Nat) : ∀ j, j ≤ k → le (x + z * 2 ^ (8 * k)) j = le x j
  | 0, _ => rfl
  | j + 1, hj => by
    rw [le_succ, le_succ, le_mod x z k j (by omega)]
    congr 1
    have : byteAt (x + z * 2 ^ (8 * k)) j = byteAt x j := by
      apply UInt8.toNat_inj.1
      rw [byteAt_nat, byteAt_nat]
      have h1 : 2 ^ (8 * k) = 2 ^ (8 * j) * (256 * 2 ^ (8 * (k - j - 1))) := by
        rw [show (256 : Nat) = 2 ^ 8 from rfl, ← Nat.pow_add, ← Nat.pow_add]
        congr 1
        omega
      rw [h1, show z * (2 ^ (8 * j) * (256 * 2 ^ (8 * (k - j - 1)))) = 2 ^ (8 * j) * (256 * (z * 2 ^ (8 * (k - j - 1)))) by
        rw [Nat.mul_left_comm z, Nat.mul_left_comm z], Nat.add_mul_div_left _ _ (Nat.two_pow_pos _), Nat.add_mul_mod_self_left]
    rw [this]
theorem le_back : ∀ (k : Nat) (l : List UInt8), l.length = k → le (vle l) k = l := by
  intro k
  induction k with
  | zero =>
    intro l h
    rw [List.length_eq_zero_iff.1 h]
    rfl
  | succ k ih =>
    intro l h
    have hne : l ≠ [] := fun e => by rw [e] at h; cases h
    obtain ⟨r, c, rfl⟩ : ∃ r c, l = r ++ [c] := ⟨l.dropLast, l.getLast hne, (List.dropLast_concat_getLast hne).symm⟩
    have hr : r.length = k := by simpa using h
    rw [vle_snoc, le_succ, hr, le_mod _ _ _ _ (Nat.le_refl _), ih r hr]
    congr 1
    have hlt := vle_lt r
    rw [hr] at hlt
    have : byteAt (vle r + c.toNat * 2 ^ (8 * k)) k = c := by
      apply UInt8.toNat_inj.1
      rw [byteAt_nat, Nat.mul_comm c.toNat, Nat.add_mul_div_left _ _ (Nat.two_pow_pos _), Nat.div_eq_of_lt hlt]
      have := UInt8.toNat_lt c
      omega
    rw [this]
theorem u64_s64 (x : Nat) (h : x < 18446744073709551616) : u64 (s64 x) = x := by
  unfold u64 s64 wrap64
  omega
/-- eight bytes read are the number's -/
theorem num_read (l t : List UInt8) (h : rgot 8 (some l) = some t) : l = le (u64 (s64 (vle (rget 8 (some l))))) 8 ++ t := by
  by_cases hl : l.length < 8
  · rw [rgot_bad hl] at h; cases h
  · rw [rgot_ok hl] at h
    injection h with h
    rw [rget_ok hl]
    have h8 : (l.take 8).length = 8 := by rw [List.length_take]; omega
    have hlt := vle_lt (l.take 8)
    rw [h8] at hlt
    rw [u64_s64 _ (by omega), le_back 8 _ h8, ← h, List.take_append_drop]
theorem two_read (l t : List UInt8) (h : rgot 2 (some l) = some t) : l = le (vle (rget 2 (some l))) 2 ++ t := by
  by_cases hl : l.length < 2
  · rw [rgot_bad hl] at h; cases h
  · rw [rgot_ok hl] at h
    injection h with h
    rw [rget_ok hl, le_back 2 _ (by rw [List.length_take]; omega), ← h, List.take_append_drop]
theorem count_read (m : Int) (l t : List UInt8) (h : rcounted m (some l) = some t) : l = le (rcount m (some l)) 2 ++ t := by
  unfold rcounted at h
  by_cases hm : (vle (rget 2 (some l)) : Int) ≤ m
  · rw [if_pos hm] at h
    have hc : rcount m (some l) = vle (rget 2 (some l)) := if_pos hm
    rw [hc]
    exact two_read l t h
  · rw [if_neg hm] at h; cases h
theorem text_read (m : Nat) (hm : m ≤ 65535) (l t : List UInt8) (h : rtexted m (some l) = some t) : l = text (str (rtext m (some l))) ++ t ∧ (rtext m (some l)).length ≤ m := by
  unfold rtexted at h
  cases hc : rcounted m (some l) with
  | none => rw [hc] at h; cases h
  | some u =>
    rw [hc] at h
    have h1 := count_read m l u hc
    have hn := rcount_most m (some l)
    have hrt : rtext m (some l) = rget (rcount m (some l)) (some u) := by unfold rtext; rw [hc]
    rw [hrt]
    by_cases hl : u.length < rcount m (some l)
    · rw [rgot_bad hl] at h; cases h
    · rw [rgot_ok hl] at h
      injection h with h
      rw [rget_ok hl]
      have hsz : (str (u.take (rcount m (some l)))).size = rcount m (some l) := by rw [str_size, List.length_take]; omega
      refine ⟨?_, by rw [List.length_take]; omega⟩
      rw [text_small _ (by omega), hsz, str_data, List.append_assoc, ← h, List.take_append_drop]
      exact h1
theorem str_back (s : ByteArray) : str s.data.toList = s := by
  apply ByteArray.ext
  simp [str]
theorem back_count (x : Nat) (b : List UInt8) (m : Int) (h : (x : Int) ≤ m) (hm : m ≤ 65535) : rcount m (some (le x 2 ++ b)) = x ∧ rcounted m (some (le x 2 ++ b)) = some b := by
  have hb := back_two x b (by omega)
  unfold rcount rcounted
  rw [hb.1, hb.2, if_pos h, if_pos h]
  exact ⟨rfl, rfl⟩
theorem clamp_nat (c : Nat) (h : c ≤ 65535) : clamp (c : Int) = c := by unfold clamp; omega
theorem smalls_cons (z : Int) (zs : List Int) : smalls (z :: zs) = le (clamp z) 2 ++ smalls zs := rfl
theorem smalls_one (c : Nat) (h : c ≤ 65535) : smalls [(c : Int)] = le c 2 := by rw [smalls_cons, clamp_nat c h]; simp [smalls]
theorem layCd_eq (c : Cd) : layCd c = le (clamp c.op) 2 ++ (le (clamp (c.a + 1)) 2 ++ (le (clamp c.b) 2 ++ (le (clamp c.c) 2 ++ le (u64 c.n) 8))) := by
  unfold layCd
  simp [smalls, nums]
theorem layEn_eq (e : En) : layEn e = text e.name ++ le (u64 e.pos) 8 := by
  unfold layEn
  simp [texts, nums]
def in64 (z : Int) : Prop := -9223372036854775808 ≤ z ∧ z < 9223372036854775808
theorem cd_back (c : Cd) (h : CdIn c) (hn : in64 c.n) (t : List UInt8) : rcd (some (layCd c ++ t)) = c ∧ rcdl (some (layCd c ++ t)) = some t := by
  obtain ⟨op, a, b, cc, n⟩ := c
  obtain ⟨⟨o1, o2⟩, ⟨a1, a2⟩, ⟨b1, b2⟩, ⟨c1, c2⟩⟩ := h
  obtain ⟨n1, n2'⟩ := hn
  simp only at o1 o2 a1 a2 b1 b2 c1 c2 n1 n2'
  obtain ⟨x0, rfl⟩ := Int.eq_ofNat_of_zero_le (show 0 ≤ op by omega)
  obtain ⟨x1, hx1⟩ := Int.eq_ofNat_of_zero_le (show 0 ≤ a + 1 by omega)
  obtain ⟨x2, rfl⟩ := Int.eq_ofNat_of_zero_le b1
  obtain ⟨x3, rfl⟩ := Int.eq_ofNat_of_zero_le c1
  rw [layCd_eq]
  simp only
  rw [hx1, clamp_nat x0 (by omega), clamp_nat x1 (by omega), clamp_nat x2 (by omega), clamp_nat x3 (by omega)]
  simp only [List.append_assoc]
  have e0 := back_two x0 (le x1 2 ++ (le x2 2 ++ (le x3 2 ++ (le (u64 n) 8 ++ t)))) (by omega)
  have e1 := back_two x1 (le x2 2 ++ (le x3 2 ++ (le (u64 n) 8 ++ t))) (by omega)
  have e2 := back_two x2 (le x3 2 ++ (le (u64 n) 8 ++ t)) (by omega)
  have e3 := back_two x3 (le (u64 n) 8 ++ t) (by omega)
  have e4 := back_num n t n1 n2'
  unfold rcd rcdl n2 g2
  rw [e0.1, e0.2, e1.1, e1.2, e2.1, e2.2, e3.1, e3.2, e4.1, e4.2]
  refine ⟨?_, rfl⟩
  congr 1
  omega
theorem en_back (e : En) (h : e.name.size ≤ 255) (hn : in64 e.pos) (t : List UInt8) : ren (some (layEn e ++ t)) = e ∧ renl (some (layEn e ++ t)) = some t := by
  obtain ⟨nm, pos⟩ := e
  obtain ⟨n1, n2'⟩ := hn
  simp only at h n1 n2'
  rw [layEn_eq]
  simp only [List.append_assoc]
  have e0 := back_text nm (le (u64 pos) 8 ++ t) 255 (by omega) (by omega)
  have e1 := back_num pos t n1 n2'
  unfold ren renl
  rw [e0.1, e0.2, e1.1, e1.2, str_back]
  exact ⟨rfl, rfl⟩
theorem cd_read (l t : List UInt8) (h : rcdl (some l) = some t) : l = layCd (rcd (some l)) ++ t := by
  unfold rcdl at h
  obtain ⟨l1, h1⟩ : ∃ x, g2 (some l) = some x := by
    cases hq : g2 (some l) with
    | none => rw [hq] at h; cases h
    | some x => exact ⟨x, rfl⟩
  rw [h1] at h
  obtain ⟨l2, h2⟩ : ∃ x, g2 (some l1) = some x := by
    cases hq : g2 (some l1) with
    | none => rw [hq] at h; cases h
    | some x => exact ⟨x, rfl⟩
  rw [h2] at h
  obtain ⟨l3, h3⟩ : ∃ x, g2 (some l2) = some x := by
    cases hq : g2 (some l2) with
    | none => rw [hq] at h; cases h
    | some x => exact ⟨x, rfl⟩
  rw [h3] at h
  obtain ⟨l4, h4⟩ : ∃ x, g2 (some l3) = some x := by
    cases hq : g2 (some l3) with
    | none => rw [hq] at h; cases h
    | some x => exact ⟨x, rfl⟩
  rw [h4] at h
  have r0 := two_read l l1 h1
  have r1 := two_read l1 l2 h2
  have r2 := two_read l2 l3 h3
  have r3 := two_read l3 l4 h4
  have r4 := num_read l4 t h
  have b0 := small_lt (some l)
  have b1 := small_lt (some l1)
  have b2 := small_lt (some l2)
  have b3 := small_lt (some l3)
  rw [layCd_eq]
  unfold rcd
  rw [h1, h2, h3, h4]
  simp only
  unfold n2
  rw [show ((vle (rget 2 (some l1)) : Nat) : Int) - 1 + 1 = ((vle (rget 2 (some l1)) : Nat) : Int) by omega, clamp_nat _ (by omega), clamp_nat _ (by omega), clamp_nat _ (by omega), clamp_nat _ (by omega)]
  simp only [List.append_assoc]
  rw [← r4, ← r3, ← r2, ← r1, ← r0]
theorem en_read (l t : List UInt8) (h : renl (some l) = some t) : l = layEn (ren (some l)) ++ t := by
  unfold renl at h
  obtain ⟨l1, h1⟩ : ∃ x, rtexted 255 (some l) = some x := by
    cases hq : rtexted 255 (some l) with
    | none => rw [hq] at h; cases h
    | some x => exact ⟨x, rfl⟩
  rw [h1] at h
  have r0 := (text_read 255 (by omega) l l1 h1).1
  have r1 := num_read l1 t h
  rw [layEn_eq]
  unfold ren
  rw [h1]
  simp only [List.append_assoc]
  rw [← r1]
  exact r0
theorem rrep_back {α : Type} (f : Option (List UInt8) → α) (g : Option (List UInt8) → Option (List UInt8)) (lay : α → List UInt8) : ∀ (xs : List α) (t : List UInt8), (∀ x ∈ xs, ∀ t, f (some (lay x ++ t)) = x ∧ g (some (lay x ++ t)) = some t) → rrep f g xs.length (some (xs.flatMap lay ++ t)) = (xs, some t)
  | [], _, _ => rfl
  | x :: xs, t, h => by
    have hx := h x (by simp) (xs.flatMap lay ++ t)
    have ih := rrep_back f g lay xs t (fun y hy => h y (by simp [hy]))
    rw [List.flatMap_cons, List.append_assoc]
    show (f (some _) :: (rrep f g xs.length (g (some _))).1, (rrep f g xs.length (g (some _))).2) = _
    rw [hx.1, hx.2, ih]
theorem rrep_read {α : Type} (f : Option (List UInt8) → α) (g : Option (List UInt8) → Option (List UInt8)) (lay : α → List UInt8) (hg : ∀ l t, g (some l) = some t → l = lay (f (some l)) ++ t) : ∀ (k : Nat) (l t : List UInt8), (rrep f g k (some l)).2 = some t → l = (rrep f g k (some l)).1.flatMap lay ++ t ∧ (rrep f g k (some l)).1.length = k
  | 0, l, t, h => by injection h with h; subst h; exact ⟨rfl, rfl⟩
  | k + 1, l, t, h => by
    have h' : (rrep f g k (g (some l))).2 = some t := h
    cases hq : g (some l) with
    | none =>
      rw [hq] at h'
      cases k with
      | zero => cases h'
      | succ k => cases h'
    | some u =>
      rw [hq] at h'
      obtain ⟨ih, il⟩ := rrep_read f g lay hg k u t h'
      have hl := hg l u hq
      show l = (f (some l) :: (rrep f g k (g (some l))).1).flatMap lay ++ t ∧ (f (some l) :: (rrep f g k (g (some l))).1).length = k + 1
      rw [hq, List.flatMap_cons, List.append_assoc, ← ih, List.length_cons, il]
      exact ⟨hl, rfl⟩
/-- numbers are 64 bits wide -/
structure In64 (d : OD) : Prop where
  code : ∀ c ∈ d.code, in64 c.n
  ents : ∀ e ∈ d.ents, in64 e.pos
  calls : ∀ e ∈ d.calls, in64 e.pos
theorem dec_back (d : OD) (hr : objRight d = true) (h64 : In64 d) : dec (layO d) = some d := by
  have hin := right_in hr
  have c1 := hin.n1
  have c2 := hin.n2
  have c3 := hin.n3
  have hlay : layO d = le d.code.length 2 ++ (d.code.flatMap layCd ++ (le d.ents.length 2 ++ (d.ents.flatMap layEn ++ (le d.calls.length 2 ++ (d.calls.flatMap layEn ++ []))))) := by
    unfold layO
    rw [smalls_one _ (by omega), smalls_one _ (by omega), smalls_one _ (by omega)]
    simp only [List.append_assoc, List.append_nil]
  have b1 := back_count d.code.length (d.code.flatMap layCd ++ (le d.ents.length 2 ++ (d.ents.flatMap layEn ++ (le d.calls.length 2 ++ (d.calls.flatMap layEn ++ []))))) 32768 (by omega) (by omega)
  have b2 := back_count d.ents.length (d.ents.flatMap layEn ++ (le d.calls.length 2 ++ (d.calls.flatMap layEn ++ []))) 4096 (by omega) (by omega)
  have b3 := back_count d.calls.length (d.calls.flatMap layEn ++ []) 4096 (by omega) (by omega)
  have r1 := rrep_back rcd rcdl layCd d.code (le d.ents.length 2 ++ (d.ents.flatMap layEn ++ (le d.calls.length 2 ++ (d.calls.flatMap layEn ++ [])))) (fun c hc t => cd_back c (hin.code c hc) (h64.code c hc) t)
  have r2 := rrep_back ren renl layEn d.ents (le d.calls.length 2 ++ (d.calls.flatMap layEn ++ [])) (fun c hc t => en_back c (hin.ents c hc).2 (h64.ents c hc) t)
  have r3 := rrep_back ren renl layEn d.calls [] (fun c hc t => en_back c (hin.calls c hc).2 (h64.calls c hc) t)
  have q1 : rq1 (layO d) = (d.code, some (le d.ents.length 2 ++ (d.ents.flatMap layEn ++ (le d.calls.length 2 ++ (d.calls.flatMap layEn ++ []))))) := by
    unfold rq1
    rw [hlay, b1.1, b1.2, r1]
  have q2 : rqe (rq1 (layO d)).2 = (d.ents, some (le d.calls.length 2 ++ (d.calls.flatMap layEn ++ []))) := by
    rw [q1]
    unfold rqe
    simp only
    rw [b2.1, b2.2, r2]
  have q3 : rqe (rqe (rq1 (layO d)).2).2 = (d.calls, some []) := by
    rw [q2]
    unfold rqe
    simp only
    rw [b3.1, b3.2, r3]
  have hd : decD (layO d) = d := by
    unfold decD
    rw [q3, q2, q1]
  have hs : decS (layO d) = some [] := by
    unfold decS
    rw [q3]
  rw [dec_some hs (by rw [hd]; exact hr), hd]
theorem rrep_none {α : Type} (f : Option (List UInt8) → α) (g : Option (List UInt8) → Option (List UInt8)) : ∀ k, (rrep f g k none).2 = none
  | 0 => rfl
  | _ + 1 => rfl
theorem rqe_read (st : Option (List UInt8)) (t : List UInt8) (h : (rqe st).2 = some t) : ∃ l, st = some l ∧ l = le (rqe st).1.length 2 ++ ((rqe st).1.flatMap layEn ++ t) := by
  unfold rqe at h ⊢
  cases hc : rcounted 4096 st with
  | none => rw [hc, rrep_none] at h; cases h
  | some u =>
    rw [hc] at h
    obtain ⟨r, hl⟩ := rrep_read ren renl layEn en_read _ u t h
    cases st with
    | none =>
      exfalso
      unfold rcounted at hc
      split at hc <;> cases hc
    | some l =>
      refine ⟨l, rfl, ?_⟩
      rw [hl, ← r]
      exact count_read 4096 l u hc
theorem dec_read (l : List UInt8) (d : OD) (h : dec l = some d) : l = layO d ∧ objRight d = true := by
  unfold dec at h
  split at h
  · rename_i hh
    obtain ⟨hs, hr⟩ := hh
    injection h with h
    subst h
    refine ⟨?_, hr⟩
    have hin := right_in hr
    have c1 := hin.n1
    have c2 := hin.n2
    have c3 := hin.n3
    unfold decS at hs
    obtain ⟨l3, e3, r3⟩ := rqe_read _ [] hs
    obtain ⟨l2, e2, r2⟩ := rqe_read _ l3 e3
    have e1 : (rq1 l).2 = some l2 := e2
    unfold rq1 at e1
    cases hc : rcounted 32768 (some l) with
    | none => rw [hc, rrep_none] at e1; cases e1
    | some u =>
      rw [hc] at e1
      obtain ⟨r, hl⟩ := rrep_read rcd rcdl layCd cd_read _ u l2 e1
      have hcr := count_read 32768 l u hc
      have hq : (rq1 l).1 = (rrep rcd rcdl (rcount 32768 (some l)) (some u)).1 := by unfold rq1; rw [hc]
      unfold layO
      rw [smalls_one _ (by omega), smalls_one _ (by omega), smalls_one _ (by omega)]
      unfold decD
      simp only [List.append_assoc]
      rw [List.append_nil] at r3
      rw [← r3, ← r2, hq, hl, ← r]
      exact hcr
  · cases h
end Go.Proofs.Ytbeenfkmnchhbaa.Object
