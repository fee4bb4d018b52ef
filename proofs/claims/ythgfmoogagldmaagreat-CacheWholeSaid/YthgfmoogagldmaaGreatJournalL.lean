/- JournalL: What a journal's half lays, and what it reads behind a crash; no program in sight; What an append, and a reset, leave on the disk, also behind a crash. -/
import Derived.Test.YthgfmoogagldmaaGreatJournalA
import Derived.Test.YthgfmoogagldmaaGreatFrameLaws
set_option linter.unusedVariables false
namespace Go.Proofs.YthgfmoogagldmaaGreat.Journal
open Disk Go.Proofs.YthgfmoogagldmaaGreat.Frame
def Mix (s l r : List UInt8) : Prop := r = s ∨ r = l ∨ r = l.take 32 ++ s.drop 32 ∨ r = s.take 32 ++ l.drop 32
theorem crashL_mix (z : Int) (s l : List UInt8) : Mix s l (crashL z s l) := by
  unfold crashL Mix
  by_cases h1 : z = 1 ∨ z = 2
  · rw [if_pos h1]
    by_cases h2 : z = 1 ∨ z = 3
    · rw [if_pos h2, List.take_append_drop]; exact .inr (.inl rfl)
    · rw [if_neg h2]; exact .inr (.inr (.inl rfl))
  · rw [if_neg h1]
    by_cases h2 : z = 1 ∨ z = 3
    · rw [if_pos h2]; exact .inr (.inr (.inr rfl))
    · rw [if_neg h2, List.take_append_drop]; exact .inl rfl
def bare (s : List UInt8) : Prop := (getR s).2 = false
theorem torn2' (m : Frame.Mark) (t : List UInt8) (hm : m.right) (hf : m.fits) (ht : t.length = 32) : getR (t ++ halfB m) = if halfB m = t then (m, true) else (zeroM, false) := by
  by_cases h : halfB m = t
  · rw [if_pos h, ← h, torn m (halfB m) hm hf (halfB_len m), if_pos rfl]
  · rw [if_neg h]
    exact getR_no (fun h' => by
      have := h'.2.1
      rw [List.take_left' ht, List.drop_left' ht] at this
      exact h this.symm)
theorem mix_put {s r : List UInt8} {m : Frame.Mark} (hm : m.right) (hf : m.fits) (hs : s.length = 64) (h : Mix s (putB m) r) : r = putB m ∨ r = s ∨ bare r := by
  have hp : putB m = halfB m ++ halfB m := if_pos hm
  have hh := halfB_len m
  rcases h with h | h | h | h
  · exact .inr (.inl h)
  · exact .inl h
  · rw [hp, List.take_left' hh] at h
    have ht := torn m (s.drop 32) hm hf (by rw [List.length_drop, hs])
    by_cases e : halfB m = s.drop 32
    · left; rw [h, hp, ← e]
    · right; right
      unfold bare
      rw [h, ht, if_neg e]
  · rw [hp, List.drop_left' hh] at h
    have ht := torn2' m (s.take 32) hm hf (by rw [List.length_take, hs]; rfl)
    by_cases e : halfB m = s.take 32
    · left; rw [h, hp, ← e]
    · right; right
      unfold bare
      rw [h, ht, if_neg e]
theorem bare_zeros : bare zeros := by
  unfold bare
  rw [getR_no]
  rintro ⟨_, _, _, h⟩
  have h2 := congrArg (fun l => l.head?) h
  unfold zeros halfB headB at h2
  simp [List.replicate] at h2
def Body (V : Int → List UInt8) (h : Half) : Int → Int → List (List UInt8) → Prop
  | _, _, [] => True
  | a, seq, b :: bs => b.length ≤ 1048576 ∧ V (h.fr + a) = putB (markH h seq b) ∧ (∀ i : Nat, i < (needZ b.length).toNat → V (h.fr + (a + 1 + (i : Int))) = (packsB b).getD i []) ∧ Body V h (a + takesB b) (seq + 1) bs
theorem takesL_cons (b : List UInt8) (l : List (List UInt8)) : takesL (b :: l) = takesB b + takesL l := by
  unfold takesL
  have : ∀ (l : List (List UInt8)) (x y : Int), l.foldl (fun n b => n + takesB b) (x + y) = x + l.foldl (fun n b => n + takesB b) y := by
    intro l
    induction l with
    | nil => intro x y; rfl
    | cons c l ih => intro x y; rw [List.foldl_cons, List.foldl_cons, ← ih, Int.add_assoc]
  rw [List.foldl_cons, Int.zero_add, ← Int.add_zero (takesB b), this, Int.add_zero]
theorem takesL_nil : takesL [] = 0 := rfl
theorem takesL_append (l r : List (List UInt8)) : takesL (l ++ r) = takesL l + takesL r := by
  induction l with
  | nil => rw [List.nil_append, takesL_nil, Int.zero_add]
  | cons b l ih => rw [List.cons_append, takesL_cons, takesL_cons, ih, Int.add_assoc]
theorem needZ_nn (n : Int) : 0 ≤ needZ n := by unfold needZ; split <;> omega
theorem takesB_pos (b : List UInt8) : 1 ≤ takesB b := by have := needZ_nn b.length; unfold takesB; omega
theorem takesL_nn : ∀ l : List (List UInt8), 0 ≤ takesL l
  | [] => by rw [takesL_nil]; exact Int.le_refl _
  | b :: l => by have := takesL_nn l; have := takesB_pos b; rw [takesL_cons]; omega
theorem Body.cong {V V' : Int → List UInt8} {h : Half} : ∀ {l : List (List UInt8)} {a seq : Int}, Body V h a seq l → (∀ i, a ≤ i → i < a + takesL l → V' (h.fr + i) = V (h.fr + i)) → Body V' h a seq l
  | [], _, _, _, _ => trivial
  | b :: l, a, seq, hb, he => by
    obtain ⟨h1, h2, h3, h4⟩ := hb
    have hp := takesB_pos b
    have hn := takesL_nn l
    rw [takesL_cons] at he
    have htb : takesB b = 1 + needZ b.length := rfl
    refine ⟨h1, ?_, fun i hi => ?_, Body.cong h4 fun i hi hi2 => he i (by omega) (by omega)⟩
    · rw [he a (by omega) (by omega)]; exact h2
    · rw [he _ (by omega) (by omega)]; exact h3 i hi
theorem Body.snoc {V : Int → List UInt8} {h : Half} {b : List UInt8} : ∀ {l : List (List UInt8)} {a seq : Int}, Body V h a seq l → Body V h (a + takesL l) (seq + l.length) [b] → Body V h a seq (l ++ [b])
  | [], a, seq, _, hb => by
    rw [takesL_nil, Int.add_zero, List.length_nil, Int.natCast_zero, Int.add_zero] at hb
    exact hb
  | c :: l, a, seq, hl, hb => by
    obtain ⟨h1, h2, h3, h4⟩ := hl
    refine ⟨h1, h2, h3, Body.snoc h4 ?_⟩
    rw [takesL_cons, List.length_cons] at hb
    have e1 : a + (takesB c + takesL l) = a + takesB c + takesL l := by omega
    have e2 : seq + ((l.length + 1 : Nat) : Int) = seq + 1 + l.length := by omega
    rw [e1, e2] at hb
    exact hb
def Laid (V : Int → List UInt8) (h : Half) (a seq : Int) (l : List (List UInt8)) : Prop := Body V h a seq l ∧ a + takesL l ≤ h.room ∧ (a + takesL l < h.room → bare (V (h.fr + (a + takesL l))))
theorem crcL_lt (b : List UInt8) : crcL b < 4294967296 := Sums.more_lt (s := 0) (by decide) (Sums.nats b) (Sums.nats_lt _)
theorem markH_ok {h : Half} {seq : Int} {b : List UInt8} (hg : 0 ≤ h.gen ∧ h.gen ≤ 4611686018427387904) (hs : 0 ≤ seq ∧ seq ≤ 4611686018427387904) (hb : b.length ≤ 1048576) : (markH h seq b).right ∧ (markH h seq b).fits := by
  have := crcL_lt b
  unfold markH Frame.Mark.right Frame.Mark.fits
  simp only
  omega
theorem pack_flat' (l : List UInt8) : ∀ k, 64 * k ≤ l.length + 63 → (pack l k).flatten = l.take (64 * k) ++ List.replicate (64 * k - l.length) 0 := by
  intro k
  induction k with
  | zero => intro _; simp [pack]
  | succ k ih =>
    intro hk
    have h1 : pack l (k + 1) = pack l k ++ [pad (sec l k)] := by unfold pack; rw [List.range_succ, List.map_append]; rfl
    have hs : (sec l k).length = min 64 (l.length - 64 * k) := sec_size l k
    rw [h1, List.flatten_append, ih (by omega), show 64 * k - l.length = 0 by omega]
    have h2 : pad (sec l k) = sec l k ++ List.replicate (64 - (sec l k).length) 0 := by unfold pad fill; rw [List.take_of_length_le (Nat.le_refl _)]
    have h3 : l.take (64 * k) ++ sec l k = l.take (64 * (k + 1)) := by unfold sec; rw [Nat.mul_add, List.take_add]
    show l.take (64 * k) ++ [] ++ (pad (sec l k) ++ []) = _
    rw [List.append_nil, List.append_nil, h2, ← List.append_assoc, h3]
    congr 2
    omega
theorem packsB_len (b : List UInt8) : (packsB b).length = (needZ b.length).toNat := by unfold packsB pack; rw [List.length_map, List.length_range]
theorem packsB_64 {b s : List UInt8} (h : s ∈ packsB b) : s.length = 64 := by
  unfold packsB pack at h
  obtain ⟨i, _, rfl⟩ := List.mem_map.1 h
  exact fill_len _ _ (Nat.le_refl _) (sec_len b i)
theorem need_low (n : Nat) : 64 * (needZ (n : Int)).toNat ≤ n + 63 ∧ n ≤ 64 * (needZ (n : Int)).toNat := by unfold needZ; split <;> omega
theorem unpL_packs {b : List UInt8} (h : b.length ≤ 1048576) : unpL (packsB b) (b.length : Int) = some b := by
  obtain ⟨n1, n2⟩ := need_low b.length
  have hf : (packsB b).flatten = b ++ List.replicate (64 * (needZ (b.length : Int)).toNat - b.length) 0 := by
    have := pack_flat' b _ n1
    rw [List.take_of_length_le n2] at this
    exact this
  have hn := needZ_nn b.length
  have hl := packsB_len b
  obtain ⟨P, hP⟩ : ∃ P, packsB b = P := ⟨_, rfl⟩
  have h64 : ∀ s ∈ P, s.length = 64 := fun s hs => packsB_64 (by rw [hP]; exact hs)
  rw [hP] at hf hl ⊢
  obtain ⟨m, hm⟩ : ∃ m, 64 * (needZ (b.length : Int)).toNat - b.length = m := ⟨_, rfl⟩
  rw [hm] at hf
  have f1 : ¬ ((b.length : Int) < 0 ∨ 1048576 < (b.length : Int) ∨ (P.length : Int) ≠ needZ b.length) := by omega
  have f2 : ¬ ¬ (∀ s ∈ P, s.length = 64) := fun h => h h64
  have f3 : ¬ ¬ allZ (P.flatten.drop (b.length : Int).toNat) := fun h => h (by
    rw [hf, Int.toNat_natCast, List.drop_left]
    exact fun c hc => (List.mem_replicate.1 hc).2)
  have f4 : P.flatten.take (b.length : Int).toNat = b := by rw [hf, Int.toNat_natCast, List.take_left]
  clear hm hf hP h hn hl n1 n2
  unfold unpL
  rw [if_neg f1, if_neg f2, if_neg f3, f4]
theorem group_laid {d : DS} {h : Half} {a seq : Int} {b : List UInt8} {l : List (List UInt8)} (hg : 0 ≤ h.gen ∧ h.gen ≤ 4611686018427387904) (hs : 0 ≤ seq ∧ seq ≤ 4611686018427387904)
    (hl : Body (rdD d) h a seq (b :: l)) (hr : a + takesB b ≤ h.room) : groupH d h a seq = some b := by
  obtain ⟨h1, h2, h3, _⟩ := hl
  obtain ⟨o1, o2⟩ := markH_ok hg hs h1
  have hc := crcL_lt b
  have hn : (markH h seq b).n / 4294967296 = (b.length : Int) := by unfold markH; simp only; omega
  have htb : takesB b = 1 + needZ b.length := rfl
  have hss : (List.range (needZ b.length).toNat).map (fun i : Nat => rdD d (h.fr + (a + 1 + (i : Int)))) = packsB b := by
    refine List.ext_getElem (by rw [List.length_map, List.length_range, packsB_len]) fun i hi hi2 => ?_
    rw [List.getElem_map, List.getElem_range]
    rw [List.length_map, List.length_range] at hi
    rw [h3 i hi, List.getD_eq_getElem?_getD, List.getElem?_eq_getElem hi2]
    rfl
  obtain ⟨M, hM⟩ : ∃ M, markH h seq b = M := ⟨_, rfl⟩
  rw [hM] at h2 o1 o2 hn
  clear hc h3
  unfold groupH
  simp only
  rw [h2, got_put M o1 o2]
  simp only
  rw [hn, if_neg (fun k => by rcases k with k | k | k; cases k; omega; omega), hss, unpL_packs h1]
  simp only
  rw [hM, if_pos rfl]
theorem groups_laid {d : DS} {h : Half} (hg : 0 ≤ h.gen ∧ h.gen ≤ 4611686018427387904) : ∀ (l : List (List UInt8)) (a seq : Int) (k : Nat), Laid (rdD d) h a seq l → 0 ≤ seq → seq + l.length ≤ 4611686018427387904 → h.room - a ≤ k → groupsH d h k a seq = l
  | [], a, seq, 0, _, _, _, _ => rfl
  | [], a, seq, k + 1, hl, hs, hs2, hk => by
    obtain ⟨_, _, hb⟩ := hl
    rw [takesL_nil, Int.add_zero] at hb
    unfold groupsH
    by_cases hlt : a < h.room
    · rw [if_pos hlt]
      have hb' : (getR (rdD d (h.fr + a))).2 = false := hb hlt
      have : groupH d h a seq = none := by
        unfold groupH
        simp only
        rw [if_pos (.inl hb')]
      rw [this]
    · rw [if_neg hlt]
  | b :: l, a, seq, 0, hl, hs, hs2, hk => by
    obtain ⟨_, hr, _⟩ := hl
    have := takesB_pos b
    have := takesL_nn l
    rw [takesL_cons] at hr
    omega
  | b :: l, a, seq, k + 1, hl, hs, hs2, hk => by
    obtain ⟨hb, hr, he⟩ := hl
    have := takesB_pos b
    have := takesL_nn l
    rw [takesL_cons] at hr he
    rw [List.length_cons] at hs2
    unfold groupsH
    rw [if_pos (by omega), group_laid hg ⟨hs, by omega⟩ hb (by omega)]
    simp only
    rw [groups_laid hg l (a + takesB b) (seq + 1) k ⟨hb.2.2.2, by omega, fun h => by rw [show a + takesB b + takesL l = a + (takesB b + takesL l) by omega]; exact he (by omega)⟩ (by omega) (by omega) (by omega)]
end Go.Proofs.YthgfmoogagldmaaGreat.Journal
namespace Go.Proofs.YthgfmoogagldmaaGreat.Journal
open Disk Go.Proofs.YthgfmoogagldmaaGreat.Frame
def sv (d : DS) : Int → List UInt8 := fun i => d.safe i.toNat
def rv (d : DS) : Int → List UInt8 := fun i => readD d i.toNat
structure WF (d : DS) : Prop where
  safe : ∀ i, i < d.n → (d.safe i).length = 64
  wait : ∀ i l, d.wait i = some l → i < d.n ∧ l.length = 64
def Quiet (d : DS) : Prop := ∀ i, d.wait i = none
theorem crash_safe {d : DS} (fs : List Int) {ks : List Nat} (hk : waitsD d ks) (i : Nat) : (d.wait i = none ∧ (crashD d fs ks).safe i = d.safe i) ∨ ∃ l, d.wait i = some l ∧ Mix (d.safe i) l ((crashD d fs ks).safe i) := by
  have e1 : (crashD d fs ks).safe i = crashK d fs ks ks.length i := rfl
  rw [e1]
  unfold crashK
  rw [List.take_length]
  by_cases hm : i ∈ ks
  · rw [if_pos hm]
    obtain ⟨l, hl⟩ := Option.isSome_iff_exists.1 ((hk.2 i).1 hm)
    refine .inr ⟨l, hl, ?_⟩
    unfold crashAt
    rw [hl]
    exact crashL_mix _ _ _
  · rw [if_neg hm]
    refine .inl ⟨?_, rfl⟩
    cases h : d.wait i with
    | none => rfl
    | some l => exact absurd ((hk.2 i).2 (by rw [h]; rfl)) hm
theorem Mix.len {s l r : List UInt8} (h : Mix s l r) (hs : s.length = 64) (hl : l.length = 64) : r.length = 64 := by
  rcases h with rfl | rfl | rfl | rfl <;> simp [hs, hl]
theorem WF.crash {d : DS} (h : WF d) (fs : List Int) {ks : List Nat} (hk : waitsD d ks) : WF (crashD d fs ks) := by
  refine ⟨fun i hi => ?_, fun i l hl => by cases hl⟩
  have hi' : i < d.n := hi
  rcases crash_safe fs hk i with ⟨_, h2⟩ | ⟨l, h1, h2⟩
  · rw [h2]; exact h.safe i hi'
  · exact h2.len (h.safe i hi') (h.wait i l h1).2
theorem Quiet.crash {d : DS} (h : Quiet d) (fs : List Int) {ks : List Nat} (hk : waitsD d ks) : sv (crashD d fs ks) = sv d := by
  funext i
  rcases crash_safe fs hk i.toNat with ⟨_, h2⟩ | ⟨l, h1, h2⟩
  · exact h2
  · rw [h] at h1; cases h1
structure Wrote (d d' : DS) (lo hi : Int) : Prop where
  n : d'.n = d.n
  safe : d'.safe = d.safe
  wait : ∀ i : Nat, (i : Int) < lo ∨ hi ≤ i → d'.wait i = d.wait i
  wf : WF d → WF d'
theorem Wrote.refl (d : DS) (lo hi : Int) : Wrote d d lo hi := ⟨rfl, rfl, fun _ _ => rfl, id⟩
theorem Wrote.off {d d' : DS} {lo hi : Int} (h : Wrote d d' lo hi) : Wrote d { d' with off := true } lo hi := ⟨h.n, h.safe, h.wait, fun k => ⟨(h.wf k).safe, (h.wf k).wait⟩⟩
theorem Wrote.trans {d d' d'' : DS} {lo hi : Int} (h : Wrote d d' lo hi) (k : Wrote d' d'' lo hi) : Wrote d d'' lo hi := ⟨k.n.trans h.n, k.safe.trans h.safe, fun i hi => (k.wait i hi).trans (h.wait i hi), fun x => k.wf (h.wf x)⟩
theorem Wrote.mono {d d' : DS} {lo hi lo' hi' : Int} (h : Wrote d d' lo hi) (h1 : lo' ≤ lo) (h2 : hi ≤ hi') : Wrote d d' lo' hi' := ⟨h.n, h.safe, fun i hi => h.wait i (by omega), h.wf⟩
theorem Wrote.rv {d d' : DS} {lo hi : Int} (h : Wrote d d' lo hi) {i : Int} (h0 : 0 ≤ i) (hi : i < lo ∨ hi ≤ i) : rv d' i = rv d i := by
  unfold Journal.rv readD
  rw [h.wait i.toNat (by omega), h.safe]
theorem Wrote.crash {d d' : DS} {lo hi : Int} (h : Wrote d d' lo hi) (hq : Quiet d) (fs : List Int) {ks : List Nat} (hk : waitsD d' ks) {i : Int} (h0 : 0 ≤ i) (hi : i < lo ∨ hi ≤ i) : sv (crashD d' fs ks) i = sv d i := by
  unfold sv
  rcases crash_safe fs hk i.toNat with ⟨_, h2⟩ | ⟨l, h1, h2⟩
  · rw [h2, h.safe]
  · rw [h.wait i.toNat (by omega), hq] at h1; cases h1
theorem wr_step {d : DS} {i : Int} {l : List UInt8} (hi : 0 ≤ i ∧ i < d.n) (hl : l.length = 64) : wrD d i l = ({ d with off := true }, false) ∨ wrD d i l = (stepD { d with wait := setW d.wait i.toNat l }, true) := by
  unfold wrD
  by_cases h : d.off = true ∨ d.left = 0
  · rw [if_pos h]; exact .inl rfl
  · rw [if_neg h, if_pos ⟨hi.1, hi.2, hl⟩]; exact .inr rfl
theorem wr_wrote {d : DS} {i : Int} {l : List UInt8} (hi : 0 ≤ i ∧ i < d.n) (hl : l.length = 64) : Wrote d (wrD d i l).1 i (i + 1) ∧ ((wrD d i l).2 = true → rv (wrD d i l).1 i = l) := by
  rcases wr_step hi hl with h | h
  · rw [h]; exact ⟨(Wrote.refl d i (i + 1)).off, fun h => by cases h⟩
  · rw [h]
    refine ⟨⟨rfl, rfl, fun k hk => ?_, fun hw => ⟨hw.safe, fun k s hs => ?_⟩⟩, fun _ => ?_⟩
    · show setW d.wait i.toNat l k = d.wait k
      unfold setW
      rw [if_neg (by omega)]
    · have hs' : setW d.wait i.toNat l k = some s := hs
      unfold setW at hs'
      by_cases e : k = i.toNat
      · rw [if_pos e] at hs'
        injection hs' with hs'
        subst hs'
        exact ⟨by show k < d.n; omega, hl⟩
      · rw [if_neg e] at hs'
        exact hw.wait k s hs'
    · unfold rv readD
      show ((setW d.wait i.toNat l) i.toNat).getD _ = l
      unfold setW
      rw [if_pos rfl]
      rfl
theorem puts_wrote : ∀ (ss : List (List UInt8)) (d : DS) (i : Int), (∀ s ∈ ss, s.length = 64) → 0 ≤ i → i + ss.length ≤ d.n →
    Wrote d (putsD d i ss).1 i (i + ss.length) ∧ ((putsD d i ss).2 = true → ∀ k : Nat, k < ss.length → rv (putsD d i ss).1 (i + k) = ss.getD k [])
  | [], d, i, _, _, _ => ⟨Wrote.refl d _ _, fun _ k hk => absurd hk (Nat.not_lt_zero _)⟩
  | s :: ss, d, i, hs, h0, hn => by
    rw [List.length_cons] at hn ⊢
    obtain ⟨w1, w2⟩ := wr_wrote (d := d) (i := i) (l := s) ⟨h0, by omega⟩ (hs s (by simp))
    unfold putsD
    by_cases h : (wrD d i s).2 = true
    · rw [if_pos h]
      have hn1 := w1.n
      obtain ⟨p1, p2⟩ := puts_wrote ss (wrD d i s).1 (i + 1) (fun t ht => hs t (by simp [ht])) (by omega) (by rw [hn1]; omega)
      refine ⟨(w1.mono (by omega) (by omega)).trans (p1.mono (by omega) (by omega)), fun hk k hlt => ?_⟩
      cases k with
      | zero =>
        have := p1.rv (i := i) h0 (.inl (by omega))
        rw [Int.natCast_zero, Int.add_zero, this, w2 h]
        rfl
      | succ k =>
        have := p2 hk k (by omega)
        rw [show i + ((k + 1 : Nat) : Int) = i + 1 + (k : Int) by omega, this]
        rfl
    · rw [if_neg h]
      exact ⟨w1.mono (by omega) (by omega), fun hk => by cases hk⟩
theorem syn_step (d : DS) : synD d = ({ d with off := true }, false) ∨ synD d = (syncD d, true) := by
  unfold synD
  by_cases h : d.off = true ∨ d.left = 0
  · rw [if_pos h]; exact .inl rfl
  · rw [if_neg h]; exact .inr rfl
theorem sync_sv (d : DS) : sv (syncD d) = rv d := rfl
theorem sync_quiet (d : DS) : Quiet (syncD d) := fun _ => rfl
theorem WF.sync {d : DS} (h : WF d) : WF (syncD d) := by
  refine ⟨fun i hi => ?_, fun i l hl => by cases hl⟩
  show ((d.wait i).getD (d.safe i)).length = 64
  cases hw : d.wait i with
  | none => exact h.safe i hi
  | some l => exact (h.wait i l hw).2
theorem WF.off {d : DS} (h : WF d) : WF { d with off := true } := ⟨h.safe, h.wait⟩
theorem quiet_rv {d : DS} (h : Quiet d) : rv d = sv d := by
  funext i
  unfold rv readD sv
  rw [h]
  rfl
theorem andThen_no {x : DS × Bool} {f : DS → DS × Bool} (h : x.2 = false) : andThen x f = (x.1, false) := by unfold andThen; rw [if_neg (by rw [h]; decide)]
theorem andThen_ok {x : DS × Bool} {f : DS → DS × Bool} (h : x.2 = true) : andThen x f = f x.1 := if_pos h
def halfN (n : Nat) (gen : Int) : Half := ⟨gen, 2 + (gen % 2) * (((n : Int) - 2) / 2), ((n : Int) - 2) / 2⟩
theorem halfD_eq (d : DS) (gen : Int) : halfD d gen = halfN d.n gen := rfl
def headV (s : List UInt8) (i : Int) : Option Int :=
  let m := getR s
  if m.2 = true ∧ 1 ≤ m.1.g ∧ m.1 = ⟨1, m.1.g, 0, 0⟩ ∧ m.1.g % 2 = i then some m.1.g else none
theorem headOk_eq (d : DS) (i : Int) : headOk d i = headV (rdD d i) i := rfl
def headM (gen : Int) : Frame.Mark := ⟨1, gen, 0, 0⟩
theorem headM_ok {gen : Int} (h : 1 ≤ gen ∧ gen ≤ 4611686018427387904) : (headM gen).right ∧ (headM gen).fits := by
  unfold headM Frame.Mark.right Frame.Mark.fits
  simp only
  omega
theorem headV_put {gen : Int} (h : 1 ≤ gen ∧ gen ≤ 4611686018427387904) (i : Int) : headV (putB (headM gen)) i = if gen % 2 = i then some gen else none := by
  obtain ⟨o1, o2⟩ := headM_ok h
  unfold headV
  simp only
  rw [got_put _ o1 o2]
  by_cases e : gen % 2 = i
  · rw [if_pos e, if_pos ⟨rfl, h.1, rfl, e⟩]; rfl
  · rw [if_neg e, if_neg (fun k => e k.2.2.2)]
theorem headV_bare {s : List UInt8} (h : bare s) (i : Int) : headV s i = none := by
  unfold bare at h
  unfold headV
  simp only
  rw [if_neg]
  rintro ⟨h1, _⟩
  rw [h] at h1
  cases h1
def Lead (V : Int → List UInt8) (gen : Int) : Prop := V (gen % 2) = putB (headM gen) ∧ ∀ g, headV (V ((gen + 1) % 2)) ((gen + 1) % 2) = some g → g < gen
structure Stands (V : Int → List UInt8) (n : Nat) (gen : Int) (l : List (List UInt8)) : Prop where
  g : 1 ≤ gen ∧ gen ≤ 1000000000
  lead : Lead V gen
  laid : Laid V (halfN n gen) 0 0 l
theorem Stands.cong {V V' : Int → List UInt8} {n : Nat} {gen : Int} {l : List (List UInt8)} (h : Stands V n gen l) (h0 : V' 0 = V 0) (h1 : V' 1 = V 1)
    (hb : ∀ i, 0 ≤ i → i < takesL l → V' ((halfN n gen).fr + i) = V ((halfN n gen).fr + i)) (he : takesL l < (halfN n gen).room → bare (V' ((halfN n gen).fr + takesL l))) : Stands V' n gen l := by
  have hh : ∀ i, i = 0 ∨ i = 1 → V' i = V i := fun i hi => by rcases hi with rfl | rfl <;> assumption
  obtain ⟨l1, l2⟩ := h.lead
  obtain ⟨b1, b2, b3⟩ := h.laid
  rw [Int.zero_add] at b2 b3
  refine ⟨h.g, ⟨?_, ?_⟩, b1.cong (fun i hi hi2 => hb i hi (by omega)), by rw [Int.zero_add]; exact b2, by rw [Int.zero_add]; exact he⟩
  · rw [hh _ (by omega)]; exact l1
  · rw [hh _ (by omega)]; exact l2
theorem Stands.same {V V' : Int → List UInt8} {n : Nat} {gen : Int} {l : List (List UInt8)} (h : Stands V n gen l) (h0 : V' 0 = V 0) (h1 : V' 1 = V 1)
    (hb : ∀ i, 0 ≤ i → i ≤ takesL l → i < (halfN n gen).room → V' ((halfN n gen).fr + i) = V ((halfN n gen).fr + i)) : Stands V' n gen l := by
  obtain ⟨b1, b2, b3⟩ := h.laid
  rw [Int.zero_add] at b2 b3
  have := takesL_nn l
  refine h.cong h0 h1 (fun i hi hi2 => hb i hi (by omega) (by omega)) fun hlt => ?_
  rw [hb _ this (Int.le_refl _) hlt]
  exact b3 hlt
theorem Stands.snoc {V V' : Int → List UInt8} {n : Nat} {gen : Int} {l : List (List UInt8)} {b : List UInt8} (h : Stands V n gen l) (h0 : V' 0 = V 0) (h1 : V' 1 = V 1)
    (hb : ∀ i, 0 ≤ i → i < takesL l → V' ((halfN n gen).fr + i) = V ((halfN n gen).fr + i)) (hbl : b.length ≤ 1048576) (hr : takesL l + takesB b ≤ (halfN n gen).room)
    (hm : V' ((halfN n gen).fr + takesL l) = putB (markH (halfN n gen) l.length b))
    (hd : ∀ i : Nat, i < (needZ b.length).toNat → V' ((halfN n gen).fr + (takesL l + 1 + (i : Int))) = (packsB b).getD i [])
    (he : takesL l + takesB b < (halfN n gen).room → bare (V' ((halfN n gen).fr + (takesL l + takesB b)))) : Stands V' n gen (l ++ [b]) := by
  have hh : ∀ i, i = 0 ∨ i = 1 → V' i = V i := fun i hi => by rcases hi with rfl | rfl <;> assumption
  obtain ⟨l1, l2⟩ := h.lead
  obtain ⟨b1, b2, b3⟩ := h.laid
  have ht : takesL (l ++ [b]) = takesL l + takesB b := by rw [takesL_append, takesL_cons, takesL_nil, Int.add_zero]
  refine ⟨h.g, ⟨?_, ?_⟩, (b1.cong (fun i hi hi2 => hb i hi (by omega))).snoc ?_, by rw [ht, Int.zero_add]; exact hr, by rw [ht, Int.zero_add]; exact he⟩
  · rw [hh _ (by omega)]; exact l1
  · rw [hh _ (by omega)]; exact l2
  · rw [Int.zero_add, Int.zero_add]
    exact ⟨hbl, hm, hd, trivial⟩
end Go.Proofs.YthgfmoogagldmaaGreat.Journal
