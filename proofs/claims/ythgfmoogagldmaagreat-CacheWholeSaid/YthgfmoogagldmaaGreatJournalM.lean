/- JournalM: What an append leaves on the disk, also behind a crash; What a reset leaves on the disk, also behind a crash; what an opening finds; What an opening finds; A disk on which a journal stands, ready to be opened: behind a crash, a stop, an act. -/
import Derived.Test.YthgfmoogagldmaaGreatJournalL
set_option linter.unusedVariables false
namespace Go.Proofs.YthgfmoogagldmaaGreat.Journal
open Disk Go.Proofs.YthgfmoogagldmaaGreat.Frame
def Torn (d : DS) (n : Nat) (l m : List (List UInt8)) (G : Int) : Prop := WF d ∧ d.n = n ∧ ∀ fs ks, waitsD d ks → (∃ gen, gen ≤ G ∧ Stands (sv (crashD d fs ks)) n gen l) ∨ (∃ gen, gen ≤ G ∧ Stands (sv (crashD d fs ks)) n gen m)
theorem half_in {n : Nat} {gen : Int} (hn : 8 ≤ n) : 2 ≤ (halfN n gen).fr ∧ (halfN n gen).fr + (halfN n gen).room ≤ n ∧ 0 ≤ (halfN n gen).room := by
  unfold halfN
  simp only
  have : gen % 2 = 0 ∨ gen % 2 = 1 := by omega
  rcases this with h | h <;> rw [h] <;> omega
theorem zero_wrote {d : DS} {h : Half} {a : Int} (ha : 0 ≤ a) (hf : 0 ≤ h.fr) (hr : h.fr + h.room ≤ d.n) : Wrote d (zeroH d h a).1 (h.fr + a) (h.fr + h.room) ∧ ((zeroH d h a).2 = true → a < h.room → rv (zeroH d h a).1 (h.fr + a) = zeros) := by
  unfold zeroH
  by_cases hlt : h.room ≤ a
  · rw [if_pos hlt]
    exact ⟨Wrote.refl _ _ _, fun _ h => by omega⟩
  · rw [if_neg hlt]
    obtain ⟨w1, w2⟩ := wr_wrote (d := d) (i := h.fr + a) (l := zeros) ⟨by omega, by omega⟩ (by unfold zeros; rw [List.length_replicate])
    exact ⟨w1.mono (Int.le_refl _) (by omega), fun k _ => w2 k⟩
theorem pack_wrote {d : DS} {h : Half} {a : Int} {b : List UInt8} (ha : 0 ≤ a) (hf : 0 ≤ h.fr) (hr : h.fr + h.room ≤ d.n) (hb : a + takesB b ≤ h.room) :
    Wrote d (packH d h a b).1 (h.fr + a + 1) (h.fr + a + takesB b) ∧ ((packH d h a b).2 = true → ∀ i : Nat, i < (needZ b.length).toNat → rv (packH d h a b).1 (h.fr + (a + 1 + (i : Int))) = (packsB b).getD i []) := by
  have hn := needZ_nn b.length
  have hl := packsB_len b
  have htb : takesB b = 1 + needZ b.length := rfl
  obtain ⟨w1, w2⟩ := puts_wrote (packsB b) d (h.fr + a + 1) (fun s hs => packsB_64 hs) (by omega) (by omega)
  refine ⟨w1.mono (Int.le_refl _) (by omega), fun k i hi => ?_⟩
  have := w2 k i (by omega)
  rw [show h.fr + (a + 1 + (i : Int)) = h.fr + a + 1 + (i : Int) by omega]
  exact this
theorem putB_64 {m : Frame.Mark} (h : m.right) : (putB m).length = 64 := by
  unfold putB
  rw [if_pos h, List.length_append, halfB_len]
def AppendL (d : DS) (j : JS) (n : Nat) (gen : Int) (l : List (List UInt8)) (b : List UInt8) (r : DS × JS × Int) : Prop :=
  (r.2.2 = 0 ∧ WF r.1 ∧ Quiet r.1 ∧ r.1.n = n ∧ Stands (sv r.1) n gen (l ++ [b]) ∧ r.2.1 = ⟨halfN n gen, l ++ [b], false⟩) ∨
  (r.2.2 = 3 ∧ r.2.1 = { j with off := true } ∧ Torn r.1 n l (l ++ [b]) gen) ∨ ((r.2.2 = 1 ∨ r.2.2 = 2) ∧ r.1 = d ∧ r.2.1 = j)
theorem append_law {d : DS} {n : Nat} {gen : Int} {l : List (List UInt8)} {b : List UInt8} (hw : WF d) (hq : Quiet d) (hdn : d.n = n) (hn : 8 ≤ n) (hn2 : n ≤ 100000) (hs : Stands (sv d) n gen l) :
    AppendL d ⟨halfN n gen, l, false⟩ n gen l b (appendJ d ⟨halfN n gen, l, false⟩ b) := by
  unfold appendJ usedJ
  simp only
  by_cases hre : refuseJ ⟨halfN n gen, l, false⟩ [b] ((halfN n gen).room - takesL l) = 0
  case neg =>
    rw [if_pos hre]
    refine .inr (.inr ⟨?_, rfl, rfl⟩)
    simp only
    unfold refuseJ at hre ⊢
    simp only at hre ⊢
    rw [if_neg (by decide)] at hre ⊢
    split at hre
    · rename_i h1; rw [if_pos h1]; exact .inl rfl
    · rename_i h1
      rw [if_neg h1]
      split at hre
      · rename_i h2; rw [if_pos h2]; exact .inr rfl
      · exact absurd rfl hre
  case pos =>
    rw [if_neg (by rw [hre]; decide)]
    have hfit : b.length ≤ 1048576 ∧ takesL l + takesB b ≤ (halfN n gen).room := by
      unfold refuseJ at hre
      simp only at hre
      rw [if_neg (by decide)] at hre
      split at hre
      · cases hre
      · rename_i h1
        split at hre
        · cases hre
        · rename_i h2
          rw [takesL_cons, takesL_nil] at h2
          exact ⟨Nat.le_of_not_lt fun h => h1 ⟨b, by simp, h⟩, by omega⟩
    clear hre
    obtain ⟨hbl, hfit⟩ := hfit
    obtain ⟨hf, hr, hr0⟩ := half_in (n := n) (gen := gen) hn
    have hat := takesL_nn l
    have htp := takesB_pos b
    have hgen : (halfN n gen).gen = gen := rfl
    have hlen : (l.length : Int) ≤ takesL l := by
      clear hs hfit hat
      induction l with
      | nil => rw [takesL_nil]; exact Int.le_refl _
      | cons c l ih => have := takesB_pos c; rw [takesL_cons, List.length_cons]; omega
    have hroom : (halfN n gen).room ≤ 100000 := by unfold halfN; simp only; omega
    obtain ⟨mo1, mo2⟩ := markH_ok (h := halfN n gen) (seq := (l.length : Int)) (b := b) (by rw [hgen]; have := hs.g; omega) (by omega) hbl
    obtain ⟨h, hh⟩ : ∃ h, halfN n gen = h := ⟨_, rfl⟩
    have hs' := hs
    rw [hh] at hf hr hr0 hfit hroom mo1 mo2 ⊢
    obtain ⟨at_, hat_⟩ : ∃ a, takesL l = a := ⟨_, rfl⟩
    rw [hat_] at hat hfit hlen ⊢
    obtain ⟨p1, p2⟩ := pack_wrote (d := d) (h := h) (a := at_) (b := b) hat (by omega) (by rw [hdn]; exact hr) hfit
    have hbare : at_ < h.room → bare (sv d (h.fr + at_)) := by
      obtain ⟨_, _, b3⟩ := hs.laid
      rw [Int.zero_add, hh, hat_] at b3
      exact b3
    -- a disk that is only written to behind the place is torn well
    have tornA : ∀ d', Wrote d d' (h.fr + at_ + 1) (h.fr + h.room) → Torn d' n l (l ++ [b]) gen := fun d' hwr =>
      ⟨hwr.wf hw, hwr.n.trans hdn, fun fs ks hk => .inl ⟨gen, Int.le_refl _, hs.same (hwr.crash hq fs hk (by omega) (by omega)) (hwr.crash hq fs hk (by omega) (by omega))
        (fun i hi hi2 hi3 => by rw [hh] at hi3 ⊢; rw [hat_] at hi2; exact hwr.crash hq fs hk (by omega) (by omega))⟩⟩
    have wA1 := p1.mono (hi' := h.fr + h.room) (Int.le_refl _) (by omega)
    -- the bytes, and a sector of zero
    have fin1 : ∀ r, andThen (packH d h at_ b) (fun x => zeroH x h (at_ + takesB b)) = r → Wrote d r.1 (h.fr + at_ + 1) (h.fr + h.room) ∧ (r.2 = true → (∀ i : Nat, i < (needZ b.length).toNat → rv r.1 (h.fr + (at_ + 1 + (i : Int))) = (packsB b).getD i []) ∧ (at_ + takesB b < h.room → rv r.1 (h.fr + (at_ + takesB b)) = zeros)) := by
      rintro r rfl
      cases e : (packH d h at_ b).2 with
      | false => rw [andThen_no e]; exact ⟨wA1, fun h => by cases h⟩
      | true =>
        rw [andThen_ok e]
        have hn1 := wA1.n
        obtain ⟨z1, z2⟩ := zero_wrote (d := (packH d h at_ b).1) (h := h) (a := at_ + takesB b) (by omega) (by omega) (by rw [hn1, hdn]; exact hr)
        refine ⟨wA1.trans (z1.mono (by omega) (Int.le_refl _)), fun k => ⟨fun i hi => ?_, fun hlt => z2 k hlt⟩⟩
        have htb : takesB b = 1 + needZ b.length := rfl
        rw [z1.rv (by omega) (.inl (by omega))]
        exact p2 e i hi
    obtain ⟨rA, hrA⟩ : ∃ r, andThen (packH d h at_ b) (fun x => zeroH x h (at_ + takesB b)) = r := ⟨_, rfl⟩
    obtain ⟨wA, fA⟩ := fin1 rA hrA
    rw [hrA]
    clear hrA fin1
    cases eA : rA.2 with
    | false =>
      rw [andThen_no eA, andThen_no rfl, andThen_no rfl]
      simp only
      rw [if_neg (by decide)]
      exact .inr (.inl ⟨rfl, rfl, tornA _ wA⟩)
    | true =>
      rw [andThen_ok eA]
      rcases syn_step rA.1 with e2 | e2
      · rw [e2, andThen_no rfl, andThen_no rfl]
        simp only
        rw [if_neg (by decide)]
        exact .inr (.inl ⟨rfl, rfl, tornA _ wA.off⟩)
      · obtain ⟨fd, fz⟩ := fA eA
        obtain ⟨D2, hD2⟩ : ∃ D, syncD rA.1 = D := ⟨_, rfl⟩
        have w2 : WF D2 := by rw [← hD2]; exact (wA.wf hw).sync
        have q2 : Quiet D2 := by rw [← hD2]; exact sync_quiet _
        have v2 : sv D2 = rv rA.1 := by rw [← hD2]; exact sync_sv _
        have n2 : D2.n = n := by rw [← hD2]; exact wA.n.trans hdn
        have same2 : ∀ i, 0 ≤ i → i < h.fr + at_ + 1 → sv D2 i = sv d i := fun i h0 hi => by rw [v2, wA.rv h0 (.inl hi), quiet_rv hq]
        have s2 : Stands (sv D2) n gen l := hs.same (same2 0 (by omega) (by omega)) (same2 1 (by omega) (by omega)) (fun i hi hi2 hi3 => by rw [hh] at hi3 ⊢; rw [hat_] at hi2; exact same2 _ (by omega) (by omega))
        have hm64 := putB_64 mo1
        -- a disk like this one but for the mark's sector
        have snoc : ∀ V : Int → List UInt8, (∀ i, 0 ≤ i → i ≠ h.fr + at_ → V i = sv D2 i) → V (h.fr + at_) = putB (markH h l.length b) → Stands V n gen (l ++ [b]) := fun V hV hVm => by
          refine s2.snoc (hV _ (by omega) (by omega)) (hV _ (by omega) (by omega)) (fun i hi hi2 => ?_) hbl (by rw [hh, hat_]; exact hfit) (by rw [hh, hat_]; exact hVm) (fun i hi => ?_) (fun hlt => ?_)
          · rw [hh]; rw [hat_] at hi2; exact hV _ (by omega) (by omega)
          · rw [hh, hat_, hV _ (by omega) (by omega), v2]; exact fd i hi
          · rw [hh, hat_] at hlt ⊢; rw [hV _ (by omega) (by omega), v2, fz hlt]; exact bare_zeros
        have keep : ∀ V : Int → List UInt8, (∀ i, 0 ≤ i → i ≠ h.fr + at_ → V i = sv D2 i) → bare (V (h.fr + at_)) → Stands V n gen l := fun V hV hb => by
          refine s2.cong (hV _ (by omega) (by omega)) (hV _ (by omega) (by omega)) (fun i hi hi2 => ?_) (fun _ => by rw [hh, hat_]; exact hb)
          rw [hh]; rw [hat_] at hi2; exact hV _ (by omega) (by omega)
        rw [e2, hD2, andThen_ok (x := (D2, true)) rfl]
        simp only
        have hpos : 0 ≤ h.fr + at_ ∧ h.fr + at_ < D2.n := by rw [n2]; omega
        rcases wr_step (l := putB (markH h l.length b)) hpos hm64 with e3 | e3
        · rw [e3, andThen_no rfl]
          simp only
          rw [if_neg (by decide)]
          refine .inr (.inl ⟨rfl, rfl, w2.off, n2, fun fs ks hk => .inl ⟨gen, Int.le_refl _, ?_⟩⟩)
          have := Quiet.crash (d := { D2 with off := true }) q2 fs hk
          rw [this]
          exact s2
        · obtain ⟨w3, r3⟩ := wr_wrote (l := putB (markH h l.length b)) hpos hm64
          have r3' := r3 (by rw [e3])
          rw [e3] at w3 r3' ⊢
          rw [andThen_ok rfl]
          simp only at w3 r3' ⊢
          obtain ⟨D3, hD3⟩ : ∃ D, stepD { D2 with wait := setW D2.wait (h.fr + at_).toNat (putB (markH h l.length b)) } = D := ⟨_, rfl⟩
          rw [hD3] at w3 r3' ⊢
          have hwt : ∀ s, D3.wait (h.fr + at_).toNat = some s → s = putB (markH h l.length b) := fun s hs => by
            rw [← hD3] at hs
            have hs2 : setW D2.wait (h.fr + at_).toNat (putB (markH h l.length b)) (h.fr + at_).toNat = some s := hs
            unfold setW at hs2
            rw [if_pos rfl] at hs2
            injection hs2 with hs2
            exact hs2.symm
          rcases syn_step D3 with e4 | e4
          · rw [e4]
            simp only
            rw [if_neg (by decide)]
            refine .inr (.inl ⟨rfl, rfl, (w3.wf w2).off, w3.n.trans n2, fun fs ks hk => ?_⟩)
            have hoth : ∀ i, 0 ≤ i → i ≠ h.fr + at_ → sv (crashD { D3 with off := true } fs ks) i = sv D2 i := fun i h0 hi => w3.off.crash q2 fs hk h0 (by omega)
            have hbd : bare (sv D2 (h.fr + at_)) := by rw [same2 _ (by omega) (by omega)]; exact hbare (by omega)
            rcases crash_safe fs hk (h.fr + at_).toNat with ⟨_, c2⟩ | ⟨s, c1, c2⟩
            · refine .inl ⟨gen, Int.le_refl _, keep _ hoth ?_⟩
              unfold sv at hbd ⊢
              rw [c2]
              have : D3.safe = D2.safe := w3.safe
              show bare (D3.safe _)
              rw [this]
              exact hbd
            · have := hwt s c1
              subst this
              have hsafe : ({ D3 with off := true } : DS).safe (h.fr + at_).toNat = sv D2 (h.fr + at_) := by
                show D3.safe _ = D2.safe _
                rw [w3.safe]
              rw [hsafe] at c2
              have h64 : (sv D2 (h.fr + at_)).length = 64 := w2.safe _ (by omega)
              rcases mix_put mo1 mo2 h64 c2 with k | k | k
              · exact .inr ⟨gen, Int.le_refl _, snoc _ hoth k⟩
              · refine .inl ⟨gen, Int.le_refl _, keep _ hoth ?_⟩
                show bare ((crashD { D3 with off := true } fs ks).safe _)
                rw [k]; exact hbd
              · exact .inl ⟨gen, Int.le_refl _, keep _ hoth k⟩
          · rw [e4]
            simp only
            rw [if_pos trivial]
            refine .inl ⟨rfl, (w3.wf w2).sync, sync_quiet _, w3.n.trans n2, ?_, by simp only [← hh]⟩
            refine snoc _ (fun i h0 hi => ?_) ?_
            · rw [sync_sv, w3.rv h0 (by omega), quiet_rv q2]
            · rw [sync_sv]; exact r3'
end Go.Proofs.YthgfmoogagldmaaGreat.Journal
namespace Go.Proofs.YthgfmoogagldmaaGreat.Journal
open Disk Go.Proofs.YthgfmoogagldmaaGreat.Frame
theorem layG_wrote : ∀ (l : List (List UInt8)) (d : DS) (h : Half) (a i : Int), 0 ≤ a → 0 ≤ h.fr → h.fr + h.room ≤ d.n → a + takesL l ≤ h.room → 0 ≤ h.gen ∧ h.gen ≤ 4611686018427387904 → 0 ≤ i → i + l.length ≤ 4611686018427387904 → (∀ b ∈ l, b.length ≤ 1048576) →
    Wrote d (layG d h a i l).1 (h.fr + a) (h.fr + a + takesL l) ∧ ((layG d h a i l).2.1 = true → Body (rv (layG d h a i l).1) h a i l ∧ (layG d h a i l).2.2 = a + takesL l)
  | [], d, h, a, i, ha, hf, hr, ht, hg, hi, hi2, hb => ⟨Wrote.refl _ _ _, fun _ => ⟨trivial, by rw [takesL_nil, Int.add_zero]; rfl⟩⟩
  | b :: l, d, h, a, i, ha, hf, hr, ht, hg, hi, hi2, hb => by
    rw [takesL_cons] at ht ⊢
    rw [List.length_cons] at hi2
    have hp := takesB_pos b
    have hn := takesL_nn l
    have hbl := hb b (by simp)
    have htb : takesB b = 1 + needZ b.length := rfl
    obtain ⟨mo1, mo2⟩ := markH_ok (h := h) (seq := i) (b := b) hg ⟨hi, by omega⟩ hbl
    obtain ⟨w1, w2⟩ := wr_wrote (d := d) (i := h.fr + a) (l := putB (markH h i b)) ⟨by omega, by omega⟩ (putB_64 mo1)
    unfold layG
    simp only
    cases e : (wrD d (h.fr + a) (putB (markH h i b))).2 with
    | false =>
      rw [andThen_no e]
      simp only
      rw [if_neg (by decide)]
      exact ⟨w1.mono (by omega) (by omega), fun h => by cases h⟩
    | true =>
      rw [andThen_ok e]
      obtain ⟨D1, hD1⟩ : ∃ D, (wrD d (h.fr + a) (putB (markH h i b))).1 = D := ⟨_, rfl⟩
      have v1 := w2 e
      rw [hD1] at w1 v1 ⊢
      have n1 := w1.n
      obtain ⟨p1, p2⟩ := pack_wrote (d := D1) (h := h) (a := a) (b := b) ha hf (by rw [n1]; exact hr) (by omega)
      obtain ⟨r, hr2⟩ : ∃ r, packH D1 h a b = r := ⟨_, rfl⟩
      rw [hr2] at p1 p2 ⊢
      have wr := (w1.mono (hi' := h.fr + a + takesB b) (Int.le_refl _) (by omega)).trans (p1.mono (by omega) (Int.le_refl _))
      by_cases er : r.2 = true
      · rw [if_pos er]
        have nr := wr.n
        obtain ⟨g1, g2⟩ := layG_wrote l r.1 h (a + takesB b) (i + 1) (by omega) hf (by rw [nr]; exact hr) (by omega) hg (by omega) (by omega) (fun c hc => hb c (by simp [hc]))
        refine ⟨(wr.mono (Int.le_refl _) (by omega)).trans (g1.mono (by omega) (by omega)), fun k => ?_⟩
        obtain ⟨k1, k2⟩ := g2 k
        refine ⟨⟨hbl, ?_, fun x hx => ?_, k1⟩, by rw [k2]; omega⟩
        · rw [g1.rv (by omega) (.inl (by omega)), p1.rv (by omega) (.inl (by omega))]
          exact v1
        · rw [g1.rv (by omega) (.inl (by omega))]
          exact p2 er x hx
      · rw [if_neg er]
        exact ⟨wr.mono (Int.le_refl _) (by omega), fun h => by cases h⟩
def ResetL (d : DS) (j : JS) (n : Nat) (gen : Int) (l m : List (List UInt8)) (r : DS × JS × Int) : Prop :=
  (r.2.2 = 0 ∧ WF r.1 ∧ Quiet r.1 ∧ r.1.n = n ∧ Stands (sv r.1) n (gen + 1) m ∧ r.2.1 = ⟨halfN n (gen + 1), m, false⟩) ∨
  (r.2.2 = 3 ∧ r.2.1 = { j with off := true } ∧ Torn r.1 n l m (gen + 1)) ∨ ((r.2.2 = 1 ∨ r.2.2 = 2) ∧ r.1 = d ∧ r.2.1 = j)
theorem len_takes : ∀ l : List (List UInt8), (l.length : Int) ≤ takesL l
  | [] => by rw [takesL_nil]; exact Int.le_refl _
  | c :: l => by have := takesB_pos c; have := len_takes l; rw [takesL_cons, List.length_cons]; omega
theorem lay_law {d : DS} {h : Half} {m : List (List UInt8)} (hf : 0 ≤ h.fr) (hr : h.fr + h.room ≤ d.n) (hroom : h.room ≤ 100000) (ht : takesL m ≤ h.room) (hg : 0 ≤ h.gen ∧ h.gen ≤ 4611686018427387904) (hb : ∀ b ∈ m, b.length ≤ 1048576) :
    ((layH d h m).2 = false ∧ Wrote d (layH d h m).1 h.fr (h.fr + h.room)) ∨ ((layH d h m).2 = true ∧ ∃ D, Wrote d D h.fr (h.fr + h.room) ∧ (layH d h m).1 = syncD D ∧ Laid (rv D) h 0 0 m) := by
  have hl := len_takes m
  have hn := takesL_nn m
  obtain ⟨g1, g2⟩ := layG_wrote m d h 0 0 (Int.le_refl _) hf hr (by omega) hg (Int.le_refl _) (by omega) hb
  unfold layH
  simp only
  obtain ⟨r, hr2⟩ : ∃ r, layG d h 0 0 m = r := ⟨_, rfl⟩
  rw [hr2] at g1 g2 ⊢
  by_cases e : r.2.1 = true
  · rw [if_pos e]
    obtain ⟨b1, b2⟩ := g2 e
    rw [b2, Int.zero_add]
    have n1 := g1.n
    obtain ⟨z1, z2⟩ := zero_wrote (d := r.1) (h := h) (a := takesL m) hn hf (by rw [n1]; exact hr)
    obtain ⟨z, hz⟩ : ∃ z, zeroH r.1 h (takesL m) = z := ⟨_, rfl⟩
    rw [hz] at z1 z2 ⊢
    have wz := (g1.mono (lo' := h.fr) (hi' := h.fr + h.room) (by omega) (by omega)).trans (z1.mono (by omega) (Int.le_refl _))
    cases ez : z.2 with
    | false => rw [andThen_no ez]; exact .inl ⟨rfl, wz⟩
    | true =>
      rw [andThen_ok ez]
      rcases syn_step z.1 with e2 | e2
      · rw [e2]; exact .inl ⟨rfl, wz.off⟩
      · rw [e2]
        refine .inr ⟨rfl, z.1, wz, rfl, b1.cong (fun i hi hi2 => z1.rv (by omega) (.inl (by omega))), by omega, fun hlt => ?_⟩
        rw [Int.zero_add] at hlt ⊢
        rw [z2 ez hlt]
        exact bare_zeros
  · rw [if_neg e]
    exact .inl ⟨rfl, g1.mono (by omega) (by omega)⟩
theorem halves_apart (n : Nat) (gen : Int) : (halfN n gen).room = (halfN n (gen + 1)).room ∧ ((halfN n gen).fr + (halfN n gen).room = (halfN n (gen + 1)).fr ∨ (halfN n (gen + 1)).fr + (halfN n (gen + 1)).room = (halfN n gen).fr) := by
  unfold halfN
  simp only
  have : (gen % 2 = 0 ∧ (gen + 1) % 2 = 1) ∨ (gen % 2 = 1 ∧ (gen + 1) % 2 = 0) := by omega
  rcases this with ⟨h1, h2⟩ | ⟨h1, h2⟩ <;> rw [h1, h2] <;> refine ⟨trivial, ?_⟩ <;> omega
theorem reset_law {d : DS} {n : Nat} {gen : Int} {l m : List (List UInt8)} (hw : WF d) (hq : Quiet d) (hdn : d.n = n) (hn : 8 ≤ n) (hn2 : n ≤ 100000) (hs : Stands (sv d) n gen l) (hgen : gen < 1000000000) :
    ResetL d ⟨halfN n gen, l, false⟩ n gen l m (resetJ d ⟨halfN n gen, l, false⟩ m) := by
  unfold resetJ
  simp only
  by_cases hre : refuseJ ⟨halfN n gen, l, false⟩ m (halfN n gen).room = 0
  case neg =>
    rw [if_pos hre]
    refine .inr (.inr ⟨?_, rfl, rfl⟩)
    simp only
    unfold refuseJ at hre ⊢
    simp only at hre ⊢
    rw [if_neg (by decide)] at hre ⊢
    split at hre
    · rename_i h1; rw [if_pos h1]; exact .inl rfl
    · rename_i h1
      rw [if_neg h1]
      split at hre
      · rename_i h2; rw [if_pos h2]; exact .inr rfl
      · exact absurd rfl hre
  case pos =>
    rw [if_neg (by rw [hre]; decide)]
    have hfit : (∀ b ∈ m, b.length ≤ 1048576) ∧ takesL m ≤ (halfN n gen).room := by
      unfold refuseJ at hre
      simp only at hre
      rw [if_neg (by decide)] at hre
      split at hre
      · cases hre
      · rename_i h1
        split at hre
        · cases hre
        · rename_i h2
          exact ⟨fun b hb => Nat.le_of_not_lt fun h => h1 ⟨b, hb, h⟩, by omega⟩
    clear hre
    obtain ⟨hbl, hfit⟩ := hfit
    obtain ⟨hf, hr, hr0⟩ := half_in (n := n) (gen := gen) hn
    obtain ⟨hf', hr', hr0'⟩ := half_in (n := n) (gen := gen + 1) hn
    obtain ⟨ap1, ap2⟩ := halves_apart n gen
    have hg1 : (halfN n (gen + 1)).gen = gen + 1 := rfl
    have hgg := hs.g
    have hroom : (halfN n (gen + 1)).room ≤ 100000 := by unfold halfN; simp only; omega
    obtain ⟨l1, l2⟩ := hs.lead
    have hgen0 : (halfN n gen).gen = gen := rfl
    rw [hgen0, halfD_eq, hdn]
    -- whoever writes to the other half alone leaves what stands
    have other : ∀ V : Int → List UInt8, (∀ i, 0 ≤ i → i < (halfN n (gen + 1)).fr ∨ (halfN n (gen + 1)).fr + (halfN n (gen + 1)).room ≤ i → V i = sv d i) → Stands V n gen l := fun V hV =>
      hs.same (hV _ (by omega) (by omega)) (hV _ (by omega) (by omega)) (fun i hi hi2 hi3 => hV _ (by omega) (by omega))
    rcases lay_law (d := d) (h := halfN n (gen + 1)) (m := m) (by omega) (by rw [hdn]; exact hr') hroom (by omega) (by rw [hg1]; omega) hbl with ⟨e1, wr⟩ | ⟨e1, D, wr, e2, laid⟩
    · rw [andThen_no e1]
      simp only
      rw [if_neg (by decide)]
      exact .inr (.inl ⟨rfl, rfl, wr.wf hw, wr.n.trans hdn, fun fs ks hk => .inl ⟨gen, by omega, other _ fun i h0 hi => wr.crash hq fs hk h0 hi⟩⟩)
    · rw [andThen_ok e1, e2]
      have n2 : (syncD D).n = n := wr.n.trans hdn
      have w2 : WF (syncD D) := (wr.wf hw).sync
      have q2 : Quiet (syncD D) := sync_quiet D
      have v2 : sv (syncD D) = rv D := rfl
      obtain ⟨D2, hD2⟩ : ∃ x, syncD D = x := ⟨_, rfl⟩
      rw [hD2] at n2 w2 q2 v2 ⊢
      rw [← v2] at laid
      have same2 : ∀ i, 0 ≤ i → i < (halfN n (gen + 1)).fr ∨ (halfN n (gen + 1)).fr + (halfN n (gen + 1)).room ≤ i → sv D2 i = sv d i := fun i h0 hi => by rw [v2, wr.rv h0 hi, quiet_rv hq]
      have s2 : Stands (sv D2) n gen l := other _ same2
      obtain ⟨mo1, mo2⟩ := headM_ok (gen := gen + 1) (by omega)
      have hm64 := putB_64 mo1
      have hpos : 0 ≤ (gen + 1) % 2 ∧ (gen + 1) % 2 < D2.n := by rw [n2]; omega
      -- the new one stands
      have new : ∀ V : Int → List UInt8, (∀ i, 0 ≤ i → i ≠ (gen + 1) % 2 → V i = sv D2 i) → V ((gen + 1) % 2) = putB (headM (gen + 1)) → Stands V n (gen + 1) m := fun V hV hVm => by
        refine ⟨by omega, ⟨hVm, ?_⟩, ?_⟩
        · intro g hg
          rw [hV _ (by omega) (by omega), show (gen + 1 + 1) % 2 = gen % 2 by omega, s2.lead.1, headV_put (by omega), if_pos rfl] at hg
          injection hg with hg
          omega
        · obtain ⟨b1, b2, b3⟩ := laid
          rw [Int.zero_add] at b2 b3
          have htn := takesL_nn m
          refine ⟨b1.cong (fun i hi hi2 => hV _ (by omega) (by omega)), by rw [Int.zero_add]; exact b2, fun hlt => ?_⟩
          rw [Int.zero_add] at hlt ⊢
          rw [hV _ (by omega) (by omega)]
          exact b3 hlt
      have old : ∀ V : Int → List UInt8, (∀ i, 0 ≤ i → i ≠ (gen + 1) % 2 → V i = sv D2 i) → bare (V ((gen + 1) % 2)) → Stands V n gen l := fun V hV hb => by
        obtain ⟨b1, b2, b3⟩ := s2.laid
        rw [Int.zero_add] at b2 b3
        have htn := takesL_nn l
        refine ⟨hgg, ⟨?_, ?_⟩, b1.cong (fun i hi hi2 => hV _ (by omega) (by omega)), by rw [Int.zero_add]; exact b2, fun hlt => ?_⟩
        · rw [hV _ (by omega) (by omega)]; exact s2.lead.1
        · intro g hg
          rw [headV_bare hb] at hg
          cases hg
        · rw [Int.zero_add] at hlt ⊢
          rw [hV _ (by omega) (by omega)]
          exact b3 hlt
      unfold leadH
      rw [hg1]
      have hM : (⟨1, gen + 1, 0, 0⟩ : Frame.Mark) = headM (gen + 1) := rfl
      rw [hM]
      rcases wr_step (l := putB (headM (gen + 1))) hpos hm64 with e3 | e3
      · rw [e3]
        simp only [Bool.false_eq_true, ↓reduceIte]
        refine .inr (.inl ⟨rfl, rfl, w2.off, n2, fun fs ks hk => .inl ⟨gen, by omega, ?_⟩⟩)
        have := Quiet.crash (d := { D2 with off := true }) q2 fs hk
        rw [this]
        exact s2
      · obtain ⟨w3, r3⟩ := wr_wrote (l := putB (headM (gen + 1))) hpos hm64
        have r3' := r3 (by rw [e3])
        rw [e3] at w3 r3' ⊢
        simp only at w3 r3' ⊢
        rw [if_pos trivial]
        obtain ⟨D3, hD3⟩ : ∃ x, stepD { D2 with wait := setW D2.wait ((gen + 1) % 2).toNat (putB (headM (gen + 1))) } = x := ⟨_, rfl⟩
        rw [hD3] at w3 r3' ⊢
        have hwt : ∀ s, D3.wait ((gen + 1) % 2).toNat = some s → s = putB (headM (gen + 1)) := fun s hs => by
          rw [← hD3] at hs
          have hs2 : setW D2.wait ((gen + 1) % 2).toNat (putB (headM (gen + 1))) ((gen + 1) % 2).toNat = some s := hs
          unfold setW at hs2
          rw [if_pos rfl] at hs2
          injection hs2 with hs2
          exact hs2.symm
        rcases syn_step D3 with e4 | e4
        · rw [e4]
          simp only
          rw [if_neg (by decide)]
          refine .inr (.inl ⟨rfl, rfl, (w3.wf w2).off, w3.n.trans n2, fun fs ks hk => ?_⟩)
          have hoth : ∀ i, 0 ≤ i → i ≠ (gen + 1) % 2 → sv (crashD { D3 with off := true } fs ks) i = sv D2 i := fun i h0 hi => w3.off.crash q2 fs hk h0 (by omega)
          have hsafe : ({ D3 with off := true } : DS).safe ((gen + 1) % 2).toNat = sv D2 ((gen + 1) % 2) := by
            show D3.safe _ = D2.safe _
            rw [w3.safe]
          have all : ∀ k : sv (crashD { D3 with off := true } fs ks) ((gen + 1) % 2) = sv D2 ((gen + 1) % 2), Stands (sv (crashD { D3 with off := true } fs ks)) n gen l := fun k =>
            s2.same (by by_cases e : (0 : Int) = (gen + 1) % 2; rw [e, k]; exact hoth _ (by omega) e) (by by_cases e : (1 : Int) = (gen + 1) % 2; rw [e, k]; exact hoth _ (by omega) e) (fun i hi hi2 hi3 => hoth _ (by omega) (by omega))
          rcases crash_safe fs hk ((gen + 1) % 2).toNat with ⟨_, c2⟩ | ⟨s, c1, c2⟩
          · exact .inl ⟨gen, by omega, all (by unfold sv at hsafe ⊢; rw [c2]; exact hsafe)⟩
          · have := hwt s c1
            subst this
            rw [hsafe] at c2
            have h64 : (sv D2 ((gen + 1) % 2)).length = 64 := w2.safe _ (by omega)
            rcases mix_put mo1 mo2 h64 c2 with k | k | k
            · exact .inr ⟨gen + 1, Int.le_refl _, new _ hoth k⟩
            · exact .inl ⟨gen, by omega, all k⟩
            · exact .inl ⟨gen, by omega, old _ hoth k⟩
        · rw [e4]
          simp only
          rw [if_pos trivial]
          refine .inl ⟨rfl, (w3.wf w2).sync, sync_quiet _, w3.n.trans n2, ?_, rfl⟩
          refine new _ (fun i h0 hi => ?_) ?_
          · rw [sync_sv, w3.rv h0 (by omega), quiet_rv q2]
          · rw [sync_sv]; exact r3'
end Go.Proofs.YthgfmoogagldmaaGreat.Journal
namespace Go.Proofs.YthgfmoogagldmaaGreat.Journal
open Disk Go.Proofs.YthgfmoogagldmaaGreat.Frame
theorem rd_sv {d : DS} (hq : Quiet d) (ho : d.off = false) {i : Int} (h : 0 ≤ i ∧ i < d.n) : rdD d i = sv d i := by
  unfold rdD
  rw [ho, if_neg (by decide), if_pos h]
  have := quiet_rv hq
  exact congrFun this i
theorem newest_stands {d : DS} {gen : Int} {l : List (List UInt8)} (hq : Quiet d) (ho : d.off = false) (hn : 8 ≤ d.n) (hs : Stands (sv d) d.n gen l) : newestD d = gen := by
  obtain ⟨l1, l2⟩ := hs.lead
  have hg := hs.g
  unfold newestD
  rw [headOk_eq, headOk_eq, rd_sv hq ho ⟨by decide, by omega⟩, rd_sv hq ho ⟨by decide, by omega⟩]
  have hh := headV_put (gen := gen) (by omega) (gen % 2)
  rw [if_pos rfl, ← l1] at hh
  have hle : ((headV (sv d ((gen + 1) % 2)) ((gen + 1) % 2)).getD 0) < gen := by
    cases e : headV (sv d ((gen + 1) % 2)) ((gen + 1) % 2) with
    | none => show (0 : Int) < gen; omega
    | some g => exact l2 g e
  have : (gen % 2 = 0 ∧ (gen + 1) % 2 = 1) ∨ (gen % 2 = 1 ∧ (gen + 1) % 2 = 0) := by omega
  rcases this with ⟨h1, h2⟩ | ⟨h1, h2⟩
  · rw [h1] at hh
    rw [h2] at hle
    rw [hh]
    show max (max 0 gen) _ = gen
    omega
  · rw [h1] at hh
    rw [h2] at hle
    rw [hh]
    show max (max 0 _) gen = gen
    omega
theorem all_stands {d : DS} {gen : Int} {l : List (List UInt8)} (hq : Quiet d) (ho : d.off = false) (hn : 8 ≤ d.n) (hn2 : d.n ≤ 100000) (hs : Stands (sv d) d.n gen l) : allH d (halfN d.n gen) = l := by
  obtain ⟨hf, hr, hr0⟩ := half_in (n := d.n) (gen := gen) hn
  have hg := hs.g
  have hgen : (halfN d.n gen).gen = gen := rfl
  obtain ⟨b1, b2, b3⟩ := hs.laid
  rw [Int.zero_add] at b2 b3
  have hl := len_takes l
  have hnn := takesL_nn l
  have hroom : (halfN d.n gen).room ≤ 100000 := by unfold halfN; simp only; omega
  unfold allH
  refine groups_laid (by rw [hgen]; omega) l 0 0 _ ⟨b1.cong fun i hi hi2 => rd_sv hq ho ⟨by omega, by omega⟩, by omega, fun hlt => ?_⟩ (Int.le_refl _) (by omega) (by omega)
  rw [Int.zero_add] at hlt ⊢
  rw [rd_sv hq ho ⟨by omega, by omega⟩]
  exact b3 hlt
theorem open_stands {d : DS} {gen : Int} {l : List (List UInt8)} (hq : Quiet d) (ho : d.off = false) (hn : 8 ≤ d.n) (hn2 : d.n ≤ 100000) (hs : Stands (sv d) d.n gen l) : openJ d = (d, some ⟨halfN d.n gen, l, false⟩, 0) := by
  have hg := hs.g
  unfold openJ
  rw [if_neg (by omega), ho, if_neg (by decide)]
  simp only
  rw [newest_stands hq ho hn hs, if_neg (by omega), halfD_eq, show max gen 1 = gen by omega, all_stands hq ho hn hn2 hs]
theorem open_new (n : Nat) (hn : 8 ≤ n) (hn2 : n ≤ 100000) : ∃ D, openJ (newD n) = (D, some ⟨halfN n 1, [], false⟩, 0) ∧ WF D ∧ Quiet D ∧ D.n = n ∧ D.off = false ∧ D.left = -1 ∧ D.done = 4 ∧ Stands (sv D) n 1 [] := by
  have q0 : Quiet (newD n) := fun _ => rfl
  have w0 : WF (newD n) := ⟨fun i _ => by show (List.replicate 64 (0 : UInt8)).length = 64; rw [List.length_replicate], fun i l h => by cases h⟩
  have z0 : ∀ i, sv (newD n) i = zeros := fun _ => rfl
  have nn : (newD n).n = n := rfl
  obtain ⟨hf, hr, hr0⟩ := half_in (n := n) (gen := 1) hn
  have hroom : 0 < (halfN n 1).room := by unfold halfN; simp only; omega
  have hno : ∀ i, i = 0 ∨ i = 1 → headOk (newD n) i = none := fun i hi => by
    rw [headOk_eq, rd_sv q0 rfl ⟨by omega, by rw [nn]; omega⟩, z0]
    exact headV_bare bare_zeros i
  have hnew : newestD (newD n) = 0 := by
    unfold newestD
    rw [hno 0 (.inl rfl), hno 1 (.inr rfl)]
    rfl
  obtain ⟨mo1, mo2⟩ := headM_ok (gen := 1) (by omega)
  have hm64 := putB_64 mo1
  -- the zero sector
  have e1 : zeroH (newD n) (halfN n 1) 0 = (stepD { newD n with wait := setW (newD n).wait ((halfN n 1).fr + 0).toNat zeros }, true) := by
    unfold zeroH
    rw [if_neg (by omega)]
    unfold wrD
    rw [if_neg (show ¬ ((newD n).off = true ∨ (newD n).left = 0) from (show ¬ (false = true ∨ (-1 : Int) = 0) by decide)), if_pos ⟨by omega, by rw [nn]; omega, by unfold zeros; rw [List.length_replicate]⟩]
  obtain ⟨z1, z2⟩ := zero_wrote (d := newD n) (h := halfN n 1) (a := 0) (Int.le_refl _) (by omega) (by rw [nn]; exact hr)
  rw [e1] at z1 z2
  obtain ⟨D1, hD1⟩ : ∃ D, stepD { newD n with wait := setW (newD n).wait ((halfN n 1).fr + 0).toNat zeros } = D := ⟨_, rfl⟩
  have l1 : D1.left = -1 ∧ D1.off = false ∧ D1.done = 1 := by rw [← hD1]; exact ⟨rfl, rfl, rfl⟩
  rw [hD1] at e1 z1 z2
  simp only at z1 z2
  have z3 := z2 trivial hroom
  have e2 : synD D1 = (syncD D1, true) := by
    unfold synD
    rw [if_neg (by rw [l1.1, l1.2.1]; decide)]
  obtain ⟨D2, hD2⟩ : ∃ D, syncD D1 = D := ⟨_, rfl⟩
  have l2 : D2.left = -1 ∧ D2.off = false ∧ D2.done = 2 := by
    rw [← hD2]
    refine ⟨?_, l1.2.1, ?_⟩
    · show (if 0 < D1.left then D1.left - 1 else D1.left) = -1
      rw [l1.1]; rfl
    · show D1.done + 1 = 2
      rw [l1.2.2]; rfl
  have q2 : Quiet D2 := by rw [← hD2]; exact sync_quiet _
  have w2 : WF D2 := by rw [← hD2]; exact (z1.wf w0).sync
  have n2 : D2.n = n := by rw [← hD2]; exact z1.n
  have v2 : sv D2 = rv D1 := by rw [← hD2]; rfl
  rw [hD2] at e2
  have hpos : 0 ≤ (1 : Int) ∧ (1 : Int) < D2.n := by rw [n2]; omega
  have e3 : wrD D2 1 (putB (headM 1)) = (stepD { D2 with wait := setW D2.wait (1 : Int).toNat (putB (headM 1)) }, true) := by
    unfold wrD
    rw [if_neg (by rw [l2.1, l2.2.1]; decide), if_pos ⟨hpos.1, hpos.2, hm64⟩]
  obtain ⟨w3, r3⟩ := wr_wrote (l := putB (headM 1)) hpos hm64
  rw [e3] at w3 r3
  obtain ⟨D3, hD3⟩ : ∃ D, stepD { D2 with wait := setW D2.wait (1 : Int).toNat (putB (headM 1)) } = D := ⟨_, rfl⟩
  have l3 : D3.left = -1 ∧ D3.off = false ∧ D3.done = 3 := by
    rw [← hD3]
    refine ⟨?_, l2.2.1, ?_⟩
    · show (if 0 < D2.left then D2.left - 1 else D2.left) = -1
      rw [l2.1]; rfl
    · show D2.done + 1 = 3
      rw [l2.2.2]; rfl
  rw [hD3] at e3 w3 r3
  simp only at w3 r3
  have r3' := r3 trivial
  have e4 : synD D3 = (syncD D3, true) := by
    unfold synD
    rw [if_neg (by rw [l3.1, l3.2.1]; decide)]
  obtain ⟨D4, hD4⟩ : ∃ D, syncD D3 = D := ⟨_, rfl⟩
  have l4 : D4.left = -1 ∧ D4.off = false ∧ D4.done = 4 := by
    rw [← hD4]
    refine ⟨?_, l3.2.1, ?_⟩
    · show (if 0 < D3.left then D3.left - 1 else D3.left) = -1
      rw [l3.1]; rfl
    · show D3.done + 1 = 4
      rw [l3.2.2]; rfl
  have q4 : Quiet D4 := by rw [← hD4]; exact sync_quiet _
  have w4 : WF D4 := by rw [← hD4]; exact (w3.wf w2).sync
  have n4 : D4.n = n := by rw [← hD4]; exact w3.n.trans n2
  have v4 : sv D4 = rv D3 := by rw [← hD4]; rfl
  rw [hD4] at e4
  have oth : ∀ i, 0 ≤ i → i ≠ 1 → sv D4 i = sv D2 i := fun i h0 hi => by rw [v4, w3.rv h0 (by omega), quiet_rv q2]
  have s4 : Stands (sv D4) n 1 [] := by
    refine ⟨by omega, ⟨by rw [v4]; exact r3', fun g hg => ?_⟩, trivial, by rw [takesL_nil]; omega, fun hlt => ?_⟩
    · have : sv D4 ((1 + 1) % 2) = zeros := by
        rw [show ((1 : Int) + 1) % 2 = 0 by decide, oth 0 (by omega) (by omega), v2, z1.rv (by omega) (.inl (by omega)), quiet_rv q0, z0]
      rw [this, headV_bare bare_zeros] at hg
      cases hg
    · rw [takesL_nil, Int.add_zero, oth _ (by omega) (by omega), v2, z3]
      exact bare_zeros
  refine ⟨D4, ?_, w4, q4, n4, l4.2.1, l4.1, l4.2.2, s4⟩
  have hlead : leadH D2 (halfN n 1) = (D4, true) := by
    unfold leadH
    have hM : (⟨1, (halfN n 1).gen, 0, 0⟩ : Frame.Mark) = headM 1 := rfl
    have hg1 : (halfN n 1).gen % 2 = 1 := rfl
    rw [hM, hg1, e3]
    simp only [↓reduceIte]
    exact e4
  have hall : allH D4 (halfN n 1) = [] := by
    have := all_stands (d := D4) (gen := 1) (l := []) q4 l4.2.1 (by rw [n4]; exact hn) (by rw [n4]; exact hn2) (by rw [n4]; exact s4)
    rw [n4] at this
    exact this
  unfold openJ
  rw [if_neg (by rw [nn]; omega), if_neg (show ¬ ((newD n).off = true) from (show ¬ (false = true) by decide))]
  simp only
  rw [hnew, if_pos rfl, halfD_eq, nn, show max (0 : Int) 1 = 1 by decide, e1, andThen_ok (x := (D1, true)) rfl, e2, andThen_ok (x := (D2, true)) rfl, hlead]
  simp only [↓reduceIte]
  rw [hall]
end Go.Proofs.YthgfmoogagldmaaGreat.Journal
namespace Go.Proofs.YthgfmoogagldmaaGreat.Journal
open Disk Go.Proofs.YthgfmoogagldmaaGreat.Frame
structure Ready (d : DS) (n : Nat) (gen : Int) (l : List (List UInt8)) : Prop where
  wf : WF d
  quiet : Quiet d
  n_ : d.n = n
  stands : Stands (sv d) n gen l
theorem Ready.crash {d : DS} {n : Nat} {gen : Int} {l : List (List UInt8)} (h : Ready d n gen l) (fs : List Int) {ks : List Nat} (hk : waitsD d ks) : Ready (crashD d fs ks) n gen l :=
  ⟨h.wf.crash fs hk, fun _ => rfl, h.n_, by rw [h.quiet.crash fs hk]; exact h.stands⟩
theorem Torn.crash {d : DS} {n : Nat} {l m : List (List UInt8)} {G : Int} (h : Torn d n l m G) (fs : List Int) {ks : List Nat} (hk : waitsD d ks) : ∃ gen, gen ≤ G ∧ (Ready (crashD d fs ks) n gen l ∨ Ready (crashD d fs ks) n gen m) := by
  obtain ⟨h1, h2, h3⟩ := h
  rcases h3 fs ks hk with ⟨gen, hg, hs⟩ | ⟨gen, hg, hs⟩
  · exact ⟨gen, hg, .inl ⟨h1.crash fs hk, fun _ => rfl, h2, hs⟩⟩
  · exact ⟨gen, hg, .inr ⟨h1.crash fs hk, fun _ => rfl, h2, hs⟩⟩
theorem Ready.stop {d : DS} {n : Nat} {gen : Int} {l : List (List UInt8)} (h : Ready d n gen l) (a : Int) : Ready (stopD d a) n gen l := by
  unfold stopD
  split
  · exact h
  · exact ⟨⟨h.wf.safe, h.wf.wait⟩, h.quiet, h.n_, h.stands⟩
theorem newest_off {d : DS} (h : d.off = true) : newestD d = 0 := by
  have h0 : ∀ i, headOk d i = none := fun i => by
    unfold headOk rdD
    rw [if_pos h]
    have hg : getR [] = (zeroM, false) := getR_no (fun k => by cases k.1)
    simp only
    rw [hg]
    exact if_neg (fun k => by cases k.1)
  unfold newestD
  rw [h0, h0]
  rfl
theorem Ready.newest {d : DS} {n : Nat} {gen : Int} {l : List (List UInt8)} (h : Ready d n gen l) (hn : 8 ≤ n) : newestD d ≤ 1000000000 := by
  cases ho : d.off with
  | true => rw [newest_off ho]; decide
  | false =>
    have hs := h.stands
    rw [← h.n_] at hs hn
    rw [newest_stands h.quiet ho hn hs]
    exact hs.g.2
theorem Ready.open_ {d : DS} {n : Nat} {gen : Int} {l : List (List UInt8)} (h : Ready d n gen l) (hn : 8 ≤ n) (hn2 : n ≤ 100000) (ho : d.off = false) : openJ d = (d, some ⟨halfN n gen, l, false⟩, 0) := by
  have hs := h.stands
  rw [← h.n_] at hs hn hn2 ⊢
  exact open_stands h.quiet ho hn hn2 hs
theorem Ready.open_off {d : DS} {n : Nat} {gen : Int} {l : List (List UInt8)} (h : Ready d n gen l) (hn : 8 ≤ n) (ho : d.off = true) : openJ d = (d, none, 3) := by
  unfold openJ
  rw [if_neg (by rw [h.n_]; omega), if_pos ho]
def After (d : DS) (js : JS) (n : Nat) (G : Int) (l m : List (List UInt8)) : Prop :=
  (∃ gen, gen ≤ G ∧ Ready d n gen l ∧ js = ⟨halfN n gen, l, false⟩) ∨ (js.off = true ∧ Torn d n l m G)
theorem After.crash {d : DS} {js : JS} {n : Nat} {G : Int} {l m : List (List UInt8)} (h : After d js n G l m) (fs : List Int) {ks : List Nat} (hk : waitsD d ks) : ∃ gen X, gen ≤ G ∧ (X = l ∨ X = m) ∧ Ready (crashD d fs ks) n gen X := by
  rcases h with ⟨gen, hg, h1, _⟩ | ⟨_, h1⟩
  · exact ⟨gen, l, hg, .inl rfl, h1.crash fs hk⟩
  · obtain ⟨gen, hg, h2⟩ := h1.crash fs hk
    rcases h2 with h2 | h2
    · exact ⟨gen, l, hg, .inl rfl, h2⟩
    · exact ⟨gen, m, hg, .inr rfl, h2⟩
theorem after_append {d : DS} {n : Nat} {gen : Int} {l : List (List UInt8)} {b : List UInt8} (h : Ready d n gen l) (hn : 8 ≤ n) (hn2 : n ≤ 100000) :
    ((appendJ d ⟨halfN n gen, l, false⟩ b).2.2 = 0 ∧ After (appendJ d ⟨halfN n gen, l, false⟩ b).1 (appendJ d ⟨halfN n gen, l, false⟩ b).2.1 n gen (l ++ [b]) l) ∨
    ((appendJ d ⟨halfN n gen, l, false⟩ b).2.2 = 3 ∧ After (appendJ d ⟨halfN n gen, l, false⟩ b).1 (appendJ d ⟨halfN n gen, l, false⟩ b).2.1 n gen l (l ++ [b])) ∨
    (((appendJ d ⟨halfN n gen, l, false⟩ b).2.2 = 1 ∨ (appendJ d ⟨halfN n gen, l, false⟩ b).2.2 = 2) ∧ After (appendJ d ⟨halfN n gen, l, false⟩ b).1 (appendJ d ⟨halfN n gen, l, false⟩ b).2.1 n gen l l) := by
  rcases append_law (b := b) h.wf h.quiet h.n_ hn hn2 h.stands with ⟨h1, h2, h3, h4, h5, h6⟩ | ⟨h1, h2, h3⟩ | ⟨h1, h2, h3⟩
  · exact .inl ⟨h1, .inl ⟨gen, Int.le_refl _, ⟨h2, h3, h4, h5⟩, h6⟩⟩
  · exact .inr (.inl ⟨h1, .inr ⟨by rw [h2], h3⟩⟩)
  · exact .inr (.inr ⟨h1, .inl ⟨gen, Int.le_refl _, by rw [h2]; exact h, h3⟩⟩)
theorem after_reset {d : DS} {n : Nat} {gen : Int} {l m : List (List UInt8)} (h : Ready d n gen l) (hn : 8 ≤ n) (hn2 : n ≤ 100000) (hgen : gen < 1000000000) :
    ((resetJ d ⟨halfN n gen, l, false⟩ m).2.2 = 0 ∧ After (resetJ d ⟨halfN n gen, l, false⟩ m).1 (resetJ d ⟨halfN n gen, l, false⟩ m).2.1 n (gen + 1) m l) ∨
    ((resetJ d ⟨halfN n gen, l, false⟩ m).2.2 = 3 ∧ After (resetJ d ⟨halfN n gen, l, false⟩ m).1 (resetJ d ⟨halfN n gen, l, false⟩ m).2.1 n (gen + 1) l m) ∨
    (((resetJ d ⟨halfN n gen, l, false⟩ m).2.2 = 1 ∨ (resetJ d ⟨halfN n gen, l, false⟩ m).2.2 = 2) ∧ After (resetJ d ⟨halfN n gen, l, false⟩ m).1 (resetJ d ⟨halfN n gen, l, false⟩ m).2.1 n (gen + 1) l l) := by
  rcases reset_law (m := m) h.wf h.quiet h.n_ hn hn2 h.stands hgen with ⟨h1, h2, h3, h4, h5, h6⟩ | ⟨h1, h2, h3⟩ | ⟨h1, h2, h3⟩
  · exact .inl ⟨h1, .inl ⟨gen + 1, Int.le_refl _, ⟨h2, h3, h4, h5⟩, h6⟩⟩
  · exact .inr (.inl ⟨h1, .inr ⟨by rw [h2], h3⟩⟩)
  · exact .inr (.inr ⟨h1, .inl ⟨gen, by omega, by rw [h2]; exact h, h3⟩⟩)
end Go.Proofs.YthgfmoogagldmaaGreat.Journal
