/- peep.Run walks. -/
import Derived.Test.YtbeenfkmnchhbaaPeepWithout
import Derived.Test.YtbeenfkmnchhbaaPeepMath5
namespace Go.Proofs.Ytbeenfkmnchhbaa.Peep
open Go.RowKit Object
set_option linter.unusedVariables false
set_option maxRecDepth 100000
theorem recs_fresh {w w' : World} {B size m : Nat} {A : Option Addr} {rows : List (List Value)} {S : List Nat} (h : Recs w B size A m rows) (ho : Only S w w') (hB : B ≤ w.heap.size) (hS : ∀ g ∈ S, B ≤ g) : Recs w' B size A m rows := h.below (ho.to_below hB hS)
def isSl : Value → Bool
  | .slice _ _ _ => true
  | _ => false
theorem recs_box {w w' : World} {B size m g : Nat} {t : TypeId} {A : Option Addr} {rows : List (List Value)} {cs : Array Value} (h : Recs w B size A m rows) (hs : 0 < size) (hne : ∀ r ∈ rows, ∃ u, r[0]? = some u ∧ isSl u = false) (hb : Blk w g t cs) (hcs : ∀ u ∈ cs.toList, isSl u = true) (ho : Only [g] w w') : Recs w' B size A m rows := by
  rcases Nat.eq_zero_or_pos m with h0 | h0
  · exact ⟨h.1, fun h => absurd h (by omega)⟩
  · refine h.only ho ?_
    intro k hk hkg
    obtain ⟨b, off, rfl, _, hc⟩ := h.2 h0
    simp [blkOf] at hk
    subst hk
    obtain rfl := List.mem_singleton.1 hkg
    obtain ⟨h1, _⟩ := hc 0 h0 0 hs
    have hl := h.1
    obtain ⟨r, hr⟩ : ∃ r, rows[0]? = some r := ⟨_, List.getElem?_eq_getElem (by omega)⟩
    obtain ⟨u, hu, hus⟩ := hne r (List.mem_of_getElem? hr)
    rw [hb.cell, List.getD_eq_getElem?_getD, hr, Option.getD_some, hu] at h1
    have := hcs u (List.mem_of_getElem? (by rw [Array.getElem?_toList]; exact h1))
    rw [hus] at this
    cases this
theorem en_ne (l : List En) : ∀ r ∈ l.map En.row, ∃ u, r[0]? = some u ∧ isSl u = false := by
  intro r hr
  obtain ⟨e, _, rfl⟩ := List.mem_map.1 hr
  exact ⟨_, rfl, rfl⟩
theorem cl_ne (l : List En) : ∀ r ∈ l.map En.rowC, ∃ u, r[0]? = some u ∧ isSl u = false := by
  intro r hr
  obtain ⟨e, _, rfl⟩ := List.mem_map.1 hr
  exact ⟨_, rfl, rfl⟩
theorem cd_ne (l : List Cd) : ∀ r ∈ l.map Cd.row, ∃ u, r[0]? = some u ∧ isSl u = false := by
  intro r hr
  obtain ⟨e, _, rfl⟩ := List.mem_map.1 hr
  exact ⟨_, rfl, rfl⟩
theorem isOb_box {w w' : World} {o : Ob} {d : OD} {g : Nat} {t : TypeId} {cs : Array Value} (h : IsOb w o d) (hb : Blk w g t cs) (hcs : ∀ u ∈ cs.toList, isSl u = true) (ho : Only [g] w w') : IsOb w' o d :=
  ⟨(recs_box h.code (by decide) (cd_ne _) hb hcs ho).more ho.size, (recs_box h.ents (by decide) (en_ne _) hb hcs ho).more ho.size, (recs_box h.calls (by decide) (cl_ne _) hb hcs ho).more ho.size, h.c1, h.c2, h.c3⟩
theorem sl3 {A1 A2 A3 : Option Addr} {m1 p1 m2 p2 m3 p3 : Nat} : ∀ u ∈ (#[Value.slice A1 m1 p1, .slice A2 m2 p2, .slice A3 m3 p3] : Array Value).toList, isSl u = true := by
  intro u hu
  simp at hu
  rcases hu with rfl | rfl | rfl <;> rfl
/-- how far Run is -/
def RunI (gk : Nat) (b : Bool) (d dc : OD) : Prop := objRight dc = true ∧ (b = true → mu dc < gk ∧ ∀ x, RunR dc x → RunR d x) ∧ (b = false → RunR d dc)
theorem RunI.begin_ {d : OD} (h : objRight d = true) : RunI (mu d + 1) true d d := ⟨h, fun _ => ⟨by omega, fun _ r => r⟩, fun h => by cases h⟩
theorem RunI.round {gk : Nat} {d dc : OD} (h : RunI gk true d dc) : ∃ g', gk = g' + 1 ∧ RunI g' (more dc) d (rnd dc) := by
  obtain ⟨h1, h2, _⟩ := h
  obtain ⟨h3, h4⟩ := h2 rfl
  have R := round_any h1
  refine ⟨gk - 1, by omega, R.right, fun hm => ⟨by have := R.less hm; omega, fun x r => h4 x (.step hm r)⟩, fun hm => h4 _ (.stop hm)⟩
def thrO (d : OD) (cs : List Cd) : OD := ⟨cs, d.ents, d.calls⟩
theorem thr_len (d : OD) : (thrd d.code d.code.length).1.length = d.code.length := (thrd_like _ _).1
theorem right_thr {d : OD} (h : objRight d = true) : objRight (thrO d (thrd d.code d.code.length).1) = true := by
  rcases right_cases h with rfl | ⟨h0, hR⟩
  · exact h
  · have hlk := thrd_like d.code d.code.length
    exact (right_iff _ (by show (thrd d.code d.code.length).1.length ≠ 0; rw [hlk.1]; exact h0)).2 (hR.like h0 hlk)
theorem rnd_eq (d : OD) : wo (thrO d (thrd d.code d.code.length).1) = rnd d := rfl
theorem more_eq (d : OD) : (decide ((rnd d).code.length < (thrd d.code d.code.length).1.length) || (thrd d.code d.code.length).2) = more d := by
  rw [thr_len]
  rfl
/-- what Run answers -/
def RunO (d : OD) (w : World) (x : Ending) (w' : World) : Prop := ∃ (o' : Ob) (e : OD), x = .returned (.tuple #[o'.val, .bool (objRight d)]) ∧ IsOb w' o' e ∧ (objRight d = true → RunR d e) ∧ (objRight d = false → e = ⟨[], [], []⟩) ∧ Only [] w w'
theorem isOb_nil (w : World) : IsOb w ⟨none, 0, 0, none, 0, 0, none, 0, 0⟩ ⟨[], [], []⟩ :=
  ⟨Recs.nil_, Recs.nil_, Recs.nil_, ⟨Nat.le_refl _, by simp⟩, ⟨Nat.le_refl _, by simp⟩, ⟨Nat.le_refl _, by simp⟩⟩
set_option maxHeartbeats 4000000 in
theorem run_any (o : Ob) (d : OD) (w : World) (h : IsOb w o d) (hm1 : o.m1 ≤ 1000000) (hm2 : o.m2 ≤ 1000000) (hm3 : o.m3 ≤ 1000000) :
    Calls Try.prog 48 #[o.val] w fun x w' => RunO d w x w' := by
  obtain ⟨A1, m1, p1, A2, m2, p2, A3, m3, p3⟩ := o
  simp only at hm1 hm2 hm3
  obtain ⟨W2, hW2⟩ : ∃ W2, (w.alloc (.cells #[.slice A1 m1 p1, .slice A2 m2 p2, .slice A3 m3 p3] 57)).alloc (.cells #[.slice none 0 0, .slice none 0 0, .slice none 0 0] 57) = W2 := ⟨_, rfl⟩
  have hb0 : Blk W2 w.heap.size 57 #[.slice A1 m1 p1, .slice A2 m2 p2, .slice A3 m3 p3] := by rw [← hW2]; exact (Blk.new w _ _).alloc _
  have hbr : Blk W2 (w.heap.size + 1) 57 #[.slice none 0 0, .slice none 0 0, .slice none 0 0] := by
    have := Blk.new (w.alloc (.cells #[.slice A1 m1 p1, .slice A2 m2 p2, .slice A3 m3 p3] 57)) 57 #[.slice none 0 0, .slice none 0 0, .slice none 0 0]
    rw [World.size_alloc, hW2] at this
    exact this
  have ho2 : Only [] w W2 := by rw [← hW2]; exact ((Only.refl [] w).alloc _).alloc _
  have HRT := Lib.hid (right_any ⟨A1, m1, p1, A2, m2, p2, A3, m3, p3⟩ d W2 (h.only ho2) (by simp only; omega) (by simp only; omega) (by simp only; omega))
  unfold Ob.val at HRT ⊢
  simp only at HRT ⊢
  have HIS := Lib.hid (h.only ho2)
  have HB0 := Lib.hid hb0
  have HBR := Lib.hid hbr
  have HO2 := Lib.hid ho2
  have e00 := hb0.cell 0
  have e01 := hb0.cell 1
  have e02 := hb0.cell 2
  obtain ⟨q, hq⟩ : ∃ q, objRight d = q := ⟨_, rfl⟩
  rw [hq] at HRT
  have HQ := Lib.hid hq
  clear hb0 hbr ho2 h hq
  have HW2 := Lib.hid hW2
  go_enter Try.func48, Try.ntmps48
  cases q with
  | false =>
    go_wp2_with (go_at_call 42; refine HRT.out.mono ?_; rintro x w3 ⟨rfl, ho3⟩; have HB3 := Lib.hid (HBR.out.only ho3 (by simp)); have r0 := HB3.out.cell 0; have r1 := HB3.out.cell 1; have r2 := HB3.out.cell 2; have f0 := HB3.out.frozen 0; have f1 := HB3.out.frozen 1; have f2 := HB3.out.frozen 2)
    obtain ⟨wz, hwz⟩ : ∃ wz, (((w3.setCell ⟨w.heap.size + 1, 0, none⟩ (.slice none 0 0)).setCell ⟨w.heap.size + 1, 1, none⟩ (.slice none 0 0)).setCell ⟨w.heap.size + 1, 2, none⟩ (.slice none 0 0)) = wz := ⟨_, rfl⟩
    have hbz := ((HB3.out.set_ 0 (.slice none 0 0)).set_ 1 (.slice none 0 0)).set_ 2 (.slice none 0 0)
    have hoz : Only [w.heap.size + 1] w3 (((w3.setCell ⟨w.heap.size + 1, 0, none⟩ (.slice none 0 0)).setCell ⟨w.heap.size + 1, 1, none⟩ (.slice none 0 0)).setCell ⟨w.heap.size + 1, 2, none⟩ (.slice none 0 0)) := (((Only.refl _ w3).setCell (p := ⟨w.heap.size + 1, 0, none⟩) (.inl (by simp)) _).setCell (p := ⟨w.heap.size + 1, 1, none⟩) (.inl (by simp)) _).setCell (p := ⟨w.heap.size + 1, 2, none⟩) (.inl (by simp)) _
    have hoz2 := (HO2.out.trans ho3 (by simp)).trans hoz (fun g hg => .inr (by simp at hg; omega))
    rw [hwz] at hbz hoz2 ⊢
    have z0 := hbz.cell 0
    have z1 := hbz.cell 1
    have z2 := hbz.cell 2
    have HOZ := Lib.hid hoz2
    clear hwz hoz hoz2 hbz r0 r1 r2 f0 f1 f2
    exact bodyPost_ret (v := .tuple #[.agg #[.slice none 0 0, .slice none 0 0, .slice none 0 0], .bool false]) (by simp [results, Try.results48, go_sem, z0, z1, z2]) rfl ⟨⟨none, 0, 0, none, 0, 0, none, 0, 0⟩, ⟨[], [], []⟩, by rw [HQ.out]; rfl, isOb_nil _, (by rw [HQ.out]; exact fun h => by cases h), fun _ => rfl, HOZ.out⟩
  | true =>
    have HRB := Lib.hid (RunI.begin_ HQ.out)
    go_wp2_with (go_at_call 42; refine HRT.out.mono ?_; rintro x w3 ⟨rfl, ho3⟩; have HB3 := Lib.hid (HBR.out.only ho3 (by simp)); have HB03 := Lib.hid (HB0.out.only ho3 (by simp)); have HIS3 := Lib.hid (HIS.out.only ho3); have HO3 := Lib.hid (HO2.out.trans ho3 (by simp)))
    clear e00 e01 e02
    go_loopg [4] (mu d + 1) (fun gk i wr => ∃ (b : Bool) (dc : OD) (B1 : Option Addr) (n1 q1 : Nat) (B2 : Option Addr) (n2 q2 : Nat) (B3 : Option Addr) (n3 q3 : Nat), i = .bool b ∧ RunI gk b d dc ∧ IsOb wr ⟨B1, n1, q1, B2, n2, q2, B3, n3, q3⟩ dc ∧ Blk wr w.heap.size 57 #[.slice B1 n1 q1, .slice B2 n2 q2, .slice B3 n3 q3] ∧ Blk wr (w.heap.size + 1) 57 #[.slice none 0 0, .slice none 0 0, .slice none 0 0] ∧ Only [] w wr)
    case atStart => exact ⟨true, d, A1, m1, p1, A2, m2, p2, A3, m3, p3, rfl, HRB.out, HIS3.out, HB03.out, HB3.out, HO3.out⟩
    case round =>
      clear HRB HIS3 HB03 HB3 HO3 HIS HB0 HBR HO2 HRT ho3
      obtain ⟨b, dc, B1, n1, q1, B2, n2, q2, B3, n3, q3, rfl, hri, his, hb, hbr, ho⟩ := hrel
      have HRI := Lib.hid hri
      have HIS := Lib.hid his
      have HB := Lib.hid hb
      have HBR := Lib.hid hbr
      have HO := Lib.hid ho
      have x0 := hb.cell 0
      have x1 := hb.cell 1
      have x2 := hb.cell 2
      clear hri his hb hbr ho
      cases b with
      | false =>
        have r0 := HBR.out.cell 0
        have r1 := HBR.out.cell 1
        have r2 := HBR.out.cell 2
        have f0 := HBR.out.frozen 0
        have f1 := HBR.out.frozen 1
        have f2 := HBR.out.frozen 2
        have HRR := Lib.hid (HRI.out.2.2 rfl)
        go_wp2_with fail
        obtain ⟨wz, hwz⟩ : ∃ wz, (((wr.setCell ⟨w.heap.size + 1, 0, none⟩ (.slice B1 n1 q1)).setCell ⟨w.heap.size + 1, 1, none⟩ (.slice B2 n2 q2)).setCell ⟨w.heap.size + 1, 2, none⟩ (.slice B3 n3 q3)) = wz := ⟨_, rfl⟩
        have hbz := ((HBR.out.set_ 0 (.slice B1 n1 q1)).set_ 1 (.slice B2 n2 q2)).set_ 2 (.slice B3 n3 q3)
        have hoz : Only [w.heap.size + 1] wr (((wr.setCell ⟨w.heap.size + 1, 0, none⟩ (.slice B1 n1 q1)).setCell ⟨w.heap.size + 1, 1, none⟩ (.slice B2 n2 q2)).setCell ⟨w.heap.size + 1, 2, none⟩ (.slice B3 n3 q3)) := (((Only.refl _ wr).setCell (p := ⟨w.heap.size + 1, 0, none⟩) (.inl (by simp)) _).setCell (p := ⟨w.heap.size + 1, 1, none⟩) (.inl (by simp)) _).setCell (p := ⟨w.heap.size + 1, 2, none⟩) (.inl (by simp)) _
        have hiz := isOb_box HIS.out HBR.out sl3 hoz
        have hoz2 := HO.out.trans hoz (fun g hg => .inr (by simp at hg; omega))
        rw [hwz] at hbz hoz2 hiz ⊢
        have z0 := hbz.cell 0
        have z1 := hbz.cell 1
        have z2 := hbz.cell 2
        have HOZ := Lib.hid hoz2
        have HIZ := Lib.hid hiz
        clear hwz hoz hoz2 hiz hbz r0 r1 r2 f0 f1 f2 x0 x1 x2
        exact bodyPost_ret (v := .tuple #[.agg #[.slice B1 n1 q1, .slice B2 n2 q2, .slice B3 n3 q3], .bool true]) (by simp [results, Try.results48, go_sem, z0, z1, z2]) rfl ⟨⟨B1, n1, q1, B2, n2, q2, B3, n3, q3⟩, dc, by rw [HQ.out]; rfl, HIZ.out, fun _ => HRR.out, (by rw [HQ.out]; exact fun h => by cases h), HOZ.out⟩
      | true =>
        obtain ⟨g', hg', hri'⟩ := HRI.out.round
        have HRI2 := Lib.hid hri'
        obtain ⟨_, _, hl1, hl2, hl3⟩ := right_pos HRI.out.1
        have hn1 := HIS.out.n1
        have HN1 := Lib.hid hn1
        simp only at hn1
        rw [hn1] at hl1
        have HIB := Lib.hid (right_inB HRI.out.1)
        subst hg'
        clear hri' hn1
        have HCL := Lib.hid (clone_cd B1 n1 q1 wr.heap.size dc.code wr HIS.out.code (by omega) (Nat.le_refl _))
        have hOw := HB.out.lt
        have hRw := HBR.out.lt
        have HOwl := Lib.hid hOw
        have HRwl := Lib.hid hRw
        clear hOw hRw
        go_wp2_with (first
          | (go_at_call 101; refine HCL.out.mono ?_; rintro x w4 ⟨v, rfl, hown, ho4⟩; obtain ⟨A, cap, hv, hcap, hcm, _, _⟩ := hown.shape (by decide); subst hv; have hb4 := HB.out.only ho4 (by simp); have y0 := hb4.cell 0; have g0 := hb4.frozen 0; have HB4 := Lib.hid hb4; have HOW := Lib.hid hown; have HO4 := Lib.hid ho4; clear hb4 hown ho4))
        have hlow : ∀ g ∈ ownL (.slice A n1 cap), wr.heap.size ≤ g := fun g hg => (HOW.out.lt g hg).1
        have HLOW := Lib.hid hlow
        have hoS : Only [w.heap.size] w4 (w4.setCell ⟨w.heap.size, 0, none⟩ (.slice A n1 cap)) := (Only.refl _ w4).setCell (p := ⟨w.heap.size, 0, none⟩) (.inl (by simp)) _
        have hoS0 := hoS
        have hownS := HOW.out.only hoS (fun g hg h => by have := hlow g hg; have := HOwl.out; simp at h; omega)
        have hbS := HB4.out.set_ 0 (.slice A n1 cap)
        have hrS := (HBR.out.only HO4.out (by simp)).only hoS (by simp)
        have heS := recs_box (HIS.out.ents.only HO4.out (by simp)) (by decide) (en_ne _) HB4.out sl3 hoS
        have hcS := recs_box (HIS.out.calls.only HO4.out (by simp)) (by decide) (cl_ne _) HB4.out sl3 hoS
        have hoW := (HO.out.trans HO4.out (by simp)).trans hoS (fun g hg => .inr (by simp at hg; omega))
        have hsS := Nat.le_trans HO4.out.size hoS.size
        obtain ⟨w5, hw5⟩ : ∃ w5, (w4.setCell ⟨w.heap.size, 0, none⟩ (.slice A n1 cap)) = w5 := ⟨_, rfl⟩
        rw [hw5] at hownS hbS hrS heS hcS hoW hsS ⊢
        have HTH := Lib.hid (thread_all A n1 cap wr.heap.size dc.code w5 hownS HIB.out (by omega))
        have HbS := Lib.hid hbS
        have HrS := Lib.hid hrS
        have HeS := Lib.hid heS
        have HcS := Lib.hid hcS
        have HoW := Lib.hid hoW
        have HsS := Lib.hid hsS
        clear hw5 hoS hoS0 hownS hbS hrS heS hcS hoW hsS hlow y0 g0 HB4 HOW x0 x1 x2
        refine HTH.out.mono ?_
        rintro x w6 ⟨rfl, hown6, ho6⟩
        have hr6 : ∀ g ∈ ownL (.slice A n1 cap), wr.heap.size ≤ g := HLOW.out
        have hb6 := HbS.out.only ho6 (fun h => by have := hr6 _ h; have := HOwl.out; omega)
        have hbr6 := HrS.out.only ho6 (fun h => by have := hr6 _ h; have := HRwl.out; omega)
        have he6 := recs_fresh HeS.out ho6 HsS.out hr6
        have hc6 := recs_fresh HcS.out ho6 HsS.out hr6
        have hoW6 := HoW.out.trans ho6 (fun g hg => .inr (by have := hr6 g hg; have := HOwl.out; omega))
        have hs6 : wr.heap.size ≤ w6.heap.size := Nat.le_trans HsS.out ho6.size
        obtain ⟨A', cap', hv6, hcap6, hcm6, hrec6, _⟩ := hown6.shape (by decide)
        injection hv6 with hv7 _ hv8
        subst hv7 hv8
        have hq6 : dc.code.length = n1 := HN1.out
        have HIS6 : Hid (IsOb w6 ⟨A, n1, cap, B2, n2, q2, B3, n3, q3⟩ (thrO dc (thrd dc.code n1).1)) := Lib.hid ⟨hrec6, he6.more hs6, hc6.more hs6, ⟨hcap6, hcm6⟩, HIS.out.c2, HIS.out.c3⟩
        have hrt6 := right_thr HRI.out.1
        have hme := more_eq dc
        have hre := rnd_eq dc
        rw [hq6] at hrt6 hme hre
        have HWT := Lib.hid (without_any _ _ w6 HIS6.out hrt6)
        rw [hre] at HWT
        unfold Ob.val at HWT
        simp only at HWT
        have y0 := hb6.cell 0
        have y1 := hb6.cell 1
        have y2 := hb6.cell 2
        have HB6 := Lib.hid hb6
        have HBR6 := Lib.hid hbr6
        have HoW6 := Lib.hid hoW6
        have HME := Lib.hid hme
        obtain ⟨tb, htb⟩ : ∃ t, (thrd dc.code n1).2 = t := ⟨_, rfl⟩
        obtain ⟨wb, hwb⟩ : ∃ t, decide ((rnd dc).code.length < (thrO dc (thrd dc.code n1).1).code.length) = t := ⟨_, rfl⟩
        rw [hwb] at HWT
        have HRJ : Hid (RunI g' (wb || tb) d (rnd dc)) := Lib.hid (by
          have h := HRI2.out
          rw [← HME.out, htb, show decide ((rnd dc).code.length < (thrd dc.code n1).1.length) = wb from hwb] at h
          exact h)
        rw [htb]
        clear hown6 ho6 hr6 hb6 hbr6 he6 hc6 hoW6 hs6 hcap6 hcm6 hrec6 hq6 hrt6 hme hre htb hwb HME HRI2
        cases tb
        all_goals
          cases wb
          all_goals
            go_wp2_with (go_at_call 103; refine HWT.out.mono ?_; rintro x w7 ⟨⟨D1, k1, l1, D2, k2, l2, D3, k3, l3⟩, rfl, his7, ho7⟩; have hb7 := HB6.out.only ho7 (by simp); have d0 := hb7.cell 0; have d1 := hb7.cell 1; have d2 := hb7.cell 2; have e0 := hb7.frozen 0; have e1 := hb7.frozen 1; have e2 := hb7.frozen 2; have HB7 := Lib.hid hb7; have HIS7 := Lib.hid his7; have HO7 := Lib.hid ho7; clear hb7 his7 ho7)
            have hoZ : Only [w.heap.size] w7 (((w7.setCell ⟨w.heap.size, 0, none⟩ (.slice D1 k1 l1)).setCell ⟨w.heap.size, 1, none⟩ (.slice D2 k2 l2)).setCell ⟨w.heap.size, 2, none⟩ (.slice D3 k3 l3)) := (((Only.refl _ w7).setCell (p := ⟨w.heap.size, 0, none⟩) (.inl (by simp)) _).setCell (p := ⟨w.heap.size, 1, none⟩) (.inl (by simp)) _).setCell (p := ⟨w.heap.size, 2, none⟩) (.inl (by simp)) _
            have hbZ := ((HB7.out.set_ 0 (.slice D1 k1 l1)).set_ 1 (.slice D2 k2 l2)).set_ 2 (.slice D3 k3 l3)
            have hrZ := (HBR6.out.only HO7.out (by simp)).only hoZ (by simp)
            have hiZ := isOb_box HIS7.out HB7.out sl3 hoZ
            have hoW := (HoW6.out.trans HO7.out (by simp)).trans hoZ (fun g hg => .inr (by simp at hg; omega))
            go_roundg g'
            case measure => omega
            case rel => exact ⟨_, rnd dc, D1, k1, l1, D2, k2, l2, D3, k3, l3, rfl, HRJ.out, hiZ, hbZ, hrZ, hoW⟩
end Go.Proofs.Ytbeenfkmnchhbaa.Peep
