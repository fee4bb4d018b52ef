/- RunA: A step of the machine, whatever the instruction; vm.Run of right code: what runP says. -/
import Derived.Test.YtkdacemachejoaaVeStep1q
import Derived.Test.YtkdacemachejoaaVeStep2q
import Derived.Test.YtkdacemachejoaaVeStep3q
import Derived.Test.YtkdacemachejoaaVeStep4q
import Derived.Test.YtkdacemachejoaaMacA
namespace Go.Proofs.Ytkdacemachejoaa.Vm
open Go.RowKit Go.Shelf Object
set_option linter.unusedVariables false
set_option maxRecDepth 100000
theorem map_snoc {α β : Type} {f : α → β} {l : List α} {p : List β} {q : β} (h : l.map f = p ++ [q]) : ∃ pre x, l = pre ++ [x] ∧ pre.map f = p ∧ f x = q := by
  obtain ⟨l1, l2, rfl, h1, h2⟩ := List.map_eq_append_iff.1 h
  match l2, h2 with
  | [y], h2 => exact ⟨l1, y, rfl, h1, by simpa using h2⟩
section
variable {w : World} {base mb cn cc : Nat} {cA : Option Addr} {fv ov : Value} {pre : List FB} {x : FB} {out : List Int} {en : Int}
theorem step_eq {s s' : MS} {y : Ending} {w' : World} (e : s = s') (h : StepO w base mb cA cn cc s y w') : StepO w base mb cA cn cc s' y w' := e ▸ h
set_option maxHeartbeats 4000000 in
theorem step_pre (cs : List Cd) (B i : Nat) (c : Cd) (h : MIn w base mb cA cn cc fv ov (pre ++ [x]) (i : Int) out en false) (hr : Recs w B 5 cA cn (cs.map Cd.row)) (hi : i < cn) (hc : cs[i]? = some c) (hB : B ≤ base) (hp : pre.length ≤ 201) (hcn : cn ≤ 65536)
    (hok : codeOk (cn : Int) c = true) (hol : out.length ≤ 3000000) (hsl : x.f.sl.length ≤ 16384) (han : x.f.ans < 8) :
    Calls Try.prog 26 #[.pointer (some ⟨mb, 0, none⟩)] w (StepO w base mb cA cn cc (stepP c ⟨pre.map FB.f, x.f, (i : Int), out, en, false⟩)) := by
  obtain ⟨op, a, b, c3, n⟩ := c
  obtain ⟨o1, o23⟩ := ok_word hok
  have hall : op = 1 ∨ op = 2 ∨ op = 3 ∨ op = 4 ∨ op = 5 ∨ op = 6 ∨ op = 7 ∨ op = 8 ∨ op = 9 ∨ op = 10 ∨ op = 11 ∨ op = 12 ∨ op = 13 ∨ op = 14 ∨ op = 15 ∨ op = 16 ∨ op = 17 ∨ op = 18 ∨ op = 19 ∨ op = 20 ∨ op = 21 ∨ op = 22 ∨ op = 23 := by omega
  clear o1 o23
  have num : ∀ (k : Int) (ka : Nat) (b c n : Int) (p : Int × Bool), stepP ⟨k, (ka : Int), b, c, n⟩ ⟨pre.map FB.f, x.f, (i : Int), out, en, false⟩ = (if p.2 = true then ⟨pre.map FB.f, { x.f with r := x.f.r.set ka p.1 }, (i : Int) + 1, out, en, false⟩ else ⟨pre.map FB.f, x.f, (i : Int) + 1, out, 1, true⟩) →
      (⟨pre.map FB.f, (if p.2 = true then { x.f with r := x.f.r.set ka p.1 } else x.f), (i : Int) + 1, out, (if p.2 = true then en else 1), (if p.2 = true then false else true)⟩ : MS) = stepP ⟨k, (ka : Int), b, c, n⟩ ⟨pre.map FB.f, x.f, (i : Int), out, en, false⟩ := fun k ka b c n p h => by
    rw [h]
    by_cases hp : p.2 = true
    · simp only [hp, if_true]
    · simp [hp]
  rcases hall with rfl | rfl | rfl | rfl | rfl | rfl | rfl | rfl | rfl | rfl | rfl | rfl | rfl | rfl | rfl | rfl | rfl | rfl | rfl | rfl | rfl | rfl | rfl
  · obtain ⟨ka, rfl, hka⟩ := reg_nat (ok_1 hok)
    exact (step_1 cs B i ka b c3 n h hr hi hc hB hp hcn hka).mono fun y w' hh => step_eq rfl hh
  · obtain ⟨ha, hb⟩ := ok_u (by decide) hok
    obtain ⟨ka, rfl, hka⟩ := reg_nat ha
    obtain ⟨kb, rfl, hkb⟩ := reg_nat hb
    exact (step_num cs B i 2 ka kb c3 n (oneP 2 (x.f.r.getD kb 0)) h hr hi hc hB hp hcn (fun cA fv ov at_ en w hm hx => reck_2 base mb cA cn cc fv at_ ov en x ka kb c3 n w hm hx hka hkb) rfl rfl rfl rfl rfl rfl rfl rfl rfl rfl rfl).mono fun y w' hh => step_eq (num _ _ _ _ _ _ rfl) hh
  · obtain ⟨ha, hb⟩ := ok_u (by decide) hok
    obtain ⟨ka, rfl, hka⟩ := reg_nat ha
    obtain ⟨kb, rfl, hkb⟩ := reg_nat hb
    exact (step_num cs B i 3 ka kb c3 n (oneP 3 (x.f.r.getD kb 0)) h hr hi hc hB hp hcn (fun cA fv ov at_ en w hm hx => reck_3 base mb cA cn cc fv at_ ov en x ka kb c3 n w hm hx hka hkb) rfl rfl rfl rfl rfl rfl rfl rfl rfl rfl rfl).mono fun y w' hh => step_eq (num _ _ _ _ _ _ rfl) hh
  · obtain ⟨ha, hb⟩ := ok_u (by decide) hok
    obtain ⟨ka, rfl, hka⟩ := reg_nat ha
    obtain ⟨kb, rfl, hkb⟩ := reg_nat hb
    exact (step_num cs B i 4 ka kb c3 n (oneP 4 (x.f.r.getD kb 0)) h hr hi hc hB hp hcn (fun cA fv ov at_ en w hm hx => reck_4 base mb cA cn cc fv at_ ov en x ka kb c3 n w hm hx hka hkb) rfl rfl rfl rfl rfl rfl rfl rfl rfl rfl rfl).mono fun y w' hh => step_eq (num _ _ _ _ _ _ rfl) hh
  · obtain ⟨ha, hb, hc8⟩ := ok_b (by decide) (by decide) hok
    obtain ⟨ka, rfl, hka⟩ := reg_nat ha
    obtain ⟨kb, rfl, hkb⟩ := reg_nat hb
    obtain ⟨kc, rfl, hkc⟩ := reg_nat hc8
    exact (step_num cs B i 5 ka kb kc n (twoP 5 (x.f.r.getD kb 0) (x.f.r.getD kc 0)) h hr hi hc hB hp hcn (fun cA fv ov at_ en w hm hx => reck_5 base mb cA cn cc fv at_ ov en x ka kb kc n w hm hx hka hkb hkc) rfl rfl rfl rfl rfl rfl rfl rfl rfl rfl rfl).mono fun y w' hh => step_eq (num _ _ _ _ _ _ rfl) hh
  · obtain ⟨ha, hb, hc8⟩ := ok_b (by decide) (by decide) hok
    obtain ⟨ka, rfl, hka⟩ := reg_nat ha
    obtain ⟨kb, rfl, hkb⟩ := reg_nat hb
    obtain ⟨kc, rfl, hkc⟩ := reg_nat hc8
    exact (step_num cs B i 6 ka kb kc n (twoP 6 (x.f.r.getD kb 0) (x.f.r.getD kc 0)) h hr hi hc hB hp hcn (fun cA fv ov at_ en w hm hx => reck_6 base mb cA cn cc fv at_ ov en x ka kb kc n w hm hx hka hkb hkc) rfl rfl rfl rfl rfl rfl rfl rfl rfl rfl rfl).mono fun y w' hh => step_eq (num _ _ _ _ _ _ rfl) hh
  · obtain ⟨ha, hb, hc8⟩ := ok_b (by decide) (by decide) hok
    obtain ⟨ka, rfl, hka⟩ := reg_nat ha
    obtain ⟨kb, rfl, hkb⟩ := reg_nat hb
    obtain ⟨kc, rfl, hkc⟩ := reg_nat hc8
    exact (step_num cs B i 7 ka kb kc n (twoP 7 (x.f.r.getD kb 0) (x.f.r.getD kc 0)) h hr hi hc hB hp hcn (fun cA fv ov at_ en w hm hx => reck_7 base mb cA cn cc fv at_ ov en x ka kb kc n w hm hx hka hkb hkc) rfl rfl rfl rfl rfl rfl rfl rfl rfl rfl rfl).mono fun y w' hh => step_eq (num _ _ _ _ _ _ rfl) hh
  · obtain ⟨ha, hb, hc8⟩ := ok_b (by decide) (by decide) hok
    obtain ⟨ka, rfl, hka⟩ := reg_nat ha
    obtain ⟨kb, rfl, hkb⟩ := reg_nat hb
    obtain ⟨kc, rfl, hkc⟩ := reg_nat hc8
    exact (step_num cs B i 8 ka kb kc n (twoP 8 (x.f.r.getD kb 0) (x.f.r.getD kc 0)) h hr hi hc hB hp hcn (fun cA fv ov at_ en w hm hx => reck_8 base mb cA cn cc fv at_ ov en x ka kb kc n w hm hx hka hkb hkc) rfl rfl rfl rfl rfl rfl rfl rfl rfl rfl rfl).mono fun y w' hh => step_eq (num _ _ _ _ _ _ rfl) hh
  · obtain ⟨ha, hb, hc8⟩ := ok_b (by decide) (by decide) hok
    obtain ⟨ka, rfl, hka⟩ := reg_nat ha
    obtain ⟨kb, rfl, hkb⟩ := reg_nat hb
    obtain ⟨kc, rfl, hkc⟩ := reg_nat hc8
    exact (step_num cs B i 9 ka kb kc n (twoP 9 (x.f.r.getD kb 0) (x.f.r.getD kc 0)) h hr hi hc hB hp hcn (fun cA fv ov at_ en w hm hx => reck_9 base mb cA cn cc fv at_ ov en x ka kb kc n w hm hx hka hkb hkc) rfl rfl rfl rfl rfl rfl rfl rfl rfl rfl rfl).mono fun y w' hh => step_eq (num _ _ _ _ _ _ rfl) hh
  · obtain ⟨ha, hb, hc8⟩ := ok_b (by decide) (by decide) hok
    obtain ⟨ka, rfl, hka⟩ := reg_nat ha
    obtain ⟨kb, rfl, hkb⟩ := reg_nat hb
    obtain ⟨kc, rfl, hkc⟩ := reg_nat hc8
    exact (step_num cs B i 10 ka kb kc n (twoP 10 (x.f.r.getD kb 0) (x.f.r.getD kc 0)) h hr hi hc hB hp hcn (fun cA fv ov at_ en w hm hx => reck_10 base mb cA cn cc fv at_ ov en x ka kb kc n w hm hx hka hkb hkc) rfl rfl rfl rfl rfl rfl rfl rfl rfl rfl rfl).mono fun y w' hh => step_eq (num _ _ _ _ _ _ rfl) hh
  · obtain ⟨ha, hb, hc8⟩ := ok_b (by decide) (by decide) hok
    obtain ⟨ka, rfl, hka⟩ := reg_nat ha
    obtain ⟨kb, rfl, hkb⟩ := reg_nat hb
    obtain ⟨kc, rfl, hkc⟩ := reg_nat hc8
    exact (step_num cs B i 11 ka kb kc n (twoP 11 (x.f.r.getD kb 0) (x.f.r.getD kc 0)) h hr hi hc hB hp hcn (fun cA fv ov at_ en w hm hx => reck_11 base mb cA cn cc fv at_ ov en x ka kb kc n w hm hx hka hkb hkc) rfl rfl rfl rfl rfl rfl rfl rfl rfl rfl rfl).mono fun y w' hh => step_eq (num _ _ _ _ _ _ rfl) hh
  · obtain ⟨ha, hb, hc8⟩ := ok_b (by decide) (by decide) hok
    obtain ⟨ka, rfl, hka⟩ := reg_nat ha
    obtain ⟨kb, rfl, hkb⟩ := reg_nat hb
    obtain ⟨kc, rfl, hkc⟩ := reg_nat hc8
    exact (step_num cs B i 12 ka kb kc n (twoP 12 (x.f.r.getD kb 0) (x.f.r.getD kc 0)) h hr hi hc hB hp hcn (fun cA fv ov at_ en w hm hx => reck_12 base mb cA cn cc fv at_ ov en x ka kb kc n w hm hx hka hkb hkc) rfl rfl rfl rfl rfl rfl rfl rfl rfl rfl rfl).mono fun y w' hh => step_eq (num _ _ _ _ _ _ rfl) hh
  · obtain ⟨ha, hb, hc8⟩ := ok_b (by decide) (by decide) hok
    obtain ⟨ka, rfl, hka⟩ := reg_nat ha
    obtain ⟨kb, rfl, hkb⟩ := reg_nat hb
    obtain ⟨kc, rfl, hkc⟩ := reg_nat hc8
    exact (step_num cs B i 13 ka kb kc n (twoP 13 (x.f.r.getD kb 0) (x.f.r.getD kc 0)) h hr hi hc hB hp hcn (fun cA fv ov at_ en w hm hx => reck_13 base mb cA cn cc fv at_ ov en x ka kb kc n w hm hx hka hkb hkc) rfl rfl rfl rfl rfl rfl rfl rfl rfl rfl rfl).mono fun y w' hh => step_eq (num _ _ _ _ _ _ rfl) hh
  · obtain ⟨ha, hn⟩ := ok_14 hok
    obtain ⟨ka, rfl, hka⟩ := reg_nat ha
    obtain ⟨kn, rfl, hkn⟩ := below_nat hn
    exact (step_14 cs B i ka kn b c3 h hr hi hc hB hp hcn hka (by omega)).mono fun y w' hh => step_eq rfl hh
  · obtain ⟨hn, ha⟩ := ok_15 hok
    obtain ⟨ka, rfl, hka⟩ := reg_nat ha
    obtain ⟨kn, rfl, hkn⟩ := below_nat hn
    exact (step_15 cs B i ka kn b c3 h hr hi hc hB hp hcn hka (by omega) hsl).mono fun y w' hh => step_eq rfl hh
  · exact (step_16 cs B i a b c3 n h hr hi hc hB hp hcn).mono fun y w' hh => step_eq rfl hh
  · obtain ⟨ka, rfl, hka⟩ := reg_nat (ok_17 hok).1
    by_cases hz : x.f.r.getD ka 0 = 0
    · exact (step_17z cs B i ka b c3 n h hr hi hc hB hp hcn hka hz).mono fun y w' hh => step_eq (by
        have e : ri x.f (ka : Int) = 0 := hz
        simp [stepP, flowP, e]) hh
    · exact (step_17n cs B i ka b c3 n h hr hi hc hB hp hcn hka hz).mono fun y w' hh => step_eq (by
        have e : ri x.f (ka : Int) ≠ 0 := hz
        simp [stepP, flowP, e]) hh
  · exact (step_18 cs B i a b c3 n h hr hi hc hB hp hcn).mono fun y w' hh => step_eq rfl hh
  · exact (step_19 cs B i a b c3 n h hr hi hc hB hp hcn (ok_19 hok) han).mono fun y w' hh => step_eq rfl hh
  · obtain ⟨ka, rfl, hka⟩ := reg_nat (ok_20 hok)
    exact (step_20 cs B i ka b c3 n h hr hi hc hB hp hcn hka hol).mono fun y w' hh => step_eq rfl hh
  · exact (step_21 cs B i a b c3 n h hr hi hc hB hp hcn).mono fun y w' hh => step_eq rfl hh
  · obtain ⟨hn, ha⟩ := ok_22 hok
    obtain ⟨ka, rfl, hka⟩ := reg_nat ha
    obtain ⟨kn, rfl, hkn⟩ := below_nat hn
    exact (step_22 cs B i ka kn b c3 h hr hi hc hB hp hcn hka (by omega)).mono fun y w' hh => step_eq rfl hh
  · obtain ⟨ha, hn⟩ := ok_23 hok
    obtain ⟨ka, rfl, hka⟩ := reg_nat ha
    obtain ⟨kn, rfl, hkn⟩ := below_nat hn
    exact (step_23 cs B i ka kn b c3 h hr hi hc hB hp hcn hka (by omega)).mono fun y w' hh => step_eq rfl hh
end
/-- the bounds that a run keeps -/
structure Bnd (k : Nat) (s : MS) : Prop where
  deep : s.pre.length ≤ 201
  each : ∀ f ∈ s.pre ++ [s.f], f.sl.length ≤ 16384 ∧ f.ans < 8
  outs : s.out.length ≤ k
theorem step_any {w : World} {base mb cn cc : Nat} {cA : Option Addr} (cs : List Cd) (B i k : Nat) (c : Cd) (s : MS) (h : Mst w base mb cA cn cc s) (hr : Recs w B 5 cA cn (cs.map Cd.row)) (hi : i < cn) (hat : s.at_ = (i : Int)) (he : s.ended = false) (hc : cs[i]? = some c) (hB : B ≤ base) (hcn : cn ≤ 65536)
    (hok : codeOk (cn : Int) c = true) (hb : Bnd k s) (hk : k ≤ 3000000) :
    Calls Try.prog 26 #[.pointer (some ⟨mb, 0, none⟩)] w (StepO w base mb cA cn cc (stepP c s)) := by
  obtain ⟨fv, ov, F, hF, hM⟩ := h
  obtain ⟨pre, x, rfl, hpre, hx⟩ := map_snoc hF
  obtain ⟨sp, sf, sa, so, sn, se⟩ := s
  simp only at hpre hx hat he hM
  subst hpre hx hat he
  have hx2 := hb.each x.f (by simp)
  exact step_pre cs B i c hM hr hi hc hB (by simpa using hb.deep) hcn hok (Nat.le_trans hb.outs hk) hx2.1 hx2.2
theorem set_len {l : List Int} {k n : Nat} (v : Int) (h : l.length = n) : (l.set k v).length = n := by simpa using h
theorem storeL_len {l : List Int} {k : Nat} {v : Int} (hl : l.length ≤ 16384) (hk : k < 16384) : (storeL l k v).length ≤ 16384 := by
  unfold storeL
  rw [List.length_set, List.length_append, List.length_replicate]
  omega
theorem step_bnd {k : Nat} {m : Int} {c : Cd} {s : MS} (hok : codeOk m c = true) (hb : Bnd k s) : Bnd (k + 1) (stepP c s) := by
  obtain ⟨hd, he, ho⟩ := hb
  have hf := he s.f (by simp)
  have one : ∀ (f' : Fr) (a : Int) (o : List Int), f'.sl.length ≤ 16384 → f'.ans < 8 → o.length ≤ k + 1 → Bnd (k + 1) ⟨s.pre, f', a, o, s.en, s.ended⟩ := fun f' a o h1 h2 h3 => ⟨hd, fun f hm => by
    simp only [List.mem_append, List.mem_singleton] at hm
    rcases hm with hm | rfl
    · exact he f (by simp [hm])
    · exact ⟨h1, h2⟩, h3⟩
  have stop : ∀ (e a : Int), Bnd (k + 1) ⟨s.pre, s.f, a, s.out, e, true⟩ := fun e a => ⟨hd, he, Nat.le_succ_of_le ho⟩
  have ho1 : s.out.length ≤ k + 1 := Nat.le_succ_of_le ho
  have reg : ∀ (a v : Int) (z : Int) , Bnd (k + 1) ⟨s.pre, setr s.f a v, z, s.out, s.en, s.ended⟩ := fun a v z => one _ _ _ hf.1 hf.2 ho1
  unfold stepP flowP
  by_cases e18 : c.op = 18
  · rw [if_pos e18]
    unfold callP
    by_cases hd2 : 201 < s.pre.length + 1
    · rw [if_pos hd2]; exact stop _ _
    · rw [if_neg hd2]
      have ha : c.a < 8 := by
        obtain ⟨op, a, b, c3, n⟩ := c
        simp only at e18
        subst e18
        exact (ok_18 hok).1
      refine ⟨by simp; omega, fun f hm => ?_, ho1⟩
      simp only [List.mem_append, List.mem_singleton] at hm
      rcases hm with (hm | rfl) | rfl
      · exact he f (by simp [hm])
      · exact hf
      · exact ⟨by simp, ha⟩
  rw [if_neg e18]
  by_cases e19 : c.op = 19
  · rw [if_pos e19]
    unfold backP
    cases hg : s.pre.getLast? with
    | none => exact stop _ _
    | some g =>
      have hgm : g ∈ s.pre := List.mem_of_getLast? hg
      have hg2 := he g (by simp [hgm])
      refine ⟨by simp; omega, fun f hm => ?_, ho1⟩
      simp only [List.mem_append, List.mem_singleton] at hm
      rcases hm with hm | rfl
      · exact he f (by simp [(List.dropLast_sublist s.pre).subset hm])
      · split
        · exact hg2
        · exact hg2
  rw [if_neg e19]
  by_cases e21 : c.op = 21
  · rw [if_pos e21]; exact stop _ _
  rw [if_neg e21]
  by_cases e16 : c.op = 16
  · rw [if_pos e16]; exact one _ _ _ hf.1 hf.2 ho1
  rw [if_neg e16]
  by_cases e17 : c.op = 17
  · rw [if_pos e17]
    split
    · exact one _ _ _ hf.1 hf.2 ho1
    · exact one _ _ _ hf.1 hf.2 ho1
  rw [if_neg e17]
  by_cases e1 : c.op = 1
  · rw [if_pos e1]; exact reg _ _ _
  rw [if_neg e1]
  by_cases e14 : c.op = 14
  · rw [if_pos e14]; exact reg _ _ _
  rw [if_neg e14]
  by_cases e15 : c.op = 15
  · rw [if_pos e15]
    have hn : c.n.toNat < 16384 := by
      obtain ⟨op, a, b, c3, n⟩ := c
      simp only at e15
      subst e15
      obtain ⟨kn, h1, h2⟩ := below_nat (ok_15 hok).1
      simp only
      omega
    exact one _ _ _ (storeL_len hf.1 hn) hf.2 ho1
  rw [if_neg e15]
  by_cases e22 : c.op = 22
  · rw [if_pos e22]; exact one _ _ _ hf.1 hf.2 ho1
  rw [if_neg e22]
  by_cases e23 : c.op = 23
  · rw [if_pos e23]; exact reg _ _ _
  rw [if_neg e23]
  by_cases e20 : c.op = 20
  · rw [if_pos e20]; exact one _ _ _ hf.1 hf.2 (by simp; omega)
  rw [if_neg e20]
  unfold reckonP
  split
  · exact reg _ _ _
  · exact stop _ _
end Go.Proofs.Ytkdacemachejoaa.Vm
namespace Go.Proofs.Ytkdacemachejoaa.Vm
open Go.RowKit Go.Shelf Object
set_option linter.unusedVariables false
set_option maxRecDepth 100000
def fr0 : Fr := ⟨zero8, [], zero4, zero4, 0, 0⟩
def ms0 : MS := ⟨[], fr0, 0, [], 0, false⟩
/-- what Run leaves -/
def RunO (cs : List Cd) (fuel : Nat) (w : World) (y : Ending) (w' : World) : Prop :=
  ∃ ov, y = .returned (.tuple #[.agg #[ov, .int .i64 (runP cs fuel ms0).en], .int .i64 0]) ∧ OwnR 2 1 w' w.heap.size ov (runP cs fuel ms0).out.length (irows (runP cs fuel ms0).out) ∧ Only [] w w'
theorem row_new {e : TypeId} {w : World} {g base : Nat} {v : Value} (h : Blk w g e #[v]) (hb : base ≤ g) (hv : v.oneCell' = true) : OwnR e 1 w base (.slice (some ⟨g, 0, none⟩) 1 1) 1 [[v]] :=
  ⟨rfl, by simp, ⟨by simp, .inr ⟨g, 1, #[v], rfl, hb, h, Nat.le_refl _, by simp [maxLen], by simp, by simp⟩⟩⟩
theorem inv0 {cs : List Cd} : Inv cs ms0 := ⟨⟨by decide, .zero⟩, fun b hb => by simp [backs, ms0] at hb⟩
theorem bnd0 : Bnd 0 ms0 := ⟨by decide, fun f hf => by
  have : f = fr0 := by simpa [ms0] using hf
  subst this
  exact ⟨by decide, by decide⟩, by decide⟩
/-- the loop's round -/
def Rnd (w0 wr : World) (base mb : Nat) (cA : Option Addr) (cn cc : Nat) (cs : List Cd) (fuel k : Nat) (S : MS) : Prop :=
  ∃ s, Mst wr base mb cA cn cc s ∧ Inv cs s ∧ Bnd k s ∧ s.ended = false ∧ runP cs (fuel - k) s = S ∧ Below base w0 wr
theorem rnd_ended {cs : List Cd} {n : Nat} {s : MS} {c : Cd} {S : MS} (hc : cs[s.at_.toNat]? = some c) (h : runP cs (n + 1) s = S) (he : (stepP c s).ended = true) : stepP c s = S := by
  unfold runP at h
  rw [getD_some hc, if_pos he] at h
  exact h
theorem rnd_on {cs : List Cd} {n : Nat} {s : MS} {c : Cd} {S : MS} (hc : cs[s.at_.toNat]? = some c) (h : runP cs (n + 1) s = S) (he : (stepP c s).ended = false) : runP cs n (stepP c s) = S := by
  unfold runP at h
  rw [getD_some hc, if_neg (by rw [he]; decide)] at h
  exact h
/-- a round's step, all of it -/
theorem rnd_step {w0 wr : World} {base mb cn cc : Nat} {cA : Option Addr} (cs : List Cd) (fuel k B : Nat) (S : MS) (h : Rnd w0 wr base mb cA cn cc cs fuel k S) (hlt : k < fuel) (hf : fuel ≤ 900000) (hR : vmRight cs = true) (hr : Recs w0 B 5 cA cn (cs.map Cd.row)) (hB : B ≤ base) :
    Calls Try.prog 26 #[.pointer (some ⟨mb, 0, none⟩)] wr fun y w' => y = .returned (.tuple #[]) ∧ ∃ s', Mst w' base mb cA cn cc s' ∧ Below base w0 w' ∧ (s'.ended = true → s' = S) ∧ (s'.ended = false → Rnd w0 w' base mb cA cn cc cs fuel (k + 1) S) := by
  obtain ⟨s, hM, hI, hb, he, hrun, hbel⟩ := h
  have hl : cs.length = cn := by have := hr.1; simpa using this
  obtain ⟨h0, hrd⟩ := hI.1
  obtain ⟨c, hc, hn⟩ := right_some hR hrd
  have hi := right_rd hR hrd
  obtain ⟨j, hj⟩ : ∃ j, fuel - k = j + 1 := ⟨fuel - k - 1, by omega⟩
  rw [hj] at hrun
  have hr' : Recs wr B 5 cA cn (cs.map Cd.row) := hr.below (hbel.mono hB)
  have hlen := (right_len hR).2.1
  refine (step_any cs B s.at_.toNat k c s hM hr' (by omega) (by omega) he hc hB (by omega) (by rw [← hl]; exact right_at hR hc) hb (by omega)).mono ?_
  rintro y w' ⟨rfl, hM', hbel'⟩
  refine ⟨rfl, stepP c s, hM', hbel.trans hbel', fun h => rnd_ended hc hrun h, fun h => ⟨stepP c s, hM', ?_, step_bnd (right_at hR hc) hb, h, ?_, hbel.trans hbel'⟩⟩
  · rcases step_inv hI hc hn with h1 | h1
    · rw [h] at h1; cases h1
    · exact h1
  · rw [show fuel - (k + 1) = j by omega]
    exact rnd_on hc hrun h
theorem mst_out {w : World} {base mb cn cc : Nat} {cA : Option Addr} {s : MS} (h : Mst w base mb cA cn cc s) : ∃ oA oc, w.cell? ⟨mb, 3, none⟩ = some (.slice oA s.out.length oc) ∧ w.cell? ⟨mb, 4, none⟩ = some (.int .i64 s.en) ∧ w.cell? ⟨mb, 5, none⟩ = some (.bool s.ended) ∧
    OwnR 2 1 w base (.slice oA s.out.length oc) s.out.length (irows s.out) := by
  obtain ⟨fv, ov, F, hF, hM⟩ := h
  obtain ⟨oA, oc, rfl, _, _, _, _⟩ := hM.outs.shape (by decide)
  exact ⟨oA, oc, hM.blk.cell 3, hM.blk.cell 4, hM.blk.cell 5, hM.outs⟩
theorem mst_stop {w : World} {base mb cn cc : Nat} {cA : Option Addr} {s : MS} (h : Mst w base mb cA cn cc s) (he : s.ended = false) (e : Int) :
    Calls Try.prog 27 #[.pointer (some ⟨mb, 0, none⟩), .int .i64 e] w (StepO w base mb cA cn cc (s.stop e)) := by
  obtain ⟨fv, ov, F, hF, hM⟩ := h
  rw [he] at hM
  refine (stop_any mb _ _ _ _ _ _ _ e w hM.blk).mono ?_
  rintro y w' ⟨rfl, hb, ho⟩
  exact ⟨rfl, ⟨fv, ov, F, hF, hM.mach hb ho⟩, ho.to_below hM.base_le (by simpa using hM.mbase)⟩
/-- the outcome is told -/
theorem run_told {w w6 : World} {base : Nat} {v : Value} {n : Nat} {rows : List (List Value)} {o e : Value} (hown : OwnR 2 1 w6 base v n rows) (hb : w.heap.size < base) (hw : Only [] w w6) :
    OwnR 2 1 ((w6.setCell ⟨w.heap.size, 0, none⟩ o).setCell ⟨w.heap.size, 1, none⟩ e) w.heap.size v n rows ∧ Only [] w ((w6.setCell ⟨w.heap.size, 0, none⟩ o).setCell ⟨w.heap.size, 1, none⟩ e) := by
  refine ⟨(hown.only (S := [w.heap.size]) (((Only.refl [w.heap.size] w6).setCell (.inl (by simp)) _).setCell (.inl (by simp)) _) (fun g hg hm => ?_)).mono (Nat.le_of_lt hb), (hw.setCell (.inr (Nat.le_refl _)) _).setCell (.inr (Nat.le_refl _)) _⟩
  have h1 := (hown.lt g hg).1
  rw [List.mem_singleton.1 hm] at h1
  omega
set_option maxHeartbeats 4000000 in
theorem run_any (A : Option Addr) (m cp : Nat) (cs : List Cd) (fuel : Nat) (w : World) (hr : Recs w w.heap.size 5 A m (cs.map Cd.row)) (hR : vmRight cs = true) (hf : fuel ≤ 900000) :
    Calls Try.prog 9 #[.slice A m cp, .int .i64 (fuel : Int)] w (RunO cs fuel w) := by
  have hl : cs.length = m := by have := hr.1; simpa using this
  have hlen := (right_len hR).2.1
  obtain ⟨S, hS⟩ : ∃ S, runP cs fuel ms0 = S := ⟨_, rfl⟩
  unfold RunO
  rw [hS]
  obtain ⟨w1, hw1⟩ : ∃ w1, w.alloc (.cells #[.slice none 0 0, .int .i64 0] 30) = w1 := ⟨_, rfl⟩
  have b1 : Blk w1 w.heap.size 30 #[.slice none 0 0, .int .i64 0] := by rw [← hw1]; exact Blk.new w _ _
  have o1 : Only [] w w1 := by rw [← hw1]; exact (Only.refl [] w).alloc _
  have l1 := b1.lt
  have HV := Lib.hid (vmright_any A m cp cs w1 ((hr.only o1 (by simp)).more o1.size) (by omega))
  rw [hR] at HV
  have HR := Lib.hid (And.intro hr hR)
  have HB1 := Lib.hid b1
  have HO1 := Lib.hid (And.intro o1 l1)
  have HSS := Lib.hid hS
  have HL := Lib.hid (And.intro hf (And.intro hlen hl))
  have d1 : decide ((1048576 : Int) < (fuel : Int)) = false := decide_eq_false (by omega)
  have d2 : decide (1048576 < fuel) = false := decide_eq_false (by omega)
  clear hr hR b1 o1 l1 hS hf hlen hl
  go_enter Try.func9, Try.ntmps9
  go_wp2_with fail
  refine HV.out.mono ?_
  rintro y w2 ⟨rfl, ho2⟩
  have HO2 := Lib.hid ho2
  clear ho2 HV
  obtain ⟨w3, hw3⟩ : ∃ w3, w2.alloc (.cells #[.int .i64 0, .int .i64 0, .int .i64 0, .int .i64 0, .int .i64 0, .int .i64 0, .int .i64 0, .int .i64 0, .slice none 0 0, .int .i64 0, .int .i64 0, .int .i64 0, .int .i64 0, .int .i64 0, .int .i64 0, .int .i64 0, .int .i64 0, .int .i64 0, .int .i64 0] 55) = w3 := ⟨_, rfl⟩
  have b3 : Blk w3 w2.heap.size 55 (fr0.row (.slice none 0 0)) := by rw [← hw3]; exact Blk.new w2 _ _
  have o3 : Only [] w2 w3 := by rw [← hw3]; exact (Only.refl [] w2).alloc _
  obtain ⟨w4, hw4⟩ : ∃ w4, w3.alloc (.cells #[.pointer (some ⟨w2.heap.size, 0, none⟩)] 51) = w4 := ⟨_, rfl⟩
  have b4 : Blk w4 w3.heap.size 51 #[.pointer (some ⟨w2.heap.size, 0, none⟩)] := by rw [← hw4]; exact Blk.new w3 _ _
  have o4 : Only [] w3 w4 := by rw [← hw4]; exact (Only.refl [] w3).alloc _
  obtain ⟨w5, hw5⟩ : ∃ w5, w4.alloc (.cells #[.slice A m cp, .slice (some ⟨w3.heap.size, 0, none⟩) 1 1, .int .i64 0, .slice none 0 0, .int .i64 0, .bool false] 58) = w5 := ⟨_, rfl⟩
  have b5 : Blk w5 w4.heap.size 58 (mcells A m cp (.slice (some ⟨w3.heap.size, 0, none⟩) 1 1) 0 (.slice none 0 0) 0 false) := by rw [← hw5]; exact Blk.new w4 _ _
  have o5 : Only [] w4 w5 := by rw [← hw5]; exact (Only.refl [] w4).alloc _
  have o45 := o4.trans o5 (by simp)
  have o35 := o3.trans o45 (by simp)
  have o25 := HO2.out.trans o35 (by simp)
  have hs2 := HO2.out.size
  have l3 := b3.lt
  have l4 := b4.lt
  have l5 := b5.lt
  have hMI : MIn w5 w1.heap.size w4.heap.size A m cp (.slice (some ⟨w3.heap.size, 0, none⟩) 1 1) (.slice none 0 0) [⟨w2.heap.size, .slice none 0 0, fr0⟩] 0 [] 0 false :=
    ⟨b5, row_new (b4.only o5 (by simp)) (by omega) rfl, OwnR.nil_ _ _ _ _, fun y hy => by
      rw [List.mem_singleton.1 hy]
      exact ⟨⟨rfl, rfl, rfl⟩, b3.only o45 (by simp), OwnR.nil_ _ _ _ _, hs2⟩, by simp, by simp [svL, ownL, Value.ownBlock], by omega⟩
  have HM0 : Hid (Mst w5 w1.heap.size w4.heap.size A m cp ms0) := Lib.hid ⟨_, _, [⟨w2.heap.size, .slice none 0 0, fr0⟩], rfl, hMI⟩
  have HB5 := Lib.hid (HB1.out.only o25 (by simp))
  have HO5 := Lib.hid (HO1.out.1.trans o25 (by simp))
  have HR5 := Lib.hid (HR.out.1.only HO5.out (by simp))
  have HS5 := Lib.hid o25.size
  clear b3 b4 b5 o3 o4 o5 o45 o35 o25 hs2 l3 l4 l5 hMI
  go_upto_region 4 with fail
  clear hw3 hw4 hw5 hw1
  go_wp2_with fail
  go_loopw [26] (fun i wr => ∃ k : Nat, k ≤ fuel ∧ i = .int .i64 k ∧ Rnd w5 wr w1.heap.size w4.heap.size A m cp cs fuel k S) (fun i _ => fuel - (intOf i).toNat)
  case atStart => exact ⟨0, by omega, rfl, ms0, HM0.out, inv0, bnd0, rfl, HSS.out, Below.refl _ _⟩
  case round =>
    obtain ⟨k, hk, rfl, hrnd⟩ := hrel
    by_cases hlt : k < fuel
    · have HST := Lib.hid (rnd_step cs fuel k w.heap.size S hrnd hlt HL.out.1 HR.out.2 HR5.out (by have := HO1.out.2; omega))
      have e1 : decide ((k : Int) < (fuel : Int)) = true := decide_eq_true (by omega)
      have e2 : decide (k < fuel) = true := decide_eq_true hlt
      have HK := Lib.hid (And.intro hk hlt)
      clear hrnd hk hlt
      go_wp2_with fail
      refine HST.out.mono ?_
      rintro y w6 ⟨rfl, s', hM', hbel, hend, hon⟩
      cases he : s'.ended with
      | true =>
        obtain rfl := hend he
        obtain ⟨oA, oc, m3, m4, m5, hown⟩ := mst_out hM'
        have hwb : Only [] w w6 := Only.of_below (HO5.out.below0.trans (hbel.mono (Nat.le_of_lt HO1.out.2)))
        have bb := HB5.out.below hbel HO1.out.2
        have t0 : w6.cell? ⟨w.heap.size, 0, none⟩ = some (.slice none 0 0) := bb.cell 0
        have t1 : w6.cell? ⟨w.heap.size, 1, none⟩ = some (.int .i64 0) := bb.cell 1
        have u0 := bb.frozen 0
        have u1 := bb.frozen 1
        obtain ⟨on, hon2⟩ : ∃ on, s'.out.length = on := ⟨_, rfl⟩
        rw [hon2] at m3
        have bb2 := (bb.set_ 0 (.slice oA on oc)).set_ 1 (.int .i64 s'.en)
        have v0 : ((w6.setCell ⟨w.heap.size, 0, none⟩ (.slice oA on oc)).setCell ⟨w.heap.size, 1, none⟩ (.int .i64 s'.en)).cell? ⟨w.heap.size, 0, none⟩ = some (.slice oA on oc) := bb2.cell 0
        have v1 : ((w6.setCell ⟨w.heap.size, 0, none⟩ (.slice oA on oc)).setCell ⟨w.heap.size, 1, none⟩ (.int .i64 s'.en)).cell? ⟨w.heap.size, 1, none⟩ = some (.int .i64 s'.en) := bb2.cell 1
        have HF := Lib.hid (And.intro hon2 (run_told (o := .slice oA on oc) (e := .int .i64 s'.en) hown HO1.out.2 hwb))
        clear hwb bb bb2 hown hon2 hM' hbel hend hon
        rw [he] at m5
        go_wp2_with fail
        exact bodyPost_ret (v := .tuple #[.agg #[.slice oA on oc, .int .i64 s'.en], .int .i64 0]) (by simp [results, Try.results9, v0, v1, go_sem]) rfl ⟨_, rfl, by have h1 := HF.out.2.1; rw [HF.out.1] at h1 ⊢; exact h1, HF.out.2.2⟩
      | false =>
        have hr2 := hon he
        obtain ⟨oA, oc, m3, m4, m5, hown⟩ := mst_out hM'
        rw [he] at m5
        have HN := Lib.hid hr2
        clear hM' hbel hend hon hr2 hown m3 m4
        go_wp2_with fail
        have hw : wrap64 ((k : Int) + 1) = ((k + 1 : Nat) : Int) := by have := HK.out; have := HL.out.1; rw [wrap_le (by omega) (by omega)]; omega
        exact ⟨⟨k + 1, HK.out.2, by rw [hw], HN.out⟩, by have := HK.out; rw [hw]; simp [intOf]; omega⟩
    · obtain rfl : k = fuel := by omega
      obtain ⟨s, hM, hI, hb, he, hrun, hbel⟩ := hrnd
      rw [Nat.sub_self] at hrun
      have hrun : s.stop 2 = S := hrun
      have HST := Lib.hid (mst_stop hM he 2)
      rw [hrun] at HST
      have HBL := Lib.hid hbel
      have e1 : decide ((k : Int) < (k : Int)) = false := decide_eq_false (by omega)
      clear hM hI hb he hrun hbel hlt hk
      go_wp2_with fail
      refine HST.out.mono ?_
      rintro y w6 ⟨rfl, hM', hbel'⟩
      have hbel := HBL.out.trans hbel'
      obtain ⟨oA, oc, m3, m4, m5, hown⟩ := mst_out hM'
      have hwb : Only [] w w6 := Only.of_below (HO5.out.below0.trans (hbel.mono (Nat.le_of_lt HO1.out.2)))
      have bb := HB5.out.below hbel HO1.out.2
      have t0 : w6.cell? ⟨w.heap.size, 0, none⟩ = some (.slice none 0 0) := bb.cell 0
      have t1 : w6.cell? ⟨w.heap.size, 1, none⟩ = some (.int .i64 0) := bb.cell 1
      have u0 := bb.frozen 0
      have u1 := bb.frozen 1
      obtain ⟨on, hon2⟩ : ∃ on, S.out.length = on := ⟨_, rfl⟩
      rw [hon2] at m3
      have bb2 := (bb.set_ 0 (.slice oA on oc)).set_ 1 (.int .i64 S.en)
      have v0 : ((w6.setCell ⟨w.heap.size, 0, none⟩ (.slice oA on oc)).setCell ⟨w.heap.size, 1, none⟩ (.int .i64 S.en)).cell? ⟨w.heap.size, 0, none⟩ = some (.slice oA on oc) := bb2.cell 0
      have v1 : ((w6.setCell ⟨w.heap.size, 0, none⟩ (.slice oA on oc)).setCell ⟨w.heap.size, 1, none⟩ (.int .i64 S.en)).cell? ⟨w.heap.size, 1, none⟩ = some (.int .i64 S.en) := bb2.cell 1
      have HF := Lib.hid (And.intro hon2 (run_told (o := .slice oA on oc) (e := .int .i64 S.en) hown HO1.out.2 hwb))
      clear hwb bb bb2 hown hon2 hM' hbel hbel'
      go_wp2_with fail
      exact bodyPost_ret (v := .tuple #[.agg #[.slice oA on oc, .int .i64 S.en], .int .i64 0]) (by simp [results, Try.results9, v0, v1, go_sem]) rfl ⟨_, rfl, by have h1 := HF.out.2.1; rw [HF.out.1] at h1 ⊢; exact h1, HF.out.2.2⟩
end Go.Proofs.Ytkdacemachejoaa.Vm
