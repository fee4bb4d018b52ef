/- graph.Under, Over, Cycle. -/
import Derived.Test.YtdfiibnpckahnaaGUnder
namespace Go.Proofs.Ytdfiibnpckahnaa.Graph
open Go.RowKit Go.Shelf Go.Maps
set_option linter.unusedVariables false
set_option maxRecDepth 100000
theorem any_path (l : List ND) (path : Path) : l.any (fun x => decide (x.path = path)) = decide (path ∈ (l.map ND.nd).map (·.path)) := by
  rw [nd_paths]
  by_cases h : path ∈ l.map (·.path)
  · rw [decide_eq_true h]
    obtain ⟨x, hx, e⟩ := List.mem_map.1 h
    exact List.any_eq_true.2 ⟨x, hx, decide_eq_true e⟩
  · rw [decide_eq_false h, List.any_eq_false]
    intro x hx
    simpa using fun e => h (List.mem_map.2 ⟨x, hx, e⟩)
theorem flat_len {l : List Nd} (h : ∀ x ∈ l, x.imps.length ≤ 40) : (l.flatMap (·.imps)).length ≤ 40 * l.length := by
  induction l with
  | nil => simp
  | cons x t ih =>
    have h2 := ih (fun y hy => h y (List.mem_cons_of_mem _ hy))
    have h3 := h x (List.mem_cons_self ..)
    rw [List.flatMap_cons, List.length_append, List.length_cons]
    omega
theorem ord8 {l : List Nd} (h : (orderL l).2 = 8) : ¬ dup l := by
  intro hd
  unfold orderL at h
  rw [if_pos hd] at h
  cases h
theorem lf_some {l : List Nd} (p : Path) : (lf l impL (taken l) none [] p).isSome = true ↔ p ∈ l.map (·.path) ∧ p ∉ taken l := by
  unfold lf
  by_cases h : p ∈ taken l
  · rw [if_pos (.inl h)]
    simp [h]
  · rw [if_neg (by simp [h])]
    simp only [Option.isSome_map, List.find?_isSome, decide_eq_true_eq, h, not_false_eq_true, and_true, List.mem_map]
/-- what Under, Over, Cycle leave -/
def SetO (w : World) (l : List Path) (y : Ending) (w' : World) : Prop := ∃ v, y = .returned v ∧ OwnR 9 1 w' w.heap.size v l.length (svs l) ∧ Only [] w w'
section
variable {w w' : World}
set_option maxHeartbeats 4000000 in
theorem under_any (A : Option Addr) (m c0 : Nat) (l : List ND) (path : Path) (w : World) (hr : Recs w w.heap.size 2 A m (l.map ND.row)) (hin : ∀ x ∈ l, x.in_ w w.heap.size) (hm : m ≤ 60) (hp : path.length ≤ 300) :
    Calls Try.prog 15 #[.slice A m c0, .string (str path)] w fun y w' => SetO w (underL (l.map ND.nd) path) y w' := by
  have hl : l.length = m := by have := hr.1; rwa [List.length_map] at this
  obtain ⟨w1, hw1⟩ : ∃ w1, w.alloc (.cells #[.slice A m c0] 29) = w1 := ⟨_, rfl⟩
  have b1 : Blk w1 w.heap.size 29 #[.slice A m c0] := by rw [← hw1]; exact Blk.new w _ _
  have o1 : Only [] w w1 := by rw [← hw1]; exact (Only.refl [] w).alloc _
  have HH := Lib.hid (has_any A m c0 l path w1 ((hr.only o1 (by simp)).more o1.size) hm)
  have HRE := Lib.hid (fun (wx : World) (ho : Only [] w1 wx) => reach_any (w := wx) (F := 34) (lb := w.heap.size) (nx := nxU (l.map ND.nd)) (U := (l.map ND.nd).flatMap (·.imps))
    (fun s t ht => by obtain ⟨x, hx, _, hi⟩ := mem_nxU.1 ht; exact List.mem_flatMap.2 ⟨x, hx, hi⟩)
    (fun t ht => by obtain ⟨x, hx, hi⟩ := List.mem_flatMap.1 ht; obtain ⟨y, hy, rfl⟩ := List.mem_map.1 hx; exact (hin y hy).c.2.2 t hi)
    (by have := flat_len (l := l.map ND.nd) (fun x hx => by obtain ⟨y, hy, rfl⟩ := List.mem_map.1 hx; exact (hin y hy).c.1); rw [List.length_map, hl] at this; omega)
    (fun s => by have := nxU_len (l := l.map ND.nd) (s := s) (fun x hx => by obtain ⟨y, hy, rfl⟩ := List.mem_map.1 hx; exact (hin y hy).c.1); rw [List.length_map, hl] at this; omega)
    (fun sm hsm wy s' hoy hs' => by
      have hob := ho.trans (hoy.mono (S' := []) (fun g hg => .inr (by rw [List.mem_singleton.1 hg]; exact hsm))) (by simp)
      have ho0 := o1.trans hob (by simp)
      exact under1_any A m c0 w.heap.size l s' wy (hob.cell (b1.cell 0) (by simp)) ((hr.only ho0 (by simp)).more ho0.size) (fun x hx => (hin x hx).only ho0 ho0.size) hm) eg_under path hp)
  have HO1 := Lib.hid o1
  have q0 := b1.cell 0
  have HQ0 := Lib.hid q0
  have HW1 := Lib.hid hw1
  clear b1 o1 hr hin hw1 q0
  rw [any_path] at HH
  go_enter Try.func15, Try.ntmps15
  go_upto_region 1 with fail
  rw [HW1.out]
  have q0 := HQ0.out
  by_cases hpm : path ∈ (l.map ND.nd).map (·.path)
  · have HPM := Lib.hid hpm
    rw [decide_eq_true hpm] at HH
    clear hpm HW1
    go_wp2_with fail
    refine HH.out.mono ?_
    rintro y w2 ⟨rfl, ho2⟩
    have HO2 := Lib.hid ho2
    have HRR := Lib.hid (HRE.out w2 ho2)
    clear ho2 HRE
    go_wp2_with fail
    refine HRR.out.mono ?_
    rintro y w3 ⟨v, ss, rfl, hown, ho3, huq⟩
    have HP := Lib.hid (And.intro hown (And.intro ho3 huq))
    clear hown ho3 huq
    go_wp2_with fail
    go_ret
    have hss := HP.out.2.2 (underL (l.map ND.nd) path) (under_ris _ _) (fun t => under_mem HPM.out t)
    have h2 := HP.out.1
    rw [hss] at h2
    have ho := HO1.out.trans HO2.out (by simp)
    exact ⟨v, rfl, h2.mono ho.size, ho.trans HP.out.2.1 (by simp)⟩
  · have HF : Hid (underL (l.map ND.nd) path = []) := Lib.hid (by unfold underL; rw [if_neg hpm])
    rw [decide_eq_false hpm] at HH
    clear hpm HW1
    go_wp2_with fail
    refine HH.out.mono ?_
    rintro y w2 ⟨rfl, ho2⟩
    have HO2 := Lib.hid (HO1.out.trans ho2 (by simp))
    clear ho2
    go_wp2_with fail
    go_ret
    refine ⟨.slice none 0 0, rfl, ?_, HO2.out⟩
    rw [HF.out]
    exact OwnR.nil_ _ _ _ _
set_option maxHeartbeats 4000000 in
theorem over_any (A : Option Addr) (m c0 : Nat) (l : List ND) (path : Path) (w : World) (hr : Recs w w.heap.size 2 A m (l.map ND.row)) (hin : ∀ x ∈ l, x.in_ w w.heap.size) (hm : m ≤ 60) (hp : path.length ≤ 300) :
    Calls Try.prog 17 #[.slice A m c0, .string (str path)] w fun y w' => SetO w (overL (l.map ND.nd) path) y w' := by
  have hl : l.length = m := by have := hr.1; rwa [List.length_map] at this
  obtain ⟨w1, hw1⟩ : ∃ w1, w.alloc (.cells #[.slice A m c0] 29) = w1 := ⟨_, rfl⟩
  have b1 : Blk w1 w.heap.size 29 #[.slice A m c0] := by rw [← hw1]; exact Blk.new w _ _
  have o1 : Only [] w w1 := by rw [← hw1]; exact (Only.refl [] w).alloc _
  have HH := Lib.hid (has_any A m c0 l path w1 ((hr.only o1 (by simp)).more o1.size) hm)
  have HRE := Lib.hid (fun (wx : World) (ho : Only [] w1 wx) => reach_any (w := wx) (F := 36) (lb := w.heap.size) (nx := nxO (l.map ND.nd)) (U := (l.map ND.nd).map (·.path))
    (fun s t ht => by obtain ⟨x, hx, _, rfl⟩ := mem_nxO.1 ht; exact List.mem_map.2 ⟨x, hx, rfl⟩)
    (fun t ht => by obtain ⟨x, hx, rfl⟩ := List.mem_map.1 ht; obtain ⟨y, hy, rfl⟩ := List.mem_map.1 hx; exact (hin y hy).c.2.1)
    (by rw [List.length_map, List.length_map, hl]; omega)
    (fun s => by have := nxO_len (l.map ND.nd) s; rw [List.length_map, hl] at this; omega)
    (fun sm hsm wy s' hoy hs' => by
      have hob := ho.trans (hoy.mono (S' := []) (fun g hg => .inr (by rw [List.mem_singleton.1 hg]; exact hsm))) (by simp)
      have ho0 := o1.trans hob (by simp)
      exact over1_any A m c0 w.heap.size l s' wy (hob.cell (b1.cell 0) (by simp)) ((hr.only ho0 (by simp)).more ho0.size) (fun x hx => (hin x hx).only ho0 ho0.size) hm) eg_over path hp)
  have HO1 := Lib.hid o1
  have q0 := b1.cell 0
  have HQ0 := Lib.hid q0
  have HW1 := Lib.hid hw1
  clear b1 o1 hr hin hw1 q0
  rw [any_path] at HH
  go_enter Try.func17, Try.ntmps17
  go_upto_region 1 with fail
  rw [HW1.out]
  have q0 := HQ0.out
  by_cases hpm : path ∈ (l.map ND.nd).map (·.path)
  · have HPM := Lib.hid hpm
    rw [decide_eq_true hpm] at HH
    clear hpm HW1
    go_wp2_with fail
    refine HH.out.mono ?_
    rintro y w2 ⟨rfl, ho2⟩
    have HO2 := Lib.hid ho2
    have HRR := Lib.hid (HRE.out w2 ho2)
    clear ho2 HRE
    go_wp2_with fail
    refine HRR.out.mono ?_
    rintro y w3 ⟨v, ss, rfl, hown, ho3, huq⟩
    have HP := Lib.hid (And.intro hown (And.intro ho3 huq))
    clear hown ho3 huq
    go_wp2_with fail
    go_ret
    have hss := HP.out.2.2 (overL (l.map ND.nd) path) (over_ris _ _) (fun t => over_mem HPM.out t)
    have h2 := HP.out.1
    rw [hss] at h2
    have ho := HO1.out.trans HO2.out (by simp)
    exact ⟨v, rfl, h2.mono ho.size, ho.trans HP.out.2.1 (by simp)⟩
  · have HF : Hid (overL (l.map ND.nd) path = []) := Lib.hid (by unfold overL; rw [if_neg hpm])
    rw [decide_eq_false hpm] at HH
    clear hpm HW1
    go_wp2_with fail
    refine HH.out.mono ?_
    rintro y w2 ⟨rfl, ho2⟩
    have HO2 := Lib.hid (HO1.out.trans ho2 (by simp))
    clear ho2
    go_wp2_with fail
    go_ret
    refine ⟨.slice none 0 0, rfl, ?_, HO2.out⟩
    rw [HF.out]
    exact OwnR.nil_ _ _ _ _
set_option maxHeartbeats 4000000 in
theorem cycle_any (A : Option Addr) (m c0 : Nat) (l : List ND) (w : World) (hr : Recs w w.heap.size 2 A m (l.map ND.row)) (hin : ∀ x ∈ l, x.in_ w w.heap.size) (hm : m ≤ 60) :
    Calls Try.prog 13 #[.slice A m c0] w fun y w' => SetO w (cycL (l.map ND.nd)) y w' := by
  have HR := Lib.hid hr
  have HIN := Lib.hid hin
  have HL := Lib.hid (show l.length = m by have := hr.1; rwa [List.length_map] at this)
  have HOR := Lib.hid (order_any A m c0 l w hr hin hm)
  clear hr hin
  go_enter Try.func13, Try.ntmps13
  go_wp2_with fail
  refine HOR.out.mono ?_
  rintro y w1 ⟨v1, rfl, _, ho1⟩
  have HO1 := Lib.hid ho1
  obtain ⟨e, he⟩ : ∃ e, (orderL (l.map ND.nd)).2 = e := ⟨_, rfl⟩
  rw [he]
  have HE := Lib.hid he
  clear ho1 he HOR
  by_cases h8 : e = 8
  · subst h8
    have hnd := ord8 HE.out
    have HDN := Lib.hid hnd
    have hnp : (l.map (·.path)).Nodup := by have h := Decidable.not_not.1 hnd; rwa [nd_paths] at h
    have HCN := Lib.hid (count_any A m c0 l w1 ((HR.out.only HO1.out (by simp)).more HO1.out.size) (fun x hx => (HIN.out x hx).only HO1.out HO1.out.size) hm hnp)
    clear hnd hnp
    go_wp2_with fail
    refine HCN.out.mono ?_
    rintro y w5 ⟨c, lb, bb, nl, nb, v, T, hs, rfl, hct, hp, ho5, hnl⟩
    have hpl : ∀ x ∈ l.map ND.nd, x.path.length ≤ 300 ∧ x.imps.length ≤ 40 := fun x hx => by
      obtain ⟨y, hy, rfl⟩ := List.mem_map.1 hx
      exact ⟨(HIN.out y hy).c.2.1, (HIN.out y hy).c.1⟩
    have HTA := Lib.hid (take_any hct hp HDN.out (by rw [List.length_map, HL.out]; exact hm) hnl hpl)
    have HO5 := Lib.hid ho5
    clear hct hp hnl ho5 hpl
    go_wp2_with fail
    refine HTA.out.mono ?_
    rintro y w6 ⟨vo, rfl, _, ⟨S, hS1, hS2⟩, v6, T6, hs6, nl6, nb6, hct6, hnl6⟩
    have HO6 := Lib.hid ((HO1.out.trans HO5.out (by simp)).trans hS1 (fun k hk => .inr (Nat.le_trans HO1.out.size (hS2 k hk))))
    have c60 : w6.cell? ⟨c, 0, none⟩ = some (.map (some lb)) := hct6.hb.blk.cell 0
    obtain ⟨F, hv, hF, _⟩ := hct6.left_
    have HS := Lib.hid (sorted_int lb nl6 F w6 hv (by omega))
    have HK := Lib.hid (keysI lb w6)
    have HF := Lib.hid hF
    clear hct6 hS1 hS2 hv hF hnl6
    go_wp2_with (first
      | (go_at_call 29; refine HK.out.mono ?_; rintro x wk ⟨rfl, hwk⟩; subst hwk)
      | (go_at_call 28; refine HS.out.mono ?_; rintro x w7 ⟨v, ss, rfl, hkl, hsl, hown, ho7⟩; have HP := Lib.hid (And.intro hkl (And.intro hown ho7)); clear hkl hsl hown ho7))
    go_ret
    have hss : ss = cycL (l.map ND.nd) := (cyc_ris _).keys (fun x => by rw [cyc_mem HE.out, ← lf_some, HF.out x, Option.isSome_map]) HP.out.1
    have h2 := HP.out.2.1
    rw [hss] at h2
    exact ⟨v, rfl, h2.mono HO6.out.size, HO6.out.trans HP.out.2.2 (by simp)⟩
  · have hne : (e != 8) = true := by simpa using h8
    have HF : Hid (cycL (l.map ND.nd) = []) := Lib.hid (by unfold cycL; rw [HE.out, if_neg h8])
    clear h8
    go_wp2_with fail
    go_ret
    refine ⟨.slice none 0 0, rfl, ?_, HO1.out⟩
    rw [HF.out]
    exact OwnR.nil_ _ _ _ _
end
end Go.Proofs.Ytdfiibnpckahnaa.Graph
