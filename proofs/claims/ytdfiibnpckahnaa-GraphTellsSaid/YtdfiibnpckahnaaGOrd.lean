/- graph.Order, walked. -/
import Derived.Test.YtdfiibnpckahnaaGIdx
namespace Go.Proofs.Ytdfiibnpckahnaa.Graph
open Go.RowKit Go.Shelf Go.Maps
set_option linter.unusedVariables false
set_option maxRecDepth 100000
theorem ND.in_.only {w w' : World} {B B' : Nat} {x : ND} (h : x.in_ w B) (ho : Only [] w w') (hB : B ≤ B') : x.in_ w' B' := ⟨(h.r.only ho (by simp)).more hB, h.c⟩
theorem nd_paths (l : List ND) : (l.map ND.nd).map (·.path) = l.map (·.path) := by rw [List.map_map]; rfl
theorem order_dup {l : List ND} (h : ¬ (l.map (·.path)).Nodup) : orderL (l.map ND.nd) = ([], 1) := by
  unfold orderL
  rw [if_pos (by unfold dup; rw [nd_paths]; exact h)]
theorem miss_any {l : List ND} : (l.any (fun x => x.imps.any (fun i => !decide (i ∈ l.map (·.path))))) = true ↔ missing (l.map ND.nd) := by
  unfold missing
  rw [nd_paths, List.any_eq_true]
  constructor
  · rintro ⟨x, hx, h⟩
    obtain ⟨i, hi, hn⟩ := List.any_eq_true.1 h
    exact ⟨x.nd, List.mem_map.2 ⟨x, hx, rfl⟩, i, hi, by simpa using hn⟩
  · rintro ⟨y, hy, i, hi, hn⟩
    obtain ⟨x, hx, rfl⟩ := List.mem_map.1 hy
    exact ⟨x, hx, List.any_eq_true.2 ⟨i, hi, by simpa using hn⟩⟩
theorem order_miss {l : List ND} (h : (l.map (·.path)).Nodup) (hm : missing (l.map ND.nd)) : orderL (l.map ND.nd) = ([], 9) := by
  unfold orderL
  rw [if_neg (by unfold dup; rw [nd_paths]; simpa using h), if_pos hm]
theorem order_else {l : List ND} (h : (l.map (·.path)).Nodup) (hm : ¬ missing (l.map ND.nd)) : orderL (l.map ND.nd) = if (taken (l.map ND.nd)).length < l.length then ([], 8) else (taken (l.map ND.nd), 0) := by
  unfold orderL
  rw [if_neg (by unfold dup; rw [nd_paths]; simpa using h), if_neg hm, List.length_map]
theorem taken_len (l : List Nd) : (taken l).length ≤ l.length := by
  have h := taken_tk l
  have h1 := nodup_le h.nodup h.sub
  rw [List.length_map] at h1
  exact h1
theorem run_store_func (P : Program) (w : World) (ad : Addr) (m : Mode) (fn : Fn) (a b : Array Value) : (store ad (.func fn a b) m).run P w = stored P w ad (.func fn a b) m := run_store P w ad _ m rfl
/-- what Order leaves -/
def OrderO (w : World) (l : List Nd) (y : Ending) (w' : World) : Prop := ∃ v, y = .returned (.tuple #[v, .int .i64 (orderL l).2]) ∧ OwnR 9 1 w' w.heap.size v (orderL l).1.length (svs (orderL l).1) ∧ Only [] w w'
set_option maxHeartbeats 8000000 in
theorem order_any (A : Option Addr) (m c0 : Nat) (l : List ND) (w : World) (hr : Recs w w.heap.size 2 A m (l.map ND.row)) (hin : ∀ x ∈ l, x.in_ w w.heap.size) (hm : m ≤ 60) :
    Calls Try.prog 7 #[.slice A m c0] w fun y w' => OrderO w (l.map ND.nd) y w' := by
  have HR := Lib.hid hr
  have HIN := Lib.hid hin
  have HL := Lib.hid (show l.length = m by have := hr.1; rwa [List.length_map] at this)
  have HPA := Lib.hid (paths_any A m c0 l w hr hin hm)
  clear hr hin
  go_enter Try.func7, Try.ntmps7
  go_wp2_with fail
  refine HPA.out.mono ?_
  rintro y w1 ⟨ho1, hP⟩
  rcases hP with ⟨hd, rfl⟩ | ⟨hn, b, n, F, rfl, hv, hF, hb⟩
  · have HO := Lib.hid (order_dup hd)
    have HO1 := Lib.hid ho1
    clear hd ho1
    go_wp2_with fail
    go_ret2
    refine ⟨.slice none 0 0, ?_, ?_, (HO1.out.alloc _)⟩
    · rw [HO.out]; rfl
    · rw [HO.out]; exact OwnR.nil_ _ _ _ _
  · have hn' := hn
    have HN := Lib.hid hn
    have hB1 := ho1.size
    obtain ⟨w2, hw2⟩ : ∃ w2, w1.alloc (.cells #[.map (some b)] 44) = w2 := ⟨_, rfl⟩
    have ho2 : Only [] w1 w2 := by rw [← hw2]; exact (Only.refl [] w1).alloc _
    have hb2 : Blk w2 w1.heap.size 44 #[.map (some b)] := by rw [← hw2]; exact Blk.new w1 _ _
    obtain ⟨w3, hw3⟩ : ∃ w3, w2.alloc (.cells #[.func (.func 20) #[] #[.pointer (some ⟨w1.heap.size, 0, none⟩)]] 48) = w3 := ⟨_, rfl⟩
    have ho3 : Only [] w2 w3 := by rw [← hw3]; exact (Only.refl [] w2).alloc _
    have hb3 : Blk w3 w2.heap.size 48 #[.func (.func 20) #[] #[.pointer (some ⟨w1.heap.size, 0, none⟩)]] := by rw [← hw3]; exact Blk.new w2 _ _
    have ho13 := (ho1.trans ho2 (by simp)).trans ho3 (by simp)
    have hs3 := ho13.size
    have hv3 := (hv.only ho2 (by simp)).only ho3 (by simp)
    have hc3 := ho3.cell (hb2.cell 0) (by simp)
    have HCF := Lib.hid (nom_contains (w := w3) (A := A) (n := m) (c := c0) (q := w2.heap.size) l (fun x => x.imps.any (fun i => !decide (i ∈ l.map (·.path)))) ((HR.out.only ho13 (by simp)).more hs3) (by omega) (fun wr ho x hx => order2_any (ho.cell (hb3.cell 0) (by simp)) (ho.cell hc3 (by simp)) (hv3.only ho (by simp)) hF x ((HIN.out x hx).only (ho13.trans ho (by simp)) (Nat.le_trans hs3 ho.size))))
    have HO3 := Lib.hid ho13
    clear hb2 hb3 hv3 hc3 hv hF ho1 ho2 ho3 ho13 hn hn'
    obtain ⟨mi, hmi⟩ : ∃ mi, (l.any (fun x => x.imps.any (fun i => !decide (i ∈ l.map (·.path))))) = mi := ⟨_, rfl⟩
    rw [hmi] at HCF
    have HMI := Lib.hid hmi
    clear hmi
    go_upto_region 2 with fail
    try rw [hw2]
    have hsf := run_store_func Try.prog
    go_upto_region 5 with fail
    clear hsf
    try rw [hw3]
    clear hw2 hw3
    cases mi
    · go_wp2_with fail
      refine HCF.out.mono ?_
      rintro y w4 ⟨rfl, ho4⟩
      have hmis : ¬ missing (l.map ND.nd) := fun h => by have := miss_any.2 h; rw [HMI.out] at this; cases this
      have HEL := Lib.hid (order_else HN.out hmis)
      have HO4 := Lib.hid (HO3.out.trans ho4 (by simp))
      have hs4 := HO4.out.size
      have HCN := Lib.hid (count_any A m c0 l w4 ((HR.out.only HO4.out (by simp)).more hs4) (fun x hx => (HIN.out x hx).only HO4.out hs4) hm HN.out)
      clear ho4 hmis
      have hnd : ¬ dup (l.map ND.nd) := by unfold dup; rw [nd_paths]; simpa using HN.out
      have HDN := Lib.hid hnd
      clear hnd
      go_wp2_with fail
      refine HCN.out.mono ?_
      rintro y w5 ⟨c, lb, bb, nl, nb, v, T, hs, rfl, hct, hp, ho5, hnl⟩
      have hpl : ∀ x ∈ l.map ND.nd, x.path.length ≤ 300 ∧ x.imps.length ≤ 40 := fun x hx => by
        obtain ⟨y, hy, rfl⟩ := List.mem_map.1 hx
        exact ⟨(HIN.out y hy).c.2.1, (HIN.out y hy).c.1⟩
      have HTA := Lib.hid (take_any hct hp HDN.out (by rw [List.length_map, HL.out]; exact hm) hnl hpl)
      have HO5 := Lib.hid ho5
      clear hct hp hnl ho5 hpl
      go_wp2_with fail
      refine HTA.out.mono ?_
      rintro y w6 ⟨vo, rfl, hown, hab, _⟩
      obtain ⟨S, hS1, hS2⟩ := hab
      have HO6 := Lib.hid ((HO4.out.trans HO5.out (by simp)).trans hS1 (fun k hk => .inr (Nat.le_trans HO4.out.size (hS2 k hk))))
      have htl := taken_len (l.map ND.nd)
      rw [List.length_map, HL.out] at htl
      obtain ⟨A6, c6, hvo, _⟩ := hown.shape (by decide)
      subst hvo
      have HOWN := Lib.hid hown
      clear hown hS1 hS2
      obtain ⟨nt, hnt⟩ : ∃ nt, (taken (l.map ND.nd)).length = nt := ⟨_, rfl⟩
      rw [hnt] at htl ⊢
      have HNT := Lib.hid hnt
      clear hnt
      by_cases hlt : nt < m
      · have d1 : decide ((nt : Int) < (m : Int)) = true := decide_eq_true (by omega)
        have d1' : decide (nt < m) = true := decide_eq_true hlt
        have HF : Hid (orderL (l.map ND.nd) = ([], 8)) := Lib.hid (by rw [HEL.out, HNT.out, HL.out, if_pos hlt])
        go_wp2_with fail
        go_ret2
        refine ⟨.slice none 0 0, ?_, ?_, HO6.out⟩
        · rw [HF.out]; rfl
        · rw [HF.out]; exact OwnR.nil_ _ _ _ _
      · have d1 : decide ((nt : Int) < (m : Int)) = false := decide_eq_false (by omega)
        have d1' : decide (nt < m) = false := decide_eq_false hlt
        have HF : Hid (orderL (l.map ND.nd) = (taken (l.map ND.nd), 0)) := Lib.hid (by rw [HEL.out, HNT.out, HL.out, if_neg hlt])
        go_wp2_with fail
        go_ret2
        refine ⟨.slice A6 nt c6, ?_, ?_, HO6.out⟩
        · rw [HF.out]; rfl
        · rw [HF.out]
          have h1 := HOWN.out
          rw [HNT.out] at h1
          show OwnR _ _ _ _ _ (taken (l.map ND.nd)).length (svs (taken (l.map ND.nd)))
          rw [HNT.out]
          exact h1.mono (Nat.le_trans HO4.out.size (Nat.le_refl _))
    · have HF := Lib.hid (order_miss HN.out (miss_any.1 HMI.out))
      go_wp2_with fail
      refine HCF.out.mono ?_
      rintro y w4 ⟨rfl, ho4⟩
      have HO4 := Lib.hid (HO3.out.trans ho4 (by simp))
      clear ho4
      go_wp2_with fail
      go_ret2
      refine ⟨.slice none 0 0, ?_, ?_, HO4.out⟩
      · rw [HF.out]; rfl
      · rw [HF.out]; exact OwnR.nil_ _ _ _ _
end Go.Proofs.Ytdfiibnpckahnaa.Graph
