/- The document's Cycle, Under, Over. -/
import Derived.Test.YtdfiibnpckahnaaGROrd
namespace Go.Proofs.Ytdfiibnpckahnaa.Graph
open Go.RowKit Go.Shelf Go.Maps
set_option linter.unusedVariables false
set_option maxRecDepth 100000
theorem putL_len : ∀ (l : List Path) (s : Path), (putL l s).length ≤ l.length + 1
  | [], s => by simp [putL]
  | a :: t, s => by
    unfold putL
    split
    · have := putL_len t s; simp; omega
    · split
      · simp
      · simp
theorem fold_snoc {α β : Type} {f : β → α → β} {o : β} {l : List α} {k : Nat} {x : α} (h : l[k]? = some x) : (l.take (k + 1)).foldl f o = f ((l.take k).foldl f o) x := by rw [take_snoc h, List.foldl_append]; rfl
theorem nds_at {l : List ND} {k : Nat} {x : ND} (h : l[k]? = some x) : (l.map ND.nd)[k]? = some x.nd := by rw [List.getElem?_map, h]; rfl
/-- the list so far -/
def SInv (w wr : World) (v : Value) (out : List Path) : Prop := OwnR 9 1 wr w.heap.size v out.length (svs out) ∧ Only [] w wr
section
variable {w wr w' : World} {v : Value} {out : List Path} {l : List ND} {path : Path} {x : ND} {k m : Nat}
theorem SInv.drew (h : SInv w wr v out) : SInv w wr.drew v out := ⟨h.1.drew, h.2.drew⟩
theorem SInv.nil_ : SInv w w (.slice none 0 0) [] := ⟨OwnR.nil_ _ _ _ _, Only.refl _ _⟩
theorem SInv.fin (h : SInv w wr v out) : SetO w out (.returned v) wr := ⟨v, rfl, h.1, h.2⟩
theorem SInv.shape (h : SInv w wr v out) : ∃ A c, v = .slice A out.length c ∧ Recs wr wr.heap.size 1 A out.length (svs out) := by
  obtain ⟨A, c, e, _, _, hr, _⟩ := h.1.shape (by decide)
  exact ⟨A, c, e, hr⟩
theorem SInv.put {s : Path} {y : Ending} (h : SInv w wr v out) (hp : PutO wr w.heap.size out s y w') : ∃ A c, y = .returned (.slice A (putL out s).length c) ∧ SInv w w' (.slice A (putL out s).length c) (putL out s) ∧ Only [] wr w' := by
  obtain ⟨v', rfl, h1, h2⟩ := hp
  obtain ⟨A, c, rfl, _⟩ := h1.shape (by decide)
  exact ⟨A, c, rfl, ⟨h1, h.2.trans h2 (by simp)⟩, h2⟩
theorem SInv.can (h : SInv w wr v out) (s : Path) (hs : s.length ≤ 300) (hl : out.length ≤ 100000) : ∃ A c, v = .slice A out.length c ∧ Recs wr wr.heap.size 1 A out.length (svs out) ∧ Calls Try.prog 31 #[.slice A out.length c, .string (str s)] wr fun y w' => ∃ A c, y = .returned (.slice A (putL out s).length c) ∧ SInv w w' (.slice A (putL out s).length c) (putL out s) ∧ Only [] wr w' := by
  obtain ⟨A, c, rfl, hr⟩ := h.shape
  exact ⟨A, c, rfl, hr, (rput_any s wr h.1 h.2.size hl hs).mono fun y w' hp => h.put hp⟩
/-- what Cycle has when k nodes are gone through -/
def cycN (l : List ND) (t : List Path) (k : Nat) : List Path := (((l.take k).filter (fun x => decide (x.path ∉ t))).map (·.path)).foldl putL []
theorem cycN_yes {t : List Path} (hk : l[k]? = some x) (h : x.path ∈ t) : cycN l t (k + 1) = cycN l t k := by
  unfold cycN
  rw [take_snoc hk, List.filter_append, List.filter_cons_of_neg (by simpa using h)]
  simp
theorem cycN_no {t : List Path} (hk : l[k]? = some x) (h : x.path ∉ t) : cycN l t (k + 1) = putL (cycN l t k) x.path := by
  unfold cycN
  rw [take_snoc hk, List.filter_append, List.filter_cons_of_pos (by simpa using h), List.map_append, List.foldl_append]
  rfl
theorem foldl_len : ∀ (xs o : List Path), (xs.foldl putL o).length ≤ o.length + xs.length
  | [], o => by simp
  | a :: t, o => by
    rw [List.foldl_cons]
    have := foldl_len t (putL o a)
    have := putL_len o a
    rw [List.length_cons]
    omega
theorem cycN_len {t : List Path} : (cycN l t k).length ≤ k := by
  have h := foldl_len (((l.take k).filter (fun x => decide (x.path ∉ t))).map (·.path)) []
  rw [List.length_map] at h
  have h2 := List.length_filter_le (fun x : ND => decide (x.path ∉ t)) (l.take k)
  rw [List.length_take] at h2
  unfold cycN
  simp only [List.length_nil] at h
  omega
theorem cyc_fin (h : (orderL (l.map ND.nd)).2 = 8) : cycN l (taken (l.map ND.nd)) l.length = cycL (l.map ND.nd) := by
  unfold cycL cycN
  rw [if_pos h, List.take_length, List.filter_map, List.map_map]
  rfl
theorem cyc_not (h : (orderL (l.map ND.nd)).2 ≠ 8) : cycL (l.map ND.nd) = [] := by
  unfold cycL
  rw [if_neg h]
set_option maxHeartbeats 16000000 in
theorem rcycle_any (A : Option Addr) (m c : Nat) (l : List ND) (w : World) (hr : Recs w w.heap.size 2 A m (l.map ND.row)) (hin : ∀ x ∈ l, x.in_ w w.heap.size) (hm : m ≤ 60) (hmc : m ≤ c) :
    Calls Try.prog 14 #[.slice A m c] w fun y w' => SetO w (cycL (l.map ND.nd)) y w' := by
  have HR := Lib.hid hr
  have HIN := Lib.hid hin
  have HL := Lib.hid (show l.length = m by have := hr.1; rwa [List.length_map] at this)
  have HOR := Lib.hid (rorder_any A m c l w hr hin hm hmc)
  clear hr hin
  go_enter Try.func14, Try.ntmps14
  go_wp2_with fail
  refine HOR.out.mono ?_
  rintro y w1 ⟨v1, rfl, hv1, ho1⟩
  obtain ⟨en, hen⟩ : ∃ en, (orderL (l.map ND.nd)).2 = en := ⟨_, rfl⟩
  rw [hen]
  by_cases h8 : en = 8
  · subst h8
    have HEN := Lib.hid hen
    have HF := Lib.hid (cyc_fin hen)
    have HO1 := Lib.hid ho1
    have HTK := Lib.hid (rtaken_any A m c l w1 ((HR.out.only ho1 (by simp)).more ho1.size) (fun x hx => (HIN.out x hx).only ho1 ho1.size) hm)
    obtain ⟨tk, htk⟩ : ∃ tk, taken (l.map ND.nd) = tk := ⟨_, rfl⟩
    rw [htk] at HTK HF
    have htl : tk.length ≤ 60 := by
      have := taken_len (l.map ND.nd)
      rw [htk, List.length_map, HL.out] at this
      omega
    clear hen hv1 ho1 htk HOR
    go_wp2_with fail
    refine HTK.out.mono ?_
    rintro y w2 ⟨v2, rfl, hv2, ho2⟩
    obtain ⟨A2, c2, e2, _, _, hr2, _⟩ := hv2.shape (by decide)
    subst e2
    have HO2 := Lib.hid (HO1.out.trans ho2 (by simp))
    have HR2 := Lib.hid hr2
    have HS0 : Hid (SInv w w2 (.slice none 0 0) []) := Lib.hid ⟨OwnR.nil_ _ _ _ _, HO2.out⟩
    clear hv2 ho2 hr2 HTK
    go_wp2_with fail
    go_loopw [6, 7] (fun v iv wr => ∃ k : Nat, iv = .int .i64 k ∧ k ≤ m ∧ SInv w wr v (cycN l tk k) ∧ Only [] w2 wr) (fun _ iv _ => m - (intOf iv).toNat)
    case atStart => exact ⟨0, rfl, by omega, HS0.out, Only.refl _ _⟩
    case round =>
      obtain ⟨k, rfl, hk, hsv, ho⟩ := hrel
      have hcl := cycN_len (l := l) (t := tk) (k := k)
      by_cases hlt : k < m
      · have d1 : decide ((k : Int) < (m : Int)) = true := decide_eq_true (by omega)
        obtain ⟨bb, off, rfl, _, x, hx, hxk, h0, _⟩ := nd_at HR.out k hlt
        have q0 := hsv.2.cell h0 (by simp)
        unfold sv at q0
        have hp300 := (HIN.out x hx).c.2.1
        obtain ⟨A3, c3, rfl, hr3, hput⟩ := hsv.can x.path hp300 (by omega)
        have hinc := rin_any A2 w2.heap.size tk.length c2 tk x.path wr (HR2.out.only ho (by simp)) (by omega)
        obtain ⟨bi, hbi⟩ : ∃ bi, decide (x.path ∈ tk) = bi := ⟨_, rfl⟩
        rw [hbi] at hinc
        have HINC := Lib.hid hinc
        have HPUT := Lib.hid hput
        have HBI := Lib.hid hbi
        have HXK := Lib.hid hxk
        have HSV := Lib.hid hsv
        have HO := Lib.hid ho
        clear hinc hput hbi hxk hsv ho h0 hr3 hx hp300
        cases bi
        · have HNX := Lib.hid (cycN_no HXK.out (of_decide_eq_false HBI.out))
          go_wp2_with (first
            | (go_at_call 31; refine HPUT.out.mono ?_; rintro y w5 ⟨A5, c5, rfl, hs5, ho5⟩; have HS5 := Lib.hid hs5; have HO5 := Lib.hid (HO.out.trans ho5 (by simp)); clear hs5 ho5)
            | (go_at_call 30; refine HINC.out.mono ?_; rintro y wn ⟨rfl, hwn⟩; have hwn := hwn.symm; subst hwn))
          go_roundw
          case measure => simp [intOf]; omega
          case rel => exact ⟨k + 1, by go_num, by omega, by rw [HNX.out]; exact HS5.out, HO5.out⟩
        · have HNX := Lib.hid (cycN_yes HXK.out (of_decide_eq_true HBI.out))
          go_wp2_with (go_at_call 30; refine HINC.out.mono ?_; rintro y wn ⟨rfl, hwn⟩; have hwn := hwn.symm; subst hwn)
          go_roundw
          case measure => simp [intOf]; omega
          case rel => exact ⟨k + 1, by go_num, by omega, by rw [HNX.out]; exact HSV.out, HO.out⟩
      · obtain rfl : k = m := by omega
        have d1 : decide ((k : Int) < (k : Int)) = false := decide_eq_false (by omega)
        obtain ⟨A3, c3, rfl, _⟩ := hsv.shape
        have hf := HF.out
        rw [HL.out] at hf
        rw [hf] at hsv hcl ⊢
        have HSV := Lib.hid hsv
        clear hsv hf ho
        go_wp2_with fail
        go_ret
        exact HSV.out.fin
  · have HF := Lib.hid (cyc_not (l := l) (by rw [hen]; exact h8))
    have hne : (en != 8) = true := by simpa using h8
    have HO1 := Lib.hid ho1
    clear hen hv1 ho1 HOR
    go_wp2_with fail
    go_ret
    rw [HF.out]
    exact ⟨_, rfl, OwnR.nil_ _ _ _ _, HO1.out⟩
end
end Go.Proofs.Ytdfiibnpckahnaa.Graph
