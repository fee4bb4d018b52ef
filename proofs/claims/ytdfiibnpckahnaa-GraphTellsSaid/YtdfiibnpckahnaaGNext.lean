/- Graph: has, imports, Contains; what Under and Over go by. -/
import Derived.Test.YtdfiibnpckahnaaGReach
import Derived.Test.YtdfiibnpckahnaaGL1
namespace Go.Proofs.Ytdfiibnpckahnaa.Graph
open Go.RowKit Go.Shelf Go.Maps
set_option linter.unusedVariables false
set_option maxRecDepth 100000
theorem reads_svs {w : World} {B n : Nat} {A : Option Addr} {l : List Path} (hl : l.length = n) (h : Reads w B 1 A n (l.map sv)) : Recs w B 1 A n (svs l) :=
  Reads.recs (by decide) (by unfold svs; rw [List.length_map]; exact hl) (by intro r hr; unfold svs at hr; obtain ⟨x, _, rfl⟩ := List.mem_map.1 hr; rfl) (by rw [svs_flat]; exact h)
theorem nxU_snoc (l : List Nd) (x : Nd) (s : Path) : nxU (l ++ [x]) s = nxU l s ++ (if x.path = s then x.imps else []) := by
  unfold nxU
  rw [List.filter_append, List.flatMap_append]
  congr 1
  by_cases e : x.path = s
  · rw [if_pos e, List.filter_cons_of_pos (by simpa using e)]; simp
  · rw [if_neg e, List.filter_cons_of_neg (by simpa using e)]; rfl
theorem nxO_snoc (l : List Nd) (x : Nd) (s : Path) : nxO (l ++ [x]) s = nxO l s ++ (if s ∈ x.imps then [x.path] else []) := by
  unfold nxO
  rw [List.filter_append, List.map_append]
  congr 1
  by_cases e : s ∈ x.imps
  · rw [if_pos e, List.filter_cons_of_pos (by simpa using e)]; rfl
  · rw [if_neg e, List.filter_cons_of_neg (by simpa using e)]; rfl
theorem take_nd {l : List ND} {k : Nat} {x : ND} (hk : l[k]? = some x) : (l.take (k + 1)).map ND.nd = (l.take k).map ND.nd ++ [x.nd] := by
  rw [take_snoc hk, List.map_append]; rfl
theorem nxU_len {l : List Nd} {s : Path} (h : ∀ x ∈ l, x.imps.length ≤ 40) : (nxU l s).length ≤ 40 * l.length := by
  induction l with
  | nil => simp [nxU]
  | cons x t ih =>
    have h1 : nxU (x :: t) s = (if x.path = s then x.imps else []) ++ nxU t s := by
      unfold nxU
      by_cases e : x.path = s
      · rw [if_pos e, List.filter_cons_of_pos (by simpa using e)]; rfl
      · rw [if_neg e, List.filter_cons_of_neg (by simpa using e)]; rfl
    have h2 := ih (fun y hy => h y (List.mem_cons_of_mem _ hy))
    have h3 := h x (List.mem_cons_self ..)
    rw [h1, List.length_append, List.length_cons]
    split <;> simp <;> omega
theorem nxO_len (l : List Nd) (s : Path) : (nxO l s).length ≤ l.length := by unfold nxO; rw [List.length_map]; exact List.length_filter_le _ _
section
variable {w w' : World}
theorem has1_any {w : World} {q : Nat} {path : Path} (hb : w.cell? ⟨q, 0, none⟩ = some (.string (str path))) (x : ND) :
    Calls Try.prog 49 #[x.val, .pointer (some ⟨q, 0, none⟩)] w fun y w' => y = .returned (.bool (decide (x.path = path))) ∧ Only [] w w' := by
  unfold ND.val
  have ho1 := (Only.refl [] w).alloc (.cells #[.string (str x.path), .slice x.IA x.imps.length x.Ic] 43)
  have f1 := ho1.cell hb (by simp)
  have hbn := Blk.new w 43 #[.string (str x.path), .slice x.IA x.imps.length x.Ic]
  have z0 := hbn.cell 0
  have he := str_eqb x.path path
  generalize decide (x.path = path) = d at *
  have HO1 := Lib.hid ho1
  clear ho1 hbn hb
  go_enter Try.func49, Try.ntmps49
  go_upto_region 1 with fail
  generalize w.alloc (.cells #[.string (str x.path), .slice x.IA x.imps.length x.Ic] 43) = w1 at *
  go_wp2_with fail
  go_ret
  exact ⟨rfl, HO1.out⟩
set_option maxHeartbeats 4000000 in
theorem hsn_index {w : World} {A : Option Addr} {n c : Nat} {q : Nat} (xs : List ND) (p : ND → Bool) (hr : Recs w w.heap.size 2 A n (xs.map ND.row)) (hn : n ≤ 1000000) (HP : ∀ wr, Only [] w wr → ∀ a ∈ xs, Calls Try.prog 49 #[a.val, .pointer (some ⟨q, 0, none⟩)] wr fun y w' => y = .returned (.bool (p a)) ∧ Only [] wr w') :
    Calls Try.prog 38 #[.slice A n c, .func (.func 49) #[] #[.pointer (some ⟨q, 0, none⟩)]] w fun y w' => ∃ r : Int, y = .returned (.int .i64 r) ∧ decide (0 ≤ r) = xs.any p ∧ Only [] w w' := by
  have hl : xs.length = n := by have := hr.1; simpa using this
  have HL := Lib.hid hl
  have HR := Lib.hid hr
  have HPC := Lib.hid HP
  clear hr hl HP
  go_enter Try.func38, Try.ntmps38
  go_wp2_with fail
  go_loopw [8] (fun i wr => ∃ j : Nat, j ≤ n ∧ i = .int .i64 j ∧ Only [] w wr ∧ (xs.take j).any p = false) (fun i _ => n - (Go.RowKit.intOf i).toNat)
  case atStart => exact ⟨0, by omega, rfl, Only.refl _ _, by simp⟩
  case round =>
    obtain ⟨j, hj, rfl, ho, hne⟩ := hrel
    by_cases hlt : j < n
    · have d1 : decide ((j : Int) < (n : Int)) = true := decide_eq_true (by omega)
      have hlt2 : j < xs.length := by rw [HL.out]; exact hlt
      obtain ⟨b, off, rfl, _, a, _, haj, h0, h1⟩ := nd_at HR.out j hlt
      have q0 := ho.cell h0 (by simp)
      have q1 := ho.cell h1 (by simp)
      unfold sv at q0
      clear h0 h1
      have HC := Lib.hid (HPC.out wr ho a (List.mem_of_getElem? haj))
      have HAJ := Lib.hid haj
      have HNE := Lib.hid hne
      have HO := Lib.hid ho
      clear haj hne ho
      obtain ⟨pb, hpb⟩ : ∃ pb, p a = pb := ⟨_, rfl⟩
      rw [hpb] at HC
      have HPB := Lib.hid hpb
      clear hpb
      cases pb
      · go_wp2_with (go_at_call 49; refine HC.out.mono ?_; rintro y w2 ⟨rfl, ho2⟩; have HO2 := Lib.hid (HO.out.trans ho2 (by simp)); clear ho2)
        go_roundw
        case measure => simp [Go.RowKit.intOf]; omega
        case rel => exact ⟨j + 1, by omega, by go_num, HO2.out, none_take HAJ.out HPB.out HNE.out⟩
      · go_wp2_with (go_at_call 49; refine HC.out.mono ?_; rintro y w2 ⟨rfl, ho2⟩; have HO2 := Lib.hid (HO.out.trans ho2 (by simp)); clear ho2)
        go_ret
        exact ⟨(j : Int), rfl, by rw [any_take HAJ.out HPB.out]; exact decide_eq_true (by omega), HO2.out⟩
    · obtain rfl : j = n := by omega
      have d1 : decide ((j : Int) < (j : Int)) = false := decide_eq_false (by omega)
      rw [List.take_of_length_le (by rw [HL.out]; exact Nat.le_refl _)] at hne
      have HNE := Lib.hid hne
      clear hne
      go_wp2_with fail
      go_ret
      exact ⟨-1, rfl, by rw [HNE.out]; rfl, ho⟩
theorem hsn_contains {w : World} {A : Option Addr} {n c : Nat} {q : Nat} (xs : List ND) (p : ND → Bool) (hr : Recs w w.heap.size 2 A n (xs.map ND.row)) (hn : n ≤ 1000000) (HP : ∀ wr, Only [] w wr → ∀ a ∈ xs, Calls Try.prog 49 #[a.val, .pointer (some ⟨q, 0, none⟩)] wr fun y w' => y = .returned (.bool (p a)) ∧ Only [] wr w') :
    Calls Try.prog 21 #[.slice A n c, .func (.func 49) #[] #[.pointer (some ⟨q, 0, none⟩)]] w fun y w' => y = .returned (.bool (xs.any p)) ∧ Only [] w w' := by
  have HI := Lib.hid (hsn_index (A := A) (n := n) (c := c) (q := q) xs p hr hn HP)
  clear hr HP
  go_enter Try.func21, Try.ntmps21
  go_wp2_with (go_at_call 38; refine HI.out.mono ?_; rintro y w2 ⟨r, rfl, hr, ho2⟩; have HO2 := Lib.hid ho2; have HD := Lib.hid hr; clear ho2 hr)
  go_ret
  refine ⟨?_, HO2.out⟩
  rw [← HD.out]
  rfl
theorem has_any (A : Option Addr) (m c0 : Nat) (l : List ND) (path : Path) (w : World) (hr : Recs w w.heap.size 2 A m (l.map ND.row)) (hm : m ≤ 60) :
    Calls Try.prog 32 #[.slice A m c0, .string (str path)] w fun y w' => y = .returned (.bool (l.any (fun x => decide (x.path = path)))) ∧ Only [] w w' := by
  obtain ⟨w1, hw1⟩ : ∃ w1, w.alloc (.cells #[.string (str path)] 9) = w1 := ⟨_, rfl⟩
  have hb1 : Blk w1 w.heap.size 9 #[.string (str path)] := by rw [← hw1]; exact Blk.new w _ _
  have ho1 : Only [] w w1 := by rw [← hw1]; exact (Only.refl [] w).alloc _
  have HC := Lib.hid (hsn_contains (w := w1) (A := A) (n := m) (c := c0) (q := w.heap.size) l (fun x => decide (x.path = path)) ((hr.only ho1 (by simp)).more ho1.size) (by omega) (fun wr ho x hx => has1_any (ho.cell (hb1.cell 0) (by simp)) x))
  have HO1 := Lib.hid ho1
  clear hb1 ho1 hr
  go_enter Try.func32, Try.ntmps32
  go_upto_region 1 with fail
  try rw [hw1]
  clear hw1
  go_wp2_with fail
  refine HC.out.mono ?_
  rintro y w2 ⟨rfl, ho2⟩
  have HO2 := Lib.hid (HO1.out.trans ho2 (by simp))
  clear ho2
  go_wp2_with fail
  go_ret
  exact ⟨rfl, HO2.out⟩
set_option maxHeartbeats 4000000 in
theorem imports_any (A : Option Addr) (m c0 : Nat) (l : List ND) (s : Path) (w : World) (hr : Recs w w.heap.size 2 A m (l.map ND.row)) (hin : ∀ x ∈ l, x.in_ w w.heap.size) (hm : m ≤ 60) :
    Calls Try.prog 35 #[.slice A m c0, .string (str s)] w fun y w' => ∃ v, y = .returned v ∧ OwnR 9 1 w' w.heap.size v (nxU (l.map ND.nd) s).length (svs (nxU (l.map ND.nd) s)) ∧ Only [] w w' := by
  have HR := Lib.hid hr
  have HIN := Lib.hid hin
  have HL := Lib.hid (show l.length = m by have := hr.1; rwa [List.length_map] at this)
  have HV0 := Lib.hid (OwnR.nil_ 9 1 w w.heap.size)
  obtain ⟨ti, hti, htz, hi2, hi3⟩ := info_parts str_inf
  have HTI := Lib.hid (And.intro hti (And.intro htz (And.intro hi2 hi3)))
  clear hr hin hti htz hi2 hi3
  go_enter Try.func35, Try.ntmps35
  go_wp2_with fail
  go_loopw [5, 10] (fun v i wr => ∃ k : Nat, i = .int .i64 k ∧ k ≤ m ∧ OwnR 9 1 wr w.heap.size v (nxU ((l.take k).map ND.nd) s).length (svs (nxU ((l.take k).map ND.nd) s)) ∧ Only [] w wr) (fun _ i _ => m - (intOf i).toNat)
  case atStart => exact ⟨0, rfl, by omega, HV0.out, Only.refl _ _⟩
  case round =>
    obtain ⟨k, rfl, hk, hv, ho⟩ := hrel
    clear HV0
    obtain ⟨nk, hnk⟩ : ∃ nk, (nxU ((l.take k).map ND.nd) s).length = nk := ⟨_, rfl⟩
    rw [hnk] at hv
    have HNK := Lib.hid hnk
    clear hnk
    obtain ⟨A3, c3, e3, _⟩ := hv.shape (by decide)
    subst e3
    have HV := Lib.hid hv
    have HO := Lib.hid ho
    clear hv ho
    by_cases hlt : k < m
    · have d1 : decide ((k : Int) < (m : Int)) = true := decide_eq_true (by omega)
      have d1' : decide (k < m) = true := decide_eq_true hlt
      obtain ⟨b, off, rfl, _, x, hx, hxk, h0, h1⟩ := nd_at HR.out k hlt
      have q0 := HO.out.cell h0 (by simp)
      have q1 := HO.out.cell h1 (by simp)
      unfold sv at q0
      have hsz := HO.out.size
      have HXK := Lib.hid hxk
      obtain ⟨wn, hwn⟩ : ∃ wn, wr.alloc (.cells #[.string (str x.path), .slice x.IA x.imps.length x.Ic] 43) = wn := ⟨_, rfl⟩
      have hon : Only [] wr wn := by rw [← hwn]; exact (Only.refl [] wr).alloc _
      have hbn : Blk wn wr.heap.size 43 #[.string (str x.path), .slice x.IA x.imps.length x.Ic] := by rw [← hwn]; exact Blk.new wr _ _
      have z0 := hbn.cell 0
      have z1 := hbn.cell 1
      have HON := Lib.hid (HO.out.trans hon (by simp))
      have HVN := Lib.hid (HV.out.only hon (by simp))
      have hi40 := (HIN.out x hx).c.1
      have HRI := Lib.hid (reads_svs rfl ((HIN.out x hx).r.only HON.out (by simp)))
      have hlen : nk ≤ 40 * 60 := by
        rw [← HNK.out]
        refine Nat.le_trans (nxU_len (fun y hy => ?_)) ?_
        · obtain ⟨z, hz, rfl⟩ := List.mem_map.1 hy
          exact (HIN.out z (List.mem_of_mem_take hz)).c.1
        · rw [List.length_map, List.length_take]; omega
      have HSZ := Lib.hid hon.size
      clear h0 h1 hxk hx hon hbn
      by_cases he : x.path = s
      · have e5 : ((str x.path).toList == (str s).toList) = true := by rw [str_eqb]; exact decide_eq_true he
        have HE := Lib.hid he
        clear he
        go_upto_region 5 with fail
        try rw [hwn]
        clear hwn
        go_wp2_with (at_builtin; refine wpList_append_rec (w := wn) rfl (.tmp 18) (.tmp 20) 25 rfl Try.underlying25 HTI.out.1 HTI.out.2.1 HTI.out.2.2.1 HTI.out.2.2.2 (by decide) (by decide) rfl HVN.out rfl HRI.out (by intro r hr; unfold svs at hr; obtain ⟨y, _, rfl⟩ := List.mem_map.1 hr; rfl) (by intro r hr u hu; unfold svs at hr; obtain ⟨y, _, rfl⟩ := List.mem_map.1 hr; rw [List.mem_singleton.1 hu]; rfl) (by omega) (by unfold maxLen; omega) (Nat.le_trans hsz HSZ.out) ?_; intro v' w5 hE; have HEX := Lib.hid hE; clear hE)
        have HO5 := Lib.hid (HON.out.trans HEX.out.only (fun q hq => .inr (HVN.out.lt q hq).1))
        have HF : Hid (OwnR 9 1 w5 w.heap.size v' (nxU ((l.take (k + 1)).map ND.nd) s).length (svs (nxU ((l.take (k + 1)).map ND.nd) s))) := Lib.hid (by
          have h := HEX.out.own
          rw [take_nd HXK.out, nxU_snoc, if_pos (show x.nd.path = s from HE.out), List.length_append, HNK.out]
          have h2 : svs (nxU ((l.take k).map ND.nd) s ++ x.nd.imps) = svs (nxU ((l.take k).map ND.nd) s) ++ svs x.imps := by unfold svs; rw [List.map_append]; rfl
          rw [h2]
          exact h)
        go_roundw
        case measure => simp [intOf]; omega
        case rel => exact ⟨k + 1, by go_num, by omega, HF.out, HO5.out⟩
      · have e5 : ((str x.path).toList == (str s).toList) = false := by rw [str_eqb]; exact decide_eq_false he
        have HF : Hid (OwnR 9 1 wn w.heap.size (.slice A3 nk c3) (nxU ((l.take (k + 1)).map ND.nd) s).length (svs (nxU ((l.take (k + 1)).map ND.nd) s))) := Lib.hid (by
          rw [take_nd HXK.out, nxU_snoc, if_neg (by exact he), List.append_nil, HNK.out]
          exact HVN.out)
        clear he
        go_upto_region 5 with fail
        try rw [hwn]
        clear hwn
        go_wp2_with fail
        go_roundw
        case measure => simp [intOf]; omega
        case rel => exact ⟨k + 1, by go_num, by omega, HF.out, HON.out⟩
    · obtain rfl : m = k := by omega
      have d1 : decide ((m : Int) < (m : Int)) = false := decide_eq_false (by omega)
      have hv := HV.out
      rw [List.take_of_length_le (by rw [HL.out]; exact Nat.le_refl _)] at hv
      have HV2 := Lib.hid hv
      have hnk := HNK.out
      rw [List.take_of_length_le (by rw [HL.out]; exact Nat.le_refl _)] at hnk
      have HL2 := Lib.hid hnk.symm
      clear hv hnk
      go_wp2_with fail
      go_ret
      refine ⟨.slice A3 nk c3, rfl, ?_, HO.out⟩
      rw [← HL2.out]
      exact HV2.out
set_option maxHeartbeats 4000000 in
theorem index_any (A : Option Addr) (n c : Nat) (l : List Path) (s : Path) (w : World) (h : Recs w w.heap.size 1 A n (svs l)) (hn : n ≤ 1000000) :
    Calls Try.prog 52 #[.slice A n c, .string (str s)] w fun y w' => ∃ r : Int, y = .returned (.int .i64 r) ∧ decide (0 ≤ r) = decide (s ∈ l) ∧ w' = w := by
  have hl : l.length = n := by have := h.1; simpa [svs] using this
  have H := Lib.hid h
  have L := Lib.hid hl
  clear h hl
  go_enter Try.func52, Try.ntmps52
  go_wp2_with fail
  go_loopw [8] (fun i wr => ∃ k : Nat, i = .int .i64 k ∧ k ≤ n ∧ s ∉ l.take k ∧ wr = w) (fun i _ => n - (intOf i).toNat)
  case atStart => exact ⟨0, rfl, by omega, by simp, rfl⟩
  case round =>
    obtain ⟨k, rfl, hk, hnm, rfl⟩ := hrel
    have HN := Lib.hid hnm
    clear hnm
    by_cases hlt : k < n
    · have d1 : decide ((k : Int) < (n : Int)) = true := decide_eq_true (by omega)
      obtain ⟨b, o, rfl, _, hc⟩ := H.out.at_ [] hlt
      have q := hc 0 (by decide)
      simp only [Nat.mul_one, Nat.add_zero, sv] at q
      obtain ⟨t, ht⟩ : ∃ s, l.getD k [] = s := ⟨_, rfl⟩
      rw [ht] at q
      have g : l[k]? = some t := by rw [← ht, List.getD_eq_getElem?_getD, List.getElem?_eq_getElem (by rw [L.out]; exact hlt)]; rfl
      have G := Lib.hid g
      clear hc ht g
      by_cases he : t = s
      · subst he
        have e5 : ((str t).toList == (str t).toList) = true := by simp
        go_wp2_with fail
        go_ret
        exact ⟨(k : Int), rfl, by rw [decide_eq_true (List.mem_of_getElem? G.out)]; exact decide_eq_true (by omega), rfl⟩
      · have e5 : ((str s).toList == (str t).toList) = false := by rw [str_eqb]; exact decide_eq_false (fun h => he h.symm)
        have HE := Lib.hid he
        clear he
        go_wp2_with fail
        go_roundw
        case measure => simp [intOf]; omega
        case rel =>
          refine ⟨k + 1, by go_num, by omega, ?_, trivial⟩
          rw [take_snoc G.out]
          intro hm
          rcases List.mem_append.1 hm with h | h
          · exact HN.out h
          · exact HE.out (List.mem_singleton.1 h).symm
    · obtain rfl : n = k := by omega
      have d1 : decide ((n : Int) < (n : Int)) = false := decide_eq_false (by omega)
      have hnm := HN.out
      rw [List.take_of_length_le (by rw [L.out]; exact Nat.le_refl _)] at hnm
      have HN2 := Lib.hid hnm
      clear hnm
      go_wp2_with fail
      go_ret
      exact ⟨-1, rfl, by rw [decide_eq_false HN2.out]; rfl, rfl⟩
theorem containsS_any (A : Option Addr) (n c : Nat) (l : List Path) (s : Path) (w : World) (h : Recs w w.heap.size 1 A n (svs l)) (hn : n ≤ 1000000) :
    Calls Try.prog 37 #[.slice A n c, .string (str s)] w fun y w' => y = .returned (.bool (decide (s ∈ l))) ∧ w' = w := by
  have HI := Lib.hid (index_any A n c l s w h hn)
  clear h
  go_enter Try.func37, Try.ntmps37
  go_wp2_with (go_at_call 52; refine HI.out.mono ?_; rintro y w2 ⟨r, rfl, hr, hw⟩; have HD := Lib.hid hr; have hw := hw.symm; subst hw; clear hr)
  go_ret
  refine ⟨?_, rfl⟩
  rw [← HD.out]
  rfl
theorem under1_any (A : Option Addr) (m c0 lb : Nat) (l : List ND) (s : Path) (w : World) (hb : w.cell? ⟨lb, 0, none⟩ = some (.slice A m c0)) (hr : Recs w w.heap.size 2 A m (l.map ND.row)) (hin : ∀ x ∈ l, x.in_ w w.heap.size) (hm : m ≤ 60) :
    Calls Try.prog 34 #[.string (str s), .pointer (some ⟨lb, 0, none⟩)] w fun y w' => ∃ v, y = .returned v ∧ OwnR 9 1 w' w.heap.size v (nxU (l.map ND.nd) s).length (svs (nxU (l.map ND.nd) s)) ∧ Only [] w w' := by
  have HI := Lib.hid (imports_any A m c0 l s w hr hin hm)
  clear hr hin
  go_enter Try.func34, Try.ntmps34
  go_wp2_with fail
  refine HI.out.mono ?_
  rintro y w2 ⟨v, rfl, hown, ho⟩
  have HP := Lib.hid (And.intro hown ho)
  clear hown ho
  go_wp2_with fail
  go_ret
  exact ⟨_, rfl, HP.out.1, HP.out.2⟩
set_option maxHeartbeats 4000000 in
theorem over1_any (A : Option Addr) (m c0 lb : Nat) (l : List ND) (s : Path) (w : World) (hb : w.cell? ⟨lb, 0, none⟩ = some (.slice A m c0)) (hr : Recs w w.heap.size 2 A m (l.map ND.row)) (hin : ∀ x ∈ l, x.in_ w w.heap.size) (hm : m ≤ 60) :
    Calls Try.prog 36 #[.string (str s), .pointer (some ⟨lb, 0, none⟩)] w fun y w' => ∃ v, y = .returned v ∧ OwnR 9 1 w' w.heap.size v (nxO (l.map ND.nd) s).length (svs (nxO (l.map ND.nd) s)) ∧ Only [] w w' := by
  have HR := Lib.hid hr
  have HIN := Lib.hid hin
  have HL := Lib.hid (show l.length = m by have := hr.1; rwa [List.length_map] at this)
  have HV0 := Lib.hid (OwnR.nil_ 9 1 w w.heap.size)
  clear hr hin
  go_enter Try.func36, Try.ntmps36
  go_wp2_with fail
  go_loopw [4, 9] (fun v i wr => ∃ k : Nat, i = .int .i64 k ∧ k ≤ m ∧ OwnR 9 1 wr w.heap.size v (nxO ((l.take k).map ND.nd) s).length (svs (nxO ((l.take k).map ND.nd) s)) ∧ Only [] w wr) (fun _ i _ => m - (intOf i).toNat)
  case atStart => exact ⟨0, rfl, by omega, HV0.out, Only.refl _ _⟩
  case round =>
    obtain ⟨k, rfl, hk, hv, ho⟩ := hrel
    clear HV0
    obtain ⟨nk, hnk⟩ : ∃ nk, (nxO ((l.take k).map ND.nd) s).length = nk := ⟨_, rfl⟩
    rw [hnk] at hv
    have HNK := Lib.hid hnk
    clear hnk
    obtain ⟨A3, c3, e3, _⟩ := hv.shape (by decide)
    subst e3
    have HV := Lib.hid hv
    have HO := Lib.hid ho
    clear hv ho hb
    by_cases hlt : k < m
    · have d1 : decide ((k : Int) < (m : Int)) = true := decide_eq_true (by omega)
      have d1' : decide (k < m) = true := decide_eq_true hlt
      obtain ⟨b, off, rfl, _, x, hx, hxk, h0, h1⟩ := nd_at HR.out k hlt
      have q0 := HO.out.cell h0 (by simp)
      have q1 := HO.out.cell h1 (by simp)
      unfold sv at q0
      have hsz := HO.out.size
      have HXK := Lib.hid hxk
      obtain ⟨wn, hwn⟩ : ∃ wn, wr.alloc (.cells #[.string (str x.path), .slice x.IA x.imps.length x.Ic] 43) = wn := ⟨_, rfl⟩
      have hon : Only [] wr wn := by rw [← hwn]; exact (Only.refl [] wr).alloc _
      have hbn : Blk wn wr.heap.size 43 #[.string (str x.path), .slice x.IA x.imps.length x.Ic] := by rw [← hwn]; exact Blk.new wr _ _
      have z0 := hbn.cell 0
      have z1 := hbn.cell 1
      have HON := Lib.hid (HO.out.trans hon (by simp))
      have HVN := Lib.hid (HV.out.only hon (by simp))
      have hi40 := (HIN.out x hx).c.1
      have HC := Lib.hid (containsS_any x.IA x.imps.length x.Ic x.imps s wn ((reads_svs rfl ((HIN.out x hx).r.only HON.out (by simp))).more HON.out.size) (by omega))
      have hlen : nk ≤ 60 := by
        rw [← HNK.out]
        refine Nat.le_trans (nxO_len _ _) ?_
        rw [List.length_map, List.length_take]; omega
      have HSZ := Lib.hid hon.size
      clear h0 h1 hxk hx hon hbn
      by_cases he : s ∈ x.imps
      · have HE := Lib.hid he
        rw [decide_eq_true he] at HC
        clear he
        go_upto_region 5 with fail
        try rw [hwn]
        clear hwn
        go_wp2_with (first
          | (go_at_call 37; refine HC.out.mono ?_; rintro y w3 ⟨rfl, hw⟩; have hw := hw.symm; subst hw)
          | (at_builtin; refine wpList_append1 (w := wn) rfl (.tmp 17) (.tmp 20) 25 rfl Try.underlying25 str_inf rfl (by decide) rfl HVN.out rfl rfl (row := [.string (str x.path)]) rfl rfl (by intro u hu; rw [List.mem_singleton.1 hu]; rfl) (by omega) (by unfold maxLen; omega) (by have := HSZ.out; omega) ?_; intro v' w5 hE; have HEX := Lib.hid hE; clear hE))
        have HO5 := Lib.hid (HON.out.trans HEX.out.only (fun q hq => .inr (HVN.out.lt q hq).1))
        have HF : Hid (OwnR 9 1 w5 w.heap.size v' (nxO ((l.take (k + 1)).map ND.nd) s).length (svs (nxO ((l.take (k + 1)).map ND.nd) s))) := Lib.hid (by
          have h := HEX.out.own
          rw [take_nd HXK.out, nxO_snoc, if_pos (show s ∈ x.nd.imps from HE.out), List.length_append, HNK.out]
          have h2 : svs (nxO ((l.take k).map ND.nd) s ++ [x.nd.path]) = svs (nxO ((l.take k).map ND.nd) s) ++ [[sv x.path]] := by unfold svs; rw [List.map_append]; rfl
          rw [h2]
          exact h)
        go_roundw
        case measure => simp [intOf]; omega
        case rel => exact ⟨k + 1, by go_num, by omega, HF.out, HO5.out⟩
      · have HF : Hid (OwnR 9 1 wn w.heap.size (.slice A3 nk c3) (nxO ((l.take (k + 1)).map ND.nd) s).length (svs (nxO ((l.take (k + 1)).map ND.nd) s))) := Lib.hid (by
          rw [take_nd HXK.out, nxO_snoc, if_neg (by exact he), List.append_nil, HNK.out]
          exact HVN.out)
        rw [decide_eq_false he] at HC
        clear he
        go_upto_region 5 with fail
        try rw [hwn]
        clear hwn
        go_wp2_with (go_at_call 37; refine HC.out.mono ?_; rintro y w3 ⟨rfl, hw⟩; have hw := hw.symm; subst hw)
        go_roundw
        case measure => simp [intOf]; omega
        case rel => exact ⟨k + 1, by go_num, by omega, HF.out, HON.out⟩
    · obtain rfl : m = k := by omega
      have d1 : decide ((m : Int) < (m : Int)) = false := decide_eq_false (by omega)
      have hv := HV.out
      rw [List.take_of_length_le (by rw [HL.out]; exact Nat.le_refl _)] at hv
      have HV2 := Lib.hid hv
      have hnk := HNK.out
      rw [List.take_of_length_le (by rw [HL.out]; exact Nat.le_refl _)] at hnk
      have HL2 := Lib.hid hnk.symm
      clear hv hnk
      go_wp2_with fail
      go_ret
      refine ⟨.slice A3 nk c3, rfl, ?_, HO.out⟩
      rw [← HL2.out]
      exact HV2.out
end
end Go.Proofs.Ytdfiibnpckahnaa.Graph
