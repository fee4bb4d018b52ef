/- graph.count, walked. PRINTED by wip/gen_gcnt2.py. -/
import Derived.Test.YtdfiibnpckahnaaGNd
import Derived.Test.YtdfiibnpckahnaaRow
namespace Go.Proofs.Ytdfiibnpckahnaa.Graph
open Go.RowKit Go.Shelf Go.Maps
set_option linter.unusedVariables false
set_option maxRecDepth 100000
/-- what count leaves -/
def CountO (w : World) (l : List Nd) (y : Ending) (w' : World) : Prop := ∃ c lb bb nl nb v T hs, y = .returned (.pointer (some ⟨c, 0, none⟩)) ∧ CT w' c lb bb w.heap.size nl nb v T (cntF l) (byL l impL) hs ∧ hs.Perm (freeL l) ∧ Only [] w w' ∧ nl ≤ 60
/-- the inner loop -/
def InC (w wr : World) (c lb bb nl nx k : Nat) (v : Value) (f : Path → Option Nat) (L : List Nd) (x : ND) (hs : List Path) (A6 : Option Addr) (n6 c6 j : Nat) (T : List Nat) (nb : Nat) : Prop :=
  j ≤ n6 ∧ CT wr c lb bb lb nl nb v T f (byI L x.nd ((impL x.nd).take j)) hs ∧ Blk wr nx 43 #[.string (str x.path), .slice x.IA x.imps.length x.Ic] ∧ OwnR 9 1 wr 0 (.slice A6 n6 c6) n6 (svs (impL x.nd)) ∧ (∀ q ∈ ownL (.slice A6 n6 c6), q ∉ lb :: bb :: c :: nx :: ownL v ∧ q ∉ T) ∧ (nx ≠ lb ∧ nx ≠ bb ∧ nx ≠ c ∧ nx ∉ ownL v ∧ nx ∉ T) ∧ nb ≤ 41 * k + j ∧ Only [] w wr
section
variable {w w' : World}
theorem made_ct (w : World) : CT (((w.alloc (.map #[] 0)).alloc (.map #[] 0)).alloc (.cells #[.map (some w.heap.size), .map (some (w.heap.size + 1)), .slice none 0 0] 63)) (w.heap.size + 1 + 1) w.heap.size (w.heap.size + 1) w.heap.size 0 0 (.slice none 0 0) [] (cntF []) (byL [] impL) [] := by
  have s1 := World.size_alloc w (.map #[] 0)
  have s2 := World.size_alloc (w.alloc (.map #[] 0)) (.map #[] 0)
  have hb := Blk.new ((w.alloc (.map #[] 0)).alloc (.map #[] 0)) 63 #[.map (some w.heap.size), .map (some (w.heap.size + 1)), .slice none 0 0]
  rw [s2, s1] at hb
  have hby := (IsBy.made (base := w.heap.size) (w.alloc (.map #[] 0))).only0 ((Only.refl [] _).alloc (.cells #[.map (some w.heap.size), .map (some (w.heap.size + 1)), .slice none 0 0] 63))
  rw [s1] at hby
  refine ⟨⟨hb, OwnR.nil_ _ _ _ _, by simp [ownL, Value.ownBlock], by decide⟩, heap_nil, ⟨_, ((VM.made w _ _).alloc _).alloc _, fun p => rfl⟩, ?_, by omega, ⟨by simp, by simp, by simp, by simp [ownL, Value.ownBlock]⟩, by omega, by omega, by omega, by rw [World.size_alloc, s2, s1]; omega⟩
  exact hby
set_option maxHeartbeats 16000000 in
theorem count_any (A : Option Addr) (m c0 : Nat) (l : List ND) (w : World) (hr : Recs w w.heap.size 2 A m (l.map ND.row)) (hin : ∀ x ∈ l, x.in_ w w.heap.size) (hm : m ≤ 60) (hnd : (l.map (·.path)).Nodup) :
    Calls Try.prog 24 #[.slice A m c0] w fun y w' => CountO w (l.map ND.nd) y w' := by
  have HR := Lib.hid hr
  have HIN := Lib.hid hin
  have HND := Lib.hid hnd
  have HL := Lib.hid (show l.length = m by have := hr.1; rwa [List.length_map] at this)
  have hmm := @run_makeMap Try.prog
  have HCT0 := Lib.hid (made_ct w)
  have HO0 := Lib.hid ((((Only.refl [] w).alloc (.map #[] 0)).alloc (.map #[] 0)).alloc (.cells #[.map (some w.heap.size), .map (some (w.heap.size + 1)), .slice none 0 0] 63))
  clear hr hin hnd
  go_enter Try.func24, Try.ntmps24
  go_upto_region 2 with fail
  generalize ((w.alloc (.map #[] 0)).alloc (.map #[] 0)).alloc (.cells #[.map (some w.heap.size), .map (some (w.heap.size + 1)), .slice none 0 0] 63) = w1 at *
  generalize hc : w.heap.size + 1 + 1 = c at *
  generalize hbb : w.heap.size + 1 = bb at *
  generalize hlb : w.heap.size = lb at *
  have HLB := Lib.hid hlb
  clear hc hbb hlb hmm
  go_wp2_with fail
  go_loopw [15] (fun i wr => ∃ (k : Nat) (v : Value) (T : List Nat) (hs : List Path) (nl nb : Nat), i = .int .i64 k ∧ k ≤ m ∧ CT wr c lb bb lb nl nb v T (cntF ((l.take k).map ND.nd)) (byL ((l.take k).map ND.nd) impL) hs ∧ hs.Perm (freeL ((l.take k).map ND.nd)) ∧ nl ≤ k ∧ nb ≤ 41 * k ∧ Only [] w wr) (fun i _ => m - (intOf i).toNat)
  case atStart => exact ⟨0, _, _, _, 0, 0, rfl, by omega, HCT0.out, List.Perm.refl _, by omega, by omega, HO0.out⟩
  case round =>
    obtain ⟨k, v, T, hs, nl, nb, rfl, hkm, hct, hpm, hnl, hnb, ho⟩ := hrel
    have HCT := Lib.hid hct
    have HPM := Lib.hid hpm
    have HO := Lib.hid ho
    clear HCT0 HO0 hct hpm ho
    by_cases hlt : k < m
    · have d1 : decide ((k : Int) < (m : Int)) = true := decide_eq_true (by omega)
      have d1' : decide (k < m) = true := decide_eq_true hlt
      obtain ⟨b, off, hA, hbl, x, hx, hxk, c0', c1'⟩ := nd_at HR.out k hlt
      subst hA
      have hix := HIN.out x hx
      have y0 := HO.out.cell c0' (by simp)
      have y1 := HO.out.cell c1' (by simp)
      unfold sv at y0
      obtain ⟨hi40, hp300, hi300⟩ := hix.c
      have hws := HO.out.size
      -- the node's own box, then its imports
      obtain ⟨wn, hwn⟩ : ∃ wn, wr.alloc (.cells #[.string (str x.path), .slice x.IA x.imps.length x.Ic] 43) = wn := ⟨_, rfl⟩
      have hon : Only [] wr wn := by rw [← hwn]; exact (Only.refl [] wr).alloc _
      have hbn : Blk wn wr.heap.size 43 #[.string (str x.path), .slice x.IA x.imps.length x.Ic] := by rw [← hwn]; exact Blk.new wr _ _
      have hsn : wn.heap.size = wr.heap.size + 1 := by rw [← hwn]; exact World.size_alloc _ _
      have HVA := Lib.hid (values_any x.IA x.imps.length x.Ic wn)
      have hrd : RdP (wn.alloc (.cells #[.slice x.IA x.imps.length x.Ic] 25)) wn.heap.size x.IA x.imps.length x.Ic lb x.imps := ⟨Blk.new wn _ _, ((hix.r.only HO.out (by simp)).only hon (by simp)).only ((Only.refl [] wn).alloc _) (by simp)⟩
      have HSO := Lib.hid (sorted_any wn.heap.size x.IA x.imps.length x.Ic lb x.imps _ hrd rfl (by omega) (by rw [World.size_alloc, hsn]; have := HCT.out.lo.2.2.2; omega))
      unfold valF at HSO
      have ho2 : Only [] wr (wn.alloc (.cells #[.slice x.IA x.imps.length x.Ic] 25)) := hon.alloc _
      have HBN := Lib.hid (hbn.alloc (.cells #[.slice x.IA x.imps.length x.Ic] 25))
      have HS2 := Lib.hid (show wr.heap.size + 1 < (wn.alloc (.cells #[.slice x.IA x.imps.length x.Ic] 25)).heap.size by rw [World.size_alloc, hsn]; omega)
      have HO2 := Lib.hid ho2
      have HXK := Lib.hid hxk
      have HIX := Lib.hid hix
      have z0 := hbn.cell 0
      have z1 := hbn.cell 1
      clear hrd ho2 hbn hon hsn c0' c1' hxk hix hx
      go_upto_region 5 with fail
      try rw [hwn]
      clear hwn
      go_upto_region 6 with (first
        | (go_at_call 41; refine HVA.out.mono ?_; rintro y w2 ⟨rfl, hw2⟩; subst hw2)
        | (go_at_call 28; refine HSO.out.mono ?_; rintro y w3 ⟨v3, rfl, hown3, ho3⟩; have HOWN3 := Lib.hid hown3; have HO3 := Lib.hid ho3; clear hown3 ho3)
        | (go_at_call 40; refine (compact_any HOWN3.out (by unfold srt; exact List.length_mergeSort _) (by omega)).mono ?_; rintro y w6 ⟨v6, rfl, hown6, ho6⟩; have HOWN6 := Lib.hid hown6; have HO6 := Lib.hid ho6; clear hown6 ho6))
      have ho6 : Only [] wr w6 := (HO2.out.trans HO3.out (by simp)).trans HO6.out (fun q hq => .inr (by have := (HOWN3.out.lt q hq).1; have := HS2.out; omega))
      have hb6 := HOWN6.out.lt
      obtain ⟨A6, c6, e6, _⟩ := HOWN6.out.shape (by decide)
      obtain ⟨n6, hn6⟩ : ∃ n6, (impL x.nd).length = n6 := ⟨_, rfl⟩
      have hown6 : OwnR 9 1 w6 (wn.alloc (.cells #[.slice x.IA x.imps.length x.Ic] 25)).heap.size v6 n6 (svs (impL x.nd)) := by rw [← hn6]; exact HOWN6.out
      have e6' : v6 = .slice A6 n6 c6 := by rw [← hn6]; exact e6
      subst e6'
      have hn40 : n6 ≤ 40 := by rw [← hn6]; exact Nat.le_trans (impL_len x.nd) hi40
      have hN6 : Blk w6 wr.heap.size 43 #[.string (str x.path), .slice x.IA x.imps.length x.Ic] := (HBN.out.only HO3.out (by simp)).only HO6.out (fun hm => by have := (HOWN3.out.lt _ hm).1; have := HS2.out; omega)
      have HCT6 := Lib.hid (HCT.out.only0 ho6)
      have hltc := HCT.out.lt
      obtain ⟨nx, hnx⟩ : ∃ nx, wr.heap.size = nx := ⟨_, rfl⟩
      have HOWF0 : Hid (∀ q ∈ ownL (.slice A6 n6 c6), nx + 1 < q) := Lib.hid (fun q hq => by have := (hown6.lt q hq).1; have := HS2.out; omega)
      have HNL : Hid (nx ≠ lb ∧ nx ≠ bb ∧ nx ≠ c ∧ nx ∉ ownL v ∧ nx ∉ T) := Lib.hid ⟨by omega, by omega, by omega, fun hm => by have := (HCT.out.hb.own.lt _ hm).2; omega, fun hm => by have := (HCT.out.by'.lo _ hm).2; omega⟩
      have HOWF : Hid (∀ q ∈ ownL (.slice A6 n6 c6), q ∉ lb :: bb :: c :: nx :: ownL v ∧ q ∉ T) := Lib.hid (fun q hq => by
        have h1 := HOWF0.out q hq
        refine ⟨fun hm => ?_, fun hm => by have := (HCT.out.by'.lo _ hm).2; omega⟩
        simp only [List.mem_cons] at hm
        rcases hm with e | e | e | e | e
        · omega
        · omega
        · omega
        · omega
        · have := (HCT.out.hb.own.lt _ e).2; omega)
      have HOW := Lib.hid (hown6.mono (Nat.zero_le _))
      rw [hnx] at hN6 ⊢
      have HN6 := Lib.hid hN6
      have HO6W := Lib.hid (HO.out.trans ho6 (by simp))
      obtain ⟨LF, hlv, hlm, hln⟩ := HCT6.out.left_
      have HLV := Lib.hid hlv
      have HLM := Lib.hid hlm
      have HLN := Lib.hid hln
      have HN6E := Lib.hid hn6
      have c60 : w6.cell? ⟨c, 0, none⟩ = some (.map (some lb)) := HCT6.out.hb.blk.cell 0
      have n60 : w6.cell? ⟨nx, 0, none⟩ = some (.string (str x.path)) := hN6.cell 0
      clear ho6 hb6 e6 hown6 hN6 hltc hlv hlm hln hnx z0 z1 HO6 HO3 HOWN3 HOWN6 HSO HVA HBN hn6
      have hS6 : w6.drew.cell? ⟨c, 0, none⟩ = some (.map (some lb)) ∧ w6.drew.cell? ⟨nx, 0, none⟩ = some (.string (str x.path)) := ⟨c60, n60⟩
      refine wp_region_hand (S := (fun Y => Y.cell? ⟨c, 0, none⟩ = some (.map (some lb)) ∧ Y.cell? ⟨nx, 0, none⟩ = some (.string (str x.path)))) (by kernel_rfl) ?_
      refine takeW (i := 0) rfl (by kernel_rfl) (by kernel_rfl) (by kernel_rfl) (fun _ _ _ h => h) rfl (by rfl) (v := .pointer (some ⟨c, 0, none⟩)) (fun Y hY => by obtain ⟨y0, y1⟩ := hY; go_simp) hS6 ?_
      simp only [List.setIfInBounds_toArray, List.set_cons_zero, List.set_cons_succ]
      refine takeW (i := 1) rfl (by kernel_rfl) (by kernel_rfl) (by kernel_rfl) (fun _ _ _ h => h) rfl (by rfl) (v := .pointer (some ⟨c, 0, none⟩)) (fun Y hY => by obtain ⟨y0, y1⟩ := hY; go_simp) hS6 ?_
      simp only [List.setIfInBounds_toArray, List.set_cons_zero, List.set_cons_succ]
      refine takeW (i := 2) rfl (by kernel_rfl) (by kernel_rfl) (by kernel_rfl) (fun _ _ _ h => h) rfl (by rfl) (v := .pointer (some ⟨c, 0, none⟩)) (fun Y hY => by obtain ⟨y0, y1⟩ := hY; go_simp) hS6 ?_
      simp only [List.setIfInBounds_toArray, List.set_cons_zero, List.set_cons_succ]
      refine takeW (i := 3) rfl (by kernel_rfl) (by kernel_rfl) (by kernel_rfl) (fun _ _ _ h => h) rfl (by rfl) (v := .map (some lb)) (fun Y hY => by obtain ⟨y0, y1⟩ := hY; go_simp) hS6 ?_
      simp only [List.setIfInBounds_toArray, List.set_cons_zero, List.set_cons_succ]
      refine takeW (i := 4) rfl (by kernel_rfl) (by kernel_rfl) (by kernel_rfl) (fun _ _ _ h => h) rfl (by rfl) (v := .pointer (some ⟨nx, 0, none⟩)) (fun Y hY => by obtain ⟨y0, y1⟩ := hY; go_simp) hS6 ?_
      simp only [List.setIfInBounds_toArray, List.set_cons_zero, List.set_cons_succ]
      refine takeW (i := 5) rfl (by kernel_rfl) (by kernel_rfl) (by kernel_rfl) (fun _ _ _ h => h) rfl (by rfl) (v := .string (str x.path)) (fun Y hY => by obtain ⟨y0, y1⟩ := hY; go_simp) hS6 ?_
      simp only [List.setIfInBounds_toArray, List.set_cons_zero, List.set_cons_succ]
      refine takeW (i := 6) rfl (by kernel_rfl) (by kernel_rfl) (by kernel_rfl) (fun _ _ _ h => h) rfl (by rfl) (v := .slice A6 n6 c6) (fun Y hY => by obtain ⟨y0, y1⟩ := hY; go_simp) hS6 ?_
      simp only [List.setIfInBounds_toArray, List.set_cons_zero, List.set_cons_succ]
      refine takeW (i := 7) rfl (by kernel_rfl) (by kernel_rfl) (by kernel_rfl) (fun _ _ _ h => h) rfl (by rfl) (v := .int .i64 ((n6 : Nat) : Int)) (fun Y hY => by obtain ⟨y0, y1⟩ := hY; go_simp) hS6 ?_
      simp only [List.setIfInBounds_toArray, List.set_cons_zero, List.set_cons_succ]
      refine oneN (i := 8) rfl (by kernel_rfl) rfl rfl (fun K hK => ?_)
      refine step_put (f := LF) (n := nl) (val := .int .i64 ((n6 : Nat) : Int)) rfl (.tmp 27) (.tmp 29) (.tmp 31) 59 rfl 9 3 lawS Try.underlying59 rfl HLV.out.drew (by unfold maxLen; omega) rfl rfl (keyS (k := x.path) (by unfold maxLen; omega)) ?_
      intro w7 hv7 ho7
      have HC7 := Lib.hid (HLN.out w7 _ _ _ hv7 (HLM.out.put x.path n6) ((Only.refl [lb] _).drew.trans ho7 (fun _ h => .inl h)))
      have HN7 := Lib.hid (HN6.out.drew.only ho7 (by simpa using HNL.out.1))
      have HW7 := Lib.hid (HOW.out.drew.only ho7 (fun k hk hm => (HOWF.out k hk).1 (by rw [List.mem_singleton.1 hm]; simp)))
      refine hK _ _ ⟨HC7.out.hb.blk.cell 0, HN7.out.cell 0⟩ ?_
      have HO7 := Lib.hid ho7
      clear hK K hS6 hv7 ho7
      try simp only [List.setIfInBounds_toArray, List.set_cons_zero, List.set_cons_succ]
      refine wpAnyH_done (by kernel_rfl) ?_ _
      clear c60 n60
      obtain ⟨L, hL⟩ : ∃ L, (l.take k).map ND.nd = L := ⟨_, rfl⟩
      have htk : (l.take (k + 1)).map ND.nd = L ++ [x.nd] := by
        obtain ⟨h1, h2⟩ := List.getElem?_eq_some_iff.1 HXK.out
        rw [List.take_succ_eq_append_getElem h1, h2, List.map_append, hL]
        rfl
      have hnot : x.nd.path ∉ L.map (·.path) := by
        obtain ⟨h1, h2⟩ := List.getElem?_eq_some_iff.1 HXK.out
        have hn := HND.out
        rw [← List.take_append_drop k l, List.map_append, List.nodup_append] at hn
        intro hm
        rw [← hL, List.map_map] at hm
        refine hn.2.2 _ hm x.path ?_ rfl
        rw [List.drop_eq_getElem_cons h1, h2]
        simp
      have hLk : L.length = k := by rw [← hL, List.length_map, List.length_take, HL.out]; omega
      rw [hL] at HPM HC7
      have HC8 : Hid (CT w7 c lb bb lb (nl + 1) nb v T (cntF (L ++ [x.nd])) (byL L impL) hs) := Lib.hid (by
        rw [cntF_snoc hnot, HN6E.out]
        exact HC7.out)
      have HTK := Lib.hid htk
      have HLK := Lib.hid hLk
      have HOX := Lib.hid (HO6W.out.trans ((Only.refl [lb] w6).drew.trans HO7.out (fun _ h => .inl h)) (fun q hq => .inr (by rw [List.mem_singleton.1 hq, HLB.out]; exact Nat.le_refl _)))
      have HST : Hid (InC w w7 c lb bb (nl + 1) nx k v (cntF (L ++ [x.nd])) L x hs A6 n6 c6 0 T nb) := Lib.hid ⟨Nat.zero_le _, by rw [List.take_zero, byI_nil]; exact HC8.out, HN7.out, HW7.out, HOWF.out, HNL.out, hnb, HOX.out⟩
      clear htk hnot hL hLk HC7 HC8 HLN HLM HLV HN6 HN7 HW7 HOW HOX HO6W HCT6 HO7
      obtain ⟨f2, hf2⟩ : ∃ f2, cntF (L ++ [x.nd]) = f2 := ⟨_, rfl⟩
      rw [hf2] at HST
      have HF2 := Lib.hid hf2
      clear hf2
      go_wp2_with fail
      go_loopw [34] (fun jv wr2 => ∃ (j : Nat) (T2 : List Nat) (nb2 : Nat), jv = .int .i64 j ∧ InC w wr2 c lb bb (nl + 1) nx k v f2 L x hs A6 n6 c6 j T2 nb2) (fun jv _ => n6 - (intOf jv).toNat)
      case atStart => exact ⟨0, T, nb, rfl, HST.out⟩
      case round =>
        obtain ⟨j, T2, nb2, rfl, hjn0, hct2, hn2, hw2, hwf2, hnl2, hnb2, ho2⟩ := hrel
        clear HST HCT HNL HOWF
        have HCT := Lib.hid hct2
        have HN := Lib.hid hn2
        have HW := Lib.hid hw2
        have HWF := Lib.hid hwf2
        have HNX := Lib.hid hnl2
        have HO3 := Lib.hid ho2
        clear hct2 hn2 hw2 hwf2 hnl2 ho2
        have cp1 : wr.cell? ⟨c, 1, none⟩ = some (.map (some bb)) := HCT.out.hb.blk.cell 1
        have np0 : wr.cell? ⟨nx, 0, none⟩ = some (.string (str x.path)) := HN.out.cell 0
        by_cases hjn : j < n6
        · have e1 : decide ((j : Int) < (n6 : Int)) = true := decide_eq_true (by omega)
          have e1' : decide (j < n6) = true := decide_eq_true hjn
          obtain ⟨A6', c6', e6, hc6, _, _, h6⟩ := HW.out.shape (by decide)
          obtain ⟨g6, hg6⟩ : ∃ g6, A6 = some ⟨g6, 0, none⟩ := by
            injection e6 with e7 e8 e9
            rcases h6 with ⟨_, h0⟩ | ⟨g, h0, _⟩
            · omega
            · exact ⟨g, by rw [e7, h0]⟩
          subst hg6
          have q0 := HW.out.cellOf (i := j) (j := 0) hjn (by decide)
          rw [svs_get (by rw [HN6E.out]; exact hjn)] at q0
          simp only [Nat.mul_one, Nat.add_zero] at q0
          obtain ⟨s, hs0⟩ : ∃ s, hat (impL x.nd) j = s := ⟨_, rfl⟩
          have hsm : s ∈ impL x.nd := by rw [← hs0]; exact hat_mem (by rw [HN6E.out]; exact hjn)
          have hs300 : s.length ≤ 300 := hi300 s (((impL_own x.nd).mem s).1 hsm)
          have htk2 : (impL x.nd).take (j + 1) = (impL x.nd).take j ++ [s] := by rw [take_hat (by rw [HN6E.out]; exact hjn), hs0]
          have hnin : s ∉ (impL x.nd).take j := by
            have hn := (impL_own x.nd).nd
            rw [← List.take_append_drop (j + 1) (impL x.nd), htk2, List.nodup_append] at hn
            have h2 := hn.1
            rw [List.nodup_append] at h2
            exact fun hm => h2.2.2 s hm s (by simp) rfl
          rw [hs0] at q0
          unfold sv at q0
          obtain ⟨bg, bv, hbm, hbg, hbv, hbT, hfin⟩ := HCT.out.by'.at_ s
          have hbl : (byI L x.nd ((impL x.nd).take j) s).length ≤ 61 := by have := byI_len L x.nd ((impL x.nd).take j) s; have := HLK.out; omega
          have HBM := Lib.hid hbm
          have HBG := Lib.hid hbg
          have HBV := Lib.hid hbv
          have hfar := HCT.out.far
          have hnlx := HNX.out
          have hcb : c ≠ bb := vm_blk hbm HCT.out.hb.blk
          have hbbT : bb ∉ ownL bv := fun hm => hfar.2.2.1 (hbT _ hm)
          have HBF : Hid (c ∉ ownL bv ∧ nx ∉ ownL bv ∧ bb ∉ ownL bv ∧ c ≠ bb ∧ nx ≠ bb) := Lib.hid ⟨fun hm => hfar.1 (hbT _ hm), fun hm => hnlx.2.2.2.2 (hbT _ hm), hbbT, hcb, hnlx.2.1⟩
          have HFIN : Hid (∀ (v9 : Value) (w9 w10 : World), ExtR 9 1 wr.drew w9 lb bv v9 ((byI L x.nd ((impL x.nd).take j) s).length + 1) (svs (byI L x.nd ((impL x.nd).take j) s) ++ [[sv x.path]]) → VM Try.prog 9 w10 bb (nb2 + 1) (upd bg (.string s) (some v9)) → Only [bb] w9 w10 → Blk w10 nx 43 #[.string (str x.path), .slice x.IA x.imps.length x.Ic] → ∃ T3 nb3, InC w w10 c lb bb (nl + 1) nx k v f2 L x hs (some ⟨g6, 0, none⟩) n6 c6 (j + 1) T3 nb3) := Lib.hid (fun v9 w9 w10 hE hv10 ho10 hn10 => by
            have ho910 : Only (bb :: ownL bv) wr w10 := ((Only.refl (bb :: ownL bv) wr).drew.trans hE.only (fun q hq => .inl (List.mem_cons_of_mem _ hq))).trans ho10 (fun q hq => .inl (by rw [List.mem_singleton.1 hq]; simp))
            have hf9 : FreshV wr bv v9 := hE.fresh
            have hlen9 : (byI L x.nd ((impL x.nd).take j) s).length + 1 = (byI L x.nd ((impL x.nd).take j) s ++ [x.path]).length := by simp
            have hsv9 : svs (byI L x.nd ((impL x.nd).take j) s) ++ [[sv x.path]] = svs (byI L x.nd ((impL x.nd).take j) s ++ [x.path]) := by unfold svs; simp
            have hown9 := hE.own
            have hb9 : bb ∉ ownL v9 := fun hm => (hf9 bb hm).elim hbbT (fun h => by have := HCT.out.lt.2.2; omega)
            rw [hlen9, hsv9] at hown9
            have hown10 := hown9.only ho10 (fun q hq hm => hb9 (by rw [← List.mem_singleton.1 hm]; exact hq))
            have hby := hfin w10 v9 x.path hv10 hown10 ho910 hf9 (by omega) hfar.2.2.1
            have hby2 : IsBy w10 bb lb (nb2 + 1) (T2 ++ ownL v9) (byI L x.nd ((impL x.nd).take (j + 1))) := by rw [htk2, ← byI_snoc hnin]; exact hby
            have hT3 : ∀ q ∈ T2 ++ ownL v9, q ∈ T2 ∨ wr.heap.size ≤ q := fun q hq => by
              rcases List.mem_append.1 hq with h | h
              · exact .inl h
              · rcases hf9 q h with h | h
                · exact .inl (hbT _ h)
                · exact .inr h
            have hct10 := HCT.out.by_ hby2 hT3 hbT ho910
            have hnot : ∀ q, q < wr.heap.size → q ∉ T2 → q ∉ T2 ++ ownL v9 := fun q h1 h2 hm => (hT3 q hm).elim h2 (fun h => by omega)
            refine ⟨T2 ++ ownL v9, nb2 + 1, by omega, hct10, hn10, HW.out.only ho910 (fun q hq hm => ?_), fun q hq => ⟨(HWF.out q hq).1, hnot q (HW.out.lt q hq).2 (HWF.out q hq).2⟩, ⟨hnlx.1, hnlx.2.1, hnlx.2.2.1, hnlx.2.2.2.1, hnot nx HN.out.lt hnlx.2.2.2.2⟩, by omega, HO3.out.trans ho910 (fun q hq => .inr ?_)⟩
            · rcases List.mem_cons.1 hm with e | e
              · exact (HWF.out q hq).1 (by rw [e]; simp)
              · exact (HWF.out q hq).2 (hbT _ e)
            · rcases List.mem_cons.1 hq with e | e
              · have := HCT.out.lo.2.2.1; rw [e, HLB.out]; exact this
              · have := (hbv.lt q e).1; rw [HLB.out]; exact this)
          clear hbm hbg hbv hbT hfin hfar hnlx hcb hbbT hnin htk2 hsm hs0 e6 hc6 h6
          go_upto_region 10 with fail
          have hS10 : wr.drew.cell? ⟨c, 1, none⟩ = some (.map (some bb)) ∧ wr.drew.cell? ⟨nx, 0, none⟩ = some (.string (str x.path)) := ⟨cp1, np0⟩
          clear cp1 np0 q0
          refine wp_region_hand (S := (fun Y => Y.cell? ⟨c, 1, none⟩ = some (.map (some bb)) ∧ Y.cell? ⟨nx, 0, none⟩ = some (.string (str x.path)))) (by kernel_rfl) ?_
          refine takeW (i := 0) rfl (by kernel_rfl) (by kernel_rfl) (by kernel_rfl) (fun _ _ _ h => h) rfl (by rfl) (v := .pointer (some ⟨c, 0, none⟩)) (fun Y hY => by obtain ⟨y0, y1⟩ := hY; go_simp) hS10 ?_
          simp only [List.setIfInBounds_toArray, List.set_cons_zero, List.set_cons_succ]
          refine takeW (i := 1) rfl (by kernel_rfl) (by kernel_rfl) (by kernel_rfl) (fun _ _ _ h => h) rfl (by rfl) (v := .pointer (some ⟨c, 0, none⟩)) (fun Y hY => by obtain ⟨y0, y1⟩ := hY; go_simp) hS10 ?_
          simp only [List.setIfInBounds_toArray, List.set_cons_zero, List.set_cons_succ]
          refine takeW (i := 2) rfl (by kernel_rfl) (by kernel_rfl) (by kernel_rfl) (fun _ _ _ h => h) rfl (by rfl) (v := .pointer (some ⟨c, 1, none⟩)) (fun Y hY => by obtain ⟨y0, y1⟩ := hY; go_simp) hS10 ?_
          simp only [List.setIfInBounds_toArray, List.set_cons_zero, List.set_cons_succ]
          refine takeW (i := 3) rfl (by kernel_rfl) (by kernel_rfl) (by kernel_rfl) (fun _ _ _ h => h) rfl (by rfl) (v := .map (some bb)) (fun Y hY => by obtain ⟨y0, y1⟩ := hY; go_simp) hS10 ?_
          simp only [List.setIfInBounds_toArray, List.set_cons_zero, List.set_cons_succ]
          refine takeW (i := 4) rfl (by kernel_rfl) (by kernel_rfl) (by kernel_rfl) (fun _ _ _ h => h) rfl (by rfl) (v := .string (str s)) (fun Y hY => by obtain ⟨y0, y1⟩ := hY; go_simp) hS10 ?_
          simp only [List.setIfInBounds_toArray, List.set_cons_zero, List.set_cons_succ]
          refine takeW (i := 5) rfl (by kernel_rfl) (by kernel_rfl) (by kernel_rfl) (fun _ _ _ h => h) rfl (by rfl) (v := .pointer (some ⟨c, 0, none⟩)) (fun Y hY => by obtain ⟨y0, y1⟩ := hY; go_simp) hS10 ?_
          simp only [List.setIfInBounds_toArray, List.set_cons_zero, List.set_cons_succ]
          refine takeW (i := 6) rfl (by kernel_rfl) (by kernel_rfl) (by kernel_rfl) (fun _ _ _ h => h) rfl (by rfl) (v := .pointer (some ⟨c, 0, none⟩)) (fun Y hY => by obtain ⟨y0, y1⟩ := hY; go_simp) hS10 ?_
          simp only [List.setIfInBounds_toArray, List.set_cons_zero, List.set_cons_succ]
          refine takeW (i := 7) rfl (by kernel_rfl) (by kernel_rfl) (by kernel_rfl) (fun _ _ _ h => h) rfl (by rfl) (v := .pointer (some ⟨c, 1, none⟩)) (fun Y hY => by obtain ⟨y0, y1⟩ := hY; go_simp) hS10 ?_
          simp only [List.setIfInBounds_toArray, List.set_cons_zero, List.set_cons_succ]
          refine takeW (i := 8) rfl (by kernel_rfl) (by kernel_rfl) (by kernel_rfl) (fun _ _ _ h => h) rfl (by rfl) (v := .map (some bb)) (fun Y hY => by obtain ⟨y0, y1⟩ := hY; go_simp) hS10 ?_
          simp only [List.setIfInBounds_toArray, List.set_cons_zero, List.set_cons_succ]
          refine takeW (i := 9) rfl (by kernel_rfl) (by kernel_rfl) (by kernel_rfl) (fun _ _ _ h => h) rfl (by rfl) (v := .string (str s)) (fun Y hY => by obtain ⟨y0, y1⟩ := hY; go_simp) hS10 ?_
          simp only [List.setIfInBounds_toArray, List.set_cons_zero, List.set_cons_succ]
          refine takeW (i := 11) rfl (by kernel_rfl) (by kernel_rfl) (by kernel_rfl) (fun _ _ _ h => h) rfl (by rfl) (v := .pointer (some ⟨nx, 0, none⟩)) (fun Y hY => by obtain ⟨y0, y1⟩ := hY; go_simp) hS10 ?_
          simp only [List.setIfInBounds_toArray, List.set_cons_zero, List.set_cons_succ]
          refine takeW (i := 12) rfl (by kernel_rfl) (by kernel_rfl) (by kernel_rfl) (fun _ _ _ h => h) rfl (by rfl) (v := .string (str x.path)) (fun Y hY => by obtain ⟨y0, y1⟩ := hY; go_simp) hS10 ?_
          simp only [List.setIfInBounds_toArray, List.set_cons_zero, List.set_cons_succ]
          have hlk0 : (Instr.lookup 60 (.map (some bb)) (.string (str s)) false).run Try.prog wr.drew = .ok bv wr.drew := by rw [(HBM.out.drew).run_look1 lawS Try.underlying60 (zeroL _) (keyS (k := s) (by unfold maxLen; omega)), HBG.out]
          have hlk1 : (Instr.lookup 60 (.map (some bb)) (.string (str s)) false).run Try.prog (wr.drew.alloc (.cells #[.string (str x.path)] 9)) = .ok bv (wr.drew.alloc (.cells #[.string (str x.path)] 9)) := by rw [((HBM.out.drew).alloc _).run_look1 lawS Try.underlying60 (zeroL _) (keyS (k := s) (by unfold maxLen; omega)), HBG.out]
          have hlk2 : (Instr.lookup 60 (.map (some bb)) (.string (str s)) false).run Try.prog (wr.alloc (.cells #[.string (str x.path)] 9)).drew = .ok bv (wr.alloc (.cells #[.string (str x.path)] 9)).drew := hlk1
          have hSa : (wr.drew.alloc (.cells #[.string (str x.path)] 9)).cell? ⟨c, 1, none⟩ = some (.map (some bb)) ∧ (wr.drew.alloc (.cells #[.string (str x.path)] 9)).cell? ⟨nx, 0, none⟩ = some (.string (str x.path)) := ⟨(HCT.out.hb.blk.drew.alloc _).cell 1, (HN.out.drew.alloc _).cell 0⟩
          refine twoW (i := 10) (j := 13) (vi := bv) (vj := .slice (some ⟨wr.heap.size, 0, none⟩) 1 1) (wi := wr.drew) (wj := wr.drew.alloc (.cells #[.string (str x.path)] 9)) rfl rfl (by kernel_rfl) rfl rfl (by rfl) (by rfl) (by go_simp) (by go_simp) hS10 hSa ?_ ?_
          · simp only [List.setIfInBounds_toArray, List.set_cons_zero, List.set_cons_succ]
            refine oneW (i := 13) (v := .slice (some ⟨wr.heap.size, 0, none⟩) 1 1) (w' := wr.drew.alloc (.cells #[.string (str x.path)] 9)) rfl (by kernel_rfl) rfl (by rfl) (by go_simp) hSa ?_
            simp only [List.setIfInBounds_toArray, List.set_cons_zero, List.set_cons_succ]
            refine oneA (i := 14) rfl (by kernel_rfl) rfl rfl (fun K hK => ?_)
            refine step_append1 (w := wr.drew) rfl (.tmp 48) (.tmp 51) 25 rfl Try.underlying25 str_inf rfl (by decide) rfl HBV.out.drew rfl rfl (row := [sv x.path]) rfl rfl (by intro u hu; rw [List.mem_singleton.1 hu]; rfl) (by omega) (by unfold maxLen; omega) (Nat.le_trans HCT.out.lo.2.2.2 (Nat.le_succ _)) ?_
            intro v9 w9 hE
            have HE := Lib.hid hE
            have HBK9 := Lib.hid (HCT.out.hb.blk.drew.only hE.only HBF.out.1)
            have HN9 := Lib.hid (HN.out.drew.only hE.only HBF.out.2.1)
            clear hE
            refine hK _ _ ⟨HBK9.out.cell 1, HN9.out.cell 0⟩ ?_
            clear hK K
            try simp only [List.setIfInBounds_toArray, List.set_cons_zero, List.set_cons_succ]
            refine oneN (i := 15) rfl (by kernel_rfl) rfl rfl (fun K hK => ?_)
            refine step_put (f := bg) (n := nb2) (val := v9) rfl (.tmp 41) (.tmp 42) (.tmp 52) 60 rfl 9 25 lawS Try.underlying60 rfl (HBM.out.drew.only HE.out.only HBF.out.2.2.1) (by unfold maxLen; omega) rfl rfl (keyS (k := s) (by unfold maxLen; omega)) ?_
            intro w10 hv10 ho10
            have HV10 := Lib.hid hv10
            have HO10 := Lib.hid ho10
            have HBK10 := Lib.hid (HBK9.out.only ho10 (by simpa using HBF.out.2.2.2.1))
            have HN10 := Lib.hid (HN9.out.only ho10 (by simpa using HBF.out.2.2.2.2))
            refine hK _ _ ⟨HBK10.out.cell 1, HN10.out.cell 0⟩ ?_
            clear hK K hv10 ho10 hS10 hSa hlk0
            try simp only [List.setIfInBounds_toArray, List.set_cons_zero, List.set_cons_succ]
            refine wpAnyH_done (by kernel_rfl) ?_ _
            go_wp2_with fail
            go_roundw
            case measure => simp [intOf]; omega
            case rel =>
              obtain ⟨T2, nb2, r⟩ := HFIN.out v9 w9 w10 HE.out HV10.out HO10.out HN10.out
              exact ⟨j + 1, T2, nb2, by go_num, r⟩
          · simp only [List.setIfInBounds_toArray, List.set_cons_zero, List.set_cons_succ]
            refine oneW (i := 10) (v := bv) (w' := wr.drew.alloc (.cells #[.string (str x.path)] 9)) rfl (by kernel_rfl) rfl (by rfl) (by go_simp) hSa ?_
            simp only [List.setIfInBounds_toArray, List.set_cons_zero, List.set_cons_succ]
            refine oneA (i := 14) rfl (by kernel_rfl) rfl rfl (fun K hK => ?_)
            refine step_append1 (w := wr.drew) rfl (.tmp 48) (.tmp 51) 25 rfl Try.underlying25 str_inf rfl (by decide) rfl HBV.out.drew rfl rfl (row := [sv x.path]) rfl rfl (by intro u hu; rw [List.mem_singleton.1 hu]; rfl) (by omega) (by unfold maxLen; omega) (Nat.le_trans HCT.out.lo.2.2.2 (Nat.le_succ _)) ?_
            intro v9 w9 hE
            have HE := Lib.hid hE
            have HBK9 := Lib.hid (HCT.out.hb.blk.drew.only hE.only HBF.out.1)
            have HN9 := Lib.hid (HN.out.drew.only hE.only HBF.out.2.1)
            clear hE
            refine hK _ _ ⟨HBK9.out.cell 1, HN9.out.cell 0⟩ ?_
            clear hK K
            try simp only [List.setIfInBounds_toArray, List.set_cons_zero, List.set_cons_succ]
            refine oneN (i := 15) rfl (by kernel_rfl) rfl rfl (fun K hK => ?_)
            refine step_put (f := bg) (n := nb2) (val := v9) rfl (.tmp 41) (.tmp 42) (.tmp 52) 60 rfl 9 25 lawS Try.underlying60 rfl (HBM.out.drew.only HE.out.only HBF.out.2.2.1) (by unfold maxLen; omega) rfl rfl (keyS (k := s) (by unfold maxLen; omega)) ?_
            intro w10 hv10 ho10
            have HV10 := Lib.hid hv10
            have HO10 := Lib.hid ho10
            have HBK10 := Lib.hid (HBK9.out.only ho10 (by simpa using HBF.out.2.2.2.1))
            have HN10 := Lib.hid (HN9.out.only ho10 (by simpa using HBF.out.2.2.2.2))
            refine hK _ _ ⟨HBK10.out.cell 1, HN10.out.cell 0⟩ ?_
            clear hK K hv10 ho10 hS10 hSa hlk0
            try simp only [List.setIfInBounds_toArray, List.set_cons_zero, List.set_cons_succ]
            refine wpAnyH_done (by kernel_rfl) ?_ _
            go_wp2_with fail
            go_roundw
            case measure => simp [intOf]; omega
            case rel =>
              obtain ⟨T2, nb2, r⟩ := HFIN.out v9 w9 w10 HE.out HV10.out HO10.out HN10.out
              exact ⟨j + 1, T2, nb2, by go_num, r⟩
        · obtain rfl : j = n6 := by omega
          have e1 : decide ((j : Int) < (j : Int)) = false := decide_eq_false (by omega)
          have hct9 := HCT.out
          rw [List.take_of_length_le (by rw [HN6E.out]; exact Nat.le_refl _), byI_all] at hct9
          have HC9 := Lib.hid hct9
          clear hct9
          by_cases hj0 : j = 0
          · subst hj0
            have hlen : hs.length ≤ 60 := by have h1 := HPM.out.length_eq; have h2 := freeL_len L; have := HLK.out; omega
            have hempty : (impL x.nd).isEmpty = true := by rw [List.isEmpty_iff]; exact List.length_eq_zero_iff.1 HN6E.out
            have HEM := Lib.hid hempty
            have hpu := hPush_any (HC9.out.hb.only0 ((Only.refl [] wr).drew)) HC9.out.heap x.path (by omega) HC9.out.lo.2.2.2
            have HNP : Hid (∀ w8, PushO wr.drew c lb bb lb v hs x.path w8 → w8.cell? ⟨nx, 0, none⟩ = some (.string (str x.path))) := Lib.hid (fun w8 ⟨v8, hs8, _, _, _, _, ho8⟩ => ho8.cell (by exact np0) (fun hm => by
              rcases List.mem_cons.1 hm with e | e
              · exact HNX.out.2.2.1 e
              · exact HNX.out.2.2.2.1 e))
            unfold ifc cp sv at hpu
            have HPU := Lib.hid hpu
            clear hpu hempty
            go_upto_region 13 with fail
            have hS13 : wr.drew.cell? ⟨nx, 0, none⟩ = some (.string (str x.path)) := np0
            refine wp_region_hand (S := (fun Y => Y.cell? ⟨nx, 0, none⟩ = some (.string (str x.path)))) (by kernel_rfl) ?_
            refine takeW (i := 0) rfl (by kernel_rfl) (by kernel_rfl) (by kernel_rfl) (fun _ _ _ h => h) rfl (by rfl) (v := .pointer (some ⟨c, 0, none⟩)) (fun Y hY => by have y0 := hY; go_simp) hS13 ?_
            simp only [List.setIfInBounds_toArray, List.set_cons_zero, List.set_cons_succ]
            refine takeW (i := 1) rfl (by kernel_rfl) (by kernel_rfl) (by kernel_rfl) (fun _ _ _ h => h) rfl (by rfl) (v := .pointer (some ⟨c, 0, none⟩)) (fun Y hY => by have y0 := hY; go_simp) hS13 ?_
            simp only [List.setIfInBounds_toArray, List.set_cons_zero, List.set_cons_succ]
            refine takeW (i := 2) rfl (by kernel_rfl) (by kernel_rfl) (by kernel_rfl) (fun _ _ _ h => h) rfl (by rfl) (v := .pointer (some ⟨c, 2, none⟩)) (fun Y hY => by have y0 := hY; go_simp) hS13 ?_
            simp only [List.setIfInBounds_toArray, List.set_cons_zero, List.set_cons_succ]
            refine takeW (i := 3) rfl (by kernel_rfl) (by kernel_rfl) (by kernel_rfl) (fun _ _ _ h => h) rfl (by rfl) (v := .iface 74 (.pointer (some ⟨c, 2, none⟩))) (fun Y hY => by have y0 := hY; go_simp) hS13 ?_
            simp only [List.setIfInBounds_toArray, List.set_cons_zero, List.set_cons_succ]
            refine takeW (i := 4) rfl (by kernel_rfl) (by kernel_rfl) (by kernel_rfl) (fun _ _ _ h => h) rfl (by rfl) (v := .pointer (some ⟨nx, 0, none⟩)) (fun Y hY => by have y0 := hY; go_simp) hS13 ?_
            simp only [List.setIfInBounds_toArray, List.set_cons_zero, List.set_cons_succ]
            refine takeW (i := 5) rfl (by kernel_rfl) (by kernel_rfl) (by kernel_rfl) (fun _ _ _ h => h) rfl (by rfl) (v := .string (str x.path)) (fun Y hY => by have y0 := hY; go_simp) hS13 ?_
            simp only [List.setIfInBounds_toArray, List.set_cons_zero, List.set_cons_succ]
            refine takeW (i := 6) rfl (by kernel_rfl) (by kernel_rfl) (by kernel_rfl) (fun _ _ _ h => h) rfl (by rfl) (v := .iface 9 (.string (str x.path))) (fun Y hY => by have y0 := hY; go_simp) hS13 ?_
            simp only [List.setIfInBounds_toArray, List.set_cons_zero, List.set_cons_succ]
            refine callW (i := 7) rfl (by kernel_rfl) rfl (by rfl) ?_ (HPU.out) ?_
            · go_simp
            rintro y w8 ⟨rfl, hP⟩
            have HP := Lib.hid hP
            have hS14 := HNP.out w8 hP
            clear hP hS13
            refine ⟨_, rfl, hS14, ?_⟩
            simp only [List.setIfInBounds_toArray, List.set_cons_zero, List.set_cons_succ]
            refine wpAnyH_done (by kernel_rfl) ?_ _
            clear hS14 cp1 np0
            obtain ⟨v8, hs8, h8, hp8, hh8, hf8, ho8⟩ := HP.out
            have HC10 := Lib.hid ((HC9.out.only0 ((Only.refl [] wr).drew)).heap_ h8 hh8 hf8 ho8)
            have HP10 := Lib.hid hp8
            have HO10 := Lib.hid (HO3.out.drew.trans ho8 (fun q hq => .inr (by
              have h1 := HC9.out.lo.1
              rw [HLB.out]
              rcases List.mem_cons.1 hq with e | e
              · omega
              · exact (HC9.out.hb.own.lt q e).1)))
            clear h8 hp8 hh8 hf8 ho8 HP
            go_wp2_with fail
            go_roundw
            case measure => simp [intOf]; omega
            case rel =>
              refine ⟨k + 1, v8, T2, hs8, nl + 1, nb2, by go_num, by omega, by rw [HTK.out, HF2.out]; exact HC10.out, ?_, by omega, by omega, HO10.out⟩
              rw [HTK.out, freeL_snoc, if_pos HEM.out]
              exact HP10.out.trans (HPM.out.append_right _)
          · have z1 : ((j : Int) == 0) = false := beq_eq_false_iff_ne.2 (by omega)
            have hempty : ¬ (impL x.nd).isEmpty = true := by rw [List.isEmpty_iff]; intro h0; have := HN6E.out; rw [h0] at this; exact hj0 this.symm
            have HEM := Lib.hid hempty
            clear hempty cp1 np0
            go_wp2_with fail
            go_roundw
            case measure => simp [intOf]; omega
            case rel =>
              refine ⟨k + 1, v, T2, hs, nl + 1, nb2, by go_num, by omega, by rw [HTK.out, HF2.out]; exact HC9.out, ?_, by omega, by omega, HO3.out⟩
              rw [HTK.out, freeL_snoc, if_neg HEM.out, List.append_nil]
              exact HPM.out
    · obtain rfl : k = m := by omega
      have d1 : decide ((k : Int) < (k : Int)) = false := decide_eq_false (by omega)
      go_wp2_with fail
      go_ret
      have h1 := HCT.out
      have h2 := HPM.out
      rw [List.take_of_length_le (by rw [HL.out]; exact Nat.le_refl _)] at h1 h2
      refine ⟨c, lb, bb, nl, nb, v, T, hs, rfl, ?_, h2, HO.out, by omega⟩
      rw [HLB.out]
      exact h1
end
end Go.Proofs.Ytdfiibnpckahnaa.Graph
