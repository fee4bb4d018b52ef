/- The walk over starts: grow. PRINTED by wip/gen_vegrow.py. -/
import Derived.Test.YtkdacemachejoaaKeysA
import Derived.Test.YtkdacemachejoaaRanges
namespace Go.Proofs.Ytkdacemachejoaa.Vm
open Go.RowKit Go.Maps Go.Shelf Object
set_option linter.unusedVariables false
set_option maxRecDepth 100000
def GrowO (p mb rb : Nat) (cs : List Cd) (K : List Nat) (M : Nat → Prop) (s : Nat) (w : World) (y : Ending) (w' : World) : Prop :=
  y = .returned (.tuple #[]) ∧ ∃ K' M', TI w' p mb rb cs K' M' ∧ Grown cs s K M K' M' ∧ Only [mb, rb] w w'
def ArrL (w : World) (rb : Nat) (cs : List Cd) (M : Nat → Prop) : Prop := ∃ R : List Bool, R.length = cs.length ∧ Blk w rb 4 (R.map Value.bool).toArray ∧ ∀ (i : Nat) (b : Bool), R[i]? = some b → (b = true ↔ M i)
theorem ArrL.congr {w : World} {rb : Nat} {cs : List Cd} {M M' : Nat → Prop} (h : ArrL w rb cs M) (hM : ∀ i, M' i ↔ M i) : ArrL w rb cs M' := by
  obtain ⟨R, h1, h2, h3⟩ := h
  exact ⟨R, h1, h2, fun i b hb => by rw [hM]; exact h3 i b hb⟩
theorem TI.marks {w w' : World} {p mb rb : Nat} {cs : List Cd} {K : List Nat} {M M' : Nat → Prop} (h : TI w p mb rb cs K M) (ho : Only [rb] w w') (ha : ArrL w' rb cs M') : TI w' p mb rb cs K M' := by
  have hn := h.ne
  obtain ⟨f, hv, hc⟩ := h.map
  exact ⟨h.blk.only ho (by simpa using hn.2.2), ⟨f, hv.only ho (by simpa using hn.2.1), hc.only ho (fun g hg => h.not_int g (by simp at hg; simp [hg]))⟩, ha, h.nd, h.lt⟩
theorem left_step {left : Lit → Bool} {i j : Nat} : ((fun z => left z && !z.sameKey (.int .i64 (i : Int))) (pk (j : Int)) = false) ↔ (left (pk (j : Int)) = false ∨ j = i) := by
  show (left (pk (j : Int)) && !(pk (j : Int)).sameKey (.int .i64 (i : Int))) = false ↔ _
  rw [same_pk]
  by_cases he : j = i
  · subst he; simp
  · have : ¬ ((j : Int) = (i : Int)) := by omega
    simp [this, he]
theorem room {cs : List Cd} {K : List Nat} {s : Nat} (hn : K.Nodup) (hl : ∀ k ∈ K, k < cs.length) (hs : s ∉ K) (hlt : s < cs.length) : K.length + 1 ≤ cs.length := by
  have h := nodup_bound (D := s :: K) (n := cs.length) (List.nodup_cons.2 ⟨hs, hn⟩) (fun k hk => by
    rcases List.mem_cons.1 hk with rfl | hk
    · exact hlt
    · exact hl k hk)
  simpa using h
theorem more_keys {K K' : List Nat} {s : Nat} (hn : K.Nodup) (hs : s ∉ K) (hsub : ∀ k ∈ s :: K, k ∈ K') : K.length + 1 ≤ K'.length := by
  have h := nodup_le (A := s :: K) (B := K') (List.nodup_cons.2 ⟨hs, hn⟩) hsub
  simpa using h
set_option maxHeartbeats 8000000 in
theorem grow_any (A : Option Addr) (n cc B p mb rb : Nat) (cs : List Cd) (hR : vmRight cs = true) (hl : cs.length = n) (hBm : B ≤ mb) (hBr : B ≤ rb) : ∀ (m : Nat) (K : List Nat) (M : Nat → Prop) (s : Nat) (w : World), TI w p mb rb cs K M → Recs w B 5 A n (cs.map Cd.row) → s < n → n - K.length < m →
    Calls Try.prog 48 #[.pointer (some ⟨p, 0, none⟩), .slice A n cc, .int .i64 (s : Int)] w (GrowO p mb rb cs K M s w) := by
  intro m
  induction m with
  | zero => intro K M s w h hr hs hm; omega
  | succ m ih =>
  intro K M s w h hr hs hm
  have hlen := (right_len hR).2.1
  obtain ⟨f, hv, hc⟩ := h.map
  have p0 : w.cell? ⟨p, 0, none⟩ = some (.map (some mb)) := h.blk.cell 0
  have hlk := VM.run_look hv lawI Try.underlying69 (zeroL w) (keyP (in64n (n := s) (by omega)))
  obtain ⟨vv, hvv⟩ : ∃ v, (f (pk (s : Int))).getD (.slice none 0 0) = v := ⟨_, rfl⟩
  rw [hvv] at hlk
  by_cases hsK : s ∈ K
  · rw [(hc.some_iff s).2 hsK] at hlk
    have HF := Lib.hid (And.intro h (grown_had (cs := cs) (M := M) h.nd hsK))
    clear h hr hs hm hlen hv hc hvv hsK ih hl hBm hBr
    go_enter Try.func48, Try.ntmps48
    go_wp2_with fail
    refine bodyPost_ret (results_none rfl _ _ _) rfl ?_
    exact ⟨rfl, K, M, HF.out.1, HF.out.2, Only.refl _ _⟩
  · have hno : (f (pk (s : Int))).isSome = false := by
      cases hh : (f (pk (s : Int))).isSome with
      | false => rfl
      | true => exact absurd ((hc.some_iff s).1 hh) hsK
    rw [hno] at hlk
    have hBw : B ≤ w.heap.size := by have := hv.lt; omega
    have HP := Lib.hid (part_any A n cc s cs w (hr.more hBw) hR hs)
    have HT := Lib.hid h
    have HR := Lib.hid (And.intro hr (And.intro hR hBw))
    have HNN := Lib.hid (And.intro hsK (And.intro (show s < cs.length by omega) (And.intro (room h.nd h.lt hsK (by omega)) (And.intro hlen (And.intro hl (And.intro hm (And.intro hs (And.intro hBm hBr))))))))
    have HIH := Lib.hid ih
    clear h hr hs hm hlen hv hc hvv hsK hno ih hl hBm hBr hBw
    go_enter Try.func48, Try.ntmps48
    go_wp2_with (first
      | (at_range; refine wpList_rangeV rfl (.tmp 25) 64 rfl 3 4 lawI Try.underlying64 rfl HVP.out ?_; intro w2 cnt2 hrg2 hcn2 ho2 hs2)
      | (go_at_call 35; refine HP.out.mono ?_; rintro y w1 ⟨mbp, D, rfl, hnd, hD, hvp, hmbp, ho1⟩; have HVP := Lib.hid hvp; have HD := Lib.hid (And.intro hnd (And.intro hD hmbp)); have HW1 := Lib.hid ho1; clear hvp hnd hD ho1))
    go_frame
    obtain ⟨r, hr⟩ : ∃ r, w1.heap.size = r := ⟨_, rfl⟩
    rw [hr] at hrg2
    rw [hr]
    have hT2 := HT.out.only0 HW1.out
    have HT2 := Lib.hid hT2
    have HA2 : Hid (ArrL w2 rb cs M) := Lib.hid (hT2.only0 ho2).arr
    have HO2 := Lib.hid HW1.out
    have HO12 : Hid (Only [rb] w1 w2) := Lib.hid (ho2.mono (by simp))
    have HRG2 := Lib.hid hrg2
    have hrbw : rb < w.heap.size := by obtain ⟨R0, _, hb0, _⟩ := HT.out.arr; exact hb0.lt
    have HX := Lib.hid (And.intro hrbw (And.intro (show w.heap.size ≤ r by rw [← hr]; exact HW1.out.size) (show w1.heap.size ≤ r by rw [← hr]; exact Nat.le_refl _)))
    clear hrg2 hcn2 ho2 hs2 hT2 hrbw hr hlk p0 hmbp
    go_loopw [27] (fun _ wr => ∃ (left : Lit → Bool) (cnt : Nat), VR Try.prog 3 wr mbp r D.length (seenF (zs D)) left cnt ∧ ArrL wr rb cs (fun i => M i ∨ (i ∈ D ∧ left (pk (i : Int)) = false)) ∧ Only [rb] w1 wr) (fun _ wr => wr.rangeLeft mbp r)
    case atStart =>
      refine ⟨_, cnt2, HRG2.out, ?_, HO12.out⟩
      have ha : ArrL w2 rb cs M := HA2.out
      refine ha.congr (fun i => ⟨fun h => h.elim id (fun ⟨h1, h2⟩ => ?_), .inl⟩)
      have : (seenF (zs D) (pk (i : Int))).isSome = true := seenF_some.2 (mem_zs.2 h1)
      rw [this] at h2
      cases h2
    case round =>
      clear HRG2
      obtain ⟨left, cnt, hrg, har, ho⟩ := hrel
      have HRG := Lib.hid hrg
      have HAR := Lib.hid har
      have HO := Lib.hid ho
      clear hrg har ho
      go_wp2_with (at_next; refine wpList_nextI rfl (.tmp 26) rfl 3 Try.underlying3 mkT rfl HRG.out (fun k v h => seenF_val h) ?_ ?_)
      · intro hl0
        have ha1 : ArrL wr rb cs (fun i => M i ∨ Rp cs s i) := HAR.out.congr (fun i => by
          constructor
          · rintro (h1 | h1)
            · exact .inl h1
            · exact .inr ⟨(HD.out.2.1 i).2 h1, hl0 _⟩
          · rintro (h1 | ⟨h1, _⟩)
            · exact .inl h1
            · exact .inr ((HD.out.2.1 i).1 h1))
        have hT1 := HT2.out.marks HO.out ha1
        have hvp := HRG.out.owns
        have hr1 : Recs wr wr.heap.size 5 A n (cs.map Cd.row) := by
          have h1 := (HR.out.1.only HO2.out (by simp)).below (HO.out.to_below (Nat.le_trans HR.out.2.2 HO2.out.size) (fun g hg => by rw [List.mem_singleton.1 hg]; exact HNN.out.2.2.2.2.2.2.2.2))
          exact h1.more (Nat.le_trans HR.out.2.2 (Nat.le_trans HO2.out.size HO.out.size))
        obtain ⟨L, hL⟩ : ∃ L, callsL cs s = L := ⟨_, rfl⟩
        have HLN : Hid (L.length ≤ 65536) := Lib.hid (by rw [← hL]; exact Nat.le_trans callsL_len HNN.out.2.2.2.1)
        have HLL := Lib.hid hL
        have HCA := Lib.hid (called_any A n cc s mbp D cs wr.drew hr1 HR.out.2.1 HNN.out.2.2.2.2.2.2.1 HD.out.1 HD.out.2.1 hvp)
        have HT1 := Lib.hid hT1
        have HO1 : Hid (Only [mb, rb] w wr) := Lib.hid ((HO2.out.mono (by simp)).trans HO.out (fun g hg => .inl (by simp at hg; simp [hg])))
        have p1 : wr.cell? ⟨p, 0, none⟩ = some (.map (some mb)) := hT1.blk.cell 0
        have hS : (fun Y => Y.cell? ⟨p, 0, none⟩ = some (.map (some mb))) wr.drew := p1
        clear hl0 ha1 hT1 hvp hr1 hL
        go_upto_region 7 with fail
        refine wp_region_hand (S := (fun Y => Y.cell? ⟨p, 0, none⟩ = some (.map (some mb)))) (by kernel_rfl) ?_
        refine takeW (i := 0) rfl (by kernel_rfl) (by kernel_rfl) (by kernel_rfl) (fun _ _ _ h => h) rfl (by rfl) (v := .pointer (some ⟨p, 0, none⟩)) (fun Y hY => by have y0 := hY; go_simp) hS ?_
        simp only [List.setIfInBounds_toArray, List.set_cons_zero, List.set_cons_succ]
        refine takeW (i := 1) rfl (by kernel_rfl) (by kernel_rfl) (by kernel_rfl) (fun _ _ _ h => h) rfl (by rfl) (v := .pointer (some ⟨p, 0, none⟩)) (fun Y hY => by have y0 := hY; go_simp) hS ?_
        simp only [List.setIfInBounds_toArray, List.set_cons_zero, List.set_cons_succ]
        refine takeW (i := 2) rfl (by kernel_rfl) (by kernel_rfl) (by kernel_rfl) (fun _ _ _ h => h) rfl (by rfl) (v := .pointer (some ⟨p, 0, none⟩)) (fun Y hY => by have y0 := hY; go_simp) hS ?_
        simp only [List.setIfInBounds_toArray, List.set_cons_zero, List.set_cons_succ]
        refine takeW (i := 3) rfl (by kernel_rfl) (by kernel_rfl) (by kernel_rfl) (fun _ _ _ h => h) rfl (by rfl) (v := .map (some mb)) (fun Y hY => by have y0 := hY; go_simp) hS ?_
        simp only [List.setIfInBounds_toArray, List.set_cons_zero, List.set_cons_succ]
        refine takeW (i := 4) rfl (by kernel_rfl) (by kernel_rfl) (by kernel_rfl) (fun _ _ _ h => h) rfl (by rfl) (v := .int .i64 (s : Int)) (fun Y hY => by have y0 := hY; go_simp) hS ?_
        simp only [List.setIfInBounds_toArray, List.set_cons_zero, List.set_cons_succ]
        refine takeW (i := 5) rfl (by kernel_rfl) (by kernel_rfl) (by kernel_rfl) (fun _ _ _ h => h) rfl (by rfl) (v := .slice A n cc) (fun Y hY => by have y0 := hY; go_simp) hS ?_
        simp only [List.setIfInBounds_toArray, List.set_cons_zero, List.set_cons_succ]
        refine takeW (i := 6) rfl (by kernel_rfl) (by kernel_rfl) (by kernel_rfl) (fun _ _ _ h => h) rfl (by rfl) (v := .map (some mbp)) (fun Y hY => by have y0 := hY; go_simp) hS ?_
        simp only [List.setIfInBounds_toArray, List.set_cons_zero, List.set_cons_succ]
        refine callW (i := 7) rfl (by kernel_rfl) rfl (by rfl) ?_ (HCA.out) ?_
        · go_simp
        rintro x w3 ⟨v3, rfl, hown3, ho3⟩
        rw [HLL.out] at hown3
        obtain ⟨A3, c3, rfl, hc3, hsl3⟩ := sl_of hown3
        have ho3d : Only [] wr w3 := (Only.refl [] wr).drew.trans ho3 (by simp)
        have hT3 := HT1.out.only0 ho3d
        obtain ⟨f3, hv3, hf3⟩ := hT3.map
        obtain ⟨w4, hput, hv4, ho4⟩ := VM.run_put (P := Try.prog) 69 lawI Try.underlying69 hv3 (by have := HNN.out; unfold maxLen; omega) (.slice A3 L.length c3) (keyP (in64n (n := s) (by have := HNN.out; omega)))
        obtain ⟨hT4, hf4⟩ := hT3.put hf3 HNN.out.1 HNN.out.2.1 (c := c3) (A := A3) (by rw [HLL.out]; exact hsl3) (by rw [HLL.out]; exact hv4) ho4
        have hni4 : ∀ g ∈ [mb], ∀ c, ¬ Blk w3 g 3 c := fun g hg => hT3.not_int g (by simp at hg; simp [hg])
        have HSL := Lib.hid (hsl3.only ho4 hni4)
        have HT4 := Lib.hid hT4
        have HO4 : Hid (Only [mb, rb] w w4) := Lib.hid (HO1.out.trans ((ho3d.mono (S' := [mb, rb]) (by simp)).trans ho4 (by simp)) (fun g hg => .inl hg))
        have hS3 : (fun Y => Y.cell? ⟨p, 0, none⟩ = some (.map (some mb))) w3 := (HT1.out.only0 ho3d).blk.cell 0
        have hS4 : (fun Y => Y.cell? ⟨p, 0, none⟩ = some (.map (some mb))) w4 := hT4.blk.cell 0
        have p4 : w4.cell? ⟨p, 0, none⟩ = some (.map (some mb)) := hT4.blk.cell 0
        have hlk4 := VM.run_look1 hv4 lawI Try.underlying69 (zeroL w4) (keyP (in64n (n := s) (by have := HNN.out; omega)))
        rw [upd_same] at hlk4
        have hlk4 : (Instr.lookup 69 (.map (some mb)) (.int .i64 (s : Int)) false).run Try.prog w4 = .ok (.slice A3 L.length c3) w4 := hlk4
        clear hown3 hc3 ho3 ho3d hT3 hv3 hf3 hv4 ho4 hT4 hf4 hni4 hsl3
        refine ⟨_, rfl, hS3, ?_⟩
        simp only [List.setIfInBounds_toArray, List.set_cons_zero, List.set_cons_succ]
        refine oneS (i := 8) (v := undef) (w' := w4) rfl (by kernel_rfl) rfl (by rfl) (by first | (left; go_simp; done) | (right; go_simp; done)) hS4 ?_
        refine wpAnyH_done (by kernel_rfl) ?_ _
        clear hS hS3 hS4 hput p1
        go_wp2_with fail
        have HMID : Hid (Mid cs s K M [] (s :: K) (fun i => M i ∨ Rp cs s i)) := Lib.hid (mid_start HT.out.nd HNN.out.1 (fun i => Iff.rfl))
        clear hlk4 p4
        go_loopw [52] (fun iv w5 => ∃ (j : Nat) (Kj : List Nat) (Mj : Nat → Prop), iv = .int .i64 j ∧ j ≤ L.length ∧ TI w5 p mb rb cs Kj Mj ∧ Mid cs s K M (L.take j) Kj Mj ∧ Only [mb, rb] w4 w5) (fun iv _ => L.length - (intOf iv).toNat)
        case atStart => exact ⟨0, _, _, rfl, by omega, HT4.out, HMID.out, Only.refl _ _⟩
        case round =>
          rename_i wq _
          obtain ⟨j, Kj, Mj, rfl, hj, hT5, hmid, ho5⟩ := hrel
          have hsl5 := HSL.out.only ho5 HT4.out.not_int
          by_cases hlt : j < L.length
          · have d1 : decide ((j : Int) < (L.length : Int)) = true := decide_eq_true (by omega)
            have d1' : decide (j < L.length) = true := decide_eq_true hlt
            obtain ⟨b, off, t, rfl, ht, hcell⟩ := hsl5.at_ hlt
            have htc : IsCall cs s t := (mem_callsL HR.out.2.1).1 (by rw [HLL.out]; exact List.mem_of_getElem? ht)
            have htl := call_lt HR.out.2.1 htc
            have ho05 := HO4.out.trans ho5 (fun g hg => .inl hg)
            have hr5 := HR.out.1.below (ho05.to_below HR.out.2.2 (fun g hg => by
              simp only [List.mem_cons, List.not_mem_nil, or_false] at hg
              rcases hg with rfl | rfl
              · exact HNN.out.2.2.2.2.2.2.2.1
              · exact HNN.out.2.2.2.2.2.2.2.2))
            have hmk := more_keys HT.out.nd HNN.out.1 hmid.sub
            have HG := Lib.hid (HIH.out Kj Mj t _ hT5 hr5 (by have := HNN.out; omega) (by have := HNN.out; omega))
            have HMD := Lib.hid hmid
            have HTK := Lib.hid (And.intro ht (And.intro htc hlt))
            have HO5 := Lib.hid ho5
            clear hT5 hmid ho5 hsl5 ht htc htl ho05 hr5 hmk hj
            go_wp2_with (go_at_call 48; refine HG.out.mono ?_; rintro y w6 ⟨rfl, K2, M2, hT6, hg6, ho6⟩; have HT6 := Lib.hid hT6; have HG6 := Lib.hid (And.intro hg6 ho6); clear hT6 hg6 ho6)
            have hw : wrap64 ((j : Int) + 1) = ((j + 1 : Nat) : Int) := by have := HLN.out; rw [wrap_le (by omega) (by omega)]; omega
            go_roundw
            case rel =>
              refine ⟨j + 1, K2, M2, by rw [hw], by omega, HT6.out, ?_, HO5.out.trans HG6.out.2 (fun g hg => .inl hg)⟩
              obtain ⟨h1, h2⟩ := List.getElem?_eq_some_iff.1 HTK.out.1
              rw [List.take_succ_eq_append_getElem h1, h2]
              exact mid_next HMD.out HTK.out.2.1 HG6.out.1
            case measure => rw [hw]; simp [intOf]; omega
          · have hjl : j = L.length := by omega
            have d1 : decide ((j : Int) < (L.length : Int)) = false := decide_eq_false (by omega)
            have d1' : decide (j < L.length) = false := decide_eq_false hlt
            have HF := Lib.hid (And.intro hT5 (And.intro hmid ho5))
            clear hT5 hmid ho5 hsl5 hj hlt
            go_wp2_with fail
            go_end0
            refine ⟨rfl, Kj, Mj, HF.out.1, mid_end HF.out.2.1 HNN.out.1 (fun t ht => ?_), HO4.out.trans HF.out.2.2 (fun g hg => .inl hg)⟩
            rw [hjl, List.take_length, ← HLL.out]
            exact (mem_callsL HR.out.2.1).2 ht
      · intro s2 u w5 cnt5 hl hfs hrg5 hlt ho5 hsz5 hen
        have hsm := seenF_mem hfs
        obtain ⟨i, hi, rfl⟩ := List.mem_map.1 hsm
        have hin : i < cs.length := rp_lt HR.out.2.1 HNN.out.2.1 ((HD.out.2.1 i).1 hi)
        unfold mkT at hen ⊢
        obtain ⟨R, hRl, hRb, hRM⟩ := HAR.out
        have hrx := HX.out
        have hRb5 := hRb.only ho5 (by simp; omega)
        obtain ⟨bb, hbb⟩ : ∃ bb, R[i]? = some bb := ⟨_, List.getElem?_eq_getElem (by omega)⟩
        have c5 : w5.cell? ⟨rb, i, none⟩ = some (.bool bb) := by
          rw [hRb5.cell i, List.getElem?_toArray, List.getElem?_map, hbb]
          rfl
        have z5 := hRb5.frozen i
        have ho25 : Only [rb] w1 w5 := HO.out.trans ho5 (fun g hg => by rw [List.mem_singleton.1 hg]; exact .inr hrx.2.2)
        have hT5 := HT2.out
        have hp1 : w5.cell? ⟨p, 1, none⟩ = some (.slice (some ⟨rb, 0, none⟩) cs.length cs.length) := (HT2.out.blk.only ho25 (by simpa using HT2.out.ne.2.2)).cell 1
        have hvr5 := hrg5.only ((Only.refl [rb] w5).setCell (p := ⟨rb, i, none⟩) (.inl (by simp)) (.bool true)) (by have := HD.out.2.2; simp; omega) (by simp; omega)
        have har5 : ArrL (w5.setCell ⟨rb, i, none⟩ (.bool true)) rb cs (fun j => M j ∨ (j ∈ D ∧ (fun z => left z && !z.sameKey (.int .i64 (i : Int))) (pk (j : Int)) = false)) :=
          arr_set (M := fun j => M j ∨ (j ∈ D ∧ left (pk (j : Int)) = false)) hRl hRb5 hRM hin (fun j => by
            rw [left_step]
            constructor
            · rintro (h1 | ⟨h1, h2 | h2⟩)
              · exact .inl (.inl h1)
              · exact .inl (.inr ⟨h1, h2⟩)
              · exact .inr h2
            · rintro ((h1 | ⟨h1, h2⟩) | h1)
              · exact .inl h1
              · exact .inr ⟨h1, .inl h2⟩
              · exact .inr ⟨h1 ▸ hi, .inr h1⟩)
        have hoo5 : Only [rb] w1 (w5.setCell ⟨rb, i, none⟩ (.bool true)) := ho25.setCell (.inl (by simp)) _
        have HZ := Lib.hid (And.intro hvr5 (And.intro har5 (And.intro hoo5 hlt)))
        clear hl hfs hrg5 hlt ho5 hsz5 hsm hi hRl hRb hRM hrx hRb5 hbb ho25 hT5 hvr5 har5 hoo5
        go_wp2_with fail
        go_roundw
        case rel => exact ⟨_, cnt5, HZ.out.1, HZ.out.2.1, HZ.out.2.2.1⟩
        case measure => rw [HZ.out.1.left_eq, HRG.out.left_eq]; exact HZ.out.2.2.2
end Go.Proofs.Ytkdacemachejoaa.Vm
