/- The document's Part. -/
import Derived.Test.YtkdacemachejoaaVeRonq
namespace Go.Proofs.Ytkdacemachejoaa.Vm
open Go.RowKit Go.Shelf Go.Maps Object
set_option linter.unusedVariables false
set_option maxRecDepth 100000
theorem ArrL.only {w w' : World} {rb : Nat} {cs : List Cd} {M : Nat → Prop} {S : List Nat} (h : ArrL w rb cs M) (ho : Only S w w') (hS : rb ∉ S) : ArrL w' rb cs M := by
  obtain ⟨R, h1, h2, h3⟩ := h
  exact ⟨R, h1, h2.only ho hS, h3⟩
theorem ArrL.cell {w : World} {rb i : Nat} {cs : List Cd} {M : Nat → Prop} (h : ArrL w rb cs M) (hi : i < cs.length) : ∃ b : Bool, w.cell? ⟨rb, i, none⟩ = some (.bool b) ∧ (b = true ↔ M i) ∧ w.frozen? ⟨rb, i, none⟩ = false := by
  obtain ⟨R, h1, h2, h3⟩ := h
  have hg : R[i]? = some R[i] := List.getElem?_eq_getElem (by omega)
  refine ⟨R[i], ?_, h3 i _ hg, h2.frozen i⟩
  rw [h2.cell i, List.getElem?_toArray, List.getElem?_map, hg]
  rfl
theorem ArrL.set {w : World} {rb i : Nat} {cs : List Cd} {M M' : Nat → Prop} (h : ArrL w rb cs M) (hi : i < cs.length) (hM : ∀ j, M' j ↔ M j ∨ j = i) : ArrL (w.setCell ⟨rb, i, none⟩ (.bool true)) rb cs M' := by
  obtain ⟨R, h1, h2, h3⟩ := h
  exact arr_set h1 h2 h3 hi hM
theorem ArrL.not_own {w : World} {rb base n : Nat} {cs : List Cd} {M : Nat → Prop} {v : Value} {rows : List (List Value)} (h : ArrL w rb cs M) (ho : OwnR 3 1 w base v n rows) : rb ∉ ownL v := by
  obtain ⟨R, h1, h2, h3⟩ := h
  exact row_ne ho rb h2 (by decide)
theorem Sl.apart {w w' : World} {S : List Nat} {A : Option Addr} {L : List Nat} (h : Sl w A L) (ho : Only S w w') (hn : ∀ g ∈ blkOf A, g ∉ S) : Sl w' A L :=
  ⟨(h.1.only ho hn).more ho.size, fun g hg => by
    obtain ⟨cs, hb⟩ := h.2 g hg
    exact ⟨cs, hb.only ho (hn g hg)⟩⟩
/-- the worklist in memory -/
structure QL (w wr : World) (rb : Nat) (cs : List Cd) (f : Nat) (v : Value) (W : List Nat) (k : Nat) : Prop where
  own : OwnR 3 1 wr w.heap.size v W.length (intsR W)
  arr : ArrL wr rb cs (fun i => i ∈ W)
  inv : QI cs f W k
  kle : k ≤ W.length
  only : Only [] w wr
theorem ql_put {w wr w6 : World} {rb f k t : Nat} {cs : List Cd} {v v' : Value} {W : List Nat} (h : QL w wr rb cs f v W k) (hrb : w.heap.size ≤ rb) (ht : t < cs.length) (hr : Rp cs f t) (hn : t ∉ W)
    (hE : ExtR 3 1 (wr.setCell ⟨rb, t, none⟩ (.bool true)) w6 w.heap.size v v' (W.length + 1) (intsR W ++ [[.int .i64 (t : Int)]])) : QL w w6 rb cs f v' (W ++ [t]) k := by
  have h1 : ArrL (wr.setCell ⟨rb, t, none⟩ (.bool true)) rb cs (fun i => i ∈ W ++ [t]) := h.arr.set ht (fun j => by simp)
  have ho1 : Only [rb] wr (wr.setCell ⟨rb, t, none⟩ (.bool true)) := (Only.refl [rb] wr).setCell (.inl (by simp)) _
  have hno := h.arr.not_own h.own
  refine ⟨?_, h1.only hE.only hno, qi_put h.inv h.kle hr hn, by have := h.kle; simp; omega, (h.only.trans ho1 (fun g hg => .inr (by rw [List.mem_singleton.1 hg]; exact hrb))).trans hE.only (fun g hg => .inr (h.own.lt g hg).1)⟩
  rw [List.length_append, intsR_append]
  exact hE.own
theorem row_one {e : TypeId} {w : World} {g base : Nat} {v : Value} (h : Blk w g e #[v]) (hb : base ≤ g) (hv : v.oneCell' = true) : OwnR e 1 w base (.slice (some ⟨g, 0, none⟩) 1 1) 1 [[v]] :=
  ⟨rfl, by simp, ⟨by simp, .inr ⟨g, 1, #[v], rfl, hb, h, Nat.le_refl _, by simp [maxLen], by simp, by simp⟩⟩⟩
set_option maxHeartbeats 8000000 in
theorem rpart_any (A : Option Addr) (n cc f : Nat) (cs : List Cd) (w : World) (hr : Recs w w.heap.size 5 A n (cs.map Cd.row)) (hR : vmRight cs = true) (hf : f < n) :
    Calls Try.prog 33 #[.slice A n cc, .int .i64 (f : Int)] w fun y w' => ∃ g, y = .returned (.slice (some ⟨g, 0, none⟩) n n) ∧ ArrL w' g cs (Rp cs f) ∧ w.heap.size ≤ g ∧ Only [] w w' := by
  have hl : cs.length = n := by have := hr.1; simpa using this
  have hlen := (right_len hR).2.1
  obtain ⟨i0, hi0, hz0, hz1, hz2⟩ := info_parts bool_info
  obtain ⟨w1, hrun, hown, hgr⟩ := run_make_full (P := Try.prog) w w.heap.size 44 4 i0 _ 1 Try.underlying44 hi0 hz0 hz1 .i64 .i64 n (by rw [hz2]; omega) (by unfold maxLen; omega) (Nat.le_refl _)
  have o1 : Only [] w w1 := Only.of_grown hgr
  have hb1 := blk_full (by omega) hown
  rw [made_false] at hb1
  have ha1 : ArrL w1 w.heap.size cs (fun _ => False) := ⟨List.replicate n false, by rw [List.length_replicate, hl], hb1, fun i b hb => by
    have h1 := List.mem_of_getElem? hb
    rw [List.mem_replicate] at h1
    rw [h1.2]
    simp⟩
  obtain ⟨rb, hrb⟩ : ∃ rb, w.heap.size = rb := ⟨_, rfl⟩
  rw [hrb] at ha1
  obtain ⟨bq, q1, q2, q3⟩ := ha1.cell (i := f) (by omega)
  obtain ⟨w2, hw2⟩ : ∃ w2, w1.setCell ⟨rb, f, none⟩ (.bool true) = w2 := ⟨_, rfl⟩
  have ha2 : ArrL w2 rb cs (fun i => i ∈ [f]) := by rw [← hw2]; exact ha1.set (by omega) (fun j => by simp)
  have o2 : Only [] w w2 := by rw [← hw2]; exact o1.setCell (.inr (by show w.heap.size ≤ rb; omega)) _
  obtain ⟨w3, hw3⟩ : ∃ w3, w2.alloc (.cells #[.int .i64 (f : Int)] 3) = w3 := ⟨_, rfl⟩
  have b3 : Blk w3 w2.heap.size 3 #[.int .i64 (f : Int)] := by rw [← hw3]; exact Blk.new w2 _ _
  have o3 : Only [] w2 w3 := by rw [← hw3]; exact (Only.refl [] w2).alloc _
  have HQ0 : Hid (QL w w3 rb cs f (.slice (some ⟨w2.heap.size, 0, none⟩) 1 1) [f] 0) := Lib.hid ⟨row_one b3 o2.size rfl, ha2.only o3 (by simp), qi_start, by simp, o2.trans o3 (by simp)⟩
  have HR := Lib.hid (And.intro hr hR)
  have HL := Lib.hid (And.intro hl (And.intro hlen (And.intro hf (show w.heap.size ≤ rb by omega))))
  rw [hrb] at hrun
  have hfn : f < n := hf
  clear hr hR hl hlen hf hi0 hz0 hz1 hz2 hown hgr o1 hb1 ha1 q2 ha2 o2 b3 o3 hrb
  go_enter Try.func33, Try.ntmps33
  go_wp2_with fail
  clear hrun q1 q3 hw2 hw3
  go_loopw [6, 7] (fun v kv wr => ∃ (k : Nat) (W : List Nat), kv = .int .i64 (k : Int) ∧ QL w wr rb cs f v W k) (fun _ kv _ => n - (intOf kv).toNat)
  case atStart => exact ⟨0, [f], rfl, HQ0.out⟩
  case round =>
    clear HQ0
    rename_i v _
    rename World => wo
    obtain ⟨k, W, rfl, hQ⟩ := hrel
    obtain ⟨A1, c1, rfl, hs1, hs2, hs3, hs4⟩ := hQ.own.shape (by decide)
    have hwl := qi_len HR.out.2 (by have := HL.out; omega) hQ.inv
    by_cases hlt : k < W.length
    · have d1 : decide ((k : Int) < (W.length : Int)) = true := decide_eq_true (by omega)
      have d1' : decide (k < W.length) = true := decide_eq_true hlt
      obtain ⟨i, hi⟩ : ∃ i, W[k]? = some i := ⟨_, List.getElem?_eq_getElem hlt⟩
      obtain ⟨bs, os, is, hA1, hi2, hcell⟩ := (Sl.at_ (L := W) (by
        obtain ⟨A2, c2, e2, _, hsl⟩ := sl_of hQ.own
        injection e2 with e2
        rw [← e2] at hsl
        exact hsl) hlt)
      subst hA1
      obtain rfl : is = i := by rw [hi] at hi2; exact (Option.some.inj hi2).symm
      have hin : is < cs.length := rp_lt HR.out.2 (by have := HL.out; omega) (hQ.inv.seen is (List.mem_of_getElem? hi))
      obtain ⟨c, hc⟩ : ∃ c, cs[is]? = some c := ⟨_, List.getElem?_eq_getElem hin⟩
      have HON := Lib.hid (ron_any A n cc is cs c wo ((HR.out.1.only hQ.only (by simp)).more hQ.only.size) HR.out.2 hc)
      have HQ := Lib.hid hQ
      have HC := Lib.hid (And.intro hi (And.intro hin (And.intro hc (And.intro hlt hwl))))
      have HK := Lib.hid (show k < n by have := HL.out; omega)
      clear hs1 hs2 hs3 hs4 hQ hwl hi hi2 hin hc
      go_wp2_with (go_at_call 52; refine HON.out.mono ?_; rintro y w6 ⟨At, ct, rfl, hsl6, hfr6, ho6⟩; have HS6 := Lib.hid (And.intro hsl6 (And.intro hfr6 ho6)); clear hsl6 hfr6 ho6)
      clear hcell hlt
      obtain ⟨TL, hTL⟩ : ∃ TL, leadsN c is = TL := ⟨_, rfl⟩
      rw [hTL] at HS6
      rw [hTL]
      have HTL := Lib.hid hTL
      clear hTL
      go_loopw [6, 9] (fun v2 jv wr2 => ∃ (j : Nat) (W2 : List Nat), jv = .int .i64 (j : Int) ∧ j ≤ TL.length ∧ QL w wr2 rb cs f v2 W2 k ∧ (∀ t ∈ TL.take j, t ∈ W2) ∧ W2[k]? = some is ∧ Sl wr2 At TL ∧ (∀ g ∈ blkOf At, g ∉ ownL v2)) (fun _ jv _ => TL.length - (intOf jv).toNat)
      case atStart =>
        have hq := HQ.out
        refine ⟨0, W, rfl, by omega, ⟨hq.own.only HS6.out.2.2 (by simp), hq.arr.only HS6.out.2.2 (by simp), hq.inv, hq.kle, hq.only.trans HS6.out.2.2 (by simp)⟩, by simp, HC.out.1, HS6.out.1, fun g hg hm => ?_⟩
        have h1 := HS6.out.2.1 g hg
        have h2 := (hq.own.lt g hm).2
        omega
      case round =>
        rename_i v2 _
        obtain ⟨j, W2, rfl, hj, hQ2, htk, hki, hsl2, hno2⟩ := hrel
        obtain ⟨A2, c2, rfl, hs1, hs2, hs3, hs4⟩ := hQ2.own.shape (by decide)
        have hwl2 := qi_len HR.out.2 (by have := HL.out; omega) hQ2.inv
        by_cases hlt : j < TL.length
        · have d1 : decide ((j : Int) < (TL.length : Int)) = true := decide_eq_true (by omega)
          have d1' : decide (j < TL.length) = true := decide_eq_true hlt
          obtain ⟨bs2, os2, t, rfl, ht, hcell⟩ := hsl2.at_ hlt
          have hlead : Lead cs is t := ⟨c, HC.out.2.2.1, by rw [← mem_leadsN, HTL.out]; exact List.mem_of_getElem? ht⟩
          have htl : t < cs.length := lead_lt HR.out.2 hlead
          have hrt : Rp cs f t := .on (hQ2.inv.seen is (List.mem_of_getElem? hki)) hlead
          obtain ⟨b, r1, r2, r3⟩ := hQ2.arr.cell htl
          have htn : t < n := by have := HL.out; omega
          have hw : wrap64 ((j : Int) + 1) = ((j + 1 : Nat) : Int) := by
            have h9 : TL.length ≤ 2 := by rw [← HTL.out]; unfold leadsN; rw [List.length_map]; exact leadsZ_len c is
            rw [wrap_le (by omega) (by omega)]; omega
          have HW := Lib.hid hw
          have HT := Lib.hid (And.intro hQ2 (And.intro htk (And.intro hki (And.intro hsl2 hno2))))
          have HTT := Lib.hid (And.intro ht (And.intro hrt (And.intro htl (And.intro hlt hwl2))))
          have hjt : j < TL.length := hlt
          cases b with
          | true =>
            have htm : t ∈ W2 := r2.1 rfl
            have HTM := Lib.hid htm
            clear hQ2 htk hki hsl2 hno2 ht hlead htl hrt r2 hw hs1 hs2 hs3 hs4 hwl2 htm hj hlt
            go_wp2_with fail
            go_roundw
            case measure => rw [HW.out]; simp [intOf]; omega
            case rel =>
              refine ⟨j + 1, W2, by rw [HW.out], by omega, HT.out.1, fun u hu => ?_, HT.out.2.2.1, HT.out.2.2.2.1, HT.out.2.2.2.2⟩
              rw [take_snoc HTT.out.1] at hu
              rcases List.mem_append.1 hu with hu | hu
              · exact HT.out.2.1 u hu
              · rw [List.mem_singleton.1 hu]; exact HTM.out
          | false =>
            have htm : t ∉ W2 := fun hm => by have := r2.2 hm; cases this
            obtain ⟨w7, hw7⟩ : ∃ w7, wr.setCell ⟨rb, t, none⟩ (.bool true) = w7 := ⟨_, rfl⟩
            have ho7 : Only [rb] wr w7 := by rw [← hw7]; exact (Only.refl [rb] wr).setCell (.inl (by simp)) _
            have hown7 := hQ2.own.only ho7 (fun g hg hm => hQ2.arr.not_own hQ2.own (by rw [← List.mem_singleton.1 hm]; exact hg))
            have hni : ∀ g ∈ [rb], ∀ cs', ¬ Blk wr g 3 cs' := fun g hg cs' hb => by
              rw [List.mem_singleton.1 hg] at hb
              obtain ⟨R, _, hb2, _⟩ := hQ2.arr
              exact Blk.ne_ hb hb2 (by decide) rfl
            have hsl7 := hsl2.only ho7 hni
            have hc7 : w7.cell? ⟨bs2, os2 + j, none⟩ = some (.int .i64 (t : Int)) := by
              obtain ⟨b9, o9, t9, e9, ht9, hc9⟩ := hsl7.at_ hlt
              injection e9 with e9
              injection e9 with e1 e2 e3
              subst e1
              subst e2
              rw [ht] at ht9
              obtain rfl := Option.some.inj ht9
              exact hc9
            have hbw : w.heap.size ≤ w7.heap.size := Nat.le_trans hQ2.only.size ho7.size
            have HOW7 := Lib.hid (And.intro hown7 (And.intro hsl7 hbw))
            have HTM := Lib.hid htm
            have HB2 : Hid ((W2.length + 1) ≤ 70000) := Lib.hid (by have := HL.out; omega)
            have HX7 := Lib.hid hw7
            clear hQ2 htk hki hsl2 hno2 ht hlead htl hrt r2 hw hs1 hs2 hs3 hs4 hwl2 htm hj hlt ho7 hown7 hni hsl7 hbw
            go_wp2_with (at_builtin; refine wpList_append1 (w := w7) rfl (.tmp 50) (.tmp 55) 41 rfl Try.underlying41 int_info rfl (by decide) rfl HOW7.out.1 rfl rfl (row := [.int .i64 (t : Int)]) rfl rfl (by intro u hu; rw [List.mem_singleton.1 hu]; rfl) (by have := HB2.out; omega) (by have := HB2.out; unfold maxLen; omega) (Nat.le_succ_of_le HOW7.out.2.2) ?_; intro v' w8 hE; obtain ⟨A5, c5, e5, _⟩ := hE.own.shape (by decide); subst e5; have HE := Lib.hid hE; clear hE)
            have hQ8 := ql_put HT.out.1 HL.out.2.2.2 HTT.out.2.2.1 HTT.out.2.1 HTM.out (by rw [HX7.out]; exact HE.out)
            have hno8 : ∀ g ∈ blkOf (some (⟨bs2, os2, none⟩ : Addr)), g ∉ ownL (.slice A5 (W2.length + 1) c5) := fun g hg hm => by
              rcases HE.out.fresh g hm with h1 | h1
              · exact HT.out.2.2.2.2 g hg h1
              · obtain ⟨cs', hb⟩ := HOW7.out.2.1.2 g hg
                have := hb.lt
                omega
            have hsl8 := HOW7.out.2.1.apart HE.out.only HT.out.2.2.2.2
            rw [HW.out]
            refine ⟨⟨j + 1, W2 ++ [t], rfl, hjt, hQ8, fun u hu => ?_, ?_, hsl8, hno8⟩, by simp [intOf]; omega⟩
            · rw [take_snoc HTT.out.1] at hu
              rcases List.mem_append.1 hu with hu | hu
              · exact List.mem_append_left _ (HT.out.2.1 u hu)
              · exact List.mem_append_right _ hu
            · rw [List.getElem?_append_left (List.getElem?_eq_some_iff.1 HT.out.2.2.1).1]
              exact HT.out.2.2.1
        · have hjl : j = TL.length := by omega
          have d1 : decide ((j : Int) < (TL.length : Int)) = false := decide_eq_false (by omega)
          have d1' : decide (j < TL.length) = false := decide_eq_false hlt
          have hki2 := (List.getElem?_eq_some_iff.1 hki).1
          have hQ9 : QL w wr rb cs f (.slice A2 W2.length c2) W2 (k + 1) := ⟨hQ2.own, hQ2.arr, qi_next hQ2.inv hki (fun u hu => htk u (by
            obtain ⟨c', hc', hl'⟩ := hu
            rw [HC.out.2.2.1] at hc'
            obtain rfl := Option.some.inj hc'
            rw [hjl, List.take_length, ← HTL.out]
            exact mem_leadsN.2 hl')), by omega, hQ2.only⟩
          have hw : wrap64 ((k : Int) + 1) = ((k + 1 : Nat) : Int) := by have := HK.out; have := HL.out; rw [wrap_le (by omega) (by omega)]; omega
          have HW := Lib.hid hw
          have HQ9 := Lib.hid hQ9
          clear hQ2 htk hki hsl2 hno2 hs1 hs2 hs3 hs4 hwl2 hj hlt hki2 hQ9 hw
          go_wp2_with fail
          rw [HW.out]
          exact ⟨⟨k + 1, W2, rfl, HQ9.out⟩, by have := HK.out; simp [intOf]; omega⟩
    · have hkl : k = W.length := by have := hQ.kle; omega
      have d1 : decide ((k : Int) < (W.length : Int)) = false := decide_eq_false (by omega)
      have d1' : decide (k < W.length) = false := decide_eq_false hlt
      have HF := Lib.hid (And.intro (hQ.arr.congr (M' := Rp cs f) (fun i => (qi_done hQ.inv hkl i).symm)) hQ.only)
      clear hQ hs1 hs2 hs3 hs4 hwl hlt
      go_wp2_with fail
      go_ret
      exact ⟨rb, rfl, HF.out.1, HL.out.2.2.2, HF.out.2⟩
end Go.Proofs.Ytkdacemachejoaa.Vm
