/- The document's Starts. -/
import Derived.Test.YtkdacemachejoaaVeRCallsq
namespace Go.Proofs.Ytkdacemachejoaa.Vm
open Go.RowKit Go.Shelf Go.Maps Object
set_option linter.unusedVariables false
set_option maxRecDepth 100000
theorem putL_new : ∀ {l : List Nat} {s : Nat}, s ∉ l → (putL l s).length = l.length + 1
  | [], s, _ => rfl
  | a :: t, s, h => by
    have h1 : ¬ a = s := fun e => h (by simp [e])
    have h2 : s ∉ t := fun e => h (by simp [e])
    unfold putL
    split
    · simp [putL_new h2]
    · first | (rw [if_neg h1]; simp) | simp
theorem putL_had : ∀ {l : List Nat} {s : Nat}, Asc l → s ∈ l → putL l s = l
  | [], s, _, h => absurd h (by simp)
  | a :: t, s, ha, h => by
    obtain ⟨h1, h2⟩ := List.pairwise_cons.1 ha
    unfold putL
    rcases List.mem_cons.1 h with rfl | h
    · rw [if_neg (Nat.lt_irrefl _), if_pos rfl]
    · rw [if_pos (h1 s h), putL_had h2 h]
structure SI (cs : List Cd) (W : List Nat) (k : Nat) : Prop where
  nd : W.Nodup
  seen : ∀ s ∈ W, Rs cs s
  start : 0 ∈ W
  closed : ∀ j, j < k → ∀ s, W[j]? = some s → ∀ t, IsCall cs s t → t ∈ W
section
variable {cs : List Cd} {k t s : Nat} {W : List Nat}
theorem si_start : SI cs [0] 0 := ⟨by simp, fun j hj => by rw [List.mem_singleton.1 hj]; exact .zero, by simp, fun j hj => absurd hj (by omega)⟩
theorem si_put (h : SI cs W k) (hk : k ≤ W.length) (ht : Rs cs t) (hn : t ∉ W) : SI cs (W ++ [t]) k := by
  refine ⟨?_, fun j hj => ?_, by simp [h.start], fun j hj i hi u hu => ?_⟩
  · rw [List.nodup_append]
    exact ⟨h.nd, by simp, fun a ha b hb e => hn (by rw [List.mem_singleton.1 hb] at e; exact e ▸ ha)⟩
  · rcases List.mem_append.1 hj with hj | hj
    · exact h.seen j hj
    · rw [List.mem_singleton.1 hj]; exact ht
  · rw [List.getElem?_append_left (by omega)] at hi
    exact List.mem_append_left _ (h.closed j hj i hi u hu)
theorem si_next (h : SI cs W k) (hi : W[k]? = some s) (hl : ∀ u, IsCall cs s u → u ∈ W) : SI cs W (k + 1) := by
  refine ⟨h.nd, h.seen, h.start, fun j hj i' hi' u hu => ?_⟩
  by_cases e : j = k
  · subst e
    rw [hi] at hi'
    obtain rfl := Option.some.inj hi'
    exact hl u hu
  · exact h.closed j (by omega) i' hi' u hu
theorem si_done (h : SI cs W k) (hk : k = W.length) (j : Nat) : j ∈ W ↔ Rs cs j := by
  constructor
  · exact h.seen j
  · intro hj
    induction hj with
    | zero => exact h.start
    | call _ hl ih =>
      obtain ⟨m, hm⟩ := List.getElem?_of_mem ih
      have := (List.getElem?_eq_some_iff.1 hm).1
      exact h.closed m (by omega) _ hm _ hl
theorem si_len (hR : vmRight cs = true) (h : SI cs W k) : W.length ≤ cs.length := nodup_bound h.nd (fun j hj => rs_lt hR (h.seen j hj))
end
/-- both lists in memory -/
structure SL (w wr : World) (cs : List Cd) (v u : Value) (W O : List Nat) (k : Nat) : Prop where
  ow : OwnR 3 1 wr w.heap.size v W.length (intsR W)
  oo : OwnR 3 1 wr w.heap.size u O.length (intsR O)
  asc : Asc O
  same : ∀ x, x ∈ O ↔ x ∈ W
  inv : SI cs W k
  kle : k ≤ W.length
  dis : ∀ g ∈ ownL u, g ∉ ownL v
  only : Only [] w wr
theorem sl_olen {w wr : World} {cs : List Cd} {v u : Value} {W O : List Nat} {k : Nat} (hR : vmRight cs = true) (h : SL w wr cs v u W O k) : O.length ≤ cs.length :=
  nodup_bound (h.asc.imp (fun h => Nat.ne_of_lt h)) (fun x hx => rs_lt hR (h.inv.seen x ((h.same x).1 hx)))
theorem sl_had {w wr w6 : World} {cs : List Cd} {v u u6 : Value} {W O : List Nat} {k t : Nat} (h : SL w wr cs v u W O k) (ho : OwnR 3 1 w6 w.heap.size u6 O.length (intsR O)) (h6 : Only [] wr w6) (hf : FreshV wr u u6) : SL w w6 cs v u6 W O k :=
  ⟨h.ow.only h6 (by simp), ho, h.asc, h.same, h.inv, h.kle, fun g hg hm => by
    rcases hf g hg with h1 | h1
    · exact h.dis g h1 hm
    · have := (h.ow.lt g hm).2; omega, h.only.trans h6 (by simp)⟩
theorem sl_put {w wr w6 w7 : World} {cs : List Cd} {v v7 u u6 : Value} {W O : List Nat} {k t : Nat} (h : SL w wr cs v u W O k) (ht : Rs cs t) (hn : t ∉ W) (ho : OwnR 3 1 w6 w.heap.size u6 (putL O t).length (intsR (putL O t))) (h6 : Only [] wr w6) (hf : FreshV wr u u6)
    (hE : ExtR 3 1 w6 w7 w.heap.size v v7 (W.length + 1) (intsR W ++ [[.int .i64 (t : Int)]])) : SL w w7 cs v7 u6 (W ++ [t]) (putL O t) k := by
  have hd : ∀ g ∈ ownL u6, g ∉ ownL v := fun g hg hm => by
    rcases hf g hg with h1 | h1
    · exact h.dis g h1 hm
    · have := (h.ow.lt g hm).2; omega
  refine ⟨?_, ho.only hE.only hd, h.asc.put, fun x => ?_, si_put h.inv h.kle ht hn, by have := h.kle; simp; omega, fun g hg hm => ?_, (h.only.trans h6 (by simp)).trans hE.only (fun g hg => .inr (h.ow.lt g hg).1)⟩
  · rw [List.length_append, intsR_append]
    exact hE.own
  · rw [mem_put, h.same, List.mem_append, List.mem_singleton]
    exact ⟨fun h => h.elim .inr .inl, fun h => h.elim .inr .inl⟩
  · rcases hE.fresh g hm with h1 | h1
    · exact hd g hg h1
    · have := (ho.lt g hg).2; omega
set_option maxHeartbeats 8000000 in
theorem rstarts_any (A : Option Addr) (n cc : Nat) (cs : List Cd) (w : World) (hr : Recs w w.heap.size 5 A n (cs.map Cd.row)) (hR : vmRight cs = true) :
    Calls Try.prog 16 #[.slice A n cc] w (OwnO (startsL cs) w) := by
  have hl : cs.length = n := by have := hr.1; simpa using this
  have hlen := (right_len hR).2.1
  have hpos := (right_len hR).1
  have HRI := Lib.hid (rvmright_any A n cc cs w hr (by omega))
  rw [hR] at HRI
  have HR := Lib.hid (And.intro hr hR)
  have HL := Lib.hid (And.intro hl (And.intro hlen hpos))
  clear hr hR hl hlen hpos
  go_enter Try.func16, Try.ntmps16
  go_wp2_with (go_at_call 5; refine HRI.out.mono ?_; rintro y w1 ⟨rfl, ho1⟩; have HO1 := Lib.hid ho1; clear ho1; obtain ⟨w2, hw2⟩ : ∃ w2, w1.alloc (.cells #[.int .i64 0] 3) = w2 := ⟨_, rfl⟩; obtain ⟨w3, hw3⟩ : ∃ w3, w2.alloc (.cells #[.int .i64 0] 3) = w3 := ⟨_, rfl⟩)
  have HQ0 : Hid (SL w w3 cs (.slice (some ⟨w1.heap.size, 0, none⟩) 1 1) (.slice (some ⟨w2.heap.size, 0, none⟩) 1 1) [0] [0] 0) := Lib.hid (by
    have b2 : Blk w2 w1.heap.size 3 #[.int .i64 0] := by rw [← hw2]; exact Blk.new w1 _ _
    have b3 : Blk w3 w2.heap.size 3 #[.int .i64 0] := by rw [← hw3]; exact Blk.new w2 _ _
    have o2 : Only [] w1 w2 := by rw [← hw2]; exact (Only.refl [] w1).alloc _
    have o3 : Only [] w2 w3 := by rw [← hw3]; exact (Only.refl [] w2).alloc _
    have s1 := HO1.out.size
    have l2 := b2.lt
    exact ⟨row_one (b2.only o3 (by simp)) s1 rfl, row_one b3 (by omega) rfl, by unfold Asc; simp, fun x => Iff.rfl, si_start, by simp, fun g hg hm => by
      have e1 : g = w2.heap.size := by simpa [ownL, Value.ownBlock] using hg
      have e2 : g = w1.heap.size := by simpa [ownL, Value.ownBlock] using hm
      omega, HO1.out.trans (o2.trans o3 (by simp)) (by simp)⟩)
  clear hw2 hw3
  go_loopw [3, 4, 5] (fun v u kv wr => ∃ (k : Nat) (W O : List Nat), kv = .int .i64 (k : Int) ∧ SL w wr cs v u W O k) (fun _ _ kv _ => n - (intOf kv).toNat)
  case atStart => exact ⟨0, [0], [0], rfl, HQ0.out⟩
  case round =>
    clear HQ0
    rename World => wo
    obtain ⟨k, W, O, rfl, hQ⟩ := hrel
    obtain ⟨A1, c1, rfl, hs1, hs2, hs3, hs4⟩ := hQ.ow.shape (by decide)
    obtain ⟨A2, c2, rfl, ht1, ht2, ht3, ht4⟩ := hQ.oo.shape (by decide)
    have hwl := si_len HR.out.2 hQ.inv
    by_cases hlt : k < W.length
    · have d1 : decide ((k : Int) < (W.length : Int)) = true := decide_eq_true (by omega)
      have d1' : decide (k < W.length) = true := decide_eq_true hlt
      obtain ⟨s, hi⟩ : ∃ i, W[k]? = some i := ⟨_, List.getElem?_eq_getElem hlt⟩
      obtain ⟨bs, os, s', hA1, hi2, hcell⟩ := (Sl.at_ (L := W) (by
        obtain ⟨A3, c3, e3, _, hsl⟩ := sl_of hQ.ow
        injection e3 with e3
        rw [← e3] at hsl
        exact hsl) hlt)
      subst hA1
      obtain rfl : s' = s := by rw [hi] at hi2; exact (Option.some.inj hi2).symm
      have hrs := hQ.inv.seen s' (List.mem_of_getElem? hi)
      have hin := rs_lt HR.out.2 hrs
      have HCA := Lib.hid (rcalls_any A n cc s' cs wo ((HR.out.1.only hQ.only (by simp)).more hQ.only.size) HR.out.2 (by have := HL.out; omega))
      have HQ := Lib.hid hQ
      have HC := Lib.hid (And.intro hi (And.intro hrs (And.intro hlt hwl)))
      have HK := Lib.hid (show k < n by have := HL.out; omega)
      obtain ⟨CL, hCL⟩ : ∃ CL, callsL cs s' = CL := ⟨_, rfl⟩
      rw [hCL] at HCA
      have HCL := Lib.hid hCL
      have HCN : Hid (CL.length ≤ 65536) := Lib.hid (by rw [← hCL]; exact Nat.le_trans callsL_len HL.out.2.1)
      clear hs1 hs2 hs3 hs4 ht1 ht2 ht3 ht4 hQ hwl hi hi2 hin hrs hCL
      go_wp2_with (go_at_call 21; refine HCA.out.mono ?_; rintro y w6 ⟨v6, rfl, hown6, ho6⟩; obtain ⟨At, ct, rfl, hct, hsl6⟩ := sl_of hown6; have HS6 := Lib.hid (And.intro hsl6 (And.intro hown6 ho6)); clear hsl6 hown6 ho6 hct)
      clear hcell hlt
      go_loopw [3, 4, 7] (fun v2 u2 jv wr2 => ∃ (j : Nat) (W2 O2 : List Nat), jv = .int .i64 (j : Int) ∧ j ≤ CL.length ∧ SL w wr2 cs v2 u2 W2 O2 k ∧ (∀ t ∈ CL.take j, t ∈ W2) ∧ W2[k]? = some s' ∧ Sl wr2 At CL ∧ (∀ g ∈ blkOf At, g ∉ ownL v2)) (fun _ _ jv _ => CL.length - (intOf jv).toNat)
      case atStart =>
        have hq := HQ.out
        refine ⟨0, W, O, rfl, by omega, ⟨hq.ow.only HS6.out.2.2 (by simp), hq.oo.only HS6.out.2.2 (by simp), hq.asc, hq.same, hq.inv, hq.kle, hq.dis, hq.only.trans HS6.out.2.2 (by simp)⟩, by simp, HC.out.1, HS6.out.1, fun g hg hm => ?_⟩
        have h2 := (hq.ow.lt g hm).2
        have h3 : g ∈ ownL (.slice At CL.length ct) := by
          cases At with
          | none => simp [blkOf] at hg
          | some a => simpa [blkOf, ownL, Value.ownBlock] using hg
        have h1 := (HS6.out.2.1.lt g h3).1
        omega
      case round =>
        obtain ⟨j, W2, O2, rfl, hj, hQ2, htk, hki, hsl2, hno2⟩ := hrel
        obtain ⟨A3, c3, rfl, hs1, hs2, hs3, hs4⟩ := hQ2.ow.shape (by decide)
        obtain ⟨A4, c4, rfl, ht1, ht2, ht3, ht4⟩ := hQ2.oo.shape (by decide)
        have hwl2 := si_len HR.out.2 hQ2.inv
        have hol2 := sl_olen HR.out.2 hQ2
        by_cases hlt : j < CL.length
        · have d1 : decide ((j : Int) < (CL.length : Int)) = true := decide_eq_true (by omega)
          have d1' : decide (j < CL.length) = true := decide_eq_true hlt
          obtain ⟨bs2, os2, t, rfl, ht, hcell⟩ := hsl2.at_ hlt
          have hcall : IsCall cs s' t := (mem_callsL HR.out.2).1 (by rw [HCL.out]; exact List.mem_of_getElem? ht)
          have hrt : Rs cs t := .call HC.out.2.1 hcall
          have hw : wrap64 ((j : Int) + 1) = ((j + 1 : Nat) : Int) := by have := HCN.out; rw [wrap_le (by omega) (by omega)]; omega
          have HW := Lib.hid hw
          have HP := Lib.hid (rput_any (base := w.heap.size) t wr hQ2.oo hQ2.only.size (by have := HL.out; omega))
          have HT := Lib.hid (And.intro hQ2 (And.intro htk (And.intro hki (And.intro hsl2 hno2))))
          have HTT := Lib.hid (And.intro ht (And.intro hrt (And.intro hlt hwl2)))
          have hjt : j < CL.length := hlt
          obtain ⟨n0, hn0⟩ : ∃ m, O2.length = m := ⟨_, rfl⟩
          obtain ⟨n1, hn1⟩ : ∃ m, (putL O2 t).length = m := ⟨_, rfl⟩
          rw [hn0] at HP
          unfold PutO at HP
          rw [hn1] at HP
          rw [hn0]
          by_cases htm : t ∈ W2
          · have hm : t ∈ O2 := (hQ2.same t).2 htm
            have hpl : putL O2 t = O2 := putL_had hQ2.asc hm
            have h01 : n1 = n0 := by rw [← hn1, hpl, hn0]
            have dlt : decide ((n0 : Int) < (n1 : Int)) = false := decide_eq_false (by omega)
            have dlt' : decide (n0 < n1) = false := decide_eq_false (by omega)
            have HM := Lib.hid (And.intro htm (And.intro hpl (And.intro hn0 (And.intro hn1 h01))))
            clear hQ2 htk hki hsl2 hno2 ht hcall hrt hw hs1 hs2 hs3 hs4 ht1 ht2 ht3 ht4 hwl2 hol2 htm hm hpl h01 hj hlt hn0 hn1
            go_wp2_with (go_at_call 32; refine HP.out.mono ?_; rintro y w8 ⟨v8, rfl, hown8, ho8, hf8⟩; obtain ⟨A8, c8, rfl, hx1, hx2, hx3, hx4⟩ := hown8.shape (by decide); have HX := Lib.hid (And.intro hown8 (And.intro ho8 hf8)); clear hown8 ho8 hf8 hx1 hx2 hx3 hx4)
            have hq8 : SL w w8 cs (.slice A3 W2.length c3) (.slice A8 n1 c8) W2 O2 k := sl_had (t := t) HT.out.1 (by
              have h1 := HX.out.1
              rw [HM.out.2.1] at h1
              have e : n1 = O2.length := by rw [HM.out.2.2.2.2, HM.out.2.2.1]
              rw [e] at h1 ⊢
              exact h1) HX.out.2.1 (by have h9 := HX.out.2.2; rw [← HM.out.2.2.1] at h9; exact h9)
            rw [HW.out]
            refine ⟨⟨j + 1, W2, O2, rfl, hjt, hq8, fun u hu => ?_, HT.out.2.2.1, HT.out.2.2.2.1.only0 HX.out.2.1, HT.out.2.2.2.2⟩, by simp [intOf]; omega⟩
            rw [take_snoc HTT.out.1] at hu
            rcases List.mem_append.1 hu with hu | hu
            · exact HT.out.2.1 u hu
            · rw [List.mem_singleton.1 hu]; exact HM.out.1
          · have hm : t ∉ O2 := fun h => htm ((hQ2.same t).1 h)
            have h01 : n1 = n0 + 1 := by rw [← hn1, putL_new hm, hn0]
            have dlt : decide ((n0 : Int) < (n1 : Int)) = true := decide_eq_true (by omega)
            have dlt' : decide (n0 < n1) = true := decide_eq_true (by omega)
            have HM := Lib.hid (And.intro htm (And.intro hn0 hn1))
            have HB2 : Hid (W2.length + 1 ≤ 70000) := Lib.hid (by have := HL.out; omega)
            clear hQ2 htk hki hsl2 hno2 ht hcall hrt hw hs1 hs2 hs3 hs4 ht1 ht2 ht3 ht4 hwl2 hol2 htm hm h01 hj hlt hn0 hn1
            go_wp2_with (first
              | (at_builtin; refine wpList_append1 (w := w8) rfl (.tmp 44) (.tmp 49) 41 rfl Try.underlying41 int_info rfl (by decide) rfl HOW8.out.1 rfl rfl (row := [.int .i64 (t : Int)]) rfl rfl (by intro u hu; rw [List.mem_singleton.1 hu]; rfl) (by have := HB2.out; omega) (by have := HB2.out; unfold maxLen; omega) (Nat.le_succ_of_le HOW8.out.2) ?_; intro v9 w9 hE; obtain ⟨A9, c9, e9, _⟩ := hE.own.shape (by decide); subst e9; have HE := Lib.hid hE; clear hE)
              | (go_at_call 32; refine HP.out.mono ?_; rintro y w8 ⟨v8, rfl, hown8, ho8, hf8⟩; obtain ⟨A8, c8, rfl, hx1, hx2, hx3, hx4⟩ := hown8.shape (by decide); have HX := Lib.hid (And.intro hown8 (And.intro ho8 hf8)); have HOW8 := Lib.hid (And.intro (HT.out.1.ow.only ho8 (by simp)) (Nat.le_trans HT.out.1.only.size ho8.size)); have hcell8 := ho8.cell hcell (by simp); clear hown8 ho8 hf8 hx1 hx2 hx3 hx4))
            have hq9 := sl_put HT.out.1 HTT.out.2.1 HM.out.1 (by rw [HM.out.2.2]; exact HX.out.1) HX.out.2.1 (by have h9 := HX.out.2.2; rw [← HM.out.2.1] at h9; exact h9) HE.out
            rw [HW.out]
            refine ⟨⟨j + 1, W2 ++ [t], putL O2 t, rfl, hjt, hq9, fun u hu => ?_, ?_, (HT.out.2.2.2.1.only0 HX.out.2.1).apart HE.out.only HT.out.2.2.2.2, fun g hg hm => ?_⟩, by simp [intOf]; omega⟩
            · rw [take_snoc HTT.out.1] at hu
              rcases List.mem_append.1 hu with hu | hu
              · exact List.mem_append_left _ (HT.out.2.1 u hu)
              · exact List.mem_append_right _ hu
            · rw [List.getElem?_append_left (List.getElem?_eq_some_iff.1 HT.out.2.2.1).1]
              exact HT.out.2.2.1
            · rcases HE.out.fresh g hm with h1 | h1
              · exact HT.out.2.2.2.2 g hg h1
              · obtain ⟨cs', hb⟩ := (HT.out.2.2.2.1.only0 HX.out.2.1).2 g hg
                have := hb.lt
                omega
        · have hjl : j = CL.length := by omega
          have d1 : decide ((j : Int) < (CL.length : Int)) = false := decide_eq_false (by omega)
          have d1' : decide (j < CL.length) = false := decide_eq_false hlt
          have hki2 := (List.getElem?_eq_some_iff.1 hki).1
          have hQ9 : SL w wr cs (.slice A3 W2.length c3) (.slice A4 O2.length c4) W2 O2 (k + 1) := ⟨hQ2.ow, hQ2.oo, hQ2.asc, hQ2.same, si_next hQ2.inv hki (fun u hu => htk u (by
            rw [hjl, List.take_length, ← HCL.out]
            exact (mem_callsL HR.out.2).2 hu)), by omega, hQ2.dis, hQ2.only⟩
          have hw : wrap64 ((k : Int) + 1) = ((k + 1 : Nat) : Int) := by have := HK.out; have := HL.out; rw [wrap_le (by omega) (by omega)]; omega
          have HW := Lib.hid hw
          have HQ9 := Lib.hid hQ9
          clear hQ2 htk hki hsl2 hno2 hs1 hs2 hs3 hs4 ht1 ht2 ht3 ht4 hwl2 hol2 hj hlt hki2 hQ9 hw
          go_wp2_with fail
          rw [HW.out]
          exact ⟨⟨k + 1, W2, O2, rfl, HQ9.out⟩, by have := HK.out; simp [intOf]; omega⟩
    · have hkl : k = W.length := by have := hQ.kle; omega
      have d1 : decide ((k : Int) < (W.length : Int)) = false := decide_eq_false (by omega)
      have d1' : decide (k < W.length) = false := decide_eq_false hlt
      have he : O = startsL cs := asc_uniq hQ.asc startsL_asc (fun x => by rw [hQ.same, mem_startsL HR.out.2]; exact si_done hQ.inv hkl x)
      have HF := Lib.hid (And.intro (show OwnR 3 1 wo w.heap.size (.slice A2 O.length c2) (startsL cs).length (intsR (startsL cs)) by rw [← he]; exact hQ.oo) hQ.only)
      clear hQ hs1 hs2 hs3 hs4 ht1 ht2 ht3 ht4 hwl hlt he
      go_wp2_with fail
      go_ret
      exact ⟨_, rfl, HF.out.1, HF.out.2⟩
end Go.Proofs.Ytkdacemachejoaa.Vm
