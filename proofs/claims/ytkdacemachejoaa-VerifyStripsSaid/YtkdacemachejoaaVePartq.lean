/- verify.part: what is come to from an instruction. PRINTED by wip/gen_vepart.py. -/
import Derived.Test.YtkdacemachejoaaVeSeenq
namespace Go.Proofs.Ytkdacemachejoaa.Vm
open Go.RowKit Go.Maps Go.Shelf Object
set_option linter.unusedVariables false
set_option maxRecDepth 100000
attribute [local go_sem] Oper.semAt_some
theorem blk_grown {w w' : World} {g : Nat} {t : TypeId} {cs : Array Value} {row : Option Nat} (h : Blk w g t cs) (hg : w.grownBy w' row) (hr : ∀ r, row = some r → ∃ o : Obj, w.heap[r]? = some o ∧ o.isCells = false) : Blk w' g t cs :=
  h.only (Only.of_grown hg) fun hm => by
    obtain ⟨o, h1, h2⟩ := hr g (by simpa using hm)
    unfold Blk at h
    rw [h] at h1
    cases h1
    cases h2
theorem own_grown {w w' : World} {e size base n : Nat} {v : Value} {rows : List (List Value)} {row : Option Nat} (h : OwnR e size w base v n rows) (hg : w.grownBy w' row) (hr : ∀ r, row = some r → ∃ o : Obj, w.heap[r]? = some o ∧ o.isCells = false) : OwnR e size w' base v n rows :=
  h.only (Only.of_grown hg) fun g hgm hm => by
    obtain ⟨_, cs, hb⟩ := row_blks h g hgm
    obtain ⟨o, h1, h2⟩ := hr g (by simpa using hm)
    unfold Blk at hb
    rw [hb] at h1
    cases h1
    cases h2
theorem intsR_len (W : List Nat) : (intsR W).length = W.length := List.length_map _
theorem intsR_append (W V : List Nat) : intsR (W ++ V) = intsR W ++ intsR V := List.map_append
/-- what is appended, in its box -/
def InvP (q base : Nat) (w6 : World) (v0 : Value) (R0 : List (List Value)) (pre : List Int) (X : World) : Prop :=
  Only (q :: ownL v0) w6 X ∧ ∃ v, Blk X q 41 #[v] ∧ OwnR 3 1 X base v (R0.length + pre.length) (R0 ++ pre.map fun z => [.int .i64 z]) ∧ FreshV w6 v0 v
theorem InvP.own {q base : Nat} {w6 : World} {v0 : Value} {R0 : List (List Value)} : OwnFrom w6.heap.size (InvP q base w6 v0 R0) := fun s X Y row ⟨h1, v, h2, h3, h4⟩ hg hr =>
  ⟨h1.trans (Only.of_grown hg) (fun k hk => .inr (hr k (by simpa using hk)).1), v, blk_grown h2 hg (fun r e => (hr r e).2), own_grown h3 hg (fun r e => (hr r e).2), h4⟩
theorem InvP.only0 {q base : Nat} {w6 : World} {v0 : Value} {R0 : List (List Value)} (s : List Int) (X Y : World) (h : InvP q base w6 v0 R0 s X) (ho : Only [] X Y) : InvP q base w6 v0 R0 s Y := by
  obtain ⟨h1, v, h2, h3, h4⟩ := h
  exact ⟨h1.trans ho (by simp), v, h2.only ho (by simp), h3.only ho (by simp), h4⟩
theorem KpV.only0 {pb i : Nat} {X Y : World} (ho : Only [] X Y) : KpV pb i X Y := ⟨fun g cs hb => hb.only ho (by simp), fun hb => hb.only ho (by simp)⟩
theorem KpV.putObj {pb i l : Nat} {W : World} {o : Obj} (o' : Obj) (h : W.heap[l]? = some o) (hc : o.isCells = false) : KpV pb i W (W.putObj l o') := by
  have key : ∀ g t cs, Blk W g t cs → Blk (W.putObj l o') g t cs := fun g t cs hb => by
    have hne : g ≠ l := by
      rintro rfl
      unfold Blk at hb
      rw [hb] at h
      cases h
      cases hc
    unfold Blk
    rw [World.putObj_heap_other hne]
    exact hb
  exact ⟨fun g cs hb => key g _ cs hb, fun hb => key _ _ _ hb⟩
theorem InvP.next {q base pb i : Nat} {w6 X w8 : World} {v0 v v' : Value} {R0 : List (List Value)} {pre : List Int} {x : Int} (hq : q < pb) (hpb : pb + 1 < w6.heap.size) (hv0 : ∀ g ∈ ownL v0, g < pb) (hbase : base ≤ w6.heap.size) (ho : Only (q :: ownL v0) w6 X) (hb : Blk X q 41 #[v])
    (hown : OwnR 3 1 X base v (R0.length + pre.length) (R0 ++ pre.map fun z => [.int .i64 z])) (hf : FreshV w6 v0 v) (hE : ExtR 3 1 X w8 base v v' (R0.length + pre.length + 1) ((R0 ++ pre.map fun z => [.int .i64 z]) ++ [[.int .i64 x]])) :
    KeepsFrom w6.heap.size X (w8.setCell ⟨q, 0, none⟩ v') ∧ KpV pb i X (w8.setCell ⟨q, 0, none⟩ v') ∧ InvP q base w6 v0 R0 (pre ++ [x]) (w8.setCell ⟨q, 0, none⟩ v') := by
  have h5 : Only (q :: ownL v) X (w8.setCell ⟨q, 0, none⟩ v') := (hE.only.mono (fun g hg => .inl (List.mem_cons_of_mem _ hg))).setCell (p := ⟨q, 0, none⟩) (.inl (by simp)) _
  have hcells : ∀ g ∈ q :: ownL v, ∃ t cs, Blk X g t cs := by
    intro g hg
    rcases List.mem_cons.1 hg with rfl | hg
    · exact ⟨_, _, hb⟩
    · exact ⟨_, (row_blks hown g hg).2⟩
  have hqv : q ∉ ownL v := row_ne hown q hb (by decide)
  have hb8 := hb.only hE.only hqv
  have hqv' : q ∉ ownL v' := row_ne hE.own q hb8 (by decide)
  have hfr : ∀ g ∈ ownL v, g ∈ ownL v0 ∨ w6.heap.size ≤ g := hf
  refine ⟨(h5.others hcells).from _, ⟨fun g cs hg => hg.only h5 ?_, fun hg => hg.only h5 ?_⟩, ho.trans h5 (fun g hg => ?_), v', hb8.set_ 0 v', ?_, fun g hg => ?_⟩
  · rw [List.mem_cons, not_or]
    exact ⟨Blk.ne_ hg hb (by decide), row_ne hown g hg (by decide)⟩
  · rw [List.mem_cons, not_or]
    refine ⟨by omega, fun hm => ?_⟩
    rcases hfr _ hm with h1 | h1
    · have := hv0 _ h1; omega
    · omega
  · rcases List.mem_cons.1 hg with e | e
    · exact .inl (by simp [e])
    · rcases hfr g e with h1 | h1
      · exact .inl (List.mem_cons_of_mem _ h1)
      · exact .inr h1
  · have hE1 := hE.own.only ((Only.refl [q] w8).setCell (p := ⟨q, 0, none⟩) (.inl (by simp)) v') (fun g hg hm => by
      rw [List.mem_singleton.1 hm] at hg
      exact hqv' hg)
    rw [List.length_append, List.map_append, ← List.append_assoc, List.length_singleton, ← Nat.add_assoc]
    exact hE1
  · rcases hE.fresh g hg with h1 | h1
    · exact hfr g h1
    · exact .inr (Nat.le_trans ho.size h1)
/-- the worklist in memory -/
structure PL (w0 wr : World) (q mb : Nat) (cs : List Cd) (f : Nat) (D W : List Nat) : Prop where
  box : ∃ v, Blk wr q 41 #[v] ∧ OwnR 3 1 wr w0.heap.size v W.length (intsR W)
  map : VM Try.prog 3 wr mb D.length (seenF (zs D))
  inv : PInv cs f D W
  only : Only [] w0 wr
def PK (w0 wr : World) (q mb : Nat) (cs : List Cd) (f k : Nat) : Prop := ∃ D W, k = 3 * (cs.length - D.length) + W.length ∧ PL w0 wr q mb cs f D W
/-- the loop's frame -/
def PFr (w0 : World) (q mb : Nat) (A : Option Addr) (n cc f : Nat) (cs : List Cd) (a : Act) (wr : World) : Prop :=
  ∃ (Ds : List Nat) (x2 x3 x7 x8 x9 x10 x11 x12 x13 x14 x15 x16 x17 x18 x19 x20 x21 x22 x23 x24 x25 x26 x27 x28 x29 x30 x31 x32 x33 x34 x35 x36 x37 x38 x39 : Value), a = { tmps := #[.slice A n cc, .int .i64 (f : Int), x2, x3, .map none, .map (some mb), .pointer (some ⟨q, 0, none⟩), x7, x8, x9, x10, x11, x12, x13, x14, x15, x16, x17, x18, x19, x20, x21, x22, x23, x24, x25, x26, x27, x28, x29, x30, x31, x32, x33, x34, x35, x36, x37, x38, x39], defers := Ds.map mark } ∧ Marks wr w0.heap.size Ds ∧ ∃ k, PK w0 wr q mb cs f k
/-- what part answers -/
def PartO (w : World) (cs : List Cd) (f : Nat) (y : Ending) (w' : World) : Prop := ∃ mb D, y = .returned (.map (some mb)) ∧ D.Nodup ∧ (∀ j, j ∈ D ↔ Rp cs f j) ∧ VM Try.prog 3 w' mb D.length (seenF (zs D)) ∧ w.heap.size ≤ mb ∧ Only [] w w'
theorem int_info : (Try.prog.info? 3).map (fun i => (i.zero, i.size, i.bytes)) = some (some (.int .i64 0), 1, 8) := by kernel_rfl
set_option maxHeartbeats 4000000 in
theorem part_in (A : Option Addr) (n cc f : Nat) (cs : List Cd) (w : World) (hr : Recs w w.heap.size 5 A n (cs.map Cd.row)) (hR : vmRight cs = true) (hf : f < n) :
    CallsIn Fence.wide 7 Try.prog 35 #[.slice A n cc, .int .i64 (f : Int)] w (PartO w cs f) := by
  have hl : cs.length = n := by have := hr.1; simpa using this
  have hlen := (right_len hR).2.1
  obtain ⟨w1, hw1⟩ : ∃ w1, w.alloc (.map #[] 0) = w1 := ⟨_, rfl⟩
  have hv1 : VM Try.prog 3 w1 w.heap.size 0 (seenF (zs [])) := by rw [← hw1]; show VM _ _ _ _ _ (seenF []); rw [seenF_nil]; exact VM.made w _ _
  have o1 : Only [] w w1 := by rw [← hw1]; exact (Only.refl [] w).alloc _
  obtain ⟨w2, hw2⟩ : ∃ w2, w1.alloc (.cells #[.int .i64 (f : Int)] 3) = w2 := ⟨_, rfl⟩
  have b2 : Blk w2 w1.heap.size 3 #[.int .i64 (f : Int)] := by rw [← hw2]; exact Blk.new w1 _ _
  have o2 : Only [] w1 w2 := by rw [← hw2]; exact (Only.refl [] w1).alloc _
  obtain ⟨w3, hw3⟩ : ∃ w3, w2.alloc (.cells #[.slice none 0 0] 41) = w3 := ⟨_, rfl⟩
  have b3 : Blk w3 w2.heap.size 41 #[.slice none 0 0] := by rw [← hw3]; exact Blk.new w2 _ _
  have o3 : Only [] w2 w3 := by rw [← hw3]; exact (Only.refl [] w2).alloc _
  have z0 : w3.cell? ⟨w2.heap.size, 0, none⟩ = some (.slice none 0 0) := b3.cell 0
  have z1 := b3.frozen 0
  obtain ⟨w4, hw4⟩ : ∃ w4, w3.setCell ⟨w2.heap.size, 0, none⟩ (.slice (some ⟨w1.heap.size, 0, none⟩) 1 1) = w4 := ⟨_, rfl⟩
  have b4 : Blk w4 w2.heap.size 41 #[.slice (some ⟨w1.heap.size, 0, none⟩) 1 1] := by rw [← hw4]; exact b3.set_ 0 _
  have o4 : Only [] w2 w4 := by rw [← hw4]; exact o3.setCell (.inr (Nat.le_refl _)) _
  have o14 : Only [] w1 w4 := o2.trans o4 (by simp)
  have o04 : Only [] w w4 := o1.trans o14 (by simp)
  have s1 := o1.size
  have s2 := b2.lt
  have hPL : PL w w4 w2.heap.size w.heap.size cs f [] [f] :=
    ⟨⟨_, b4, ⟨rfl, by simp [intsR], ⟨by simp [intsR], .inr ⟨w1.heap.size, 1, #[.int .i64 (f : Int)], rfl, s1, b2.only o4 (by simp), Nat.le_refl _, by simp [maxLen], by simp, by simp [intsR]⟩⟩⟩⟩, hv1.only o14 (by simp), pinv_start, o04⟩
  have HPL := Lib.hid hPL
  have HR := Lib.hid (And.intro hr hR)
  have HL := Lib.hid (And.intro hl (And.intro hlen hf))
  have HQ := Lib.hid (And.intro s1 (Nat.le_of_lt (Nat.lt_of_le_of_lt s1 s2)))
  clear hr hR hl hlen hf hv1 o1 b2 o2 b3 o3 b4 o4 o14 o04 s1 s2 hPL
  have hmm := @run_makeMap Try.prog
  refine callsIn_of_wp_marks Try.func35 rfl trivial ?_ rfl
  simp only [Try.ntmps35, List.size_toArray, List.length_cons, List.length_nil, Nat.reduceAdd, Nat.reduceSub, Array.replicate_succ, Array.replicate_zero, List.push_toArray, List.append_toArray, List.nil_append, List.cons_append]
  gi_wp2
  clear hw1 hw2 hw3 hw4 z0 z1 hmm
  obtain ⟨q, hq⟩ : ∃ q, w2.heap.size = q := ⟨_, rfl⟩
  obtain ⟨mb, hmb⟩ : ∃ mb, w.heap.size = mb := ⟨_, rfl⟩
  rw [hq, hmb] at HPL
  rw [hq] at HQ
  rw [hq, hmb]
  have HMB := Lib.hid hmb
  clear hq hmb
  refine wpIn_loop (PFr w q mb A n cc f cs) (fun _ wr => leastM (PK w wr q mb cs f)) ⟨[], _, _, _, _, _, _, _, _, _, _, _, _, _, _, _, _, _, _, _, _, _, _, _, _, _, _, _, _, _, _, _, _, _, _, _, rfl, Marks.nil_, _, [], [f], rfl, HPL.out⟩ ?_
  rintro a wr ⟨Ds, x2, x3, x7, x8, x9, x10, x11, x12, x13, x14, x15, x16, x17, x18, x19, x20, x21, x22, x23, x24, x25, x26, x27, x28, x29, x30, x31, x32, x33, x34, x35, x36, x37, x38, x39, rfl, hmk, k, hPK⟩
  obtain ⟨D, W, hk, ⟨v, bq, hown⟩, hvm, hinv, ho⟩ := leastM_spec ⟨k, hPK⟩
  clear hPK
  have HK := Lib.hid hk
  have HMK := Lib.hid hmk
  clear hk hmk
  rcases List.eq_nil_or_concat W with rfl | ⟨W, i, rfl⟩
  · obtain ⟨A', c', rfl, h1, h2, h3, h4⟩ := hown.shape (by decide)
    have c0 : wr.cell? ⟨q, 0, none⟩ = some (.slice A' 0 c') := bq.cell 0
    have HF := Lib.hid (And.intro hinv (And.intro hvm ho))
    clear bq hown hvm hinv ho h1 h2 h3 h4
    gi_wp2
    refine leaves_marks Ds wr HMK.out (fun w' ho' => ?_)
    have hvm' := HF.out.2.1.only ho' (fun hm => by
      obtain ⟨Dm, ⟨es, clock, hh, _⟩, _⟩ := HF.out.2.1
      have h1 := (HMK.out.2 mb hm).2
      rw [hh] at h1
      cases h1)
    exact ⟨.map (some mb), by simp [results, Try.results35, go_sem], mb, D, rfl, HF.out.1.nd, fun j => (pinv_done HF.out.1 j).symm, hvm', by rw [HMB.out]; exact Nat.le_refl _, HF.out.2.2.trans ho' (fun g hg => .inr (HMK.out.2 g hg).1)⟩
  · rw [List.concat_eq_append] at hown hinv HK
    obtain ⟨m, hm⟩ : ∃ m, W.length = m := ⟨_, rfl⟩
    obtain ⟨n1, hn1⟩ : ∃ n1, m + 1 = n1 := ⟨_, rfl⟩
    have hwl : (W ++ [i]).length = n1 := by simp [hm, hn1]
    rw [hwl] at hown
    obtain ⟨A', c', rfl, hnc, h2, h3, hsh⟩ := hown.shape (by decide)
    rcases hsh with ⟨rfl, rfl⟩ | ⟨g, rfl, hgb, hgl⟩
    · omega
    have hir := hinv.wait i (by simp)
    have hi : i < n := by have := rp_lt HR.out.2 (by have := HL.out; omega) hir; have := HL.out; omega
    have c0 : wr.cell? ⟨q, 0, none⟩ = some (.slice (some ⟨g, 0, none⟩) n1 c') := bq.cell 0
    have y0 := bq.frozen 0
    have q1 : wr.cell? ⟨g, m, none⟩ = some (.int .i64 (i : Int)) := by
      have h5 := hown.cellOf (i := m) (j := 0) (by omega) (by decide)
      rw [Nat.mul_one, Nat.add_zero] at h5
      rw [h5]
      have e : (intsR (W ++ [i])).getD m [] = [.int .i64 (i : Int)] := by
        rw [intsR_append, List.getD_eq_getElem?_getD, List.getElem?_append_right (by rw [intsR_len]; omega), intsR_len, hm]
        simp [intsR]
      rw [e]
      rfl
    obtain ⟨w4, hw4⟩ : ∃ w4, wr.setCell ⟨q, 0, none⟩ (.slice (some ⟨g, 0, none⟩) m c') = w4 := ⟨_, rfl⟩
    have b4 : Blk w4 q 41 #[.slice (some ⟨g, 0, none⟩) m c'] := by rw [← hw4]; exact bq.set_ 0 _
    have o4 : Only [q] wr w4 := by rw [← hw4]; exact (Only.refl [q] wr).setCell (.inl (by simp)) _
    have hqg : q ∉ ownL (.slice (some ⟨g, 0, none⟩) n1 c') := row_ne hown q bq (by decide)
    have hcut : OwnR 3 1 w4 w.heap.size (.slice (some ⟨g, 0, none⟩) m c') W.length (intsR W) := by
      have h5 := hown.cut (i := m) (by omega)
      rw [show (intsR (W ++ [i])).take m = intsR W by rw [intsR_append, List.take_append_of_le_length (by rw [intsR_len]; omega), List.take_of_length_le (by rw [intsR_len]; omega)]] at h5
      rw [hm]
      exact h5.only o4 (fun g' hg' hm' => hqg (by rw [← List.mem_singleton.1 hm']; exact hg'))
    have hqm : mb ≠ q := vm_ne hvm bq
    have hv4 := hvm.only o4 (by simpa using hqm)
    have ho4 : Only [] w w4 := ho.trans o4 (fun g' hg' => .inr (by rw [List.mem_singleton.1 hg']; exact HQ.out.2))
    have hlk := VM.run_look1 hv4 lawI Try.underlying64 (zeroB _) (keyP (in64n (n := i) (by have := HL.out; omega)))
    rw [seenF_pk] at hlk
    have hdn : D.length ≤ n := nodup_bound hinv.nd (fun j hj => by have := rp_lt HR.out.2 (by have := HL.out; omega) (hinv.seen j hj); have := HL.out; omega)
    have hM4 : Marks w4 w.heap.size Ds := HMK.out.only o4 (fun g' hg' => by
      rw [List.mem_singleton.1 hg']
      exact ⟨_, bq, fun l h => by cases h⟩)
    have hwr : wrap64 ((n1 : Int) - 1) = (m : Int) := by
      have h5 : (n1 : Int) ≤ 9223372036854775807 := by unfold maxLen at h2; omega
      unfold wrap64
      omega
    by_cases hmem : i ∈ D
    · have hd : decide ((i : Int) ∈ zs D) = true := decide_eq_true (mem_zs.2 hmem)
      rw [hd] at hlk
      have HF : Hid (PL w w4 q mb cs f D W) := Lib.hid ⟨⟨_, b4, hcut⟩, hv4, pinv_seen hinv hmem, ho4⟩
      have HM4 := Lib.hid hM4
      have HN := Lib.hid (And.intro hwl hm)
      have hmn : m < n1 := by omega
      have hpos : decide ((0 : Int) < (n1 : Int)) = true := decide_eq_true (by omega)
      have hpos' : decide (0 < n1) = true := decide_eq_true (by omega)
      have hmc : m ≤ c' := by omega
      clear hd hown h2 h3 hnc hir hi b4 o4 hqg hcut hqm hv4 ho4 hdn hM4 hvm hinv ho bq hgb hgl hwl hm hn1
      gi_wp2
      refine ⟨⟨Ds, _, _, _, _, _, _, _, _, _, _, _, _, _, _, _, _, _, _, _, _, _, _, _, _, _, _, _, _, _, _, _, _, _, _, _, rfl, HM4.out, _, D, W, rfl, HF.out⟩, ?_⟩
      have h1 := leastM_le (P := PK w w4 q mb cs f) ⟨D, W, rfl, HF.out⟩
      have h2 := HK.out
      rw [List.length_append, List.length_singleton] at h2
      omega
    · have hd : decide ((i : Int) ∈ zs D) = false := decide_eq_false (fun h => hmem (mem_zs.1 h))
      rw [hd] at hlk
      obtain ⟨w5, hput, hv5, ho5⟩ := VM.run_put (P := Try.prog) 64 lawI Try.underlying64 hv4 (by have := HL.out; unfold maxLen; omega) (.bool true) (keyP (in64n (n := i) (by have := HL.out; omega)))
      rw [seenF_cons] at hv5
      have hv5 : VM Try.prog 3 w5 mb (i :: D).length (seenF (zs (i :: D))) := hv5
      obtain ⟨c, hc⟩ : ∃ c, cs[i]? = some c := ⟨_, List.getElem?_eq_getElem (by have := HL.out; omega)⟩
      have b5 := b4.only ho5 (by simpa using fun h => hqm h.symm)
      have hmr4 : mb ∉ ownL (.slice (some ⟨g, 0, none⟩) m c') := vm_row hv4 hcut
      have hcut5 := hcut.only ho5 (fun g' hg' hm' => hmr4 (by rw [← List.mem_singleton.1 hm']; exact hg'))
      have hmbw : w.heap.size ≤ mb := by rw [HMB.out]; exact Nat.le_refl _
      have ho5' : Only [] w w5 := ho4.trans ho5 (fun g' hg' => .inr (by rw [List.mem_singleton.1 hg']; exact hmbw))
      have hM5 : Marks w5 w.heap.size Ds := hM4.only ho5 (fun g' hg' => by
        rw [List.mem_singleton.1 hg']
        obtain ⟨Dm, ⟨es, clock, hh, _⟩, _⟩ := hv4
        exact ⟨_, hh, fun l h => by cases h⟩)
      have HON := Lib.hid ((callsIn_wide (n := 6)).2 (on_any A n cc (i : Int) w5))
      have HF := Lib.hid (And.intro b5 (And.intro hcut5 (And.intro hv5 (And.intro (pinv_new hinv hmem hc) ho5'))))
      have HM5 := Lib.hid hM5
      have HC := Lib.hid (And.intro hc hi)
      have HN := Lib.hid (And.intro hwl (And.intro hm (And.intro hn1 hdn)))
      have HFEW := Lib.hid hinv.few
      have hmn : m < n1 := by omega
      have hpos : decide ((0 : Int) < (n1 : Int)) = true := decide_eq_true (by omega)
      have hpos' : decide (0 < n1) = true := decide_eq_true (by omega)
      have hmc : m ≤ c' := by omega
      have hir2 : i ∉ D := hmem
      have HIR := Lib.hid hir2
      clear hir2 hmem hd hown h2 h3 hnc hir hi b4 o4 hqg hcut hqm hv4 ho4 hdn hM4 hvm hinv ho bq hgb hgl hwl hm hn1 hv5 ho5 hc b5 hmr4 hcut5 ho5' hM5 hmbw
      gi_wp2_with (refine ⟨trivial, ?_⟩; gi_at_call 54; refine HON.out.mono ?_; rintro y w6 ⟨rfl, hb1, hb2, ho6⟩; have HB6 := Lib.hid (And.intro hb1 (And.intro hb2 ho6)); clear hb1 hb2 ho6)
      have b6 := HF.out.1.only HB6.out.2.2 (by simp)
      have hcut6 := HF.out.2.1.only HB6.out.2.2 (by simp)
      have hv6 := HF.out.2.2.1.only HB6.out.2.2 (by simp)
      have ho6 := HF.out.2.2.2.2.trans HB6.out.2.2 (by simp)
      have hM6 := HM5.out.only0 HB6.out.2.2
      have hlt6 : w5.heap.size + 1 < w6.heap.size := HB6.out.2.1.lt
      have hq5 : q < w5.heap.size := HF.out.1.lt
      have hg5 : ∀ g' ∈ ownL (.slice (some ⟨g, 0, none⟩) m c'), g' < w5.heap.size := fun g' hg' => (HF.out.2.1.lt g' hg').2
      have hbw6 : w.heap.size ≤ w6.heap.size := ho6.size
      have HI0 : Hid (InvP q w.heap.size w6 (.slice (some ⟨g, 0, none⟩) m c') (intsR W) [] w6) := Lib.hid ⟨Only.refl _ _, _, b6, by rw [intsR_len, List.map_nil, List.append_nil, List.length_nil, Nat.add_zero]; exact hcut6, FreshV.refl _ _⟩
      have HSQ := Lib.hid (on1_seq 6 (by omega) A n cc w5.heap.size w.heap.size i cs c HC.out.2 HC.out.1 (by have := HL.out; omega) w6 ⟨HB6.out.1, HB6.out.2.1, HR.out.1.only ho6 (by simp)⟩)
      have HP := Lib.hid (And.intro hq5 (And.intro hlt6 (And.intro hg5 hbw6)))
      have H6 := Lib.hid (And.intro hv6 (And.intro ho6 (And.intro hM6 (And.intro b6 hcut6))))
      have hm64 : m ≤ 65536 := by have := HFEW.out; have := HN.out; have := HL.out; omega
      clear b6 hcut6 hv6 ho6 hM6 hlt6 hq5 hg5 hbw6 hput c0 y0 q1 hw4 hwr hlk hmn hpos hpos' hmc hv5
      refine wpIn_rangeK rfl (by omega) (gf := 75) (lb := #[.pointer (some ⟨w5.heap.size, 0, none⟩), .pointer (some ⟨w5.heap.size + 1, 0, none⟩)]) rfl trivial (enters_of Try.func75 (by kernel_rfl) rfl)
        (encs := fun z : Int => #[.int .i64 z]) (Kp := KpV w5.heap.size i) HSQ.out (fun _ => rfl) (fun h k => h.trans k) (fun W l o o' hl h hc => KpV.putObj o' h hc)
        (InvP q w.heap.size w6 (.slice (some ⟨g, 0, none⟩) m c') (intsR W)) InvP.own InvP.only0 (fun s X Y _ ho => KpV.only0 ho) HI0.out (fun _ X => X) (fun _ X => Only.refl [] X) (fun _ _ _ => True) (fun _ _ => trivial) (fun _ _ _ _ _ _ _ _ _ => trivial) ?act1 ?assign ?body ?done
      case assign =>
        intro l x X K hK
        gi_wp2
        exact hK
      case body =>
        intro l pre x W0 X hI hM hW0 hP
        have hpl := hP.length_le
        rw [List.length_append, List.length_singleton] at hpl
        have hll := leadsZ_len c i
        obtain ⟨hoX, v, bX, hownX, hfX⟩ := hI
        have cX : X.cell? ⟨q, 0, none⟩ = some v := bX.cell 0
        have hz := hoX.size
        have hpre : (intsR W).length + pre.length + 1 ≤ 100000 := by rw [intsR_len]; have := HN.out; omega
        have HI := Lib.hid (And.intro hoX (And.intro bX (And.intro hownX hfX)))
        have HBZ : Hid (w.heap.size ≤ X.heap.size) := Lib.hid (Nat.le_trans HP.out.2.2.2 hz)
        have HPRE := Lib.hid hpre
        have HX := Lib.hid (And.intro hz hW0)
        clear hoX bX hownX hfX hpl hll hP hM hz hpre hm64 hW0
        gi_wp2_with (gi_at_builtin; (refine wpListIn_append1 (w := X) rfl _ _ 41 rfl Try.underlying41 int_info rfl (by decide) rfl HI.out.2.2.1 rfl rfl (row := [.int .i64 x]) rfl rfl (by intro u hu; rw [List.mem_singleton.1 hu]; rfl) (by have := HPRE.out; omega) (by have := HPRE.out; unfold maxLen; omega) (Nat.le_succ_of_le HBZ.out) ?_); intro v' w8 hE; obtain ⟨g', cap', e'⟩ := ownsRow_succ hE.own.own; subst e'; have q8 := (HI.out.2.1.only hE.only (row_ne HI.out.2.2.1 q HI.out.2.1 (by decide))).cell 0; have f8 := (HI.out.2.1.only hE.only (row_ne HI.out.2.2.1 q HI.out.2.1 (by decide))).frozen 0; have HE := Lib.hid hE; clear hE)
        exact InvP.next HP.out.1 HP.out.2.1 HP.out.2.2.1 HP.out.2.2.2 HI.out.1 HI.out.2.1 HI.out.2.2.1 HI.out.2.2.2 HE.out
      case done =>
        rintro Dm ys X hD hys hI hK
        subst hys
        obtain ⟨hoX, v, bX, hownX, hfX⟩ := hI
        have hmq : mb ≠ q := vm_ne H6.out.1 H6.out.2.2.2.1
        have hmr : mb ∉ ownL (.slice (some ⟨g, 0, none⟩) m c') := vm_row H6.out.1 H6.out.2.2.2.2
        have hvX := H6.out.1.only hoX (by rw [List.mem_cons, not_or]; exact ⟨hmq, hmr⟩)
        have hbq : w.heap.size ≤ q := HQ.out.2
        have hcell : ∀ g' ∈ q :: ownL (.slice (some ⟨g, 0, none⟩) m c'), ∃ t cs', Blk w6 g' t cs' := fun g' hg' => by
          rcases List.mem_cons.1 hg' with rfl | hg'
          · exact ⟨_, _, H6.out.2.2.2.1⟩
          · exact ⟨_, (row_blks H6.out.2.2.2.2 g' hg').2⟩
        have hMX : Marks X w.heap.size Ds := H6.out.2.2.1.only hoX (fun g' hg' => by
          obtain ⟨t, cs', hb'⟩ := hcell g' hg'
          exact ⟨_, hb', fun l h => by cases h⟩)
        have hMD : Marks X w.heap.size (Dm :: Ds) := hMX.cons (Nat.le_trans HP.out.2.2.2 hD) hK (fun hm => by
          have h1 := (Array.getElem?_eq_some_iff.1 (H6.out.2.2.1.2 Dm hm).2).1
          omega)
        have hoX' : Only [] w X := H6.out.2.1.trans hoX (fun g' hg' => by
          rcases List.mem_cons.1 hg' with rfl | hg'
          · exact .inr hbq
          · exact .inr (H6.out.2.2.2.2.lt g' hg').1)
        have hPL : PL w X q mb cs f (i :: D) (W ++ leadsN c i) := ⟨⟨v, bX, by
          have h5 := hownX
          rw [intsR_len, leadsZ_nat HR.out.2 HC.out.1, List.length_map, List.map_map] at h5
          rw [List.length_append, intsR_append]
          exact h5⟩, hvX, HF.out.2.2.2.1, hoX'⟩
        have HPLX := Lib.hid hPL
        have HMD := Lib.hid hMD
        clear hoX bX hownX hfX hmq hmr hvX hcell hMX hMD hoX' hPL hD hK
        try gi_wp2
        refine ⟨⟨Dm :: Ds, _, _, _, _, _, _, _, _, _, _, _, _, _, _, _, _, _, _, _, _, _, _, _, _, _, _, _, _, _, _, _, _, _, _, _, rfl, HMD.out, _, i :: D, _, rfl, HPLX.out⟩, ?_⟩
        have h1 := leastM_le (P := PK w X q mb cs f) ⟨i :: D, _, rfl, HPLX.out⟩
        have h2 := HK.out
        have h3 : (leadsN c i).length ≤ 2 := by unfold leadsN; rw [List.length_map]; exact leadsZ_len c i
        have h4 : (i :: D).length ≤ n := nodup_bound HF.out.2.2.2.1.nd (fun j hj => by have := rp_lt HR.out.2 (by have := HL.out; omega) (HF.out.2.2.2.1.seen j hj); have := HL.out; omega)
        have h5 := HL.out
        rw [List.length_append, List.length_singleton] at h2
        rw [List.length_append] at h1
        rw [List.length_cons] at h1 h4
        omega
theorem part_any (A : Option Addr) (n cc f : Nat) (cs : List Cd) (w : World) (hr : Recs w w.heap.size 5 A n (cs.map Cd.row)) (hR : vmRight cs = true) (hf : f < n) :
    Calls Try.prog 35 #[.slice A n cc, .int .i64 (f : Int)] w (PartO w cs f) := (callsIn_wide (n := 7)).1 (part_in A n cc f cs w hr hR hf)
end Go.Proofs.Ytkdacemachejoaa.Vm
