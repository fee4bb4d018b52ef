/- tree.Calls, where two calls come. PRINTED by wip/gen_trcalls2.py. -/
import Derived.Test.YtmjkohlhbboapaaTrSort
namespace Go.Proofs.Ytmjkohlhbboapaa.Tree
open Go.RowKit Go.Shelf
set_option linter.unusedVariables false
set_option maxRecDepth 100000
attribute [local go_sem] Oper.semAt_some
def mkX (x : XT) (W : World) : World := W.alloc (.cells #[.int .i64 x.op, .int .i64 x.n, .string x.s, .string x.q, .slice x.A x.X.length x.c] 28)
def boxX (x : XT) (W X : World) : Prop := Blk X W.heap.size 28 #[.int .i64 x.op, .int .i64 x.n, .string x.s, .string x.q, .slice x.A x.X.length x.c]
theorem InvC.keep {q : Nat} {w7 : World} (s : List XT) (X Y : World) (h : InvC q w7 s X) (ho : Only [] X Y) : KpT q X Y := by
  obtain ⟨_, _, v, h2, _⟩ := h
  exact KpT.only0 ho h2.lt
theorem InvC.skip {q : Nat} {w7 X : World} {pre : List XT} {x : XT} (h : InvC q w7 pre X) (hx : (x.op == 4) = false) : InvC q w7 (pre ++ [x]) X := by
  unfold InvC
  rw [callsL_no hx]
  exact h
theorem row_ne2 {w : World} {base e size n : Nat} {v : Value} {rows : List (List Value)} (h : OwnR e size w base v n rows) (g : Nat) {t : TypeId} {cs : Array Value} (hb : Blk w g t cs) (ht : t ≠ e) : g ∉ ownL v := by
  intro hg
  obtain ⟨_, h0⟩ := h.own
  rcases h0 with ⟨rfl, _⟩ | ⟨g', cap, cur, rfl, _, hh, _⟩
  · simp [ownL, Value.ownBlock] at hg
  · simp [ownL, Value.ownBlock] at hg
    subst hg
    exact Blk.ne_ (t := e) hh hb (fun h => ht h.symm) rfl
set_option maxHeartbeats 16000000 in
theorem calls_two (d : Nat) (f : FT) (s t : ByteArray) (w : World) (hf : FT.In w w.heap.size d f) (hT : callsL (f.body.flatMap (walkS d)) = [s, t]) (hsm : ∀ x ∈ f.body.flatMap (walkS d), x.s.size ≤ 1000 ∧ x.q.size ≤ 1000) (hlen : (f.body.flatMap (walkS d)).length ≤ 1000)
    (h1 : Op.bytesLess t.toList s.toList = false) (h2 : (t.toList == s.toList) = false) :
    Calls Try.prog 12 #[f.val] w fun e w' => ∃ g cap, e = .returned (.slice (some ⟨g, 0, none⟩) 2 cap) ∧ w'.cell? ⟨g, 0, none⟩ = some (.string s) ∧ w'.cell? ⟨g, 1, none⟩ = some (.string t) ∧ Only [] w w' := by
  refine (callsIn_wide (n := 7)).1 ?_
  obtain ⟨w1, hw1⟩ : ∃ w1, w.alloc (.cells #[.string f.name, .slice f.pA f.ps.length f.pc, .int .u8 f.r, .slice f.bA f.body.length f.bc] 35) = w1 := ⟨_, rfl⟩
  have b1 : Blk w1 w.heap.size 35 #[.string f.name, .slice f.pA f.ps.length f.pc, .int .u8 f.r, .slice f.bA f.body.length f.bc] := by rw [← hw1]; exact Blk.new w _ _
  have o1 : Only [] w w1 := by rw [← hw1]; exact (Only.refl [] w).alloc _
  obtain ⟨w2, hw2⟩ : ∃ w2, w1.alloc (.cells #[.slice none 0 0] 22) = w2 := ⟨_, rfl⟩
  have b2 : Blk w2 w1.heap.size 22 #[.slice none 0 0] := by rw [← hw2]; exact Blk.new w1 _ _
  have o2 : Only [] w1 w2 := by rw [← hw2]; exact (Only.refl [] w1).alloc _
  obtain ⟨w3, hw3⟩ : ∃ w3, w2.alloc (.cells #[.slice f.bA f.body.length f.bc] 29) = w3 := ⟨_, rfl⟩
  have b3 : Blk w3 w2.heap.size 29 #[.slice f.bA f.body.length f.bc] := by rw [← hw3]; exact Blk.new w2 _ _
  have o3 : Only [] w2 w3 := by rw [← hw3]; exact (Only.refl [] w2).alloc _
  have HEX := Lib.hid ((callsIn_wide (n := 6)).2 (exprs_any f.bA f.body.length f.bc w2))
  rw [hw3] at HEX
  have o13 := o1.trans (o2.trans o3 (by simp)) (by simp)
  have b23 := b2.only o3 (by simp)
  have l1 := b1.lt
  have l2 := b2.lt
  have l3 := b3.lt
  have p3 := (b1.only o2 (by simp)).cell 3
  obtain ⟨q, hq⟩ : ∃ q, w1.heap.size = q := ⟨_, rfl⟩
  have ht : TOK q w.heap.size w3 := ⟨by omega, by omega, fun g hg => by
    rw [← hq, rowT_of (b23.cell 0)] at hg
    have : g = w1.heap.size := by simpa [ownL, Value.ownBlock] using hg
    omega⟩
  have HSQ := Lib.hid (exprs1_seq 6 (by omega) w2.heap.size q w.heap.size f.bA f.body.length f.bc f.body d w3 b3 (recs_only hf.2.1.1 o13 (Nat.le_refl _)) hf.2.1.2 (fun y hy => (hf.2.2 y hy).only o13 (Nat.le_refl _)) ht)
  obtain ⟨T, hTT⟩ : ∃ T, f.body.flatMap (walkS d) = T := ⟨_, rfl⟩
  rw [hTT] at HSQ hT hsm hlen
  have HT := Lib.hid hT
  have HSM := Lib.hid hsm
  have HO3 := Lib.hid o13
  have HI0 : Hid (InvC q w3 [] w3) := Lib.hid ⟨Only.refl _ _, by omega, .slice none 0 0, by rw [← hq]; exact b23, OwnR.nil_ _ _ _ _, by simp [ownL, Value.ownBlock]⟩
  have HQ : Hid (w.heap.size < q ∧ q < w3.heap.size ∧ w.heap.size ≤ w3.heap.size) := Lib.hid ⟨by omega, by omega, by omega⟩
  unfold FT.val
  clear hf o1 o2 o3 o13 b23 l1 l2 l3 ht hTT hT hsm b1 b2 b3
  refine callsIn_of_wp_marks Try.func12 rfl trivial ?_ rfl
  simp only [Try.ntmps12, List.size_toArray, List.length_cons, List.length_nil, Nat.reduceAdd, Nat.reduceSub, Array.replicate_succ, Array.replicate_zero, List.push_toArray, List.append_toArray, List.nil_append, List.cons_append]
  gi_wp2
  refine ⟨trivial, HEX.out.mono ?_⟩
  rintro e wn ⟨rfl, hwn⟩
  have hwn := hwn.symm
  subst hwn
  clear hw1 hw2 hw3 HEX
  gi_wp2
  refine wpIn_rangeK rfl (by omega) (gf := 44) (lb := #[.pointer (some ⟨w2.heap.size, 0, none⟩)]) rfl trivial (enters_of Try.func44 (by kernel_rfl) rfl)
    (encs := fun x : XT => #[x.val]) (Kp := KpT q) HSQ.out (fun _ => rfl) (fun h k => h.trans k) (fun W l o o' hl h hc => KpT.putObj (by have := HQ.out; omega) h hc)
    (InvC q w3) (InvC.own q w3) (InvC.only0 q w3) InvC.keep HI0.out mkX (fun x W => (Only.refl [] W).alloc _) boxX (fun x W => Blk.new W _ _) (fun x W _ X Y row h hg hr => blk_grown h hg (fun r e => (hr r e).2)) ?act1 ?assign ?body ?done
  case assign =>
    intro l x W K hK
    unfold mkX at hK
    unfold XT.val
    gi_wp2
    exact hK
  case body =>
    intro l pre x W0 X hI hM hW0 hP
    have hxs := HSM.out x (hP.subset (by simp))
    have hpl := hP.length_le
    rw [List.length_append, List.length_singleton] at hpl
    have hcl := callsL_len pre
    unfold boxX at hM
    obtain ⟨ho, hq3, v, bX, hown, hqv⟩ := hI
    have m0 := hM.cell 0
    have m1 := hM.cell 1
    have m2 := hM.cell 2
    have m3 := hM.cell 3
    have m4 := hM.cell 4
    obtain ⟨fx, hfx⟩ : ∃ b, (x.op == 4) = b := ⟨_, rfl⟩
    have HFX := Lib.hid hfx
    cases fx
    · have HF := Lib.hid (InvC.skip (x := x) ⟨ho, hq3, v, bX, hown, hqv⟩ hfx)
      clear ho bX hown hqv hM
      gi_wp2
      exact ⟨KeepsFrom.refl _ _, KpT.refl _ _, HF.out⟩
    · have HCA := called_any x X.drew hxs
      have c0 : X.cell? ⟨q, 0, none⟩ = some v := bX.cell 0
      have HI := Lib.hid (And.intro ho (And.intro bX (And.intro hown hqv)))
      have HM := Lib.hid hM
      obtain ⟨cs, hcs⟩ : ∃ c, callS x = c := ⟨_, rfl⟩
      rw [hcs] at HCA
      have HCS := Lib.hid hcs
      unfold XT.val at HCA
      have HCA2 := Lib.hid HCA
      have hsx := ho.size
      clear hcs ho bX hown hqv hM HCA
      have hS : (fun Y : World => Y.cell? ⟨W0.heap.size, 0, none⟩ = some (.int .i64 x.op) ∧ Y.cell? ⟨W0.heap.size, 1, none⟩ = some (.int .i64 x.n) ∧ Y.cell? ⟨W0.heap.size, 2, none⟩ = some (.string x.s) ∧ Y.cell? ⟨W0.heap.size, 3, none⟩ = some (.string x.q) ∧ Y.cell? ⟨W0.heap.size, 4, none⟩ = some (.slice x.A x.X.length x.c)) X.drew := ⟨m0, m1, m2, m3, m4⟩
      gi_wp2
      refine wpIn_region_held (S := (fun Y : World => Y.cell? ⟨W0.heap.size, 0, none⟩ = some (.int .i64 x.op) ∧ Y.cell? ⟨W0.heap.size, 1, none⟩ = some (.int .i64 x.n) ∧ Y.cell? ⟨W0.heap.size, 2, none⟩ = some (.string x.s) ∧ Y.cell? ⟨W0.heap.size, 3, none⟩ = some (.string x.q) ∧ Y.cell? ⟨W0.heap.size, 4, none⟩ = some (.slice x.A x.X.length x.c))) (by kernel_rfl) (noDefer_all (by kernel_rfl)) (by rintro ⟨a, w, h⟩; exact h) ?_
      have HM8 : Hid (W0.heap.size ∉ ownL v) := Lib.hid (row_ne2 HI.out.2.2.1 W0.heap.size HM.out (by decide))
      have HWQ : Hid (W0.heap.size ≠ q) := Lib.hid (by have := HQ.out; omega)
      have hlX := HQ.out
      refine takeW (i := 1) rfl (by kernel_rfl) (by kernel_rfl) (by kernel_rfl) (fun _ _ _ h => h) rfl (by rfl) (v := .agg #[.int .i64 x.op, .int .i64 x.n, .string x.s, .string x.q, .slice x.A x.X.length x.c]) (fun Y hY => by obtain ⟨y0, y1, y2, y3, y4⟩ := hY; go_simp) hS ?_
      simp only [List.setIfInBounds_toArray, List.set_cons_zero, List.set_cons_succ]
      refine twoH (i := 0) (j := 2) rfl rfl (by kernel_rfl) rfl rfl ?_ ?_
      · refine val_if (v := v) (w' := X.drew) rfl (by rfl) (by go_simp) ?_
        refine ⟨hS, ?_⟩
        simp only [List.setIfInBounds_toArray, List.set_cons_zero, List.set_cons_succ]
        refine callW (i := 2) rfl (by kernel_rfl) rfl (by rfl) ?_ HCA2.out ?_
        · go_simp
        rintro e5 w5 ⟨rfl, ho5⟩
        have h05 : Only [] X w5 := ((Only.refl [] X).drew).trans ho5 (by simp)
        have HO5 := Lib.hid h05
        have hz5 := h05.size
        have bX5 := HI.out.2.1.only h05 (by simp)
        have bM5 := HM.out.only h05 (by simp)
        have hS5 : (fun Y : World => Y.cell? ⟨W0.heap.size, 0, none⟩ = some (.int .i64 x.op) ∧ Y.cell? ⟨W0.heap.size, 1, none⟩ = some (.int .i64 x.n) ∧ Y.cell? ⟨W0.heap.size, 2, none⟩ = some (.string x.s) ∧ Y.cell? ⟨W0.heap.size, 3, none⟩ = some (.string x.q) ∧ Y.cell? ⟨W0.heap.size, 4, none⟩ = some (.slice x.A x.X.length x.c)) w5 := ⟨bM5.cell 0, bM5.cell 1, bM5.cell 2, bM5.cell 3, bM5.cell 4⟩
        have c5 := bX5.cell 0
        have hS6 : (fun Y : World => Y.cell? ⟨W0.heap.size, 0, none⟩ = some (.int .i64 x.op) ∧ Y.cell? ⟨W0.heap.size, 1, none⟩ = some (.int .i64 x.n) ∧ Y.cell? ⟨W0.heap.size, 2, none⟩ = some (.string x.s) ∧ Y.cell? ⟨W0.heap.size, 3, none⟩ = some (.string x.q) ∧ Y.cell? ⟨W0.heap.size, 4, none⟩ = some (.slice x.A x.X.length x.c)) (w5.alloc (.cells #[.string cs] 9)) := ⟨(bM5.alloc _).cell 0, (bM5.alloc _).cell 1, (bM5.alloc _).cell 2, (bM5.alloc _).cell 3, (bM5.alloc _).cell 4⟩
        have c6 := (bX5.alloc (.cells #[.string cs] 9)).cell 0
        clear ho5 h05
        refine ⟨_, rfl, hS5, ?_⟩
        simp only [List.setIfInBounds_toArray, List.set_cons_zero, List.set_cons_succ]
        refine oneW (i := 3) (v := .slice (some ⟨w5.heap.size, 0, none⟩) 1 1) (w' := w5.alloc (.cells #[.string cs] 9)) rfl (by kernel_rfl) rfl (by rfl) (by go_simp) hS6 ?_
        simp only [List.setIfInBounds_toArray, List.set_cons_zero, List.set_cons_succ]
        refine oneA (i := 4) rfl (by kernel_rfl) rfl rfl (fun K hK => ?_)
        refine step_append1 (w := w5) rfl (.tmp 12) (.tmp 15) 22 rfl Try.underlying22 str_inf rfl (by decide) rfl (HI.out.2.2.1.only HO5.out (by simp)) rfl rfl (row := [.string cs]) rfl rfl (by intro u hu; rw [List.mem_singleton.1 hu]; rfl) (by omega) (by unfold maxLen; omega) (by omega) ?_
        intro v8 w8 hE
        obtain ⟨g', cap', rfl⟩ := ownsRow_succ hE.own.own
        have bX8 := bX5.only hE.only HI.out.2.2.2
        have bM8 := bM5.only hE.only HM8.out
        have hS8 : (fun Y : World => Y.cell? ⟨W0.heap.size, 0, none⟩ = some (.int .i64 x.op) ∧ Y.cell? ⟨W0.heap.size, 1, none⟩ = some (.int .i64 x.n) ∧ Y.cell? ⟨W0.heap.size, 2, none⟩ = some (.string x.s) ∧ Y.cell? ⟨W0.heap.size, 3, none⟩ = some (.string x.q) ∧ Y.cell? ⟨W0.heap.size, 4, none⟩ = some (.slice x.A x.X.length x.c)) w8 := ⟨bM8.cell 0, bM8.cell 1, bM8.cell 2, bM8.cell 3, bM8.cell 4⟩
        have q8 := bX8.cell 0
        have f8 := bX8.frozen 0
        refine hK _ _ hS8 ?_
        clear hK K
        try simp only [List.setIfInBounds_toArray, List.set_cons_zero, List.set_cons_succ]
        have bM9 := bM8.far (p := ⟨q, 0, none⟩) HWQ.out (.slice (some ⟨g', 0, none⟩) ((callsL pre).length + 1) cap')
        have hS9 : (fun Y : World => Y.cell? ⟨W0.heap.size, 0, none⟩ = some (.int .i64 x.op) ∧ Y.cell? ⟨W0.heap.size, 1, none⟩ = some (.int .i64 x.n) ∧ Y.cell? ⟨W0.heap.size, 2, none⟩ = some (.string x.s) ∧ Y.cell? ⟨W0.heap.size, 3, none⟩ = some (.string x.q) ∧ Y.cell? ⟨W0.heap.size, 4, none⟩ = some (.slice x.A x.X.length x.c)) (w8.setCell ⟨q, 0, none⟩ (.slice (some ⟨g', 0, none⟩) ((callsL pre).length + 1) cap')) := ⟨bM9.cell 0, bM9.cell 1, bM9.cell 2, bM9.cell 3, bM9.cell 4⟩
        have HN := Lib.hid (InvC.next (x := x) HFX.out hq3 HI.out.1 HI.out.2.1 HI.out.2.2.1 HI.out.2.2.2 HO5.out (by rw [HCS.out]; exact hE))
        clear hE
        refine oneS (i := 5) (v := undef) (w' := w8.setCell ⟨q, 0, none⟩ (.slice (some ⟨g', 0, none⟩) ((callsL pre).length + 1) cap')) rfl (by kernel_rfl) rfl (by rfl) (by first | (left; go_simp; done) | (right; go_simp; done)) hS9 ?_
        try simp only [List.setIfInBounds_toArray, List.set_cons_zero, List.set_cons_succ]
        refine wpAnyH_done (by kernel_rfl) ?_ _
        exact HN.out
      · refine call_if rfl (by rfl) ?_ HCA2.out ?_
        · go_simp
        rintro e5 w5 ⟨rfl, ho5⟩
        have h05 : Only [] X w5 := ((Only.refl [] X).drew).trans ho5 (by simp)
        have HO5 := Lib.hid h05
        have hz5 := h05.size
        have bX5 := HI.out.2.1.only h05 (by simp)
        have bM5 := HM.out.only h05 (by simp)
        have hS5 : (fun Y : World => Y.cell? ⟨W0.heap.size, 0, none⟩ = some (.int .i64 x.op) ∧ Y.cell? ⟨W0.heap.size, 1, none⟩ = some (.int .i64 x.n) ∧ Y.cell? ⟨W0.heap.size, 2, none⟩ = some (.string x.s) ∧ Y.cell? ⟨W0.heap.size, 3, none⟩ = some (.string x.q) ∧ Y.cell? ⟨W0.heap.size, 4, none⟩ = some (.slice x.A x.X.length x.c)) w5 := ⟨bM5.cell 0, bM5.cell 1, bM5.cell 2, bM5.cell 3, bM5.cell 4⟩
        have c5 := bX5.cell 0
        have hS6 : (fun Y : World => Y.cell? ⟨W0.heap.size, 0, none⟩ = some (.int .i64 x.op) ∧ Y.cell? ⟨W0.heap.size, 1, none⟩ = some (.int .i64 x.n) ∧ Y.cell? ⟨W0.heap.size, 2, none⟩ = some (.string x.s) ∧ Y.cell? ⟨W0.heap.size, 3, none⟩ = some (.string x.q) ∧ Y.cell? ⟨W0.heap.size, 4, none⟩ = some (.slice x.A x.X.length x.c)) (w5.alloc (.cells #[.string cs] 9)) := ⟨(bM5.alloc _).cell 0, (bM5.alloc _).cell 1, (bM5.alloc _).cell 2, (bM5.alloc _).cell 3, (bM5.alloc _).cell 4⟩
        have c6 := (bX5.alloc (.cells #[.string cs] 9)).cell 0
        clear ho5 h05
        refine ⟨_, rfl, hS5, ?_⟩
        simp only [List.setIfInBounds_toArray, List.set_cons_zero, List.set_cons_succ]
        refine twoW (i := 0) (j := 3) (vi := v) (vj := .slice (some ⟨w5.heap.size, 0, none⟩) 1 1) (wi := w5) (wj := w5.alloc (.cells #[.string cs] 9)) rfl rfl (by kernel_rfl) rfl rfl (by rfl) (by rfl) (by go_simp) (by go_simp) hS5 hS6 ?_ ?_
        · simp only [List.setIfInBounds_toArray, List.set_cons_zero, List.set_cons_succ]
          refine oneW (i := 3) (v := .slice (some ⟨w5.heap.size, 0, none⟩) 1 1) (w' := w5.alloc (.cells #[.string cs] 9)) rfl (by kernel_rfl) rfl (by rfl) (by go_simp) hS6 ?_
          simp only [List.setIfInBounds_toArray, List.set_cons_zero, List.set_cons_succ]
          refine oneA (i := 4) rfl (by kernel_rfl) rfl rfl (fun K hK => ?_)
          refine step_append1 (w := w5) rfl (.tmp 12) (.tmp 15) 22 rfl Try.underlying22 str_inf rfl (by decide) rfl (HI.out.2.2.1.only HO5.out (by simp)) rfl rfl (row := [.string cs]) rfl rfl (by intro u hu; rw [List.mem_singleton.1 hu]; rfl) (by omega) (by unfold maxLen; omega) (by omega) ?_
          intro v8 w8 hE
          obtain ⟨g', cap', rfl⟩ := ownsRow_succ hE.own.own
          have bX8 := bX5.only hE.only HI.out.2.2.2
          have bM8 := bM5.only hE.only HM8.out
          have hS8 : (fun Y : World => Y.cell? ⟨W0.heap.size, 0, none⟩ = some (.int .i64 x.op) ∧ Y.cell? ⟨W0.heap.size, 1, none⟩ = some (.int .i64 x.n) ∧ Y.cell? ⟨W0.heap.size, 2, none⟩ = some (.string x.s) ∧ Y.cell? ⟨W0.heap.size, 3, none⟩ = some (.string x.q) ∧ Y.cell? ⟨W0.heap.size, 4, none⟩ = some (.slice x.A x.X.length x.c)) w8 := ⟨bM8.cell 0, bM8.cell 1, bM8.cell 2, bM8.cell 3, bM8.cell 4⟩
          have q8 := bX8.cell 0
          have f8 := bX8.frozen 0
          refine hK _ _ hS8 ?_
          clear hK K
          try simp only [List.setIfInBounds_toArray, List.set_cons_zero, List.set_cons_succ]
          have bM9 := bM8.far (p := ⟨q, 0, none⟩) HWQ.out (.slice (some ⟨g', 0, none⟩) ((callsL pre).length + 1) cap')
          have hS9 : (fun Y : World => Y.cell? ⟨W0.heap.size, 0, none⟩ = some (.int .i64 x.op) ∧ Y.cell? ⟨W0.heap.size, 1, none⟩ = some (.int .i64 x.n) ∧ Y.cell? ⟨W0.heap.size, 2, none⟩ = some (.string x.s) ∧ Y.cell? ⟨W0.heap.size, 3, none⟩ = some (.string x.q) ∧ Y.cell? ⟨W0.heap.size, 4, none⟩ = some (.slice x.A x.X.length x.c)) (w8.setCell ⟨q, 0, none⟩ (.slice (some ⟨g', 0, none⟩) ((callsL pre).length + 1) cap')) := ⟨bM9.cell 0, bM9.cell 1, bM9.cell 2, bM9.cell 3, bM9.cell 4⟩
          have HN := Lib.hid (InvC.next (x := x) HFX.out hq3 HI.out.1 HI.out.2.1 HI.out.2.2.1 HI.out.2.2.2 HO5.out (by rw [HCS.out]; exact hE))
          clear hE
          refine oneS (i := 5) (v := undef) (w' := w8.setCell ⟨q, 0, none⟩ (.slice (some ⟨g', 0, none⟩) ((callsL pre).length + 1) cap')) rfl (by kernel_rfl) rfl (by rfl) (by first | (left; go_simp; done) | (right; go_simp; done)) hS9 ?_
          try simp only [List.setIfInBounds_toArray, List.set_cons_zero, List.set_cons_succ]
          refine wpAnyH_done (by kernel_rfl) ?_ _
          exact HN.out
        · simp only [List.setIfInBounds_toArray, List.set_cons_zero, List.set_cons_succ]
          refine oneW (i := 0) (v := v) (w' := w5.alloc (.cells #[.string cs] 9)) rfl (by kernel_rfl) rfl (by rfl) (by go_simp) hS6 ?_
          simp only [List.setIfInBounds_toArray, List.set_cons_zero, List.set_cons_succ]
          refine oneA (i := 4) rfl (by kernel_rfl) rfl rfl (fun K hK => ?_)
          refine step_append1 (w := w5) rfl (.tmp 12) (.tmp 15) 22 rfl Try.underlying22 str_inf rfl (by decide) rfl (HI.out.2.2.1.only HO5.out (by simp)) rfl rfl (row := [.string cs]) rfl rfl (by intro u hu; rw [List.mem_singleton.1 hu]; rfl) (by omega) (by unfold maxLen; omega) (by omega) ?_
          intro v8 w8 hE
          obtain ⟨g', cap', rfl⟩ := ownsRow_succ hE.own.own
          have bX8 := bX5.only hE.only HI.out.2.2.2
          have bM8 := bM5.only hE.only HM8.out
          have hS8 : (fun Y : World => Y.cell? ⟨W0.heap.size, 0, none⟩ = some (.int .i64 x.op) ∧ Y.cell? ⟨W0.heap.size, 1, none⟩ = some (.int .i64 x.n) ∧ Y.cell? ⟨W0.heap.size, 2, none⟩ = some (.string x.s) ∧ Y.cell? ⟨W0.heap.size, 3, none⟩ = some (.string x.q) ∧ Y.cell? ⟨W0.heap.size, 4, none⟩ = some (.slice x.A x.X.length x.c)) w8 := ⟨bM8.cell 0, bM8.cell 1, bM8.cell 2, bM8.cell 3, bM8.cell 4⟩
          have q8 := bX8.cell 0
          have f8 := bX8.frozen 0
          refine hK _ _ hS8 ?_
          clear hK K
          try simp only [List.setIfInBounds_toArray, List.set_cons_zero, List.set_cons_succ]
          have bM9 := bM8.far (p := ⟨q, 0, none⟩) HWQ.out (.slice (some ⟨g', 0, none⟩) ((callsL pre).length + 1) cap')
          have hS9 : (fun Y : World => Y.cell? ⟨W0.heap.size, 0, none⟩ = some (.int .i64 x.op) ∧ Y.cell? ⟨W0.heap.size, 1, none⟩ = some (.int .i64 x.n) ∧ Y.cell? ⟨W0.heap.size, 2, none⟩ = some (.string x.s) ∧ Y.cell? ⟨W0.heap.size, 3, none⟩ = some (.string x.q) ∧ Y.cell? ⟨W0.heap.size, 4, none⟩ = some (.slice x.A x.X.length x.c)) (w8.setCell ⟨q, 0, none⟩ (.slice (some ⟨g', 0, none⟩) ((callsL pre).length + 1) cap')) := ⟨bM9.cell 0, bM9.cell 1, bM9.cell 2, bM9.cell 3, bM9.cell 4⟩
          have HN := Lib.hid (InvC.next (x := x) HFX.out hq3 HI.out.1 HI.out.2.1 HI.out.2.2.1 HI.out.2.2.2 HO5.out (by rw [HCS.out]; exact hE))
          clear hE
          refine oneS (i := 5) (v := undef) (w' := w8.setCell ⟨q, 0, none⟩ (.slice (some ⟨g', 0, none⟩) ((callsL pre).length + 1) cap')) rfl (by kernel_rfl) rfl (by rfl) (by first | (left; go_simp; done) | (right; go_simp; done)) hS9 ?_
          try simp only [List.setIfInBounds_toArray, List.set_cons_zero, List.set_cons_succ]
          refine wpAnyH_done (by kernel_rfl) ?_ _
          exact HN.out
  case done =>
    rintro D ys X hD hys hI hK
    subst hys
    obtain ⟨ho, hq3, v, bX, hown, hqv⟩ := hI
    rw [HT.out] at hown
    have c0 : X.cell? ⟨q, 0, none⟩ = some v := bX.cell 0
    obtain ⟨A, cap, rfl, hnc, _, hr, hA⟩ := hown.shape (by decide)
    obtain ⟨g, rfl, hg1, hg2⟩ : ∃ g, A = some ⟨g, 0, none⟩ ∧ w3.heap.size ≤ g ∧ g < X.heap.size := by
      rcases hA with ⟨_, h0⟩ | h
      · rw [h0] at hnc; simp at hnc
      · exact h
    obtain ⟨b, off, hA2, _, hc0⟩ := hr.at_ (f := srow) (xs := [s, t]) (k := 0) ⟨#[]⟩ (by simp)
    obtain ⟨rfl, rfl⟩ : g = b ∧ 0 = off := by simpa using hA2
    obtain ⟨b', off', hA3, _, hc1⟩ := hr.at_ (f := srow) (xs := [s, t]) (k := 1) ⟨#[]⟩ (by simp)
    obtain ⟨rfl, rfl⟩ : g = b' ∧ 0 = off' := by simpa using hA3
    have g0 : X.cell? ⟨g, 0, none⟩ = some (.string s) := hc0 0 (by decide)
    have g1 : X.cell? ⟨g, 1, none⟩ = some (.string t) := hc1 0 (by decide)
    have HST := Lib.hid ((callsIn_wide (n := 6)).2 (sort_two (cap := cap) g0 g1 h1))
    have HCO := Lib.hid (fun (wx : World) (hox : Only [] X wx) => (callsIn_wide (n := 6)).2 (compact_two (cap := cap) (hox.cell g0 (by simp)) (hox.cell g1 (by simp)) h2))
    have HG := Lib.hid (And.intro g0 g1)
    have HK := Lib.hid hK
    have HOX := Lib.hid ho
    have HBX := Lib.hid bX
    clear hown hr hA2 hA3 hc0 hc1 hA hnc g0 g1 bX ho hK
    gi_wp2
    refine ⟨trivial, HST.out.mono ?_⟩
    rintro e w5 ⟨rfl, ho5⟩
    have HO5 := Lib.hid ho5
    have c5 := (HBX.out.only ho5 (by simp)).cell 0
    clear ho5 c0
    gi_wp2
    refine ⟨trivial, (HCO.out w5 HO5.out).mono ?_⟩
    rintro e w6 ⟨rfl, ho6⟩
    have HO6 := Lib.hid (HO5.out.trans ho6 (by simp))
    clear ho6 c5
    have hK6 := (HO6.out.block _ (Array.getElem?_eq_some_iff.1 HK.out).1 (by simp)).trans HK.out
    gi_wp2
    refine ⟨by simp, .inl ⟨_, _, rfl, run_takeDeferred hK6, ?_⟩⟩
    have hz := HQ.out
    have hgD : g ≠ D := fun e => by
      subst e
      have := HG.out.1
      unfold World.cell? at this
      rw [HK.out] at this
      cases this
    have hcp : ∀ o : Nat, ∀ u, w6.cell? ⟨g, o, none⟩ = some u → (w6.putObj D (.deferred none)).cell? ⟨g, o, none⟩ = some u := fun o u h => by
      rw [World.cell?_of_block (w := w6) (World.putObj_heap_other (by show g ≠ D; exact hgD))]
      exact h
    refine ⟨_, by simp [results, Try.results12, go_sem], g, cap, rfl, hcp 0 _ (HO6.out.cell HG.out.1 (by simp)), hcp 1 _ (HO6.out.cell HG.out.2 (by simp)), ?_⟩
    have ho36 := (HO3.out.mono (S' := [q]) (by simp)).trans (HOX.out.trans (HO6.out.mono (S' := [q]) (by simp)) (by simp)) (by simp)
    have hop := ho36.trans (Only.of_grown (grownBy_putObj' w6 D (.deferred none))) (fun k hk => .inr (by
      have : k = D := by simpa using hk
      omega))
    exact hop.mono (fun k hk => .inr (by rw [List.mem_singleton.1 hk]; omega))
end Go.Proofs.Ytmjkohlhbboapaa.Tree
