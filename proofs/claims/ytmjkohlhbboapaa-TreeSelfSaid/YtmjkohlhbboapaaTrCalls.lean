/- What a function calls. PRINTED by wip/gen_trcalls.py. -/
import Derived.Test.YtmjkohlhbboapaaTrYb
import Derived.Test.YtmjkohlhbboapaaRangeK
import Derived.Test.YtmjkohlhbboapaaRegOne
import Derived.Lib.Strings
namespace Go.Proofs.Ytmjkohlhbboapaa.Tree
open Go.RowKit Go.Shelf
set_option linter.unusedVariables false
set_option maxRecDepth 100000
attribute [local go_sem] Oper.semAt_some
theorem str_inf : (Try.prog.info? 9).map (fun i => (i.zero, i.size, i.bytes)) = some (some (.string ⟨#[]⟩), 1, 16) := by kernel_rfl
theorem exprs_any (A : Option Addr) (n c : Nat) (w : World) : Calls Try.prog 25 #[.slice A n c] w fun e w' => e = .returned (.func (.func 44) #[] #[.pointer (some ⟨w.heap.size, 0, none⟩)]) ∧ w' = w.alloc (.cells #[.slice A n c] 29) := by
  go_enter Try.func25, Try.ntmps25
  go_wp2_with fail
  go_ret
  exact ⟨rfl, rfl⟩
theorem exprs1_seq (m : Nat) (hm : 1 ≤ m) (lb b3 B : Nat) (A : Option Addr) (n c : Nat) (ls : List ST) (d : Nat) (w0 : World) (hb : Blk w0 lb 29 #[.slice A n c]) (hr : Recs w0 B 9 A n (ls.map ST.row)) (hn : n ≤ maxLen) (hin : ∀ y ∈ ls, ST.In w0 B d y) (ht : TOK b3 B w0) :
    SeqKp Fence.wide m Try.prog 44 #[.pointer (some ⟨lb, 0, none⟩)] (fun x : XT => #[x.val]) (KpT b3) (fun ys => ys = ls.flatMap (walkS d)) (ls.flatMap (walkS d)) w0 := by
  intro l J W ho hJ HY h0
  have k0 := KpT.only0 ho ht.lt
  have HIB := inBodyY (m := m - 1) (Jx := fun _ _ => False) (b3 := b3) (B := B) (T := ls.flatMap (walkS d)) hJ
    (fun pre x X hj hl => by
      obtain ⟨fn, tmps, assign, body, hy, hR⟩ := HY pre x X hj hl
      exact ⟨fn, tmps, assign, body, hy, hR.mono fun e Y h => .inl h⟩)
    d ls A n c [] W (recs_kp hr k0 ht) hn (fun y hy => (hin y hy).kp k0 ht) (ht.kp k0) h0 (List.prefix_refl _)
  have HI := Lib.hid ((callsIn_wide (n := m - 1)).2 (callsIn_wide.1 HIB))
  have q0 := (hb.only ho (by simp)).cell 0
  clear HIB HY hJ h0 hr hin k0 hb
  refine callsIn_of_wp Try.func44 rfl trivial ?_ rfl
  simp only [Try.ntmps44, List.size_toArray, List.length_cons, List.length_nil, Nat.reduceAdd, Nat.reduceSub, Array.replicate_succ, Array.replicate_zero, List.push_toArray, List.append_toArray, List.nil_append, List.cons_append]
  gi_wp2
  refine ⟨trivial, HI.out.mono ?_⟩
  rintro e Y (⟨rfl, hj, _⟩ | ⟨_, p, h⟩)
  · have HF := Lib.hid hj
    clear hj
    gi_wp2
    go_end0
    exact ⟨⟨_, rfl⟩, _, rfl, by simpa using HF.out⟩
  · exact h.elim
/-- the name that a call has -/
def callS (x : XT) : ByteArray := if x.q.toList = [] then x.s else x.q ++ ⟨#[46]⟩ ++ x.s
set_option maxHeartbeats 4000000 in
theorem called_any (x : XT) (w : World) (hs : x.s.size ≤ 1000 ∧ x.q.size ≤ 1000) : Calls Try.prog 26 #[x.val] w fun e w' => e = .returned (.string (callS x)) ∧ Only [] w w' := by
  obtain ⟨w1, hw1⟩ : ∃ w1, w.alloc (.cells #[.int .i64 x.op, .int .i64 x.n, .string x.s, .string x.q, .slice x.A x.X.length x.c] 28) = w1 := ⟨_, rfl⟩
  have b1 : Blk w1 w.heap.size 28 #[.int .i64 x.op, .int .i64 x.n, .string x.s, .string x.q, .slice x.A x.X.length x.c] := by rw [← hw1]; exact Blk.new w _ _
  have o1 : Only [] w w1 := by rw [← hw1]; exact (Only.refl [] w).alloc _
  have p2 := b1.cell 2
  have p3 := b1.cell 3
  have HO := Lib.hid o1
  unfold XT.val callS
  obtain ⟨hs1, hs2⟩ := hs
  have hz1 : ¬ 9223372036854775807 < x.q.size + 1 := by omega
  have hz2 : ¬ 9223372036854775807 < x.q.size + 1 + x.s.size := by omega
  clear b1 o1
  go_enter Try.func26, Try.ntmps26
  by_cases hq : x.q.toList = []
  · rw [if_pos hq]
    have he : x.q.toList.isEmpty = true := by rw [hq]; rfl
    go_wp2_with fail
    go_ret
    exact ⟨rfl, HO.out⟩
  · rw [if_neg hq]
    have he : x.q.toList.isEmpty = false := by
      cases hx : x.q.toList with
      | nil => exact absurd hx hq
      | cons a t => rfl
    go_wp2_with fail
    go_ret
    exact ⟨rfl, HO.out⟩
def callsL (xs : List XT) : List ByteArray := (xs.filter (fun x => x.op == 4)).map callS
theorem callsL_yes {pre : List XT} {x : XT} (h : (x.op == 4) = true) : callsL (pre ++ [x]) = callsL pre ++ [callS x] := by
  unfold callsL
  rw [List.filter_append, List.filter_cons_of_pos (p := fun x : XT => x.op == 4) h, List.map_append]
  rfl
theorem callsL_no {pre : List XT} {x : XT} (h : (x.op == 4) = false) : callsL (pre ++ [x]) = callsL pre := by
  unfold callsL
  rw [List.filter_append, List.filter_cons_of_neg (p := fun x : XT => x.op == 4) (by rw [h]; simp)]
  simp
theorem callsL_len (pre : List XT) : (callsL pre).length ≤ pre.length := by unfold callsL; rw [List.length_map]; exact List.length_filter_le _ _
section
variable {w w' : World}
theorem blk_grown {w w' : World} {g : Nat} {t : TypeId} {cs : Array Value} {row : Option Nat} (h : Blk w g t cs) (hg : w.grownBy w' row) (hr : ∀ r, row = some r → ∃ o : Obj, w.heap[r]? = some o ∧ o.isCells = false) : Blk w' g t cs :=
  h.only (Only.of_grown hg) fun hm => by
    obtain ⟨o, h1, h2⟩ := hr g (by simpa using hm)
    unfold Blk at h
    rw [h] at h1
    cases h1
    cases h2
theorem row_blks {w : World} {base e size n : Nat} {v : Value} {rows : List (List Value)} (h : OwnR e size w base v n rows) : ∀ g ∈ ownL v, base ≤ g ∧ ∃ t cs, Blk w g t cs := by
  intro g hg
  refine ⟨(h.lt g hg).1, ?_⟩
  obtain ⟨_, h0⟩ := h.own
  rcases h0 with ⟨rfl, _⟩ | ⟨g', cap, cur, rfl, _, hh, _⟩
  · simp [ownL, Value.ownBlock] at hg
  · simp [ownL, Value.ownBlock] at hg
    subst hg
    exact ⟨_, _, hh⟩
theorem own_grown {w w' : World} {e size base n : Nat} {v : Value} {rows : List (List Value)} {row : Option Nat} (h : OwnR e size w base v n rows) (hg : w.grownBy w' row) (hr : ∀ r, row = some r → ∃ o : Obj, w.heap[r]? = some o ∧ o.isCells = false) : OwnR e size w' base v n rows :=
  h.only (Only.of_grown hg) fun g hgm hm => by
    obtain ⟨_, t, cs, hb⟩ := row_blks h g hgm
    obtain ⟨o, h1, h2⟩ := hr g (by simpa using hm)
    unfold Blk at hb
    rw [hb] at h1
    cases h1
    cases h2
/-- what is appended, in its box -/
def InvC (q : Nat) (w7 : World) (pre : List XT) (X : World) : Prop := Only [q] w7 X ∧ q < w7.heap.size ∧ ∃ v, Blk X q 22 #[v] ∧ OwnR 9 1 X w7.heap.size v (callsL pre).length ((callsL pre).map srow) ∧ q ∉ ownL v
theorem InvC.own (q : Nat) (w7 : World) : OwnFrom w7.heap.size (InvC q w7) := fun s X Y row ⟨h1, h0, v, h2, h3, h4⟩ hg hr =>
  ⟨h1.trans (Only.of_grown hg) (fun k hk => .inr (hr k (by simpa using hk)).1), h0, v, blk_grown h2 hg (fun r e => (hr r e).2), own_grown h3 hg (fun r e => (hr r e).2), h4⟩
theorem InvC.only0 (q : Nat) (w7 : World) (s : List XT) (X Y : World) (h : InvC q w7 s X) (ho : Only [] X Y) : InvC q w7 s Y := by
  obtain ⟨h1, h0, v, h2, h3, h4⟩ := h
  exact ⟨h1.trans ho (by simp), h0, v, h2.only ho (by simp), h3.only ho (by simp), h4⟩
theorem rowT_of {q : Nat} {X : World} {v : Value} (h : X.cell? ⟨q, 0, none⟩ = some v) : rowT q X = q :: ownL v := by
  unfold rowT
  rw [h]
theorem InvC.next {q : Nat} {w7 X w5 w8 : World} {v v' : Value} {pre : List XT} {x : XT} (hx : (x.op == 4) = true) (hq : q < w7.heap.size) (ho : Only [q] w7 X) (hb : Blk X q 22 #[v]) (hown : OwnR 9 1 X w7.heap.size v (callsL pre).length ((callsL pre).map srow)) (hqv : q ∉ ownL v) (h5 : Only [] X w5)
    (hE : ExtR 9 1 w5 w8 w7.heap.size v v' ((callsL pre).length + 1) ((callsL pre).map srow ++ [srow (callS x)])) : KeepsFrom w7.heap.size X (w8.setCell ⟨q, 0, none⟩ v') ∧ KpT q X (w8.setCell ⟨q, 0, none⟩ v') ∧ InvC q w7 (pre ++ [x]) (w8.setCell ⟨q, 0, none⟩ v') := by
  have hE0 := hE.after h5
  have hO : Only (q :: ownL v) X (w8.setCell ⟨q, 0, none⟩ v') := (hE0.only.mono (fun g hg => .inl (List.mem_cons_of_mem _ hg))).setCell (p := ⟨q, 0, none⟩) (.inl (by simp)) _
  have hcells : ∀ g ∈ q :: ownL v, ∃ t cs, Blk X g t cs := by
    intro g hg
    rcases List.mem_cons.1 hg with rfl | hg
    · exact ⟨_, _, hb⟩
    · exact (row_blks hown g hg).2
  have hb8 := hb.only hE0.only hqv
  have hql : q < X.heap.size := hb.lt
  have hqn : q ∉ ownL v' := fun hm => (hE0.fresh q hm).elim hqv (fun h => by omega)
  have hb9 := hb8.set_ 0 v'
  have hown9 := hE0.own.only ((Only.refl [q] w8).setCell (p := ⟨q, 0, none⟩) (.inl (by simp)) v') (fun g hg hm => by
      rw [List.mem_singleton.1 hm] at hg
      exact hqn hg)
  refine ⟨(hO.others hcells).from _, ⟨hO.size, fun k cs t fr hk hn => hO.block k (hlt_of hk) (by rw [rowT_of (hb.cell 0)] at hn; exact hn), fun g hg => ?_, fun _ g hg => ?_⟩, ho.trans hO (fun g hg => ?_), hq, v', hb9, ?_, hqn⟩
  · rw [rowT_of (hb9.cell 0)] at hg
    rw [rowT_of (hb.cell 0)]
    rcases List.mem_cons.1 hg with e | e
    · exact .inl (by simp [e])
    · rcases hE0.fresh g e with h1 | h1
      · exact .inl (List.mem_cons_of_mem _ h1)
      · exact .inr h1
  · rw [rowT_of (hb9.cell 0)] at hg
    rcases List.mem_cons.1 hg with e | e
    · rw [e]; exact hb9.lt
    · exact (hown9.lt g e).2
  · rcases List.mem_cons.1 hg with e | e
    · exact .inl (by simp [e])
    · exact .inr (hown.lt g e).1
  · rw [callsL_yes hx, List.map_append, List.length_append]
    exact hown9
end
end Go.Proofs.Ytmjkohlhbboapaa.Tree
