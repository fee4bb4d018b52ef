/- Append: PRINTED by wip/gen_append.py. -/
import Derived.Test.YthgfmoogagldmaaGreatRanges
import Derived.Test.YthgfmoogagldmaaGreatJournalO
import Derived.Test.YthgfmoogagldmaaGreatJournalB
import Derived.Test.YthgfmoogagldmaaGreatJournalL
set_option linter.unusedVariables false
set_option maxRecDepth 100000
namespace Go.Proofs.YthgfmoogagldmaaGreat.Journal
open Go.RowKit Go.Shelf Disk Go.Proofs.YthgfmoogagldmaaGreat.Frame
def NewS (w : World) (ss ss' : List Sl) : Prop := ∀ s ∈ ss', s ∈ ss ∨ ∀ k ∈ blkOf s.A, w.heap.size ≤ k
theorem NewS.refl (w : World) (ss : List Sl) : NewS w ss ss := fun s h => .inl h
def AppO (w : World) (p g b : Nat) (W : List Nat) (cap q base : Nat) (v : Value) (ss : List Sl) (r : DS × JS × Int) (x : Ending) (w' : World) : Prop :=
  x = .returned (.int .i64 r.2.2) ∧ ∃ W' v' ss', IsD w' p g b W' cap r.1 ∧ Newer w W W' ∧ IsJ w' p g b q base r.2.1 v' ss' ∧ Only (JT p g b q v) w w' ∧ FreshV w v v' ∧ (∀ k ∈ W', k ∉ q :: ownL v') ∧ NewS w ss ss'
section
variable {w w' w7 w8 w9 : World} {p g b cap q base : Nat} {W : List Nat} {d : DS} {js : JS} {v v' : Value} {ss : List Sl} {l : List UInt8}
theorem IsJ.grow (hj : IsJ w7 p g b q base js v ss) (ho8 : Only [] w7 w8) {A' : Option Addr} {n c' : Nat} (hb : Bytes w8 w8.heap.size A' n l) (h1 : n ≤ c') (h2 : c' ≤ maxLen) (h3 : n ≤ 1048576) (hf : ∀ k ∈ blkOf A', w7.heap.size ≤ k) (hp : p < w7.heap.size ∧ g < w7.heap.size ∧ b < w7.heap.size) (hq : q ∉ [p, g, b])
    (hE : ExtR 35 1 w8 w9 base v v' (ss.length + 1) ((ss.map fun s => [s.val]) ++ [[(⟨A', n, c', l⟩ : Sl).val]])) :
    IsJ (w9.setCell ⟨q, 4, none⟩ v') p g b q base { js with l := js.l ++ [l] } v' (ss ++ [⟨A', n, c', l⟩]) ∧ Only (q :: ownL v) w7 (w9.setCell ⟨q, 4, none⟩ v') ∧ FreshV w7 v v' := by
  have bJ8 := hj.blk.only ho8 (by simp)
  have hown8 := hj.own.only ho8 (by simp)
  have hqv : q ∉ ownL v := row_ne hj.own q hj.blk (by decide)
  have bJ9 := bJ8.only hE.only hqv
  have hqn : q ∉ ownL v' := row_ne hE.own q bJ9 (by decide)
  have hql := hj.blk.lt
  have h87 := ho8.size
  have h4 : Only (ownL v) w7 w9 := ho8.mono (by simp) |>.trans hE.only (fun g hg => .inl hg)
  have h5 : Only (q :: ownL v) w7 (w9.setCell ⟨q, 4, none⟩ v') := (h4.mono (fun g hg => .inl (List.mem_cons_of_mem _ hg))).setCell (p := ⟨q, 4, none⟩) (.inl (by simp)) _
  have h58 : Only (q :: ownL v) w8 (w9.setCell ⟨q, 4, none⟩ v') := (hE.only.mono (fun g hg => .inl (List.mem_cons_of_mem _ hg))).setCell (p := ⟨q, 4, none⟩) (.inl (by simp)) _
  have hfr : FreshV w7 v v' := hE.fresh.only ho8
  refine ⟨⟨bJ9.set_ 4 v', ?_, hold, ?_, hj.sm⟩, h5, hfr⟩
  · rw [List.length_append, List.map_append]
    exact hE.own.only ((Only.refl [q] w9).setCell (p := ⟨q, 4, none⟩) (.inl (by simp)) _) (fun g hg hm => by
      rw [List.mem_singleton.1 hm] at hg
      exact hqn hg)
  · rw [List.map_append, hj.l]
    rfl
where
  hold : Held (w9.setCell ⟨q, 4, none⟩ v') (JT p g b q v') (ss ++ [⟨A', n, c', l⟩]) := by
    have hqv : q ∉ ownL v := row_ne hj.own q hj.blk (by decide)
    have hql := hj.blk.lt
    have h87 := ho8.size
    have h4 : Only (ownL v) w7 w9 := ho8.mono (by simp) |>.trans hE.only (fun g hg => .inl hg)
    have h5 : Only (q :: ownL v) w7 (w9.setCell ⟨q, 4, none⟩ v') := (h4.mono (fun g hg => .inl (List.mem_cons_of_mem _ hg))).setCell (p := ⟨q, 4, none⟩) (.inl (by simp)) _
    have h58 : Only (q :: ownL v) w8 (w9.setCell ⟨q, 4, none⟩ v') := (hE.only.mono (fun g hg => .inl (List.mem_cons_of_mem _ hg))).setCell (p := ⟨q, 4, none⟩) (.inl (by simp)) _
    have hfr : FreshV w7 v v' := hE.fresh.only ho8
    refine Held.append (hj.held.only h5 (fun k hk => .inl (by unfold JT; simp at hk ⊢; rcases hk with h | h <;> simp [h])) (fun k hk => ?_)) (fun s hs => ?_)
    · unfold JT at hk ⊢
      simp only [List.mem_cons] at hk ⊢
      rcases hk with e | e | e | e | e
      · exact .inl (.inl e)
      · exact .inl (.inr (.inl e))
      · exact .inl (.inr (.inr (.inl e)))
      · exact .inl (.inr (.inr (.inr (.inl e))))
      · rcases hfr k e with h | h
        · exact .inl (.inr (.inr (.inr (.inr h))))
        · exact .inr h
    · rw [List.mem_singleton.1 hs]
      have hlt := fun hn => bytes_lt hb hn
      refine ⟨(hb.only_pos h58 (fun hn k hk hm => ?_)).more h58.size, h1, h2, h3, fun hn k hk hm => ?_⟩
      · have := hf k hk
        rcases List.mem_cons.1 hm with e | e
        · omega
        · have := (hj.own.lt k e).2; omega
      · have h6 := hf k hk
        have h7 := hlt hn k hk
        unfold JT at hm
        simp only [List.mem_cons] at hm
        rcases hm with e | e | e | e | e
        · omega
        · omega
        · omega
        · omega
        · rcases hE.fresh k e with h | h
          · have := (hj.own.lt k h).2; omega
          · omega
theorem appJ {d : DS} {js : JS} {l : List UInt8} (hre : refuseJ js [l] (js.half.room - usedJ js) = 0) {D1 D2 D3 D4 D5 : DS} {b1 b2 b3 b4 b5 : Bool} (hP : packH d js.half (usedJ js) l = (D1, b1)) (hZ : zeroH D1 js.half (usedJ js + takesB l) = (D2, b2)) (hS : synD D2 = (D3, b3))
    (hM : wrD D3 (js.half.fr + usedJ js) (putB (markH js.half js.l.length l)) = (D4, b4)) (hS2 : synD D4 = (D5, b5)) :
    appendJ d js l = if b1 = false then (D1, { js with off := true }, 3) else if b2 = false then (D2, { js with off := true }, 3) else if b3 = false then (D3, { js with off := true }, 3) else if b4 = false then (D4, { js with off := true }, 3) else if b5 = false then (D5, { js with off := true }, 3) else (D5, { js with l := js.l ++ [l] }, 0) := by
  unfold appendJ
  rw [if_neg (by rw [hre]; decide)]
  simp only
  rw [hP]
  cases b1 with
  | false => simp [andThen]
  | true =>
    rw [andThen_ok (x := (D1, true)) rfl]
    simp only
    rw [hZ]
    cases b2 with
    | false => simp [andThen]
    | true =>
      rw [andThen_ok (x := (D2, true)) rfl]
      simp only
      rw [hS]
      cases b3 with
      | false => simp [andThen]
      | true =>
        rw [andThen_ok (x := (D3, true)) rfl]
        simp only
        rw [hM]
        cases b4 with
        | false => simp [andThen]
        | true =>
          rw [andThen_ok (x := (D4, true)) rfl]
          simp only
          rw [hS2]
          cases b5 <;> simp
theorem used_le (h : IsJ w p g b q base js v ss) (hn : ss.length ≤ 100000) : 0 ≤ usedJ js ∧ usedJ js ≤ 2000000000 := by
  have h1 := takesL_le ss.length js.l (by rw [← h.l]; exact h.held.light) (by rw [← h.l, List.length_map]; exact Nat.le_refl _)
  rw [List.take_of_length_le (by rw [← h.l, List.length_map]; exact Nat.le_refl _)] at h1
  unfold usedJ
  omega
theorem fits_of (hre : refuseJ js [l] (js.half.room - usedJ js) = 0) : usedJ js + takesB l ≤ js.half.room := by
  unfold refuseJ at hre
  split at hre
  · cases hre
  · split at hre
    · cases hre
    · split at hre
      · cases hre
      · rename_i h
        rw [takesL_cons, takesL_nil] at h
        omega
theorem jt_of (k : Nat) (hk : k ∈ [p, g, b]) : k ∈ JT p g b q v := by
  unfold JT
  simp at hk ⊢
  omega
theorem fail_out {w1 wx : World} {Dx : DS} (hd : IsD w p g b W cap d) (ho1 : Only [] w w1) (hj : IsJ w p g b q base js v ss) (hWT : ∀ k ∈ W, k ∉ q :: ownL v) (hdid : Did w1 p g b W cap Dx wx) :
    Calls Tryz.prog 65 #[.pointer (some ⟨q, 0, none⟩)] wx fun x w' => x = .returned (.int .i64 3) ∧ ∃ W' v' ss', IsD w' p g b W' cap Dx ∧ Newer w W W' ∧ IsJ w' p g b q base { js with off := true } v' ss' ∧ Only (JT p g b q v) w w' ∧ FreshV w v v' ∧ (∀ k ∈ W', k ∉ q :: ownL v') ∧ NewS w ss ss' := by
  obtain ⟨W', h1, h2, h3⟩ := did_after ho1 hdid
  have hjx := hj.deed hd h3
  have hq := hj.q_far hd
  have hWx : ∀ k ∈ W', k ∉ q :: ownL v := fun k hk hm => by
    rcases h2 k hk with h | h
    · exact hWT k h hm
    · rcases List.mem_cons.1 hm with e | e
      · have := hj.lt; omega
      · have := (hj.own.lt k e).2; omega
  refine (down_to hjx).mono ?_
  rintro x w' ⟨rfl, h4, h5⟩
  refine ⟨rfl, W', v, ss, h1.only h5 ?_ (fun k hk hm => ?_), h2, h4, ?_, FreshV.refl _ _, hWx, NewS.refl _ _⟩
  · simp only [List.mem_cons, not_or, List.not_mem_nil, not_false_eq_true, and_true] at hq ⊢
    exact ⟨fun e => hq.1 e.symm, fun e => hq.2.1 e.symm, fun e => hq.2.2 e.symm⟩
  · rw [List.mem_singleton.1 hm] at hk
    exact hWx q hk (by simp)
  · exact (h3.mono (fun k hk => .inl (jt_of k hk))).trans h5 (fun k hk => .inl (by rw [List.mem_singleton.1 hk]; unfold JT; simp))
theorem ok_out {w1 w10 w11 : World} {Dx : DS} (hd : IsD w p g b W cap d) (ho1 : Only [] w w1) (hj : IsJ w p g b q base js v ss) (hWT : ∀ k ∈ W, k ∉ q :: ownL v) (hdid : Did w1 p g b W cap Dx w8) (ho8 : Only [] w8 w10) {A' : Option Addr} {n c' : Nat} (hb : Bytes w10 w10.heap.size A' n l) (h1 : n ≤ c') (h2 : c' ≤ maxLen) (h3 : n ≤ 1048576) (hf : ∀ k ∈ blkOf A', w8.heap.size ≤ k)
    (hE : ExtR 35 1 w10 w11 base v v' (ss.length + 1) ((ss.map fun s => [s.val]) ++ [[(⟨A', n, c', l⟩ : Sl).val]])) : AppO w p g b W cap q base v ss (Dx, { js with l := js.l ++ [l] }, 0) (.returned (.int .i64 0)) (w11.setCell ⟨q, 4, none⟩ v') := by
  obtain ⟨W', k1, k2, k3⟩ := did_after ho1 hdid
  have hjx := hj.deed hd k3
  have hq := hj.q_far hd
  have hpp : p < w8.heap.size ∧ g < w8.heap.size ∧ b < w8.heap.size := by
    have e2 := k1.blk.lt
    obtain ⟨C, c1, _⟩ := k1.safe
    have e3 := c1.lt
    have e4 := isD_map_lt k1
    omega
  have hWx : ∀ k ∈ W', k ∉ q :: ownL v := fun k hk hm => by
    rcases k2 k hk with h | h
    · exact hWT k h hm
    · rcases List.mem_cons.1 hm with e | e
      · have := hj.lt; omega
      · have := (hj.own.lt k e).2; omega
  obtain ⟨g1, g2, g3⟩ := hjx.grow ho8 hb h1 h2 h3 hf hpp hq hE
  have hrf := row_far (e := 0) hd hj.own
  refine ⟨rfl, W', v', _, k1.only g2 ?_ hWx, k2, g1, ?_, fun k hk => ?_, fun k hk hm => ?_, fun s hs => ?_⟩
  · have hv : ∀ x ∈ [p, g, b], x ∉ q :: ownL v := fun x hx hm => by
      rcases List.mem_cons.1 hm with e | e
      · rw [← e] at hq; exact hq hx
      · exact hrf x e hx
    exact ⟨hv p (by simp), hv g (by simp), hv b (by simp)⟩
  · refine (k3.mono (fun k hk => .inl (jt_of k hk))).trans g2 (fun k hk => .inl ?_)
    unfold JT
    rcases List.mem_cons.1 hk with e | e
    · simp [e]
    · simp [e]
  · rcases g3 k hk with h | h
    · exact .inl h
    · exact .inr (Nat.le_trans k3.size h)
  · rcases List.mem_cons.1 hm with e | e
    · exact hWx k hk (by simp [e])
    · rcases g3 k e with h | h
      · exact hWx k hk (by simp [h])
      · have := k1.low k hk; omega
  · rcases List.mem_append.1 hs with h | h
    · exact .inl h
    · rw [List.mem_singleton.1 h]
      exact .inr fun k hk => Nat.le_trans k3.size (hf k hk)
set_option maxHeartbeats 1000000 in
theorem append_refused (hd : IsD w p g b W cap d) (hn2 : 2 ≤ d.n) (hj : IsJ w p g b q base js v ss) (hWT : ∀ k ∈ W, k ∉ q :: ownL v) (A : Option Addr) (n c : Nat) (l : List UInt8) (hr : Bytes w w.heap.size A n l) (hn : n ≤ 2000) (hnc : n ≤ c) (hcm : c ≤ maxLen) (hfar : 0 < n → ∀ k ∈ blkOf A, k ∉ JT p g b q v) (hsl : ss.length ≤ 100000) (hdn : d.done ≤ 4611686018427000000) (hre : refuseJ js [l] (js.half.room - usedJ js) ≠ 0) :
    Calls Tryz.prog 15 #[.pointer (some ⟨q, 0, none⟩), .slice A n c] w fun x w' => AppO w p g b W cap q base v ss (appendJ d js l) x w' := by
  obtain ⟨w1, hw1⟩ : ∃ w1, w.alloc (.cells #[.slice A n c] 35) = w1 := ⟨_, rfl⟩
  have ho1 : Only [] w w1 := by rw [← hw1]; exact (Only.refl [] w).alloc _
  have hs1 : w1.heap.size = w.heap.size + 1 := by rw [← hw1, World.size_alloc]
  have hj1 := hj.only0 ho1
  have hub := used_le hj hsl
  have hrr : Reads w1 (w.heap.size + 1) 1 (some ⟨w.heap.size, 0, none⟩) 1 ([(⟨A, n, c, l⟩ : Sl)].map Sl.val) := by rw [← hw1]; exact Reads.const w [(⟨A, n, c, l⟩ : Sl).val] _ _ _ rfl
  have hr1 := (hr.only ho1 (by simp)).more ho1.size
  have hhd : Held w1 [] [⟨A, n, c, l⟩] := fun s hs => by
    rw [List.mem_singleton.1 hs]
    exact ⟨hr1, hnc, hcm, by show n ≤ 1048576; omega, fun _ k _ => by simp⟩
  have HRF := Lib.hid (refuse_is hj1 (some ⟨w.heap.size, 0, none⟩) 1 1 _ [] [⟨A, n, c, l⟩] (js.half.room - usedJ js) rfl hrr hhd (by omega))
  have HRM := Lib.hid (room_is hj1)
  have HUS := Lib.hid (used_is hj1 (by omega))
  have hsm := hj.sm
  obtain ⟨_, ⟨fr0, fr1⟩, room0, room1⟩ := hsm
  have happ : appendJ d js l = (d, js, refuseJ js [l] (js.half.room - usedJ js)) := by unfold appendJ; rw [if_pos hre]
  rw [happ]
  simp only [List.map_cons, List.map_nil] at HRF
  obtain ⟨R, hR⟩ : ∃ R, refuseJ js [l] (js.half.room - usedJ js) = R := ⟨_, rfl⟩
  rw [hR] at hre HRF ⊢
  obtain ⟨U, hU⟩ : ∃ U, usedJ js = U := ⟨_, rfl⟩
  rw [hU] at hub HRF HUS
  obtain ⟨Ro, hRo⟩ : ∃ Ro, js.half.room = Ro := ⟨_, rfl⟩
  rw [hRo] at HRF HRM room0 room1
  have e1 : (R != 0) = true := by simp [hre]
  have HF := Lib.hid (show AppO w p g b W cap q base v ss (d, js, R) (.returned (.int .i64 R)) w1 from ⟨rfl, W, v, ss, hd.only0 ho1, Newer.refl _ _, hj1, ho1.mono (by simp), FreshV.refl _ _, hWT, NewS.refl _ _⟩)
  obtain ⟨u0, u1⟩ := hub
  clear hd hj hWT hr hfar hj1 hr1 hhd hrr happ hR hU hRo ho1 hs1
  go_enter Tryz.func15, Tryz.ntmps15
  go_wp2_with (first
    | (go_at_call 33; refine HRM.out.mono ?_; rintro x wa ⟨rfl, hwa⟩; have hwa := hwa.symm; subst hwa)
    | (go_at_call 31; refine HUS.out.mono ?_; rintro x wb ⟨rfl, hwb⟩; have hwb := hwb.symm; subst hwb)
    | (go_at_call 62; refine HRF.out.mono ?_; rintro x wc ⟨rfl, hwc⟩; have hwc := hwc.symm; subst hwc))
  go_ret
  exact HF.out
set_option maxHeartbeats 2000000 in
theorem append_no0 (hd : IsD w p g b W cap d) (hn2 : 2 ≤ d.n) (hj : IsJ w p g b q base js v ss) (hWT : ∀ k ∈ W, k ∉ q :: ownL v) (A : Option Addr) (n c : Nat) (l : List UInt8) (hr : Bytes w w.heap.size A n l) (hn : n ≤ 2000) (hnc : n ≤ c) (hcm : c ≤ maxLen) (hfar : 0 < n → ∀ k ∈ blkOf A, k ∉ JT p g b q v) (hsl : ss.length ≤ 100000) (hdn : d.done ≤ 4611686018427000000) (hre : refuseJ js [l] (js.half.room - usedJ js) = 0) {D1 D2 D3 D4 D5 : DS} {b1 b2 b3 b4 b5 : Bool} (hP : packH d js.half (usedJ js) l = (D1, b1)) (hZ : zeroH D1 js.half (usedJ js + takesB l) = (D2, b2)) (hS : synD D2 = (D3, b3))
    (hM : wrD D3 (js.half.fr + usedJ js) (putB (markH js.half js.l.length l)) = (D4, b4)) (hS2 : synD D4 = (D5, b5)) (hb : b1 = false) :
    Calls Tryz.prog 15 #[.pointer (some ⟨q, 0, none⟩), .slice A n c] w fun x w' => AppO w p g b W cap q base v ss (appendJ d js l) x w' := by
  obtain ⟨w1, hw1⟩ : ∃ w1, w.alloc (.cells #[.slice A n c] 35) = w1 := ⟨_, rfl⟩
  have ho1 : Only [] w w1 := by rw [← hw1]; exact (Only.refl [] w).alloc _
  have hs1 : w1.heap.size = w.heap.size + 1 := by rw [← hw1, World.size_alloc]
  have hj1 := hj.only0 ho1
  have hub := used_le hj hsl
  have hrr : Reads w1 (w.heap.size + 1) 1 (some ⟨w.heap.size, 0, none⟩) 1 ([(⟨A, n, c, l⟩ : Sl)].map Sl.val) := by rw [← hw1]; exact Reads.const w [(⟨A, n, c, l⟩ : Sl).val] _ _ _ rfl
  have hr1 := (hr.only ho1 (by simp)).more ho1.size
  have hhd : Held w1 [] [⟨A, n, c, l⟩] := fun s hs => by
    rw [List.mem_singleton.1 hs]
    exact ⟨hr1, hnc, hcm, by show n ≤ 1048576; omega, fun _ k _ => by simp⟩
  have HRF := Lib.hid (refuse_is hj1 (some ⟨w.heap.size, 0, none⟩) 1 1 _ [] [⟨A, n, c, l⟩] (js.half.room - usedJ js) rfl hrr hhd (by omega))
  have HRM := Lib.hid (room_is hj1)
  have HUS := Lib.hid (used_is hj1 (by omega))
  have hsm := hj.sm
  obtain ⟨_, ⟨fr0, fr1⟩, room0, room1⟩ := hsm
  have hfit := fits_of hre
  have hbl := hr.len
  have htb : takesB l = 1 + needZ (n : Int) := by unfold takesB; rw [hbl]
  have hzz : 1 ≤ 1 + needZ (n : Int) ∧ 1 + needZ (n : Int) ≤ 20000 := by unfold needZ; split <;> omega
  have HTK := Lib.hid (fun w => takes_any A n c w (by omega))
  have hd1 := hd.only0 ho1.drew
  have happ := appJ hre hP hZ hS hM hS2
  have hpd := packH_done d js.half (usedJ js) l
  rw [hP] at hpd
  have hzd := zero_done D1 js.half (usedJ js + takesB l)
  rw [hZ] at hzd
  have hsd := syn_done D2
  rw [hS] at hsd
  have hmd := wr_done D3 (js.half.fr + usedJ js) (putB (markH js.half js.l.length l))
  rw [hM] at hmd
  simp only at hpd hzd hsd hmd
  have htt := takesB_le (b := l) (by omega)
  have HPK := Lib.hid (show Calls Tryz.prog 63 #[js.half.val p, .int .i64 (usedJ js), .slice A n c] w1.drew fun x w' => BoolJ w1.drew p g b W cap (D1, b1) x w' from by
    have := hpack_any hd1 hn2 js.half hj.sm (usedJ js) (by omega) A n c l hr1 hn hnc hcm (by omega)
    rw [hP] at this
    exact this)
  have HZR := Lib.hid (fun (wx : World) (Wx : List Nat) (hd : IsD wx p g b Wx cap D1) => (show Calls Tryz.prog 58 #[js.half.val p, .int .i64 (usedJ js + takesB l)] wx fun x w' => BoolJ wx p g b Wx cap (D2, b2) x w' from by
    have := zero_any hd js.half hj.sm (usedJ js + takesB l) (by omega) (by omega)
    rw [hZ] at this
    exact this))
  have hcs := errS_is D2
  rw [hS] at hcs
  obtain ⟨e3, he3⟩ : ∃ e, errS D2 = e := ⟨_, rfl⟩
  rw [he3] at hcs
  have HSY := Lib.hid (fun (wx : World) (Wx : List Nat) (hd : IsD wx p g b Wx cap D2) => sync_0 hd he3 (show (synD D2).1 = D3 by rw [hS]) (by omega))
  have HBJ := Lib.hid (fun (wx : World) (ho : Only [p, g, b] w1.drew wx) => hj1.blk.drew.only ho (hj1.q_far (hd.only0 ho1)))
  have HFO := Lib.hid (fun (Dx : DS) (wx : World) (h : Did w1.drew p g b W cap Dx wx) => fail_out hd ho1.drew hj hWT h)
  simp only [List.map_cons, List.map_nil] at HRF
  rw [hre] at HRF
  have yj := hj1.blk.drew
  have x0 := yj.cell 0
  have x1 := yj.cell 1
  have x2 := yj.cell 2
  have x3 := yj.cell 3
  have HAPP := Lib.hid happ
  rw [htb] at HZR
  obtain ⟨U, hU⟩ : ∃ U, usedJ js = U := ⟨_, rfl⟩
  rw [hU] at hub HRF HUS HPK HZR hfit
  obtain ⟨z, hz⟩ : ∃ z, 1 + needZ (n : Int) = z := ⟨_, rfl⟩
  rw [hz] at htb hzz HTK HZR
  rw [htb] at hfit
  obtain ⟨⟨gen, fr, room⟩, hh⟩ : ∃ h, js.half = h := ⟨_, rfl⟩
  rw [hh] at HPK HZR HRM HRF HBJ hfit room0 room1 fr0 fr1 x0 x1 x2 x3
  unfold Half.val at HPK HZR
  simp only at HPK HZR HRM HRF HBJ hfit room0 room1 fr0 fr1 x0 x1 x2 x3
  obtain ⟨u0, u1⟩ := hub
  obtain ⟨z0, z1⟩ := hzz
  have hwr : IntKind.i64.wrap (U + z) = U + z := by rw [IntKind.wrap_i64]; omega
  subst hb
  clear hd hj hWT hr hfar hj1 hr1 hhd hrr happ hU ho1 hs1 hd1 hpd hzd hsd hmd htt hcs he3 hP hZ hS hM hS2 yj htb hz hh hre hbl
  go_enter Tryz.func15, Tryz.ntmps15
  go_wp2_with (first
    | (go_at_call 33; refine HRM.out.mono ?_; rintro x wa ⟨rfl, hwa⟩; have hwa := hwa.symm; subst hwa)
    | (go_at_call 31; refine HUS.out.mono ?_; rintro x wb ⟨rfl, hwb⟩; have hwb := hwb.symm; subst hwb)
    | (go_at_call 62; refine HRF.out.mono ?_; rintro x wc ⟨rfl, hwc⟩; have hwc := hwc.symm; subst hwc))
  refine wp_region_hand (S := fun Y => Y.cell? ⟨q, 0, none⟩ = some (.pointer (some ⟨p, 0, none⟩)) ∧ Y.cell? ⟨q, 1, none⟩ = some (.int .i64 gen) ∧ Y.cell? ⟨q, 2, none⟩ = some (.int .i64 fr) ∧ Y.cell? ⟨q, 3, none⟩ = some (.int .i64 room)) (by kernel_rfl) ?_
  have hS := (show w1.drew.cell? ⟨q, 0, none⟩ = some (.pointer (some ⟨p, 0, none⟩)) ∧ w1.drew.cell? ⟨q, 1, none⟩ = some (.int .i64 gen) ∧ w1.drew.cell? ⟨q, 2, none⟩ = some (.int .i64 fr) ∧ w1.drew.cell? ⟨q, 3, none⟩ = some (.int .i64 room) from ⟨x0, x1, x2, x3⟩)
  refine takeV 0 (.pointer (some ⟨q, 0, none⟩)) rfl rfl (by kernel_rfl) (fun Y hY => by obtain ⟨y0, y1, y2, y3⟩ := hY; go_simp) hS ?_; simp only [s0A, s0B, s0C]
  refine takeV 1 (.pointer (some ⟨q, 0, none⟩)) rfl rfl (by kernel_rfl) (fun Y hY => by obtain ⟨y0, y1, y2, y3⟩ := hY; go_simp) hS ?_; simp only [s0A, s0B, s0C]
  refine takeV 2 (.pointer (some ⟨q, 0, none⟩)) rfl rfl (by kernel_rfl) (fun Y hY => by obtain ⟨y0, y1, y2, y3⟩ := hY; go_simp) hS ?_; simp only [s0A, s0B, s0C]
  refine takeV 3 (.agg #[.pointer (some ⟨p, 0, none⟩), .int .i64 gen, .int .i64 fr, .int .i64 room]) rfl rfl (by kernel_rfl) (fun Y hY => by obtain ⟨y0, y1, y2, y3⟩ := hY; go_simp) hS ?_; simp only [s0A, s0B, s0C]
  refine takeV 4 (.int .i64 U) rfl rfl (by kernel_rfl) (fun Y hY => by obtain ⟨y0, y1, y2, y3⟩ := hY; go_simp) hS ?_; simp only [s0A, s0B, s0C]
  refine takeV 5 (.slice A n c) rfl rfl (by kernel_rfl) (fun Y hY => by obtain ⟨y0, y1, y2, y3⟩ := hY; go_simp) hS ?_; simp only [s0A, s0B, s0C]
  refine callW (i := 6) rfl (by kernel_rfl) rfl (by rfl) ?_ (HPK.out) ?_
  · go_simp
  rintro x w2 ⟨rfl, hdid⟩
  have HD2 := Lib.hid hdid
  obtain ⟨W2, hd2, hn2', ho2⟩ := HD2.out
  have hb2 := HBJ.out w2 ho2
  have hS2 := (show _ ∧ _ ∧ _ ∧ _ from ⟨hb2.cell 0, hb2.cell 1, hb2.cell 2, hb2.cell 3⟩)
  have HZ2 := Lib.hid (HZR.out w2 W2 hd2)
  have HN2 := Lib.hid hn2'
  have HO2 := Lib.hid ho2
  clear hdid hd2 hn2' ho2 hb2
  refine ⟨_, rfl, hS2, ?_⟩
  simp only [s0A, s0B, s0C]
  refine takeV 7 (.bool true) rfl rfl (by kernel_rfl) (fun Y hY => by obtain ⟨y0, y1, y2, y3⟩ := hY; go_simp) hS2 ?_; simp only [s0A, s0B, s0C]
  refine takeV 8 (.bool true) rfl rfl (by kernel_rfl) (fun Y hY => by obtain ⟨y0, y1, y2, y3⟩ := hY; go_simp) hS2 ?_; simp only [s0A, s0B, s0C]
  refine passV 9 rfl rfl (by kernel_rfl) hS2 ?_; simp only [s0A, s0B, s0C]
  refine passV 10 rfl rfl (by kernel_rfl) hS2 ?_; simp only [s0A, s0B, s0C]
  refine passV 11 rfl rfl (by kernel_rfl) hS2 ?_; simp only [s0A, s0B, s0C]
  refine passV 12 rfl rfl (by kernel_rfl) hS2 ?_; simp only [s0A, s0B, s0C]
  refine passV 13 rfl rfl (by kernel_rfl) hS2 ?_; simp only [s0A, s0B, s0C]
  refine passV 14 rfl rfl (by kernel_rfl) hS2 ?_; simp only [s0A, s0B, s0C]
  refine passV 15 rfl rfl (by kernel_rfl) hS2 ?_; simp only [s0A, s0B, s0C]
  refine passV 16 rfl rfl (by kernel_rfl) hS2 ?_; simp only [s0A, s0B, s0C]
  refine passV 17 rfl rfl (by kernel_rfl) hS2 ?_; simp only [s0A, s0B, s0C]
  refine passV 18 rfl rfl (by kernel_rfl) hS2 ?_; simp only [s0A, s0B, s0C]
  refine takeV 19 (.bool true) rfl rfl (by kernel_rfl) (fun Y hY => by obtain ⟨y0, y1, y2, y3⟩ := hY; go_simp) hS2 ?_; simp only [s0A, s0B, s0C]
  refine takeV 20 (.bool true) rfl rfl (by kernel_rfl) (fun Y hY => by obtain ⟨y0, y1, y2, y3⟩ := hY; go_simp) hS2 ?_; simp only [s0A, s0B, s0C]
  refine passV 21 rfl rfl (by kernel_rfl) hS2 ?_; simp only [s0A, s0B, s0C]
  refine passV 22 rfl rfl (by kernel_rfl) hS2 ?_; simp only [s0A, s0B, s0C]
  refine passV 23 rfl rfl (by kernel_rfl) hS2 ?_; simp only [s0A, s0B, s0C]
  refine passV 24 rfl rfl (by kernel_rfl) hS2 ?_; simp only [s0A, s0B, s0C]
  refine passV 25 rfl rfl (by kernel_rfl) hS2 ?_; simp only [s0A, s0B, s0C]
  refine passV 26 rfl rfl (by kernel_rfl) hS2 ?_; simp only [s0A, s0B, s0C]
  refine passV 27 rfl rfl (by kernel_rfl) hS2 ?_; simp only [s0A, s0B, s0C]
  refine takeV 28 (.bool true) rfl rfl (by kernel_rfl) (fun Y hY => by obtain ⟨y0, y1, y2, y3⟩ := hY; go_simp) hS2 ?_; simp only [s0A, s0B, s0C]
  refine wpAnyH_done (by kernel_rfl) ?_ _
  go_wp2_with (go_at_call 65; refine (HFO.out _ _ HD2.out).mono ?_; rintro x wz ⟨rfl, hz⟩; have HZZ := Lib.hid hz; clear hz)
  go_ret
  rw [HAPP.out]
  exact ⟨rfl, HZZ.out⟩
end
end Go.Proofs.YthgfmoogagldmaaGreat.Journal
