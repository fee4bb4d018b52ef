/- MsB: Calls and returns, over the machine's whole state; How a step ends. -/
import Derived.Test.YtkdacemachejoaaVeCallq
import Derived.Test.YtkdacemachejoaaMacA
import Derived.Test.YtkdacemachejoaaVeBackAq
namespace Go.Proofs.Ytkdacemachejoaa.Vm
open Go.RowKit Go.Shelf Object
set_option linter.unusedVariables false
set_option maxRecDepth 100000
/-- the machine in memory, as a state -/
def Mst (w : World) (base mb : Nat) (cA : Option Addr) (cn cc : Nat) (s : MS) : Prop := ∃ fv ov F, F.map FB.f = s.pre ++ [s.f] ∧ MIn w base mb cA cn cc fv ov F s.at_ s.out s.en s.ended
def StepO (w : World) (base mb : Nat) (cA : Option Addr) (cn cc : Nat) (s : MS) (y : Ending) (w' : World) : Prop := y = .returned (.tuple #[]) ∧ Mst w' base mb cA cn cc s ∧ Below base w w'
theorem only_set {S : List Nat} {w w' : World} (h : Only S w w') {p : Addr} (hp : p.block ∈ S) (v : Value) : Only S (w.setCell p v) w' :=
  ⟨h.os, h.tape, h.output, by simpa [World.setCell] using h.size, fun i hi hn => by
    have h1 := (Below.heap_setCell w p v i (by rintro rfl; exact hn hp))
    rw [h1]
    exact h.block i (by simpa [World.setCell] using hi) hn⟩
section
variable {w w' : World} {base mb cn cc : Nat} {cA : Option Addr} {fv ov : Value} {F pre post : List FB} {x : FB} {at_ : Int} {out : List Int} {en : Int} {ended : Bool}
/-- the machine's own cells and one frame turn, its slots stay -/
theorem MIn.turn {at' en' : Int} {ended' : Bool} {f' : Fr} (h : MIn w base mb cA cn cc fv ov (pre ++ x :: post) at_ out en ended) (hb : Blk w' mb 58 (mcells cA cn cc fv at' ov en' ended')) (hx : FIn w' base x.fb x.sv f') (ho : Only [mb, x.fb] w w') :
    MIn w' base mb cA cn cc fv ov (pre ++ ⟨x.fb, x.sv, f'⟩ :: post) at' out en' ended' := by
  have hm := h.mb_ne
  have hX := h.each x (by simp)
  have hfb := h.fbs
  simp only [List.map_append, List.map_cons] at hfb
  have hne : ∀ y, y ∈ pre ∨ y ∈ post → y.fb ≠ x.fb := fun y hy he => by
    have h1 := List.nodup_append.1 hfb
    rcases hy with hy | hy
    · exact h1.2.2 y.fb (List.mem_map_of_mem hy) x.fb (by simp) he
    · exact (List.nodup_cons.1 h1.2.1).1 (by rw [← he]; exact List.mem_map_of_mem hy)
  have two : ∀ {l : List Nat}, mb ∉ l → x.fb ∉ l → ∀ g ∈ l, g ∉ [mb, x.fb] := fun h1 h2 g hg hm => by
    simp only [List.mem_cons, List.not_mem_nil, or_false] at hm
    rcases hm with rfl | rfl
    · exact h1 hg
    · exact h2 hg
  refine ⟨hb, ?_, h.outs.only ho (two hm.2.1 (row_ne h.outs x.fb hX.2.1 (by decide))), fun y hy => ?_, ?_, ?_, h.mbase⟩
  · have h1 := h.frs.only ho (two hm.1 (row_ne h.frs x.fb hX.2.1 (by decide)))
    simpa [FB.prow] using h1
  · rcases List.mem_append.1 hy with hy | hy
    · have hY := h.each y (by simp [hy])
      exact hY.only ho (by simp only [List.mem_cons, List.not_mem_nil, or_false, not_or]; exact ⟨fun e => (hm.2.2 y (by simp [hy])).1 e.symm, hne y (.inl hy)⟩) (two (hm.2.2 y (by simp [hy])).2 (row_ne hY.2.2.1 x.fb hX.2.1 (by decide)))
    · rcases List.mem_cons.1 hy with rfl | hy
      · exact hx
      · have hY := h.each y (by simp [hy])
        exact hY.only ho (by simp only [List.mem_cons, List.not_mem_nil, or_false, not_or]; exact ⟨fun e => (hm.2.2 y (by simp [hy])).1 e.symm, hne y (.inr hy)⟩) (two (hm.2.2 y (by simp [hy])).2 (row_ne hY.2.2.1 x.fb hX.2.1 (by decide)))
  · simpa using hfb
  · simpa [svL] using h.svs
theorem MIn.base_le (h : MIn w base mb cA cn cc fv ov F at_ out en ended) : base ≤ w.heap.size := Nat.le_of_lt (Nat.lt_of_le_of_lt h.mbase h.blk.lt)
theorem call_any (c : Cd) (h : MIn w base mb cA cn cc fv ov (pre ++ [x]) at_ out en false) :
    Calls Try.prog 45 #[.pointer (some ⟨mb, 0, none⟩), .pointer (some ⟨x.fb, 0, none⟩), .agg #[.int .i64 c.op, .int .i64 c.a, .int .i64 c.b, .int .i64 c.c, .int .i64 c.n]] w (StepO w base mb cA cn cc (callP c ⟨pre.map FB.f, x.f, at_, out, en, false⟩)) := by
  have hbl := h.base_le
  have hmb := h.mbase
  unfold callP
  simp only [List.length_map]
  by_cases hd : 201 < pre.length + 1
  · rw [if_pos hd]
    obtain ⟨A, fc, rfl, _, _, _, _⟩ := h.frs.shape (by decide)
    rw [show (pre ++ [x]).length = pre.length + 1 by simp] at h
    refine (call_deep mb x.fb cA A cn cc (pre.length + 1) fc at_ ov en c.op c.a c.b c.c c.n w h.blk hd).mono ?_
    rintro y w' ⟨rfl, hb, ho⟩
    exact ⟨rfl, ⟨_, ov, pre ++ [x], by simp [MS.stop], h.mach hb ho⟩, ho.to_below hbl (by simpa using hmb)⟩
  · rw [if_neg hd]
    refine (call_room base mb x cA cn cc fv (pre ++ [x]).length ((pre ++ [x]).map FB.prow) at_ ov en c.op c.a c.b c.c c.n w h.blk h.frs h.hx (by simp; omega) hmb hbl).mono ?_
    rintro y w' ⟨rfl, fv', w2, nb, hE, hN, hnb, hb, hx, ho⟩
    obtain ⟨wh, hwh⟩ : ∃ wh, w2.setCell ⟨mb, 1, none⟩ fv' = wh := ⟨_, rfl⟩
    have hm2 : Blk w2 mb 58 (mcells cA cn cc fv at_ ov en false) := h.blk.only hE.only h.mb_ne.1
    have hmh : Blk wh mb 58 (mcells cA cn cc fv' at_ ov en false) := by rw [← hwh]; exact hm2.set_ 1 fv'
    have hoh : Only [mb] w2 wh := by rw [← hwh]; exact (Only.refl [mb] w2).setCell (.inl (by simp)) _
    have hE' : ExtR 51 1 w w2 base fv fv' ((pre ++ [x]) ++ [(⟨nb, .slice none 0 0, ⟨zero8, [], x.f.out, zero4, at_, c.a⟩⟩ : FB)]).length (((pre ++ [x]) ++ [(⟨nb, .slice none 0 0, ⟨zero8, [], x.f.out, zero4, at_, c.a⟩⟩ : FB)]).map FB.prow) := by
      have e : ((pre ++ [x]) ++ [(⟨nb, .slice none 0 0, ⟨zero8, [], x.f.out, zero4, at_, c.a⟩⟩ : FB)]).length = (pre ++ [x]).length + 1 := by simp
      rw [e, List.map_append]
      exact hE
    have hM := h.push hE' hN hnb hmh hoh
    rw [List.append_assoc] at hM
    have ho' : Only [mb, x.fb] wh w' := by rw [← hwh]; exact only_set ho (p := ⟨mb, 1, none⟩) (by simp) fv'
    have hM2 := hM.turn hb hx ho'
    have hbx : base ≤ x.fb := h.hx.2.2.2
    have hb1 : Below base w w2 := hE.only.to_below hbl (fun g hg => (h.frs.lt g hg).1)
    have hb2 : Below base w2 w' := ho.to_below (Nat.le_trans hbl hE.only.size) (fun g hg => by
      simp only [List.mem_cons, List.not_mem_nil, or_false] at hg
      rcases hg with rfl | rfl
      · exact hmb
      · exact hbx)
    exact ⟨rfl, ⟨_, ov, _, by simp, hM2⟩, hb1.trans hb2⟩
theorem set_le8 {l : List Int} {k : Nat} : (k : Int).toNat = k := by omega
set_option maxHeartbeats 2000000 in
theorem back_any (c : Cd) (h : MIn w base mb cA cn cc fv ov (pre ++ [x]) at_ out en false) (hn : pre.length ≤ 201) (hca : c.a < 8) (han : x.f.ans < 8) :
    Calls Try.prog 46 #[.pointer (some ⟨mb, 0, none⟩), .pointer (some ⟨x.fb, 0, none⟩), .agg #[.int .i64 c.op, .int .i64 c.a, .int .i64 c.b, .int .i64 c.c, .int .i64 c.n]] w (StepO w base mb cA cn cc (backP c ⟨pre.map FB.f, x.f, at_, out, en, false⟩)) := by
  have hbl := h.base_le
  have hmb := h.mbase
  unfold backP
  simp only
  rcases List.eq_nil_or_concat pre with rfl | ⟨ps, z, rfl⟩
  · obtain ⟨A, fc, rfl, _, _, _, _⟩ := h.frs.shape (by decide)
    refine (back_last mb x.fb cA A cn cc fc at_ ov en c.op c.a c.b c.c c.n w h.blk).mono ?_
    rintro y w' ⟨rfl, hb, ho⟩
    exact ⟨rfl, ⟨_, ov, [] ++ [x], by simp [MS.stop], h.mach hb ho⟩, ho.to_below hbl (by simpa using hmb)⟩
  · rw [List.concat_eq_append] at h hn ⊢
    obtain ⟨m, hm⟩ : ∃ m, ps.length = m := ⟨_, rfl⟩
    have hln : (ps ++ [z]).length = m + 1 := by simp [hm]
    have hl2 : (ps ++ [z] ++ [x]).length = (m + 1) + 1 := by simp [hm]
    obtain ⟨A, fc, rfl, hcap, _, _, hsh⟩ := h.frs.shape (by decide)
    rw [hl2] at hcap
    rcases hsh with ⟨rfl, rfl⟩ | ⟨g, rfl, hgb, hgl⟩
    · omega
    have hfr := h.frs
    rw [hl2] at hfr h
    have hgm : g ≠ mb := fun e => h.mb_ne.1 (by simp [ownL, Value.ownBlock, e])
    have hcut : OwnR 51 1 w base (.slice (some ⟨g, 0, none⟩) (m + 1) fc) (ps ++ [z]).length ((ps ++ [z]).map FB.prow) := by
      have h1 := hfr.cut (i := m + 1) (by omega)
      rw [show ((ps ++ [z] ++ [x]).map FB.prow).take (m + 1) = (ps ++ [z]).map FB.prow by rw [List.map_append, List.take_append_of_le_length (by simp [hm]), List.take_of_length_le (by simp [hm])]] at h1
      rw [hln]
      exact h1
    have hz := h.each z (by simp)
    have hx := h.hx
    have hp : w.cell? ⟨g, m, none⟩ = some (.pointer (some ⟨z.fb, 0, none⟩)) := by
      have h1 := hfr.cellOf (i := m) (j := 0) (by omega) (by decide)
      rw [Nat.mul_one, Nat.add_zero] at h1
      rw [h1]
      have e : ((ps ++ [z] ++ [x]).map FB.prow).getD m [] = z.prow := by
        rw [List.getD_eq_getElem?_getD, List.getElem?_map, List.append_assoc, List.getElem?_append_right (by omega), hm]
        simp
      rw [e]
      rfl
    have hzx : z.fb ≠ x.fb := fun e => by
      have h1 := h.fbs
      rw [List.map_append, List.map_append] at h1
      exact (List.nodup_append.1 h1).2.2 z.fb (by simp) x.fb (by simp) e
    have hlast : (List.map FB.f (ps ++ [z])).getLast? = some z.f := by simp
    rw [hlast]
    have hdl : (List.map FB.f (ps ++ [z])).dropLast = ps.map FB.f := by simp
    simp only [hdl]
    -- the world in which the innermost frame is gone, and nothing else
    obtain ⟨wh, hwh⟩ : ∃ wh, (w.setCell ⟨mb, 1, none⟩ (.slice (some ⟨g, 0, none⟩) (m + 1) fc)).setCell ⟨mb, 2, none⟩ (.int .i64 x.f.back) = wh := ⟨_, rfl⟩
    have hmh : Blk wh mb 58 (mcells cA cn cc (.slice (some ⟨g, 0, none⟩) (m + 1) fc) x.f.back ov en false) := by
      rw [← hwh]
      exact (h.blk.set_ 1 _).set_ 2 _
    have hoh : Only [mb] w wh := by rw [← hwh]; exact ((Only.refl [mb] w).setCell (.inl (by simp)) _).setCell (.inl (by simp)) _
    have hM := h.pop hcut rfl hmh hoh
    have fin : ∀ (v : Int) (w' : World) (ka : Nat), x.f.ans = ka → Blk w' mb 58 (mcells cA cn cc (.slice (some ⟨g, 0, none⟩) (m + 1) fc) x.f.back ov en false) → FIn w' base z.fb z.sv { z.f with r := z.f.r.set ka v } → Only [mb, z.fb] w w' →
        Mst w' base mb cA cn cc ⟨ps.map FB.f, setr z.f x.f.ans v, x.f.back, out, en, false⟩ ∧ Below base w w' := fun v w' ka hka hb hzn ho => by
      have ho' : Only [mb, z.fb] wh w' := by
        rw [← hwh]
        exact only_set (only_set ho (p := ⟨mb, 1, none⟩) (by simp) _) (p := ⟨mb, 2, none⟩) (by simp) _
      refine ⟨⟨_, ov, _, ?_, hM.turn hb hzn ho'⟩, ho.to_below hbl (fun g hg => by
        simp only [List.mem_cons, List.not_mem_nil, or_false] at hg
        rcases hg with rfl | rfl
        · exact hmb
        · exact hz.2.2.2)⟩
      unfold setr
      rw [hka, Int.toNat_natCast, List.map_append]
      rfl
    by_cases ha : x.f.ans < 0
    · refine (back_none base mb g x cA cn cc (m + 1) fc at_ ov en c.op c.a c.b c.c c.n w h.blk hx (by omega) (by omega) (by omega) ha).mono ?_
      rintro y w' ⟨rfl, hb, ho⟩
      have ho' : Only [mb] wh w' := by
        rw [← hwh]
        exact only_set (only_set ho (p := ⟨mb, 1, none⟩) (by simp) _) (p := ⟨mb, 2, none⟩) (by simp) _
      exact ⟨rfl, ⟨_, ov, ps ++ [z], by simp [ha], hM.mach hb ho'⟩, ho.to_below hbl (by simpa using hmb)⟩
    · obtain ⟨ka, hka⟩ := Int.eq_ofNat_of_zero_le (show 0 ≤ x.f.ans by omega)
      by_cases hc : 0 ≤ c.a
      · obtain ⟨kc, hkc⟩ := Int.eq_ofNat_of_zero_le hc
        refine (back_reg base mb g x cA cn cc (m + 1) fc at_ ov en c.op c.a c.b c.c c.n w h.blk hx (by omega) (by omega) (by omega) z hz m ka rfl hp hgm hzx (by omega) hka kc (by omega) hkc).mono ?_
        rintro y w' ⟨rfl, hb, hzn, ho⟩
        have hf := fin _ w' ka hka hb hzn ho
        refine ⟨rfl, ?_, hf.2⟩
        rw [if_neg ha, if_pos hc]
        have e : ri x.f c.a = x.f.r.getD kc 0 := by unfold ri; rw [hkc, Int.toNat_natCast]
        rw [e]
        exact hf.1
      · refine (back_zero base mb g x cA cn cc (m + 1) fc at_ ov en c.op c.a c.b c.c c.n w h.blk hx (by omega) (by omega) (by omega) z hz m ka rfl hp hgm hzx (by omega) hka (by omega)).mono ?_
        rintro y w' ⟨rfl, hb, hzn, ho⟩
        have hf := fin _ w' ka hka hb hzn ho
        refine ⟨rfl, ?_, hf.2⟩
        rw [if_neg ha, if_neg hc]
        exact hf.1
end
end Go.Proofs.Ytkdacemachejoaa.Vm
namespace Go.Proofs.Ytkdacemachejoaa.Vm
open Go.RowKit Go.Shelf Object
set_option linter.unusedVariables false
section
variable {w w1 w' : World} {base mb cn cc : Nat} {cA : Option Addr} {fv ov : Value} {F pre : List FB} {x : FB} {at_ : Int} {out : List Int} {en : Int} {ended : Bool}
theorem fin_turn {f' : Fr} (h : MIn w1 base mb cA cn cc fv ov (pre ++ [x]) at_ out en ended) (hB : Below base w w1) (hx : FIn w' base x.fb x.sv f') (ho : Only [x.fb] w1 w') :
    StepO w base mb cA cn cc ⟨pre.map FB.f, f', at_, out, en, ended⟩ (.returned (.tuple #[])) w' := by
  have hne : mb ≠ x.fb := (h.mb_ne.2.2 x (by simp)).1
  have hb := h.blk.only ho (by simpa using hne)
  have hM := MIn.turn (post := []) h hb hx (ho.mono (S' := [mb, x.fb]) (by simp))
  exact ⟨rfl, ⟨_, ov, _, by simp, hM⟩, hB.trans (ho.to_below h.base_le (by simpa using h.hx.2.2.2))⟩
theorem fin_frame {f' : Fr} {sv' : Value} (h : MIn w1 base mb cA cn cc fv ov (pre ++ [x]) at_ out en ended) (hB : Below base w w1) (hx : FIn w' base x.fb sv' f') (ho : Only (x.fb :: ownL x.sv) w1 w') (hf : FreshV w1 x.sv sv') :
    StepO w base mb cA cn cc ⟨pre.map FB.f, f', at_, out, en, ended⟩ (.returned (.tuple #[])) w' := by
  have hM := h.frame hx ho hf
  exact ⟨rfl, ⟨_, ov, _, by simp, hM⟩, hB.trans (ho.to_below h.base_le (fun g hg => by
    rcases List.mem_cons.1 hg with rfl | hg
    · exact h.hx.2.2.2
    · exact (h.hx.2.2.1.lt g hg).1))⟩
theorem fin_mach {at' en' : Int} {ended' : Bool} (h : MIn w1 base mb cA cn cc fv ov (pre ++ [x]) at_ out en ended) (hB : Below base w w1) (hb : Blk w' mb 58 (mcells cA cn cc fv at' ov en' ended')) (ho : Only [mb] w1 w') :
    StepO w base mb cA cn cc ⟨pre.map FB.f, x.f, at', out, en', ended'⟩ (.returned (.tuple #[])) w' :=
  ⟨rfl, ⟨_, ov, _, by simp, h.mach hb ho⟩, hB.trans (ho.to_below h.base_le (by simpa using h.mbase))⟩
theorem fin_same (h : MIn w1 base mb cA cn cc fv ov (pre ++ [x]) at_ out en ended) (hB : Below base w w1) (ho : Only [] w1 w') :
    StepO w base mb cA cn cc ⟨pre.map FB.f, x.f, at_, out, en, ended⟩ (.returned (.tuple #[])) w' :=
  fin_turn h hB (h.hx.only ho (by simp) (by simp)) (ho.mono (by simp))
theorem fin_print {ov' : Value} {out' : List Int} {w2 : World} (h : MIn w1 base mb cA cn cc fv ov (pre ++ [x]) at_ out en ended) (hB : Below base w w1) (hE : ExtR 2 1 w1 w2 base ov ov' out'.length (irows out')) (hb : Blk w' mb 58 (mcells cA cn cc fv at_ ov' en ended)) (ho : Only [mb] w2 w') :
    StepO w base mb cA cn cc ⟨pre.map FB.f, x.f, at_, out', en, ended⟩ (.returned (.tuple #[])) w' :=
  ⟨rfl, ⟨_, ov', _, by simp, h.print hE hb ho⟩, (hB.trans (hE.only.to_below h.base_le (fun g hg => (h.outs.lt g hg).1))).trans (ho.to_below (Nat.le_trans h.base_le hE.only.size) (by simpa using h.mbase))⟩
theorem reg_cell (h : FIn w base x.fb x.sv x.f) {k : Nat} (hk : k < 8) {v : Int} (hv : x.f.r.getD k 0 = v) : w.cell? ⟨x.fb, k, none⟩ = some (.int .i64 v) := by rw [h.2.1.cell k, Fr.at_r h.1 hk, hv]; rfl
theorem in_cell (h : FIn w base x.fb x.sv x.f) {k : Nat} (hk : k < 4) {v : Int} (hv : x.f.inn.getD k 0 = v) : w.cell? ⟨x.fb, 9 + k, none⟩ = some (.int .i64 v) := by rw [h.2.1.cell (9 + k), Fr.at_in h.1 hk, hv]; rfl
theorem out_cell (h : FIn w base x.fb x.sv x.f) {k : Nat} (hk : k < 4) {v : Int} (hv : x.f.out.getD k 0 = v) : w.cell? ⟨x.fb, 13 + k, none⟩ = some (.int .i64 v) := by rw [h.2.1.cell (13 + k), Fr.at_out h.1 hk, hv]; rfl
theorem code_ne {cs : Array Value} {b : Nat} (h : MIn w base mb cA cn cc fv ov (pre ++ [x]) at_ out en ended) (hc : Blk w b 27 cs) : b ≠ mb ∧ b ≠ x.fb ∧ b ∉ ownL x.sv ∧ b ∉ ownL ov ∧ b ∉ ownL fv :=
  ⟨Blk.ne_ hc h.blk (by decide), Blk.ne_ hc h.hx.2.1 (by decide), row_ne h.hx.2.2.1 b hc (by decide), row_ne h.outs b hc (by decide), row_ne h.frs b hc (by decide)⟩
end
end Go.Proofs.Ytkdacemachejoaa.Vm
