/- MsA: The machine, as it lies; The machine in memory: a frame goes, a number is printed; A call too deep; a return from the outermost call; A return whose answer nobody wants. -/
import Derived.Test.YtkdacemachejoaaVeStoreq
namespace Go.Proofs.Ytkdacemachejoaa.Vm
open Go.RowKit Go.Shelf Object
set_option linter.unusedVariables false
set_option maxRecDepth 100000
/-- the machine's own cells -/
def mcells (cA : Option Addr) (cn cc : Nat) (fv : Value) (at_ : Int) (ov : Value) (en : Int) (ended : Bool) : Array Value := #[.slice cA cn cc, fv, .int .i64 at_, ov, .int .i64 en, .bool ended]
theorem stop_any (mb : Nat) (cA : Option Addr) (cn cc : Nat) (fv : Value) (at_ : Int) (ov : Value) (en e : Int) (w : World) (hb : Blk w mb 58 (mcells cA cn cc fv at_ ov en false)) :
    Calls Try.prog 27 #[.pointer (some ⟨mb, 0, none⟩), .int .i64 e] w fun y w' => y = .returned (.tuple #[]) ∧ Blk w' mb 58 (mcells cA cn cc fv at_ ov e true) ∧ Only [mb] w w' := by
  have p4 : w.cell? ⟨mb, 4, none⟩ = some (.int .i64 en) := hb.cell 4
  have p5 : w.cell? ⟨mb, 5, none⟩ = some (.bool false) := hb.cell 5
  have z4 := hb.frozen 4
  have z5 := hb.frozen 5
  have hb1 := hb.set_ 4 (.int .i64 e)
  have q5 : (w.setCell ⟨mb, 4, none⟩ (.int .i64 e)).cell? ⟨mb, 5, none⟩ = some (.bool false) := hb1.cell 5
  have y5 := hb1.frozen 5
  have hb2 := hb1.set_ 5 (.bool true)
  have HB := Lib.hid hb2
  have HO := Lib.hid (((Only.refl [mb] w).setCell (p := ⟨mb, 4, none⟩) (.inl (by simp)) (.int .i64 e)).setCell (p := ⟨mb, 5, none⟩) (.inl (by simp)) (.bool true))
  clear hb hb1 hb2
  go_enter Try.func27, Try.ntmps27
  go_wp2_with fail
  go_end0
  exact ⟨rfl, HB.out, HO.out⟩
theorem rows_ne {w : World} {base e size n base' e' size' n' : Nat} {v v' : Value} {rows rows' : List (List Value)} (h : OwnR e size w base v n rows) (h' : OwnR e' size' w base' v' n' rows') (he : e ≠ e') : ∀ g ∈ ownL v, g ∉ ownL v' := by
  intro g hg
  obtain ⟨_, h0⟩ := h.own
  rcases h0 with ⟨rfl, _⟩ | ⟨g', cap, cur, rfl, _, hh, _⟩
  · simp [ownL, Value.ownBlock] at hg
  · simp [ownL, Value.ownBlock] at hg
    subst hg
    exact row_ne h' g (t := e) hh he
theorem FIn.only {w w' : World} {S : List Nat} {base fb : Nat} {sv : Value} {f : Fr} (h : FIn w base fb sv f) (ho : Only S w w') (h1 : fb ∉ S) (h2 : ∀ g ∈ ownL sv, g ∉ S) : FIn w' base fb sv f :=
  ⟨h.1, h.2.1.only ho h1, h.2.2.1.only ho h2, h.2.2.2⟩
/-- a frame: its block, its slots, what it holds -/
structure FB where
  fb : Nat
  sv : Value
  f : Fr
def FB.prow (x : FB) : List Value := [.pointer (some ⟨x.fb, 0, none⟩)]
def svL (F : List FB) : List Nat := F.flatMap fun x => ownL x.sv
/-- the machine in memory -/
structure MIn (w : World) (base mb : Nat) (cA : Option Addr) (cn cc : Nat) (fv ov : Value) (F : List FB) (at_ : Int) (out : List Int) (en : Int) (ended : Bool) : Prop where
  blk : Blk w mb 58 (mcells cA cn cc fv at_ ov en ended)
  frs : OwnR 51 1 w base fv F.length (F.map FB.prow)
  outs : OwnR 2 1 w base ov out.length (irows out)
  each : ∀ x ∈ F, FIn w base x.fb x.sv x.f
  fbs : (F.map FB.fb).Nodup
  svs : (ownL ov ++ svL F).Nodup
  mbase : base ≤ mb
section
variable {w w' : World} {base mb cn cc : Nat} {cA : Option Addr} {fv ov : Value} {F pre : List FB} {x : FB} {at_ : Int} {out : List Int} {en : Int} {ended : Bool}
theorem MIn.hx (h : MIn w base mb cA cn cc fv ov (pre ++ [x]) at_ out en ended) : FIn w base x.fb x.sv x.f := h.each x (by simp)
theorem MIn.mb_ne (h : MIn w base mb cA cn cc fv ov F at_ out en ended) : mb ∉ ownL fv ∧ mb ∉ ownL ov ∧ ∀ y ∈ F, mb ≠ y.fb ∧ mb ∉ ownL y.sv :=
  ⟨row_ne h.frs mb h.blk (by decide), row_ne h.outs mb h.blk (by decide), fun y hy => ⟨Blk.ne_ h.blk (h.each y hy).2.1 (by decide), row_ne (h.each y hy).2.2.1 mb h.blk (by decide)⟩⟩
/-- the innermost frame turns -/
theorem MIn.frame {sv' : Value} {f' : Fr} (h : MIn w base mb cA cn cc fv ov (pre ++ [x]) at_ out en ended) (hx : FIn w' base x.fb sv' f') (ho : Only (x.fb :: ownL x.sv) w w') (hfr : FreshV w x.sv sv') :
    MIn w' base mb cA cn cc fv ov (pre ++ [⟨x.fb, sv', f'⟩]) at_ out en ended := by
  have hX := h.hx
  have hm := h.mb_ne.2.2 x (by simp)
  have hsv := h.svs
  have hfb := h.fbs
  simp only [svL, List.flatMap_append, List.flatMap_cons, List.flatMap_nil, List.append_nil] at hsv
  simp only [List.map_append, List.map_cons, List.map_nil] at hfb
  have hov : ∀ g ∈ ownL ov, g ∉ ownL x.sv := fun g hg hg' => (List.nodup_append.1 hsv).2.2 g hg g (List.mem_append_right _ hg') rfl
  have hpre : ∀ y ∈ pre, ∀ g ∈ ownL y.sv, g ∉ ownL x.sv := fun y hy g hg hg' => (List.nodup_append.1 (List.nodup_append.1 hsv).2.1).2.2 g (List.mem_flatMap.2 ⟨y, hy, hg⟩) g hg' rfl
  have hpf : ∀ y ∈ pre, y.fb ≠ x.fb := fun y hy he => (List.nodup_append.1 hfb).2.2 y.fb (List.mem_map_of_mem hy) x.fb (by simp) he
  have hlt : ∀ y ∈ pre, ∀ g ∈ ownL y.sv, g < w.heap.size := fun y hy g hg => ((h.each y (by simp [hy])).2.2.1.lt g hg).2
  refine ⟨h.blk.only ho (by simp [hm.1, hm.2]), ?_, h.outs.only ho (fun g hg => ?_), fun y hy => ?_, by simpa using hfb, ?_, h.mbase⟩
  · have h1 := h.frs.only ho (fun g hg => by
      rw [List.mem_cons, not_or]
      exact ⟨fun he => row_ne h.frs x.fb hX.2.1 (by decide) (he ▸ hg), rows_ne h.frs hX.2.2.1 (by decide) g hg⟩)
    simpa [FB.prow] using h1
  · rw [List.mem_cons, not_or]
    exact ⟨fun he => row_ne h.outs x.fb hX.2.1 (by decide) (he ▸ hg), hov g hg⟩
  · rcases List.mem_append.1 hy with hy | hy
    · have hY := h.each y (by simp [hy])
      refine hY.only ho ?_ (fun g hg => ?_)
      · rw [List.mem_cons, not_or]
        exact ⟨hpf y hy, row_ne hX.2.2.1 y.fb hY.2.1 (by decide)⟩
      · rw [List.mem_cons, not_or]
        exact ⟨fun he => row_ne hY.2.2.1 x.fb hX.2.1 (by decide) (he ▸ hg), hpre y hy g hg⟩
    · rw [List.mem_singleton.1 hy]
      exact hx
  · simp only [svL, List.flatMap_append, List.flatMap_cons, List.flatMap_nil, List.append_nil]
    have hn' : (ownL sv').Nodup := by unfold ownL; cases sv'.ownBlock <;> simp
    have hs := (List.nodup_append.1 hsv)
    have hs2 := (List.nodup_append.1 hs.2.1)
    refine List.nodup_append.2 ⟨hs.1, List.nodup_append.2 ⟨hs2.1, hn', fun a ha b hb he => ?_⟩, fun a ha b hb he => ?_⟩
    · subst he
      obtain ⟨y, hy, hya⟩ := List.mem_flatMap.1 ha
      rcases hfr a hb with h1 | h1
      · exact hpre y hy a hya h1
      · have := hlt y hy a hya; omega
    · subst he
      rcases List.mem_append.1 hb with hb | hb
      · exact hs.2.2 a ha a (List.mem_append_left _ hb) rfl
      · rcases hfr a hb with h1 | h1
        · exact hov a ha h1
        · have := (h.outs.lt a ha).2; omega
/-- the machine's own cells turn -/
theorem MIn.mach {at' : Int} {en' : Int} {ended' : Bool} (h : MIn w base mb cA cn cc fv ov F at_ out en ended) (hb : Blk w' mb 58 (mcells cA cn cc fv at' ov en' ended')) (ho : Only [mb] w w') : MIn w' base mb cA cn cc fv ov F at' out en' ended' := by
  have hm := h.mb_ne
  have key : ∀ {l : List Nat}, mb ∉ l → ∀ g ∈ l, g ∉ [mb] := fun hl g hg he => hl (by rw [← List.mem_singleton.1 he]; exact hg)
  exact ⟨hb, h.frs.only ho (key hm.1), h.outs.only ho (key hm.2.1), fun y hy => (h.each y hy).only ho (by simpa using fun e => (hm.2.2 y hy).1 e.symm) (key (hm.2.2 y hy).2), h.fbs, h.svs, h.mbase⟩
end
end Go.Proofs.Ytkdacemachejoaa.Vm
namespace Go.Proofs.Ytkdacemachejoaa.Vm
open Go.RowKit Go.Shelf Object
set_option linter.unusedVariables false
set_option maxRecDepth 100000
section
variable {w w' : World} {base mb cn cc : Nat} {cA : Option Addr} {fv ov : Value} {F pre : List FB} {x : FB} {at_ : Int} {out : List Int} {en : Int} {ended : Bool}
theorem not_one {mb : Nat} {l : List Nat} (h : mb ∉ l) : ∀ g ∈ l, g ∉ [mb] := fun g hg he => h (by rw [← List.mem_singleton.1 he]; exact hg)
/-- the innermost frame goes -/
theorem MIn.pop {fv' : Value} {at' : Int} (h : MIn w base mb cA cn cc fv ov (pre ++ [x]) at_ out en ended) (hf : OwnR 51 1 w base fv' pre.length (pre.map FB.prow)) (hl : ownL fv' = ownL fv)
    (hb : Blk w' mb 58 (mcells cA cn cc fv' at' ov en ended)) (ho : Only [mb] w w') : MIn w' base mb cA cn cc fv' ov pre at' out en ended := by
  have hm := h.mb_ne
  have hsv := h.svs
  have hfb := h.fbs
  simp only [svL, List.flatMap_append, List.flatMap_cons, List.flatMap_nil, List.append_nil] at hsv
  simp only [List.map_append, List.map_cons, List.map_nil] at hfb
  have h2 := List.nodup_append.1 hsv
  exact ⟨hb, hf.only ho (not_one (by rw [hl]; exact hm.1)), h.outs.only ho (not_one hm.2.1), fun y hy => (h.each y (by simp [hy])).only ho (by simpa using fun e => (hm.2.2 y (by simp [hy])).1 e.symm) (not_one (hm.2.2 y (by simp [hy])).2),
    (List.nodup_append.1 hfb).1, List.nodup_append.2 ⟨h2.1, (List.nodup_append.1 h2.2.1).1, fun a ha b hb' => h2.2.2 a ha b (List.mem_append_left _ hb')⟩, h.mbase⟩
/-- what was printed grows -/
theorem MIn.print {ov' : Value} {out' : List Int} {w2 : World} (h : MIn w base mb cA cn cc fv ov F at_ out en ended) (hE : ExtR 2 1 w w2 base ov ov' out'.length (irows out')) (hb : Blk w' mb 58 (mcells cA cn cc fv at_ ov' en ended)) (ho : Only [mb] w2 w') :
    MIn w' base mb cA cn cc fv ov' F at_ out' en ended := by
  have hm := h.mb_ne
  have h2 := List.nodup_append.1 h.svs
  have o1 := hE.only
  have hmo : mb ∉ ownL ov' := fun hg => by
    rcases hE.fresh mb hg with h1 | h1
    · exact hm.2.1 h1
    · have := h.blk.lt; omega
  have hsl : ∀ y ∈ F, ∀ g ∈ ownL y.sv, g ∉ ownL ov := fun y hy g hg hg' => h2.2.2 g hg' g (List.mem_flatMap.2 ⟨y, hy, hg⟩) rfl
  have hn' : (ownL ov').Nodup := by unfold ownL; cases ov'.ownBlock <;> simp
  refine ⟨hb, (h.frs.only o1 (rows_ne h.frs h.outs (by decide))).only ho (not_one hm.1), hE.own.only ho (not_one hmo), fun y hy => ?_, h.fbs, List.nodup_append.2 ⟨hn', h2.2.1, fun a ha b hb' he => ?_⟩, h.mbase⟩
  · exact ((h.each y hy).only o1 (row_ne h.outs y.fb (h.each y hy).2.1 (by decide)) (hsl y hy)).only ho (by simpa using fun e => (hm.2.2 y hy).1 e.symm) (not_one (hm.2.2 y hy).2)
  · subst he
    obtain ⟨y, hy, hya⟩ := List.mem_flatMap.1 hb'
    rcases hE.fresh a ha with h1 | h1
    · exact hsl y hy a hya h1
    · have := ((h.each y hy).2.2.1.lt a hya).2; omega
/-- one frame more -/
theorem MIn.push {fv' : Value} {w2 : World} {nb : Nat} {f' : Fr} (h : MIn w base mb cA cn cc fv ov F at_ out en ended) (hE : ExtR 51 1 w w2 base fv fv' (F ++ [(⟨nb, .slice none 0 0, f'⟩ : FB)]).length ((F ++ [(⟨nb, .slice none 0 0, f'⟩ : FB)]).map FB.prow)) (hN : FIn w2 base nb (.slice none 0 0) f') (hnb : w.heap.size ≤ nb)
    (hb : Blk w' mb 58 (mcells cA cn cc fv' at_ ov en ended)) (ho : Only [mb] w2 w') : MIn w' base mb cA cn cc fv' ov (F ++ [⟨nb, .slice none 0 0, f'⟩]) at_ out en ended := by
  have hm := h.mb_ne
  have o1 := hE.only
  have hlt := h.blk.lt
  have hmf : mb ∉ ownL fv' := fun hg => by
    rcases hE.fresh mb hg with h1 | h1
    · exact hm.1 h1
    · omega
  have e0 : ownL (.slice none 0 0) = [] := rfl
  refine ⟨hb, hE.own.only ho (not_one hmf), (h.outs.only o1 (rows_ne h.outs h.frs (by decide))).only ho (not_one hm.2.1), fun y hy => ?_, ?_, ?_, h.mbase⟩
  · rcases List.mem_append.1 hy with hy | hy
    · have hY := h.each y hy
      exact (hY.only o1 (row_ne h.frs y.fb hY.2.1 (by decide)) (rows_ne hY.2.2.1 h.frs (by decide))).only ho (by simpa using fun e => (hm.2.2 y hy).1 e.symm) (not_one (hm.2.2 y hy).2)
    · rw [List.mem_singleton.1 hy]
      exact hN.only ho (by rw [List.mem_singleton]; omega) (fun g hg => by rw [e0] at hg; cases hg)
  · rw [List.map_append]
    refine List.nodup_append.2 ⟨h.fbs, by simp, fun a ha b hb' he => ?_⟩
    obtain ⟨y, hy, rfl⟩ := List.mem_map.1 ha
    have h1 : b = nb := by simpa using hb'
    have h2 := (h.each y hy).2.1.lt
    omega
  · have e1 : svL (F ++ [⟨nb, .slice none 0 0, f'⟩]) = svL F := by
      unfold svL
      rw [List.flatMap_append]
      simp [e0]
    rw [e1]
    exact h.svs
end
end Go.Proofs.Ytkdacemachejoaa.Vm
namespace Go.Proofs.Ytkdacemachejoaa.Vm
open Go.RowKit Go.Shelf Object
set_option linter.unusedVariables false
set_option maxRecDepth 100000
set_option maxHeartbeats 4000000 in
theorem call_deep (mb fb : Nat) (cA fA : Option Addr) (cn cc n fc : Nat) (at_ : Int) (ov : Value) (en : Int) (op a b c k : Int) (w : World) (hb : Blk w mb 58 (mcells cA cn cc (.slice fA n fc) at_ ov en false)) (hn : 201 < n) :
    Calls Try.prog 45 #[.pointer (some ⟨mb, 0, none⟩), .pointer (some ⟨fb, 0, none⟩), .agg #[.int .i64 op, .int .i64 a, .int .i64 b, .int .i64 c, .int .i64 k]] w fun y w' => y = .returned (.tuple #[]) ∧ Blk w' mb 58 (mcells cA cn cc (.slice fA n fc) at_ ov 3 true) ∧ Only [mb] w w' := by
  obtain ⟨w1, hw1⟩ : ∃ w1, w.alloc (.cells #[.int .i64 op, .int .i64 a, .int .i64 b, .int .i64 c, .int .i64 k] 27) = w1 := ⟨_, rfl⟩
  have o1 : Only [] w w1 := by rw [← hw1]; exact (Only.refl [] w).alloc _
  have b1 := hb.only o1 (by simp)
  have p1 : w1.cell? ⟨mb, 1, none⟩ = some (.slice fA n fc) := b1.cell 1
  have d1 : decide ((201 : Int) < (n : Int)) = true := decide_eq_true (by omega)
  have HST := Lib.hid (stop_any mb cA cn cc (.slice fA n fc) at_ ov en 3 w1 b1)
  have HO := Lib.hid (o1.mono (S' := [mb]) (by simp))
  clear b1 o1 hb
  go_enter Try.func45, Try.ntmps45
  go_wp2_with fail
  refine HST.out.mono ?_
  rintro y w2 ⟨rfl, hb2, ho2⟩
  have HF := Lib.hid (And.intro hb2 (HO.out.trans ho2 (fun g hg => .inl hg)))
  clear hb2 ho2
  go_wp2_with fail
  refine bodyPost_ret (results_none rfl _ _ _) rfl ?_
  exact ⟨rfl, HF.out.1, HF.out.2⟩
set_option maxHeartbeats 4000000 in
theorem back_last (mb fb : Nat) (cA fA : Option Addr) (cn cc fc : Nat) (at_ : Int) (ov : Value) (en : Int) (op a b c k : Int) (w : World) (hb : Blk w mb 58 (mcells cA cn cc (.slice fA 1 fc) at_ ov en false)) :
    Calls Try.prog 46 #[.pointer (some ⟨mb, 0, none⟩), .pointer (some ⟨fb, 0, none⟩), .agg #[.int .i64 op, .int .i64 a, .int .i64 b, .int .i64 c, .int .i64 k]] w fun y w' => y = .returned (.tuple #[]) ∧ Blk w' mb 58 (mcells cA cn cc (.slice fA 1 fc) at_ ov 0 true) ∧ Only [mb] w w' := by
  obtain ⟨w1, hw1⟩ : ∃ w1, w.alloc (.cells #[.int .i64 op, .int .i64 a, .int .i64 b, .int .i64 c, .int .i64 k] 27) = w1 := ⟨_, rfl⟩
  have o1 : Only [] w w1 := by rw [← hw1]; exact (Only.refl [] w).alloc _
  have b1 := hb.only o1 (by simp)
  have p1 : w1.cell? ⟨mb, 1, none⟩ = some (.slice fA 1 fc) := b1.cell 1
  have HST := Lib.hid (stop_any mb cA cn cc (.slice fA 1 fc) at_ ov en 0 w1 b1)
  have HO := Lib.hid (o1.mono (S' := [mb]) (by simp))
  clear b1 o1 hb
  go_enter Try.func46, Try.ntmps46
  go_wp2_with fail
  refine HST.out.mono ?_
  rintro y w2 ⟨rfl, hb2, ho2⟩
  have HF := Lib.hid (And.intro hb2 (HO.out.trans ho2 (fun g hg => .inl hg)))
  clear hb2 ho2
  go_wp2_with fail
  refine bodyPost_ret (results_none rfl _ _ _) rfl ?_
  exact ⟨rfl, HF.out.1, HF.out.2⟩
end Go.Proofs.Ytkdacemachejoaa.Vm
namespace Go.Proofs.Ytkdacemachejoaa.Vm
open Go.RowKit Go.Shelf Object
set_option linter.unusedVariables false
set_option maxRecDepth 100000
set_option maxHeartbeats 4000000 in
theorem back_none (base mb g : Nat) (x : FB) (cA : Option Addr) (cn cc n fc : Nat) (at_ : Int) (ov : Value) (en : Int) (op a b c k : Int) (w : World) (hb : Blk w mb 58 (mcells cA cn cc (.slice (some ⟨g, 0, none⟩) (n + 1) fc) at_ ov en false)) (hx : FIn w base x.fb x.sv x.f) (hn0 : 0 < n) (hn : n ≤ 300) (hc : n + 1 ≤ fc) (ha : x.f.ans < 0) :
    Calls Try.prog 46 #[.pointer (some ⟨mb, 0, none⟩), .pointer (some ⟨x.fb, 0, none⟩), .agg #[.int .i64 op, .int .i64 a, .int .i64 b, .int .i64 c, .int .i64 k]] w fun y w' => y = .returned (.tuple #[]) ∧ Blk w' mb 58 (mcells cA cn cc (.slice (some ⟨g, 0, none⟩) n fc) x.f.back ov en false) ∧ Only [mb] w w' := by
  obtain ⟨w1, hw1⟩ : ∃ w1, w.alloc (.cells #[.int .i64 op, .int .i64 a, .int .i64 b, .int .i64 c, .int .i64 k] 27) = w1 := ⟨_, rfl⟩
  have o1 : Only [] w w1 := by rw [← hw1]; exact (Only.refl [] w).alloc _
  have b1 := hb.only o1 (by simp)
  have hx1 := hx.only o1 (by simp) (by simp)
  have hne : x.fb ≠ mb := Blk.ne_ hx1.2.1 b1 (by decide)
  obtain ⟨w2, hw2⟩ : ∃ w2, w1.setCell ⟨mb, 1, none⟩ (.slice (some ⟨g, 0, none⟩) n fc) = w2 := ⟨_, rfl⟩
  have b2 : Blk w2 mb 58 (mcells cA cn cc (.slice (some ⟨g, 0, none⟩) n fc) at_ ov en false) := by rw [← hw2]; exact b1.set_ 1 _
  have o2 : Only [mb] w1 w2 := by rw [← hw2]; exact (Only.refl [mb] w1).setCell (.inl (by simp)) _
  have f2 := hx1.2.1.only o2 (by simpa using hne)
  obtain ⟨w3, hw3⟩ : ∃ w3, w2.setCell ⟨mb, 2, none⟩ (.int .i64 x.f.back) = w3 := ⟨_, rfl⟩
  have b3 : Blk w3 mb 58 (mcells cA cn cc (.slice (some ⟨g, 0, none⟩) n fc) x.f.back ov en false) := by rw [← hw3]; exact b2.set_ 2 _
  have o3 : Only [mb] w2 w3 := by rw [← hw3]; exact (Only.refl [mb] w2).setCell (.inl (by simp)) _
  have f3 := f2.only o3 (by simpa using hne)
  have p1 : w1.cell? ⟨mb, 1, none⟩ = some (.slice (some ⟨g, 0, none⟩) (n + 1) fc) := b1.cell 1
  have z1 := b1.frozen 1
  have p2 : w2.cell? ⟨mb, 2, none⟩ = some (.int .i64 at_) := b2.cell 2
  have z2 := b2.frozen 2
  have q17 : w2.cell? ⟨x.fb, 17, none⟩ = some (.int .i64 x.f.back) := by rw [f2.cell 17, (Fr.at_end hx.1).1]; rfl
  have q18 : w3.cell? ⟨x.fb, 18, none⟩ = some (.int .i64 x.f.ans) := by rw [f3.cell 18, (Fr.at_end hx.1).2]; rfl
  have HF := Lib.hid (And.intro b3 (((o1.mono (S' := [mb]) (by simp)).trans o2 (fun g hg => .inl hg)).trans o3 (fun g hg => .inl hg)))
  have d1 : decide (x.f.ans < 0) = true := decide_eq_true ha
  have hne0 : ((n : Int) == 0) = false := by rw [beq_eq_false_iff_ne]; omega
  clear hb b1 b2 b3 hx hx1 f2 f3 o1 o2 o3 hne
  go_enter Try.func46, Try.ntmps46
  go_wp2_with fail
  refine bodyPost_ret (results_none rfl _ _ _) rfl ?_
  exact ⟨rfl, HF.out.1, HF.out.2⟩
end Go.Proofs.Ytkdacemachejoaa.Vm
