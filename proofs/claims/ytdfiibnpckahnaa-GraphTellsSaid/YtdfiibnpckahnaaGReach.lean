/- graph.reach's inner walk: what one comes to by a function. -/
import Derived.Test.YtdfiibnpckahnaaGOrd
import Derived.Test.YtdfiibnpckahnaaGSet
namespace Go.Proofs.Ytdfiibnpckahnaa.Graph
open Go.RowKit Go.Shelf Go.Maps
set_option linter.unusedVariables false
set_option maxRecDepth 100000
theorem zeroB (w : World) : (zeroValue 4).run Try.prog w = .ok (.bool false) w := by kernel_rfl
/-- what is seen, in memory -/
def SeenM (w : World) (sm : Nat) (S : List Path) : Prop := ∃ F, VM Try.prog 9 w sm S.length F ∧ ∀ p : Path, F (.string p) = if p ∈ S then some (.bool true) else none
/-- the boxes of reach -/
structure RcS (w : World) (nb sb wb sm F lb : Nat) (S : List Path) : Prop where
  n : w.cell? ⟨nb, 0, none⟩ = some (.func (.func F) #[] #[.pointer (some ⟨lb, 0, none⟩)])
  s : w.cell? ⟨sb, 0, none⟩ = some (.map (some sm))
  k : w.cell? ⟨wb, 0, none⟩ = some (.func (.func 50) #[] #[.pointer (some ⟨nb, 0, none⟩), .pointer (some ⟨sb, 0, none⟩), .pointer (some ⟨wb, 0, none⟩)])
  far : nb ≠ sm ∧ sb ≠ sm ∧ wb ≠ sm
  m : SeenM w sm S
section
variable {w w' : World} {nb sb wb sm F lb : Nat} {S : List Path}
theorem SeenM.lt (h : SeenM w sm S) : sm < w.heap.size := by obtain ⟨F, hv, _⟩ := h; exact hv.lt
theorem SeenM.only (h : SeenM w sm S) (ho : Only [] w w') : SeenM w' sm S := by obtain ⟨F, hv, hF⟩ := h; exact ⟨F, hv.only ho (by simp), hF⟩
theorem SeenM.made (w : World) : SeenM (w.alloc (.map #[] 0)) w.heap.size [] := ⟨_, VM.made w _ _, fun p => by simp⟩
theorem RcS.turn {S' : List Path} (h : RcS w nb sb wb sm F lb S) (ho : Only [sm] w w') (hm : SeenM w' sm S') : RcS w' nb sb wb sm F lb S' :=
  ⟨ho.cell h.n (by simpa using h.far.1), ho.cell h.s (by simpa using h.far.2.1), ho.cell h.k (by simpa using h.far.2.2), h.far, hm⟩
theorem RcS.only (h : RcS w nb sb wb sm F lb S) (ho : Only [] w w') : RcS w' nb sb wb sm F lb S := h.turn (ho.mono (by simp)) (h.m.only ho)
/-- a look at what is seen -/
theorem SeenM.look (h : SeenM w sm S) (p : Path) (hp : p.length ≤ 300) : (Instr.lookup 78 (.map (some sm)) (.string (str p)) false).run Try.prog w = .ok (.bool (decide (p ∈ S))) w := by
  obtain ⟨F, hv, hF⟩ := h
  rw [hv.run_look1 lawS Try.underlying78 (zeroB w) (keyS (k := p) (by unfold maxLen; omega)), hF]
  by_cases e : p ∈ S
  · rw [if_pos e, decide_eq_true e]; rfl
  · rw [if_neg e, decide_eq_false e]; rfl
/-- what the walk from s does to what is seen -/
def WalkR (nx : Path → List Path) (s : Path) (S S' : List Path) : Prop := (∀ t ∈ S, t ∈ S') ∧ (∀ t ∈ nx s, t ∈ S') ∧ ∀ t ∈ S', t ∈ S ∨ (Rch nx s t ∧ ∀ u ∈ nx t, u ∈ S')
/-- what the walk from s leaves -/
def WalkO (wx : World) (nb sb wb sm F lb : Nat) (nx : Path → List Path) (U : List Path) (s : Path) (S : List Path) (y : Ending) (w' : World) : Prop :=
  y = .returned (.tuple #[]) ∧ ∃ S', S'.Nodup ∧ (∀ t ∈ S', t ∈ U) ∧ RcS w' nb sb wb sm F lb S' ∧ Only [sm] wx w' ∧ WalkR nx s S S'
/-- the walk, as long as n more may be seen -/
def WalkC (w0 : World) (nb sb wb sm F lb : Nat) (nx : Path → List Path) (U : List Path) (n : Nat) : Prop :=
  ∀ (S : List Path) (s : Path) (wx : World), S.Nodup → (∀ t ∈ S, t ∈ U) → U.length ≤ S.length + n → Only [sm] w0 wx → RcS wx nb sb wb sm F lb S → s.length ≤ 300 →
    Calls Try.prog 50 #[.string (str s), .pointer (some ⟨nb, 0, none⟩), .pointer (some ⟨sb, 0, none⟩), .pointer (some ⟨wb, 0, none⟩)] wx fun y w' => WalkO wx nb sb wb sm F lb nx U s S y w'
/-- what next gives -/
def NextC (w0 : World) (sm F lb : Nat) (nx : Path → List Path) : Prop :=
  ∀ (wx : World) (s : Path), Only [sm] w0 wx → s.length ≤ 300 → Calls Try.prog F #[.string (str s), .pointer (some ⟨lb, 0, none⟩)] wx fun y w' => ∃ v, y = .returned v ∧ OwnR 9 1 w' wx.heap.size v (nx s).length (svs (nx s)) ∧ Only [] wx w'
/-- a round of the walk -/
def WalkI (wx wr : World) (nb sb wb sm F lb : Nat) (nx : Path → List Path) (U : List Path) (s : Path) (S Sj : List Path) (j : Nat) : Prop :=
  Sj.Nodup ∧ (∀ t ∈ Sj, t ∈ U) ∧ RcS wr nb sb wb sm F lb Sj ∧ Only [sm] wx wr ∧ (∀ t ∈ S, t ∈ Sj) ∧ (∀ t ∈ (nx s).take j, t ∈ Sj) ∧ ∀ t ∈ Sj, t ∈ S ∨ (Rch nx s t ∧ ∀ u ∈ nx t, u ∈ Sj)
set_option maxHeartbeats 8000000 in
theorem walk_step {w0 : World} {nx : Path → List Path} {U : List Path} (hU : ∀ s, ∀ t ∈ nx s, t ∈ U) (hU3 : ∀ t ∈ U, t.length ≤ 300) (hUl : U.length ≤ 100000) (hnl : ∀ s, (nx s).length ≤ 100000) (hN : NextC w0 sm F lb nx) (eg : ∀ (args : Array Value) (w : World), (callFunc F args).run Try.prog w = .ok (.enter F args) w) (n : Nat) (ih : ∀ n', n' < n → WalkC w0 nb sb wb sm F lb nx U n') : WalkC w0 nb sb wb sm F lb nx U n := by
  intro S s wx hnd hSU hn ho hst hs
  have HND := Lib.hid hnd
  have HSU := Lib.hid hSU
  have HO := Lib.hid ho
  have HST := Lib.hid hst
  have HIH := Lib.hid ih
  have HN := Lib.hid hN
  have HU := Lib.hid hU
  have HU3 := Lib.hid hU3
  have HUN := Lib.hid (And.intro hn hUl)
  have HNX := Lib.hid (hN wx s ho hs)
  have c0 := hst.n
  have c1 := hst.s
  have c2 := hst.k
  have hn1 := hnl s
  clear hnd hSU ho hst ih hN hU hU3 hn hUl hs hnl
  go_enter Try.func50, Try.ntmps50
  go_wp2_with fail
  refine HNX.out.mono ?_
  rintro y w1 ⟨v, rfl, hown, ho1⟩
  obtain ⟨A1, k1, e1, _⟩ := hown.shape (by decide)
  subst e1
  obtain ⟨nn, hnn⟩ : ∃ nn, (nx s).length = nn := ⟨_, rfl⟩
  rw [hnn] at hown hn1 ⊢
  have HNN := Lib.hid hnn
  have HOWN := Lib.hid hown
  have HI0 : Hid (WalkI wx w1 nb sb wb sm F lb nx U s S S 0) := Lib.hid ⟨HND.out, HSU.out, HST.out.only ho1, ho1.mono (by simp), fun t h => h, by simp, fun t h => .inl h⟩
  have hsl := HST.out.m.lt
  have HO1 := Lib.hid ho1
  clear hnn hown c0 c1 c2 ho1
  go_wp2_with fail
  go_loopw [11] (fun jv wr => ∃ (j : Nat) (Sj : List Path), jv = .int .i64 j ∧ j ≤ nn ∧ WalkI wx wr nb sb wb sm F lb nx U s S Sj j ∧ Only [sm] w1 wr) (fun jv _ => nn - (intOf jv).toNat)
  case atStart => exact ⟨0, S, rfl, by omega, HI0.out, Only.refl _ _⟩
  case round =>
    obtain ⟨j, Sj, rfl, hj, hi, hor⟩ := hrel
    have HI := Lib.hid hi
    have HOR := Lib.hid hor
    clear HI0 hi hor
    by_cases hlt : j < nn
    · have d1 : decide ((j : Int) < (nn : Int)) = true := decide_eq_true (by omega)
      have hown := HOWN.out.only HOR.out (fun g hg hm => by have := (HOWN.out.lt g hg).1; rw [List.mem_singleton.1 hm] at this; omega)
      obtain ⟨A2, k2, e2, _, _, hrc, _⟩ := hown.shape (by decide)
      injection e2 with e3 e4 e5
      subst e3
      obtain ⟨b, o, rfl, _, hc⟩ := hrc.at_ [] hlt
      have q := hc 0 (by decide)
      simp only [Nat.mul_one, Nat.add_zero, sv] at q
      obtain ⟨t, ht⟩ : ∃ t, (nx s).getD j [] = t := ⟨_, rfl⟩
      rw [ht] at q
      have g : (nx s)[j]? = some t := by rw [← ht, List.getD_eq_getElem?_getD, List.getElem?_eq_getElem (by rw [HNN.out]; exact hlt)]; rfl
      have G := Lib.hid g
      have htm := List.mem_of_getElem? g
      have HTM := Lib.hid htm
      have htU := HU.out s t htm
      have ht3 := HU3.out t htU
      have HTU := Lib.hid htU
      obtain ⟨i1, i2, i3, i4, i5, i6, i7⟩ := HI.out
      have c0 := i3.n
      have c1 := i3.s
      have c2 := i3.k
      have hlk := i3.m.look t ht3
      have HRS := Lib.hid i3
      clear hown hrc hc ht g htm htU e4 e5 i1 i2 i3 i4 i5 i6 i7
      by_cases hm : t ∈ Sj
      · rw [decide_eq_true hm] at hlk
        have HF : Hid (WalkI wx wr nb sb wb sm F lb nx U s S Sj (j + 1)) := Lib.hid (by
          obtain ⟨i1, i2, i3, i4, i5, i6, i7⟩ := HI.out
          refine ⟨i1, i2, i3, i4, i5, ?_, i7⟩
          rw [List.take_succ_eq_append_getElem (List.getElem?_eq_some_iff.1 G.out).1, (List.getElem?_eq_some_iff.1 G.out).2]
          intro u hu
          rcases List.mem_append.1 hu with h | h
          · exact i6 u h
          · rw [List.mem_singleton.1 h]; exact hm)
        clear hm
        go_wp2_with fail
        go_roundw
        case measure => simp [intOf]; omega
        case rel => exact ⟨j + 1, Sj, by go_num, by omega, HF.out, HOR.out⟩
      · rw [decide_eq_false hm] at hlk
        have HM := Lib.hid hm
        have hnd2 : (Sj ++ [t]).Nodup := nodup_snoc HI.out.1 hm
        have hsu2 : ∀ u ∈ Sj ++ [t], u ∈ U := fun u hu => by
          rcases List.mem_append.1 hu with h | h
          · exact HI.out.2.1 u h
          · rw [List.mem_singleton.1 h]; exact HTU.out
        have hl2 := nodup_le hnd2 hsu2
        have hl3 := nodup_le HND.out HI.out.2.2.2.2.1
        rw [List.length_append, List.length_singleton] at hl2
        obtain ⟨n', hn'⟩ : ∃ n', n = n' + 1 := ⟨n - 1, by have := HUN.out.1; omega⟩
        have hsl2 : Sj.length < maxLen := by have := HUN.out.2; unfold maxLen; omega
        obtain ⟨FF, hv, hF⟩ := HRS.out.m
        have HV := Lib.hid hv
        have HFF := Lib.hid hF
        have HND2 := Lib.hid (And.intro hnd2 hsu2)
        have HW : Hid (U.length ≤ (Sj ++ [t]).length + n') := Lib.hid (by rw [List.length_append, List.length_singleton]; have := HUN.out.1; omega)
        have HIH2 := Lib.hid (HIH.out n' (by omega))
        clear hm hnd2 hsu2 hv hF hl2 hl3 hn'
        go_upto_region 5 with (at_mapUpdate; refine wpList_put (f := FF) (n := Sj.length) (val := .bool true) rfl (.tmp 19) (.tmp 20) (.const (.bool true)) 78 rfl 9 4 lawS Try.underlying78 rfl HV.out hsl2 rfl rfl (keyS (k := t) (by unfold maxLen; omega)) ?_; intro w7 hv7 ho7; have HV7 := Lib.hid hv7; have HO7 := Lib.hid ho7; clear hv7 ho7)
        have hseen : SeenM w7 sm (Sj ++ [t]) := by
          refine ⟨_, by rw [List.length_append, List.length_singleton]; exact HV7.out, fun p => ?_⟩
          by_cases e : p = t
          · subst e; rw [upd_same, if_pos (by simp)]
          · rw [upd_other _ _ (fun h => e (by injection h)), HFF.out]
            by_cases e2 : p ∈ Sj
            · rw [if_pos e2, if_pos (by simp [e2])]
            · rw [if_neg e2, if_neg (by simp [e2, e])]
        have hrs7 := HRS.out.turn HO7.out hseen
        have ho07 := (HO.out.trans HI.out.2.2.2.1 (fun g h => .inl h)).trans HO7.out (fun g h => .inl h)
        have HCW := Lib.hid (HIH2.out (Sj ++ [t]) t w7 HND2.out.1 HND2.out.2 HW.out ho07 hrs7 ht3)
        have z2 := hrs7.k
        clear hseen hrs7 ho07 hlk c0 c1 c2 q
        go_wp2_with (go_at_call 50; refine HCW.out.mono ?_; rintro y w8 ⟨rfl, S', hP⟩; have HP := Lib.hid hP; clear hP)
        obtain ⟨p1, p2, p3, p4, p5, p6, p7⟩ := HP.out
        have HF : Hid (WalkI wx w8 nb sb wb sm F lb nx U s S S' (j + 1) ∧ Only [sm] w1 w8) := Lib.hid (by
          obtain ⟨i1, i2, i3, i4, i5, i6, i7⟩ := HI.out
          have ho78 := HO7.out.trans p4 (fun g h => .inl h)
          have hin : ∀ u ∈ Sj, u ∈ S' := fun u hu => p5 u (List.mem_append_left _ hu)
          have ht : t ∈ S' := p5 t (by simp)
          refine ⟨⟨p1, p2, p3, i4.trans ho78 (fun g h => .inl h), fun u hu => hin u (i5 u hu), ?_, fun u hu => ?_⟩, HOR.out.trans ho78 (fun g h => .inl h)⟩
          · rw [List.take_succ_eq_append_getElem (List.getElem?_eq_some_iff.1 G.out).1, (List.getElem?_eq_some_iff.1 G.out).2]
            intro u hu
            rcases List.mem_append.1 hu with h | h
            · exact hin u (i6 u h)
            · rw [List.mem_singleton.1 h]; exact ht
          · rcases p7 u hu with h | ⟨h1, h2⟩
            · rcases List.mem_append.1 h with h | h
              · exact (i7 u h).imp id (fun ⟨h1, h2⟩ => ⟨h1, fun z hz => hin z (h2 z hz)⟩)
              · rw [List.mem_singleton.1 h]
                exact .inr ⟨Rch.one HTM.out, p6⟩
            · exact .inr ⟨Rch.from_ HTM.out h1, h2⟩)
        clear p1 p2 p3 p4 p5 p6 p7 HP z2
        go_roundw
        case measure => simp [intOf]; omega
        case rel => exact ⟨j + 1, S', by go_num, by omega, HF.out.1, HF.out.2⟩
    · obtain rfl : j = nn := by omega
      have d1 : decide ((j : Int) < (j : Int)) = false := decide_eq_false (by omega)
      have HF : Hid (∃ S', S'.Nodup ∧ (∀ t ∈ S', t ∈ U) ∧ RcS wr nb sb wb sm F lb S' ∧ Only [sm] wx wr ∧ WalkR nx s S S') := Lib.hid (by
        obtain ⟨i1, i2, i3, i4, i5, i6, i7⟩ := HI.out
        rw [List.take_of_length_le (by rw [HNN.out]; exact Nat.le_refl _)] at i6
        exact ⟨Sj, i1, i2, i3, i4, i5, i6, i7⟩)
      go_wp2_with fail
      go_end0
      exact ⟨rfl, HF.out⟩
theorem walk_all {w0 : World} {nx : Path → List Path} {U : List Path} (hU : ∀ s, ∀ t ∈ nx s, t ∈ U) (hU3 : ∀ t ∈ U, t.length ≤ 300) (hUl : U.length ≤ 100000) (hnl : ∀ s, (nx s).length ≤ 100000) (hN : NextC w0 sm F lb nx) (eg : ∀ (args : Array Value) (w : World), (callFunc F args).run Try.prog w = .ok (.enter F args) w) (n : Nat) : WalkC w0 nb sb wb sm F lb nx U n :=
  Nat.strongRecOn n (fun n ih => walk_step hU hU3 hUl hnl hN eg n ih)
/-- what is seen at the end -/
theorem walkR_rch {nx : Path → List Path} {s : Path} {S' : List Path} (h : WalkR nx s [] S') (t : Path) : t ∈ S' ↔ Rch nx s t := by
  obtain ⟨_, h2, h3⟩ := h
  constructor
  · intro ht
    rcases h3 t ht with h | h
    · cases h
    · exact h.1
  · intro ht
    refine ht _ h2 (fun u v hu hv => ?_)
    rcases h3 u hu with h | h
    · cases h
    · exact h.2 v hv
end
end Go.Proofs.Ytdfiibnpckahnaa.Graph
