/- The document's Under. -/
import Derived.Test.YtdfiibnpckahnaaGRSet
import Derived.Deep.DeepCutAuto
namespace Go.Proofs.Ytdfiibnpckahnaa.Graph
open Go.RowKit Go.Shelf Go.Maps
set_option linter.unusedVariables false
set_option maxRecDepth 100000
/-- rising, out of some: so it isn't long -/
def UB (U : List Path) (out : List Path) : Prop := Ris out ∧ ∀ t ∈ out, t ∈ U
section
variable {w wr w' : World} {v : Value} {out U : List Path} {l : List ND} {path s : Path} {x : ND} {k m : Nat}
theorem UB.len (h : UB U out) : out.length ≤ U.length := nodup_le h.1.nodup h.2
theorem UB.nil_ : UB U [] := ⟨List.Pairwise.nil, by simp⟩
theorem UB.put (h : UB U out) (hs : s ∈ U) : UB U (putL out s) := ⟨h.1.put, fun t ht => by
  rcases mem_put.1 ht with rfl | h1
  · exact hs
  · exact h.2 t h1⟩
theorem stepU_no {out : List Path} {x : Nd} (h1 : ¬ x.path = path) (h2 : x.path ∉ out) : stepU path out x = out := by
  unfold stepU
  rw [if_neg (by simp [h1, h2])]
theorem stepU_yes {out : List Path} {x : Nd} (h : x.path = path ∨ x.path ∈ out) : stepU path out x = x.imps.foldl putL out := by
  unfold stepU
  rw [if_pos h]
/-- the lists inside Under's loops -/
def unN (l : List ND) (path : Path) (o : List Path) (k : Nat) : List Path := ((l.map ND.nd).take k).foldl (stepU path) o
theorem unN_zero (o : List Path) : unN l path o 0 = o := by simp [unN]
theorem unN_all (o : List Path) : unN l path o l.length = passU (l.map ND.nd) path o := by
  unfold unN passU
  rw [List.take_of_length_le (by rw [List.length_map]; exact Nat.le_refl _)]
theorem unN_next {o : List Path} (hk : l[k]? = some x) : unN l path o (k + 1) = stepU path (unN l path o k) x.nd := fold_snoc (nds_at hk)
def unI (x : ND) (o : List Path) (k : Nat) : List Path := (x.imps.take k).foldl putL o
theorem unI_zero (o : List Path) : unI x o 0 = o := by simp [unI]
theorem unI_all (o : List Path) : unI x o x.imps.length = x.imps.foldl putL o := by unfold unI; rw [List.take_length]
theorem unI_next {o : List Path} (hk : x.imps[k]? = some s) : unI x o (k + 1) = putL (unI x o k) s := fold_snoc hk
theorem iter_next (f : List Path → List Path) (n : Nat) (o : List Path) : f (iterN f n o) = iterN f (n + 1) o := rfl
set_option maxHeartbeats 16000000 in
theorem runder_any (A : Option Addr) (m c : Nat) (l : List ND) (path : Path) (w : World) (hr : Recs w w.heap.size 2 A m (l.map ND.row)) (hin : ∀ x ∈ l, x.in_ w w.heap.size) (hm : m ≤ 60) :
    Calls Try.prog 16 #[.slice A m c, .string (str path)] w fun y w' => SetO w (underL (l.map ND.nd) path) y w' := by
  have HR := Lib.hid hr
  have HIN := Lib.hid hin
  have hl : l.length = m := by have := hr.1; rwa [List.length_map] at this
  obtain ⟨U, hU⟩ : ∃ U, (l.map ND.nd).flatMap (·.imps) = U := ⟨_, rfl⟩
  have HU : Hid (∀ x ∈ l, ∀ i ∈ x.imps, i ∈ U) := Lib.hid (fun x hx i hi => by rw [← hU]; exact List.mem_flatMap.2 ⟨x.nd, List.mem_map.2 ⟨x, hx, rfl⟩, hi⟩)
  have hUl : U.length ≤ 2400 := by
    have := flat_len (l := l.map ND.nd) (fun x hx => by obtain ⟨y, hy, rfl⟩ := List.mem_map.1 hx; exact (hin y hy).c.1)
    rw [List.length_map, hl, hU] at this
    omega
  have HL := Lib.hid hl
  have hha := rhas_any A w.heap.size m c l path w hr (by omega)
  obtain ⟨bh, hbh⟩ : ∃ bh, decide (path ∈ l.map (·.path)) = bh := ⟨_, rfl⟩
  rw [hbh] at hha
  have HHA := Lib.hid hha
  have HBH := Lib.hid hbh
  have HS0 : Hid (SInv w w (.slice none 0 0) []) := Lib.hid SInv.nil_
  clear hr hin hU hl hha hbh
  go_enter Try.func16, Try.ntmps16
  cases bh
  · have HF : Hid (underL (l.map ND.nd) path = []) := Lib.hid (by
      unfold underL
      rw [if_neg (by rw [nd_paths]; exact of_decide_eq_false HBH.out)])
    go_wp2_with (go_at_call 26; refine HHA.out.mono ?_; rintro y wn ⟨rfl, hwn⟩; have hwn := hwn.symm; subst hwn)
    go_ret
    rw [HF.out]
    exact HS0.out.fin
  · have HF : Hid (underL (l.map ND.nd) path = iterN (passU (l.map ND.nd) path) (m + 1) []) := Lib.hid (by
      unfold underL
      rw [if_pos (by rw [nd_paths]; exact of_decide_eq_true HBH.out), List.length_map, HL.out])
    go_wp2_with (go_at_call 26; refine HHA.out.mono ?_; rintro y wn ⟨rfl, hwn⟩; have hwn := hwn.symm; subst hwn)
    go_loopw [5, 6] (fun v nv wr => ∃ n : Nat, nv = .int .i64 n ∧ n ≤ m + 1 ∧ SInv w wr v (iterN (passU (l.map ND.nd) path) n []) ∧ UB U (iterN (passU (l.map ND.nd) path) n [])) (fun _ nv _ => m + 1 - (intOf nv).toNat)
    case atStart => exact ⟨0, rfl, by omega, HS0.out, UB.nil_⟩
    case round =>
      obtain ⟨n, rfl, hn, hsv, hub⟩ := hrel
      by_cases hle : n ≤ m
      · have d1 : decide ((n : Int) ≤ (m : Int)) = true := decide_eq_true (by omega)
        have d1' : decide (n ≤ m) = true := decide_eq_true hle
        obtain ⟨o, ho⟩ : ∃ o, iterN (passU (l.map ND.nd) path) n [] = o := ⟨_, rfl⟩
        rw [ho] at hsv hub
        have HNX : Hid (iterN (passU (l.map ND.nd) path) (n + 1) [] = unN l path o m) := Lib.hid (by rw [← HL.out, unN_all, ← ho]; rfl)
        have HSV := Lib.hid hsv
        have HUB := Lib.hid hub
        clear ho hsv hub HS0
        go_wp2_with fail
        go_loopw [5, 7] (fun v kv wr => ∃ k : Nat, kv = .int .i64 k ∧ k ≤ m ∧ SInv w wr v (unN l path o k) ∧ UB U (unN l path o k)) (fun _ kv _ => m - (intOf kv).toNat)
        case atStart => exact ⟨0, rfl, by omega, by rw [unN_zero]; exact HSV.out, by rw [unN_zero]; exact HUB.out⟩
        case round =>
          obtain ⟨k, rfl, hk, hsv, hub⟩ := hrel
          by_cases hlt : k < m
          · have d2 : decide ((k : Int) < (m : Int)) = true := decide_eq_true (by omega)
            have HR2 := Lib.hid HR.out
            obtain ⟨bb, off, rfl, _, x, hx, hxk, h0, h1⟩ := nd_at HR.out k hlt
            have q0 := hsv.2.cell h0 (by simp)
            unfold sv at q0
            have hxi := HIN.out x hx
            have HXI := Lib.hid hxi
            have hx40 := hxi.c.1
            have HNX2 := Lib.hid (unN_next (path := path) (o := o) hxk)
            obtain ⟨o2, ho2⟩ : ∃ o2, unN l path o k = o2 := ⟨_, rfl⟩
            rw [ho2] at hsv hub HNX2
            have hol := hub.len
            obtain ⟨A3, c3, rfl, hr3⟩ := hsv.shape
            have hinc := rin_any A3 wr.heap.size o2.length c3 o2 x.path wr hr3 (by omega)
            have HSV2 := Lib.hid hsv
            have HUB2 := Lib.hid hub
            have HH1 := Lib.hid h1
            have HX := Lib.hid (HU.out x hx)
            clear h0 h1 hx hxk hxi ho2 hsv hub hr3 HR2
            obtain ⟨bs, hbs⟩ : ∃ bs, decide (x.path = path ∨ x.path ∈ o2) = bs := ⟨_, rfl⟩
            have HBS := Lib.hid hbs
            have HINC := Lib.hid hinc
            clear hbs hinc
            go_upto_region 10 with fail
            go_cut [41] (fun s wx => s = .bool (!bs) ∧ wx = wr)
            case first =>
              have hbs := HBS.out
              by_cases h1 : x.path = path
              · have e5 : ((str x.path).toList == (str path).toList) = true := by rw [str_eqb]; exact decide_eq_true h1
                have HB1 : Hid (bs = true) := Lib.hid (by rw [← hbs]; exact decide_eq_true (.inl h1))
                clear hbs h1
                go_wp2_with fail
                go_meet
                exact ⟨by rw [HB1.out]; rfl, rfl⟩
              · have e5 : ((str x.path).toList == (str path).toList) = false := by rw [str_eqb]; exact decide_eq_false h1
                have hd : decide (x.path ∈ o2) = bs := by rw [← hbs]; exact decide_eq_decide.2 ⟨fun h => .inr h, fun h => h.resolve_left h1⟩
                have hinc := HINC.out
                rw [hd] at hinc
                have HINC2 := Lib.hid hinc
                clear hbs h1 hd hinc
                go_wp2_with (go_at_call 30; refine HINC2.out.mono ?_; rintro y wn ⟨rfl, hwn⟩; have hwn := hwn.symm; subst hwn)
                go_meet
                exact ⟨rfl, rfl⟩
            case rest =>
              obtain ⟨rfl, hw⟩ := hcut
              subst hw
              have q1 := HSV2.out.2.cell HH1.out (by simp)
              cases bs
              · have HNO := Lib.hid (HNX2.out.trans (stepU_no (x := x.nd) (fun e => of_decide_eq_false HBS.out (.inl e)) (fun e => of_decide_eq_false HBS.out (.inr e))))
                go_wp2_with fail
                go_roundw
                case measure => simp [intOf]; omega
                case rel => exact ⟨k + 1, by go_num, by omega, by rw [HNO.out]; exact HSV2.out, by rw [HNO.out]; exact HUB2.out⟩
              · have HYES : Hid (unN l path o (k + 1) = unI x o2 x.imps.length) := Lib.hid (by rw [unI_all]; exact HNX2.out.trans (stepU_yes (x := x.nd) (of_decide_eq_true HBS.out)))
                clear q1
                go_wp2_with fail
                go_loopw [5, 8] (fun v jv w3 => ∃ j : Nat, jv = .int .i64 j ∧ j ≤ x.imps.length ∧ SInv w w3 v (unI x o2 j) ∧ UB U (unI x o2 j)) (fun _ jv _ => x.imps.length - (intOf jv).toNat)
                case atStart => exact ⟨0, rfl, by omega, by rw [unI_zero]; exact HSV2.out, by rw [unI_zero]; exact HUB2.out⟩
                case round =>
                  obtain ⟨j, rfl, hj, hsv, hub⟩ := hrel
                  have q1 := hsv.2.cell HH1.out (by simp)
                  by_cases hlt2 : j < x.imps.length
                  · have d3 : decide ((j : Int) < (x.imps.length : Int)) = true := decide_eq_true (by omega)
                    obtain ⟨b2, of2, hA2, _, hc⟩ := ((nd_rd HXI.out.r).only hsv.2 (by simp)).at_ [] hlt2
                    have q := hc 0 (by decide)
                    simp only [Nat.mul_one, Nat.add_zero, sv] at q
                    obtain ⟨t, ht⟩ : ∃ s, x.imps.getD j [] = s := ⟨_, rfl⟩
                    rw [ht] at q
                    have g : x.imps[j]? = some t := by rw [← ht, List.getD_eq_getElem?_getD, List.getElem?_eq_getElem hlt2]; rfl
                    rw [hA2] at q1
                    have ht300 := HXI.out.c.2.2 t (some_mem g)
                    obtain ⟨A5, c5, rfl, _, hput⟩ := hsv.can t ht300 (by have := hub.len; omega)
                    have HPUT := Lib.hid hput
                    have HNX3 := Lib.hid (unI_next (o := o2) g)
                    have HUB3 := Lib.hid (hub.put (HX.out t (some_mem g)))
                    clear hput g ht hA2 hc ht300 hsv hub
                    go_wp2_with (go_at_call 31; refine HPUT.out.mono ?_; rintro y w5 ⟨A6, c6, rfl, hs5, ho5⟩; have HS5 := Lib.hid hs5; clear hs5 ho5)
                    go_roundw
                    case measure => simp [intOf]; omega
                    case rel =>
                      repeat apply Exists.intro
                      refine ⟨⟨j + 1, ?_, ?_, ?_, ?_⟩, rfl⟩
                      · go_num
                      · omega
                      · rw [HNX3.out]; exact HS5.out
                      · rw [HNX3.out]; exact HUB3.out
                  · obtain rfl : j = x.imps.length := by omega
                    have d3 : decide ((x.imps.length : Int) < (x.imps.length : Int)) = false := decide_eq_false (by omega)
                    rw [← HYES.out] at hsv hub
                    have HSV3 := Lib.hid hsv
                    have HUB3 := Lib.hid hub
                    clear hsv hub
                    go_wp2_with fail
                    go_roundw
                    case measure => simp [intOf]; omega
                    case rel => exact ⟨k + 1, by go_num, by omega, HSV3.out, HUB3.out⟩
          · obtain rfl : k = m := by omega
            have d2 : decide ((k : Int) < (k : Int)) = false := decide_eq_false (by omega)
            rw [← HNX.out] at hsv hub
            have HSV2 := Lib.hid hsv
            have HUB2 := Lib.hid hub
            obtain ⟨A3, c3, rfl, _⟩ := hsv.shape
            clear hsv hub
            go_wp2_with fail
            go_roundw
            case measure => simp [intOf]; omega
            case rel => exact ⟨n + 1, by go_num, by omega, HSV2.out, HUB2.out⟩
      · obtain rfl : n = m + 1 := by omega
        have d1 : decide (((m + 1 : Nat) : Int) ≤ (m : Int)) = false := decide_eq_false (by omega)
        have d1' : decide (m + 1 ≤ m) = false := decide_eq_false (by omega)
        rw [← HF.out] at hsv
        obtain ⟨A3, c3, rfl, _⟩ := hsv.shape
        have HSV := Lib.hid hsv
        clear hsv
        go_wp2_with fail
        go_ret
        exact HSV.out.fin
end
end Go.Proofs.Ytdfiibnpckahnaa.Graph
