/- The document's Over. -/
import Derived.Test.YtdfiibnpckahnaaGRUnd
import Derived.Deep.DeepCutAuto
namespace Go.Proofs.Ytdfiibnpckahnaa.Graph
open Go.RowKit Go.Shelf Go.Maps
set_option linter.unusedVariables false
set_option maxRecDepth 100000
section
variable {w wr w' : World} {v : Value} {out U : List Path} {l : List ND} {path s : Path} {x : ND} {k m : Nat}
/-- the lists inside Over's loops -/
def ovN (l : List ND) (path : Path) (o : List Path) (k : Nat) : List Path := ((l.map ND.nd).take k).foldl (stepO path) o
theorem ovN_zero (o : List Path) : ovN l path o 0 = o := by simp [ovN]
theorem ovN_all (o : List Path) : ovN l path o l.length = passO (l.map ND.nd) path o := by
  unfold ovN passO
  rw [List.take_of_length_le (by rw [List.length_map]; exact Nat.le_refl _)]
theorem ovN_next {o : List Path} (hk : l[k]? = some x) : ovN l path o (k + 1) = stepO path (ovN l path o k) x.nd := fold_snoc (nds_at hk)
def ovI (path : Path) (x : ND) (o : List Path) (k : Nat) : List Path := (x.imps.take k).foldl (oneO path x.path) o
theorem ovI_zero (o : List Path) : ovI path x o 0 = o := by simp [ovI]
theorem ovI_all (o : List Path) : ovI path x o x.imps.length = stepO path o x.nd := by unfold ovI; rw [List.take_length]; rfl
theorem ovI_next {o : List Path} (hk : x.imps[k]? = some s) : ovI path x o (k + 1) = oneO path x.path (ovI path x o k) s := fold_snoc hk
theorem oneO_no {p i : Path} (h : ¬ (i = path ∨ i ∈ out)) : oneO path p out i = out := by unfold oneO; rw [if_neg h]
theorem oneO_yes {p i : Path} (h : i = path ∨ i ∈ out) : oneO path p out i = putL out p := by unfold oneO; rw [if_pos h]
set_option maxHeartbeats 16000000 in
theorem rover_any (A : Option Addr) (m c : Nat) (l : List ND) (path : Path) (w : World) (hr : Recs w w.heap.size 2 A m (l.map ND.row)) (hin : ∀ x ∈ l, x.in_ w w.heap.size) (hm : m ≤ 60) :
    Calls Try.prog 18 #[.slice A m c, .string (str path)] w fun y w' => SetO w (overL (l.map ND.nd) path) y w' := by
  have HR := Lib.hid hr
  have HIN := Lib.hid hin
  have hl : l.length = m := by have := hr.1; rwa [List.length_map] at this
  obtain ⟨U, hU⟩ : ∃ U, l.map (·.path) = U := ⟨_, rfl⟩
  have HU : Hid (∀ x ∈ l, x.path ∈ U) := Lib.hid (fun x hx => by rw [← hU]; exact List.mem_map.2 ⟨x, hx, rfl⟩)
  have hUl : U.length ≤ 2400 := by
    rw [← hU, List.length_map, hl]
    omega
  have HL := Lib.hid hl
  have hha := rhas_any A w.heap.size m c l path w hr (by omega)
  obtain ⟨bh, hbh⟩ : ∃ bh, decide (path ∈ l.map (·.path)) = bh := ⟨_, rfl⟩
  rw [hbh] at hha
  have HHA := Lib.hid hha
  have HBH := Lib.hid hbh
  clear hU
  have HS0 : Hid (SInv w w (.slice none 0 0) []) := Lib.hid SInv.nil_
  clear hr hin hl hha hbh
  go_enter Try.func18, Try.ntmps18
  cases bh
  · have HF : Hid (overL (l.map ND.nd) path = []) := Lib.hid (by
      unfold overL
      rw [if_neg (by rw [nd_paths]; exact of_decide_eq_false HBH.out)])
    go_wp2_with (go_at_call 26; refine HHA.out.mono ?_; rintro y wn ⟨rfl, hwn⟩; have hwn := hwn.symm; subst hwn)
    go_ret
    rw [HF.out]
    exact HS0.out.fin
  · have HF : Hid (overL (l.map ND.nd) path = iterN (passO (l.map ND.nd) path) (m + 1) []) := Lib.hid (by
      unfold overL
      rw [if_pos (by rw [nd_paths]; exact of_decide_eq_true HBH.out), List.length_map, HL.out])
    go_wp2_with (go_at_call 26; refine HHA.out.mono ?_; rintro y wn ⟨rfl, hwn⟩; have hwn := hwn.symm; subst hwn)
    go_loopw [5, 6] (fun v nv wr => ∃ n : Nat, nv = .int .i64 n ∧ n ≤ m + 1 ∧ SInv w wr v (iterN (passO (l.map ND.nd) path) n []) ∧ UB U (iterN (passO (l.map ND.nd) path) n [])) (fun _ nv _ => m + 1 - (intOf nv).toNat)
    case atStart => exact ⟨0, rfl, by omega, HS0.out, UB.nil_⟩
    case round =>
      obtain ⟨n, rfl, hn, hsv, hub⟩ := hrel
      by_cases hle : n ≤ m
      · have d1 : decide ((n : Int) ≤ (m : Int)) = true := decide_eq_true (by omega)
        have d1' : decide (n ≤ m) = true := decide_eq_true hle
        obtain ⟨o, ho⟩ : ∃ o, iterN (passO (l.map ND.nd) path) n [] = o := ⟨_, rfl⟩
        rw [ho] at hsv hub
        have HNX : Hid (iterN (passO (l.map ND.nd) path) (n + 1) [] = ovN l path o m) := Lib.hid (by rw [← HL.out, ovN_all, ← ho]; rfl)
        have HSV := Lib.hid hsv
        have HUB := Lib.hid hub
        clear ho hsv hub HS0
        go_wp2_with fail
        go_loopw [5, 7] (fun v kv wr => ∃ k : Nat, kv = .int .i64 k ∧ k ≤ m ∧ SInv w wr v (ovN l path o k) ∧ UB U (ovN l path o k)) (fun _ kv _ => m - (intOf kv).toNat)
        case atStart => exact ⟨0, rfl, by omega, by rw [ovN_zero]; exact HSV.out, by rw [ovN_zero]; exact HUB.out⟩
        case round =>
          obtain ⟨k, rfl, hk, hsv, hub⟩ := hrel
          by_cases hlt : k < m
          · have d2 : decide ((k : Int) < (m : Int)) = true := decide_eq_true (by omega)
            obtain ⟨bb, off, rfl, _, x, hx, hxk, h0, h1⟩ := nd_at HR.out k hlt
            unfold sv at h0
            have hxi := HIN.out x hx
            have HXI := Lib.hid hxi
            have hx40 := hxi.c.1
            have HNX2 := Lib.hid (ovN_next (path := path) (o := o) hxk)
            obtain ⟨o2, ho2⟩ : ∃ o2, ovN l path o k = o2 := ⟨_, rfl⟩
            rw [ho2] at hsv hub HNX2
            rw [← ovI_all] at HNX2
            have HSV2 := Lib.hid hsv
            have HUB2 := Lib.hid hub
            have HH0 := Lib.hid h0
            have HH1 := Lib.hid h1
            have HX := Lib.hid (HU.out x hx)
            clear h0 h1 hx hxk hxi ho2 hsv hub
            go_wp2_with fail
            go_loopw [5, 8] (fun v jv w3 => ∃ j : Nat, jv = .int .i64 j ∧ j ≤ x.imps.length ∧ SInv w w3 v (ovI path x o2 j) ∧ UB U (ovI path x o2 j)) (fun _ jv _ => x.imps.length - (intOf jv).toNat)
            case atStart => exact ⟨0, rfl, by omega, by rw [ovI_zero]; exact HSV2.out, by rw [ovI_zero]; exact HUB2.out⟩
            case round =>
              obtain ⟨j, rfl, hj, hsv, hub⟩ := hrel
              have q0 := hsv.2.cell HH0.out (by simp)
              have q1 := hsv.2.cell HH1.out (by simp)
              by_cases hlt2 : j < x.imps.length
              · have d3 : decide ((j : Int) < (x.imps.length : Int)) = true := decide_eq_true (by omega)
                obtain ⟨b2, of2, hA2, _, hc⟩ := ((nd_rd HXI.out.r).only hsv.2 (by simp)).at_ [] hlt2
                have q := hc 0 (by decide)
                simp only [Nat.mul_one, Nat.add_zero, sv] at q
                obtain ⟨t, ht⟩ : ∃ s, x.imps.getD j [] = s := ⟨_, rfl⟩
                rw [ht] at q
                have g : x.imps[j]? = some t := by rw [← ht, List.getD_eq_getElem?_getD, List.getElem?_eq_getElem hlt2]; rfl
                rw [hA2] at q1
                have HNX3 := Lib.hid (ovI_next (path := path) (o := o2) g)
                obtain ⟨o3, ho3⟩ : ∃ o3, ovI path x o2 j = o3 := ⟨_, rfl⟩
                rw [ho3] at hsv hub HNX3
                have hol := hub.len
                obtain ⟨A5, c5, rfl, hr5, hput⟩ := hsv.can x.path HXI.out.c.2.1 (by omega)
                have hinc := rin_any A5 wr.heap.size o3.length c5 o3 t wr hr5 (by omega)
                obtain ⟨bs, hbs⟩ : ∃ bs, decide (t = path ∨ t ∈ o3) = bs := ⟨_, rfl⟩
                have HBS := Lib.hid hbs
                have HINC := Lib.hid hinc
                have HPUT := Lib.hid hput
                have HSV3 := Lib.hid hsv
                have HUB3 := Lib.hid hub
                clear hbs hinc hput hr5 g ht ho3 hA2 hc hsv hub
                go_upto_region 13 with fail
                go_cut [56] (fun s wx => s = .bool bs ∧ wx = wr)
                case first =>
                  have hbs := HBS.out
                  by_cases h1 : t = path
                  · have e5 : ((str t).toList == (str path).toList) = true := by rw [str_eqb]; exact decide_eq_true h1
                    have HB1 : Hid (bs = true) := Lib.hid (by rw [← hbs]; exact decide_eq_true (.inl h1))
                    clear hbs h1
                    go_wp2_with fail
                    go_meet
                    exact ⟨by rw [HB1.out], rfl⟩
                  · have e5 : ((str t).toList == (str path).toList) = false := by rw [str_eqb]; exact decide_eq_false h1
                    have hd : decide (t ∈ o3) = bs := by rw [← hbs]; exact decide_eq_decide.2 ⟨fun h => .inr h, fun h => h.resolve_left h1⟩
                    have hinc := HINC.out
                    rw [hd] at hinc
                    have HINC2 := Lib.hid hinc
                    clear hbs h1 hd hinc
                    go_wp2_with (go_at_call 30; refine HINC2.out.mono ?_; rintro y wn ⟨rfl, hwn⟩; have hwn := hwn.symm; subst hwn)
                    go_meet
                    exact ⟨rfl, rfl⟩
                case rest =>
                  obtain ⟨rfl, hw⟩ := hcut
                  subst hw
                  clear q
                  cases bs
                  · have HNO := Lib.hid (HNX3.out.trans (oneO_no (of_decide_eq_false HBS.out)))
                    go_wp2_with fail
                    go_roundw
                    case measure => simp [intOf]; omega
                    case rel => exact ⟨j + 1, by go_num, by omega, by rw [HNO.out]; exact HSV3.out, by rw [HNO.out]; exact HUB3.out⟩
                  · have HYES := Lib.hid (HNX3.out.trans (oneO_yes (of_decide_eq_true HBS.out)))
                    have HUB4 := Lib.hid (HUB3.out.put HX.out)
                    go_wp2_with (go_at_call 31; refine HPUT.out.mono ?_; rintro y w5 ⟨A6, c6, rfl, hs5, ho5⟩; have HS5 := Lib.hid hs5; clear hs5 ho5)
                    go_roundw
                    case measure => simp [intOf]; omega
                    case rel => exact ⟨j + 1, by go_num, by omega, by rw [HYES.out]; exact HS5.out, by rw [HYES.out]; exact HUB4.out⟩
              · obtain rfl : j = x.imps.length := by omega
                have d3 : decide ((x.imps.length : Int) < (x.imps.length : Int)) = false := decide_eq_false (by omega)
                rw [← HNX2.out] at hsv hub
                have HSV3 := Lib.hid hsv
                have HUB3 := Lib.hid hub
                clear hsv hub
                go_wp2_with fail
                go_roundw
                case measure => simp [intOf]; omega
                case rel => exact ⟨k + 1, by go_num, by omega, HSV3.out, HUB3.out⟩
          · obtain rfl : k = m := by omega
            have d2 : decide ((k : Int) < (k : Int)) = false := decide_eq_false (by omega)
            rw [← HNX.out] at hsv hub
            have HSV2 := Lib.hid hsv
            have HUB2 := Lib.hid hub
            obtain ⟨A3, c3, rfl, _⟩ := hsv.shape
            clear hsv hub
            go_wp2_with fail
            go_roundw
            case measure => simp [intOf]; omega
            case rel => exact ⟨n + 1, by go_num, by omega, HSV2.out, HUB2.out⟩
      · obtain rfl : n = m + 1 := by omega
        have d1 : decide (((m + 1 : Nat) : Int) ≤ (m : Int)) = false := decide_eq_false (by omega)
        have d1' : decide (m + 1 ≤ m) = false := decide_eq_false (by omega)
        rw [← HF.out] at hsv
        obtain ⟨A3, c3, rfl, _⟩ := hsv.shape
        have HSV := Lib.hid hsv
        clear hsv
        go_wp2_with fail
        go_ret
        exact HSV.out.fin
end
end Go.Proofs.Ytdfiibnpckahnaa.Graph
