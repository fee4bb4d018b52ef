/- GraphOrder, walked. -/
import Derived.Test.YtdfiibnpckahnaaGL2
import Derived.Laws.BitsLemmas
namespace Go.Proofs.Ytdfiibnpckahnaa.Graph
open Go.RowKit Go.Shelf Go.Maps
set_option linter.unusedVariables false
set_option maxRecDepth 100000
theorem i64_and63 (n : Int) : bits .and .i64 n 63 = n % 64 := by
  have h7 : (BitVec.ofInt 64 63).toNat = 2 ^ 6 - 1 := by decide
  have key : (BitVec.ofInt 64 n &&& BitVec.ofInt 64 63).toNat = (n % ((2 ^ 64 : Nat) : Int)).toNat % 2 ^ 6 := by
    rw [BitVec.toNat_and, BitVec.toNat_ofInt, h7, Nat.and_two_pow_sub_one_eq_mod]
  show IntKind.i64.wrap ((BitVec.ofInt 64 n &&& BitVec.ofInt 64 63).toNat : Nat) = n % 64
  rw [key, IntKind.wrap_i64]
  omega
theorem ND.in_of {w : World} {B : Nat} {x : ND} (h : x.rd w B) (hl : x.lit) : x.in_ w B := ⟨h, hl⟩
theorem ND.rd_only {w w' : World} {B B' : Nat} {x : ND} (h : x.rd w B) (ho : Only [] w w') (hB : B ≤ B') : x.rd w' B' := (Reads.only h ho (by simp)).more hB
theorem nodup_at {α : Type} {l : List α} (h : l.Nodup) {i j : Nat} {s : α} (hi : l[i]? = some s) (hj : l[j]? = some s) : i = j := by
  obtain ⟨h1, h2⟩ := List.getElem?_eq_some_iff.1 hi
  obtain ⟨h3, h4⟩ := List.getElem?_eq_some_iff.1 hj
  exact (List.getElem_inj h).1 (h2.trans h4.symm)
section
variable {w w' : World}
set_option maxHeartbeats 16000000 in
theorem order_law (A : Option Addr) (m c : Nat) (l : List ND) (z : Int) (w : World) (hr : Recs w w.heap.size 2 A m (l.map ND.row)) (hq : ∀ x ∈ l, x.rd w w.heap.size) :
    Calls Try.prog 3 #[.slice A m c, .int .i64 z] w fun y w' => y = .returned (.bool true) ∧ Only [] w w' := by
  have HR := Lib.hid hr
  have HQ := Lib.hid hq
  have HL := Lib.hid (show l.length = m by have := hr.1; rwa [List.length_map] at this)
  have HLI := Lib.hid (light_any A m c l w hr hq)
  have HKN := Lib.hid (fun wx => knows_any wx)
  clear hr hq
  go_enter Try.func3, Try.ntmps3
  go_wp2_with fail
  refine HLI.out.mono ?_
  rintro y w1 ⟨⟨lb, rfl, hlb⟩, rfl⟩
  have HLB := Lib.hid hlb
  clear hlb HLI
  cases lb
  · go_wp2_with (go_at_call 6; refine (HKN.out _).mono ?_; rintro y wn ⟨rfl, ho1⟩; have HO1 := Lib.hid ho1; clear ho1)
    go_ret
    exact ⟨rfl, HO1.out⟩
  · obtain ⟨hm40, hlit⟩ := HLB.out rfl
    have HLIT := Lib.hid hlit
    clear hlit HLB
    go_wp2_with fail
    refine (HKN.out _).mono ?_
    rintro y w2 ⟨rfl, ho2⟩
    have HO2 := Lib.hid ho2
    have HOWN1 := Lib.hid (own_any A m c l w2 ((HR.out.only ho2 (by simp)).more ho2.size) (by omega))
    clear ho2
    go_upto_region 3 with fail
    go_wp2_with fail
    refine HOWN1.out.mono ?_
    rintro y w3 ⟨v3, rfl, hown3, ho3⟩
    have ho13 := HO2.out.trans ho3 (by simp)
    obtain ⟨A3, c3, e3, _, _, hr3, _⟩ := hown3.shape (by decide)
    subst e3
    have HOR := Lib.hid (order_any A3 m c3 l w3 hr3 (fun x hx => ND.in_of (ND.rd_only (HQ.out x hx) ho13 ho13.size) (HLIT.out x hx)) (by omega))
    have HO3 := Lib.hid ho13
    clear hown3 ho3 hr3 ho13 HOWN1
    go_wp2_with fail
    refine HOR.out.mono ?_
    rintro y w4 ⟨va, rfl, howna, ho4⟩
    obtain ⟨Aa, ca, ea, _⟩ := howna.shape (by decide)
    subst ea
    have HO4 := Lib.hid (HO3.out.trans ho4 (by simp))
    have HA := Lib.hid howna
    clear howna ho4 HOR
    obtain ⟨oa, hoa⟩ : ∃ oa, (orderL (l.map ND.nd)).1 = oa := ⟨_, rfl⟩
    obtain ⟨en, hen⟩ : ∃ en, (orderL (l.map ND.nd)).2 = en := ⟨_, rfl⟩
    rw [hoa] at HA ⊢
    rw [hen]
    have HOA := Lib.hid hoa
    have HEN := Lib.hid hen
    clear hoa hen
    obtain ⟨t, ht⟩ : ∃ t : Nat, (z % 64).toNat = t := ⟨_, rfl⟩
    have ht64 : t < 64 := by omega
    have hbz : bits .and .i64 z 63 = (t : Int) := by rw [i64_and63]; omega
    have HBZ := Lib.hid hbz
    have HV0 := Lib.hid (OwnR.nil_ 32 2 w4 w4.heap.size)
    have hs4 := HO4.out.size
    have HS4 := Lib.hid hs4
    clear ht hbz hs4
    go_upto_region 5 with fail
    go_wp2_with fail
    go_loopw [7, 8] (fun v i wr => ∃ k : Nat, i = .int .i64 k ∧ k ≤ m ∧ OwnR 32 2 wr w4.heap.size v k (((rot l t).take k).map ND.row) ∧ Only [] w4 wr) (fun _ i _ => m - (intOf i).toNat)
    case atStart => exact ⟨0, rfl, by omega, HV0.out, Only.refl _ _⟩
    case round =>
      obtain ⟨k, rfl, hk, hv, ho⟩ := hrel
      clear HV0
      obtain ⟨A5, c5, e5, _⟩ := hv.shape (by decide)
      subst e5
      have HV := Lib.hid hv
      have HO := Lib.hid ho
      clear hv ho
      by_cases hlt : k < m
      · have d1 : decide ((k : Int) < (m : Int)) = true := decide_eq_true (by omega)
        have hkt : (k + t) % m < m := Nat.mod_lt _ (by omega)
        obtain ⟨j, hj⟩ : ∃ j, (k + t) % m = j := ⟨_, rfl⟩
        rw [hj] at hkt
        have hj' : Int.tmod ((k : Int) + (t : Int)) (m : Int) = (j : Int) := by rw [← hj]; exact_mod_cast (Int.ofNat_tmod (k + t) m).symm
        obtain ⟨b, off, hA, _, x, _, hxk, h0, h1⟩ := nd_at HR.out j hkt
        subst hA
        have hrx : (rot l t)[k]? = some x := by rw [rot_get (by rw [HL.out]; exact hlt), HL.out, hj, hxk]
        have ho4 := HO4.out.trans HO.out (by simp)
        have q0 := ho4.cell h0 (by simp)
        have q1 := ho4.cell h1 (by simp)
        unfold sv at q0
        have hsz := HO.out.size
        have HXK := Lib.hid hrx
        have hbz := HBZ.out
        have hm0 : ((m : Int) == 0) = false := beq_eq_false_iff_ne.2 (by omega)
        clear h0 h1 hxk hrx ho4 hj
        go_wp2_with (at_builtin; refine wpList_append1 (w := wr) rfl (.tmp 36) (.tmp 47) 22 rfl Try.underlying22 rnode_info rfl (by decide) rfl HV.out rfl rfl (row := [.string (str x.path), .slice x.IA x.imps.length x.Ic]) rfl rfl (by intro u hu; simp at hu; rcases hu with rfl | rfl <;> rfl) (by omega) (by unfold maxLen; omega) (by omega) ?_; intro v' w5 hE; obtain ⟨A6, c6, e6, _⟩ := hE.own.shape (by decide); subst e6; have HE := Lib.hid hE; clear hE)
        have HO5 := Lib.hid (HO.out.trans HE.out.only (fun q hq => .inr (HV.out.lt q hq).1))
        go_roundw
        case measure => simp [intOf]; omega
        case rel =>
          refine ⟨k + 1, by go_num, by omega, ?_, HO5.out⟩
          rw [take_row HXK.out]
          exact HE.out.own
      · obtain rfl : m = k := by omega
        have d1 : decide ((m : Int) < (m : Int)) = false := decide_eq_false (by omega)
        have hv := HV.out
        rw [List.take_of_length_le (by rw [rot_len, HL.out]; exact Nat.le_refl _)] at hv
        have HV2 := Lib.hid hv
        obtain ⟨bz, hbz2⟩ : ∃ bz, (bits .and .i64 z 64 != 0) = bz := ⟨_, rfl⟩
        have HB2 := Lib.hid hbz2
        have hdq : Int.tdiv (m : Int) 2 = ((m / 2 : Nat) : Int) := rfl
        have HRP := Lib.hid (rot_perm l t)
        clear hv hlt hbz2
        go_wp2_with fail
        go_loopw [9] (fun iv wr2 => ∃ (i : Nat) (l2 : List ND), iv = .int .i64 i ∧ i ≤ m ∧ l2.Perm l ∧ OwnR 32 2 wr2 w4.heap.size (.slice A5 m c5) m (l2.map ND.row) ∧ Only [] w4 wr2) (fun iv _ => m - (intOf iv).toNat)
        case atStart => exact ⟨0, rot l t, rfl, by omega, HRP.out, HV2.out, HO.out⟩
        case round =>
          obtain ⟨i, l2, rfl, hi, hp, hv, ho⟩ := hrel
          clear HV2 HO HV HRP d1
          have HP := Lib.hid hp
          have HV := Lib.hid hv
          have HO := Lib.hid ho
          clear hp hv ho
          have hb2 := HB2.out
          by_cases hgo : bz = true ∧ i < m / 2
          · obtain ⟨rfl, hlt⟩ := hgo
            have d1 : decide ((i : Int) < ((m / 2 : Nat) : Int)) = true := decide_eq_true (by omega)
            obtain ⟨j, hj⟩ : ∃ j, j + i + 1 = m := ⟨m - 1 - i, by omega⟩
            have hl2 : l2.length = m := by rw [HP.out.length_eq, HL.out]
            obtain ⟨xi, hxi⟩ : ∃ x, l2[i]? = some x := ⟨_, List.getElem?_eq_getElem (by omega)⟩
            obtain ⟨xj, hxj⟩ : ∃ x, l2[j]? = some x := ⟨_, List.getElem?_eq_getElem (by omega)⟩
            obtain ⟨A6, c6, e6, _, _, _, h6⟩ := HV.out.shape (by decide)
            obtain ⟨g, hg⟩ : ∃ g, A5 = some ⟨g, 0, none⟩ := by
              injection e6 with e7 e8 e9
              rcases h6 with ⟨_, h0⟩ | ⟨g, h0, _⟩
              · have := HV.out.shape (by decide)
                obtain ⟨A7, c7, e10, hc7, _⟩ := this
                injection e10 with e11 e12 e13
                omega
              · exact ⟨g, by rw [e7, h0]⟩
            subst hg
            have hv := HV.out
            have ci := fun q (hq : q < 2) => hv.cellOf (i := i) (j := q) (by omega) hq
            have cj := fun q (hq : q < 2) => hv.cellOf (i := j) (j := q) (by omega) hq
            have gi : (l2.map ND.row).getD i [] = xi.row := by rw [List.getD_eq_getElem?_getD, List.getElem?_map, hxi]; rfl
            have gj : (l2.map ND.row).getD j [] = xj.row := by rw [List.getD_eq_getElem?_getD, List.getElem?_map, hxj]; rfl
            rw [gi] at ci
            rw [gj] at cj
            have ci0 : wr.cell? ⟨g, i * 2, none⟩ = some (.string (str xi.path)) := ci 0 (by decide)
            have ci1 : wr.cell? ⟨g, i * 2 + 1, none⟩ = some (.slice xi.IA xi.imps.length xi.Ic) := ci 1 (by decide)
            have cj0 : wr.cell? ⟨g, j * 2, none⟩ = some (.string (str xj.path)) := cj 0 (by decide)
            have cj1 : wr.cell? ⟨g, j * 2 + 1, none⟩ = some (.slice xj.IA xj.imps.length xj.Ic) := cj 1 (by decide)
            have fi0 := hv.frozenOf (i * 2)
            have fi1 := hv.frozenOf (i * 2 + 1)
            have fj0 := hv.frozenOf (j * 2)
            have fj1 := hv.frozenOf (j * 2 + 1)
            have HF : Hid (OwnR 32 2 ((((wr.setCell ⟨g, i * 2, none⟩ (.string (str xj.path))).setCell ⟨g, i * 2 + 1, none⟩ (.slice xj.IA xj.imps.length xj.Ic)).setCell ⟨g, j * 2, none⟩ (.string (str xi.path))).setCell ⟨g, j * 2 + 1, none⟩ (.slice xi.IA xi.imps.length xi.Ic)).drew w4.heap.size (.slice (some ⟨g, 0, none⟩) m c5) m (((l2.set i xj).set j xi).map ND.row) ∧ Only [] w4 ((((wr.setCell ⟨g, i * 2, none⟩ (.string (str xj.path))).setCell ⟨g, i * 2 + 1, none⟩ (.slice xj.IA xj.imps.length xj.Ic)).setCell ⟨g, j * 2, none⟩ (.string (str xi.path))).setCell ⟨g, j * 2 + 1, none⟩ (.slice xi.IA xi.imps.length xi.Ic)).drew) := Lib.hid (by
              have h1 := (hv.put2 (i := i) (by omega) (.string (str xj.path)) (.slice xj.IA xj.imps.length xj.Ic)).put2 (i := j) (by omega) (.string (str xi.path)) (.slice xi.IA xi.imps.length xi.Ic)
              have h2 : (((l2.map ND.row).set i xj.row).set j xi.row) = ((l2.set i xj).set j xi).map ND.row := by rw [List.map_set, List.map_set]
              rw [← h2]
              have hg : w4.heap.size ≤ g := (hv.lt g (by simp [ownL, Value.ownBlock])).1
              exact ⟨h1.only ((Only.refl [] _).drew) (by simp), ((((((HO.out.mono (S' := [g]) (by simp)).setCell (.inl (by simp)) _).setCell (.inl (by simp)) _).setCell (.inl (by simp)) _).setCell (.inl (by simp)) _).drew).mono (by intro k hk; exact .inr (by rw [List.mem_singleton.1 hk]; exact hg))⟩)
            have HPP := Lib.hid ((set_perm hxi hxj).trans HP.out)
            have hz1 : (m : Int) - 1 - (i : Int) = (j : Int) := by omega
            have hij : i < j := by omega
            have hjm : j < m := by omega
            clear hv ci cj gi gj hxi hxj e6 h6 hl2 hj
            go_wp2_with fail
            go_region
            go_wp2_with fail
            go_roundw
            case measure => simp [intOf]; omega
            case rel => exact ⟨i + 1, _, by go_num, by omega, HPP.out, HF.out.1, HF.out.2⟩
          · have hex : (bz = false ∧ bits .and .i64 z 64 = 0) ∨ (bz = true ∧ decide ((i : Int) < ((m / 2 : Nat) : Int)) = false ∧ decide ((i : Int) < (m : Int) / 2) = false) := by
              cases bz
              · exact .inl ⟨rfl, by simpa using hb2⟩
              · exact .inr ⟨rfl, decide_eq_false (fun h => hgo ⟨rfl, by omega⟩), decide_eq_false (fun h => hgo ⟨rfl, by omega⟩)⟩
            clear hgo
            have hhp : ∀ x ∈ l2, x ∈ l := fun x hx => HP.out.mem_iff.1 hx
            have ho14 := HO4.out.trans HO.out (by simp)
            obtain ⟨_, _, e6, _, _, hr6, _⟩ := HV.out.shape (by decide)
            injection e6 with e7 e8 e9
            subst e7
            have HOW := Lib.hid (own_any A5 m c5 l2 wr hr6 (by omega))
            have hpm : orderL (l2.map ND.nd) = orderL (l.map ND.nd) := orderL_perm (HP.out.map ND.nd)
            have HPM := Lib.hid hpm
            have HQ2 := Lib.hid (fun (wx : World) (hox : Only [] wr wx) x (hx : x ∈ l2) => ND.in_of (ND.rd_only (HQ.out x (hhp x hx)) (ho14.trans hox (by simp)) (ho14.trans hox (by simp)).size) (HLIT.out x (hhp x hx)))
            clear hr6 e8 e9 hpm hhp ho14
            rcases hex with ⟨rfl, hb3⟩ | ⟨rfl, d1, d1'⟩
            all_goals
              go_wp2_with fail
              refine HOW.out.mono ?_
              rintro y w6 ⟨v6, rfl, hown6, ho6⟩
              obtain ⟨A6, c6, e6, _, _, hr6, _⟩ := hown6.shape (by decide)
              subst e6
              have HOR2 := Lib.hid (order_any A6 m c6 l2 w6 hr6 (fun x hx => (HQ2.out w6 ho6 x hx)) (by omega))
              have HO6 := Lib.hid (HO.out.trans ho6 (by simp))
              clear hown6 hr6 ho6 HQ2 HV HP
              go_wp2_with fail
              refine HOR2.out.mono ?_
              rintro y w7 ⟨vb, rfl, hownb, ho7⟩
              rw [HPM.out, HOA.out] at hownb
              rw [HPM.out, HEN.out]
              obtain ⟨Ab, cb, eb, _, _, hrb, _⟩ := hownb.shape (by decide)
              subst eb
              have HO7 := Lib.hid (HO6.out.trans ho7 (by simp))
              have hownA := HA.out.only HO7.out (by simp)
              obtain ⟨_, _, e6, _, _, hra, _⟩ := hownA.shape (by decide)
              injection e6 with e7 e8 e9
              subst e7
              have hol : oa.length ≤ 1000000 := by
                have h1 : oa.length ≤ l.length := by
                  rw [← HOA.out]
                  unfold orderL
                  split
                  · simp
                  · split
                    · simp
                    · split
                      · simp
                      · have := taken_len (l.map ND.nd); rw [List.length_map] at this; exact this
                rw [HL.out] at h1
                omega
              have HTX := Lib.hid (texts_any Aa Ab oa.length oa.length ca cb oa oa w7 hra hrb hol)
              have HNM := Lib.hid (fun e wx => num_any e wx)
              have HAW := Lib.hid (fun (wx : World) (hox : Only [] w7 wx) => hownA.only hox (by simp))
              have HOL := Lib.hid hol
              clear hownb hrb hra hownA HOR2 HOW HPM e8 e9 ho7 hol
              have hnn : (en != en) = false := by simp
              have htt : decide (oa = oa) = true := decide_eq_true rfl
              by_cases he0 : en = 0
              · subst he0
                have HOK := Lib.hid (order_right (l := l.map ND.nd) HEN.out)
                clear hnn
                go_upto_region 16 with (first
                | (go_at_call 10; refine (HNM.out _ _).mono ?_; rintro y wn ⟨rfl, hwn⟩; have hwn := hwn.symm; subst hwn)
                | (go_at_call 9; refine HTX.out.mono ?_; rintro y w8 ⟨rfl, ho8⟩; have HO8 := Lib.hid ho8; clear ho8))
                have hlen : oa.length = m := by have h := HOK.out.1; rw [HOA.out, List.length_map, HL.out] at h; exact h
                have HLEN := Lib.hid hlen
                obtain ⟨no, hno⟩ : ∃ no, oa.length = no := ⟨_, rfl⟩
                rw [hno] at hlen HAW HOL HA
                subst hlen
                clear htt
                try rw [hno]
                have hownA8 := HAW.out w8 HO8.out
                obtain ⟨_, _, e6, _, _, hra8, _⟩ := hownA8.shape (by decide)
                injection e6 with e7 e8 e9
                subst e7
                have HAT : Hid (∀ (p : Nat) (s : Path), oa[p]? = some s → Calls Try.prog 11 #[.slice Aa no ca, .string (str s)] w8 fun y w' => y = .returned (.int .i64 (p : Int)) ∧ w' = w8) := Lib.hid (fun p s hp => (at_any Aa no ca oa s w8 hra8 HOL.out).mono (fun y w' ⟨h, hw⟩ => ⟨by
                  rcases h with ⟨p', hp', rfl⟩ | ⟨hn, _⟩
                  · have hnd := HOK.out.2.1
                    rw [HOA.out] at hnd
                    rw [nodup_at hnd hp hp']
                  · exact absurd (List.mem_of_getElem? hp) hn, hw⟩))
                have HO18 := Lib.hid ((HO4.out.trans HO7.out (by simp)).trans HO8.out (by simp))
                clear hownA8 hra8 e8 e9 hno HAW
                go_wp2_with (first
                | (go_at_call 10; refine (HNM.out _ _).mono ?_; rintro y wn ⟨rfl, hwn⟩; have hwn := hwn.symm; subst hwn)
                | (go_at_call 9; refine HTX.out.mono ?_; rintro y w8 ⟨rfl, ho8⟩; have HO8 := Lib.hid ho8; clear ho8))
                go_loopw [12] (fun iv wr => ∃ k : Nat, iv = .int .i64 k ∧ k ≤ no ∧ wr = w8) (fun iv _ => no - (intOf iv).toNat)
                case atStart => exact ⟨0, rfl, by omega, rfl⟩
                case round =>
                  obtain ⟨k, rfl, hk, hwr⟩ := hrel
                  have hwr := hwr.symm
                  subst hwr
                  by_cases hlt : k < no
                  · have d1 : decide ((k : Int) < (no : Int)) = true := decide_eq_true (by omega)
                    obtain ⟨b, off, hA, _, x, hx, hxk, h0, h1⟩ := nd_at HR.out k hlt
                    subst hA
                    have q0 := HO18.out.cell h0 (by simp)
                    have q1 := HO18.out.cell h1 (by simp)
                    unfold sv at q0
                    obtain ⟨p, hp, hpi⟩ := HOK.out.2.2 x.nd (List.mem_map.2 ⟨x, hx, rfl⟩)
                    rw [HOA.out] at hp hpi
                    have hi40 := (HLIT.out x hx).1
                    have hxr := Reads.only (HQ.out x hx) HO18.out (by simp)
                    have HXR := Lib.hid hxr
                    have HPI := Lib.hid hpi
                    have HAP := Lib.hid (HAT.out p x.path hp)
                    have dp : decide ((p : Int) < 0) = false := decide_eq_false (by omega)
                    have hpl : p < no := by
                      have h1 := (List.getElem?_eq_some_iff.1 hp).1
                      rw [← HOA.out, HOK.out.1, List.length_map, HL.out] at h1
                      exact h1
                    clear h0 h1 hx hxk hp hpi hxr
                    go_wp2_with (go_at_call 11; refine HAP.out.mono ?_; rintro y wn ⟨rfl, hwn⟩; have hwn := hwn.symm; subst hwn)
                    go_loopw [14] (fun jv wr => ∃ j : Nat, jv = .int .i64 j ∧ j ≤ x.imps.length ∧ wr = w8) (fun jv _ => x.imps.length - (intOf jv).toNat)
                    case atStart => exact ⟨0, rfl, by omega, rfl⟩
                    case round =>
                      obtain ⟨j, rfl, hj, hwr⟩ := hrel
                      have hwr := hwr.symm
                      subst hwr
                      by_cases hjl : j < x.imps.length
                      · have d3 : decide ((j : Int) < (x.imps.length : Int)) = true := decide_eq_true (by omega)
                        obtain ⟨b2, o2, hA, _, hc⟩ := Reads.at1 HXR.out hjl
                        obtain ⟨s, hs⟩ : ∃ s, x.imps[j]? = some s := ⟨_, List.getElem?_eq_getElem hjl⟩
                        rw [List.getElem?_map, hs] at hc
                        have z0 : w8.cell? ⟨b2, o2 + j, none⟩ = some (.string (str s)) := hc
                        rw [hA] at q1
                        obtain ⟨q, hqp, hq⟩ := HPI.out s (List.mem_of_getElem? hs)
                        have HAQ := Lib.hid (HAT.out q s hq)
                        have e1 : decide ((q : Int) < 0) = false := decide_eq_false (by omega)
                        have e2 : decide ((p : Int) ≤ (q : Int)) = false := decide_eq_false (by omega)
                        have e2' : decide (p ≤ q) = false := decide_eq_false (by omega)
                        clear hc hs hA hq
                        go_wp2_with (go_at_call 11; refine HAQ.out.mono ?_; rintro y wn ⟨rfl, hwn⟩; have hwn := hwn.symm; subst hwn)
                        go_roundw
                        case measure => simp [intOf]; omega
                        case rel => exact ⟨j + 1, by go_num, by omega, trivial⟩
                      · have d3 : decide ((j : Int) < (x.imps.length : Int)) = false := decide_eq_false (by omega)
                        go_wp2_with fail
                        go_roundw
                        case measure => simp [intOf]; omega
                        case rel => exact ⟨k + 1, by go_num, by omega, trivial⟩
                  · obtain rfl : no = k := by omega
                    have d1 : decide ((no : Int) < (no : Int)) = false := decide_eq_false (by omega)
                    go_wp2_with fail
                    go_ret
                    exact ⟨by simp, HO18.out⟩
              · have hnil : oa = [] := by rw [← HOA.out]; exact order_no (by rw [HEN.out]; exact he0)
                have HE0 := Lib.hid he0
                subst hnil
                clear he0
                go_upto_region 16 with (first
                | (go_at_call 10; refine (HNM.out _ _).mono ?_; rintro y wn ⟨rfl, hwn⟩; have hwn := hwn.symm; subst hwn)
                | (go_at_call 9; refine HTX.out.mono ?_; rintro y w8 ⟨rfl, ho8⟩; have HO8 := Lib.hid ho8; clear ho8))
                have hez : (en != 0) = true := by simpa using HE0.out
                have HO18 := Lib.hid ((HO4.out.trans HO7.out (by simp)).trans HO8.out (by simp))
                clear hnn htt HLIT HQ HR HA HTX HAW
                go_wp2_with (first
                | (go_at_call 10; refine (HNM.out _ _).mono ?_; rintro y wn ⟨rfl, hwn⟩; have hwn := hwn.symm; subst hwn)
                | (go_at_call 9; refine HTX.out.mono ?_; rintro y w8 ⟨rfl, ho8⟩; have HO8 := Lib.hid ho8; clear ho8))
                go_ret
                exact ⟨rfl, HO18.out⟩
end
end Go.Proofs.Ytdfiibnpckahnaa.Graph
