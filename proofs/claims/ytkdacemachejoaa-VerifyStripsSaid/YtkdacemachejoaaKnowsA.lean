/- KnowsA: What chapter 41 knows; verify.Deep; Two lists of numbers, compared; what chapter 41 must know. -/
import Derived.Test.YtkdacemachejoaaVeDp2q
import Derived.Test.YtkdacemachejoaaVeStripq
import Derived.BigRegion
namespace Go.Proofs.Ytkdacemachejoaa.Vm
open Go.RowKit Go.Maps Go.Shelf Object
set_option linter.unusedVariables false
set_option maxRecDepth 100000
def DeepC (cs : List Cd) (w : World) (y : Ending) (w' : World) : Prop := Only [] w w' ∧ ∃ (r : Int) (b : Bool), y = .returned (.tuple #[.int .i64 r, .bool b]) ∧ ((∃ d : Nat, r = (d : Int) ∧ b = true ∧ Dp cs 0 d) ∨ (r = 0 ∧ b = false ∧ ∀ d, ¬ Dp cs 0 d))
set_option maxHeartbeats 4000000 in
theorem deepC_any (A : Option Addr) (n cc : Nat) (cs : List Cd) (w : World) (hr : Recs w w.heap.size 5 A n (cs.map Cd.row)) (hR : vmRight cs = true) :
    Calls Try.prog 12 #[.slice A n cc] w (DeepC cs w) := by
  have HG := Lib.hid (grown_any A n cc cs w hr hR)
  have HR := Lib.hid hR
  have hmm := @run_makeMap Try.prog
  clear hr hR
  go_enter Try.func12, Try.ntmps12
  go_wp2_with (go_at_call 28; refine HG.out.mono ?_; rintro y w1 ⟨p, mb, rb, K, M, rfl, hT, hK, hM, hb1, hb2, hb3, ho1⟩; have HT := Lib.hid hT; have HO1 := Lib.hid ho1; have HK := Lib.hid hK; clear hT hK hM hb1 hb2 hb3 ho1; obtain ⟨w2, hw2⟩ : ∃ w2, w1.alloc (.map #[] 0) = w2 := ⟨_, rfl⟩; obtain ⟨w3, hw3⟩ : ∃ w3, w2.alloc (.map #[] 0) = w3 := ⟨_, rfl⟩)
  have o2 : Only [] w1 w2 := by rw [← hw2]; exact (Only.refl [] w1).alloc _
  have o3 : Only [] w2 w3 := by rw [← hw3]; exact (Only.refl [] w2).alloc _
  have l2 : w1.heap.size < w2.heap.size := by rw [← hw2, World.size_alloc]; omega
  have hv2 : VM Try.prog 3 w2 w1.heap.size 0 (fun _ => none) := by rw [← hw2]; exact VM.made w1 _ _
  have hv3 : VM Try.prog 3 w3 w2.heap.size 0 (seenF []) := by rw [← hw3, seenF_nil]; exact VM.made w2 _ _
  have hT3 := HT.out.only0 (o2.trans o3 (by simp))
  have hmb : mb < w1.heap.size := by obtain ⟨f, hv, _⟩ := HT.out.map; exact hv.lt
  have hDM : DM w3 w1.heap.size w2.heap.size cs [] [] := ⟨⟨_, hv2.only o3 (by simp), fun k hk => absurd hk (by simp), fun l v h => (by cases h)⟩, hv3, List.nodup_nil, by simp, by simp, List.nodup_nil⟩
  have hd0 : Calls Try.prog 29 #[.pointer (some ⟨p, 0, none⟩), .int .i64 0, .map (some w1.heap.size), .map (some w2.heap.size)] w3 (DeepO w1.heap.size w2.heap.size cs 0 [] [] w3) :=
    deep_any p mb rb w1.heap.size w2.heap.size cs K M HR.out HK.out ⟨by omega, by omega, by omega⟩ (cs.length + 1) [] [] 0 w3 hT3 hDM dinv_start .zero (by simp)
  refine hd0.mono ?_
  rintro y w4 hO
  obtain ⟨r, rfl, ho4, hrr⟩ := hO.cases
  have HO4 : Hid (Only [] w w4) := Lib.hid (HO1.out.trans ((o2.trans o3 (by simp)).trans ho4 (fun g hg => by
    simp only [List.mem_cons, List.not_mem_nil, or_false] at hg
    rcases hg with rfl | rfl
    · exact .inr (Nat.le_refl _)
    · exact .inr (Nat.le_of_lt l2))) (by simp))
  have HRR : Hid ((∃ d : Nat, r = (d : Int) ∧ Dp cs 0 d) ∨ (r = -1 ∧ ∀ d, ¬ Dp cs 0 d)) := Lib.hid (by
    rcases hrr with ⟨k, h1, h2, _⟩ | h1
    · exact .inl ⟨k, h1, h2⟩
    · exact .inr h1)
  clear hO hrr ho4 o2 o3 l2 hv2 hv3 hT3 hmb hDM hd0 hw2 hw3
  go_wp2_with fail
  go_ret2
  refine ⟨HO4.out, _, _, rfl, ?_⟩
  rcases HRR.out with ⟨d, rfl, h⟩ | ⟨rfl, h⟩
  · exact .inl ⟨d, by omega, by simp, h⟩
  · exact .inr ⟨by omega, by simp, h⟩
/-- the code that is known -/
def cs0 : List Cd := [⟨18, -1, 0, 0, 2⟩, ⟨21, 0, 0, 0, 0⟩, ⟨19, -1, 0, 0, 0⟩]
theorem right0 : vmRight cs0 = true := by decide
theorem at0 {i : Nat} {c : Cd} (h : cs0[i]? = some c) (ho : c.op = 18) : i = 0 ∧ c.n = 2 := by
  match i, h with
  | 0, h => obtain rfl := Option.some.inj h; exact ⟨rfl, rfl⟩
  | 1, h => obtain rfl := Option.some.inj h; exact absurd ho (by decide)
  | 2, h => obtain rfl := Option.some.inj h; exact absurd ho (by decide)
  | n + 3, h => simp [cs0] at h
theorem call0 : IsCall cs0 0 2 := ⟨0, _, .zero, rfl, rfl, rfl⟩
theorem call_t {f t : Nat} (h : IsCall cs0 f t) : t = 2 := by
  obtain ⟨i, c, _, h1, h2, h3⟩ := h
  have := (at0 h1 h2).2
  omega
theorem no_call2 {t : Nat} : ¬ IsCall cs0 2 t := by
  rintro ⟨i, c, h1, h2, h3, h4⟩
  have hi : i = 2 := by
    clear h2
    induction h1 with
    | zero => rfl
    | on _ hl ih =>
      subst ih
      obtain ⟨c', h5, h6⟩ := hl
      obtain rfl := Option.some.inj h5
      rcases h6 with ⟨_, h7⟩ | ⟨_, h7, h8, h9⟩
      · exact absurd h7 (by decide)
      · exact absurd rfl h8
  subst hi
  have := (at0 h2 h3).1
  omega
theorem starts0 : startsL cs0 = [0, 2] := by
  refine asc_uniq startsL_asc (by unfold Asc; simp) (fun x => ?_)
  rw [mem_startsL right0]
  constructor
  · intro h
    cases h with
    | zero => simp
    | call _ hc => rw [call_t hc]; simp
  · intro h
    simp only [List.mem_cons, List.not_mem_nil, or_false] at h
    rcases h with rfl | rfl
    · exact .zero
    · exact .call .zero call0
theorem deep0 : Dp cs0 0 1 := by
  have h2 : Dp cs0 2 0 := .mk (fun _ => 0) (fun t ht => absurd ht no_call2) (fun t ht => absurd ht no_call2) (.inl rfl)
  exact .mk (fun _ => 0) (fun t ht => by rw [call_t ht]; exact h2) (fun t ht => by omega) (.inr ⟨2, call0, rfl⟩)
theorem reach0 : (reachL cs0)[2]? = some true := by
  obtain ⟨b, h1, h2⟩ := reachL_at (cs := cs0) (i := 2) (by decide)
  rw [h1, h2.2 (Rd.call (c := ⟨18, -1, 0, 0, 2⟩) .zero rfl rfl)]
end Go.Proofs.Ytkdacemachejoaa.Vm
namespace Go.Proofs.Ytkdacemachejoaa.Vm
open Go.RowKit Go.Maps Go.Shelf Object
set_option linter.unusedVariables false
set_option maxRecDepth 100000
theorem rd_at {w : World} {A : Option Addr} {B n : Nat} {L : List Nat} (h : Reads w B 1 A n (L.map nv)) {j : Nat} (hj : j < n) : ∃ b off t, A = some ⟨b, off, none⟩ ∧ L[j]? = some t ∧ w.cell? ⟨b, off + j, none⟩ = some (.int .i64 (t : Int)) := by
  have hl : L.length = n := by have := h.1; simpa using this
  obtain ⟨b, off, hA, _, hc⟩ := Reads.at1 h hj
  rw [List.getElem?_map, List.getElem?_eq_getElem (by omega)] at hc
  exact ⟨b, off, L[j], hA, List.getElem?_eq_getElem (by omega), hc⟩
set_option maxHeartbeats 4000000 in
theorem ints_any (A1 A2 : Option Addr) (n1 n2 c1 c2 : Nat) (l1 l2 : List Nat) (w : World) (h1 : Reads w w.heap.size 1 A1 n1 (l1.map nv)) (h2 : Reads w w.heap.size 1 A2 n2 (l2.map nv)) (hn1 : n1 ≤ 900000) :
    Calls Try.prog 14 #[.slice A1 n1 c1, .slice A2 n2 c2] w fun y w' => y = .returned (.bool (decide (l1 = l2))) ∧ Only [] w w' := by
  have hl1 : l1.length = n1 := by have := h1.1; simpa using this
  have hl2 : l2.length = n2 := by have := h2.1; simpa using this
  have H1 := Lib.hid h1
  have H2 := Lib.hid h2
  have L1 := Lib.hid hl1
  have L2 := Lib.hid hl2
  have HN := Lib.hid hn1
  clear h1 h2 hl1 hl2 hn1
  go_enter Try.func14, Try.ntmps14
  by_cases hn : n1 = n2
  · subst hn
    have hne : ((n1 : Int) != (n1 : Int)) = false := by simp
    go_wp2_with fail
    go_loopw [5] (fun i wr => ∃ k : Nat, i = .int .i64 k ∧ k ≤ n1 ∧ l1.take k = l2.take k ∧ Only [] w wr) (fun i _ => n1 - (intOf i).toNat)
    case atStart => exact ⟨0, rfl, by omega, by simp, Only.refl _ _⟩
    case round =>
      obtain ⟨k, rfl, hk, htk, ho⟩ := hrel
      have HTK := Lib.hid htk
      have HO := Lib.hid ho
      clear htk ho
      by_cases hlt : k < n1
      · have d1 : decide ((k : Int) < (n1 : Int)) = true := decide_eq_true (by omega)
        have hw : wrap64 ((k : Int) + 1) = ((k + 1 : Nat) : Int) := by have := HN.out; rw [wrap_le (by omega) (by omega)]; omega
        have HW := Lib.hid hw
        clear hw
        obtain ⟨b1, o1, s1, rfl, g1, q1⟩ := rd_at H1.out hlt
        obtain ⟨b2, o2, s2, rfl, g2, q2⟩ := rd_at H2.out hlt
        have q1 := HO.out.cell q1 (by simp)
        have q2 := HO.out.cell q2 (by simp)
        have G1 := Lib.hid g1
        have G2 := Lib.hid g2
        clear g1 g2
        by_cases he : s1 = s2
        · subst he
          have e5 : ((s1 : Int) != (s1 : Int)) = false := by simp
          go_wp2_with fail
          go_region
          go_wp2_with fail
          go_roundw
          case measure => rw [HW.out]; simp [intOf]; omega
          case rel => exact ⟨k + 1, by rw [HW.out], by omega, by rw [take_snoc G1.out, take_snoc G2.out, HTK.out], HO.out.drew⟩
        · have e5 : ((s1 : Int) != (s2 : Int)) = true := by simp; omega
          have HF : Hid (decide (l1 = l2) = false) := Lib.hid (decide_eq_false (fun e => he (by have h := G1.out; rw [e, G2.out] at h; injection h with h; exact h.symm)))
          clear he
          go_wp2_with fail
          go_region
          go_wp2_with fail
          go_ret
          exact ⟨by rw [HF.out]; rfl, HO.out.drew⟩
      · obtain rfl : k = n1 := by omega
        have d1 : decide ((k : Int) < (k : Int)) = false := decide_eq_false (by omega)
        have HF : Hid (decide (l1 = l2) = true) := Lib.hid (decide_eq_true (by have h := HTK.out; rwa [List.take_of_length_le (by rw [L1.out]; exact Nat.le_refl _), List.take_of_length_le (by rw [L2.out]; exact Nat.le_refl _)] at h))
        go_wp2_with fail
        go_ret
        exact ⟨by rw [HF.out]; rfl, HO.out⟩
  · have hne : ((n1 : Int) != (n2 : Int)) = true := by simp; omega
    have HF : Hid (decide (l1 = l2) = false) := Lib.hid (decide_eq_false (fun e => hn (by rw [← L1.out, ← L2.out, e])))
    go_wp2_with fail
    go_ret
    exact ⟨by rw [HF.out]; rfl, Only.refl _ _⟩
theorem known_code {w : World} : Recs (w.alloc (.cells #[.int .i64 18, .int .i64 (-1), .int .i64 0, .int .i64 0, .int .i64 2, .int .i64 21, .int .i64 0, .int .i64 0, .int .i64 0, .int .i64 0, .int .i64 19, .int .i64 (-1), .int .i64 0, .int .i64 0, .int .i64 0] 27)) (w.heap.size + 1) 5 (some ⟨w.heap.size, 0, none⟩) 3 (cs0.map Cd.row) := by
  have hb := Blk.new w 27 #[.int .i64 18, .int .i64 (-1), .int .i64 0, .int .i64 0, .int .i64 2, .int .i64 21, .int .i64 0, .int .i64 0, .int .i64 0, .int .i64 0, .int .i64 19, .int .i64 (-1), .int .i64 0, .int .i64 0, .int .i64 0]
  refine ⟨rfl, fun _ => ⟨w.heap.size, 0, rfl, by omega, fun i hi j hj => ?_⟩⟩
  have h := hb.cell (i * 5 + j)
  rw [Nat.zero_add, h]
  have h3 : i = 0 ∨ i = 1 ∨ i = 2 := by omega
  have h5 : j = 0 ∨ j = 1 ∨ j = 2 ∨ j = 3 ∨ j = 4 := by omega
  rcases h3 with rfl | rfl | rfl <;> rcases h5 with rfl | rfl | rfl | rfl | rfl <;> exact ⟨rfl, rfl⟩
theorem deepC0 {w w' : World} {y : Ending} (h : DeepC cs0 w y w') : y = .returned (.tuple #[.int .i64 1, .bool true]) ∧ Only [] w w' := by
  obtain ⟨ho, r, b, rfl, ⟨d, rfl, rfl, hd⟩ | ⟨_, _, hn⟩⟩ := h
  · obtain rfl : d = 1 := dp_uniq hd 1 deep0
    exact ⟨rfl, ho⟩
  · exact absurd deep0 (hn 1)
set_option maxHeartbeats 4000000 in
theorem knows_any (w : World) : Calls Try.prog 6 #[] w fun y w' => y = .returned (.bool true) ∧ Only [] w w' := by
  obtain ⟨w1, hw1⟩ : ∃ w1, w.alloc (.cells #[.int .i64 18, .int .i64 (-1), .int .i64 0, .int .i64 0, .int .i64 2, .int .i64 21, .int .i64 0, .int .i64 0, .int .i64 0, .int .i64 0, .int .i64 19, .int .i64 (-1), .int .i64 0, .int .i64 0, .int .i64 0] 27) = w1 := ⟨_, rfl⟩
  have o1 : Only [] w w1 := by rw [← hw1]; exact (Only.refl [] w).alloc _
  have hr1 : Recs w1 w1.heap.size 5 (some ⟨w.heap.size, 0, none⟩) 3 (cs0.map Cd.row) := by rw [← hw1, World.size_alloc]; exact known_code
  have HRC : Hid (∀ wx, Only [] w1 wx → Recs wx wx.heap.size 5 (some ⟨w.heap.size, 0, none⟩) 3 (cs0.map Cd.row)) := Lib.hid (fun wx ho => (hr1.only ho (by simp)).more ho.size)
  have HO1 := Lib.hid o1
  have HD := Lib.hid (deepC_any (some ⟨w.heap.size, 0, none⟩) 3 3 cs0 w1 hr1 right0)
  clear o1 hr1
  go_enter Try.func6, Try.ntmps6
  go_wp2_with (go_at_call 12; refine HD.out.mono ?_; rintro y w2 hO; obtain ⟨rfl, ho2⟩ := deepC0 hO; clear hO; have HO2 := Lib.hid ho2; clear ho2)
  have HS := Lib.hid (starts_any (some ⟨w.heap.size, 0, none⟩) 3 3 cs0 w2 (HRC.out w2 HO2.out) right0)
  rw [starts0] at HS
  refine HS.out.mono ?_
  rintro y w3 ⟨v, rfl, hown, ho3⟩
  obtain ⟨A3, c3, rfl, hc3, hsl⟩ := sl_of hown
  have HSL := Lib.hid hsl
  have HO3 := Lib.hid (HO2.out.trans ho3 (by simp))
  clear hown ho3 hsl hc3 HS HD
  have hlen2 : ([0, 2] : List Nat).length = 2 := rfl
  rw [hlen2]
  obtain ⟨w4, hw4⟩ : ∃ w4, w3.alloc (.cells #[.int .i64 0, .int .i64 2] 3) = w4 := ⟨_, rfl⟩
  have b4 : Blk w4 w3.heap.size 3 #[.int .i64 0, .int .i64 2] := by rw [← hw4]; exact Blk.new w3 _ _
  have o4 : Only [] w3 w4 := by rw [← hw4]; exact (Only.refl [] w3).alloc _
  have hrd : Reads w4 w4.heap.size 1 (some ⟨w3.heap.size, 0, none⟩) 2 (([0, 2] : List Nat).map nv) := ⟨rfl, fun _ => ⟨_, rfl, b4.lt, fun j u hu => by
    rw [add_zero_block, b4.cell j, List.getElem?_toArray]
    exact hu⟩⟩
  have HI := Lib.hid (ints_any A3 (some ⟨w3.heap.size, 0, none⟩) 2 2 c3 2 [0, 2] [0, 2] w4 (HSL.out.only0 o4).1 hrd (by decide))
  have HO4 := Lib.hid (HO3.out.trans o4 (by simp))
  clear b4 o4 hrd hlen2
  go_wp2_with (first
    | (go_at_call 14; refine HI.out.mono ?_; rintro y w5 ⟨rfl, ho5⟩; have HO5 := Lib.hid (HO4.out.trans ho5 (by simp)); clear ho5)
    | fail)
  have HR5 := Lib.hid (reach_any (some ⟨w.heap.size, 0, none⟩) 3 3 cs0 w5 (HRC.out w5 HO5.out) right0)
  refine HR5.out.mono ?_
  rintro y w6 ⟨g6, rfl, hb6, ho6⟩
  have HO6 := Lib.hid (HO5.out.trans ho6 (by simp))
  clear hb6 ho6
  have HR6 := Lib.hid (reach_any (some ⟨w.heap.size, 0, none⟩) 3 3 cs0 w6 (HRC.out w6 HO6.out) right0)
  go_wp2_with (first
    | (go_at_call 18; refine HR6.out.mono ?_; rintro y w7 ⟨g7, rfl, hb7, ho7⟩; have HO7 := Lib.hid (HO6.out.trans ho7 (by simp)); obtain ⟨bq, oq, xq, hA, hx, hcell⟩ := hb7.at_ (j := 2) (by rw [reachL_len]; decide); rw [reach0] at hx; obtain rfl := Option.some.inj hx; injection hA with hA; injection hA with hA1 hA2; subst hA1; subst hA2; rw [Nat.zero_add] at hcell; clear hb7 ho7 hx)
    | fail)
  go_ret
  exact ⟨rfl, HO1.out.trans HO7.out (by simp)⟩
end Go.Proofs.Ytkdacemachejoaa.Vm
