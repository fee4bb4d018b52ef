/- RefC: The document's disk: Crash; The document's disk: Crash, walked; The document's journal: Takes, Room, first, mark. -/
import Derived.Test.YthgfmoogagldmaaGreatRefB
import Derived.Test.YthgfmoogagldmaaGreatJournalB
import Derived.Test.YthgfmoogagldmaaGreatFrameLaws
set_option linter.unusedVariables false
set_option maxRecDepth 100000
namespace Go.Proofs.YthgfmoogagldmaaGreat.RefD
open Go.RowKit Go.Shelf Disk Journal Go.Proofs.YthgfmoogagldmaaGreat.Frame
theorem and3_mod (n : Int) : bits .and .i64 n 3 = n % 4 := by
  have h7 : (BitVec.ofInt 64 3).toNat = 2 ^ 2 - 1 := by decide
  have key : (BitVec.ofInt 64 n &&& BitVec.ofInt 64 3).toNat = (n % ((2 ^ 64 : Nat) : Int)).toNat % 2 ^ 2 := by
    rw [BitVec.toNat_and, BitVec.toNat_ofInt, h7, Nat.and_two_pow_sub_one_eq_mod]
  show IntKind.i64.wrap ((BitVec.ofInt 64 n &&& BitVec.ofInt 64 3).toNat : Nat) = n % 4
  rw [key, IntKind.wrap_i64]
  omega
def ksR (d : DS) (i : Nat) : List Nat := (List.range i).filter fun j => (d.wait j).isSome
section
variable {d : DS} {X : List Nat} {i : Nat} {l : List UInt8} {fs : List Int} {ks : List Nat} {z : Int} {s : List UInt8}
theorem ksR_none (h : d.wait i = none) : ksR d (i + 1) = ksR d i := by
  unfold ksR
  rw [List.range_succ, List.filter_append]
  simp [h]
theorem ksR_some (h : d.wait i = some l) : ksR d (i + 1) = ksR d i ++ [i] := by
  unfold ksR
  rw [List.range_succ, List.filter_append]
  simp [h]
theorem ksR_nodup : (ksR d i).Nodup := List.Pairwise.filter _ List.nodup_range
theorem ksR_all (h : ∀ i, d.n ≤ i → d.wait i = none) : waitsD d (ksR d d.n) := by
  refine ⟨List.Pairwise.filter _ List.pairwise_lt_range, fun i => ?_⟩
  unfold ksR
  rw [List.mem_filter, List.mem_range]
  refine ⟨fun hh => hh.2, fun hh => ⟨?_, hh⟩⟩
  by_cases hi : i < d.n
  · exact hi
  · rw [h i (by omega)] at hh
    cases hh
theorem crashK_snoc (hn : (ks ++ [i]).Nodup) : crashK d fs (ks ++ [i]) (ks ++ [i]).length = (fun j => if j = i then crashAt d (fateZ fs ks.length) i else crashK d fs ks ks.length j) ∧ crashK d fs ks ks.length i = d.safe i := by
  have hi : (ks ++ [i])[ks.length]? = some i := by simp
  obtain ⟨h1, h2⟩ := crashK_step (d := d) (fs := fs) hn hi
  have he : crashK d fs (ks ++ [i]) ks.length = crashK d fs ks ks.length := by
    funext j
    unfold crashK
    rw [List.take_left, List.take_length]
    by_cases hm : j ∈ ks
    · rw [if_pos hm, if_pos hm, List.idxOf_append, if_pos hm]
    · rw [if_neg hm, if_neg hm]
  rw [he] at h1 h2
  refine ⟨?_, h2⟩
  rw [List.length_append]
  exact h1
def crP (d : DS) (fs : List Int) (i : Nat) : DS := { d with safe := crashK d fs (ksR d i) (ksR d i).length, wait := fun j => if j < i then none else d.wait j }
theorem crP_zero : crP d fs 0 = d := by
  cases d
  unfold crP ksR
  simp [crashK_zero]
theorem crP_none (h : d.wait i = none) : crP d fs (i + 1) = crP d fs i := by
  unfold crP
  rw [ksR_none h]
  congr 1
  funext j
  by_cases e : j = i
  · subst e
    rw [if_pos (by omega), if_neg (by omega), h]
  · by_cases e2 : j < i
    · rw [if_pos (by omega), if_pos e2]
    · rw [if_neg (by omega), if_neg e2]
theorem crP_some (h : d.wait i = some l) : crP d fs (i + 1) = { crP d fs i with safe := fun k => if k = i then crashL (fateZ fs (ksR d i).length) (d.safe i) l else (crP d fs i).safe k, wait := fun k => if k = i then none else (crP d fs i).wait k } := by
  have hn : (ksR d i ++ [i]).Nodup := by rw [← ksR_some h]; exact ksR_nodup
  unfold crP
  rw [ksR_some h, (crashK_snoc hn).1]
  congr 1
  · funext j
    by_cases e : j = i
    · subst e
      rw [if_pos rfl, if_pos rfl]
      unfold crashAt
      rw [h]
    · rw [if_neg e, if_neg e]
  · funext j
    by_cases e : j = i
    · subst e
      rw [if_pos (by omega), if_pos rfl]
    · rw [if_neg e]
      dsimp only
      by_cases e2 : j < i
      · rw [if_pos (by omega), if_pos e2]
      · rw [if_neg (by omega), if_neg e2]
theorem crP_safe (h : d.wait i = some l) : (crP d fs i).safe i = d.safe i := by
  have hn : (ksR d i ++ [i]).Nodup := by rw [← ksR_some h]; exact ksR_nodup
  exact (crashK_snoc hn).2
theorem crP_wait : (crP d fs i).wait i = d.wait i := if_neg (by omega)
theorem crP_all (h : ∀ i, d.n ≤ i → d.wait i = none) : { crP d fs d.n with off := false, left := -1 } = crashD d fs (ksR d d.n) := by
  unfold crashD crP
  dsimp only
  congr 1
  funext j
  by_cases e : j < d.n
  · rw [if_pos e]
  · rw [if_neg e, h j (by omega)]
def mixL (z : Int) (s l : List UInt8) (j : Nat) : List UInt8 := (crashL z s l).take j ++ s.drop j
theorem crashL_len (hs : s.length = 64) (hl : l.length = 64) : (crashL z s l).length = 64 := by
  unfold crashL
  rw [List.length_append]
  split <;> split <;> simp [hs, hl]
theorem crashL_get (hs : s.length = 64) (hl : l.length = 64) (k : Nat) : (crashL z s l)[k]? = if z = 1 ∨ (z = 2 ∧ k < 32) ∨ (z = 3 ∧ 32 ≤ k) then l[k]? else s[k]? := by
  unfold crashL
  have ht : ∀ x : List UInt8, x.length = 64 → (x.take 32).length = 32 := fun x hx => by rw [List.length_take]; omega
  by_cases hk : k < 32
  · rw [List.getElem?_append_left (by split <;> rw [ht _ (by assumption)] <;> exact hk)]
    by_cases hz : z = 1 ∨ z = 2
    · rw [if_pos hz, if_pos (by rcases hz with h | h; exact .inl h; exact .inr (.inl ⟨h, hk⟩)), List.getElem?_take_of_lt hk]
    · rw [if_neg hz, if_neg (by omega), List.getElem?_take_of_lt hk]
  · have h32 : (if z = 1 ∨ z = 2 then l.take 32 else s.take 32).length = 32 := by split <;> exact ht _ (by assumption)
    rw [List.getElem?_append_right (by rw [h32]; omega), h32]
    by_cases hz : z = 1 ∨ z = 3
    · rw [if_pos hz, if_pos (by omega), List.getElem?_drop]
      congr 1
      omega
    · rw [if_neg hz, if_neg (by omega), List.getElem?_drop]
      congr 1
      omega
theorem mix_get (hs : s.length = 64) (hl : l.length = 64) {j : Nat} (hj : j ≤ 64) (k : Nat) : (mixL z s l j)[k]? = if k < j then (crashL z s l)[k]? else s[k]? := by
  unfold mixL
  have hc : ((crashL z s l).take j).length = j := by rw [List.length_take, crashL_len hs hl]; omega
  by_cases hk : k < j
  · rw [List.getElem?_append_left (by omega), if_pos hk, List.getElem?_take_of_lt hk]
  · rw [List.getElem?_append_right (by omega), if_neg hk, hc, List.getElem?_drop]
    congr 1
    omega
theorem mix_len (hs : s.length = 64) (hl : l.length = 64) {j : Nat} (hj : j ≤ 64) : (mixL z s l j).length = 64 := by
  unfold mixL
  rw [List.length_append, List.length_take, List.length_drop, crashL_len hs hl]
  omega
theorem mix_zero : mixL z s l 0 = s := by unfold mixL; simp
theorem mix_all (hs : s.length = 64) (hl : l.length = 64) : mixL z s l 64 = crashL z s l := by
  unfold mixL
  rw [List.take_of_length_le (by rw [crashL_len hs hl]; omega), List.drop_eq_nil_of_le (by omega), List.append_nil]
theorem mix_yes (hs : s.length = 64) (hl : l.length = 64) {j : Nat} (hj : j < 64) (hz : z = 1 ∨ (z = 2 ∧ j < 32) ∨ (z = 3 ∧ 32 ≤ j)) : mixL z s l (j + 1) = (mixL z s l j).set j (l.getD j 0) := by
  apply List.ext_getElem?
  intro k
  rw [mix_get hs hl (by omega), List.getElem?_set, mix_len hs hl (by omega), mix_get hs hl (by omega)]
  by_cases hk : k = j
  · subst hk
    rw [if_pos (by omega), if_pos rfl, if_pos hj, crashL_get hs hl, if_pos hz, List.getD_eq_getElem?_getD, List.getElem?_eq_getElem (by omega)]
    rfl
  · rw [if_neg (show ¬ j = k from fun e => hk e.symm)]
    by_cases h2 : k < j
    · rw [if_pos (by omega), if_pos h2]
    · rw [if_neg (by omega), if_neg h2]
theorem mix_no (hs : s.length = 64) (hl : l.length = 64) {j : Nat} (hj : j < 64) (hz : ¬ (z = 1 ∨ (z = 2 ∧ j < 32) ∨ (z = 3 ∧ 32 ≤ j))) : mixL z s l (j + 1) = mixL z s l j := by
  apply List.ext_getElem?
  intro k
  rw [mix_get hs hl (by omega), mix_get hs hl (by omega)]
  by_cases hk : k = j
  · subst hk
    rw [if_pos (by omega), if_neg (by omega), crashL_get hs hl, if_neg hz]
  · by_cases h2 : k < j
    · rw [if_pos (by omega), if_pos h2]
    · rw [if_neg (by omega), if_neg h2]
theorem fateZ_yes {k : Nat} (h : k < fs.length) : fateZ fs k = (fs.getD k 0) % 4 := by
  unfold fateZ
  rw [if_pos h, and3_mod]
theorem fateZ_no {k : Nat} (h : ¬ k < fs.length) : fateZ fs k = 0 := if_neg h
theorem fateZ_rg (k : Nat) : 0 ≤ fateZ fs k ∧ fateZ fs k < 4 := by
  by_cases h : k < fs.length
  · rw [fateZ_yes h]; omega
  · rw [fateZ_no h]; omega
end
theorem eql_slice (t : TypeId) (w : World) (a : Option Addr) (n c : Nat) : (binOp .eql 35 (.slice a n c) (.slice none 0 0)).run Tryz.prog w = .ok (.bool a.isNone) w := by
  cases a <;> kernel_rfl
end Go.Proofs.YthgfmoogagldmaaGreat.RefD
namespace Go.Proofs.YthgfmoogagldmaaGreat.RefD
open Go.RowKit Go.Shelf Disk Journal Go.Proofs.YthgfmoogagldmaaGreat.Frame
theorem rem4 (x : Int) : ((x.tmod 4) + 4).tmod 4 = x % 4 := by
  have h1 := Int.tmod_eq_emod (a := x) (b := 4)
  have h2 := Int.tmod_eq_emod (a := x.tmod 4 + 4) (b := 4)
  have h3 := Int.emod_nonneg x (show (4 : Int) ≠ 0 by decide)
  have h4 := Int.emod_lt_of_pos x (show (0 : Int) < 4 by decide)
  split at h1 <;> split at h2 <;> omega
section
variable {w w' : World} {p sb sc wb base : Nat} {d : DS} {X : List Nat}
def RCrashO (X : List Nat) (w : World) (p sb sc wb base : Nat) (d : DS) (fs : List Int) (x : Ending) (w' : World) : Prop := ∃ ks, waitsD d ks ∧ x = .returned (.tuple #[]) ∧ IsR X w' p sb sc wb base (crashD d fs ks) ∧ Only [p, sb, wb] w w'
theorem rem4w (x : Int) : (wrap64 (x.tmod 4 + 4)).tmod 4 = x % 4 := by
  have h5 : -4 < x.tmod 4 ∧ x.tmod 4 < 4 := by
    have h1 := Int.tmod_eq_emod (a := x) (b := 4)
    split at h1 <;> omega
  have h6 : wrap64 (x.tmod 4 + 4) = x.tmod 4 + 4 := by unfold wrap64; omega
  rw [h6]
  exact rem4 x
set_option maxHeartbeats 8000000 in
theorem rcrash_any (h : IsR X w p sb sc wb base d) (A : Option Addr) (c : Nat) (fs : List Int) (hr : Reads w w.heap.size 1 A fs.length (fs.map (Value.int .i64))) (hm : fs.length ≤ 1000000) (hfar : 0 < fs.length → ∀ q ∈ blkOf A, q ∉ [p, sb, wb]) :
    Calls Tryz.prog 29 #[.pointer (some ⟨p, 0, none⟩), .slice A fs.length c] w fun x w' => RCrashO X w p sb sc wb base d fs x w' := by
  have H := Lib.hid h
  have HR := Lib.hid hr
  have HFAR := Lib.hid hfar
  have hn0 := h.n0
  have hout := h.out_
  have hp0 := crP_zero (d := d) (fs := fs)
  have HALL := Lib.hid (crP_all (fs := fs) hout)
  have HKS := Lib.hid (ksR_all hout)
  obtain ⟨n, hn⟩ : ∃ n, d.n = n := ⟨_, rfl⟩
  obtain ⟨mf, hmf⟩ : ∃ m, fs.length = m := ⟨_, rfl⟩
  rw [hmf] at hm hr hfar ⊢
  have HMF := Lib.hid hmf
  have HN := Lib.hid hn
  clear h hr hfar hout hmf
  go_enter Tryz.func29, Tryz.ntmps29
  go_wp2_with fail
  go_loopw [4, 5] (fun kv i wr => ∃ j : Nat, j ≤ n ∧ i = .int .i64 j ∧ kv = .int .i64 (min (ksR d j).length mf : Nat) ∧ IsR X wr p sb sc wb base (crP d fs j) ∧ Only [p, sb, wb] w wr) (fun _ i _ => n - (Go.RowKit.intOf i).toNat)
  case atStart => exact ⟨0, by omega, rfl, by simp [ksR], by rw [hp0]; exact H.out, Only.refl _ _⟩
  case round =>
    obtain ⟨j, hj, rfl, rfl, hR, ho⟩ := hrel
    obtain ⟨w8, rfl⟩ : ∃ w8, w8 = wr := ⟨_, rfl⟩
    have c1 : w8.cell? ⟨p, 1, none⟩ = some (.slice (some ⟨wb, 0, none⟩) d.n d.n) := hR.blk.cell 1
    rw [hn] at c1
    have HO := Lib.hid ho
    by_cases hlt : j < n
    · have d1 : decide ((j : Int) < (n : Int)) = true := decide_eq_true (by omega)
      obtain ⟨vs, hw1, hw2⟩ := hR.wait
      obtain ⟨ss, hs1, hs2⟩ := hR.safe
      have hnn : (crP d fs j).n = n := hn
      rw [hnn] at hw1 hs1
      have hvl : vs.length = n := by have := hw1.len; rwa [List.length_map] at this
      have hssl : ss.length = n := by have := hs1.len; rwa [List.length_map] at this
      obtain ⟨v, hv⟩ : ∃ v, vs[j]? = some v := ⟨_, List.getElem?_eq_getElem (by omega)⟩
      have cw : w8.cell? ⟨wb, j, none⟩ = some v := by
        have := hw1.cellOf (i := j) (j := 0) hlt (by decide)
        rw [Nat.mul_one, Nat.add_zero, List.getD_eq_getElem?_getD, List.getElem?_map, hv] at this
        exact this
      have hpw := crP_wait (d := d) (fs := fs) (i := j)
      have HR2 := Lib.hid hR
      rcases hw2 j v hv with ⟨hwn, rfl⟩ | ⟨s, l, hws, rfl, hsec⟩
      · rw [hpw] at hwn
        have HP := Lib.hid (crP_none (fs := fs) hwn)
        have HK := Lib.hid (ksR_none hwn)
        have hnil := eql_slice 0 w8 none 0 0
        clear hR ho hw1 hw2 hs1 hs2 hvl hssl hv hpw hwn hnn
        obtain ⟨kk, hkk⟩ : ∃ kk, (min (ksR d j).length mf : Nat) = kk := ⟨_, rfl⟩
        rw [hkk]
        have HKK := Lib.hid hkk
        go_wp2_with fail
        go_roundw
        case measure => simp [Go.RowKit.intOf]; omega
        case rel => exact ⟨j + 1, by omega, by go_num, by rw [HK.out, HKK.out], by rw [HP.out]; exact HR2.out, HO.out⟩
      · rw [hpw] at hws
        obtain ⟨t, ht⟩ : ∃ t, ss[j]? = some t := ⟨_, List.getElem?_eq_getElem (by omega)⟩
        have hts := hs2 j t ht
        have cs : w8.cell? ⟨sb, j, none⟩ = some t.val := by
          have := hs1.cellOf (i := j) (j := 0) hlt (by decide)
          rw [Nat.mul_one, Nat.add_zero, List.getD_eq_getElem?_getD, List.getElem?_map, ht] at this
          exact this
        have c0 : w8.cell? ⟨p, 0, none⟩ = some (.slice (some ⟨sb, 0, none⟩) n sc) := by have := hR.blk.cell 0; rw [hnn] at this; exact this
        have fs_ := hs1.frozenOf j
        have fw := hw1.frozenOf j
        have HP := Lib.hid (crP_some (fs := fs) hws)
        have HK := Lib.hid (ksR_some hws)
        have hse := crP_safe (fs := fs) hws
        rw [hse] at hts
        obtain ⟨S, hS⟩ : ∃ S, d.safe j = S := ⟨_, rfl⟩
        rw [hS] at hts hse
        have HSE := Lib.hid hse
        have HS := Lib.hid hS
        obtain ⟨A1, n1, k1, l1⟩ := s
        obtain ⟨e1, e2, hb, hc1, hc2, hfr⟩ := hsec
        simp only at e1 e2 hb hc1 hc2 hfr cw
        subst e1
        subst e2
        obtain ⟨gb, off, rfl, hgb, _⟩ := hb.at_ (k := 0) (by decide)
        obtain ⟨A2, n2, k2, l2⟩ := t
        obtain ⟨e3, e4, hb2, hc3, hc4, hfr2⟩ := hts
        simp only at e3 e4 hb2 hc3 hc4 hfr2 cs
        subst e3
        subst e4
        have hll := hb.len
        have hsl := hb2.len
        have cw2 : w8.cell? ⟨wb, j, none⟩ = some (.slice (some ⟨gb, off, none⟩) 64 k1) := cw
        have cs2 : w8.cell? ⟨sb, j, none⟩ = some (.slice A2 64 k2) := cs
        have hnil := eql_slice 0 w8 (some ⟨gb, off, none⟩) 64 k1
        have HB := Lib.hid hb
        have HB2 := Lib.hid hb2
        have HFR := Lib.hid hfr
        have HLL := Lib.hid hll
        have HSL := Lib.hid hsl
        have HC := Lib.hid (And.intro hc1 hc2)
        have HLT := Lib.hid hR.lt
        have hns := OwnB.empty w8 w8.heap.size (Nat.le_refl _)
        have hEo : Only [] w8 (w8.alloc (.cells #[] 5)) := (Only.refl [] w8).alloc _
        have c0a := hEo.cell c0 (by simp)
        have csa := hEo.cell cs2 (by simp)
        have HBE := Lib.hid (hb2.only hEo (by simp))
        have HEO := Lib.hid hEo
        have hrr := HR.out.only HO.out
        obtain ⟨kk, hkk⟩ : ∃ kk, (min (ksR d j).length mf : Nat) = kk := ⟨_, rfl⟩
        rw [hkk]
        have hzr := fateZ_rg (fs := fs) (ksR d j).length
        obtain ⟨z, hz⟩ : ∃ z, fateZ fs (ksR d j).length = z := ⟨_, rfl⟩
        rw [hz] at hzr
        have HZ := Lib.hid hz
        have HKK := Lib.hid hkk
        clear hR ho hw1 hw2 hs1 hs2 hvl hssl hv hpw hws hnn hse hS hb hb2 hfr hfr2 cw cs hc1 hc2 hc3 hc4 hll hsl ht hEo hp0 hrr
        by_cases hkf : kk < mf
        · have dk : decide ((kk : Int) < (mf : Int)) = true := decide_eq_true (by omega)
          have hkj : kk = (ksR d j).length := by omega
          have hfk := ((HR.out.only HO.out (fun q hq hm => HFAR.out (by rw [HMF.out]; omega) q hq hm)).at1 (k := kk) (by rw [HMF.out]; exact hkf))
          obtain ⟨bf, of, rfl, _, hcf⟩ := hfk
          rw [List.getElem?_map, List.getElem?_eq_getElem (by rw [HMF.out]; exact hkf)] at hcf
          obtain ⟨f0, hf0⟩ : ∃ f0, fs[kk]'(by rw [HMF.out]; exact hkf) = f0 := ⟨_, rfl⟩
          rw [hf0] at hcf
          have hcf : w8.cell? ⟨bf, of + kk, none⟩ = some (.int .i64 f0) := hcf
          have hz4 : f0 % 4 = z := by
            rw [← hz, ← hkj, fateZ_yes (by rw [HMF.out]; exact hkf), List.getD_eq_getElem?_getD, List.getElem?_eq_getElem (by rw [HMF.out]; exact hkf), hf0]
            rfl
          have hr4 := rem4w f0
          rw [hz4] at hr4
          have HNX : Hid (min (ksR d (j + 1)).length mf = kk + 1) := Lib.hid (by rw [HK.out, List.length_append]; simp; omega)
          clear hkj hf0 hz4 hz hkk
          go_wp2_with (at_builtin; refine wpList_append_bytes rfl (.tmp 39) (.tmp 46) rfl rfl hns rfl HBE.out (by omega) (by simp) ?_; intro v2 w2 ho2 hon2 hfr2)
          have hon : Only [] w8 w2 := HEO.out.trans hon2 (fun g hg => .inr (by have e : g ∈ [w8.heap.size] := hg; simp at e; omega))
          obtain ⟨A3, cap3, rfl, hca, hcb, _, hA3⟩ := ho2.shape
          obtain ⟨g, rfl, hg⟩ : ∃ g, A3 = some ⟨g, 0, none⟩ ∧ w8.heap.size ≤ g := by
            rcases hA3 with ⟨_, h0⟩ | ⟨g, h1, h2, _⟩
            · omega
            · exact ⟨g, h1, h2⟩
          have ho3 : OwnB w2 w8.heap.size (.slice (some ⟨g, 0, none⟩) 64 cap3) 64 l2 := by simpa using ho2
          have hca : 64 ≤ cap3 := by omega
          have HCAP := Lib.hid (And.intro hca hcb)
          have HG := Lib.hid hg
          have hsl9 := HSL.out
          have hll9 := HLL.out
          clear ho2 hon2 hfr2 hA3 hns hca hcb
          go_wp2_with fail
          go_loopw [8] (fun i wr => ∃ q : Nat, q ≤ 64 ∧ i = .int .i64 q ∧ OwnB wr w8.heap.size (.slice (some ⟨g, 0, none⟩) 64 cap3) 64 (mixL z l2 l1 q) ∧ Only [] w8 wr) (fun i _ => 64 - (Go.RowKit.intOf i).toNat)
          case atStart => exact ⟨0, by omega, rfl, by rw [mix_zero]; exact ho3, hon⟩
          case round =>
            obtain ⟨q, hq, rfl, hx, hoy⟩ := hrel
            have HOY := Lib.hid hoy
            have y1 := hoy.cell c1 (by simp)
            have yw := hoy.cell cw2 (by simp)
            by_cases hq64 : q < 64
            · have dq : decide ((q : Int) < 64) = true := decide_eq_true (by omega)
              have hq3 : (q : Int) < 64 := by omega
              obtain ⟨b9, o9, hA9, _, yl⟩ := (HB.out.only hoy (by simp)).at_ hq64
              injection hA9 with hA9
              injection hA9 with e7 e8 _
              subst e7
              subst e8
              have xc := hx.cell hq64
              have xf := hx.frozen q
              obtain ⟨bq, hbq⟩ : ∃ b, l1.getD q 0 = b := ⟨_, rfl⟩
              have HST := Lib.hid (hx.stored (k := q) bq)
              have HOS := Lib.hid (hoy.setCell (p := ⟨g, q, none⟩) (.inr hg) (B8 bq))
              have HX := Lib.hid hx
              have HMY := Lib.hid (fun hz => mix_yes (z := z) HSL.out HLL.out hq64 hz)
              rw [hbq] at HMY yl
              have HMN := Lib.hid (fun hz => mix_no (z := z) HSL.out HLL.out hq64 hz)
              clear hx hoy hon ho3 hbq
              have hzc : z = 0 ∨ z = 1 ∨ z = 2 ∨ z = 3 := by omega
              by_cases h32 : q < 32
              · have d32 : decide ((q : Int) < 32) = true := decide_eq_true (by omega)
                have e32 : decide ((32 : Int) ≤ (q : Int)) = false := decide_eq_false (by omega)
                have d32' : decide (q < 32) = true := decide_eq_true (by omega)
                have e32' : decide (32 ≤ q) = false := decide_eq_false (by omega)
                rcases hzc with rfl | rfl | rfl | rfl
                · go_wp2_with fail
                  go_roundw
                  case measure => simp [Go.RowKit.intOf]; omega
                  case rel => exact ⟨q + 1, by omega, by go_num, by rw [HMN.out (by omega)]; exact HX.out, HOY.out⟩
                · go_wp2_with fail
                  go_roundw
                  case measure => simp [Go.RowKit.intOf]; omega
                  case rel => exact ⟨q + 1, by omega, by go_num, by rw [HMY.out (by omega)]; exact HST.out, HOS.out⟩
                · go_wp2_with fail
                  go_roundw
                  case measure => simp [Go.RowKit.intOf]; omega
                  case rel => exact ⟨q + 1, by omega, by go_num, by rw [HMY.out (by omega)]; exact HST.out, HOS.out⟩
                · go_wp2_with fail
                  go_roundw
                  case measure => simp [Go.RowKit.intOf]; omega
                  case rel => exact ⟨q + 1, by omega, by go_num, by rw [HMN.out (by omega)]; exact HX.out, HOY.out⟩
              · have d32 : decide ((q : Int) < 32) = false := decide_eq_false (by omega)
                have e32 : decide ((32 : Int) ≤ (q : Int)) = true := decide_eq_true (by omega)
                have d32' : decide (q < 32) = false := decide_eq_false (by omega)
                have e32' : decide (32 ≤ q) = true := decide_eq_true (by omega)
                rcases hzc with rfl | rfl | rfl | rfl
                · go_wp2_with fail
                  go_roundw
                  case measure => simp [Go.RowKit.intOf]; omega
                  case rel => exact ⟨q + 1, by omega, by go_num, by rw [HMN.out (by omega)]; exact HX.out, HOY.out⟩
                · go_wp2_with fail
                  go_roundw
                  case measure => simp [Go.RowKit.intOf]; omega
                  case rel => exact ⟨q + 1, by omega, by go_num, by rw [HMY.out (by omega)]; exact HST.out, HOS.out⟩
                · go_wp2_with fail
                  go_roundw
                  case measure => simp [Go.RowKit.intOf]; omega
                  case rel => exact ⟨q + 1, by omega, by go_num, by rw [HMN.out (by omega)]; exact HX.out, HOY.out⟩
                · go_wp2_with fail
                  go_roundw
                  case measure => simp [Go.RowKit.intOf]; omega
                  case rel => exact ⟨q + 1, by omega, by go_num, by rw [HMY.out (by omega)]; exact HST.out, HOS.out⟩
            · obtain rfl : q = 64 := by omega
              have dq : decide (((64 : Nat) : Int) < 64) = false := by decide
              have dq' : decide ((64 : Int) < 64) = false := by decide
              rw [mix_all HSL.out HLL.out] at hx
              have y0 := hoy.cell c0 (by simp)
              have ys := hoy.cell cs2 (by simp)
              have hxr := hx.reads
              have hR9 := HR2.out.only0 hoy
              have hne := hR9.p_ne
              have hsw := hR9.ne
              have hltx := HLT.out
              have HSY := Lib.hid (hR9.sync1 (i := j) (s := ⟨some ⟨g, 0, none⟩, 64, cap3, crashL z l2 l1⟩) (l := crashL z l2 l1) (by show j < d.n; rw [HN.out]; exact hlt) ⟨rfl, rfl, hxr, HCAP.out.1, HCAP.out.2, fun k hk hm => by
                simp [blkOf] at hk
                simp only [List.mem_cons] at hm
                rcases hm with e | e | e | e
                iterate 3 omega
                have := HR2.out.xlt _ e
                omega⟩)
              have HFI : Hid (IsR X ((wr.setCell ⟨sb, j, none⟩ (.slice (some ⟨g, 0, none⟩) 64 cap3)).setCell ⟨wb, j, none⟩ (.slice none 0 0)) p sb sc wb base (crP d fs (j + 1)) ∧ Only [sb, wb] wr ((wr.setCell ⟨sb, j, none⟩ (.slice (some ⟨g, 0, none⟩) 64 cap3)).setCell ⟨wb, j, none⟩ (.slice none 0 0))) := Lib.hid (by
                rw [HP.out, HZ.out, HS.out]
                exact HSY.out)
              have hs9 : Only [sb] wr (wr.setCell ⟨sb, j, none⟩ (.slice (some ⟨g, 0, none⟩) 64 cap3)) := (Only.refl [sb] wr).setCell (p := ⟨sb, j, none⟩) (.inl (by simp)) _
              have q1 := hs9.cell y1 (by simpa using hne.1)
              have qw := hs9.cell yw (by simpa using fun e => hsw e.symm)
              have yf : wr.frozen? ⟨sb, j, none⟩ = false := by obtain ⟨_, h5, _⟩ := hR9.safe; exact h5.frozenOf j
              have qf : (wr.setCell ⟨sb, j, none⟩ (.slice (some ⟨g, 0, none⟩) 64 cap3)).frozen? ⟨wb, j, none⟩ = false := by
                obtain ⟨_, h5, _⟩ := hR9.wait
                exact (h5.only hs9 (by simpa [ownL, Value.ownBlock] using fun e => hsw e.symm)).frozenOf j
              have hj3 : (j : Int) < (n : Int) := by omega
              clear hx hoy hon ho3 hxr hR9 hs9 HSY
              go_wp2_with fail
              go_roundw
              case measure => simp [Go.RowKit.intOf]; omega
              case rel => exact ⟨j + 1, by omega, by go_num, by rw [HNX.out]; go_num, HFI.out.1, (HO.out.trans HOY.out (by simp)).trans HFI.out.2 (fun x hx => .inl (by simp at hx; simp [hx]))⟩
        · have dk : decide ((kk : Int) < (mf : Int)) = false := decide_eq_false (by omega)
          have hz0 : z = 0 := by rw [← hz]; exact fateZ_no (by rw [HMF.out]; omega)
          have HNX : Hid (min (ksR d (j + 1)).length mf = kk) := Lib.hid (by rw [HK.out, List.length_append]; simp; omega)
          subst hz0
          clear hz hkk
          go_wp2_with (at_builtin; refine wpList_append_bytes rfl (.tmp 39) (.tmp 46) rfl rfl hns rfl HBE.out (by omega) (by simp) ?_; intro v2 w2 ho2 hon2 hfr2)
          have hon : Only [] w8 w2 := HEO.out.trans hon2 (fun g hg => .inr (by have e : g ∈ [w8.heap.size] := hg; simp at e; omega))
          obtain ⟨A3, cap3, rfl, hca, hcb, _, hA3⟩ := ho2.shape
          obtain ⟨g, rfl, hg⟩ : ∃ g, A3 = some ⟨g, 0, none⟩ ∧ w8.heap.size ≤ g := by
            rcases hA3 with ⟨_, h0⟩ | ⟨g, h1, h2, _⟩
            · omega
            · exact ⟨g, h1, h2⟩
          have ho3 : OwnB w2 w8.heap.size (.slice (some ⟨g, 0, none⟩) 64 cap3) 64 l2 := by simpa using ho2
          have hca : 64 ≤ cap3 := by omega
          have HCAP := Lib.hid (And.intro hca hcb)
          have HG := Lib.hid hg
          have hsl9 := HSL.out
          have hll9 := HLL.out
          clear ho2 hon2 hfr2 hA3 hns hca hcb
          go_wp2_with fail
          go_loopw [8] (fun i wr => ∃ q : Nat, q ≤ 64 ∧ i = .int .i64 q ∧ OwnB wr w8.heap.size (.slice (some ⟨g, 0, none⟩) 64 cap3) 64 (mixL 0 l2 l1 q) ∧ Only [] w8 wr) (fun i _ => 64 - (Go.RowKit.intOf i).toNat)
          case atStart => exact ⟨0, by omega, rfl, by rw [mix_zero]; exact ho3, hon⟩
          case round =>
            obtain ⟨q, hq, rfl, hx, hoy⟩ := hrel
            have HOY := Lib.hid hoy
            have y1 := hoy.cell c1 (by simp)
            have yw := hoy.cell cw2 (by simp)
            by_cases hq64 : q < 64
            · have dq : decide ((q : Int) < 64) = true := decide_eq_true (by omega)
              have hq3 : (q : Int) < 64 := by omega
              obtain ⟨b9, o9, hA9, _, yl⟩ := (HB.out.only hoy (by simp)).at_ hq64
              injection hA9 with hA9
              injection hA9 with e7 e8 _
              subst e7
              subst e8
              have xc := hx.cell hq64
              have xf := hx.frozen q
              obtain ⟨bq, hbq⟩ : ∃ b, l1.getD q 0 = b := ⟨_, rfl⟩
              have HST := Lib.hid (hx.stored (k := q) bq)
              have HOS := Lib.hid (hoy.setCell (p := ⟨g, q, none⟩) (.inr hg) (B8 bq))
              have HX := Lib.hid hx
              have HMY := Lib.hid (fun hz => mix_yes (z := 0) HSL.out HLL.out hq64 hz)
              rw [hbq] at HMY yl
              have HMN := Lib.hid (fun hz => mix_no (z := 0) HSL.out HLL.out hq64 hz)
              clear hx hoy hon ho3 hbq
              skip
              by_cases h32 : q < 32
              · have d32 : decide ((q : Int) < 32) = true := decide_eq_true (by omega)
                have e32 : decide ((32 : Int) ≤ (q : Int)) = false := decide_eq_false (by omega)
                have d32' : decide (q < 32) = true := decide_eq_true (by omega)
                have e32' : decide (32 ≤ q) = false := decide_eq_false (by omega)
                skip
                · go_wp2_with fail
                  go_roundw
                  case measure => simp [Go.RowKit.intOf]; omega
                  case rel => exact ⟨q + 1, by omega, by go_num, by rw [HMN.out (by omega)]; exact HX.out, HOY.out⟩
              · have d32 : decide ((q : Int) < 32) = false := decide_eq_false (by omega)
                have e32 : decide ((32 : Int) ≤ (q : Int)) = true := decide_eq_true (by omega)
                have d32' : decide (q < 32) = false := decide_eq_false (by omega)
                have e32' : decide (32 ≤ q) = true := decide_eq_true (by omega)
                skip
                · go_wp2_with fail
                  go_roundw
                  case measure => simp [Go.RowKit.intOf]; omega
                  case rel => exact ⟨q + 1, by omega, by go_num, by rw [HMN.out (by omega)]; exact HX.out, HOY.out⟩
            · obtain rfl : q = 64 := by omega
              have dq : decide (((64 : Nat) : Int) < 64) = false := by decide
              have dq' : decide ((64 : Int) < 64) = false := by decide
              rw [mix_all HSL.out HLL.out] at hx
              have y0 := hoy.cell c0 (by simp)
              have ys := hoy.cell cs2 (by simp)
              have hxr := hx.reads
              have hR9 := HR2.out.only0 hoy
              have hne := hR9.p_ne
              have hsw := hR9.ne
              have hltx := HLT.out
              have HSY := Lib.hid (hR9.sync1 (i := j) (s := ⟨some ⟨g, 0, none⟩, 64, cap3, crashL 0 l2 l1⟩) (l := crashL 0 l2 l1) (by show j < d.n; rw [HN.out]; exact hlt) ⟨rfl, rfl, hxr, HCAP.out.1, HCAP.out.2, fun k hk hm => by
                simp [blkOf] at hk
                simp only [List.mem_cons] at hm
                rcases hm with e | e | e | e
                iterate 3 omega
                have := HR2.out.xlt _ e
                omega⟩)
              have HFI : Hid (IsR X ((wr.setCell ⟨sb, j, none⟩ (.slice (some ⟨g, 0, none⟩) 64 cap3)).setCell ⟨wb, j, none⟩ (.slice none 0 0)) p sb sc wb base (crP d fs (j + 1)) ∧ Only [sb, wb] wr ((wr.setCell ⟨sb, j, none⟩ (.slice (some ⟨g, 0, none⟩) 64 cap3)).setCell ⟨wb, j, none⟩ (.slice none 0 0))) := Lib.hid (by
                rw [HP.out, HZ.out, HS.out]
                exact HSY.out)
              have hs9 : Only [sb] wr (wr.setCell ⟨sb, j, none⟩ (.slice (some ⟨g, 0, none⟩) 64 cap3)) := (Only.refl [sb] wr).setCell (p := ⟨sb, j, none⟩) (.inl (by simp)) _
              have q1 := hs9.cell y1 (by simpa using hne.1)
              have qw := hs9.cell yw (by simpa using fun e => hsw e.symm)
              have yf : wr.frozen? ⟨sb, j, none⟩ = false := by obtain ⟨_, h5, _⟩ := hR9.safe; exact h5.frozenOf j
              have qf : (wr.setCell ⟨sb, j, none⟩ (.slice (some ⟨g, 0, none⟩) 64 cap3)).frozen? ⟨wb, j, none⟩ = false := by
                obtain ⟨_, h5, _⟩ := hR9.wait
                exact (h5.only hs9 (by simpa [ownL, Value.ownBlock] using fun e => hsw e.symm)).frozenOf j
              have hj3 : (j : Int) < (n : Int) := by omega
              clear hx hoy hon ho3 hxr hR9 hs9 HSY
              go_wp2_with fail
              go_roundw
              case measure => simp [Go.RowKit.intOf]; omega
              case rel => exact ⟨j + 1, by omega, by go_num, by rw [HNX.out], HFI.out.1, (HO.out.trans HOY.out (by simp)).trans HFI.out.2 (fun x hx => .inl (by simp at hx; simp [hx]))⟩
    · obtain rfl : j = n := by omega
      have d1 : decide ((j : Int) < (j : Int)) = false := decide_eq_false (by omega)
      have c2 : w8.cell? ⟨p, 2, none⟩ = some (.int .i64 d.left) := hR.blk.cell 2
      have c4 : w8.cell? ⟨p, 4, none⟩ = some (.bool d.off) := hR.blk.cell 4
      have f2 := hR.blk.frozen 2
      have f4 := hR.blk.frozen 4
      have hb4 := hR.blk.set_ 4 (.bool false)
      have c2' : (w8.setCell ⟨p, 4, none⟩ (.bool false)).cell? ⟨p, 2, none⟩ = some (.int .i64 d.left) := hb4.cell 2
      have f2' : (w8.setCell ⟨p, 4, none⟩ (.bool false)).frozen? ⟨p, 2, none⟩ = false := hb4.frozen 2
      have hoz : Only [p] w8 ((w8.setCell ⟨p, 4, none⟩ (.bool false)).setCell ⟨p, 2, none⟩ (.int .i64 (-1))) := ((Only.refl [p] w8).setCell (p := ⟨p, 4, none⟩) (.inl (by simp)) _).setCell (p := ⟨p, 2, none⟩) (.inl (by simp)) _
      have HF := Lib.hid (hR.head (left := -1) (done := d.done) (off := false) hoz (hb4.set_ 2 (.int .i64 (-1))) (by omega) hR.done_)
      have HF2 : Hid (IsR X ((w8.setCell ⟨p, 4, none⟩ (.bool false)).setCell ⟨p, 2, none⟩ (.int .i64 (-1))) p sb sc wb base (crashD d fs (ksR d d.n))) := Lib.hid (by
        rw [← HALL.out, HN.out]
        exact HF.out)
      have HOZ := Lib.hid (HO.out.trans hoz (fun x hx => .inl (by simp at hx; simp [hx])))
      clear hR ho hb4 hoz HF
      go_wp2_with fail
      go_end0
      exact ⟨_, HKS.out, rfl, HF2.out, HOZ.out⟩
end
end Go.Proofs.YthgfmoogagldmaaGreat.RefD
namespace Go.Proofs.YthgfmoogagldmaaGreat.RefD
open Go.RowKit Go.Shelf Disk Journal Go.Proofs.YthgfmoogagldmaaGreat.Frame
theorem rtakes_any (A : Option Addr) (n c B : Nat) (ls : List (List UInt8)) (w : World) (hg : Gs w B A n ls) (hn : n ≤ 1000000) : Calls Tryz.prog 32 #[.slice A n c] w fun x w' => x = .returned (.int .i64 (takesL ls)) ∧ w' = w := by
  obtain ⟨ss, hl, hr, hls, hok⟩ := hg
  have HR := Lib.hid hr
  have HOK := Lib.hid hok
  have HLS := Lib.hid hls
  have HL := Lib.hid hl
  have hb : ∀ b ∈ ls, b.length ≤ 1048576 := fun b hb => by
    rw [← hls] at hb
    obtain ⟨s, hs, rfl⟩ := List.mem_map.1 hb
    have h1 := hok s hs
    have := h1.1.len
    omega
  have hll : ls.length = n := by rw [← hls, List.length_map, hl]
  have HLL := Lib.hid hll
  have HBB := Lib.hid hb
  clear hr hok hls hl hb hll
  go_enter Tryz.func32, Tryz.ntmps32
  go_wp2_with fail
  go_loop [3, 4] (fun t i => ∃ k : Nat, k ≤ n ∧ i = .int .i64 k ∧ t = .int .i64 (takesL (ls.take k))) (fun _ i => n - (intOf i).toNat)
  case atStart => exact ⟨0, by omega, rfl, by simp [takesL]⟩
  case round =>
    obtain ⟨k, hk, rfl, rfl⟩ := hrel
    by_cases hlt : k < n
    · have e1 : decide ((k : Int) < (n : Int)) = true := decide_eq_true (by omega)
      have e1' : decide (k < n) = true := decide_eq_true hlt
      obtain ⟨b, off, hA, hbb, s, hs, hsk, hc⟩ := Reads.sl HR.out k hlt
      subst hA
      obtain ⟨s1, s2, s3, s4⟩ := HOK.out s hs
      have hat : ls[k]? = some s.l := by rw [← HLS.out, List.getElem?_map, hsk]; rfl
      have hft := foldl_take hat
      have hle := takesL_le k ls HBB.out (by rw [HLL.out]; omega)
      have hsl := s1.len
      have htb : takesB s.l = 1 + needZ (s.n : Int) := by unfold takesB; rw [hsl]
      have htl := takesB_le (b := s.l) (by omega)
      rw [htb] at hft htl
      obtain ⟨t0, ht0⟩ : ∃ t, takesL (ls.take k) = t := ⟨_, rfl⟩
      rw [ht0] at hft hle ⊢
      obtain ⟨z, hz⟩ : ∃ z, needZ (s.n : Int) = z := ⟨_, rfl⟩
      have HT := Lib.hid (rneed_int (s.n : Int) w (by omega) (by omega))
      rw [hz] at hft htl HT
      have hft2 : takesL (ls.take (k + 1)) = t0 + 1 + z := by rw [hft]; omega
      have HF := Lib.hid hft2
      obtain ⟨l0, l1⟩ := hle
      obtain ⟨l2, l3⟩ := htl
      clear hft hft2 htb hsl hat hsk hs s1 hz ht0
      go_wp2_with (go_at_call 83; refine HT.out.mono ?_; rintro x w2 ⟨rfl, rfl⟩)
      go_round
      case measure => simp [intOf]; omega
      case rel => exact ⟨k + 1, by omega, by go_num, by rw [HF.out]⟩
    · obtain rfl : k = n := by omega
      have e1 : decide ((k : Int) < (k : Int)) = false := decide_eq_false (by omega)
      have e1' : decide (k < k) = false := decide_eq_false (by omega)
      have hta : ls.take k = ls := List.take_of_length_le (by rw [HLL.out]; exact Nat.le_refl _)
      rw [hta]
      clear hta
      go_wp2_with fail
      go_ret
      exact ⟨rfl, rfl⟩
section
variable {w w' : World} {p sb sc wb base : Nat} {d : DS} {X : List Nat}
theorem rroom_any (h : IsR X w p sb sc wb base d) (h2 : 2 ≤ d.n) : Calls Tryz.prog 34 #[.pointer (some ⟨p, 0, none⟩)] w fun x w' => x = .returned (.int .i64 (roomD d)) ∧ w' = w := by
  have c0 : w.cell? ⟨p, 0, none⟩ = some (.slice (some ⟨sb, 0, none⟩) d.n sc) := h.blk.cell 0
  obtain ⟨n0, n1⟩ := h.n0
  unfold roomD
  obtain ⟨n, hn⟩ : ∃ n, d.n = n := ⟨_, rfl⟩
  rw [hn] at c0 n0 n1 h2 ⊢
  clear h hn
  have e1 : wrap64 ((n : Int) - 2) = (n : Int) - 2 := by unfold wrap64; omega
  have e2 : ((n : Int) - 2).tdiv 2 = ((n : Int) - 2) / 2 := Int.tdiv_eq_ediv_of_nonneg (by omega)
  have e3 : wrap64 (((n : Int) - 2) / 2) = ((n : Int) - 2) / 2 := by unfold wrap64; omega
  go_enter Tryz.func34, Tryz.ntmps34
  go_wp2_with fail
  go_ret
  first | exact ⟨rfl, rfl⟩ | exact ⟨by simp [e1, e2, e3], rfl⟩
theorem rfirst_any (h : IsR X w p sb sc wb base d) (h2 : 2 ≤ d.n) (gen : Int) (hg : 0 ≤ gen ∧ gen ≤ 4611686018427387904) : Calls Tryz.prog 79 #[.pointer (some ⟨p, 0, none⟩), .int .i64 gen] w fun x w' => x = .returned (.int .i64 (halfD d gen).fr) ∧ w' = w := by
  have HR := Lib.hid (rroom_any h h2)
  obtain ⟨n0, n1⟩ := h.n0
  have h1 := i64_and1 gen
  unfold halfD
  have hr0 : 0 ≤ roomD d ∧ roomD d ≤ 65536 := by unfold roomD; omega
  obtain ⟨r, hr⟩ : ∃ r, roomD d = r := ⟨_, rfl⟩
  rw [hr] at HR hr0 ⊢
  obtain ⟨g0, g1⟩ := hg
  have hm : gen % 2 = 0 ∨ gen % 2 = 1 := by omega
  clear h hr
  rcases hm with hm | hm
  all_goals
    rw [hm] at h1 ⊢
    go_enter Tryz.func79, Tryz.ntmps79
    go_wp2_with (go_at_call 34; refine HR.out.mono ?_; rintro x w2 ⟨rfl, hw2⟩; subst hw2)
    go_ret
    exact ⟨by simp, rfl⟩
end
theorem rjmark_ret {f : Func} (T : Array Value) (w : World) (g : Nat) (x y z u : Value) (hf : f.results = Tryz.f85.results) (h6 : T[6]?.getD undef = .pointer (some ⟨g, 0, none⟩))
    (hb : Blk w g 134 #[x, y, z, u]) : (results f T).run Tryz.prog w = .ok (.agg #[x, y, z, u]) w := by
  have d0 : w.cell? ⟨g, 0, none⟩ = some x := hb.cell 0
  have d1 : w.cell? ⟨g, 1, none⟩ = some y := hb.cell 1
  have d2 : w.cell? ⟨g, 2, none⟩ = some z := hb.cell 2
  have d3 : w.cell? ⟨g, 3, none⟩ = some u := hb.cell 3
  unfold results
  rw [hf]
  simp [Tryz.results85, h6, go_sem, d0, d1, d2, d3]
set_option maxHeartbeats 1000000 in
theorem rmark_any (w : World) (h : Half) (seq : Int) (A : Option Addr) (n c B : Nat) (l : List UInt8) (hr : Bytes w B A n l) (hn : n ≤ 1048576) :
    Calls Tryz.prog 85 #[.int .i64 h.gen, .int .i64 seq, .slice A n c] w fun x w' => x = .returned (markH h seq l).val ∧ Only [] w w' := by
  obtain ⟨w2, hw2⟩ : ∃ w2, w.alloc (.cells #[.int .i64 0, .int .i64 0, .int .i64 0, .int .i64 0] 134) = w2 := ⟨_, rfl⟩
  have ho2 : Only [] w w2 := by rw [← hw2]; exact (Only.refl [] w).alloc _
  have hbm : Blk w2 w.heap.size 134 #[.int .i64 0, .int .i64 0, .int .i64 0, .int .i64 0] := by rw [← hw2]; exact Blk.new w _ _
  have HC := Lib.hid (Sums.rcrc_any A c l B w2 n (hr.only ho2 (by simp)) (by unfold maxLen; omega))
  have f0 := hbm.frozen 0
  have f1 := hbm.frozen 1
  have f2 := hbm.frozen 2
  have f3 := hbm.frozen 3
  have z0 := hbm.cell 0
  have z1 := hbm.cell 1
  have z2 := hbm.cell 2
  have z3 := hbm.cell 3
  have hcl := crcS_lt l
  have hor := or_mark n (crcL l) hn hcl
  have hcs := crc_same l
  rw [hr.len] at hcs
  rw [hcs] at HC
  have HL := Lib.hid hr.len
  have HBM := Lib.hid hbm
  have HO := Lib.hid ho2
  unfold crcL at hor hcl
  obtain ⟨S, hS⟩ : ∃ S, Sums.crc (Sums.nats l) = S := ⟨_, rfl⟩
  have HS := Lib.hid hS
  rw [hS] at hor hcl HC
  have hwr1 : IntKind.i64.wrap ((n : Int) * 4294967296) = (n : Int) * 4294967296 := by rw [IntKind.wrap_i64]; omega
  have hwr2 : IntKind.i64.wrap (S : Int) = (S : Int) := by rw [IntKind.wrap_i64]; omega
  obtain ⟨gen, fr, room⟩ := h
  clear hr hbm ho2 hS hcs
  go_enter Tryz.func85, Tryz.ntmps85
  go_wp2_with (go_at_call 124; refine HC.out.mono ?_; rintro x w3 ⟨rfl, rfl⟩)
  exact bodyPost_ret (rjmark_ret _ _ (w.heap.size) _ _ _ _ rfl rfl (blk4 HBM.out _ _ _ _)) rfl ⟨by unfold markH crcL Frame.Mark.val; simp only; rw [HL.out, HS.out], (only4 HO.out (by omega) _ _ _ _)⟩
end Go.Proofs.YthgfmoogagldmaaGreat.RefD
