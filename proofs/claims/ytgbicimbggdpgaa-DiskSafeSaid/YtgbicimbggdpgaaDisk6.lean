/- Sync walks. -/
import Derived.Test.YtgbicimbggdpgaaDisk5
namespace Go.Proofs.Ytgbicimbggdpgaa.Disk
open Go.RowKit Go.Maps
set_option linter.unusedVariables false
set_option maxRecDepth 100000
def syncS (d : DS) : Nat → List UInt8 := fun j => (d.wait j).getD (d.safe j)
def part (d : DS) (left : Lit → Bool) : Nat → List UInt8 := fun j => if left (pk j) = true then d.safe j else syncS d j
def mkS (x : Nat × Nat) : Value := .slice (some ⟨x.1, 0, none⟩) 64 x.2
theorem same_pk (i j : Nat) : (pk j).sameKey (pk i) = true ↔ j = i := by
  constructor
  · intro h
    exact pk_inj (WideAt.sameKey_eq h)
  · rintro rfl
    exact WideAt.sameKey_self (by trivial)
theorem part_start {d : DS} {w : World} {W : List Nat} {f : Lit → Option Value} (hf : WaitF w W d.n f d.wait) : part d (fun k => (f k).isSome) = d.safe := by
  funext j
  unfold part syncS
  cases hw : d.wait j with
  | none => simp
  | some l =>
    obtain ⟨_, _, q, c, hq, _⟩ := hf.some_ j l hw
    rw [if_pos (by show (f (pk j)).isSome = true; rw [hq]; rfl)]
theorem part_end {d : DS} {left : Lit → Bool} (h : ∀ k, left k = false) : part d left = syncS d := by
  funext j
  unfold part
  rw [if_neg (by rw [h]; simp)]
theorem part_step {d : DS} {left : Lit → Bool} {i : Nat} {l : List UInt8} (hw : d.wait i = some l) : part d (fun z => left z && !z.sameKey (pk i)) = fun k => if k = i then l else part d left k := by
  funext j
  unfold part
  by_cases e : j = i
  · subst e
    rw [if_neg (by show ¬ (left (pk j) && !(pk j).sameKey (pk j)) = true; rw [(same_pk j j).2 rfl]; simp), if_pos rfl]
    unfold syncS
    rw [hw]
    rfl
  · have : (pk j).sameKey (pk i) = false := by
      cases h : (pk j).sameKey (pk i)
      · rfl
      · exact absurd ((same_pk i j).1 h) e
    rw [if_neg e]
    show (if (left (pk j) && !(pk j).sameKey (pk i)) = true then d.safe j else syncS d j) = _
    rw [this]
    simp
theorem WaitF.mk_ {w : World} {W : List Nat} {n : Nat} {f : Lit → Option Value} {wait : Nat → Option (List UInt8)} (h : WaitF w W n f wait) : ∀ k v, f k = some v → ∃ c, v = mkS c := fun k v hv => by
  obtain ⟨i, hi, rfl⟩ := h.keys k (by rw [hv]; rfl)
  cases hw : wait i with
  | none => rw [h.none_ i hw] at hv; cases hv
  | some l =>
    obtain ⟨_, _, q, c, hq, _⟩ := h.some_ i l hw
    rw [hq] at hv
    injection hv with hv
    exact ⟨(q, c), hv.symm⟩
theorem WaitF.at_ {w : World} {W : List Nat} {n : Nat} {f : Lit → Option Value} {wait : Nat → Option (List UInt8)} (h : WaitF w W n f wait) {s : Int} {x : Nat × Nat} (hs : f (.int .i64 s) = some (mkS x)) : ∃ i l, s = ((i : Nat) : Int) ∧ i < n ∧ wait i = some l ∧ l.length = 64 ∧ Bytes w w.heap.size (some ⟨x.1, 0, none⟩) 64 l ∧ x.1 ∈ W := by
  obtain ⟨i, hi, hk⟩ := h.keys _ (by rw [hs]; rfl)
  unfold pk at hk
  injection hk with _ hk
  subst hk
  cases hw : wait i with
  | none =>
    have := h.none_ i hw
    rw [show pk i = Lit.int .i64 (i : Int) from rfl, hs] at this
    cases this
  | some l =>
    obtain ⟨_, hl, q, c, hq, hqW, hb, _⟩ := h.some_ i l hw
    rw [show pk i = Lit.int .i64 (i : Int) from rfl, hs] at hq
    injection hq with hq
    unfold mkS at hq
    injection hq with hq _ _
    injection hq with hq
    injection hq with hq _ _
    subst hq
    exact ⟨i, l, rfl, hi, hw, hl, hb, hqW⟩
section
variable {w w' : World} {p g b cap : Nat} {W : List Nat} {d : DS}
theorem IsD.box_ne (h : IsD w p g b W cap d) {q : Nat} {v : Option Addr} (hq : w.cell? ⟨q, 0, none⟩ = some (.pointer v)) : q ≠ g := by
  rintro rfl
  obtain ⟨C, hC, _, _, h4⟩ := h.safe
  obtain ⟨_, h5⟩ := h4 0 h.n0.1
  have := h5 0 (by decide)
  rw [hC.cell, this] at hq
  injection hq with hq
  cases hq
set_option maxHeartbeats 4000000 in
theorem sync1_any (h : IsD w p g b W cap d) {q0 : Nat} (x0 : w.cell? ⟨q0, 0, none⟩ = some (.pointer (some ⟨p, 0, none⟩))) (hq0 : q0 < w.heap.size) :
    Calls Try.prog 19 #[.pointer (some ⟨q0, 0, none⟩)] w fun x w' => x = .returned (.tuple #[]) ∧ Did w p g b W cap { d with safe := syncS d, wait := fun _ => none } w' := by
  have hne := h.box_ne x0
  obtain ⟨f, hv, hf⟩ := h.map
  have c4 := h.blk.cell 4
  have HH := Lib.hid h
  have HF := Lib.hid hf
  have HV := Lib.hid hv
  have HX0 := Lib.hid x0
  obtain ⟨n0, n1⟩ := h.n0
  obtain ⟨lp, lg, lb⟩ := h.lt
  have hlw := Lib.hid h.low
  have HST := Lib.hid (part_start hf)
  clear h hv hf
  go_enter Try.func19, Try.ntmps19
  go_wp2_with (at_range; refine wpList_rangeV rfl (.tmp 6) 45 rfl 3 29 lawI Try.underlying45 rfl HV.out ?_; intro w3 cnt3 hrg3 hcn3 ho3 hs3)
  go_frame
  obtain ⟨r, hr⟩ : ∃ r, w.heap.size = r := ⟨_, rfl⟩
  rw [hr] at hrg3 hs3 lp lg lb hq0
  rw [hr]
  have hs3' : SafeAt w3 g d.n cap d.safe := HH.out.safe.only ho3 (by simp)
  have HRG3 := Lib.hid hrg3
  have HS3 := Lib.hid hs3'
  have HO3 := Lib.hid (ho3.mono (S' := [g]) (fun k hk => by cases hk))
  have HR := Lib.hid hr
  clear hrg3 hs3' ho3 hs3 hr x0 c4 HV
  go_loopw [8] (fun _ wr => ∃ (left : Lit → Bool) (cnt : Nat), VR Try.prog 3 wr b r d.n f left cnt ∧ SafeAt wr g d.n cap (part d left) ∧ Only [g] w wr) (fun _ wr => wr.rangeLeft b r)
  case atStart => exact ⟨_, cnt3, HRG3.out, by rw [HST.out]; exact HS3.out, HO3.out⟩
  case round =>
    clear HRG3 HS3 HO3
    obtain ⟨left, cnt, hrg, hsf, ho⟩ := hrel
    have x0 := ho.cell HX0.out (by simpa using hne)
    have hir := HH.out.turned ho hsf
    have c4 := hir.blk.cell 4
    have HRG := Lib.hid hrg
    have HSF := Lib.hid hsf
    have HO := Lib.hid ho
    have HIR := Lib.hid hir
    clear hrg hsf ho hir
    go_wp2_with (at_next; refine wpList_nextI rfl (.tmp 7) rfl 3 Try.underlying3 mkS rfl HRG.out HF.out.mk_ ?_ ?_)
    · intro hl0
      have HL0 := Lib.hid hl0
      have hvm := HRG.out.owns
      have HVM := Lib.hid hvm
      clear hl0 hvm
      go_wp2_with (refine wpList_clearV rfl (.tmp 21) 45 rfl 29 Try.underlying45 rfl HVM.out ?_; intro w5 hv5 ho5)
      go_end0
      have hc5 := HIR.out.cleared ho5 hv5
      rw [part_end HL0.out] at hc5
      exact ⟨rfl, W, hc5, Newer.refl _ _, (HO.out.mono (fun k hk => .inl (by simp at hk; simp [hk]))).trans ho5 (fun k hk => .inl (by simp at hk; simp [hk]))⟩
    · intro s q c w5 cnt5 hl hfs hrg5 hlt ho5 hsz5 hen
      obtain ⟨i, l, rfl, hi, hw, hll, hb, hqW⟩ := HF.out.at_ hfs
      simp only at hb hqW
      unfold mkS at hen ⊢
      simp only at hen ⊢
      have x5 := ho5.cell x0 (by simp; omega)
      have hrW : ∀ k ∈ W, k ∉ [r] := fun k hk => by have := hlw.out k hk; have := HR.out; simp; omega
      have hi5 := HIR.out.only ho5 ⟨by simp; omega, by simp; omega, by simp; omega⟩ hrW
      have hwr5 : Only [g] w w5 := HO.out.trans ho5 (fun k hk => .inr (by have := HR.out; simp at hk; omega))
      have hb5 := hb.only hwr5 (fun k hk => by simp [blkOf] at hk; subst hk; simpa using (HH.out.apart _ hqW).2.1)
      have HAT := Lib.hid (at_any hi5 i hi)
      obtain ⟨C, hC, hC2, hC3, hC4⟩ := hi5.safe
      have hC3' : 64 * d.n ≤ cap := hC3
      have hCl : 64 * i + Nat.min 64 64 ≤ C.size := by rw [hC2]; show 64 * i + 64 ≤ cap; omega
      have htk : l.take 64 = l := List.take_of_length_le (by omega)
      have HPS := Lib.hid (part_step (left := left) hw)
      have HC := Lib.hid hC
      have HB5 := Lib.hid hb5
      have HCL := Lib.hid hCl
      have HLD : Hid (∀ w6, Blk w6 g 5 (spliced C (64 * i + 0) l) → SafeAt w6 g d.n cap (fun k => if k = i then lay (part d left i) 0 l else part d left k)) := Lib.hid (fun w6 h6 => SafeAt.laid hC hC2 hC3 hC4 hi (by omega) h6)
      have hlay : lay (part d left i) 0 l = l := lay_whole _ _ (by have h9 : (part d left i).length = 64 := (hC4 i hi).1; omega)
      have HTK := Lib.hid htk
      have HLY := Lib.hid hlay
      have HRG5 := Lib.hid hrg5
      have HLT := Lib.hid hlt
      have HO5 := Lib.hid hwr5
      have HN := Lib.hid (show b ∉ [g] ∧ r ∉ [g] from ⟨by simpa using fun e => HH.out.ne.2.2 e.symm, by simp; omega⟩)
      clear hl hfs hw hll hb hqW hrW hi5 hb5 hC hC2 hC3 hC4 hCl htk hlay hrg5 hlt hwr5 ho5 hsz5 x0 c4
      go_wp2_with (first
        | (go_at_call 20; refine HAT.out.mono ?_; rintro x w4 ⟨cc, rfl, hc1, hc2, rfl⟩)
        | (refine wpList_copy_bytes (o := ⟨some 17, _, _, _, _, _⟩) rfl (.tmp 15) (.tmp 16) 29 29 rfl Try.underlying29 (by kernel_rfl) rfl rfl HC.out HB5.out (by decide) HCL.out ?_; intro w6 kk hb6 ho6; rw [HTK.out] at hb6; have HB6 := Lib.hid hb6; have HO6 := Lib.hid ho6; clear hb6 ho6; go_frame))
      have hs6 := HLD.out w6 HB6.out
      rw [HLY.out, ← HPS.out] at hs6
      have hrg6 := HRG5.out.only HO6.out HN.out.1 HN.out.2
      go_roundw
      case rel => exact ⟨_, cnt5, hrg6, hs6, HO5.out.trans HO6.out (fun k hk => .inl hk)⟩
      case measure => rw [hrg6.left_eq, HRG.out.left_eq]; exact HLT.out
end
end Go.Proofs.Ytgbicimbggdpgaa.Disk
