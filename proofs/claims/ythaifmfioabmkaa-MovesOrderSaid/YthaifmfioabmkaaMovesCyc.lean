/- moves.Cycles walks. PRINTED by wip/gen_movescyc.py. -/
import Derived.Test.YthaifmfioabmkaaMovesOrder
namespace Go.Proofs.Ythaifmfioabmkaa.Moves
open Go.RowKit Go.Maps
set_option linter.unusedVariables false
set_option maxRecDepth 100000
def chase : Nat → List Mv → Int → List Mv
  | 0, S, _ => S
  | n + 1, S, p => match fro S p with
    | none => S
    | some s => chase n (dropD S p) s
def cnt (l : List Mv) : Nat → List Mv → Nat
  | 0, _ => 0
  | n + 1, S => match l.find? (fun x => (fro S x.dst).isSome) with
    | none => 0
    | some x => 1 + cnt l n (chase (S.length + 1) S x.dst)
theorem chase_inv : ∀ (n : Nat) (S : List Mv) (p : Int), (∀ x ∈ chase n S p, x ∈ S) ∧ (chase n S p).length ≤ S.length ∧ (Uniq S → Uniq (chase n S p))
  | 0, S, p => ⟨fun _ h => h, Nat.le_refl _, id⟩
  | n + 1, S, p => by
    rw [chase]
    cases hf : fro S p with
    | none => exact ⟨fun _ h => h, Nat.le_refl _, id⟩
    | some s =>
      obtain ⟨h1, h2, h3⟩ := chase_inv n (dropD S p) s
      exact ⟨fun x hx => (mem_dropD.1 (h1 x hx)).1, Nat.le_trans h2 (dropD_len _ _), fun hu => h3 (hu.dropD p)⟩
theorem chase_lt {n : Nat} {S : List Mv} {p : Int} (hu : Uniq S) (h : (fro S p).isSome = true) : (chase (n + 1) S p).length < S.length := by
  rw [chase]
  cases hf : fro S p with
  | none => rw [hf] at h; cases h
  | some s =>
    have h1 := len_dropD hu hf
    have h2 := (chase_inv n (dropD S p) s).2.1
    show (chase n (dropD S p) s).length < _
    omega
theorem fromF_none {S : List Mv} : (∀ k, fromF S k = none) ↔ S = [] := by
  constructor
  · intro h
    cases S with
    | nil => rfl
    | cons x S =>
      have := h (ik x.dst)
      rw [fromF_ik] at this
      unfold fro at this
      simp at this
  · rintro rfl
    rw [fromF_nil]
    intro k
    rfl
theorem idx_find {l : List Mv} {pr : Mv → Bool} {z : Int} (h : idxZ l pr z) (hx : ∃ x ∈ l, pr x = true) : ∃ k x, z = (k : Nat) ∧ l[k]? = some x ∧ pr x = true ∧ l.find? pr = some x := by
  rcases h with ⟨_, hn⟩ | ⟨k, x, hz, hk, hp, hno⟩
  · obtain ⟨x, hm, hp⟩ := hx
    rw [hn x hm] at hp
    cases hp
  · refine ⟨k, x, hz, hk, hp, ?_⟩
    obtain ⟨hkl, rfl⟩ := List.getElem?_eq_some_iff.1 hk
    rw [List.find?_eq_some_iff_append]
    refine ⟨hp, l.take k, l.drop (k + 1), ?_, ?_⟩
    · rw [← List.drop_eq_getElem_cons hkl, List.take_append_drop]
    · intro y hy
      rw [hno y hy]
      rfl
set_option maxHeartbeats 1000000 in
theorem cycles1_any (g p b1 n : Nat) (S : List Mv) (d s : Int) (w : World) (hg : w.cell? ⟨g, 0, none⟩ = some (.pointer (some ⟨p, 0, none⟩))) (hp : w.cell? ⟨p, 0, none⟩ = some (.map (some b1))) (hv : VM Try.prog 3 w b1 n (fromF S)) (hd : in64 d) :
    Calls Try.prog 20 #[.agg #[.int .i64 d, .int .i64 s], .pointer (some ⟨g, 0, none⟩)] w fun e w' => e = .returned (.bool (fro S d).isSome) ∧ Only [] w w' := by
  have ho := (Only.refl [] w).alloc (.cells #[.int .i64 d, .int .i64 s] 33)
  have HO := Lib.hid ho
  have a0 := ho.drew.cell hg (by simp)
  have a1 := ho.drew.cell hp (by simp)
  have a2 := (Blk.new w 33 #[.int .i64 d, .int .i64 s]).drew.cell 0
  have hlk := VM.run_look (hv.alloc (.cells #[.int .i64 d, .int .i64 s] 33)).drew lawI Try.underlying38 (zeroI _) (keyI hd)
  rw [fromF_ik] at hlk
  obtain ⟨fr, hfr⟩ : ∃ fr, fro S d = fr := ⟨_, rfl⟩
  rw [hfr] at hlk ⊢
  have q : ∃ u b, fr.isSome = b ∧ (Instr.lookup 38 (.map (some b1)) (.int .i64 d) true).run Try.prog (w.alloc (.cells #[.int .i64 d, .int .i64 s] 33)).drew = .ok (.tuple #[.int .i64 u, .bool b]) (w.alloc (.cells #[.int .i64 d, .int .i64 s] 33)).drew := by
    cases fr with
    | none => exact ⟨0, false, rfl, hlk⟩
    | some s => exact ⟨s, true, rfl, hlk⟩
  obtain ⟨u, b, hb, hl2⟩ := q
  rw [hb]
  clear hlk hb hfr ho hv hd
  go_enter Try.func20, Try.ntmps20
  go_wp2_with fail
  go_region_held (fun w' => w'.cell? ⟨g, 0, none⟩ = some (.pointer (some ⟨p, 0, none⟩)) ∧ w'.cell? ⟨p, 0, none⟩ = some (.map (some b1)) ∧ w'.cell? ⟨w.heap.size, 0, none⟩ = some (.int .i64 d) ∧ (Instr.lookup 38 (.map (some b1)) (.int .i64 d) true).run Try.prog w' = .ok (.tuple #[.int .i64 u, .bool b]) w') (exact ⟨a0, a1, a2, hl2⟩) (fail)
  go_wp2_with fail
  go_ret
  exact ⟨rfl, HO.out.drew⟩
theorem index_cycles (A : Option Addr) (m c B g : Nat) (l : List Mv) (pr : Mv → Bool) (w : World) (hr : Recs w B 2 A m (l.map Mv.row)) (hm : m ≤ 1000) (hB : B ≤ w.heap.size)
    (hF : ∀ x ∈ l, ∀ w', Only [] w w' → Calls Try.prog 20 #[.agg #[.int .i64 x.dst, .int .i64 x.src], .pointer (some ⟨g, 0, none⟩)] w' fun e w'' => e = .returned (.bool (pr x)) ∧ Only [] w' w'') :
    Calls Try.prog 19 #[.slice A m c, .func (.func 20) #[] #[.pointer (some ⟨g, 0, none⟩)]] w fun x w' => ∃ z : Int, x = .returned (.int .i64 z) ∧ idxZ l pr z ∧ Only [] w w' := by
  have hl : l.length = m := by simpa using hr.1
  have HL := Lib.hid hl
  have HR := Lib.hid hr
  have HF := Lib.hid hF
  clear hr hF hl
  go_enter Try.func19, Try.ntmps19
  go_wp2_with fail
  go_loopw [8] (fun i wr => ∃ k : Nat, k ≤ m ∧ i = .int .i64 k ∧ Only [] w wr ∧ ∀ y ∈ l.take k, pr y = false) (fun i _ => m - (intOf i).toNat)
  case atStart => exact ⟨0, by omega, rfl, Only.refl _ _, by simp⟩
  case round =>
    obtain ⟨k, hk, rfl, ho, hno⟩ := hrel
    have HO := Lib.hid ho
    have HNO := Lib.hid hno
    clear hno
    by_cases hlt : k < m
    · have e1 : decide ((k : Int) < (m : Int)) = true := decide_eq_true (by omega)
      obtain ⟨b, off, hA, hb, x, hmem, hsk, c0, c1⟩ := mv_at HR.out k hlt
      subst hA
      have y0 := ho.cell c0 (by simp)
      have y1 := ho.cell c1 (by simp)
      have HTS := Lib.hid (take_snoc hsk)
      have HSK := Lib.hid hsk
      have HC := Lib.hid (HF.out x hmem wr ho)
      clear c0 c1 hmem hsk ho
      obtain ⟨q, hq⟩ : ∃ q, pr x = q := ⟨_, rfl⟩
      have HQ := Lib.hid hq
      rw [hq] at HC
      clear hq
      obtain ⟨xd, xs⟩ := x
      simp only at y0 y1 HC
      cases q
      · go_wp2_with (go_at_call 20; refine HC.out.mono ?_; rintro x w2 ⟨rfl, ho2⟩; have HO2 := Lib.hid (HO.out.trans ho2 (by simp)))
        go_roundw
        case rel =>
          refine ⟨k + 1, by omega, by go_num, HO2.out, ?_⟩
          rw [HTS.out]
          intro y hy
          rcases List.mem_append.1 hy with h | h
          · exact HNO.out y h
          · rw [List.mem_singleton.1 h]; exact HQ.out
        case measure => simp [intOf]; omega
      · go_wp2_with (go_at_call 20; refine HC.out.mono ?_; rintro x w2 ⟨rfl, ho2⟩; have HO2 := Lib.hid (HO.out.trans ho2 (by simp)))
        go_ret
        exact ⟨k, rfl, .inr ⟨k, ⟨xd, xs⟩, rfl, HSK.out, HQ.out, HNO.out⟩, HO2.out⟩
    · obtain rfl : k = m := by omega
      have e1 : decide ((k : Int) < (k : Int)) = false := decide_eq_false (by omega)
      have hno := HNO.out
      rw [← HL.out, List.take_length] at hno
      have HNN := Lib.hid hno
      clear hno
      go_wp2_with fail
      go_ret
      exact ⟨-1, rfl, .inl ⟨rfl, HNN.out⟩, HO.out⟩
theorem cycles_no (A : Option Addr) (m c : Nat) (l : List Mv) (w : World) (hr : Recs w w.heap.size 2 A m (l.map Mv.row)) (hok : AllOk l) (hm : m ≤ 100) (hu : ¬ Uniq l) :
    Calls Try.prog 10 #[.slice A m c] w fun x w' => x = .returned (.int .i64 0) ∧ Only [] w w' := by
  have HS := Lib.hid (sources_any A m c l _ hr hok hm)
  have HU := Lib.hid hu
  clear hr hok hu
  go_enter Try.func10, Try.ntmps10
  go_wp2_with (go_at_call 14; refine HS.out.mono ?_; rintro x w2 ⟨ho2, hx⟩; rw [if_neg HU.out] at hx; subst hx)
  go_ret
  exact ⟨rfl, ho2⟩
set_option maxHeartbeats 2000000 in
theorem cycles_any (A : Option Addr) (m c : Nat) (l : List Mv) (w : World) (hr : Recs w w.heap.size 2 A m (l.map Mv.row)) (hok : AllOk l) (hm : m ≤ 100) (hu : Uniq l) :
    Calls Try.prog 10 #[.slice A m c] w fun x w' => x = .returned (.int .i64 (cnt l (m + 1) (frees l (beg l, [])).1 : Nat)) ∧ Only [] w w' := by
  have hl : l.length = m := by simpa using hr.1
  have HS := Lib.hid (sources_any A m c l _ hr hok hm)
  have HBE := Lib.hid (fun w2 (h : Only [] w w2) => begin_any A m c l w2 ((hr.only h (by simp)).more h.size) hok hu hm)
  have HL := Lib.hid hl
  have HR := Lib.hid hr
  have HOK := Lib.hid hok
  have HU := Lib.hid hu
  have HBO := Lib.hid (fun x (hx : x ∈ beg l) => hok x (mem_beg.1 hx).1)
  have HBM := Lib.hid (fun x (hx : x ∈ beg l) => (mem_beg.1 hx).1)
  have HBL := Lib.hid (beg_len l)
  have hmf : ∀ fn first cap w, (Instr.makeFunc fn first cap).run Try.prog w = .ok (.func fn first cap) w := fun _ _ _ _ => rfl
  have HMF := Lib.hid hmf
  clear hr hok hl hu hmf
  obtain ⟨R, hRR⟩ : ∃ R, frees l (beg l, []) = R := ⟨_, rfl⟩
  rw [hRR]
  obtain ⟨T, hT⟩ : ∃ T, cnt l (m + 1) R.1 = T := ⟨_, rfl⟩
  rw [hT]
  have HT := Lib.hid hT
  have HRR := Lib.hid hRR
  clear hRR hT
  go_enter Try.func10, Try.ntmps10
  go_wp2_with (first
    | (go_at_call 14; refine HS.out.mono ?_; rintro x w2 ⟨ho2, hx⟩; rw [if_pos HU.out] at hx; obtain ⟨bb, rfl⟩ := hx; have HB2 := Lib.hid (HBE.out w2 ho2))
    | (go_at_call 17; refine HB2.out.mono ?_; rintro x w3 ⟨p, b1, b2, v, rfl, hfr, hmw, ho3⟩; have HM0 := Lib.hid hmw; have HF0 := Lib.hid hfr; have HO0 := Lib.hid (ho2.trans ho3 (by simp)); clear hmw hfr))
  obtain ⟨B, hB⟩ : ∃ B, w2.heap.size = B := ⟨_, rfl⟩
  rw [hB] at HM0 HF0
  have hwB : w.heap.size ≤ B := hB ▸ ho2.size
  have hB3 : B ≤ w3.heap.size := hB ▸ ho3.size
  have HWB := Lib.hid hwB
  clear hB ho2 ho3 HB2 HBE HS hwB
  have hbg := Blk.new w3 43 #[.pointer (some ⟨p, 0, none⟩)]
  have hgp : p < w3.heap.size := HM0.out.blk.lt
  have hg1 : b1 < w3.heap.size := by obtain ⟨_, _, hv⟩ := HM0.out.frm; exact hv.lt
  have hg2 : b2 < w3.heap.size := by obtain ⟨_, _, _, hv, _⟩ := HM0.out.asked; exact hv.lt
  have HM := Lib.hid (HM0.out.alloc (.cells #[.pointer (some ⟨p, 0, none⟩)] 43))
  have HO := Lib.hid (HO0.out.alloc (.cells #[.pointer (some ⟨p, 0, none⟩)] 43))
  have hsz4 : B ≤ (w3.alloc (.cells #[.pointer (some ⟨p, 0, none⟩)] 43)).heap.size := by rw [World.size_alloc]; omega
  clear HM0 HO0 hB3
  obtain ⟨g, hg⟩ : ∃ g, w3.heap.size = g := ⟨_, rfl⟩
  obtain ⟨w4, hw4⟩ : ∃ w4, w3.alloc (.cells #[.pointer (some ⟨p, 0, none⟩)] 43) = w4 := ⟨_, rfl⟩
  rw [hg] at hbg hgp hg1 hg2 ⊢
  rw [hw4] at hbg HM HO hsz4 ⊢
  have HBG := Lib.hid hbg
  clear hg hw4 hbg
  go_loopw [23] (fun i wr => ∃ (k : Nat) (v1 : Value) (S1 O1 : List Mv), k ≤ m ∧ i = .int .i64 k ∧ MW wr p b1 b2 v1 B 1000 S1 [] O1 ∧ Only [] w wr ∧ Fresh0 w.heap.size p b1 b2 v1 ∧ AllOk S1 ∧ (∀ x ∈ S1, x ∈ l) ∧ frees (l.drop k) (S1, O1) = R ∧ S1.length + O1.length ≤ m ∧ B ≤ wr.heap.size ∧ Blk wr g 43 #[.pointer (some ⟨p, 0, none⟩)]) (fun i _ => m - (intOf i).toNat)
  case atStart => exact ⟨0, v, beg l, [], by omega, rfl, HM.out.mono (by omega), HO.out, fun g hg => Nat.le_trans HWB.out (HF0.out g hg), HBO.out, HBM.out, HRR.out, by have := HBL.out; have := HL.out; simp; omega, hsz4, HBG.out⟩
  case round =>
    clear HM HO HF0 HBO HBM hsz4 HBG
    obtain ⟨k, v1, S1, O1, hk, rfl, h, ho, hfr0, hao, hsub, hfs, hsum, hBr, hbg⟩ := hrel
    have HO := Lib.hid ho
    by_cases hlt : k < m
    · have e1 : decide ((k : Int) < (m : Int)) = true := decide_eq_true (by omega)
      obtain ⟨b, off, hA, hb, x, hmem, hsk, c0, c1⟩ := mv_at HR.out k hlt
      subst hA
      have y0 := ho.cell c0 (by simp)
      have y1 := ho.cell c1 (by simp)
      obtain ⟨hxd, hxs⟩ := HOK.out x hmem
      rw [drop_cons hsk] at hfs
      have hal := h.alloc (.cells #[.int .i64 x.dst, .int .i64 x.src] 33)
      have hbga := hbg.alloc (.cells #[.int .i64 x.dst, .int .i64 x.src] 33)
      have z0 := hbga.cell 0
      have HBG := Lib.hid hbga
      have hoff : g ∉ mvBlocks p b1 b2 v1 := by
        intro hm
        simp only [mvBlocks, List.mem_cons] at hm
        rcases hm with e | e | e | e
        · omega
        · omega
        · omega
        · exact off_blk h.out hbg (by decide) e
      have HOFF := Lib.hid hoff
      have HF := Lib.hid (free_any p b1 b2 v1 B 1000 S1 O1 x.dst (wr.alloc (.cells #[.int .i64 x.dst, .int .i64 x.src] 33)) hal hao hxd (by omega) (by rw [World.size_alloc]; omega))
      have HFI := Lib.hid (free_inv (S1.length + 1) S1 O1 x.dst h.uniq)
      have HFS := Lib.hid hfs
      have HFR := Lib.hid hfr0
      have HAO := Lib.hid hao
      have HSB := Lib.hid hsub
      obtain ⟨xd, xs⟩ := x
      simp only at y0 y1 HF HFI z0 HBG
      clear c0 c1 hmem hsk ho h hao hfs hfr0 hbga hbg hal hsub hoff
      go_wp2_with (go_at_call 18; refine HF.out.mono ?_; rintro x w4 ⟨v4, rfl, hm4, ht4⟩)
      go_roundw
      case measure => simp [intOf]; omega
      case rel =>
        obtain ⟨hoo, hff⟩ := ht4.fresh0 (HO.out.alloc _) HFR.out
        obtain ⟨hi1, hi2⟩ := HFI.out
        have hlen := ht4.1.size
        rw [World.size_alloc] at hlen
        refine ⟨k + 1, v4, _, _, by omega, by go_num, hm4, hoo, hff, fun x hx => HAO.out x (hi1 x hx), fun x hx => HSB.out x (hi1 x hx), HFS.out, ?_, by omega, HBG.out.only ht4.1 HOFF.out⟩
        show (free (S1.length + 1) S1 O1 xd).1.length + (free (S1.length + 1) S1 O1 xd).2.length ≤ m
        omega
    · obtain rfl : k = m := by omega
      have e1 : decide ((k : Int) < (k : Int)) = false := decide_eq_false (by omega)
      rw [List.drop_eq_nil_of_le (by rw [HL.out]; exact Nat.le_refl _)] at hfs
      obtain rfl : (S1, O1) = R := hfs
      obtain ⟨n1, hn1, hvm1⟩ := h.frm
      have HV1 := Lib.hid hvm1
      have HBP := Lib.hid h.blk
      have HBG := Lib.hid hbg
      have HA1 := Lib.hid hao
      have HSB := Lib.hid hsub
      have HUQ := Lib.hid h.uniq
      have hp1 := (blk_step h).2.2.1
      have hfb := hfr0 b1 (by simp [mvBlocks])
      clear h hfr0 hao ho HRR hvm1 hbg hsub
      go_wp2_with fail
      go_loopg [8] (k + 1) (fun gk i wr => ∃ (N : Nat) (S1 : List Mv), i = .int .i64 N ∧ N + S1.length ≤ k ∧ S1.length < gk ∧ N + cnt l gk S1 = T ∧ VM Try.prog 3 wr b1 n1 (fromF S1) ∧ Only [] w wr ∧ AllOk S1 ∧ Uniq S1 ∧ (∀ x ∈ S1, x ∈ l) ∧ Blk wr p 47 #[.map (some b1), .map (some b2), v1] ∧ Blk wr g 43 #[.pointer (some ⟨p, 0, none⟩)])
      case atStart => exact ⟨0, S1, rfl, by omega, by omega, (Nat.zero_add _).trans HT.out, HV1.out, HO.out, HA1.out, HUQ.out, HSB.out, HBP.out, HBG.out⟩
      case round =>
        clear HV1 HBP HBG HA1 HSB HUQ HO hsum hBr hk HT
        obtain ⟨N, S2, rfl, hN, hgk, hcnt, hvm, ho, hao, huq, hsub, hbp, hbg⟩ := hrel
        have q0 := hbg.cell 0
        have q1 := hbp.cell 0
        have HV := Lib.hid hvm
        have HO := Lib.hid ho
        have HAO := Lib.hid hao
        have HUQ := Lib.hid huq
        have HSB := Lib.hid hsub
        have HBP := Lib.hid hbp
        have HBG := Lib.hid hbg
        have HCN := Lib.hid hcnt
        clear hvm ho hao huq hsub hcnt
        by_cases hS : S2 = []
        · subst hS
          have hT : N = T := by
            have := HCN.out
            cases gk with
            | zero => omega
            | succ gk =>
              rw [cnt] at this
              have hf : l.find? (fun x => (fro [] x.dst).isSome) = none := by rw [List.find?_eq_none]; intro x _; simp [fro]
              rw [hf] at this
              simpa using this
          subst hT
          go_wp2_with (at_len; refine wpList_lenV rfl (.tmp 35) 38 rfl 3 3 lawI Try.underlying38 rfl HV.out ?_; intro z hz1 hz2; have hz3 := hz2.2 (fromF_none.2 rfl); subst hz3)
          go_ret
          exact ⟨rfl, HO.out⟩
        · have hex : ∃ x ∈ l, (fro S2 x.dst).isSome = true := by
            cases S2 with
            | nil => exact absurd rfl hS
            | cons x S2 => exact ⟨x, HSB.out x List.mem_cons_self, by rw [fro_of_mem HUQ.out List.mem_cons_self]; rfl⟩
          have HI := Lib.hid (index_cycles A k c w.heap.size g l (fun x => (fro S2 x.dst).isSome) wr (HR.out.only HO.out (by simp)) (by omega) HO.out.size (fun x hx w' ho' => cycles1_any g p b1 n1 S2 x.dst x.src w' (ho'.cell q0 (by simp)) (ho'.cell q1 (by simp)) (HV.out.only ho' (by simp)) (HOK.out x hx).1))
          have HEX := Lib.hid hex
          have HNE := Lib.hid hS
          have hmf := HMF.out
          clear hex hS
          have hNi : N + 1 ≤ 100 := by
            have : 0 < S2.length := by have := HNE.out; exact List.length_pos_iff.2 this
            omega
          obtain ⟨g', rfl⟩ : ∃ g', gk = g' + 1 := ⟨gk - 1, by omega⟩
          go_wp2_with (first
            | (at_len; refine wpList_lenV rfl (.tmp 35) 38 rfl 3 3 lawI Try.underlying38 rfl HV.out ?_; intro z hz1 hz2; have hz3 : 0 < z := (by have := mt (fun h => fromF_none.1 (hz2.1 h)) HNE.out; omega))
            | (go_at_call 19; refine HI.out.mono ?_; rintro x wi ⟨zi, rfl, hidx, hoi⟩; obtain ⟨ki, xi, rfl, hki, hpi, hfi⟩ := idx_find hidx HEX.out; have hkl : ki < k := by { obtain ⟨h1, _⟩ := List.getElem?_eq_some_iff.1 hki; rw [HL.out] at h1; exact h1 }; obtain ⟨bi, offi, hAi, hbi, xj, hmemi, hskj, ci0, ci1⟩ := mv_at ((HR.out.only HO.out (by simp)).only hoi (by simp)) ki hkl; subst hAi; obtain rfl : xi = xj := by { rw [hki] at hskj; injection hskj }))
          obtain ⟨hi0, hi1⟩ := HOK.out xi hmemi
          have HIA := Lib.hid hi0
          have HFI := Lib.hid hfi
          have HPI := Lib.hid hpi
          obtain ⟨Rc, hRc⟩ : ∃ Rc, chase (S2.length + 1) S2 xi.dst = Rc := ⟨_, rfl⟩
          have HRC := Lib.hid hRc
          have hln : Rc.length < S2.length := by rw [← hRc]; exact chase_lt HUQ.out hpi
          have hci := chase_inv (S2.length + 1) S2 xi.dst
          rw [hRc] at hci
          have HCI := Lib.hid hci
          have HT2 : Hid (N + (1 + cnt l g' Rc) = T) := Lib.hid (by have := HCN.out; rw [cnt, hfi] at this; simp only at this; rw [hRc] at this; exact this)
          clear hidx hki hpi hfi hskj hmemi hi0 hi1 ci0 ci1 hRc hci
          have HV3 := Lib.hid (HV.out.only hoi (by simp))
          have HBP3 := Lib.hid (hbp.only hoi (by simp))
          have HBG3 := Lib.hid (hbg.only hoi (by simp))
          have HO3 := Lib.hid (HO.out.trans hoi (by simp))
          clear hbp hbg hoi
          go_loopg [9] (S2.length + 1) (fun hk i wz => ∃ (q : Int) (S3 : List Mv), i = .int .i64 q ∧ in64 q ∧ S3.length < hk ∧ chase hk S3 q = Rc ∧ VM Try.prog 3 wz b1 n1 (fromF S3) ∧ Only [] w wz ∧ AllOk S3 ∧ Uniq S3 ∧ Blk wz p 47 #[.map (some b1), .map (some b2), v1] ∧ Blk wz g 43 #[.pointer (some ⟨p, 0, none⟩)])
          case atStart => exact ⟨xi.dst, S2, rfl, HIA.out, by omega, HRC.out, HV3.out, HO3.out, HAO.out, HUQ.out, HBP3.out, HBG3.out⟩
          case round =>
            clear HV3 HBP3 HBG3 HO3 HRC HIA HV HBP HBG HO hz2 hz3 HEX HNE HFI HPI q0 q1
            obtain ⟨q, S3, rfl, hq, hlt3, hch, hvm, ho, hao, huq, hbp, hbg⟩ := hrel
            obtain ⟨g3, rfl⟩ : ∃ g3, gk = g3 + 1 := ⟨gk - 1, by omega⟩
            have q0 := hbg.cell 0
            have q1 := hbp.cell 0
            have hlk := VM.run_look hvm lawI Try.underlying38 (zeroI wr) (keyI hq)
            rw [fromF_ik] at hlk
            rw [chase] at hch
            have HV := Lib.hid hvm
            have HO := Lib.hid ho
            have HA3 := Lib.hid hao
            have HU3 := Lib.hid huq
            have HBP := Lib.hid hbp
            have HBG := Lib.hid hbg
            have HQ := Lib.hid hq
            have hgb : g ≠ b1 := by omega
            clear hvm ho hao huq hbp hbg hq
            cases hf : fro S3 q with
            | none =>
              rw [hf] at hlk hch
              simp only [Option.map_none, Option.getD_none, Option.isSome_none] at hlk hch
              subst hch
              clear hf
              go_wp2_with fail
              go_roundg g'
              case measure => omega
              case rel => exact ⟨N + 1, S3, by go_num, by omega, by omega, by have := HT2.out; omega, HV.out, HO.out, HA3.out, HU3.out, fun x hx => HSB.out x (HCI.out.1 x hx), HBP.out, HBG.out⟩
            | some s =>
              rw [hf] at hlk hch
              simp only [Option.map_some, Option.getD_some, Option.isSome_some] at hlk hch
              have hld := len_dropD HU3.out hf
              have HSI := Lib.hid (HA3.out.fro hf)
              have HCH := Lib.hid hch
              clear hf hch
              go_wp2_with (at_delete; refine wpList_drop rfl (.tmp 61) (.tmp 62) 38 3 rfl 3 lawI Try.underlying38 rfl HV.out rfl (keyI HQ.out) ?_; intro w7 hv7 ho7; go_frame)
              rw [fromF_drop] at hv7
              go_roundg g3
              case measure => omega
              case rel => exact ⟨s, dropD S3 q, rfl, HSI.out, by omega, HCH.out, hv7, HO.out.trans ho7 (fun g hg => .inr (by simp at hg; omega)), HA3.out.dropD q, HU3.out.dropD q, HBP.out.only ho7 (by simpa using hp1), HBG.out.only ho7 (by simpa using hgb)⟩
end Go.Proofs.Ythaifmfioabmkaa.Moves
