/- peep.without walks. -/
import Derived.Test.YtbeenfkmnchhbaaPeepWS
import Derived.Deep.RegionHeld3
import Derived.BigRegion
namespace Go.Proofs.Ytbeenfkmnchhbaa.Peep
open Go.RowKit Object
set_option linter.unusedVariables false
set_option maxRecDepth 100000
/-- the first q ones done -/
def mid {α : Type} (f : α → α) (l : List α) (q : Nat) : List α := (l.take q).map f ++ l.drop q
theorem mid_zero {α : Type} (f : α → α) (l : List α) : mid f l 0 = l := by simp [mid]
theorem mid_end {α : Type} (f : α → α) (l : List α) {q : Nat} (h : l.length ≤ q) : mid f l q = l.map f := by unfold mid; rw [List.take_of_length_le h, List.drop_eq_nil_of_le h, List.append_nil]
theorem mid_at {α : Type} (f : α → α) {l : List α} {q : Nat} {c : α} (h : l[q]? = some c) : (mid f l q)[q]? = some c := by
  obtain ⟨hq, _⟩ := List.getElem?_eq_some_iff.1 h
  unfold mid
  have hl : ((l.take q).map f).length = q := by rw [List.length_map, List.length_take]; omega
  rw [List.getElem?_append_right (by omega), hl, Nat.sub_self, List.getElem?_drop, Nat.add_zero]
  exact h
theorem mid_set {α : Type} (f : α → α) {l : List α} {q : Nat} {c : α} (h : l[q]? = some c) : (mid f l q).set q (f c) = mid f l (q + 1) := by
  obtain ⟨hq, rfl⟩ := List.getElem?_eq_some_iff.1 h
  unfold mid
  have hl : ((l.take q).map f).length = q := by rw [List.length_map, List.length_take]; omega
  rw [List.set_append_right _ _ (by omega), hl, Nat.sub_self, List.drop_eq_getElem_cons hq, List.set_cons_zero, List.take_succ_eq_append_getElem hq, List.map_append]
  simp
theorem fix_no {cs : List Cd} {c : Cd} (h : jmp c = false) : fix cs c = c := by unfold fix; rw [if_neg (by simp [h])]
theorem fix_yes {cs : List Cd} {c : Cd} (h : jmp c = true) : fix cs c = { c with n := (to cs c.n.toNat : Nat) } := by unfold fix; rw [if_pos h]
def toF (cs : List Cd) (k : Nat) : Nat → Nat := fun j => if j < k then to cs j else 0
theorem toF_step (cs : List Cd) (k j : Nat) : (if j = k then to cs k else toF cs k j) = toF cs (k + 1) j := by
  unfold toF
  by_cases h : j = k
  · subst h
    rw [if_pos rfl, if_pos (by omega)]
  · rw [if_neg h]
    by_cases h2 : j < k
    · rw [if_pos h2, if_pos (by omega)]
    · rw [if_neg h2, if_neg (by omega)]
set_option maxHeartbeats 12000000 in
theorem without_any (o : Ob) (d : OD) (w : World) (h : IsOb w o d) (hR : objRight d = true) :
    Calls Try.prog 103 #[o.val] w fun x w' => ∃ o' : Ob, x = .returned (.tuple #[o'.val, .bool (decide ((wo d).code.length < d.code.length))]) ∧ IsOb w' o' (wo d) ∧ Only [] w w' := by
  have HH := Lib.hid h
  have N1 := Lib.hid h.n1
  have N2 := Lib.hid h.n2
  have N3 := Lib.hid h.n3
  obtain ⟨hp2, hp3, hl1, hl2, hl3⟩ := right_pos hR
  rw [h.n1] at hl1 hp2 hp3
  rw [h.n2] at hl2
  rw [h.n3] at hl3
  have HIB := Lib.hid (right_inB hR)
  have HP2 := Lib.hid hp2
  have HP3 := Lib.hid hp3
  clear h hp2 hp3 hR
  obtain ⟨A1, m1, p1, A2, m2, p2, A3, m3, p3⟩ := o
  unfold Ob.val
  simp only at N1 N2 N3 HP2 HP3 hl1 hl2 hl3 ⊢
  obtain ⟨i0, hi0, hz0, hz1, hz2⟩ := info_parts int_info
  obtain ⟨W2, hW2⟩ : ∃ W2, (w.alloc (.cells #[.slice A1 m1 p1, .slice A2 m2 p2, .slice A3 m3 p3] 57)).alloc (.cells #[.slice none 0 0, .slice none 0 0, .slice none 0 0] 57) = W2 := ⟨_, rfl⟩
  have hsz2 : W2.heap.size = w.heap.size + 1 + 1 := by rw [← hW2, World.size_alloc, World.size_alloc]
  have hb0 : Blk W2 w.heap.size 57 #[.slice A1 m1 p1, .slice A2 m2 p2, .slice A3 m3 p3] := by rw [← hW2]; exact (Blk.new w _ _).alloc _
  have hbr : Blk W2 (w.heap.size + 1) 57 #[.slice none 0 0, .slice none 0 0, .slice none 0 0] := by
    have := Blk.new (w.alloc (.cells #[.slice A1 m1 p1, .slice A2 m2 p2, .slice A3 m3 p3] 57)) 57 #[.slice none 0 0, .slice none 0 0, .slice none 0 0]
    rw [World.size_alloc, hW2] at this
    exact this
  have ho2 : Only [] w W2 := by rw [← hW2]; exact ((Only.refl [] w).alloc _).alloc _
  have HB0 := Lib.hid hb0
  have HBR := Lib.hid hbr
  have HO2 := Lib.hid ho2
  have e00 := hb0.cell 0
  clear hb0 hbr ho2
  obtain ⟨wa, hwa⟩ : ∃ wa, wo d = wa := ⟨_, rfl⟩
  rw [hwa]
  have HWA := Lib.hid hwa
  clear hwa
  go_enter Try.func103, Try.ntmps103
  go_wp2_with (at_make; refine wpList_make_full W2 rfl _ _ 139 rfl 0 3 i0 _ 1 Try.underlying139 hi0 hz0 hz1 _ _ _ _ (m1 + 1) rfl rfl (by omega) (by omega) (by rw [hz2]; omega) (by unfold maxLen; omega) (by omega) ?_; intro w3 hmk hgk; rw [hsz2] at hmk; have HT := Lib.hid (Tos.made hmk); have ho3 : Only [] W2 w3 := Only.of_grown hgk; have HB3 := Lib.hid (HB0.out.only ho3 (by simp)); have HBR3 := Lib.hid (HBR.out.only ho3 (by simp)); have HO3 := Lib.hid (HO2.out.trans ho3 (by simp)); have hs3 := ho3.size; have hTlt := HT.out.lt; have e30 := HB3.out.cell 0; clear hmk hgk HB0 HBR HO2 e00 ho3 hW2)
  obtain ⟨T, hT⟩ : ∃ T, w.heap.size + 1 + 1 = T := ⟨_, rfl⟩
  rw [hT] at HT hsz2 hTlt ⊢
  rw [hsz2] at hs3
  clear hsz2
  obtain ⟨R, hR⟩ : ∃ R, w.heap.size + 1 = R := ⟨_, rfl⟩
  rw [hR] at HBR3 ⊢
  obtain ⟨O, hO⟩ : ∃ O, w.heap.size = O := ⟨_, rfl⟩
  rw [hO] at HB3 e30 ⊢
  have HTR := Lib.hid hT
  have HRR := Lib.hid hR
  have HOO := Lib.hid hO
  clear hT hR hO
  go_loopw [5, 21] (fun vv i wr => ∃ k : Nat, k ≤ m1 ∧ i = .int .i64 k ∧ OwnR 59 5 wr w3.heap.size vv (to d.code k) ((rk m1 0 (d.code.take k)).map Cd.row) ∧ Tos wr T (m1 + 1) (toF d.code k) ∧ Blk wr O 57 #[.slice A1 m1 p1, .slice A2 m2 p2, .slice A3 m3 p3] ∧ Blk wr R 57 #[.slice none 0 0, .slice none 0 0, .slice none 0 0] ∧ Only [] w wr ∧ Only [T] w3 wr) (fun _ i _ => m1 - (intOf i).toNat)
  case atStart => exact ⟨0, by omega, rfl, by rw [List.take_zero]; exact OwnR.nil_ _ _ _ _, HT.out.congr (fun j _ => by unfold toF; simp), HB3.out, HBR3.out, HO3.out, Only.refl _ _⟩
  case round =>
    clear HT HB3 HBR3 HO3 e30
    obtain ⟨k, hk, rfl, hown, htos, hb, hbr, ho, ho3⟩ := hrel
    have HOW := Lib.hid hown
    have HTO := Lib.hid htos
    have HB := Lib.hid hb
    have HBR := Lib.hid hbr
    have HO := Lib.hid ho
    have HO3 := Lib.hid ho3
    by_cases hlt : k < m1
    · have e1 : decide ((k : Int) < (m1 : Int)) = true := decide_eq_true (by omega)
      obtain ⟨b, off, hA, hbb, x, hmem, hsk, c0, c1, c2, c3, c4⟩ := cd_at HH.out.code k hlt
      simp only at hA
      subst hA
      have y0 := ho.cell c0 (by simp)
      have y1 := ho.cell c1 (by simp)
      have y2 := ho.cell c2 (by simp)
      have y3 := ho.cell c3 (by simp)
      have y4 := ho.cell c4 (by simp)
      have HTS := Lib.hid (to_succ hsk)
      have HRT := Lib.hid (rk_take hsk)
      rw [N1.out] at HTS HRT
      have hwss : (wr.setCell ⟨T, k, none⟩ (.int .i64 (to d.code k : Nat))).heap.size = wr.heap.size := by simp
      have t0 := htos.cell (j := k) (by omega)
      have t1 := htos.frozen k
      have hoT : Only [T] wr (wr.setCell ⟨T, k, none⟩ (.int .i64 (to d.code k : Nat))) := (Only.refl [T] wr).setCell (p := ⟨T, k, none⟩) (.inl (by simp)) _
      have hoa : Only [] (wr.setCell ⟨T, k, none⟩ (.int .i64 (to d.code k : Nat))) ((wr.setCell ⟨T, k, none⟩ (.int .i64 (to d.code k : Nat))).alloc (.cells #[.int .i64 x.op, .int .i64 x.a, .int .i64 x.b, .int .i64 x.c, .int .i64 x.n] 59)) := (Only.refl [] _).alloc _
      have hos : Only [T] wr ((wr.setCell ⟨T, k, none⟩ (.int .i64 (to d.code k : Nat))).alloc (.cells #[.int .i64 x.op, .int .i64 x.a, .int .i64 x.b, .int .i64 x.c, .int .i64 x.n] 59)) := hoT.alloc _
      have hts := (htos.set (j := k) (by omega) (to d.code k)).only hoa (by simp)
      have hTw := htos.lt
      have hTO : O ≠ T := by have := HTR.out; have := HOO.out; omega
      have hTR : R ≠ T := by have := HTR.out; have := HRR.out; omega
      have hxs := Blk.new (wr.setCell ⟨T, k, none⟩ (.int .i64 (to d.code k : Nat))) 59 #[.int .i64 x.op, .int .i64 x.a, .int .i64 x.b, .int .i64 x.c, .int .i64 x.n]
      rw [hwss] at hxs
      have hbs := hb.only hos (by simpa using hTO)
      have hbrs := hbr.only hos (by simpa using hTR)
      have hwo : Only [] w ((wr.setCell ⟨T, k, none⟩ (.int .i64 (to d.code k : Nat))).alloc (.cells #[.int .i64 x.op, .int .i64 x.a, .int .i64 x.b, .int .i64 x.c, .int .i64 x.n] 59)) := ho.trans hos (fun g hg => .inr (by have := HTR.out; simp at hg; omega))
      have hvs := hown.only hos (fun g hg hgT => by have := (hown.lt g hg).1; simp at hgT; omega)
      have g0 := hbs.cell 0
      have HID := Lib.hid (idle_any (some ⟨b, off, none⟩) m1 p1 w.heap.size k d.code x _ (HH.out.code.only hwo (by simp)) (by omega) hsk)
      have HVS := Lib.hid hvs
      have HXS := Lib.hid hxs
      have HBS := Lib.hid hbs
      have HBRS := Lib.hid hbrs
      have HTSS := Lib.hid hts
      have HWO := Lib.hid hwo
      have HO3S := Lib.hid (ho3.trans hos (fun g hg => .inl hg))
      obtain ⟨A', cap', hvv, _⟩ := hown.shape (by decide)
      subst hvv
      have hwrs : w3.heap.size ≤ wr.heap.size := ho3.size
      have hkeq : (k : Int) = (m1 : Int) - 1 ↔ k + 1 = m1 := by omega
      have hkc : keepC m1 k x = (!idleB x k || k + 1 == m1) := rfl
      obtain ⟨iv, hiv⟩ : ∃ q, idleB x k = q := ⟨_, rfl⟩
      rw [hiv] at HID hkc
      rw [hkc] at HTS HRT
      obtain ⟨op, xa, xb, xc, xn⟩ := x
      simp only at y0 y1 y2 y3 y4 t0 t1 g0 HID HTS HRT HVS HXS HBS HBRS HTSS HWO HO3S
      clear hsk hmem c0 c1 c2 c3 c4 hoa hoT hts hos hxs hbs hbrs hwo hvs hown htos hb hbr ho ho3 hkc hiv
      cases iv with
      | true =>
        by_cases hlast : k + 1 = m1
        · have e2 : ((k : Int) == (m1 : Int) - 1) = true := by simp; omega
          go_wp2_with (first
            | (go_at_call 138; refine HID.out.mono ?_; rintro x w6 ⟨rfl, ho6⟩; have u0 := (HBS.out.only ho6 (by simp)).cell 0; have HX6 := Lib.hid (HXS.out.only ho6 (by simp)); have v0 := HX6.out.cell 0; have v1 := HX6.out.cell 1; have v2 := HX6.out.cell 2; have v3 := HX6.out.cell 3; have v4 := HX6.out.cell 4)
            | (at_builtin; refine wpList_append1 rfl (.tmp 44) (.tmp 46) 53 rfl Try.underlying53 cd_info rfl (by decide) rfl (HVS.out.only ho6 (by simp)) rfl rfl (row := [.int .i64 op, .int .i64 xa, .int .i64 xb, .int .i64 xc, .int .i64 xn]) rfl rfl (by intro u hu; simp at hu; rcases hu with rfl | rfl | rfl | rfl | rfl <;> rfl) (by have := to_le d.code k; omega) (by have := to_le d.code k; unfold maxLen; omega) (by have := ho6.size; rw [World.size_alloc, hwss] at this; omega) ?_; intro v' w7 hE))
          have hown6 := HVS.out.only ho6 (by simp)
          have hlow : ∀ g ∈ ownL (.slice A' (to d.code k) cap'), w3.heap.size ≤ g := fun g hg => (hown6.lt g hg).1
          have ho67 : Only [] w w7 := (HWO.out.trans ho6 (by simp)).trans hE.only (fun g hg => .inr (by have := hlow g hg; have := HTR.out; omega))
          have hrw : to d.code (k + 1) = to d.code k + 1 := by rw [HTS.out]; simp [hlast]
          have hrr : rk m1 0 (d.code.take (k + 1)) = rk m1 0 (d.code.take k) ++ [⟨op, xa, xb, xc, xn⟩] := by rw [HRT.out]; simp [hlast]
          go_roundw
          case measure => simp [intOf]; omega
          case rel =>
            refine ⟨k + 1, by omega, by go_num, by rw [hrw, hrr, List.map_append]; exact hE.own, ?_, ?_, ?_, ho67, ?_⟩
            · exact ((HTSS.out.only ho6 (by simp)).only hE.only (fun hg => by have := hlow T hg; omega)).congr (fun j hj => toF_step d.code k j)
            · exact (HBS.out.only ho6 (by simp)).only hE.only (fun hg => by have := hlow O hg; have := HTR.out; have := HOO.out; omega)
            · exact (HBRS.out.only ho6 (by simp)).only hE.only (fun hg => by have := hlow R hg; have := HTR.out; have := HRR.out; omega)
            · exact (HO3S.out.trans ho6 (by simp)).trans hE.only (fun g hg => .inr (hlow g hg))
        · have e2 : ((k : Int) == (m1 : Int) - 1) = false := by simp; omega
          go_wp2_with (go_at_call 138; refine HID.out.mono ?_; rintro x w6 ⟨rfl, ho6⟩; have u0 := (HBS.out.only ho6 (by simp)).cell 0; have HX6 := Lib.hid (HXS.out.only ho6 (by simp)); have v0 := HX6.out.cell 0; have v1 := HX6.out.cell 1; have v2 := HX6.out.cell 2; have v3 := HX6.out.cell 3; have v4 := HX6.out.cell 4)
          have hrw : to d.code (k + 1) = to d.code k := by rw [HTS.out]; simp [hlast]
          have hrr : rk m1 0 (d.code.take (k + 1)) = rk m1 0 (d.code.take k) := by rw [HRT.out]; simp [hlast]
          go_roundw
          case measure => simp [intOf]; omega
          case rel => exact ⟨k + 1, by omega, by go_num, by rw [hrw, hrr]; exact HVS.out.only ho6 (by simp), (HTSS.out.only ho6 (by simp)).congr (fun j hj => toF_step d.code k j), HBS.out.only ho6 (by simp), HBRS.out.only ho6 (by simp), HWO.out.trans ho6 (by simp), HO3S.out.trans ho6 (by simp)⟩
      | false =>
        go_wp2_with (first
          | (go_at_call 138; refine HID.out.mono ?_; rintro x w6 ⟨rfl, ho6⟩; have u0 := (HBS.out.only ho6 (by simp)).cell 0; have HX6 := Lib.hid (HXS.out.only ho6 (by simp)); have v0 := HX6.out.cell 0; have v1 := HX6.out.cell 1; have v2 := HX6.out.cell 2; have v3 := HX6.out.cell 3; have v4 := HX6.out.cell 4)
          | (at_builtin; refine wpList_append1 rfl (.tmp 44) (.tmp 46) 53 rfl Try.underlying53 cd_info rfl (by decide) rfl (HVS.out.only ho6 (by simp)) rfl rfl (row := [.int .i64 op, .int .i64 xa, .int .i64 xb, .int .i64 xc, .int .i64 xn]) rfl rfl (by intro u hu; simp at hu; rcases hu with rfl | rfl | rfl | rfl | rfl <;> rfl) (by have := to_le d.code k; omega) (by have := to_le d.code k; unfold maxLen; omega) (by have := ho6.size; rw [World.size_alloc, hwss] at this; omega) ?_; intro v' w7 hE))
        have hown6 := HVS.out.only ho6 (by simp)
        have hlow : ∀ g ∈ ownL (.slice A' (to d.code k) cap'), w3.heap.size ≤ g := fun g hg => (hown6.lt g hg).1
        have ho67 : Only [] w w7 := (HWO.out.trans ho6 (by simp)).trans hE.only (fun g hg => .inr (by have := hlow g hg; have := HTR.out; omega))
        have hrw : to d.code (k + 1) = to d.code k + 1 := by rw [HTS.out]; simp 
        have hrr : rk m1 0 (d.code.take (k + 1)) = rk m1 0 (d.code.take k) ++ [⟨op, xa, xb, xc, xn⟩] := by rw [HRT.out]; simp 
        go_roundw
        case measure => simp [intOf]; omega
        case rel =>
          refine ⟨k + 1, by omega, by go_num, by rw [hrw, hrr, List.map_append]; exact hE.own, ?_, ?_, ?_, ho67, ?_⟩
          · exact ((HTSS.out.only ho6 (by simp)).only hE.only (fun hg => by have := hlow T hg; omega)).congr (fun j hj => toF_step d.code k j)
          · exact (HBS.out.only ho6 (by simp)).only hE.only (fun hg => by have := hlow O hg; have := HTR.out; have := HOO.out; omega)
          · exact (HBRS.out.only ho6 (by simp)).only hE.only (fun hg => by have := hlow R hg; have := HTR.out; have := HRR.out; omega)
          · exact (HO3S.out.trans ho6 (by simp)).trans hE.only (fun g hg => .inr (hlow g hg))
    · obtain rfl : k = m1 := by omega
      have e1 : decide ((k : Int) < (k : Int)) = false := decide_eq_false (by omega)
      have htk : d.code.take k = d.code := by rw [← N1.out, List.take_length]
      rw [htk] at hown
      have hto : to d.code k = (rk k 0 d.code).length := by unfold to; rw [N1.out, htk]
      obtain ⟨M, hM⟩ : ∃ M, to d.code k = M := ⟨_, rfl⟩
      have HMM := Lib.hid hM
      have HMR : Hid ((rk k 0 d.code).length = M) := Lib.hid (by rw [← hto, hM])
      obtain ⟨A', cap', hvv, _⟩ := hown.shape (by decide)
      subst hvv
      have b0 := hb.cell 0
      have t0 := htos.cell (j := k) (by omega)
      have t1 := htos.frozen k
      have hts := htos.set (j := k) (by omega) (to d.code k)
      have hoT : Only [T] wr (wr.setCell ⟨T, k, none⟩ (.int .i64 (to d.code k : Nat))) := (Only.refl [T] wr).setCell (p := ⟨T, k, none⟩) (.inl (by simp)) _
      have hTO : O ≠ T := by have := HTR.out; have := HOO.out; omega
      have hTR : R ≠ T := by have := HTR.out; have := HRR.out; omega
      have hbs := hb.only hoT (by simpa using hTO)
      have hbrs := hbr.only hoT (by simpa using hTR)
      have hwo : Only [] w (wr.setCell ⟨T, k, none⟩ (.int .i64 (to d.code k : Nat))) := ho.trans hoT (fun g hg => .inr (by have := HTR.out; simp at hg; omega))
      have hvs := hown.only hoT (fun g hg hgT => by have := (hown.lt g hg).1; simp at hgT; omega)
      rw [hM] at hts hbs hbrs hwo hvs ⊢
      obtain ⟨W5, hW5⟩ : ∃ W5, wr.setCell ⟨T, k, none⟩ (.int .i64 (M : Nat)) = W5 := ⟨_, rfl⟩
      rw [hW5] at hts hbs hbrs hwo hvs
      have g1 := hbs.drew.cell 1
      have g2 := hbs.drew.cell 2
      have q1 := (hbs.alloc (.cells #[.slice none 0 0, .slice none 0 0, .slice none 0 0] 57)).drew.cell 1
      have q2 := (hbs.alloc (.cells #[.slice none 0 0, .slice none 0 0, .slice none 0 0] 57)).drew.cell 2
      have HTS := Lib.hid hts
      have HBS := Lib.hid hbs
      have HBRS := Lib.hid hbrs
      have HWO := Lib.hid hwo
      have HVS := Lib.hid hvs
      have HCE := Lib.hid (show ∀ w2, Only [] W5 w2 → Calls Try.prog 139 #[.slice A2 m2 p2] w2 fun x w' => ∃ A c, x = .returned (.slice A m2 c) ∧ OwnR 73 2 w' W5.heap.size (.slice A m2 c) m2 (d.ents.map En.row) ∧ Only [] w2 w' ∧ Only [] W5 w' from fun w2 h2 =>
        (clone_en A2 m2 p2 w.heap.size d.ents w2 (HH.out.ents.only (hwo.trans h2 (by simp)) (by simp)) (by omega) (Nat.le_trans hwo.size h2.size)).mono (by rintro x w' ⟨v, rfl, h3, h4⟩; obtain ⟨A, c, rfl, _⟩ := h3.shape (by decide); exact ⟨A, c, rfl, h3.mono h2.size, h4, h2.trans h4 (by simp)⟩))
      have HCC := Lib.hid (show ∀ w2, Only [] W5 w2 → Calls Try.prog 140 #[.slice A3 m3 p3] w2 fun x w' => ∃ A c, x = .returned (.slice A m3 c) ∧ OwnR 75 2 w' W5.heap.size (.slice A m3 c) m3 (d.calls.map En.rowC) ∧ Only [] w2 w' ∧ Only [] W5 w' from fun w2 h2 =>
        (clone_cl A3 m3 p3 w.heap.size d.calls w2 (HH.out.calls.only (hwo.trans h2 (by simp)) (by simp)) (by omega) (Nat.le_trans hwo.size h2.size)).mono (by rintro x w' ⟨v, rfl, h3, h4⟩; obtain ⟨A, c, rfl, _⟩ := h3.shape (by decide); exact ⟨A, c, rfl, h3.mono h2.size, h4, h2.trans h4 (by simp)⟩))
      have HOD := Lib.hid ((Only.refl [] W5).drew)
      have HO53 : Hid (w3.heap.size ≤ W5.heap.size) := Lib.hid (by rw [← hW5]; simp; exact ho3.size)
      have HOA := Lib.hid (((Only.refl [] W5).alloc (.cells #[.slice none 0 0, .slice none 0 0, .slice none 0 0] 57)).drew)
      have hO5 : O < W5.heap.size := hbs.lt
      have hR5 : R < W5.heap.size := hbrs.lt
      have hne5 : O ≠ W5.heap.size := by omega
      have hne5' : W5.heap.size ≠ O := by omega
      clear hown htos hb hbr ho ho3 HOW HTO HB HBR HO HO3 hts hbs hbrs hwo hvs hoT hM htk hto
      go_wp2_with fail
      clear e1
      go_region_held3 (fun w' => w'.cell? ⟨O, 1, none⟩ = some (.slice A2 m2 p2) ∧ w'.cell? ⟨O, 2, none⟩ = some (.slice A3 m3 p3)) (first | exact ⟨g1, g2⟩ | exact ⟨q1, q2⟩ | exact ⟨s1, s2⟩ | exact ⟨r1, r2⟩ | go_keep)
        (first
          | (go_at_call 139; refine (HCE.out _ ?_).mono ?_; (first | exact HOD.out | exact HOA.out); rintro x w6 ⟨A6, c6, rfl, hown6, ho6, ho56⟩; have HO56 := Lib.hid ho56; have HV6 := Lib.hid hown6; have hbs6 := HBS.out.only ho56 (by simp); have hz6 := ho56.size; have hne6 : O ≠ w6.heap.size := (by omega); have hne6' : w6.heap.size ≠ O := (by omega); have s1 := hbs6.cell 1; have s2 := hbs6.cell 2; (try have hxb6 := (Blk.new W5 57 #[.slice none 0 0, .slice none 0 0, .slice none 0 0]).drew.only ho6 (by simp)); clear hbs6)
          | (go_at_call 140; refine (HCC.out _ ?_).mono ?_; (first | exact HO56.out | exact HO56.out.alloc _); rintro x w7 ⟨A7, c7, rfl, hown7, ho7, ho57⟩; have HO57 := Lib.hid ho57; have HV7 := Lib.hid hown7; have hbs7 := HBS.out.only ho57 (by simp); have hz7 := ho57.size; have hne7 : O ≠ w7.heap.size := (by omega); have hne7' : w7.heap.size ≠ O := (by omega); have r1 := hbs7.cell 1; have r2 := hbs7.cell 2; (try have hxb7 := hxb6.only ho7 (by simp)); (try have hxb7 := (Blk.new w6 57 #[.slice none 0 0, .slice none 0 0, .slice none 0 0]).only ho7 (by simp)); (try have x0 := hxb7.cell 0); (try have x1 := hxb7.cell 1); (try have x2 := hxb7.cell 2); (try have f0 := hxb7.frozen 0); (try have f1 := hxb7.frozen 1); (try have f2 := hxb7.frozen 2); clear hbs7))
      all_goals first
        | (have hoF : Only [w7.heap.size] w7 (w7.alloc (.cells #[.slice A' M cap', .slice A6 m2 c6, .slice A7 m3 c7] 57)) := (Only.refl [w7.heap.size] w7).alloc _
           have hXF : Blk (w7.alloc (.cells #[.slice A' M cap', .slice A6 m2 c6, .slice A7 m3 c7] 57)) w7.heap.size 57 #[.slice A' M cap', .slice A6 m2 c6, .slice A7 m3 c7] := Blk.new w7 _ _
           have hF6 : OwnR 73 2 (w7.alloc (.cells #[.slice A' M cap', .slice A6 m2 c6, .slice A7 m3 c7] 57)) W5.heap.size (.slice A6 m2 c6) m2 (d.ents.map En.row) := (HV6.out.only (S := []) ho7 (by simp)).only hoF (fun g hg hm => by have := (HV6.out.only (S := []) ho7 (by simp)).lt g hg; simp at hm; omega)
           have hF7 : OwnR 75 2 (w7.alloc (.cells #[.slice A' M cap', .slice A6 m2 c6, .slice A7 m3 c7] 57)) W5.heap.size (.slice A7 m3 c7) m3 (d.calls.map En.rowC) := HV7.out.only hoF (fun g hg hm => by have := HV7.out.lt g hg; simp at hm; omega)
           obtain ⟨wF, hwF⟩ : ∃ wF, w7.alloc (.cells #[.slice A' M cap', .slice A6 m2 c6, .slice A7 m3 c7] 57) = wF := ⟨_, rfl⟩
           rw [hwF] at hoF hXF hF6 hF7 ⊢
           obtain ⟨X, hX⟩ : ∃ X, w7.heap.size = X := ⟨_, rfl⟩
           have hX5 : W5.heap.size ≤ X := by rw [← hX]; exact ho57.size
           rw [hX] at hoF hXF ⊢
           have hO5F : Only [] W5 wF := HO57.out.trans hoF (fun g hg => .inr (by simp at hg; omega))
           have HF6 := Lib.hid hF6
           have HF7 := Lib.hid hF7
           have HXF := Lib.hid hXF
           have HO5F := Lib.hid hO5F
           clear hwF hX hoF hXF hF6 hF7 hO5F HV6 HV7 HO57)
        | (have hoF : Only [w6.heap.size] w7 (((w7.setCell ⟨w6.heap.size, 0, none⟩ (.slice A' M cap')).setCell ⟨w6.heap.size, 1, none⟩ (.slice A6 m2 c6)).setCell ⟨w6.heap.size, 2, none⟩ (.slice A7 m3 c7)) := (((Only.refl [w6.heap.size] w7).setCell (p := ⟨w6.heap.size, 0, none⟩) (.inl (by simp)) _).setCell (p := ⟨w6.heap.size, 1, none⟩) (.inl (by simp)) _).setCell (p := ⟨w6.heap.size, 2, none⟩) (.inl (by simp)) _
           have hXF : Blk (((w7.setCell ⟨w6.heap.size, 0, none⟩ (.slice A' M cap')).setCell ⟨w6.heap.size, 1, none⟩ (.slice A6 m2 c6)).setCell ⟨w6.heap.size, 2, none⟩ (.slice A7 m3 c7)) w6.heap.size 57 #[.slice A' M cap', .slice A6 m2 c6, .slice A7 m3 c7] := ((hxb7.set_ 0 _).set_ 1 _).set_ 2 _
           have hF6 : OwnR 73 2 (((w7.setCell ⟨w6.heap.size, 0, none⟩ (.slice A' M cap')).setCell ⟨w6.heap.size, 1, none⟩ (.slice A6 m2 c6)).setCell ⟨w6.heap.size, 2, none⟩ (.slice A7 m3 c7)) W5.heap.size (.slice A6 m2 c6) m2 (d.ents.map En.row) := (HV6.out.only (S := []) (((Only.refl [] w6).alloc _).trans ho7 (by simp)) (by simp)).only hoF (fun g hg hm => off_blk (HV6.out.only (S := []) (((Only.refl [] w6).alloc _).trans ho7 (by simp)) (by simp)) hxb7 (by decide) (List.mem_singleton.1 hm ▸ hg))
           have hF7 : OwnR 75 2 (((w7.setCell ⟨w6.heap.size, 0, none⟩ (.slice A' M cap')).setCell ⟨w6.heap.size, 1, none⟩ (.slice A6 m2 c6)).setCell ⟨w6.heap.size, 2, none⟩ (.slice A7 m3 c7)) W5.heap.size (.slice A7 m3 c7) m3 (d.calls.map En.rowC) := HV7.out.only hoF (fun g hg hm => off_blk HV7.out hxb7 (by decide) (List.mem_singleton.1 hm ▸ hg))
           obtain ⟨wF, hwF⟩ : ∃ wF, ((w7.setCell ⟨w6.heap.size, 0, none⟩ (.slice A' M cap')).setCell ⟨w6.heap.size, 1, none⟩ (.slice A6 m2 c6)).setCell ⟨w6.heap.size, 2, none⟩ (.slice A7 m3 c7) = wF := ⟨_, rfl⟩
           rw [hwF] at hoF hXF hF6 hF7 ⊢
           obtain ⟨X, hX⟩ : ∃ X, w6.heap.size = X := ⟨_, rfl⟩
           have hX5 : W5.heap.size ≤ X := by rw [← hX]; exact ho56.size
           rw [hX] at hoF hXF ⊢
           have hO5F : Only [] W5 wF := HO57.out.trans hoF (fun g hg => .inr (by simp at hg; omega))
           have HF6 := Lib.hid hF6
           have HF7 := Lib.hid hF7
           have HXF := Lib.hid hXF
           have HO5F := Lib.hid hO5F
           clear hwF hX hoF hXF hF6 hF7 hO5F HV6 HV7 HO57)
        | (have hoF : Only [W5.heap.size] w7 (((w7.setCell ⟨W5.heap.size, 0, none⟩ (.slice A' M cap')).setCell ⟨W5.heap.size, 1, none⟩ (.slice A6 m2 c6)).setCell ⟨W5.heap.size, 2, none⟩ (.slice A7 m3 c7)) := (((Only.refl [W5.heap.size] w7).setCell (p := ⟨W5.heap.size, 0, none⟩) (.inl (by simp)) _).setCell (p := ⟨W5.heap.size, 1, none⟩) (.inl (by simp)) _).setCell (p := ⟨W5.heap.size, 2, none⟩) (.inl (by simp)) _
           have hXF : Blk (((w7.setCell ⟨W5.heap.size, 0, none⟩ (.slice A' M cap')).setCell ⟨W5.heap.size, 1, none⟩ (.slice A6 m2 c6)).setCell ⟨W5.heap.size, 2, none⟩ (.slice A7 m3 c7)) W5.heap.size 57 #[.slice A' M cap', .slice A6 m2 c6, .slice A7 m3 c7] := ((hxb7.set_ 0 _).set_ 1 _).set_ 2 _
           have hF6 : OwnR 73 2 (((w7.setCell ⟨W5.heap.size, 0, none⟩ (.slice A' M cap')).setCell ⟨W5.heap.size, 1, none⟩ (.slice A6 m2 c6)).setCell ⟨W5.heap.size, 2, none⟩ (.slice A7 m3 c7)) W5.heap.size (.slice A6 m2 c6) m2 (d.ents.map En.row) := (HV6.out.only (S := []) ho7 (by simp)).only hoF (fun g hg hm => off_blk (HV6.out.only (S := []) ho7 (by simp)) hxb7 (by decide) (List.mem_singleton.1 hm ▸ hg))
           have hF7 : OwnR 75 2 (((w7.setCell ⟨W5.heap.size, 0, none⟩ (.slice A' M cap')).setCell ⟨W5.heap.size, 1, none⟩ (.slice A6 m2 c6)).setCell ⟨W5.heap.size, 2, none⟩ (.slice A7 m3 c7)) W5.heap.size (.slice A7 m3 c7) m3 (d.calls.map En.rowC) := HV7.out.only hoF (fun g hg hm => off_blk HV7.out hxb7 (by decide) (List.mem_singleton.1 hm ▸ hg))
           obtain ⟨wF, hwF⟩ : ∃ wF, ((w7.setCell ⟨W5.heap.size, 0, none⟩ (.slice A' M cap')).setCell ⟨W5.heap.size, 1, none⟩ (.slice A6 m2 c6)).setCell ⟨W5.heap.size, 2, none⟩ (.slice A7 m3 c7) = wF := ⟨_, rfl⟩
           rw [hwF] at hoF hXF hF6 hF7 ⊢
           obtain ⟨X, hX⟩ : ∃ X, W5.heap.size = X := ⟨_, rfl⟩
           have hX5 : W5.heap.size ≤ X := by rw [← hX]; exact Nat.le_refl _
           rw [hX] at hoF hXF ⊢
           have hO5F : Only [] W5 wF := HO57.out.trans hoF (fun g hg => .inr (by simp at hg; omega))
           have HF6 := Lib.hid hF6
           have HF7 := Lib.hid hF7
           have HXF := Lib.hid hXF
           have HO5F := Lib.hid hO5F
           clear hwF hX hoF hXF hF6 hF7 hO5F HV6 HV7 HO57)
      all_goals
        have HWF : Hid (WS wF w3.heap.size T X O R (k + 1) (fun j => to d.code j) #[.slice A' M cap', .slice A6 m2 c6, .slice A7 m3 c7] #[.slice A1 k p1, .slice A2 m2 p2, .slice A3 m3 p3] #[.slice none 0 0, .slice none 0 0, .slice none 0 0] (.slice A' M cap') (.slice A6 m2 c6) (.slice A7 m3 c7) M m2 m3 (rk k 0 d.code) d.ents d.calls) := Lib.hid ⟨HVS.out.only HO5F.out (by simp), HF6.out.mono (by have := HO53.out; exact this), HF7.out.mono (by have := HO53.out; exact this), (HTS.out.only HO5F.out (by simp)).congr (fun j hj => by
          by_cases e : j = k
          · subst e; rw [if_pos rfl]; exact HMM.out.symm
          · rw [if_neg e]; unfold toF; rw [if_pos (by omega)]), HXF.out, HBS.out.only HO5F.out (by simp), HBRS.out.only HO5F.out (by simp)⟩
        have HOF := Lib.hid (HWO.out.trans HO5F.out (by simp))
        have hbw : w.heap.size ≤ w3.heap.size := by have := HTR.out; omega
        have hMk : M ≤ k := by have := rk_len k d.code 0; rw [HMR.out, N1.out] at this; exact this
        have x0 := HXF.out.cell 0
        clear HF6 HF7 HTS HXF HBS HBRS HVS HO5F HWO HCE HCC HOD HOA HO53
        go_wp2_with fail
        go_loopw [67] (fun i wr => ∃ q : Nat, q ≤ M ∧ i = .int .i64 q ∧ Only [] w wr ∧ WS wr w3.heap.size T X O R (k + 1) (fun j => to d.code j) #[.slice A' M cap', .slice A6 m2 c6, .slice A7 m3 c7] #[.slice A1 k p1, .slice A2 m2 p2, .slice A3 m3 p3] #[.slice none 0 0, .slice none 0 0, .slice none 0 0] (.slice A' M cap') (.slice A6 m2 c6) (.slice A7 m3 c7) M m2 m3 (mid (fix d.code) (rk k 0 d.code) q) d.ents d.calls) (fun i _ => M - (intOf i).toNat)
        case atStart => exact ⟨0, by omega, rfl, HOF.out, by rw [mid_zero]; exact HWF.out⟩
        case round =>
          clear HOF HWF x0
          obtain ⟨q, hq, rfl, ho, hws⟩ := hrel
          have HO := Lib.hid ho
          have HWS := Lib.hid hws
          have x0 := hws.xb.cell 0
          by_cases hlt2 : q < M
          · have e1 : decide ((q : Int) < (M : Int)) = true := decide_eq_true (by omega)
            obtain ⟨g, rfl⟩ : ∃ g, A' = some ⟨g, 0, none⟩ := by
              obtain ⟨A2', cap2', hv, hle, _, _, hA⟩ := hws.code.shape (by decide)
              injection hv with hv1 _ hv2
              subst hv1 hv2
              rcases hA with ⟨_, rfl⟩ | ⟨g, rfl, _⟩
              · omega
              · exact ⟨g, rfl⟩
            obtain ⟨x, hx⟩ : ∃ x, (rk k 0 d.code)[q]? = some x := ⟨_, List.getElem?_eq_getElem (by rw [HMR.out]; exact hlt2)⟩
            have hmx := mid_at (fix d.code) hx
            have c0 : wr.cell? ⟨g, q * 5 + 0, none⟩ = some (.int .i64 x.op) := by rw [hws.code.cellAt hlt2 (by omega), getD_map hmx]; rfl
            have c1 : wr.cell? ⟨g, q * 5 + 1, none⟩ = some (.int .i64 x.a) := by rw [hws.code.cellAt hlt2 (by omega), getD_map hmx]; rfl
            have c2 : wr.cell? ⟨g, q * 5 + 2, none⟩ = some (.int .i64 x.b) := by rw [hws.code.cellAt hlt2 (by omega), getD_map hmx]; rfl
            have c3 : wr.cell? ⟨g, q * 5 + 3, none⟩ = some (.int .i64 x.c) := by rw [hws.code.cellAt hlt2 (by omega), getD_map hmx]; rfl
            have c4 : wr.cell? ⟨g, q * 5 + 4, none⟩ = some (.int .i64 x.n) := by rw [hws.code.cellAt hlt2 (by omega), getD_map hmx]; rfl
            rw [Nat.add_zero] at c0
            have HMX := Lib.hid hmx
            have HMS := Lib.hid (mid_set (fix d.code) hx)
            have HJ := Lib.hid (jumps_any x.op x.a x.b x.c x.n wr)
            have HXI := Lib.hid (fun hj => HIB.out x (rk_mem (mem_of_at hx)) hj)
            have HFN := Lib.hid (fun h => fix_no (cs := d.code) (c := x) h)
            have HFY := Lib.hid (fun h => fix_yes (cs := d.code) (c := x) h)
            obtain ⟨jv, hjv⟩ : ∃ j, jmp x = j := ⟨_, rfl⟩
            obtain ⟨op, xa, xb, xc, xn⟩ := x
            simp only at c0 c1 c2 c3 c4 HJ HXI HFN HFY
            rw [hjv] at HJ HXI HFN HFY
            clear hx hmx hjv hws ho
            cases jv with
            | false =>
              go_wp2_with (go_at_call 136; refine HJ.out.mono ?_; rintro x w2 ⟨rfl, ho2⟩)
              go_roundw
              case measure => simp [intOf]; omega
              case rel =>
                have hms := HMS.out
                rw [HFN.out (by simp)] at hms
                have hsame : (mid (fix d.code) (rk k 0 d.code) q).set q ⟨op, xa, xb, xc, xn⟩ = mid (fix d.code) (rk k 0 d.code) q := by
                  obtain ⟨hl, e⟩ := List.getElem?_eq_some_iff.1 HMX.out
                  rw [← e]
                  exact List.set_getElem_self hl
                rw [hsame] at hms
                exact ⟨q + 1, by omega, by go_num, HO.out.trans ho2 (by simp), by rw [← hms]; exact HWS.out.only0 ho2⟩
            | true =>
              obtain ⟨n0, n1⟩ := HXI.out (by simp)
              rw [N1.out] at n1
              obtain ⟨nn, rfl⟩ : ∃ nn : Nat, xn = (nn : Int) := ⟨xn.toNat, by omega⟩
              go_wp2_with (go_at_call 136; refine HJ.out.mono ?_; rintro x w2 ⟨rfl, ho2⟩; have HW2 := Lib.hid (HWS.out.only0 ho2); have d4 := ho2.cell c4 (by simp); have t4 := HW2.out.tos.cell (j := nn) (by omega); have f4 := HW2.out.code.frozenAt (q * 5 + 4))
              obtain ⟨hst, hsto⟩ := HW2.out.set_code (i := q) HMX.out (to d.code nn : Nat)
              go_roundw
              case measure => simp [intOf]; omega
              case rel =>
                have hms := HMS.out
                rw [HFY.out (by simp)] at hms
                simp only [Int.toNat_natCast] at hms
                have hgb := (HWS.out.code.lt g (by simp [ownL, Value.ownBlock])).1
                exact ⟨q + 1, by omega, by go_num, (HO.out.trans ho2 (by simp)).trans hsto (fun z hz => .inr (by simp at hz; omega)), by rw [← hms]; exact hst⟩
          · obtain rfl : q = M := by omega
            have e1 : decide ((q : Int) < (q : Int)) = false := decide_eq_false (by omega)
            have hend : mid (fix d.code) (rk k 0 d.code) q = wa.code := by
              rw [mid_end _ _ (by rw [HMR.out]; exact Nat.le_refl _), ← HWA.out]
              unfold wo
              rw [N1.out]
            have HW1 := Lib.hid (show WS wr w3.heap.size T X O R (k + 1) (fun j => to d.code j) #[.slice A' q cap', .slice A6 m2 c6, .slice A7 m3 c7] #[.slice A1 k p1, .slice A2 m2 p2, .slice A3 m3 p3] #[.slice none 0 0, .slice none 0 0, .slice none 0 0] (.slice A' q cap') (.slice A6 m2 c6) (.slice A7 m3 c7) q m2 m3 wa.code d.ents d.calls from by rw [← hend]; exact hws)
            have x1 := hws.xb.cell 1
            clear hws HWS ho hend
            go_wp2_with fail
            clear e1 x0 x1
            go_loopw [92] (fun i wr => ∃ u : Nat, u ≤ m2 ∧ i = .int .i64 u ∧ Only [] w wr ∧ WS wr w3.heap.size T X O R (k + 1) (fun j => to d.code j) #[.slice A' q cap', .slice A6 m2 c6, .slice A7 m3 c7] #[.slice A1 k p1, .slice A2 m2 p2, .slice A3 m3 p3] #[.slice none 0 0, .slice none 0 0, .slice none 0 0] (.slice A' q cap') (.slice A6 m2 c6) (.slice A7 m3 c7) q m2 m3 wa.code (mid (mv d.code) d.ents u) d.calls) (fun i _ => m2 - (intOf i).toNat)
            case atStart => exact ⟨0, by omega, rfl, HO.out, by rw [mid_zero]; exact HW1.out⟩
            case round =>
              clear HO HW1
              obtain ⟨u, hu, rfl, ho, hws⟩ := hrel
              have HO := Lib.hid ho
              have HWS := Lib.hid hws
              by_cases hlt3 : u < m2
              · have e1 : decide ((u : Int) < (m2 : Int)) = true := decide_eq_true (by omega)
                obtain ⟨g, rfl⟩ : ∃ g, A6 = some ⟨g, 0, none⟩ := by
                  obtain ⟨A2', cap2', hv, hle, _, _, hA⟩ := hws.ents.shape (by decide)
                  injection hv with hv1 _ hv2
                  subst hv1 hv2
                  rcases hA with ⟨_, rfl⟩ | ⟨g, rfl, _⟩
                  · omega
                  · exact ⟨g, rfl⟩
                obtain ⟨x, hx⟩ : ∃ x, d.ents[u]? = some x := ⟨_, List.getElem?_eq_getElem (by rw [N2.out]; exact hlt3)⟩
                have hmx := mid_at (mv d.code) hx
                obtain ⟨n0, n1⟩ := HP2.out x (List.mem_of_getElem? hx)
                have HMX := Lib.hid hmx
                have HMS := Lib.hid (mid_set (mv d.code) hx)
                obtain ⟨xn, xp⟩ := x
                obtain ⟨nn, rfl⟩ : ∃ nn : Nat, xp = (nn : Int) := ⟨xp.toNat, by simp only at n0; omega⟩
                simp only at n0 n1
                have c1 : wr.drew.cell? ⟨g, u * 2 + 1, none⟩ = some (.int .i64 (nn : Int)) := by rw [hws.drew.ents.cellAt hlt3 (by omega), getD_mapE hmx]; rfl
                have x1 := hws.drew.xb.cell 1
                have t4 := hws.drew.tos.cell (j := nn) (by omega)
                have f4 := hws.drew.ents.frozenAt (u * 2 + 1)
                obtain ⟨hst, hsto⟩ := hws.drew.set_ents (i := u) HMX.out (to d.code nn : Nat)
                have hms : (mid (mv d.code) d.ents u).set u { name := xn, pos := ((to d.code nn : Nat) : Int) } = mid (mv d.code) d.ents (u + 1) := HMS.out
                rw [hms] at hst
                have HST := Lib.hid hst
                have HSO := Lib.hid hsto
                have hgb := (hws.ents.lt g (by simp [ownL, Value.ownBlock])).1
                clear hx hmx hws ho hst hsto hms
                go_wp2_with fail
                go_region
                go_wp2_with fail
                go_roundw
                case measure => simp [intOf]; omega
                case rel => exact ⟨u + 1, by omega, by go_num, HO.out.drew.trans HSO.out (fun z hz => .inr (by simp at hz; show w.heap.size ≤ z; omega)), HST.out⟩
              · obtain rfl : u = m2 := by omega
                have e1 : decide ((u : Int) < (u : Int)) = false := decide_eq_false (by omega)
                have hend : mid (mv d.code) d.ents u = wa.ents := by
                  rw [mid_end _ _ (by rw [N2.out]; exact Nat.le_refl _), ← HWA.out]
                  rfl
                have HW1 := Lib.hid (show WS wr w3.heap.size T X O R (k + 1) (fun j => to d.code j) #[.slice A' q cap', .slice A6 u c6, .slice A7 m3 c7] #[.slice A1 k p1, .slice A2 u p2, .slice A3 m3 p3] #[.slice none 0 0, .slice none 0 0, .slice none 0 0] (.slice A' q cap') (.slice A6 u c6) (.slice A7 m3 c7) q u m3 wa.code wa.ents d.calls from by rw [← hend]; exact hws)
                have x1 := hws.xb.cell 1
                have x2 := hws.xb.cell 2
                clear hws HWS ho hend
                go_wp2_with fail
                clear e1 x1 x2
                go_loopw [113] (fun i wr => ∃ z : Nat, z ≤ m3 ∧ i = .int .i64 z ∧ Only [] w wr ∧ WS wr w3.heap.size T X O R (k + 1) (fun j => to d.code j) #[.slice A' q cap', .slice A6 u c6, .slice A7 m3 c7] #[.slice A1 k p1, .slice A2 u p2, .slice A3 m3 p3] #[.slice none 0 0, .slice none 0 0, .slice none 0 0] (.slice A' q cap') (.slice A6 u c6) (.slice A7 m3 c7) q u m3 wa.code wa.ents (mid (mv d.code) d.calls z)) (fun i _ => m3 - (intOf i).toNat)
                case atStart => exact ⟨0, by omega, rfl, HO.out, by rw [mid_zero]; exact HW1.out⟩
                case round =>
                  clear HO HW1
                  obtain ⟨z, hz, rfl, ho, hws⟩ := hrel
                  have HO := Lib.hid ho
                  have HWS := Lib.hid hws
                  by_cases hlt4 : z < m3
                  · have e1 : decide ((z : Int) < (m3 : Int)) = true := decide_eq_true (by omega)
                    obtain ⟨g, rfl⟩ : ∃ g, A7 = some ⟨g, 0, none⟩ := by
                      obtain ⟨A2', cap2', hv, hle, _, _, hA⟩ := hws.calls.shape (by decide)
                      injection hv with hv1 _ hv2
                      subst hv1 hv2
                      rcases hA with ⟨_, rfl⟩ | ⟨g, rfl, _⟩
                      · omega
                      · exact ⟨g, rfl⟩
                    obtain ⟨x, hx⟩ : ∃ x, d.calls[z]? = some x := ⟨_, List.getElem?_eq_getElem (by rw [N3.out]; exact hlt4)⟩
                    have hmx := mid_at (mv d.code) hx
                    obtain ⟨n0, n1⟩ := HP3.out x (List.mem_of_getElem? hx)
                    have HMX := Lib.hid hmx
                    have HMS := Lib.hid (mid_set (mv d.code) hx)
                    obtain ⟨xn, xp⟩ := x
                    obtain ⟨nn, rfl⟩ : ∃ nn : Nat, xp = (nn : Int) := ⟨xp.toNat, by simp only at n0; omega⟩
                    simp only at n0 n1
                    have c1 : wr.drew.cell? ⟨g, z * 2 + 0, none⟩ = some (.int .i64 (nn : Int)) := by rw [hws.drew.calls.cellAt hlt4 (by omega), getD_mapC hmx]; rfl
                    rw [Nat.add_zero] at c1
                    have x1 := hws.drew.xb.cell 2
                    have t4 := hws.drew.tos.cell (j := nn) (by omega)
                    have f4 := hws.drew.calls.frozenAt (z * 2)
                    obtain ⟨hst, hsto⟩ := hws.drew.set_calls (i := z) HMX.out (to d.code nn : Nat)
                    have hms : (mid (mv d.code) d.calls z).set z { name := xn, pos := ((to d.code nn : Nat) : Int) } = mid (mv d.code) d.calls (z + 1) := HMS.out
                    rw [hms, Nat.add_zero] at hst
                    rw [Nat.add_zero] at hsto
                    have HST := Lib.hid hst
                    have HSO := Lib.hid hsto
                    have hgb := (hws.calls.lt g (by simp [ownL, Value.ownBlock])).1
                    clear hx hmx hws ho hst hsto hms
                    go_wp2_with fail
                    go_region
                    go_wp2_with fail
                    go_roundw
                    case measure => simp [intOf]; omega
                    case rel => exact ⟨z + 1, by omega, by go_num, HO.out.drew.trans HSO.out (fun y hy => .inr (by simp at hy; show w.heap.size ≤ y; omega)), HST.out⟩
                  · obtain rfl : z = m3 := by omega
                    have e1 : decide ((z : Int) < (z : Int)) = false := decide_eq_false (by omega)
                    have hend : mid (mv d.code) d.calls z = wa.calls := by
                      rw [mid_end _ _ (by rw [N3.out]; exact Nat.le_refl _), ← HWA.out]
                      rfl
                    rw [hend] at hws
                    have hwd := hws.drew
                    have x0 := hwd.xb.cell 0
                    have x1 := hwd.xb.cell 1
                    have x2 := hwd.xb.cell 2
                    have o0 := hwd.ob.cell 0
                    have r0 := hwd.rb.cell 0
                    have r1 := hwd.rb.cell 1
                    have r2 := hwd.rb.cell 2
                    have f0 := hwd.rb.frozen 0
                    have f1 := hwd.rb.frozen 1
                    have f2 := hwd.rb.frozen 2
                    have HWD := Lib.hid hwd
                    have hRX : R ≠ X := by omega
                    have HWS' := Lib.hid hws
                    have hOR : O ≠ R := by have := HRR.out; have := HOO.out; omega
                    have hRO : R ≠ O := fun h => hOR h.symm
                    have o0' := hws.ob.cell 0
                    have r1' := hws.rb.cell 1
                    have r2' := hws.rb.cell 2
                    have f1' := hws.rb.frozen 1
                    have f2' := hws.rb.frozen 2
                    clear hws HWS ho hend hwd
                    go_wp2_with fail
                    go_region
                    go_wp2_with fail
                    have hoR : Only [R] wr ((((wr.setCell ⟨R, 0, none⟩ (.slice A' q cap')).setCell ⟨R, 1, none⟩ (.slice A6 u c6)).setCell ⟨R, 2, none⟩ (.slice A7 z c7)).drew) := ((((Only.refl [R] wr).setCell (p := ⟨R, 0, none⟩) (.inl (by simp)) _).setCell (p := ⟨R, 1, none⟩) (.inl (by simp)) _).setCell (p := ⟨R, 2, none⟩) (.inl (by simp)) _).drew
                    have hrF : Blk ((((wr.setCell ⟨R, 0, none⟩ (.slice A' q cap')).setCell ⟨R, 1, none⟩ (.slice A6 u c6)).setCell ⟨R, 2, none⟩ (.slice A7 z c7)).drew) R 57 #[.slice A' q cap', .slice A6 u c6, .slice A7 z c7] := (((HWS'.out.rb.set_ 0 _).set_ 1 _).set_ 2 _).drew
                    have hcF := HWS'.out.code.only hoR (fun g hg hm => off_blk HWS'.out.code HWS'.out.rb (by decide) (List.mem_singleton.1 hm ▸ hg))
                    have heF := HWS'.out.ents.only hoR (fun g hg hm => off_blk HWS'.out.ents HWS'.out.rb (by decide) (List.mem_singleton.1 hm ▸ hg))
                    have hlF := HWS'.out.calls.only hoR (fun g hg hm => off_blk HWS'.out.calls HWS'.out.rb (by decide) (List.mem_singleton.1 hm ▸ hg))
                    obtain ⟨Ac, cc, hc1, hc2, hc3, hc4, _⟩ := hcF.shape (by decide)
                    obtain ⟨Ae, ce, he1, he2, he3, he4, _⟩ := heF.shape (by decide)
                    obtain ⟨Al, cl, hl1', hl2', hl3', hl4, _⟩ := hlF.shape (by decide)
                    injection hc1 with hc5 _ hc6
                    injection he1 with he5 _ he6
                    injection hl1' with hl5 _ hl6
                    subst hc5 hc6 he5 he6 hl5 hl6
                    have hq : wa.code.length = q := by have := hcF.len; simpa using this
                    have hRw : w.heap.size ≤ R := by have := HRR.out; omega
                    have HOF2 := Lib.hid (HO.out.trans hoR (fun y hy => .inr (by simp at hy; omega)))
                    have HIS : Hid (IsOb ((((wr.setCell ⟨R, 0, none⟩ (.slice A' q cap')).setCell ⟨R, 1, none⟩ (.slice A6 u c6)).setCell ⟨R, 2, none⟩ (.slice A7 z c7)).drew) ⟨A', q, cap', A6, u, c6, A7, z, c7⟩ wa) := Lib.hid ⟨hc4, he4, hl4, ⟨hc2, hc3⟩, ⟨he2, he3⟩, ⟨hl2', hl3'⟩⟩
                    have hdec : decide (wa.code.length < d.code.length) = decide (q < k) := by rw [hq, N1.out]
                    obtain ⟨wz, hwz⟩ : ∃ wz, ((((wr.setCell ⟨R, 0, none⟩ (.slice A' q cap')).setCell ⟨R, 1, none⟩ (.slice A6 u c6)).setCell ⟨R, 2, none⟩ (.slice A7 z c7)).drew) = wz := ⟨_, rfl⟩
                    rw [hwz] at hrF HOF2 HIS ⊢
                    have z0 := hrF.cell 0
                    have z1 := hrF.cell 1
                    have z2 := hrF.cell 2
                    clear hwz hoR hcF heF hlF hc4 he4 hl4 x0 x1 x2 o0 r0 r1 r2 f0 f1 f2 r1' r2' f1' f2' o0' HWS' HWD
                    exact bodyPost_ret (v := .tuple #[.agg #[.slice A' q cap', .slice A6 u c6, .slice A7 z c7], .bool (decide (q < k))]) (by simp [results, Try.results103, go_sem, z0, z1, z2]) rfl ⟨⟨A', q, cap', A6, u, c6, A7, z, c7⟩, by rw [hdec], HIS.out, HOF2.out⟩
end Go.Proofs.Ytbeenfkmnchhbaa.Peep
