/- What code may be: vm.Right, whole. -/
import Derived.Test.YtbeenfkmnchhbaaObjData
import Derived.Laws.IdiomStrings
namespace Go.Proofs.Ytbeenfkmnchhbaa.Object
open Go.RowKit
set_option linter.unusedVariables false
set_option maxRecDepth 100000
theorem alloc_size (w : World) (o : Obj) : (w.alloc o).heap.size = w.heap.size + 1 := Array.size_push _
theorem data_len (s : ByteArray) : s.data.toList.length = s.size := Array.length_toList
theorem bytes_of (w : World) (s : ByteArray) (hs : s.size ≤ maxLen) : ∃ cap w', (convert 9 24 (.string s)).run Try.prog w = .ok (.slice (some ⟨w.heap.size, 0, none⟩) s.size cap) w' ∧
    Bytes w' w'.heap.size (some ⟨w.heap.size, 0, none⟩) s.size s.data.toList ∧ Only [] w w' ∧ s.size ≤ cap ∧ cap ≤ maxLen ∧ w'.heap.size = w.heap.size + 1 := by
  have hr := run_bytes_of_string (P := Try.prog) w 9 24 5 s Try.underlying9 Try.underlying24 Try.underlying5
  have hC : (bytesRow s (grownCap w s.size 0 5)).toList = (s.data.toList ++ List.replicate (grownCap w s.size 0 5 - s.size) 0).map B8 := by
    simp [bytesRow, B8]
  have hb := (Bytes.const w.drew _ _ 5 ((bytesRow s (grownCap w s.size 0 5)).size, (bytesRow s (grownCap w s.size 0 5)).size + 1) hC).head (k := s.size) (by simp)
  refine ⟨_, _, hr, ?_, ((Only.refl [] w).drew).alloc _, grownCap_ge _ _ _ _, grownCap_le_maxLen _ _ _ _ hs, alloc_size _ _⟩
  rw [List.take_left' (data_len s)] at hb
  rw [alloc_size]
  exact hb
def codeOk (m : Int) (c : Cd) : Bool := wordOk c.op && (partsOf c.op).all fun p => partOk c m (p.toNat : Int)
def opLast (cs : List Cd) : Int := (cs.getLast?.getD cd0).op
def vmRight (cs : List Cd) : Bool := decide (1 ≤ cs.length) && decide (cs.length ≤ 65536) && cs.all (codeOk (cs.length : Int)) && decide (opLast cs ∈ [(16 : Int), 19, 21])
theorem ite_len {c : Prop} [Decidable c] {a b : List UInt8} (ha : a.length ≤ 3) (hb : b.length ≤ 3) : (if c then a else b).length ≤ 3 := by by_cases h : c <;> simp [h, ha, hb]
theorem parts_len (op : Int) : (partsOf op).length ≤ 3 := by
  unfold partsOf
  repeat' (refine ite_len (by decide) ?_)
  decide
theorem last_at (cs : List Cd) (m : Nat) (c : Cd) (hl : cs.length = m) (h : cs[m - 1]? = some c) : opLast cs = c.op := by
  unfold opLast
  rw [List.getLast?_eq_getElem?, hl, h]
  rfl
/-- one instruction's parts, in the round of vm.Right -/
def Rest (w : World) (x : Ending) (w' : World) (b : Bool) : Prop := x = .returned (.bool b) ∧ Only [] w w'
set_option maxHeartbeats 2000000 in
theorem vmright_any (A : Option Addr) (m cp : Nat) (cs : List Cd) (w : World) (hr : Recs w w.heap.size 5 A m (cs.map Cd.row)) (hm : m ≤ 9000000000000000000) :
    Calls Try.prog 88 #[.slice A m cp] w fun x w' => x = .returned (.bool (vmRight cs)) ∧ Only [] w w' := by
  have hl : cs.length = m := by have := hr.1; simpa using this
  obtain ⟨bb, hbb⟩ : ∃ b, vmRight cs = b := ⟨_, rfl⟩
  rw [hbb]
  have hbb' : (decide (1 ≤ m) && decide (m ≤ 65536) && cs.all (codeOk (m : Int)) && decide (opLast cs ∈ [(16 : Int), 19, 21])) = bb := by rw [← hbb]; unfold vmRight; rw [hl]
  have HB := Lib.hid hbb'
  have HL := Lib.hid hl
  have HR := Lib.hid hr
  clear hbb hbb' hl hr
  by_cases hsm : 1 ≤ m ∧ m ≤ 65536
  · obtain ⟨h1, h2⟩ := hsm
    have d1 : decide ((m : Int) < 1) = false := decide_eq_false (by omega)
    have d2 : decide ((65536 : Int) < (m : Int)) = false := decide_eq_false (by omega)
    go_enter Try.func88, Try.ntmps88
    go_wp2_with fail
    go_loopw [18] (fun i wr => ∃ k : Nat, k ≤ m ∧ i = .int .i64 k ∧ Only [] w wr ∧ (cs.take k).all (codeOk (m : Int)) = true) (fun i _ => m - (intOf i).toNat)
    case atStart => exact ⟨0, by omega, rfl, Only.refl _ _, by simp⟩
    case round =>
      obtain ⟨k, hk, rfl, ho, hall⟩ := hrel
      have HALL := Lib.hid hall
      have HO := Lib.hid ho
      clear hall ho
      by_cases hlt : k < m
      · have e1 : decide ((k : Int) < (m : Int)) = true := decide_eq_true (by omega)
        obtain ⟨b, off, rfl, hb, c, hmem, hck, c0, c1, c2, c3, c4⟩ := cd_at HR.out k hlt
        have x0 := HO.out.cell c0 (by simp)
        have x1 := HO.out.cell c1 (by simp)
        have x2 := HO.out.cell c2 (by simp)
        have x3 := HO.out.cell c3 (by simp)
        have x4 := HO.out.cell c4 (by simp)
        have hsn := all_snoc (codeOk (m : Int)) cs k c hck
        have hno := all_no (codeOk (m : Int)) cs c hmem
        have HSN := Lib.hid hsn
        have HNO := Lib.hid hno
        have hcd : codeOk (m : Int) c = (wordOk c.op && (partsOf c.op).all fun p => partOk c (m : Int) (p.toNat : Int)) := rfl
        have HCD := Lib.hid hcd
        have hpl := parts_len c.op
        clear c0 c1 c2 c3 c4 hsn hno hcd hmem hck
        have hPART := fun p w => part_is c p (m : Int) w
        have hPS := fun w => parts_is c.op w
        have hWD := fun w => word_is c.op w
        unfold Cd.val at hPART
        generalize codeOk (m : Int) c = ok at *
        generalize partOk c (m : Int) = pok at *
        obtain ⟨op, ca, cb, cc, cn⟩ := c
        simp only at x0 x1 x2 x3 x4 hPART hPS hWD hpl HCD
        generalize partsOf op = pl at *
        have hbox := Blk.new wr 59 #[.int .i64 op, .int .i64 ca, .int .i64 cb, .int .i64 cc, .int .i64 cn]
        have HBOX := Lib.hid hbox
        have HP := Lib.hid hPART
        have HPS := Lib.hid hPS
        have HWD := Lib.hid hWD
        clear hbox hPART hPS hWD
        have hoa : Only [] wr (wr.alloc (.cells #[.int .i64 op, .int .i64 ca, .int .i64 cb, .int .i64 cc, .int .i64 cn] 59)) := (Only.refl _ _).alloc _
        have HOA := Lib.hid (HO.out.trans hoa (by simp))
        clear hoa
        go_wp2_with fail
        refine (HWD.out _).mono ?_
        rintro x w2 ⟨s, rfl, hws, ho2⟩
        have hb2 := HBOX.out.only ho2 (by simp)
        have y0 : w2.cell? ⟨wr.heap.size, 0, none⟩ = some (.int .i64 op) := hb2.cell 0
        have HO2 := Lib.hid (HOA.out.trans ho2 (by simp))
        have HB2 := Lib.hid hb2
        clear hb2 ho2 x0 x1 x2 x3 x4
        cases hw : wordOk op
        · have e2 : (s.toList == []) = true := by unfold WordIs at hws; rw [hws, hw]; rfl
          have hok : ok = false := by rw [HCD.out, hw]; rfl
          have HF := Lib.hid (HNO.out hok)
          clear hok hws hw
          go_wp2_with fail
          go_ret
          exact ⟨by rw [← HB.out, HF.out]; simp, HO2.out⟩
        · have e2 : (s.toList == []) = false := by unfold WordIs at hws; rw [hws, hw]; rfl
          rw [hw, Bool.true_and] at HCD
          clear hws hw
          go_wp2_with fail
          refine (HPS.out _).mono ?_
          rintro x w3 ⟨rfl, rfl⟩
          obtain ⟨cap, w4, hcv, hB4, ho4, hcc, hcm, hsz4⟩ := bytes_of w2 (str pl) (by rw [str_size]; unfold maxLen; omega)
          rw [str_size, str_data] at hB4
          rw [str_size] at hcv hcc
          generalize hpn : pl.length = pn at *
          have HPN := Lib.hid hpn
          have hb4 := HB2.out.only ho4 (by simp)
          have HO4 := Lib.hid (HO2.out.trans ho4 (by simp))
          have HBY := Lib.hid hB4
          have HB4 := Lib.hid hb4
          clear hpn hB4 ho4 hb4 hsz4 y0
          go_wp2_with fail
          generalize wr = wo at *
          go_loopw [31] (fun i wx => ∃ j : Nat, j ≤ pn ∧ i = .int .i64 j ∧ Only [] w4 wx ∧ ((pl.take j).all fun p => pok (p.toNat : Int)) = true) (fun i _ => pn - (intOf i).toNat)
          case atStart => exact ⟨0, by omega, rfl, Only.refl _ _, by simp⟩
          case round =>
            obtain ⟨j, hj, rfl, hox, hpa⟩ := hrel
            have HOX := Lib.hid (HO4.out.trans hox (by simp))
            have hbx := HB4.out.only hox (by simp)
            have z0 : wr.cell? ⟨wo.heap.size, 0, none⟩ = some (.int .i64 op) := hbx.cell 0
            have z1 : wr.cell? ⟨wo.heap.size, 1, none⟩ = some (.int .i64 ca) := hbx.cell 1
            have z2 : wr.cell? ⟨wo.heap.size, 2, none⟩ = some (.int .i64 cb) := hbx.cell 2
            have z3 : wr.cell? ⟨wo.heap.size, 3, none⟩ = some (.int .i64 cc) := hbx.cell 3
            have z4 : wr.cell? ⟨wo.heap.size, 4, none⟩ = some (.int .i64 cn) := hbx.cell 4
            have hBx := HBY.out.only hox (by simp)
            clear hbx
            have HPA := Lib.hid hpa
            have HX := Lib.hid hox
            clear hpa hox
            by_cases hlj : j < pn
            · have e3 : decide ((j : Int) < (pn : Int)) = true := decide_eq_true (by omega)
              obtain ⟨pb, po, hpp, _, hcp⟩ := hBx.at_ (k := j) hlj
              injection hpp with hpp
              injection hpp with h1 h2 _
              subst h1
              subst h2
              rw [Nat.zero_add] at hcp
              have hg : pl[j]? = some (pl.getD j 0) := by rw [List.getD_eq_getElem?_getD, List.getElem?_eq_getElem (by rw [HPN.out]; exact hlj)]; rfl
              have hpm : pl.getD j 0 ∈ pl := List.mem_of_getElem? hg
              have hst := all_snoc (fun p : UInt8 => pok (p.toNat : Int)) pl j _ hg
              have hno2 := all_no (fun p : UInt8 => pok (p.toNat : Int)) pl _ hpm
              have HST := Lib.hid hst
              have HN2 := Lib.hid hno2
              have hz := UInt8.toNat_lt (pl.getD j 0)
              clear hst hno2 hpm hg hBx
              generalize ((pl.getD j 0).toNat : Int) = z at *
              have hpz := HP.out z wr
              cases hq : pok z
              · rw [hq] at hpz
                have HF := Lib.hid (HNO.out (by rw [HCD.out]; exact HN2.out hq))
                have HPZ := Lib.hid hpz
                clear hq hpz
                go_wp2_with (go_at_call 131; refine HPZ.out.mono ?_; rintro x w6 ⟨rfl, ho6⟩)
                go_ret
                exact ⟨by rw [← HB.out, HF.out]; simp, HOX.out.trans ho6 (by simp)⟩
              · rw [hq] at hpz
                have HF := Lib.hid (HST.out.trans (by rw [HPA.out, hq, Bool.and_self]))
                have HPZ := Lib.hid hpz
                clear hq hpz
                go_wp2_with (go_at_call 131; refine HPZ.out.mono ?_; rintro x w6 ⟨rfl, ho6⟩)
                go_roundw
                case rel => exact ⟨j + 1, by omega, by go_num, HX.out.trans ho6 (by simp), HF.out⟩
                case measure => simp [intOf]; omega
            · obtain rfl : j = pn := by omega
              have e3 : decide ((j : Int) < (j : Int)) = false := decide_eq_false (by omega)
              rw [take_all _ _ HPN.out] at HPA
              have hok : ok = true := by rw [HCD.out]; exact HPA.out
              have HK := Lib.hid (HSN.out.trans (by rw [HALL.out, hok, Bool.and_self]))
              clear hok
              go_wp2_with fail
              go_roundw
              case rel => exact ⟨k + 1, by omega, by go_num, HOX.out, HK.out⟩
              case measure => simp [intOf]; omega
      · obtain rfl : k = m := by omega
        have e1 : decide ((k : Int) < (k : Int)) = false := decide_eq_false (by omega)
        rw [take_all _ _ HL.out] at HALL
        have hk1 : k - 1 < k := by omega
        obtain ⟨b, off, rfl, hb, c, hmem, hck, c0, _⟩ := cd_at HR.out (k - 1) hk1
        have x0 := HO.out.cell c0 (by simp)
        have hlast := last_at cs k c HL.out hck
        have hko : (k : Int) - 1 = ((k - 1 : Nat) : Int) := by omega
        have hlo : decide (opLast cs ∈ [(16 : Int), 19, 21]) = bb := by
          rw [← HB.out, HALL.out, decide_eq_true h1, decide_eq_true h2]
          rfl
        rw [hlast] at hlo
        have HLO := Lib.hid hlo
        clear hlast hlo hck hmem c0 HALL
        have hk64 : IntKind.i64.wrap ((k : Int) - 1) = ((k - 1 : Nat) : Int) := by rw [hko]; exact IntWalk.i64_in _ (by omega)
        generalize c.op = op at *
        have hbw : b < wr.heap.size := by have := HO.out.size; omega
        have x0' := ((Only.refl [] wr).alloc (.cells #[.int .i64 16, .int .i64 19, .int .i64 21] 3)).cell x0 (by simp)
        have hC := contains_int _ 3 3 _ [16, 19, 21] op _ (Reads.const wr ([16, 19, 21].map (Value.int .i64)) #[.int .i64 16, .int .i64 19, .int .i64 21] 3 (0, 0) rfl) (by omega)
        rw [HLO.out] at hC
        have HC := Lib.hid hC
        have HOA := Lib.hid (HO.out.alloc (.cells #[.int .i64 16, .int .i64 19, .int .i64 21] 3))
        clear hko hC x0
        go_wp2_with (go_at_call 132; refine HC.out.mono ?_; rintro x w2 ⟨rfl, rfl⟩)
        go_ret
        exact ⟨rfl, HOA.out⟩
  · have hF : bb = false := by
      rw [← HB.out]
      have : (decide (1 ≤ m) && decide (m ≤ 65536)) = false := by rw [Bool.and_eq_false_iff, decide_eq_false_iff_not, decide_eq_false_iff_not]; omega
      rw [this]
      rfl
    subst hF
    by_cases h1 : 1 ≤ m
    · have d1 : decide ((m : Int) < 1) = false := decide_eq_false (by omega)
      have d2 : decide ((65536 : Int) < (m : Int)) = true := decide_eq_true (by omega)
      go_enter Try.func88, Try.ntmps88
      go_wp2_with fail
      go_ret
      exact ⟨rfl, Only.refl _ _⟩
    · obtain rfl : m = 0 := by omega
      go_enter Try.func88, Try.ntmps88
      go_wp2_with fail
      go_ret
      exact ⟨rfl, Only.refl _ _⟩
end Go.Proofs.Ytbeenfkmnchhbaa.Object
