/- object.calls: are the calls just those of the code? -/
import Derived.Test.YtbeenfkmnchhbaaObjFunc
namespace Go.Proofs.Ytbeenfkmnchhbaa.Object
open Go.RowKit
set_option linter.unusedVariables false
set_option maxRecDepth 100000
def callsOk : Int → List Cd → List En → Bool
  | _, [], ls => ls.isEmpty
  | i, c :: cs, ls => if c.op = 18 then (match ls with | [] => false | l :: r => (l.pos == i) && (namedB l.name && ((c.n == 0) && callsOk (i + 1) cs r))) else callsOk (i + 1) cs ls
theorem callsOk_step {cs : List Cd} {k : Nat} {c : Cd} (h : cs[k]? = some c) (i : Int) (ls : List En) : callsOk i (cs.drop k) ls = if c.op = 18 then (match ls with | [] => false | l :: r => (l.pos == i) && (namedB l.name && ((c.n == 0) && callsOk (i + 1) (cs.drop (k + 1)) r))) else callsOk (i + 1) (cs.drop (k + 1)) ls := by
  obtain ⟨hk, rfl⟩ := List.getElem?_eq_some_iff.1 h
  rw [List.drop_eq_getElem_cons hk]
  rfl
theorem Recs.tail {w : World} {B size n b off : Nat} {rows : List (List Value)} {r : List Value} (h : Recs w B size (some ⟨b, off, none⟩) (n + 1) (r :: rows)) : Recs w B size (some ⟨b, off + size, none⟩) n rows := by
  obtain ⟨hl, hc⟩ := h
  refine ⟨by simpa using hl, fun hn => ?_⟩
  obtain ⟨b', off', e, hb, hc⟩ := hc (by omega)
  injection e with e
  injection e with e1 e2
  subst e1; subst e2
  refine ⟨b, off + size, rfl, hb, fun i hi j hj => ?_⟩
  have := hc (i + 1) (by omega) j hj
  rw [show off + (i + 1) * size + j = off + size + i * size + j by rw [Nat.add_mul]; omega] at this
  simpa using this
theorem Recs.none0 {w : World} {B size : Nat} (A : Option Addr) : Recs w B size A 0 [] := ⟨rfl, fun h => absurd h (by omega)⟩
def calls0 (cs : List Cd) (ls : List En) : Bool := callsOk 0 cs ls
set_option maxHeartbeats 2000000 in
theorem calls_any (A1 A2 A3 : Option Addr) (m1 m2 m3 p1 p2 p3 : Nat) (cs : List Cd) (ls : List En) (w : World) (hr : Recs w w.heap.size 5 A1 m1 (cs.map Cd.row)) (hr3 : Recs w w.heap.size 2 A3 m3 (ls.map En.rowC)) (hm : m1 ≤ 9000000000000000000) (hp3 : m3 ≤ p3) (hq3 : p3 ≤ maxLen) :
    Calls Try.prog 94 #[.agg #[.slice A1 m1 p1, .slice A2 m2 p2, .slice A3 m3 p3]] w fun x w' => x = .returned (.bool (calls0 cs ls)) ∧ Only [] w w' := by
  have hl : cs.length = m1 := by have := hr.1; simpa using this
  have HR := Lib.hid hr
  have HR3 := Lib.hid hr3
  have HL := Lib.hid hl
  have HN := Lib.hid named_is
  obtain ⟨bb, hbb⟩ : ∃ b, calls0 cs ls = b := ⟨_, rfl⟩
  rw [hbb]
  have hbb' : callsOk (0 : Nat) (cs.drop 0) ls = bb := hbb
  have HBB := Lib.hid hbb'
  clear hr hr3 hl hbb hbb'
  have HO0 := Lib.hid ((Only.refl [] w).alloc (.cells #[.slice A1 m1 p1, .slice A2 m2 p2, .slice A3 m3 p3] 57))
  go_enter Try.func94, Try.ntmps94
  go_wp2_with fail
  go_loopw [3, 11] (fun v i wr => ∃ (k n c : Nat) (A : Option Addr) (xs : List En), k ≤ m1 ∧ i = .int .i64 k ∧ v = .slice A n c ∧ n ≤ c ∧ c ≤ maxLen ∧ Recs w w.heap.size 2 A n (xs.map En.rowC) ∧ Only [] w wr ∧ callsOk (k : Nat) (cs.drop k) xs = bb) (fun _ i _ => m1 - (intOf i).toNat)
  case atStart => exact ⟨0, m3, p3, A3, ls, by omega, rfl, rfl, hp3, hq3, HR3.out, HO0.out, HBB.out⟩
  case round =>
    clear hp3 hq3
    obtain ⟨k, n, c, A, xs, hk, rfl, rfl, hnc, hcm, hrx, ho, hok⟩ := hrel
    unfold maxLen at hcm
    have HO := Lib.hid ho
    have HRX := Lib.hid hrx
    have hxl : xs.length = n := by have := hrx.1; simpa using this
    have HXL := Lib.hid hxl
    clear ho hrx hxl
    by_cases hlt : k < m1
    · have e1 : decide ((k : Int) < (m1 : Int)) = true := decide_eq_true (by omega)
      obtain ⟨b, off, rfl, hb, cd, hmem, hck, c0, c1, c2, c3, c4⟩ := cd_at HR.out k hlt
      have x0 := HO.out.cell c0 (by simp)
      have x1 := HO.out.cell c1 (by simp)
      have x2 := HO.out.cell c2 (by simp)
      have x3 := HO.out.cell c3 (by simp)
      have x4 := HO.out.cell c4 (by simp)
      rw [callsOk_step hck] at hok
      clear c0 c1 c2 c3 c4 hmem hck
      obtain ⟨op, ca, cb, cc, cn⟩ := cd
      simp only at x0 x1 x2 x3 x4 hok
      by_cases h18 : op = 18
      · subst h18
        rw [if_pos rfl] at hok
        cases xs with
        | nil =>
          obtain rfl : n = 0 := by rw [← HXL.out]; rfl
          obtain rfl : bb = false := hok.symm
          have e2 : (((0 : Nat) : Int) == 0) = true := rfl
          go_wp2_with fail
          go_ret
          exact ⟨rfl, HO.out.alloc _⟩
        | cons l r =>
          obtain ⟨n', rfl⟩ : ∃ n', n = n' + 1 := ⟨r.length, by rw [← HXL.out]; rfl⟩
          obtain ⟨b3, off3, rfl, hb3, l', _, hl', y0, y1⟩ := cl_at HRX.out 0 (by omega)
          obtain rfl : l = l' := by simpa using hl'
          have z0 := HO.out.cell y0 (by simp)
          have z1 := HO.out.cell y1 (by simp)
          have hbw : b3 < wr.heap.size := Nat.lt_of_lt_of_le hb3 HO.out.size
          rw [Nat.zero_mul, Nat.add_zero] at z0 z1
          clear y0 y1 hl'
          have e2 : ((n' : Int) + 1 == 0) = false := beq_false_of_ne (by omega)
          simp only at hok
          have HOK := Lib.hid hok
          have HTL := Lib.hid (Recs.tail (rows := r.map En.rowC) (r := l.rowC) HRX.out)
          have HOA := Lib.hid (HO.out.alloc (.cells #[.int .i64 18, .int .i64 ca, .int .i64 cb, .int .i64 cc, .int .i64 cn] 59))
          clear hok
          obtain ⟨nm, pos⟩ := l
          simp only at z0 z1 HOK
          have hne : (k : Int) + 1 = ((k + 1 : Nat) : Int) := by omega
          by_cases hp : pos = (k : Int)
          · subst hp
            have e3 : ((k : Int) != (k : Int)) = false := by simp
            rw [show ((k : Int) == (k : Int)) = true by simp, Bool.true_and] at HOK
            cases hnm : namedB nm
            · rw [hnm, Bool.false_and] at HOK
              go_wp2_with (go_at_call 90; refine (HN.out _ _).mono ?_; rintro x w2 ⟨rfl, rfl⟩)
              go_ret
              exact ⟨by rw [← HOK.out]; rfl, HOA.out⟩
            · rw [hnm, Bool.true_and] at HOK
              by_cases hcn : cn = 0
              · subst hcn
                have e4 : ((0 : Int) != 0) = false := rfl
                rw [show ((0 : Int) == 0) = true from rfl, Bool.true_and, hne] at HOK
                clear hne
                by_cases hc1 : c = 1
                · subst hc1
                  obtain rfl : n' = 0 := by omega
                  obtain rfl : r = [] := by have := HXL.out; simp at this; exact this
                  go_wp2_with (go_at_call 90; refine (HN.out _ _).mono ?_; rintro x w2 ⟨rfl, rfl⟩)
                  go_roundw
                  case rel => exact ⟨k + 1, 0, 0, _, [], by omega, by go_num, rfl, by omega, by unfold maxLen; omega, Recs.none0 _, HOA.out, HOK.out⟩
                  case measure => simp [intOf]; omega
                · have hc2 : 1 < c := by omega
                  go_wp2_with (go_at_call 90; refine (HN.out _ _).mono ?_; rintro x w2 ⟨rfl, rfl⟩)
                  go_roundw
                  case rel => exact ⟨k + 1, n', c - 1, _, r, by omega, by go_num, rfl, by omega, by unfold maxLen; omega, HTL.out, HOA.out, HOK.out⟩
                  case measure => simp [intOf]; omega
              · have e4 : (cn != 0) = true := by simp [hcn]
                rw [show (cn == 0) = false by simp [hcn], Bool.false_and] at HOK
                go_wp2_with (go_at_call 90; refine (HN.out _ _).mono ?_; rintro x w2 ⟨rfl, rfl⟩)
                go_ret
                exact ⟨by rw [← HOK.out]; rfl, HOA.out⟩
          · have e3 : (pos != (k : Int)) = true := by simp [hp]
            rw [show (pos == (k : Int)) = false by simp [hp], Bool.false_and] at HOK
            have HOK2 := Lib.hid HOK.out
            clear HOK
            go_wp2_with (go_at_call 90; refine (HN.out _ _).mono ?_; rintro x w2 ⟨rfl, rfl⟩)
            go_ret
            exact ⟨by rw [← HOK2.out]; rfl, HOA.out⟩
      · rw [if_neg h18] at hok
        have e2 : (op != 18) = true := by simp [h18]
        rw [show (k : Int) + 1 = ((k + 1 : Nat) : Int) by omega] at hok
        have HOK := Lib.hid hok
        have HOA := Lib.hid (HO.out.alloc (.cells #[.int .i64 op, .int .i64 ca, .int .i64 cb, .int .i64 cc, .int .i64 cn] 59))
        clear hok h18
        go_wp2_with fail
        go_roundw
        case rel => exact ⟨k + 1, n, c, A, xs, by omega, by go_num, rfl, hnc, by unfold maxLen; omega, HRX.out, HOA.out, HOK.out⟩
        case measure => simp [intOf]; omega
    · obtain rfl : k = m1 := by omega
      have e1 : decide ((k : Int) < (k : Int)) = false := decide_eq_false (by omega)
      rw [List.drop_eq_nil_of_le (by rw [HL.out]; exact Nat.le_refl _)] at hok
      have hz : ((n : Int) == 0) = bb := by
        rw [← hok, Bool.eq_iff_iff]
        show _ ↔ xs.isEmpty = true
        rw [List.isEmpty_iff, ← List.length_eq_zero_iff, HXL.out]
        simp
      have HZ := Lib.hid hz
      clear hok hz
      go_wp2_with fail
      go_ret
      exact ⟨by rw [← HZ.out]; rfl, HO.out⟩
end Go.Proofs.Ytbeenfkmnchhbaa.Object
