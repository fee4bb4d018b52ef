/- The document's none, countExpr, countBody, Count. PRINTED by wip/gen_trref.py. -/
import Derived.Test.YtmjkohlhbboapaaTrCount
import Derived.Lib.Strings
namespace Go.Proofs.Ytmjkohlhbboapaa.Tree
open Go.RowKit Go.Shelf
set_option linter.unusedVariables false
set_option maxRecDepth 100000
section
variable {w w' : World} {B d d2 most : Nat}
set_option maxHeartbeats 4000000 in
theorem rnone_any (x : XT) (w : World) : Calls Try.prog 42 #[x.val] w fun e w' => e = .returned (.bool (noneX x)) ∧ Only [] w w' := by
  obtain ⟨w1, hw1⟩ : ∃ w1, w.alloc (.cells #[.int .i64 x.op, .int .i64 x.n, .string x.s, .string x.q, .slice x.A x.X.length x.c] 28) = w1 := ⟨_, rfl⟩
  have b1 : Blk w1 w.heap.size 28 #[.int .i64 x.op, .int .i64 x.n, .string x.s, .string x.q, .slice x.A x.X.length x.c] := by rw [← hw1]; exact Blk.new w _ _
  have o1 : Only [] w w1 := by rw [← hw1]; exact (Only.refl [] w).alloc _
  have p0 := b1.cell 0
  have p1 := b1.cell 1
  have p2 := b1.cell 2
  have p3 := b1.cell 3
  have p4 := b1.cell 4
  have HO := Lib.hid o1
  have HS : Hid (noneX x = ((x.op == 0) && ((x.n == 0) && ((x.s.toList == (⟨#[]⟩ : ByteArray).toList) && ((x.q.toList == (⟨#[]⟩ : ByteArray).toList) && x.X.isEmpty))))) := Lib.hid rfl
  obtain ⟨f1, hf1⟩ : ∃ f, (x.op == 0) = f := ⟨_, rfl⟩
  obtain ⟨f2, hf2⟩ : ∃ f, (x.n == 0) = f := ⟨_, rfl⟩
  obtain ⟨f3, hf3⟩ : ∃ f, (x.s.toList == (⟨#[]⟩ : ByteArray).toList) = f := ⟨_, rfl⟩
  obtain ⟨f4, hf4⟩ : ∃ f, (x.q.toList == (⟨#[]⟩ : ByteArray).toList) = f := ⟨_, rfl⟩
  obtain ⟨f5, hf5⟩ : ∃ f, x.X.isEmpty = f := ⟨_, rfl⟩
  have hf6 : ((x.X.length : Int) == 0) = f5 := by
    rw [← hf5]
    cases x.X with
    | nil => rfl
    | cons a t => simp only [List.length_cons, List.isEmpty_cons, beq_eq_false_iff_ne]; omega
  have hf7 : (x.X.length == 0) = f5 := by rw [← hf5]; cases x.X <;> rfl
  rw [hf1, hf2, hf3, hf4, hf5] at HS
  obtain ⟨r, hr⟩ : ∃ r, noneX x = r := ⟨_, rfl⟩
  rw [hr] at HS ⊢
  unfold XT.val
  have e0 : (⟨#[]⟩ : ByteArray).toList = [] := by rw [Lib.toList_data]
  have H3 : Hid ((f3 = false → ¬ x.s.toList = []) ∧ (f3 = true → x.s.toList = [])) := Lib.hid ⟨fun h h2 => by rw [h, e0, h2] at hf3; simp at hf3, fun h => by rw [h, e0] at hf3; exact eq_of_beq hf3⟩
  have H4 : Hid ((f4 = false → ¬ x.q.toList = []) ∧ (f4 = true → x.q.toList = [])) := Lib.hid ⟨fun h h2 => by rw [h, e0, h2] at hf4; simp at hf4, fun h => by rw [h, e0] at hf4; exact eq_of_beq hf4⟩
  clear b1 o1 hr hf5 e0 hf3 hf4
  go_enter Try.func42, Try.ntmps42
  cases f1
  · go_wp2_with fail
    go_ret
    exact ⟨by rw [HS.out]; rfl, HO.out⟩
  · cases f2
    · go_wp2_with fail
      go_ret
      exact ⟨by rw [HS.out]; rfl, HO.out⟩
    · cases f3
      · have h3 := H3.out.1 rfl
        go_wp2_with fail
        go_ret
        exact ⟨by rw [HS.out]; rfl, HO.out⟩
      · have h3 := H3.out.2 rfl
        cases f4
        · have h4 := H4.out.1 rfl
          go_wp2_with fail
          go_ret
          exact ⟨by rw [HS.out]; rfl, HO.out⟩
        · have h4 := H4.out.2 rfl
          cases f5
          · go_wp2_with fail
            go_ret
            exact ⟨by rw [HS.out]; rfl, HO.out⟩
          · go_wp2_with fail
            go_ret
            exact ⟨by rw [HS.out]; rfl, HO.out⟩
theorem val_nat {a b : Nat} (h : a = b) : Value.int .i64 (a : Int) = .int .i64 (b : Int) := by rw [h]
set_option maxHeartbeats 8000000 in
theorem rcountExpr_any : ∀ (d : Nat) (x : XT) (n B : Nat) (w : World), XT.In w B d x → B ≤ w.heap.size → n ≤ most + 1 → most ≤ 1000000 →
    Calls Try.prog 43 #[x.val, .int .i64 (n : Int), .int .i64 (most : Int)] w fun y w' => y = .returned (.int .i64 ((min (n + cntX d x) (most + 1) : Nat) : Int)) ∧ Only [] w w' := by
  intro d
  induction d with
  | zero => intro x n B w hx; exact hx.elim
  | succ d ih =>
    intro x n B w hx hB hn hm
    have hxl := hx.2.1
    obtain ⟨xo, xn, xs, xq, xA, xc, xX⟩ := x
    obtain ⟨hx1, _, hx2⟩ := hx
    simp only [XT.A, XT.X, XT.val, XT.op, XT.n, XT.s, XT.q, XT.c] at hxl hx1 hx2 ⊢
    unfold maxLen at hxl
    obtain ⟨w1, hw1⟩ : ∃ w1, w.alloc (.cells #[.int .i64 xo, .int .i64 xn, .string xs, .string xq, .slice xA xX.length xc] 28) = w1 := ⟨_, rfl⟩
    have b1 : Blk w1 w.heap.size 28 #[.int .i64 xo, .int .i64 xn, .string xs, .string xq, .slice xA xX.length xc] := by rw [← hw1]; exact Blk.new w _ _
    have o1 : Only [] w w1 := by rw [← hw1]; exact (Only.refl [] w).alloc _
    have p0 := b1.cell 0
    have p1 := b1.cell 1
    have p2 := b1.cell 2
    have p3 := b1.cell 3
    have p4 := b1.cell 4
    have HX := Lib.hid (And.intro hx1 hx2)
    have HB1 := Lib.hid b1
    have HO1 := Lib.hid o1
    have HIH := Lib.hid ih
    have HCX : Hid (cntX (d + 1) (.mk xo xn xs xq xA xc xX) = 1 + (xX.map (cntX d)).sum) := Lib.hid rfl
    obtain ⟨C, hC⟩ : ∃ C, cntX (d + 1) (.mk xo xn xs xq xA xc xX) = C := ⟨_, rfl⟩
    rw [hC] at HCX ⊢
    clear hx1 hx2 b1 o1 ih hC
    go_enter Try.func43, Try.ntmps43
    by_cases hle : n ≤ most
    · have d0 : decide ((most : Int) < (n : Int)) = false := decide_eq_false (by omega)
      have d0' : decide (most < n) = false := decide_eq_false (by omega)
      go_wp2_with fail
      go_loopw [1, 7] (fun nv iv wr => ∃ k : Nat, nv = .int .i64 ((min (n + 1 + ((xX.take k).map (cntX d)).sum) (most + 1) : Nat) : Int) ∧ iv = .int .i64 k ∧ k ≤ xX.length ∧ Only [] w1 wr) (fun _ iv _ => xX.length - (intOf iv).toNat)
      case atStart => exact ⟨0, by rw [show (n : Int) + 1 = ((n + 1 : Nat) : Int) from rfl]; exact val_nat (by simp; omega), rfl, by omega, Only.refl _ _⟩
      case round =>
        obtain ⟨k, rfl, rfl, hk, ho⟩ := hrel
        have r4 := (HB1.out.only ho (by simp)).cell 4
        have r0 := (HB1.out.only ho (by simp)).cell 0
        by_cases hlt : k < xX.length
        · have d1 : decide ((k : Int) < (xX.length : Int)) = true := decide_eq_true (by omega)
          have hoo := HO1.out.trans ho (by simp)
          obtain ⟨b, off, y, rfl, _, hy, hyk, q0, q1, q2, q3, q4⟩ := x_at (HX.out.1.only hoo (by simp)) hlt
          obtain ⟨m, hm2⟩ : ∃ m, min (n + 1 + ((xX.take k).map (cntX d)).sum) (most + 1) = m := ⟨_, rfl⟩
          have HI := HIH.out y m B wr ((HX.out.2 y hy).only hoo (Nat.le_refl _)) (Nat.le_trans hB hoo.size) (by omega) hm
          have hnx := sum_take (f := cntX d) hyk
          have HNX : Hid (min (n + 1 + ((xX.take (k + 1)).map (cntX d)).sum) (most + 1) = min (m + cntX d y) (most + 1)) := Lib.hid (by rw [hnx]; omega)
          obtain ⟨m3, hm3⟩ : ∃ q, min (m + cntX d y) (most + 1) = q := ⟨_, rfl⟩
          rw [hm3] at HI HNX
          rw [hm2]
          unfold XT.val at HI
          have HI2 := Lib.hid HI
          have HO3 := Lib.hid ho
          clear HI hm2 hm3 hnx ho hoo hy hyk
          go_wp2_with (go_at_call 43; refine HI2.out.mono ?_; rintro y5 w5 ⟨rfl, ho5⟩; have HO5 := Lib.hid (HO3.out.trans ho5 (by simp)); clear ho5)
          go_roundw
          case measure => simp [intOf]; omega
          case rel => exact ⟨k + 1, by rw [HNX.out], by go_num, by omega, HO5.out⟩
        · obtain rfl : k = xX.length := by omega
          have d1 : decide ((xX.length : Int) < (xX.length : Int)) = false := decide_eq_false (by omega)
          have HF := Lib.hid (HO1.out.trans ho (by simp))
          have HN : Hid (min (n + 1 + ((xX.take xX.length).map (cntX d)).sum) (most + 1) = min (n + C) (most + 1)) := Lib.hid (by rw [List.take_length, HCX.out]; omega)
          rw [HN.out]
          clear ho
          go_wp2_with fail
          go_ret
          exact ⟨rfl, HF.out⟩
    · have d0 : decide ((most : Int) < (n : Int)) = true := decide_eq_true (by omega)
      have d0' : decide (most < n) = true := decide_eq_true (by omega)
      have HN : Hid (min (n + C) (most + 1) = n) := Lib.hid (by omega)
      go_wp2_with fail
      go_ret
      exact ⟨by rw [HN.out]; rfl, HO1.out⟩
set_option maxHeartbeats 16000000 in
theorem rcountBody_any : ∀ (d : Nat) (l : List ST) (A : Option Addr) (len cap n B : Nat) (w : World), Recs w B 9 A len (l.map ST.row) → len ≤ maxLen → (∀ y ∈ l, ST.In w B d y) → B ≤ w.heap.size → n ≤ most + 1 → most ≤ 1000000 →
    Calls Try.prog 23 #[.slice A len cap, .int .i64 (n : Int), .int .i64 (most : Int)] w fun y w' => y = .returned (.int .i64 ((min (n + (l.map (cntS d)).sum) (most + 1) : Nat) : Int)) ∧ Only [] w w' := by
  intro d
  induction d using Nat.strongRecOn with
  | ind d ih =>
    intro l A len cap n B w hr hlm hin hB hn hm
    have hl : l.length = len := by have := hr.1; rwa [List.length_map] at this
    unfold maxLen at hlm
    have HR := Lib.hid hr
    have HIN := Lib.hid hin
    have HL := Lib.hid hl
    have HIH := Lib.hid ih
    clear hr hin hl ih
    obtain ⟨C, hC⟩ : ∃ C, (l.map (cntS d)).sum = C := ⟨_, rfl⟩
    rw [hC]
    have HC := Lib.hid hC
    clear hC
    go_enter Try.func23, Try.ntmps23
    go_wp2_with fail
    go_loopw [1, 7] (fun nv iv wr => ∃ k m : Nat, nv = .int .i64 (m : Int) ∧ m = min (n + ((l.take k).map (cntS d)).sum) (most + 1) ∧ iv = .int .i64 k ∧ k ≤ len ∧ Only [] w wr) (fun _ iv _ => len - (intOf iv).toNat)
    case atStart => exact ⟨0, n, rfl, by simp; omega, rfl, by omega, Only.refl _ _⟩
    case round =>
      obtain ⟨k, m, rfl, hmk, rfl, hk, ho⟩ := hrel
      have HMK := Lib.hid hmk
      have hm1 : m ≤ most + 1 := by omega
      have HO := Lib.hid ho
      clear hmk
      by_cases hlt : k < len
      · have d1 : decide ((k : Int) < (len : Int)) = true := decide_eq_true (by omega)
        obtain ⟨b, off, y, rfl, _, hy, hyk, q0, q1, q2, q3, q4, q5, q6, q7, q8⟩ := st_at (HR.out.only ho (by simp)) hlt
        obtain ⟨d', rfl⟩ : ∃ k, d = k + 1 := by
          have := HIN.out y hy
          cases d with
          | zero => exact this.elim
          | succ k => exact ⟨k, rfl⟩
        have hnx := sum_take (f := cntS (d' + 1)) hyk
        have hsl := sum_le (f := cntS (d' + 1)) hyk
        by_cases hle : m ≤ most
        · have d2 : decide ((m : Int) ≤ (most : Int)) = true := decide_eq_true (by omega)
          have d2' : decide (m ≤ most) = true := decide_eq_true hle
          have hyin := (HIN.out y hy).only ho (Nat.le_refl B)
          have hmk := HMK.out
          have HYC : Hid (cntS (d' + 1) y = 1 + (if hasS y = true then cntX (d' + 1) y.e else 0) + (y.body.map (cntS d')).sum + (y.els.map (cntS d')).sum) := Lib.hid rfl
          obtain ⟨EX, hEX⟩ : ∃ c, cntX (d' + 1) y.e = c := ⟨_, rfl⟩
          obtain ⟨SB, hSB⟩ : ∃ c, (y.body.map (cntS d')).sum = c := ⟨_, rfl⟩
          obtain ⟨SE, hSE⟩ : ∃ c, (y.els.map (cntS d')).sum = c := ⟨_, rfl⟩
          obtain ⟨YC, hYC⟩ : ∃ c, cntS (d' + 1) y = c := ⟨_, rfl⟩
          rw [hEX, hSB, hSE, hYC] at HYC
          have HNX : Hid (min (n + ((l.take (k + 1)).map (cntS (d' + 1))).sum) (most + 1) = min (m + YC) (most + 1)) := Lib.hid (by rw [hnx, hYC]; omega)
          have hsz := ho.size
          have HB1 : Hid (∀ wx m2, Only [] wr wx → m2 ≤ most + 1 → Calls Try.prog 23 #[.slice y.bA y.body.length y.bc, .int .i64 (m2 : Int), .int .i64 (most : Int)] wx fun y w' => y = .returned (.int .i64 ((min (m2 + SB) (most + 1) : Nat) : Int)) ∧ Only [] wx w') := Lib.hid (fun wx m2 hox hm2 => by
            have hi := hyin.only hox (Nat.le_refl B)
            have hs2 := hox.size
            have h := HIH.out d' (by omega) y.body y.bA y.body.length y.bc m2 B wx hi.2.1.1 hi.2.1.2 hi.2.2.2.1 (by omega) hm2 hm
            rw [hSB] at h
            exact h)
          have HB2 : Hid (∀ wx m2, Only [] wr wx → m2 ≤ most + 1 → Calls Try.prog 23 #[.slice y.eA y.els.length y.ec, .int .i64 (m2 : Int), .int .i64 (most : Int)] wx fun y w' => y = .returned (.int .i64 ((min (m2 + SE) (most + 1) : Nat) : Int)) ∧ Only [] wx w') := Lib.hid (fun wx m2 hox hm2 => by
            have hi := hyin.only hox (Nat.le_refl B)
            have hs2 := hox.size
            have h := HIH.out d' (by omega) y.els y.eA y.els.length y.ec m2 B wx hi.2.2.1.1 hi.2.2.1.2 hi.2.2.2.2 (by omega) hm2 hm
            rw [hSE] at h
            exact h)
          have HX1 : Hid (∀ wx m2, Only [] wr wx → m2 ≤ most + 1 → Calls Try.prog 43 #[.agg #[.int .i64 y.e.op, .int .i64 y.e.n, .string y.e.s, .string y.e.q, .slice y.e.A y.e.X.length y.e.c], .int .i64 (m2 : Int), .int .i64 (most : Int)] wx fun y w' => y = .returned (.int .i64 ((min (m2 + EX) (most + 1) : Nat) : Int)) ∧ Only [] wx w') := Lib.hid (fun wx m2 hox hm2 => by
            have hi := hyin.only hox (Nat.le_refl B)
            have hs2 := hox.size
            have h := rcountExpr_any (d' + 1) y.e m2 B wx hi.1 (by omega) hm2 hm
            rw [hEX] at h
            exact h)
          have HN1 : Hid (∀ wx, Calls Try.prog 42 #[.agg #[.int .i64 y.e.op, .int .i64 y.e.n, .string y.e.s, .string y.e.q, .slice y.e.A y.e.X.length y.e.c]] wx fun e w' => e = .returned (.bool (noneX y.e)) ∧ Only [] wx w') := Lib.hid (fun wx => rnone_any y.e wx)
          have HHS : Hid (hasS y = ((y.op != 8) && ((y.op != 9) && !((y.op == 5) && noneX y.e)))) := Lib.hid rfl
          have KEEP : Hid (∀ wx, Only [] wr wx → wx.cell? ⟨b, off + k * 9, none⟩ = some (.int .i64 y.op) ∧ wx.cell? ⟨b, off + k * 9 + 1, none⟩ = some (.string y.s) ∧ wx.cell? ⟨b, off + k * 9 + 2, none⟩ = some (.int .i64 y.e.op) ∧ wx.cell? ⟨b, off + k * 9 + 3, none⟩ = some (.int .i64 y.e.n) ∧ wx.cell? ⟨b, off + k * 9 + 4, none⟩ = some (.string y.e.s) ∧ wx.cell? ⟨b, off + k * 9 + 5, none⟩ = some (.string y.e.q) ∧ wx.cell? ⟨b, off + k * 9 + 6, none⟩ = some (.slice y.e.A y.e.X.length y.e.c) ∧ wx.cell? ⟨b, off + k * 9 + 7, none⟩ = some (.slice y.bA y.body.length y.bc) ∧ wx.cell? ⟨b, off + k * 9 + 8, none⟩ = some (.slice y.eA y.els.length y.ec)) := Lib.hid (fun wx hox => ⟨hox.cell q0 (by simp), hox.cell q1 (by simp), hox.cell q2 (by simp), hox.cell q3 (by simp), hox.cell q4 (by simp), hox.cell q5 (by simp), hox.cell q6 (by simp), hox.cell q7 (by simp), hox.cell q8 (by simp)⟩)
          obtain ⟨hsy, hhs⟩ : ∃ h, hasS y = h := ⟨_, rfl⟩
          rw [hhs] at HYC HHS
          have hle1 : decide (((m : Int) + 1) ≤ (most : Int)) = decide (m + 1 ≤ most) := decide_eq_decide.2 ⟨fun h => by omega, fun h => by omega⟩
          clear hy hyk hnx hsl ho hyin hmk hEX hSB hSE hYC hhs
          obtain ⟨r1, hr1⟩ : ∃ r, decide (m + 1 ≤ most) = r := ⟨_, rfl⟩
          rw [hr1] at hle1
          have HR1 := Lib.hid hr1
          clear hr1
          have e1 : wr.cell? ⟨b, off + k * 9 + 2 + 1, none⟩ = some (.int .i64 y.e.n) := q3
          have e2 : wr.cell? ⟨b, off + k * 9 + 2 + 2, none⟩ = some (.string y.e.s) := q4
          have e3 : wr.cell? ⟨b, off + k * 9 + 2 + 3, none⟩ = some (.string y.e.q) := q5
          have e4 : wr.cell? ⟨b, off + k * 9 + 2 + 4, none⟩ = some (.slice y.e.A y.e.X.length y.e.c) := q6
          go_upto_region 5 with fail
          go_cut [56] (fun s wx => (∃ g : Bool, s = .bool g ∧ g = (r1 && hsy)) ∧ Only [] wr wx)
          case first =>
            cases r1
            · go_wp2_with fail
              go_meet
              exact ⟨⟨_, rfl, rfl⟩, Only.refl _ _⟩
            · obtain ⟨f8, hf8⟩ : ∃ f, (y.op != 8) = f := ⟨_, rfl⟩
              obtain ⟨f9, hf9⟩ : ∃ f, (y.op != 9) = f := ⟨_, rfl⟩
              obtain ⟨f5, hf5⟩ : ∃ f, (y.op == 5) = f := ⟨_, rfl⟩
              obtain ⟨fn, hfn⟩ : ∃ f, noneX y.e = f := ⟨_, rfl⟩
              rw [hf8, hf9, hf5, hfn] at HHS
              rw [hfn] at HN1
              clear hfn
              cases f8
              · go_wp2_with fail
                go_meet
                exact ⟨⟨_, rfl, by rw [HHS.out]; rfl⟩, Only.refl _ _⟩
              · cases f9
                · go_wp2_with fail
                  go_meet
                  exact ⟨⟨_, rfl, by rw [HHS.out]; rfl⟩, Only.refl _ _⟩
                · cases f5
                  · go_wp2_with fail
                    go_meet
                    exact ⟨⟨_, rfl, by rw [HHS.out]; rfl⟩, Only.refl _ _⟩
                  · go_wp2_with fail
                    refine (HN1.out wr).mono ?_
                    rintro e w3 ⟨rfl, ho3⟩
                    have HO3 := Lib.hid ho3
                    clear ho3
                    cases fn
                    · go_wp2_with fail
                      go_meet
                      exact ⟨⟨_, rfl, by rw [HHS.out]; rfl⟩, HO3.out⟩
                    · go_wp2_with fail
                      go_meet
                      exact ⟨⟨_, rfl, by rw [HHS.out]; rfl⟩, HO3.out⟩
          case rest =>
            obtain ⟨⟨g, rfl, hg⟩, hoc⟩ := hcut
            have HG := Lib.hid hg
            have HOC := Lib.hid hoc
            clear hoc hg hle1 e1 e2 e3 e4 q0 q1 q2 q3 q4 q5 q6 q7 q8
            obtain ⟨m1, hm1i, HM1⟩ : ∃ m1 : Nat, (m : Int) + 1 = (m1 : Int) ∧ Hid (m1 = m + 1) := ⟨m + 1, rfl, Lib.hid rfl⟩
            cases g
            · have HOS := HOC
              have hl1 : m1 ≤ most + 1 := by have := HM1.out; omega
              have HLE1 : Hid (m1 ≤ most + 1) := Lib.hid (by assumption)
              have hS : ((fun Y => Y.cell? ⟨b, off + k * 9 + 7, none⟩ = some (.slice y.bA y.body.length y.bc) ∧ Y.cell? ⟨b, off + k * 9 + 8, none⟩ = some (.slice y.eA y.els.length y.ec)) : World → Prop) wc.drew := ⟨(KEEP.out wc HOS.out).2.2.2.2.2.2.2.1, (KEEP.out wc HOS.out).2.2.2.2.2.2.2.2⟩
              go_upto_region 7 with fail
              refine wp_region_hand (S := (fun Y => Y.cell? ⟨b, off + k * 9 + 7, none⟩ = some (.slice y.bA y.body.length y.bc) ∧ Y.cell? ⟨b, off + k * 9 + 8, none⟩ = some (.slice y.eA y.els.length y.ec))) (by kernel_rfl) ?_
              refine takeW (i := 0) rfl (by kernel_rfl) (by kernel_rfl) (by kernel_rfl) (fun _ _ _ h => h) rfl (by rfl) (v := .slice (some ⟨b, off, none⟩) len cap) (fun Y hY => by obtain ⟨y0, y1⟩ := hY; go_simp) hS ?_
              simp only [List.setIfInBounds_toArray, List.set_cons_zero, List.set_cons_succ]
              refine takeW (i := 1) rfl (by kernel_rfl) (by kernel_rfl) (by kernel_rfl) (fun _ _ _ h => h) rfl (by rfl) (v := .int .i64 (k : Int)) (fun Y hY => by obtain ⟨y0, y1⟩ := hY; go_simp) hS ?_
              simp only [List.setIfInBounds_toArray, List.set_cons_zero, List.set_cons_succ]
              refine takeW (i := 2) rfl (by kernel_rfl) (by kernel_rfl) (by kernel_rfl) (fun _ _ _ h => h) rfl (by rfl) (v := .pointer (some ⟨b, off + k * 9, none⟩)) (fun Y hY => by obtain ⟨y0, y1⟩ := hY; go_simp) hS ?_
              simp only [List.setIfInBounds_toArray, List.set_cons_zero, List.set_cons_succ]
              refine takeW (i := 3) rfl (by kernel_rfl) (by kernel_rfl) (by kernel_rfl) (fun _ _ _ h => h) rfl (by rfl) (v := .pointer (some ⟨b, off + k * 9 + 8, none⟩)) (fun Y hY => by obtain ⟨y0, y1⟩ := hY; go_simp) hS ?_
              simp only [List.setIfInBounds_toArray, List.set_cons_zero, List.set_cons_succ]
              refine takeW (i := 4) rfl (by kernel_rfl) (by kernel_rfl) (by kernel_rfl) (fun _ _ _ h => h) rfl (by rfl) (v := .slice y.eA y.els.length y.ec) (fun Y hY => by obtain ⟨y0, y1⟩ := hY; go_simp) hS ?_
              simp only [List.setIfInBounds_toArray, List.set_cons_zero, List.set_cons_succ]
              refine takeW (i := 5) rfl (by kernel_rfl) (by kernel_rfl) (by kernel_rfl) (fun _ _ _ h => h) rfl (by rfl) (v := .slice (some ⟨b, off, none⟩) len cap) (fun Y hY => by obtain ⟨y0, y1⟩ := hY; go_simp) hS ?_
              simp only [List.setIfInBounds_toArray, List.set_cons_zero, List.set_cons_succ]
              refine takeW (i := 6) rfl (by kernel_rfl) (by kernel_rfl) (by kernel_rfl) (fun _ _ _ h => h) rfl (by rfl) (v := .int .i64 (k : Int)) (fun Y hY => by obtain ⟨y0, y1⟩ := hY; go_simp) hS ?_
              simp only [List.setIfInBounds_toArray, List.set_cons_zero, List.set_cons_succ]
              refine takeW (i := 7) rfl (by kernel_rfl) (by kernel_rfl) (by kernel_rfl) (fun _ _ _ h => h) rfl (by rfl) (v := .pointer (some ⟨b, off + k * 9, none⟩)) (fun Y hY => by obtain ⟨y0, y1⟩ := hY; go_simp) hS ?_
              simp only [List.setIfInBounds_toArray, List.set_cons_zero, List.set_cons_succ]
              refine takeW (i := 8) rfl (by kernel_rfl) (by kernel_rfl) (by kernel_rfl) (fun _ _ _ h => h) rfl (by rfl) (v := .pointer (some ⟨b, off + k * 9 + 7, none⟩)) (fun Y hY => by obtain ⟨y0, y1⟩ := hY; go_simp) hS ?_
              simp only [List.setIfInBounds_toArray, List.set_cons_zero, List.set_cons_succ]
              refine takeW (i := 9) rfl (by kernel_rfl) (by kernel_rfl) (by kernel_rfl) (fun _ _ _ h => h) rfl (by rfl) (v := .slice y.bA y.body.length y.bc) (fun Y hY => by obtain ⟨y0, y1⟩ := hY; go_simp) hS ?_
              simp only [List.setIfInBounds_toArray, List.set_cons_zero, List.set_cons_succ]
              refine takeW (i := 10) rfl (by kernel_rfl) (by kernel_rfl) (by kernel_rfl) (fun _ _ _ h => h) rfl (by rfl) (v := .int .i64 (m1 : Int)) (fun Y hY => by obtain ⟨y0, y1⟩ := hY; go_simp) hS ?_
              simp only [List.setIfInBounds_toArray, List.set_cons_zero, List.set_cons_succ]
              refine takeW (i := 11) rfl (by kernel_rfl) (by kernel_rfl) (by kernel_rfl) (fun _ _ _ h => h) rfl (by rfl) (v := .int .i64 (most : Int)) (fun Y hY => by obtain ⟨y0, y1⟩ := hY; go_simp) hS ?_
              simp only [List.setIfInBounds_toArray, List.set_cons_zero, List.set_cons_succ]
              refine takeW (i := 13) rfl (by kernel_rfl) (by kernel_rfl) (by kernel_rfl) (fun _ _ _ h => h) rfl (by rfl) (v := .int .i64 (most : Int)) (fun Y hY => by obtain ⟨y0, y1⟩ := hY; go_simp) hS ?_
              simp only [List.setIfInBounds_toArray, List.set_cons_zero, List.set_cons_succ]
              refine callW (i := 12) rfl (by kernel_rfl) rfl (by rfl) ?_ (HB1.out _ m1 HOS.out.drew HLE1.out) ?_
              · go_simp
              rintro x w7 ⟨rfl, ho7⟩
              have HO7 := Lib.hid (HOS.out.drew.trans ho7 (by simp))
              clear ho7
              have hS7 : (fun Y => Y.cell? ⟨b, off + k * 9 + 7, none⟩ = some (.slice y.bA y.body.length y.bc) ∧ Y.cell? ⟨b, off + k * 9 + 8, none⟩ = some (.slice y.eA y.els.length y.ec)) w7 := ⟨(KEEP.out w7 HO7.out).2.2.2.2.2.2.2.1, (KEEP.out w7 HO7.out).2.2.2.2.2.2.2.2⟩
              obtain ⟨m7, hm7⟩ : ∃ c, min (m1 + SB) (most + 1) = c := ⟨_, rfl⟩
              have hl7 : m7 ≤ most + 1 := by omega
              have HM7 := Lib.hid hm7
              simp only [hm7]
              clear hm7
              refine ⟨_, rfl, hS7, ?_⟩
              simp only [List.setIfInBounds_toArray, List.set_cons_zero, List.set_cons_succ]
              refine callW (i := 14) rfl (by kernel_rfl) rfl (by rfl) ?_ (HB2.out w7 m7 HO7.out hl7) ?_
              · go_simp
              rintro x w8 ⟨rfl, ho8⟩
              have HO8 := Lib.hid (HO7.out.trans ho8 (by simp))
              clear ho8
              have hS8 : (fun Y => Y.cell? ⟨b, off + k * 9 + 7, none⟩ = some (.slice y.bA y.body.length y.bc) ∧ Y.cell? ⟨b, off + k * 9 + 8, none⟩ = some (.slice y.eA y.els.length y.ec)) w8 := ⟨(KEEP.out w8 HO8.out).2.2.2.2.2.2.2.1, (KEEP.out w8 HO8.out).2.2.2.2.2.2.2.2⟩
              obtain ⟨m8, hm8⟩ : ∃ c, min (m7 + SE) (most + 1) = c := ⟨_, rfl⟩
              have HM8 := Lib.hid hm8
              simp only [hm8]
              clear hm8
              refine ⟨_, rfl, hS8, ?_⟩
              simp only [List.setIfInBounds_toArray, List.set_cons_zero, List.set_cons_succ]
              refine takeW (i := 15) rfl (by kernel_rfl) (by kernel_rfl) (by kernel_rfl) (fun _ _ _ h => h) rfl (by rfl) (v := .int .i64 (m8 : Int)) (fun Y hY => by obtain ⟨y0, y1⟩ := hY; go_simp) hS8 ?_
              simp only [List.setIfInBounds_toArray, List.set_cons_zero, List.set_cons_succ]
              refine wpAnyH_done (by kernel_rfl) ?_ _
              have HFIN : Hid (min (n + ((l.take (k + 1)).map (cntS (d' + 1))).sum) (most + 1) = m8) := Lib.hid (by
                rw [HNX.out]
                have h1 := HYC.out
                have h2 := HM7.out
                have h3 := HM8.out
                have h4 := HG.out
                have h5 := HM1.out
                have h6 := HR1.out
                cases r1
                · have h7 := of_decide_eq_false h6
                  omega
                · cases hsy
                  · simp at h1
                    omega
                  · cases h4)
              go_wp2_with fail
              go_roundw
              case measure => simp [intOf]; omega
              case rel => exact ⟨k + 1, m8, rfl, HFIN.out.symm, by go_num, by omega, HO.out.trans HO8.out (by simp)⟩
            · obtain ⟨k0, k1, k2, k3, k4, k5, k6, k7, k8⟩ := KEEP.out wc HOC.out
              have e1 : wc.cell? ⟨b, off + k * 9 + 2 + 1, none⟩ = some (.int .i64 y.e.n) := k3
              have e2 : wc.cell? ⟨b, off + k * 9 + 2 + 2, none⟩ = some (.string y.e.s) := k4
              have e3 : wc.cell? ⟨b, off + k * 9 + 2 + 3, none⟩ = some (.string y.e.q) := k5
              have e4 : wc.cell? ⟨b, off + k * 9 + 2 + 4, none⟩ = some (.slice y.e.A y.e.X.length y.e.c) := k6
              have hl1 : m1 ≤ most + 1 := by have := HM1.out; omega
              go_upto_region 6 with fail
              go_wp2_with fail
              refine (HX1.out wc m1 HOC.out hl1).mono ?_
              rintro y5 w5 ⟨rfl, ho5⟩
              have HOS := Lib.hid (HOC.out.trans ho5 (by simp))
              obtain ⟨mx, hmx⟩ : ∃ q, min (m1 + EX) (most + 1) = q := ⟨_, rfl⟩
              rw [hmx]
              have hlx : mx ≤ most + 1 := by omega
              have HMX := Lib.hid hmx
              clear ho5 hmx k0 k1 k2 k3 k4 k5 k6 k7 k8 e1 e2 e3 e4 hm1i
              have HLE1 : Hid (mx ≤ most + 1) := Lib.hid (by assumption)
              have hS : ((fun Y => Y.cell? ⟨b, off + k * 9 + 7, none⟩ = some (.slice y.bA y.body.length y.bc) ∧ Y.cell? ⟨b, off + k * 9 + 8, none⟩ = some (.slice y.eA y.els.length y.ec)) : World → Prop) w5.drew := ⟨(KEEP.out w5 HOS.out).2.2.2.2.2.2.2.1, (KEEP.out w5 HOS.out).2.2.2.2.2.2.2.2⟩
              go_upto_region 7 with fail
              refine wp_region_hand (S := (fun Y => Y.cell? ⟨b, off + k * 9 + 7, none⟩ = some (.slice y.bA y.body.length y.bc) ∧ Y.cell? ⟨b, off + k * 9 + 8, none⟩ = some (.slice y.eA y.els.length y.ec))) (by kernel_rfl) ?_
              refine takeW (i := 0) rfl (by kernel_rfl) (by kernel_rfl) (by kernel_rfl) (fun _ _ _ h => h) rfl (by rfl) (v := .slice (some ⟨b, off, none⟩) len cap) (fun Y hY => by obtain ⟨y0, y1⟩ := hY; go_simp) hS ?_
              simp only [List.setIfInBounds_toArray, List.set_cons_zero, List.set_cons_succ]
              refine takeW (i := 1) rfl (by kernel_rfl) (by kernel_rfl) (by kernel_rfl) (fun _ _ _ h => h) rfl (by rfl) (v := .int .i64 (k : Int)) (fun Y hY => by obtain ⟨y0, y1⟩ := hY; go_simp) hS ?_
              simp only [List.setIfInBounds_toArray, List.set_cons_zero, List.set_cons_succ]
              refine takeW (i := 2) rfl (by kernel_rfl) (by kernel_rfl) (by kernel_rfl) (fun _ _ _ h => h) rfl (by rfl) (v := .pointer (some ⟨b, off + k * 9, none⟩)) (fun Y hY => by obtain ⟨y0, y1⟩ := hY; go_simp) hS ?_
              simp only [List.setIfInBounds_toArray, List.set_cons_zero, List.set_cons_succ]
              refine takeW (i := 3) rfl (by kernel_rfl) (by kernel_rfl) (by kernel_rfl) (fun _ _ _ h => h) rfl (by rfl) (v := .pointer (some ⟨b, off + k * 9 + 8, none⟩)) (fun Y hY => by obtain ⟨y0, y1⟩ := hY; go_simp) hS ?_
              simp only [List.setIfInBounds_toArray, List.set_cons_zero, List.set_cons_succ]
              refine takeW (i := 4) rfl (by kernel_rfl) (by kernel_rfl) (by kernel_rfl) (fun _ _ _ h => h) rfl (by rfl) (v := .slice y.eA y.els.length y.ec) (fun Y hY => by obtain ⟨y0, y1⟩ := hY; go_simp) hS ?_
              simp only [List.setIfInBounds_toArray, List.set_cons_zero, List.set_cons_succ]
              refine takeW (i := 5) rfl (by kernel_rfl) (by kernel_rfl) (by kernel_rfl) (fun _ _ _ h => h) rfl (by rfl) (v := .slice (some ⟨b, off, none⟩) len cap) (fun Y hY => by obtain ⟨y0, y1⟩ := hY; go_simp) hS ?_
              simp only [List.setIfInBounds_toArray, List.set_cons_zero, List.set_cons_succ]
              refine takeW (i := 6) rfl (by kernel_rfl) (by kernel_rfl) (by kernel_rfl) (fun _ _ _ h => h) rfl (by rfl) (v := .int .i64 (k : Int)) (fun Y hY => by obtain ⟨y0, y1⟩ := hY; go_simp) hS ?_
              simp only [List.setIfInBounds_toArray, List.set_cons_zero, List.set_cons_succ]
              refine takeW (i := 7) rfl (by kernel_rfl) (by kernel_rfl) (by kernel_rfl) (fun _ _ _ h => h) rfl (by rfl) (v := .pointer (some ⟨b, off + k * 9, none⟩)) (fun Y hY => by obtain ⟨y0, y1⟩ := hY; go_simp) hS ?_
              simp only [List.setIfInBounds_toArray, List.set_cons_zero, List.set_cons_succ]
              refine takeW (i := 8) rfl (by kernel_rfl) (by kernel_rfl) (by kernel_rfl) (fun _ _ _ h => h) rfl (by rfl) (v := .pointer (some ⟨b, off + k * 9 + 7, none⟩)) (fun Y hY => by obtain ⟨y0, y1⟩ := hY; go_simp) hS ?_
              simp only [List.setIfInBounds_toArray, List.set_cons_zero, List.set_cons_succ]
              refine takeW (i := 9) rfl (by kernel_rfl) (by kernel_rfl) (by kernel_rfl) (fun _ _ _ h => h) rfl (by rfl) (v := .slice y.bA y.body.length y.bc) (fun Y hY => by obtain ⟨y0, y1⟩ := hY; go_simp) hS ?_
              simp only [List.setIfInBounds_toArray, List.set_cons_zero, List.set_cons_succ]
              refine takeW (i := 10) rfl (by kernel_rfl) (by kernel_rfl) (by kernel_rfl) (fun _ _ _ h => h) rfl (by rfl) (v := .int .i64 (mx : Int)) (fun Y hY => by obtain ⟨y0, y1⟩ := hY; go_simp) hS ?_
              simp only [List.setIfInBounds_toArray, List.set_cons_zero, List.set_cons_succ]
              refine takeW (i := 11) rfl (by kernel_rfl) (by kernel_rfl) (by kernel_rfl) (fun _ _ _ h => h) rfl (by rfl) (v := .int .i64 (most : Int)) (fun Y hY => by obtain ⟨y0, y1⟩ := hY; go_simp) hS ?_
              simp only [List.setIfInBounds_toArray, List.set_cons_zero, List.set_cons_succ]
              refine takeW (i := 13) rfl (by kernel_rfl) (by kernel_rfl) (by kernel_rfl) (fun _ _ _ h => h) rfl (by rfl) (v := .int .i64 (most : Int)) (fun Y hY => by obtain ⟨y0, y1⟩ := hY; go_simp) hS ?_
              simp only [List.setIfInBounds_toArray, List.set_cons_zero, List.set_cons_succ]
              refine callW (i := 12) rfl (by kernel_rfl) rfl (by rfl) ?_ (HB1.out _ mx HOS.out.drew HLE1.out) ?_
              · go_simp
              rintro x w7 ⟨rfl, ho7⟩
              have HO7 := Lib.hid (HOS.out.drew.trans ho7 (by simp))
              clear ho7
              have hS7 : (fun Y => Y.cell? ⟨b, off + k * 9 + 7, none⟩ = some (.slice y.bA y.body.length y.bc) ∧ Y.cell? ⟨b, off + k * 9 + 8, none⟩ = some (.slice y.eA y.els.length y.ec)) w7 := ⟨(KEEP.out w7 HO7.out).2.2.2.2.2.2.2.1, (KEEP.out w7 HO7.out).2.2.2.2.2.2.2.2⟩
              obtain ⟨m7, hm7⟩ : ∃ c, min (mx + SB) (most + 1) = c := ⟨_, rfl⟩
              have hl7 : m7 ≤ most + 1 := by omega
              have HM7 := Lib.hid hm7
              simp only [hm7]
              clear hm7
              refine ⟨_, rfl, hS7, ?_⟩
              simp only [List.setIfInBounds_toArray, List.set_cons_zero, List.set_cons_succ]
              refine callW (i := 14) rfl (by kernel_rfl) rfl (by rfl) ?_ (HB2.out w7 m7 HO7.out hl7) ?_
              · go_simp
              rintro x w8 ⟨rfl, ho8⟩
              have HO8 := Lib.hid (HO7.out.trans ho8 (by simp))
              clear ho8
              have hS8 : (fun Y => Y.cell? ⟨b, off + k * 9 + 7, none⟩ = some (.slice y.bA y.body.length y.bc) ∧ Y.cell? ⟨b, off + k * 9 + 8, none⟩ = some (.slice y.eA y.els.length y.ec)) w8 := ⟨(KEEP.out w8 HO8.out).2.2.2.2.2.2.2.1, (KEEP.out w8 HO8.out).2.2.2.2.2.2.2.2⟩
              obtain ⟨m8, hm8⟩ : ∃ c, min (m7 + SE) (most + 1) = c := ⟨_, rfl⟩
              have HM8 := Lib.hid hm8
              simp only [hm8]
              clear hm8
              refine ⟨_, rfl, hS8, ?_⟩
              simp only [List.setIfInBounds_toArray, List.set_cons_zero, List.set_cons_succ]
              refine takeW (i := 15) rfl (by kernel_rfl) (by kernel_rfl) (by kernel_rfl) (fun _ _ _ h => h) rfl (by rfl) (v := .int .i64 (m8 : Int)) (fun Y hY => by obtain ⟨y0, y1⟩ := hY; go_simp) hS8 ?_
              simp only [List.setIfInBounds_toArray, List.set_cons_zero, List.set_cons_succ]
              refine wpAnyH_done (by kernel_rfl) ?_ _
              have HFIN : Hid (min (n + ((l.take (k + 1)).map (cntS (d' + 1))).sum) (most + 1) = m8) := Lib.hid (by
                rw [HNX.out]
                have h1 := HYC.out
                have h2 := HM7.out
                have h3 := HM8.out
                have h4 := HG.out
                have h5 := HM1.out
                have h6 := HMX.out
                cases r1
                · cases h4
                · cases hsy
                  · cases h4
                  · simp at h1
                    omega)
              go_wp2_with fail
              go_roundw
              case measure => simp [intOf]; omega
              case rel => exact ⟨k + 1, m8, rfl, HFIN.out.symm, by go_num, by omega, HO.out.trans HO8.out (by simp)⟩
        · have d2 : decide ((m : Int) ≤ (most : Int)) = false := decide_eq_false (by omega)
          have d2' : decide (m ≤ most) = false := decide_eq_false hle
          have HF : Hid (min (n + C) (most + 1) = m) := Lib.hid (by have := HMK.out; have := HC.out; omega)
          clear hy hyk hnx hsl ho
          go_wp2_with fail
          go_ret
          exact ⟨by rw [HF.out]; rfl, HO.out⟩
      · obtain rfl : k = len := by omega
        have d1 : decide ((k : Int) < (k : Int)) = false := decide_eq_false (by omega)
        have HF : Hid (min (n + C) (most + 1) = m) := Lib.hid (by have := HMK.out; rw [List.take_of_length_le (by rw [HL.out]; exact Nat.le_refl _), HC.out] at this; exact this.symm)
        clear ho
        go_wp2_with fail
        go_ret
        exact ⟨by rw [HF.out]; rfl, HO.out⟩
end
end Go.Proofs.Ytmjkohlhbboapaa.Tree
