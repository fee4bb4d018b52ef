/- inBody with the body of a loop for its yield. PRINTED by wip/gen_tryb.py. -/
import Derived.Test.YtmjkohlhbboapaaTrYd
import Derived.Test.YtmjkohlhbboapaaTrBody
namespace Go.Proofs.Ytmjkohlhbboapaa.Tree
open Go.RowKit Go.Shelf
set_option linter.unusedVariables false
set_option maxRecDepth 100000
def walkS : Nat → ST → List XT
  | 0, _ => []
  | d + 1, s => (if hasS s = true then walkX (d + 1) s.e else []) ++ (s.body.flatMap (walkS d) ++ s.els.flatMap (walkS d))
theorem yes_any (s : ST) (w : World) : Calls Try.prog 45 #[s.val] w fun e w' => e = .returned (.bool true) ∧ Only [] w w' := by
  obtain ⟨w1, hw1⟩ : ∃ w1, w.alloc (.cells #[.int .i64 s.op, .string s.s, .int .i64 s.e.op, .int .i64 s.e.n, .string s.e.s, .string s.e.q, .slice s.e.A s.e.X.length s.e.c, .slice s.bA s.body.length s.bc, .slice s.eA s.els.length s.ec] 31) = w1 := ⟨_, rfl⟩
  have b1 : Blk w1 w.heap.size 31 #[.int .i64 s.op, .string s.s, .int .i64 s.e.op, .int .i64 s.e.n, .string s.e.s, .string s.e.q, .slice s.e.A s.e.X.length s.e.c, .slice s.bA s.body.length s.bc, .slice s.eA s.els.length s.ec] := by rw [← hw1]; exact Blk.new w _ _
  have o1 : Only [] w w1 := by rw [← hw1]; exact (Only.refl [] w).alloc _
  have HO := Lib.hid o1
  unfold ST.val
  clear b1 o1
  go_enter Try.func45, Try.ntmps45
  go_wp2_with fail
  go_ret
  exact ⟨rfl, HO.out⟩
section
variable {m l b3 B : Nat} {T : List XT} {J Jx : List XT → World → Prop}
set_option maxHeartbeats 16000000 in
theorem inBodyY (hJ : ∀ s X Y, J s X → Only [] X Y → J s Y)
    (HY : ∀ pre (x : XT) W1, J pre W1 → pre ++ [x] <+: T → YieldAt Fence.wide m Try.prog l #[x.val] W1 fun e W' => (e = .returned (.bool true) ∧ J (pre ++ [x]) W' ∧ KpT b3 W1 W') ∨ (e = .returned (.bool false) ∧ Jx (pre ++ [x]) W')) :
    ∀ (d : Nat) (ls : List ST) (A : Option Addr) (len cap : Nat) (pre : List XT) (W : World), Recs W B 9 A len (ls.map ST.row) → len ≤ maxLen → (∀ y ∈ ls, ST.In W B d y) → TOK b3 B W → J pre W → pre ++ ls.flatMap (walkS d) <+: T →
    CallsIn Fence.wide (m + 1) Try.prog 20 #[.slice A len cap, .func (.func 45) #[] #[], .func (.yield l) #[] #[]] W fun e Y => YO b3 W J Jx (pre ++ ls.flatMap (walkS d)) e Y := by
  intro d
  induction d using Nat.strongRecOn with
  | ind d ih =>
    intro ls A len cap pre W hr hlm hin ht hj hN
    have hl : ls.length = len := by have := hr.1; rwa [List.length_map] at this
    unfold maxLen at hlm
    have HR := Lib.hid hr
    have HIN := Lib.hid hin
    have HL := Lib.hid hl
    have HIH := Lib.hid ih
    have HT := Lib.hid ht
    have HJ0 := Lib.hid hj
    have HJ := Lib.hid hJ
    have HYH := Lib.hid HY
    clear hr hin hl ih ht hj hJ HY
    refine callsIn_of_wp Try.func20 rfl trivial ?_ rfl
    simp only [Try.ntmps20, List.size_toArray, List.length_cons, List.length_nil, Nat.reduceAdd, Nat.reduceSub, Array.replicate_succ, Array.replicate_zero, List.push_toArray, List.append_toArray, List.nil_append, List.cons_append]
    gi_wp2
    gi_loopw [11] (fun iv wr => ∃ k : Nat, iv = .int .i64 k ∧ k ≤ len ∧ J (pre ++ (ls.take k).flatMap (walkS d)) wr ∧ KpT b3 W wr) (fun iv _ => len - (intOf iv).toNat)
    case atStart => exact ⟨0, rfl, by omega, by simpa using HJ0.out, KpT.refl _ _⟩
    case round =>
      obtain ⟨k, rfl, hk, hj, hkp⟩ := hrel
      clear HJ0
      by_cases hlt : k < len
      · have d1 : decide ((k : Int) < (len : Int)) = true := decide_eq_true (by omega)
        obtain ⟨b, off, y, rfl, _, hy, hyk, q0, q1, q2, q3, q4, q5, q6, q7, q8⟩ := st_at (recs_kp HR.out hkp HT.out) hlt
        obtain ⟨d', rfl⟩ : ∃ k, d = k + 1 := by
          have := HIN.out y hy
          cases d with
          | zero => exact this.elim
          | succ k => exact ⟨k, rfl⟩
        have htr := HT.out.kp hkp
        obtain ⟨w3, hw3⟩ : ∃ w3, wr.alloc (.cells #[.int .i64 y.op, .string y.s, .int .i64 y.e.op, .int .i64 y.e.n, .string y.e.s, .string y.e.q, .slice y.e.A y.e.X.length y.e.c, .slice y.bA y.body.length y.bc, .slice y.eA y.els.length y.ec] 31) = w3 := ⟨_, rfl⟩
        have b_3 : Blk w3 wr.heap.size 31 #[.int .i64 y.op, .string y.s, .int .i64 y.e.op, .int .i64 y.e.n, .string y.e.s, .string y.e.q, .slice y.e.A y.e.X.length y.e.c, .slice y.bA y.body.length y.bc, .slice y.eA y.els.length y.ec] := by rw [← hw3]; exact Blk.new wr _ _
        have o3 : Only [] wr w3 := by rw [← hw3]; exact (Only.refl [] wr).alloc _
        have s0 := b_3.cell 0
        have s1 := b_3.cell 1
        have s2 := b_3.cell 2
        have s3 := b_3.cell 3
        have s4 := b_3.cell 4
        have s5 := b_3.cell 5
        have s6 := b_3.cell 6
        have s7 := b_3.cell 7
        have s8 := b_3.cell 8
        have k3 := hkp.trans (KpT.only0 o3 htr.lt)
        have ht3 := HT.out.kp k3
        have hn3 : wr.heap.size ∉ rowT b3 w3 := fun hm => by
          rw [rowT_same (o3.block b3 htr.lt (by simp))] at hm
          have := (htr.all _ hm).2
          omega
        have hsz3 := b_3.lt
        have hfl := (flat_pre (f := walkS (d' + 1)) pre hyk).trans hN
        have HFT := Lib.hid (flat_take (f := walkS (d' + 1)) hyk)
        have hws : walkS (d' + 1) y = (if hasS y = true then walkX (d' + 1) y.e else []) ++ (y.body.flatMap (walkS d') ++ y.els.flatMap (walkS d')) := rfl
        obtain ⟨s0_, hs0⟩ : ∃ s, pre ++ (ls.take k).flatMap (walkS (d' + 1)) = s := ⟨_, rfl⟩
        obtain ⟨EX, hEX⟩ : ∃ c, (if hasS y = true then walkX (d' + 1) y.e else []) = c := ⟨_, rfl⟩
        obtain ⟨SB, hSB⟩ : ∃ c, y.body.flatMap (walkS d') = c := ⟨_, rfl⟩
        obtain ⟨SE, hSE⟩ : ∃ c, y.els.flatMap (walkS d') = c := ⟨_, rfl⟩
        rw [hEX, hSB, hSE] at hws
        rw [hs0, hws, ← List.append_assoc, ← List.append_assoc] at hfl
        have hf1 : s0_ ++ EX <+: T := by
          rw [List.append_assoc] at hfl
          exact (List.prefix_append _ _).trans hfl
        have hf2 : s0_ ++ EX ++ SB <+: T := (List.prefix_append _ _).trans hfl
        rw [hs0] at hj
        have HNX : Hid (pre ++ (ls.take (k + 1)).flatMap (walkS (d' + 1)) = s0_ ++ EX ++ SB ++ SE) := Lib.hid (by
          rw [HFT.out, hws, ← hs0]
          simp only [List.append_assoc])
        have hyin := (HIN.out y hy).kp k3 HT.out
        have HY3 := Lib.hid hyin
        have HT3 := Lib.hid ht3
        have KEEP : Hid (∀ wx, KpT b3 w3 wx → wx.cell? ⟨wr.heap.size, 0, none⟩ = some (.int .i64 y.op) ∧ wx.cell? ⟨wr.heap.size, 1, none⟩ = some (.string y.s) ∧ wx.cell? ⟨wr.heap.size, 2, none⟩ = some (.int .i64 y.e.op) ∧ wx.cell? ⟨wr.heap.size, 3, none⟩ = some (.int .i64 y.e.n) ∧ wx.cell? ⟨wr.heap.size, 4, none⟩ = some (.string y.e.s) ∧ wx.cell? ⟨wr.heap.size, 5, none⟩ = some (.string y.e.q) ∧ wx.cell? ⟨wr.heap.size, 6, none⟩ = some (.slice y.e.A y.e.X.length y.e.c) ∧ wx.cell? ⟨wr.heap.size, 7, none⟩ = some (.slice y.bA y.body.length y.bc) ∧ wx.cell? ⟨wr.heap.size, 8, none⟩ = some (.slice y.eA y.els.length y.ec)) := Lib.hid (fun wx hk => ⟨hk.cell s0 hn3, hk.cell s1 hn3, hk.cell s2 hn3, hk.cell s3 hn3, hk.cell s4 hn3, hk.cell s5 hn3, hk.cell s6 hn3, hk.cell s7 hn3, hk.cell s8 hn3⟩)
        have HST := Lib.hid (fun (wx : World) => (callsIn_wide (n := m)).2 (yes_any y wx))
        have HAS := Lib.hid (fun (wx : World) (hk : KpT b3 w3 wx) => (callsIn_wide (n := m)).2 (has_any (hyin.kp hk ht3) (Nat.le_trans HT.out.lo (Nat.le_of_lt (ht3.kp hk).lt))))
        obtain ⟨hsy, hhs⟩ : ∃ h, hasS y = h := ⟨_, rfl⟩
        rw [hhs] at HAS hEX
        have HEX : Hid (∀ wx, KpT b3 w3 wx → J s0_ wx → hsy = true → CallsIn Fence.wide m Try.prog 41 #[.agg #[.int .i64 y.e.op, .int .i64 y.e.n, .string y.e.s, .string y.e.q, .slice y.e.A y.e.X.length y.e.c], .func (.yield l) #[] #[]] wx fun e Y => YO b3 wx J Jx (s0_ ++ EX) e Y) := Lib.hid (fun wx hk hj hh => by
          rw [if_pos hh] at hEX
          have h := inExprY HJ.out HYH.out (d' + 1) y.e s0_ wx ((hyin.kp hk ht3).1) (ht3.kp hk) hj (by rw [hEX]; exact hf1)
          rw [hEX] at h
          exact (callsIn_wide (n := m)).2 (callsIn_wide.1 h))
        have HEX0 : Hid (hsy = false → EX = []) := Lib.hid (fun h => by rw [← hEX, h]; rfl)
        have HBO : Hid (∀ wx, KpT b3 w3 wx → J (s0_ ++ EX) wx → CallsIn Fence.wide m Try.prog 20 #[.slice y.bA y.body.length y.bc, .func (.func 45) #[] #[], .func (.yield l) #[] #[]] wx fun e Y => YO b3 wx J Jx (s0_ ++ EX ++ SB) e Y) := Lib.hid (fun wx hk hj => by
          have hi := hyin.kp hk ht3
          have h := HIH.out d' (by omega) y.body y.bA y.body.length y.bc (s0_ ++ EX) wx hi.2.1.1 hi.2.1.2 hi.2.2.2.1 (ht3.kp hk) hj (by rw [hSB]; exact hf2)
          rw [hSB] at h
          exact (callsIn_wide (n := m)).2 (callsIn_wide.1 h))
        have HEL : Hid (∀ wx, KpT b3 w3 wx → J (s0_ ++ EX ++ SB) wx → CallsIn Fence.wide m Try.prog 20 #[.slice y.eA y.els.length y.ec, .func (.func 45) #[] #[], .func (.yield l) #[] #[]] wx fun e Y => YO b3 wx J Jx (s0_ ++ EX ++ SB ++ SE) e Y) := Lib.hid (fun wx hk hj => by
          have hi := hyin.kp hk ht3
          have h := HIH.out d' (by omega) y.els y.eA y.els.length y.ec (s0_ ++ EX ++ SB) wx hi.2.2.1.1 hi.2.2.1.2 hi.2.2.2.2 (ht3.kp hk) hj (by rw [hSE]; exact hfl)
          rw [hSE] at h
          exact (callsIn_wide (n := m)).2 (callsIn_wide.1 h))
        have HJ3 := Lib.hid (HJ.out _ _ _ hj o3)
        have HK3 := Lib.hid k3
        unfold ST.val at HST HAS
        clear hj hkp htr o3 b_3 hy hyk hfl hf1 hf2 hws hs0 hEX hSB hSE hyin hhs hn3 ht3 k3
        gi_wp2
        refine ⟨trivial, (HST.out _).mono ?_⟩
        rintro e w4 ⟨rfl, ho4⟩
        have HK4 := Lib.hid (KpT.only0 ho4 HT3.out.lt)
        have HJ4 := Lib.hid (HJ.out _ _ _ HJ3.out ho4)
        obtain ⟨t0, t1, t2, t3, t4, t5, t6, t7, t8⟩ := KEEP.out w4 HK4.out
        clear ho4 HJ3 HST
        gi_wp2
        refine ⟨trivial, (HAS.out w4 HK4.out).mono ?_⟩
        rintro e w5 ⟨rfl, ho5⟩
        have HK5 := Lib.hid (HK4.out.trans (KpT.only0 ho5 (HT3.out.kp HK4.out).lt))
        have HJ5 := Lib.hid (HJ.out _ _ _ HJ4.out ho5)
        obtain ⟨v0, v1, v2, v3, v4, v5, v6, v7, v8⟩ := KEEP.out w5 HK5.out
        clear ho5 HJ4 HAS t0 t1 t2 t3 t4 t5 t6 t7 t8
        cases hsy
        · have HJ6 : Hid (J (s0_ ++ EX) w5) := Lib.hid (by rw [HEX0.out rfl, List.append_nil]; exact HJ5.out)
          gi_wp2
          refine ⟨trivial, ?_⟩
          gi_wp2
          refine ⟨trivial, (HBO.out w5 HK5.out HJ6.out).mono ?_⟩
          rintro e w7 (⟨rfl, hj7, hk7⟩ | ⟨rfl, p7, hj7⟩)
          · have HK7 := Lib.hid (HK5.out.trans hk7)
            have HJ7 := Lib.hid hj7
            obtain ⟨x0, x1, x2, x3, x4, x5, x6, x7, x8⟩ := KEEP.out w7 HK7.out
            clear hj7 hk7
            gi_wp2
            refine ⟨trivial, (HEL.out w7 HK7.out HJ7.out).mono ?_⟩
            rintro e w8 (⟨rfl, hj8, hk8⟩ | ⟨rfl, p8, hj8⟩)
            · have HF := Lib.hid (And.intro hj8 (HK3.out.trans (HK7.out.trans hk8)))
              clear hj8 hk8
              gi_wp2
              go_roundw
              case measure => simp [intOf]; omega
              case rel => exact ⟨k + 1, by go_num, by omega, by rw [HNX.out]; exact HF.out.1, HF.out.2⟩
            · have HF := Lib.hid hj8
              clear hj8
              gi_wp2
              repeat (refine ⟨trivial, ?_⟩; gi_wp2)
              go_ret
              exact .inr ⟨rfl, _, HF.out⟩
          · have HF := Lib.hid hj7
            clear hj7
            gi_wp2
            repeat (refine ⟨trivial, ?_⟩; gi_wp2)
            go_ret
            exact .inr ⟨rfl, _, HF.out⟩
        · gi_wp2
          refine ⟨trivial, (HEX.out w5 HK5.out HJ5.out trivial).mono ?_⟩
          rintro e w6 (⟨rfl, hj6, hk6⟩ | ⟨rfl, p6, hj6⟩)
          · have HK6 := Lib.hid (HK5.out.trans hk6)
            have HJ6 := Lib.hid hj6
            obtain ⟨u_0, u_1, u_2, u_3, u_4, u_5, u_6, u_7, u_8⟩ := KEEP.out w6 HK6.out
            clear hj6 hk6 v0 v1 v2 v3 v4 v5 v6 v7 v8
            gi_wp2
            refine ⟨trivial, (HBO.out w6 HK6.out HJ6.out).mono ?_⟩
            rintro e w7 (⟨rfl, hj7, hk7⟩ | ⟨rfl, p7, hj7⟩)
            · have HK7 := Lib.hid (HK6.out.trans hk7)
              have HJ7 := Lib.hid hj7
              obtain ⟨x0, x1, x2, x3, x4, x5, x6, x7, x8⟩ := KEEP.out w7 HK7.out
              clear hj7 hk7
              gi_wp2
              refine ⟨trivial, (HEL.out w7 HK7.out HJ7.out).mono ?_⟩
              rintro e w8 (⟨rfl, hj8, hk8⟩ | ⟨rfl, p8, hj8⟩)
              · have HF := Lib.hid (And.intro hj8 (HK3.out.trans (HK7.out.trans hk8)))
                clear hj8 hk8
                gi_wp2
                go_roundw
                case measure => simp [intOf]; omega
                case rel => exact ⟨k + 1, by go_num, by omega, by rw [HNX.out]; exact HF.out.1, HF.out.2⟩
              · have HF := Lib.hid hj8
                clear hj8
                gi_wp2
                repeat (refine ⟨trivial, ?_⟩; gi_wp2)
                go_ret
                exact .inr ⟨rfl, _, HF.out⟩
            · have HF := Lib.hid hj7
              clear hj7
              gi_wp2
              repeat (refine ⟨trivial, ?_⟩; gi_wp2)
              go_ret
              exact .inr ⟨rfl, _, HF.out⟩
          · have HF := Lib.hid hj6
            clear hj6
            gi_wp2
            repeat (refine ⟨trivial, ?_⟩; gi_wp2)
            go_ret
            exact .inr ⟨rfl, _, HF.out⟩
      · obtain rfl : k = len := by omega
        have d1 : decide ((k : Int) < (k : Int)) = false := decide_eq_false (by omega)
        rw [List.take_of_length_le (by rw [HL.out]; exact Nat.le_refl _)] at hj
        have HF := Lib.hid (And.intro hj hkp)
        clear hj hkp
        gi_wp2
        go_ret
        exact .inl ⟨rfl, HF.out⟩
end
end Go.Proofs.Ytmjkohlhbboapaa.Tree
