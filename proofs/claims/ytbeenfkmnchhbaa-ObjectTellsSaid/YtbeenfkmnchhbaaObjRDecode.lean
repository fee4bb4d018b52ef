/- An object out of bytes, by the document: Decode. -/
import Derived.Test.YtbeenfkmnchhbaaObjRDec
import Derived.Deep.DeepCutAuto
import Derived.Deep.LoopGhost
import Derived.Deep.CutBlock
namespace Go.Proofs.Ytbeenfkmnchhbaa.Object
open Go.RowKit Codec
set_option linter.unusedVariables false
set_option maxRecDepth 100000
theorem RDec.isOb {w : World} {p O B : Nat} {v1 v2 v3 : Value} {st : Option (List UInt8)} {d : OD} (h : RDec w p O B v1 v2 v3 st d) : ∃ o : Ob, v1 = .slice o.A1 o.m1 o.p1 ∧ v2 = .slice o.A2 o.m2 o.p2 ∧ v3 = .slice o.A3 o.m3 o.p3 ∧ IsOb w o d ∧ ∀ g ∈ o.blks, B ≤ g := by
  obtain ⟨A1, q1, rfl, a1, a2, a3, a4⟩ := h.c1.shape (by decide)
  obtain ⟨A2, q2, rfl, b1, b2, b3, b4⟩ := h.c2.shape (by decide)
  obtain ⟨A3, q3, rfl, c1, c2, c3, c4⟩ := h.c3.shape (by decide)
  refine ⟨⟨A1, _, q1, A2, _, q2, A3, _, q3⟩, rfl, rfl, rfl, ⟨a3, b3, c3, ⟨a1, a2⟩, ⟨b1, b2⟩, ⟨c1, c2⟩⟩, fun g hg => ?_⟩
  unfold Ob.blks at hg
  simp only at hg
  rcases List.mem_append.1 hg with hg | hg
  · rcases a4 with ⟨rfl, _⟩ | ⟨g', rfl, h1, _⟩
    · cases hg
    · simp [blkOf] at hg; omega
  · rcases List.mem_append.1 hg with hg | hg
    · rcases b4 with ⟨rfl, _⟩ | ⟨g', rfl, h1, _⟩
      · cases hg
      · simp [blkOf] at hg; omega
    · rcases c4 with ⟨rfl, _⟩ | ⟨g', rfl, h1, _⟩
      · cases hg
      · simp [blkOf] at hg; omega
def Halt (p : Prop) : Prop := p
theorem halt {p : Prop} (h : Halt p) : p := h
set_option maxHeartbeats 4000000 in
theorem rdecode_any (A : Option Addr) (n c : Nat) (l : List UInt8) (w : World) (hr : Bytes w w.heap.size A n l) (hnc : n ≤ c) (hcm : c ≤ maxLen) (hn : n ≤ 1000000) :
    Calls Try.prog 39 #[.slice A n c] w fun x w' => decOut l w x w' := by
  have d1 : decide ((1048576 : Int) < (n : Int)) = false := decide_eq_false (by omega)
  have ho1 : Only [] w (w.alloc (.cells #[.slice none 0 0, .slice none 0 0, .slice none 0 0] 57)) := (Only.refl _ _).alloc _
  have ho2 : Only [] w ((w.alloc (.cells #[.slice none 0 0, .slice none 0 0, .slice none 0 0] 57)).alloc (.cells #[.slice A n c, .bool false] 84)) := ho1.alloc _
  have hb1 := Blk.new w 57 #[.slice none 0 0, .slice none 0 0, .slice none 0 0]
  have hb2 := Blk.new (w.alloc (.cells #[.slice none 0 0, .slice none 0 0, .slice none 0 0] 57)) 84 #[.slice A n c, .bool false]
  have hb3 := Blk.new ((w.alloc (.cells #[.slice none 0 0, .slice none 0 0, .slice none 0 0] 57)).alloc (.cells #[.slice A n c, .bool false] 84)) 57 #[.slice none 0 0, .slice none 0 0, .slice none 0 0]
  rw [alloc_size] at hb2
  rw [alloc_size, alloc_size] at hb3
  have hbr := (hr.only ho1 (by simp)).more (B' := w.heap.size + 1) (by omega)
  have hD0 : RDec (((w.alloc (.cells #[.slice none 0 0, .slice none 0 0, .slice none 0 0] 57)).alloc (.cells #[.slice A n c, .bool false] 84)).alloc (.cells #[.slice none 0 0, .slice none 0 0, .slice none 0 0] 57)) (w.heap.size + 1) (w.heap.size + 2) (w.heap.size + 3) (.slice none 0 0) (.slice none 0 0) (.slice none 0 0) (some l) od0 :=
    ⟨⟨A, n, c, hb2.alloc _, hnc, hcm, (hbr.only ((Only.refl [] _).alloc _) (by simp)).only ((Only.refl [] _).alloc _) (by simp)⟩, hb3, OwnR.nil_ _ _ _ _, OwnR.nil_ _ _ _ _, OwnR.nil_ _ _ _ _, by omega, by omega, by rw [alloc_size, alloc_size, alloc_size]; omega⟩
  have hB0 := (hb1.alloc (.cells #[.slice A n c, .bool false] 84)).alloc (.cells #[.slice none 0 0, .slice none 0 0, .slice none 0 0] 57)
  have hO0 := ho2.alloc (.cells #[.slice none 0 0, .slice none 0 0, .slice none 0 0] 57)
  obtain ⟨w1, hw1⟩ : ∃ w1, (((w.alloc (.cells #[.slice none 0 0, .slice none 0 0, .slice none 0 0] 57)).alloc (.cells #[.slice A n c, .bool false] 84)).alloc (.cells #[.slice none 0 0, .slice none 0 0, .slice none 0 0] 57)) = w1 := ⟨_, rfl⟩
  rw [hw1] at hD0 hB0 hO0
  have HW1 := Lib.hid hw1
  obtain ⟨bx, hbx⟩ : ∃ bx, w.heap.size = bx := ⟨_, rfl⟩
  have HBX := Lib.hid hbx
  rw [hbx] at hD0 hB0
  obtain ⟨p, hp⟩ : ∃ p, bx + 1 = p := ⟨_, rfl⟩
  obtain ⟨O, hO⟩ : ∃ O, p + 1 = O := ⟨_, rfl⟩
  have HPP := Lib.hid hp
  have HOO := Lib.hid hO
  rw [hp, show bx + 2 = O by omega, show bx + 3 = O + 1 by omega] at hD0
  have hdd : decD l = ⟨(rq1 l).1, (rqe (rq1 l).2).1, (rqe (rqe (rq1 l).2).2).1⟩ := rfl
  have hss : decS l = (rqe (rqe (rq1 l).2).2).2 := rfl
  have hq1 : rq1 l = rrep rcd rcdl (rcount 32768 (some l)) (rcounted 32768 (some l)) := rfl
  have hC := rref_count p 32768 (some l) w1 hD0.rd
  have hM := rcount_most 32768 (some l)
  generalize rcounted 32768 (some l) = st1 at *
  generalize rcount 32768 (some l) = M1 at *
  generalize rq1 l = q1 at *
  have HQ1 := Lib.hid hq1.symm
  have HDD := Lib.hid hdd
  have HSS := Lib.hid hss
  have HC := Lib.hid hC
  have HD0 := Lib.hid hD0
  have HB0 := Lib.hid hB0
  have HO0 := Lib.hid hO0
  have hpl := RRd.lt hD0.rd
  clear hp hO hD0 hB0 hO0 hC hdd hss hq1 hbx hw1 ho1 ho2 hb1 hb2 hb3 hbr hr
  go_enter Try.func39, Try.ntmps39
  go_wp2_with fail
  rw [HW1.out, HBX.out, HPP.out, HOO.out]
  refine HC.out.mono ?_
  rintro x w2 ⟨rfl, hR2, ho2⟩
  have HD2 := Lib.hid (HD0.out.reader hR2 ho2)
  have HB2 := Lib.hid (ho2.to_below (B := p) (Nat.le_of_lt hpl) (by simp))
  clear hR2 ho2 HC
  go_upto_block 0 with fail
  go_cut [7] (fun i wx => ∃ v', RDec wx p O (O + 1) v' (.slice none 0 0) (.slice none 0 0) q1.2 ⟨q1.1, [], []⟩ ∧ Below p w1 wx)
  case first =>
   go_wp2_with fail
   go_loopg [7] M1 (fun gk i wr => ∃ (k : Nat) (v' : Value) (xs : List Cd) (sj : Option (List UInt8)), k + gk = M1 ∧ xs.length ≤ k ∧ i = .int .i64 k ∧ RDec wr p O (O + 1) v' (.slice none 0 0) (.slice none 0 0) sj ⟨xs, [], []⟩ ∧ Below p w1 wr ∧ (xs ++ (rrep rcd rcdl gk sj).1, (rrep rcd rcdl gk sj).2) = q1)
   case atStart => exact ⟨0, _, [], _, by simp, by simp, rfl, HD2.out, HB2.out, by rw [← HQ1.out]; rfl⟩
   case round =>
     obtain ⟨k, v', xs, sj, hkM, hlen, rfl, hD, hB, hq⟩ := hrel
     have HDj := Lib.hid hD
     have HBj := Lib.hid hB
     have HQj := Lib.hid hq
     have hR := hD.rd
     have hbad := rrd_cell hR
     have hszj := hD.BB
     have hltj := hD.lts
     clear hD hB hq
     by_cases hrem : 0 < gk
     · have e1 : decide ((k : Int) < (M1 : Int)) = true := decide_eq_true (by omega)
       obtain ⟨r, rfl⟩ : ∃ r, gk = r + 1 := ⟨gk - 1, by omega⟩
       cases sj with
       | none =>
         have hb : wr.cell? ⟨p, 1, none⟩ = some (.bool true) := hbad
         clear hbad hR hltj
         have hz : (xs, none) = q1 := by have := HQj.out; simpa [rrep] using this
         have HZ := Lib.hid hz
         clear hz
         go_wp2_with fail
         go_meet
         refine ⟨v', ?_, HBj.out⟩
         rw [← HZ.out]
         exact HDj.out
       | some l =>
         have hb : wr.cell? ⟨p, 1, none⟩ = some (.bool false) := hbad
         clear hbad
         have C9 := Lib.hid (rsmall2 p (some l) wr hR)
         have hi := n2_in (g2 (some l))
         have e2 : IntKind.i64.wrap (n2 (g2 (some l)) - 1) = n2 (g2 (some l)) - 1 := IntWalk.i64_in _ (by omega)
         have HE : Hid (rcd (some l) = ⟨n2 (some l), n2 (g2 (some l)) - 1, n2 (g2 (g2 (some l))), n2 (g2 (g2 (g2 (some l)))), s64 (vle (rget 8 (g2 (g2 (g2 (g2 (some l)))))))⟩) := rfl
         have HEL : Hid (rcdl (some l) = rgot 8 (g2 (g2 (g2 (g2 (some l)))))) := rfl
         clear hR hltj hi
         generalize n2 (some l) = z1 at *
         go_wp2_with fail
         refine C9.out.mono ?_
         rintro x w9 ⟨rfl, hR9, ho9⟩
         have hG9 := RG.new (HDj.out.reader hR9 ho9) (HBj.out.trans (ho9.to_below (B := p) HDj.out.pw (by simp))) #[.int .i64 z1, .int .i64 0, .int .i64 0, .int .i64 0, .int .i64 0]
         obtain ⟨G, hG⟩ : ∃ G, w9.heap.size = G := ⟨_, rfl⟩
         rw [hG] at hG9
         have C10 := Lib.hid (rsmall2 p _ _ hG9.dec.rd)
         have HG9 := Lib.hid hG9
         have HGG := Lib.hid hG
         clear hG9 hR9 ho9 hG C9
         go_wp2_with fail
         rw [HGG.out]
         refine C10.out.mono ?_
         rintro x w10 ⟨rfl, hR10, ho10⟩
         have hG10 := HG9.out.call hR10 ho10
         have a1 : w10.cell? ⟨G, 1, none⟩ = some (.int .i64 0) := hG10.blk.cell 1
         have f1 : w10.frozen? ⟨G, 1, none⟩ = false := hG10.blk.frozen 1
         have hG11 : RG w1 (w10.setCell ⟨G, 1, none⟩ (.int .i64 (n2 (g2 (some l)) - 1))) p O (O + 1) v' (.slice none 0 0) (.slice none 0 0) (g2 (g2 (some l))) ⟨xs, [], []⟩ G #[.int .i64 z1, .int .i64 (n2 (g2 (some l)) - 1), .int .i64 0, .int .i64 0, .int .i64 0] := hG10.set_ 1 (.int .i64 (n2 (g2 (some l)) - 1))
         have C11 := Lib.hid (rsmall2 p _ _ hG11.dec.rd)
         have HG11 := Lib.hid hG11
         clear hG10 hR10 ho10 C10 hG11 HG9
         go_wp2_with fail
         generalize n2 (g2 (some l)) - 1 = z2 at *
         refine C11.out.mono ?_
         rintro x w11 ⟨rfl, hR11, ho11⟩
         clear a1 f1
         generalize n2 (g2 (g2 (some l))) = z3 at *
         have hG12 := HG11.out.call hR11 ho11
         have a2 : w11.cell? ⟨G, 2, none⟩ = some (.int .i64 0) := hG12.blk.cell 2
         have f2 : w11.frozen? ⟨G, 2, none⟩ = false := hG12.blk.frozen 2
         have hG13 : RG w1 (w11.setCell ⟨G, 2, none⟩ (.int .i64 z3)) p O (O + 1) v' (.slice none 0 0) (.slice none 0 0) (g2 (g2 (g2 (some l)))) ⟨xs, [], []⟩ G #[.int .i64 z1, .int .i64 z2, .int .i64 z3, .int .i64 0, .int .i64 0] := hG12.set_ 2 (.int .i64 z3)
         have C12 := Lib.hid (rsmall2 p _ _ hG13.dec.rd)
         have HG13 := Lib.hid hG13
         clear hG12 hR11 ho11 C11 hG13 HG11
         go_wp2_with fail
         refine C12.out.mono ?_
         rintro x w12 ⟨rfl, hR12, ho12⟩
         clear a2 f2
         generalize n2 (g2 (g2 (g2 (some l)))) = z4 at *
         have hG14 := HG13.out.call hR12 ho12
         have a3 : w12.cell? ⟨G, 3, none⟩ = some (.int .i64 0) := hG14.blk.cell 3
         have f3 : w12.frozen? ⟨G, 3, none⟩ = false := hG14.blk.frozen 3
         have hG15 : RG w1 (w12.setCell ⟨G, 3, none⟩ (.int .i64 z4)) p O (O + 1) v' (.slice none 0 0) (.slice none 0 0) (g2 (g2 (g2 (g2 (some l))))) ⟨xs, [], []⟩ G #[.int .i64 z1, .int .i64 z2, .int .i64 z3, .int .i64 z4, .int .i64 0] := hG14.set_ 3 (.int .i64 z4)
         have C13 := Lib.hid (rref_num p _ _ hG15.dec.rd)
         have HG15 := Lib.hid hG15
         clear hG14 hR12 ho12 C12 hG15 HG13
         generalize s64 (vle (rget 8 (g2 (g2 (g2 (g2 (some l))))))) = z5 at *
         go_wp2_with fail
         refine C13.out.mono ?_
         rintro x w13 ⟨rfl, hR13, ho13⟩
         clear a3 f3
         have hG16 := HG15.out.call hR13 ho13
         have b0 : w13.cell? ⟨G, 0, none⟩ = some (.int .i64 z1) := hG16.blk.cell 0
         have b1 : w13.cell? ⟨G, 1, none⟩ = some (.int .i64 z2) := hG16.blk.cell 1
         have b2 : w13.cell? ⟨G, 2, none⟩ = some (.int .i64 z3) := hG16.blk.cell 2
         have b3 : w13.cell? ⟨G, 3, none⟩ = some (.int .i64 z4) := hG16.blk.cell 3
         have b4 : w13.cell? ⟨G, 4, none⟩ = some (.int .i64 0) := hG16.blk.cell 4
         have f4 : w13.frozen? ⟨G, 4, none⟩ = false := hG16.blk.frozen 4
         have o0 : w13.cell? ⟨O, 0, none⟩ = some v' := hG16.dec.o.cell 0
         have hne : O ≠ G := by have := hG16.BG; omega
         have hne2 : G ≠ O := by have := hG16.BG; omega
         have hG17 : RG w1 (w13.setCell ⟨G, 4, none⟩ (.int .i64 z5)) p O (O + 1) v' (.slice none 0 0) (.slice none 0 0) (rgot 8 (g2 (g2 (g2 (g2 (some l)))))) ⟨xs, [], []⟩ G #[.int .i64 z1, .int .i64 z2, .int .i64 z3, .int .i64 z4, .int .i64 z5] := hG16.set_ 4 (.int .i64 z5)
         have HG17 := Lib.hid hG17
         clear hG16 hR13 ho13 C13 HG15 hG17
         go_wp2_with (at_builtin; refine halt ?_)
         unfold Halt
         refine wpList_append1 (w := w13.setCell ⟨G, 4, none⟩ (.int .i64 z5)) rfl (.tmp 51) (.tmp 53) 53 rfl Try.underlying53 code_info rfl (by decide) rfl HG17.out.dec.c1 rfl (by simp [World.setCell]) (row := [.int .i64 z1, .int .i64 z2, .int .i64 z3, .int .i64 z4, .int .i64 z5]) rfl rfl (by intro u hu; simp at hu; rcases hu with rfl | rfl | rfl | rfl | rfl <;> rfl) (by simp only; omega) (by simp only [maxLen]; omega) (by have := HG17.out.dec.BB; omega) ?_
         intro v9 w14 hE
         obtain ⟨A9, c9, rfl, _⟩ := hE.own.shape (by decide)
         have hP := rdec_put0 ⟨z1, z2, z3, z4, z5⟩ HG17.out.dec hE
         have cd := hP.2.2.1
         have fd := hP.2.2.2
         have HP := Lib.hid hP
         clear hP hE
         go_wp2_with fail
         go_roundg r
         case rel =>
           have hp1 := HP.out.1
           rw [← HE.out, ← HEL.out] at hp1
           refine ⟨k + 1, _, xs ++ [rcd (some l)], rcdl (some l), by omega, by rw [List.length_append]; simp; omega, by go_num, hp1, HG17.out.low.trans HP.out.2.1, ?_⟩
           rw [← HQj.out]
           show (xs ++ [rcd (some l)] ++ _, _) = (xs ++ (rcd (some l) :: (rrep rcd rcdl r (rcdl (some l))).1), _)
           rw [List.append_assoc]
           rfl
         case measure => omega
     · obtain rfl : gk = 0 := by omega
       obtain rfl : M1 = k := by omega
       have e1 : decide ((M1 : Int) < (M1 : Int)) = false := decide_eq_false (by omega)
       have hz : (xs, sj) = q1 := by have := HQj.out; simpa [rrep] using this
       have HZ := Lib.hid hz
       clear hz hbad hR hltj
       go_wp2_with fail
       go_meet
       refine ⟨v', ?_, HBj.out⟩
       rw [← HZ.out]
       exact HDj.out
  case rest =>
  obtain ⟨v1, hD3, hB3⟩ := hcut
  have hq2 : rqe q1.2 = rrep ren renl (rcount 4096 q1.2) (rcounted 4096 q1.2) := rfl
  have hC2 := rref_count p 4096 q1.2 wc hD3.rd
  have hM2 := rcount_most 4096 q1.2
  generalize rcounted 4096 q1.2 = st2 at *
  generalize rcount 4096 q1.2 = M2 at *
  generalize rqe q1.2 = q2 at *
  have HD3 := Lib.hid hD3
  have HB3 := Lib.hid hB3
  have HC2 := Lib.hid hC2
  have HQs := Lib.hid hq2.symm
  clear hD3 hB3 hC2 hq2 HD2 HB2 HQ1
  go_upto_block 2 with (go_at_call 56; refine HC2.out.mono ?_; rintro x w5 ⟨rfl, hR5, ho5⟩)
  have HDs := Lib.hid (HD3.out.reader hR5 ho5)
  have HBs := Lib.hid (HB3.out.trans (ho5.to_below (B := p) HD3.out.pw (by simp)))
  clear hR5 ho5 HC2
  go_cut [9, 10] (fun i tx wx => ∃ v', RDec wx p O (O + 1) v1 v' (.slice none 0 0) q2.2 ⟨q1.1, q2.1, []⟩ ∧ Below p w1 wx)
  case first =>
    go_wp2_with fail
    go_loopg [9, 10] M2 (fun gk i tx wr => ∃ (k : Nat) (v' : Value) (xs : List En) (sj : Option (List UInt8)), k + gk = M2 ∧ xs.length ≤ k ∧ i = .int .i64 k ∧ RDec wr p O (O + 1) v1 v' (.slice none 0 0) sj ⟨q1.1, xs, []⟩ ∧ Below p w1 wr ∧ (xs ++ (rrep ren renl gk sj).1, (rrep ren renl gk sj).2) = q2)
    case atStart => exact ⟨0, _, [], _, by simp, by simp, rfl, HDs.out, HBs.out, by rw [← HQs.out]; rfl⟩
    case round =>
      obtain ⟨k, v', xs, sj, hkM, hlen, rfl, hD, hB, hq⟩ := hrel
      have HDj := Lib.hid hD
      have HBj := Lib.hid hB
      have HQj := Lib.hid hq
      have hR := hD.rd
      have hbad := rrd_cell hR
      have hpwj := hD.pw
      clear hD hB hq
      by_cases hrem : 0 < gk
      · have e1 : decide ((k : Int) < (M2 : Int)) = true := decide_eq_true (by omega)
        obtain ⟨r, rfl⟩ : ∃ r, gk = r + 1 := ⟨gk - 1, by omega⟩
        cases sj with
        | none =>
          have hb : wr.cell? ⟨p, 1, none⟩ = some (.bool true) := hbad
          clear hbad hR
          have hz : (xs, none) = q2 := by have := HQj.out; simpa [rrep] using this
          have HZ := Lib.hid hz
          clear hz
          go_wp2_with fail
          go_meet
          refine ⟨v', ?_, HBj.out⟩
          rw [← HZ.out]
          exact HDj.out
        | some l =>
          have hb : wr.cell? ⟨p, 1, none⟩ = some (.bool false) := hbad
          clear hbad
          have hT := rref_text p 255 (some l) wr hR
          have hren : ren (some l) = ⟨str (rtext 255 (some l)), s64 (vle (rget 8 (rtexted 255 (some l))))⟩ := rfl
          have hrenl : renl (some l) = rgot 8 (rtexted 255 (some l)) := rfl
          have HREN := Lib.hid hren
          have HRENL := Lib.hid hrenl
          have HT := Lib.hid hT
          have HN := Lib.hid (fun w h => rref_num p (rtexted 255 (some l)) w h)
          clear hren hrenl hT hR
          generalize str (rtext 255 (some l)) = nm at *
          generalize s64 (vle (rget 8 (rtexted 255 (some l)))) = z at *
          generalize rgot 8 (rtexted 255 (some l)) = stl at *
          generalize rtexted 255 (some l) = stt at *
          go_wp2_with (go_at_call 73; refine HT.out.mono ?_; rintro x w9 ⟨rfl, hR9, ho9⟩)
          have hD9 := HDj.out.reader hR9 ho9
          have HB9 := Lib.hid (HBj.out.trans (ho9.to_below (B := p) hpwj (by simp)))
          have b0 : w9.drew.cell? ⟨O, 1, none⟩ = some v' := hD9.o.cell 1
          have HNC := Lib.hid (HN.out w9.drew hR9)
          have hp9 := hD9.pw
          have HD9 := Lib.hid hD9.drew
          clear hD9 hR9 ho9 HT
          go_region_law (first
            | (go_simp; go_at_call 57; (refine HNC.out.mono ?_; rintro x wc ⟨rfl, hRc, hoc⟩; have hDc := HD9.out.reader hRc hoc; have gc0 : wc.cell? ⟨O, 1, none⟩ = some v' := hDc.o.cell 1; have gd0 : (wc.alloc (.cells #[.string nm, .int .i64 z] 73)).cell? ⟨O, 1, none⟩ = some v' := (hDc.o.alloc _).cell 1; have hbb := hDc.BB; have hoc2 := hoc))
            | (refine step_append1 (w := wc) rfl (.tmp 73) (.tmp 78) 54 rfl Try.underlying54 ent_info rfl (by decide) rfl hDc.c2 rfl rfl (row := [.string nm, .int .i64 z]) rfl rfl (by intro u hu; simp at hu; rcases hu with rfl | rfl <;> rfl) (by simp only; omega) (by simp only [maxLen]; omega) (by omega) ?_; intro v9 wd hE; obtain ⟨A', cap', rfl, _⟩ := hE.own.shape (by decide); have hP := rdec_put1 ⟨nm, z⟩ hDc hE; have cd := hP.2.2.1; have fd := hP.2.2.2; have HP := Lib.hid hP; clear hP; have HOC := Lib.hid hoc2))
          all_goals
            go_wp2_with fail
            go_roundg r
            case rel =>
              have hp1 := HP.out.1
              rw [← HREN.out, ← HRENL.out] at hp1
              refine ⟨k + 1, _, xs ++ [ren (some l)], renl (some l), by omega, by rw [List.length_append]; simp; omega, by go_num, hp1, (HB9.out.trans (Below.trans ((Below.refl p w9).drew) (HOC.out.to_below (B := p) hp9 (by simp)))).trans HP.out.2.1, ?_⟩
              rw [← HQj.out]
              show (xs ++ [ren (some l)] ++ _, _) = (xs ++ (ren (some l) :: (rrep ren renl r (renl (some l))).1), _)
              rw [List.append_assoc]
              rfl
            case measure => omega
      · obtain rfl : gk = 0 := by omega
        obtain rfl : M2 = k := by omega
        have e1 : decide ((M2 : Int) < (M2 : Int)) = false := decide_eq_false (by omega)
        have hz : (xs, sj) = q2 := by have := HQj.out; simpa [rrep] using this
        have HZ := Lib.hid hz
        clear hz hbad hR
        go_wp2_with fail
        go_meet
        refine ⟨v', ?_, HBj.out⟩
        rw [← HZ.out]
        exact HDj.out
  case rest =>
  obtain ⟨v2, hD6, hB6⟩ := hcut
  have hq3 : rqe q2.2 = rrep ren renl (rcount 4096 q2.2) (rcounted 4096 q2.2) := rfl
  have hC3 := rref_count p 4096 q2.2 wc hD6.rd
  have hM3 := rcount_most 4096 q2.2
  generalize rcounted 4096 q2.2 = st3 at *
  generalize rcount 4096 q2.2 = M3 at *
  generalize rqe q2.2 = q3 at *
  have HD6 := Lib.hid hD6
  have HB6 := Lib.hid hB6
  have HC3 := Lib.hid hC3
  have HQt := Lib.hid hq3.symm
  clear hD6 hB6 hC3 hq3 HDs HBs HQs
  have HQs := HQt
  clear HQt
  go_upto_block 4 with (go_at_call 56; refine HC3.out.mono ?_; rintro x w8 ⟨rfl, hR8, ho8⟩)
  have HDs := Lib.hid (HD6.out.reader hR8 ho8)
  have HBs := Lib.hid (HB6.out.trans (ho8.to_below (B := p) HD6.out.pw (by simp)))
  clear hR8 ho8 HC3
  go_cut [11, 12] (fun i tx wx => ∃ v', RDec wx p O (O + 1) v1 v2 v' q3.2 ⟨q1.1, q2.1, q3.1⟩ ∧ Below p w1 wx)
  case first =>
    go_wp2_with fail
    go_loopg [11, 12] M3 (fun gk i tx wr => ∃ (k : Nat) (v' : Value) (xs : List En) (sj : Option (List UInt8)), k + gk = M3 ∧ xs.length ≤ k ∧ i = .int .i64 k ∧ RDec wr p O (O + 1) v1 v2 v' sj ⟨q1.1, q2.1, xs⟩ ∧ Below p w1 wr ∧ (xs ++ (rrep ren renl gk sj).1, (rrep ren renl gk sj).2) = q3)
    case atStart => exact ⟨0, _, [], _, by simp, by simp, rfl, HDs.out, HBs.out, by rw [← HQs.out]; rfl⟩
    case round =>
      obtain ⟨k, v', xs, sj, hkM, hlen, rfl, hD, hB, hq⟩ := hrel
      have HDj := Lib.hid hD
      have HBj := Lib.hid hB
      have HQj := Lib.hid hq
      have hR := hD.rd
      have hbad := rrd_cell hR
      have hpwj := hD.pw
      clear hD hB hq
      by_cases hrem : 0 < gk
      · have e1 : decide ((k : Int) < (M3 : Int)) = true := decide_eq_true (by omega)
        obtain ⟨r, rfl⟩ : ∃ r, gk = r + 1 := ⟨gk - 1, by omega⟩
        cases sj with
        | none =>
          have hb : wr.cell? ⟨p, 1, none⟩ = some (.bool true) := hbad
          clear hbad hR
          have hz : (xs, none) = q3 := by have := HQj.out; simpa [rrep] using this
          have HZ := Lib.hid hz
          clear hz
          go_wp2_with fail
          go_meet
          refine ⟨v', ?_, HBj.out⟩
          rw [← HZ.out]
          exact HDj.out
        | some l =>
          have hb : wr.cell? ⟨p, 1, none⟩ = some (.bool false) := hbad
          clear hbad
          have hT := rref_text p 255 (some l) wr hR
          have hren : ren (some l) = ⟨str (rtext 255 (some l)), s64 (vle (rget 8 (rtexted 255 (some l))))⟩ := rfl
          have hrenl : renl (some l) = rgot 8 (rtexted 255 (some l)) := rfl
          have HREN := Lib.hid hren
          have HRENL := Lib.hid hrenl
          have HT := Lib.hid hT
          have HN := Lib.hid (fun w h => rref_num p (rtexted 255 (some l)) w h)
          clear hren hrenl hT hR
          generalize str (rtext 255 (some l)) = nm at *
          generalize s64 (vle (rget 8 (rtexted 255 (some l)))) = z at *
          generalize rgot 8 (rtexted 255 (some l)) = stl at *
          generalize rtexted 255 (some l) = stt at *
          go_wp2_with (go_at_call 73; refine HT.out.mono ?_; rintro x w9 ⟨rfl, hR9, ho9⟩)
          have hD9 := HDj.out.reader hR9 ho9
          have HB9 := Lib.hid (HBj.out.trans (ho9.to_below (B := p) hpwj (by simp)))
          have b0 : w9.drew.cell? ⟨O, 2, none⟩ = some v' := hD9.o.cell 2
          have HNC := Lib.hid (HN.out w9.drew hR9)
          have hp9 := hD9.pw
          have HD9 := Lib.hid hD9.drew
          clear hD9 hR9 ho9 HT
          go_region_law (first
            | (go_simp; go_at_call 57; (refine HNC.out.mono ?_; rintro x wc ⟨rfl, hRc, hoc⟩; have hDc := HD9.out.reader hRc hoc; have gc0 : wc.cell? ⟨O, 2, none⟩ = some v' := hDc.o.cell 2; have gd0 : (wc.alloc (.cells #[.int .i64 z, .string nm] 75)).cell? ⟨O, 2, none⟩ = some v' := (hDc.o.alloc _).cell 2; have hbb := hDc.BB; have hoc2 := hoc))
            | (refine step_append1 (w := wc) rfl (.tmp 98) (.tmp 103) 55 rfl Try.underlying55 call_info rfl (by decide) rfl hDc.c3 rfl rfl (row := [.int .i64 z, .string nm]) rfl rfl (by intro u hu; simp at hu; rcases hu with rfl | rfl <;> rfl) (by simp only; omega) (by simp only [maxLen]; omega) (by omega) ?_; intro v9 wd hE; obtain ⟨A', cap', rfl, _⟩ := hE.own.shape (by decide); have hP := rdec_put2 ⟨nm, z⟩ hDc hE; have cd := hP.2.2.1; have fd := hP.2.2.2; have HP := Lib.hid hP; clear hP; have HOC := Lib.hid hoc2))
          all_goals
            go_wp2_with fail
            go_roundg r
            case rel =>
              have hp1 := HP.out.1
              rw [← HREN.out, ← HRENL.out] at hp1
              refine ⟨k + 1, _, xs ++ [ren (some l)], renl (some l), by omega, by rw [List.length_append]; simp; omega, by go_num, hp1, (HB9.out.trans (Below.trans ((Below.refl p w9).drew) (HOC.out.to_below (B := p) hp9 (by simp)))).trans HP.out.2.1, ?_⟩
              rw [← HQj.out]
              show (xs ++ [ren (some l)] ++ _, _) = (xs ++ (ren (some l) :: (rrep ren renl r (renl (some l))).1), _)
              rw [List.append_assoc]
              rfl
            case measure => omega
      · obtain rfl : gk = 0 := by omega
        obtain rfl : M3 = k := by omega
        have e1 : decide ((M3 : Int) < (M3 : Int)) = false := decide_eq_false (by omega)
        have hz : (xs, sj) = q3 := by have := HQj.out; simpa [rrep] using this
        have HZ := Lib.hid hz
        clear hz hbad hR
        go_wp2_with fail
        go_meet
        refine ⟨v', ?_, HBj.out⟩
        rw [← HZ.out]
        exact HDj.out
  case rest =>
  obtain ⟨v3, hD9, hB9⟩ := hcut
  obtain ⟨o, rfl, rfl, rfl, hio, hbl⟩ := hD9.isOb
  have hdj : decD l = (⟨q1.1, q2.1, q3.1⟩ : OD) := HDD.out
  rw [← hdj] at hio
  have hm : o.m1 ≤ 1000000 ∧ o.m2 ≤ 1000000 ∧ o.m3 ≤ 1000000 := by
    rw [← hio.n1, ← hio.n2, ← hio.n3]
    exact ⟨Nat.le_trans (rrep_len _ _ _ _) (Nat.le_trans (rcount_most 32768 _) (by omega)), Nat.le_trans (rrep_len _ _ _ _) (Nat.le_trans (rcount_most 4096 _) (by omega)), Nat.le_trans (rrep_len _ _ _ _) (Nat.le_trans (rcount_most 4096 _) (by omega))⟩
  have hRT := rright_any o (decD l) wc hio (by omega) (by omega) (by omega)
  have hO9 : Only [] w wc := by
    have h1 := HBX.out
    have h2 := HPP.out
    have h0 := HO0.out
    exact ⟨hB9.os.trans h0.os, hB9.tape.trans h0.tape, hB9.output.trans h0.output, Nat.le_trans h0.size hB9.size, fun i hi _ => (hB9.block i (by omega)).trans (h0.block i hi (by simp))⟩
  have hbx9 := HB0.out.below hB9 (by have := HPP.out; omega)
  have z0 : wc.cell? ⟨bx, 0, none⟩ = some (.slice none 0 0) := hbx9.cell 0
  have z1 : wc.cell? ⟨bx, 1, none⟩ = some (.slice none 0 0) := hbx9.cell 1
  have z2 : wc.cell? ⟨bx, 2, none⟩ = some (.slice none 0 0) := hbx9.cell 2
  have f0 : wc.frozen? ⟨bx, 0, none⟩ = false := hbx9.frozen 0
  have f1 : wc.frozen? ⟨bx, 1, none⟩ = false := hbx9.frozen 1
  have f2 : wc.frozen? ⟨bx, 2, none⟩ = false := hbx9.frozen 2
  obtain ⟨Ar, nr, cr, hrb, _, _, hby⟩ := hD9.rd
  have hln := hby.len
  have r0 : wc.cell? ⟨p, 0, none⟩ = some (.slice Ar nr cr) := hrb.cell 0
  have r1 : wc.cell? ⟨p, 1, none⟩ = some (.bool q3.2.isNone) := hrb.cell 1
  have y0 : wc.cell? ⟨O, 0, none⟩ = some (.slice o.A1 o.m1 o.p1) := hD9.o.cell 0
  have y1 : wc.cell? ⟨O, 1, none⟩ = some (.slice o.A2 o.m2 o.p2) := hD9.o.cell 1
  have y2 : wc.cell? ⟨O, 2, none⟩ = some (.slice o.A3 o.m3 o.p3) := hD9.o.cell 2
  have HRT := Lib.hid hRT
  have HIO := Lib.hid hio
  have HBL := Lib.hid hbl
  have HO9 := Lib.hid hO9
  have HBX9 := Lib.hid hbx9
  have HOB := Lib.hid hD9.o
  clear hRT hio hbl hO9 hbx9 hrb hby hD9 hB9 hdj HDD HQs HDs HBs HD0 HB0 HO0 HW1 HD3 HB3 HD6 HB6
  unfold Ob.val at HRT
  obtain ⟨A1, m1, p1, A2, m2, p2, A3, m3, p3⟩ := o
  simp only at y0 y1 y2 HRT hm
  have HSS2 : Hid (decS l = q3.2) := HSS
  generalize q3.2 = sf at *
  cases sf with
  | none =>
    have HDN := Lib.hid (dec_none (l := l) (fun h => by have := HSS2.out; rw [h.1] at this; cases this))
    have r1' : wc.cell? ⟨p, 1, none⟩ = some (.bool true) := r1
    clear r1 hln
    go_wp2_with fail
    exact bodyPost_ret (v := .tuple #[.agg #[.slice none 0 0, .slice none 0 0, .slice none 0 0], .int .i64 5]) (by simp [results, Try.results39, go_sem, z0, z1, z2]) rfl (decOut_none HDN.out (((HO9.out.setCell (p := ⟨bx, 0, none⟩) (.inr (by have := HBX.out; simp only; omega)) _).setCell (p := ⟨bx, 1, none⟩) (.inr (by have := HBX.out; simp only; omega)) _).setCell (p := ⟨bx, 2, none⟩) (.inr (by have := HBX.out; simp only; omega)) _))
  | some t =>
    have r1' : wc.cell? ⟨p, 1, none⟩ = some (.bool false) := r1
    clear r1
    cases t with
    | cons x t =>
      have hpos : decide ((0 : Int) < (nr : Int)) = true := decide_eq_true (by simp at hln; omega)
      have hnz : ¬ nr = 0 := by simp at hln; omega
      have HDN := Lib.hid (dec_none (l := l) (fun h => by have := HSS2.out; rw [h.1] at this; cases this))
      clear hln
      go_wp2_with fail
      exact bodyPost_ret (v := .tuple #[.agg #[.slice none 0 0, .slice none 0 0, .slice none 0 0], .int .i64 5]) (by simp [results, Try.results39, go_sem, z0, z1, z2]) rfl (decOut_none HDN.out (((HO9.out.setCell (p := ⟨bx, 0, none⟩) (.inr (by have := HBX.out; simp only; omega)) _).setCell (p := ⟨bx, 1, none⟩) (.inr (by have := HBX.out; simp only; omega)) _).setCell (p := ⟨bx, 2, none⟩) (.inr (by have := HBX.out; simp only; omega)) _))
    | nil =>
      have hz : nr = 0 := by simp at hln; omega
      subst hz
      clear hln
      cases hob : objRight (decD l)
      · rw [hob] at HRT
        have HDN := Lib.hid (dec_none (l := l) (fun h => by rw [hob] at h; cases h.2))
        clear hob z0 z1 z2 f0 f1 f2
        go_wp2_with (go_at_call 43; refine HRT.out.mono ?_; rintro x w6 ⟨rfl, ho6⟩; have hb6 := HBX9.out.only ho6 (by simp); have z0 : w6.cell? ⟨bx, 0, none⟩ = some (.slice none 0 0) := hb6.cell 0; have z1 : w6.cell? ⟨bx, 1, none⟩ = some (.slice none 0 0) := hb6.cell 1; have z2 : w6.cell? ⟨bx, 2, none⟩ = some (.slice none 0 0) := hb6.cell 2; have f0 : w6.frozen? ⟨bx, 0, none⟩ = false := hb6.frozen 0; have f1 : w6.frozen? ⟨bx, 1, none⟩ = false := hb6.frozen 1; have f2 : w6.frozen? ⟨bx, 2, none⟩ = false := hb6.frozen 2; have HO6 := Lib.hid (HO9.out.trans ho6 (by simp)); clear hb6)
        exact bodyPost_ret (v := .tuple #[.agg #[.slice none 0 0, .slice none 0 0, .slice none 0 0], .int .i64 5]) (by simp [results, Try.results39, go_sem, z0, z1, z2]) rfl (decOut_none HDN.out (((HO6.out.setCell (p := ⟨bx, 0, none⟩) (.inr (by have := HBX.out; simp only; omega)) _).setCell (p := ⟨bx, 1, none⟩) (.inr (by have := HBX.out; simp only; omega)) _).setCell (p := ⟨bx, 2, none⟩) (.inr (by have := HBX.out; simp only; omega)) _))
      · rw [hob] at HRT
        have HDS := Lib.hid (dec_some (l := l) HSS2.out hob)
        clear hob z0 z1 z2 f0 f1 f2
        go_wp2_with (go_at_call 43; refine HRT.out.mono ?_; rintro x w6 ⟨rfl, ho6⟩; have hq6 := HOB.out.only ho6 (by simp); have v0 : w6.cell? ⟨O, 0, none⟩ = some (.slice A1 m1 p1) := hq6.cell 0; have v1 : w6.cell? ⟨O, 1, none⟩ = some (.slice A2 m2 p2) := hq6.cell 1; have v2 : w6.cell? ⟨O, 2, none⟩ = some (.slice A3 m3 p3) := hq6.cell 2; have hb6 := HBX9.out.only ho6 (by simp); have z0 : w6.cell? ⟨bx, 0, none⟩ = some (.slice none 0 0) := hb6.cell 0; have z1 : w6.cell? ⟨bx, 1, none⟩ = some (.slice none 0 0) := hb6.cell 1; have z2 : w6.cell? ⟨bx, 2, none⟩ = some (.slice none 0 0) := hb6.cell 2; have f0 : w6.frozen? ⟨bx, 0, none⟩ = false := hb6.frozen 0; have f1 : w6.frozen? ⟨bx, 1, none⟩ = false := hb6.frozen 1; have f2 : w6.frozen? ⟨bx, 2, none⟩ = false := hb6.frozen 2; have HO6 := Lib.hid (HO9.out.trans ho6 (by simp)); have HI6 := Lib.hid (HIO.out.only ho6); clear hb6 hq6)
        have hoZ : Only [bx] w6 (((w6.setCell ⟨bx, 0, none⟩ (.slice A1 m1 p1)).setCell ⟨bx, 1, none⟩ (.slice A2 m2 p2)).setCell ⟨bx, 2, none⟩ (.slice A3 m3 p3)) := by
          refine Only.setCell (Only.setCell (Only.setCell (Only.refl _ _) ?_ _) ?_ _) ?_ _ <;> exact .inl (by simp)
        have hP := HPP.out
        have hO := HOO.out
        have hio7 := HI6.out.only2 hoZ (fun g hg hm => by have := HBL.out g hg; rw [List.mem_singleton.1 hm] at this; omega)
        exact bodyPost_ret (v := .tuple #[.agg #[.slice A1 m1 p1, .slice A2 m2 p2, .slice A3 m3 p3], .int .i64 0]) (by simp [results, Try.results39, go_sem, z0, z1, z2]) rfl (decOut_some HDS.out hio7 (HO6.out.trans hoZ (by intro g hg; rw [List.mem_singleton.1 hg]; exact .inr (by have := HBX.out; omega))))
end Go.Proofs.Ytbeenfkmnchhbaa.Object
