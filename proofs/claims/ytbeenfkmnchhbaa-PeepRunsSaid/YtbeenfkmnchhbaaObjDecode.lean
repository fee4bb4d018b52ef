/- An object out of bytes: object.Decode. -/
import Derived.Test.YtbeenfkmnchhbaaObjDec3
namespace Go.Proofs.Ytbeenfkmnchhbaa.Object
open Go.RowKit Codec
set_option linter.unusedVariables false
set_option maxRecDepth 100000
def od0 : OD := ⟨[], [], []⟩
def rq1 (l : List UInt8) := rrep rcd rcdl (rcount 32768 (some l)) (rcounted 32768 (some l))
def rqe (st : Option (List UInt8)) := rrep ren renl (rcount 4096 st) (rcounted 4096 st)
def decD (l : List UInt8) : OD := ⟨(rq1 l).1, (rqe (rq1 l).2).1, (rqe (rqe (rq1 l).2).2).1⟩
def decS (l : List UInt8) : Option (List UInt8) := (rqe (rqe (rq1 l).2).2).2
def dec (l : List UInt8) : Option OD := if decS l = some [] ∧ objRight (decD l) = true then some (decD l) else none
/-- what Decode hands back -/
def decOut (l : List UInt8) (w : World) (x : Ending) (w' : World) : Prop :=
  ∃ o, x = .returned (.tuple #[o.val, .int .i64 (if (dec l).isSome = true then 0 else 5)]) ∧ IsOb w' o ((dec l).getD od0) ∧ o.m1 ≤ 40000 ∧ o.m2 ≤ 40000 ∧ o.m3 ≤ 40000 ∧ Only [] w w'
def Ob.blks (o : Ob) : List Nat := blkOf o.A1 ++ (blkOf o.A2 ++ blkOf o.A3)
theorem IsOb.only2 {S : List Nat} {w w' : World} {o : Ob} {d : OD} (h : IsOb w o d) (ho : Only S w w') (hn : ∀ g ∈ o.blks, g ∉ S) : IsOb w' o d :=
  ⟨(h.code.only ho (fun g hg => hn g (by unfold Ob.blks; simp [hg]))).more ho.size, (h.ents.only ho (fun g hg => hn g (by unfold Ob.blks; simp [hg]))).more ho.size, (h.calls.only ho (fun g hg => hn g (by unfold Ob.blks; simp [hg]))).more ho.size, h.c1, h.c2, h.c3⟩
theorem Dec.isOb {w : World} {p R O B : Nat} {v1 v2 v3 : Value} {st : Option (List UInt8)} {d : OD} (h : Dec w p R O B v1 v2 v3 st d) : ∃ o : Ob, v1 = .slice o.A1 o.m1 o.p1 ∧ v2 = .slice o.A2 o.m2 o.p2 ∧ v3 = .slice o.A3 o.m3 o.p3 ∧ IsOb w o d ∧ ∀ g ∈ o.blks, B ≤ g := by
  obtain ⟨A1, q1, rfl, a1, a2, a3, a4⟩ := h.c1.shape (by decide)
  obtain ⟨A2, q2, rfl, b1, b2, b3, b4⟩ := h.c2.shape (by decide)
  obtain ⟨A3, q3, rfl, c1, c2, c3, c4⟩ := h.c3.shape (by decide)
  refine ⟨⟨A1, _, q1, A2, _, q2, A3, _, q3⟩, rfl, rfl, rfl, ⟨a3, b3, c3, ⟨a1, a2⟩, ⟨b1, b2⟩, ⟨c1, c2⟩⟩, fun g hg => ?_⟩
  unfold Ob.blks at hg
  simp only at hg
  rcases List.mem_append.1 hg with hg | hg
  · rcases a4 with ⟨rfl, _⟩ | ⟨g', rfl, h1, _⟩
    · cases hg
    · simp [blkOf] at hg; omega
  · rcases List.mem_append.1 hg with hg | hg
    · rcases b4 with ⟨rfl, _⟩ | ⟨g', rfl, h1, _⟩
      · cases hg
      · simp [blkOf] at hg; omega
    · rcases c4 with ⟨rfl, _⟩ | ⟨g', rfl, h1, _⟩
      · cases hg
      · simp [blkOf] at hg; omega
theorem isOb_nil (w : World) : IsOb w ⟨none, 0, 0, none, 0, 0, none, 0, 0⟩ od0 := ⟨Recs.nil_, Recs.nil_, Recs.nil_, by simp [maxLen], by simp [maxLen], by simp [maxLen]⟩
theorem rrep_len {α : Type} (f : Option (List UInt8) → α) (g : Option (List UInt8) → Option (List UInt8)) : ∀ (k : Nat) (st : Option (List UInt8)), (rrep f g k st).1.length ≤ k
  | 0, _ => Nat.le_refl _
  | _ + 1, none => by simp [rrep]
  | k + 1, some l => by
    show (_ :: _).length ≤ _
    have := rrep_len f g k (g (some l))
    simp only [List.length_cons]
    omega
theorem rcount_most (m : Nat) (st : Option (List UInt8)) : rcount m st ≤ m := by unfold rcount; split <;> omega
theorem dec_some {l : List UInt8} (h1 : decS l = some []) (h2 : objRight (decD l) = true) : dec l = some (decD l) := by unfold dec; rw [if_pos ⟨h1, h2⟩]
theorem dec_none {l : List UInt8} (h : ¬ (decS l = some [] ∧ objRight (decD l) = true)) : dec l = none := by unfold dec; rw [if_neg h]
theorem decOut_none {l : List UInt8} {w w' : World} (h : dec l = none) (ho : Only [] w w') : decOut l w (.returned (.tuple #[.agg #[.slice none 0 0, .slice none 0 0, .slice none 0 0], .int .i64 5])) w' := by
  unfold decOut
  rw [h]
  exact ⟨⟨none, 0, 0, none, 0, 0, none, 0, 0⟩, rfl, isOb_nil _, by simp, by simp, by simp, ho⟩
theorem decOut_some {l : List UInt8} {w w' : World} {o : Ob} (h : dec l = some (decD l)) (hi : IsOb w' o (decD l)) (ho : Only [] w w') : decOut l w (.returned (.tuple #[.agg #[.slice o.A1 o.m1 o.p1, .slice o.A2 o.m2 o.p2, .slice o.A3 o.m3 o.p3], .int .i64 0])) w' := by
  unfold decOut
  rw [h]
  refine ⟨o, rfl, hi, ?_, ?_, ?_, ho⟩
  · rw [← hi.n1]; exact Nat.le_trans (rrep_len _ _ _ _) (Nat.le_trans (rcount_most 32768 _) (by omega))
  · rw [← hi.n2]; exact Nat.le_trans (rrep_len _ _ _ _) (Nat.le_trans (rcount_most 4096 _) (by omega))
  · rw [← hi.n3]; exact Nat.le_trans (rrep_len _ _ _ _) (Nat.le_trans (rcount_most 4096 _) (by omega))
set_option maxHeartbeats 2000000 in
theorem decode_any (A : Option Addr) (n c : Nat) (l : List UInt8) (w : World) (hr : Bytes w w.heap.size A n l) (hn : n ≤ 1000000) :
    Calls Try.prog 38 #[.slice A n c] w fun x w' => decOut l w x w' := by
  have d1 : decide ((1048576 : Int) < (n : Int)) = false := decide_eq_false (by omega)
  have hbox := Blk.new w 57 #[.slice none 0 0, .slice none 0 0, .slice none 0 0]
  have ho1 : Only [] w (w.alloc (.cells #[.slice none 0 0, .slice none 0 0, .slice none 0 0] 57)) := (Only.refl _ _).alloc _
  have HRD := Lib.hid (read_any A n c _ l _ ((hr.only ho1 (by simp)).more ho1.size) (by omega))
  have HBOX := Lib.hid hbox
  have HO1 := Lib.hid ho1
  clear hr hbox ho1
  go_enter Try.func38, Try.ntmps38
  go_wp2_with fail
  refine HRD.out.mono ?_
  rintro x w2 ⟨p, rfl, hR2, ho2, hp2⟩
  have hpl := Rd.lt hR2
  have hp1 : w.heap.size < p := by rw [World.size_alloc] at hp2; omega
  have hD : Dec ((w2.alloc (.cells #[.pointer (some ⟨p, 0, none⟩)] 77)).alloc (.cells #[.slice none 0 0, .slice none 0 0, .slice none 0 0] 57)) p w2.heap.size (w2.heap.size + 1) (w2.heap.size + 2) (.slice none 0 0) (.slice none 0 0) (.slice none 0 0) (some l) od0 := by
    have hO := Blk.new (w2.alloc (.cells #[.pointer (some ⟨p, 0, none⟩)] 77)) 57 #[.slice none 0 0, .slice none 0 0, .slice none 0 0]
    rw [World.size_alloc] at hO
    exact ⟨hR2.later (((Only.refl [] w2).alloc _).alloc _) (by simp), (Blk.new w2 _ _).alloc _, hO, OwnR.nil_ _ _ _ _, OwnR.nil_ _ _ _ _, OwnR.nil_ _ _ _ _, by omega, by omega, by omega, by simp⟩
  have hB0 : Below p w2 ((w2.alloc (.cells #[.pointer (some ⟨p, 0, none⟩)] 77)).alloc (.cells #[.slice none 0 0, .slice none 0 0, .slice none 0 0] 57)) := Only.to_below (((Only.refl [] w2).alloc _).alloc _) (Nat.le_of_lt hpl) (by simp)
  have HB0 := Lib.hid hB0
  have h1 := some0_any p _ _ _ 32768 _ _ _ _ od0 _ hD rfl (by omega)
  rw [show ((32768 : Nat) : Int) = 32768 from rfl] at h1
  have hdd : decD l = ⟨(rq1 l).1, (rqe (rq1 l).2).1, (rqe (rqe (rq1 l).2).2).1⟩ := rfl
  have hss : decS l = (rqe (rqe (rq1 l).2).2).2 := rfl
  have hq1 : rq1 l = rrep rcd rcdl (rcount 32768 (some l)) (rcounted 32768 (some l)) := rfl
  rw [← hq1] at h1
  generalize rq1 l = q1 at *
  have H1 := Lib.hid h1
  clear h1 hq1
  have HOK := Lib.hid (HO1.out.trans ho2 (by simp))
  have HBX := Lib.hid (HBOX.out.only ho2 (by simp))
  clear hD hB0 HRD hR2
  go_wp2_with fail
  generalize hR : w2.heap.size = R at *
  have HR := Lib.hid hR
  clear hR
  refine H1.out.mono ?_
  rintro x w3 ⟨rfl, v1, hD3, hB3⟩
  have HB3 := Lib.hid (HB0.out.trans hB3)
  have x3 : w3.cell? ⟨R, 0, none⟩ = some (.pointer (some ⟨p, 0, none⟩)) := hD3.r.cell 0
  have h2 := some1_any p _ _ _ 4096 _ _ _ _ _ _ hD3 rfl (by omega)
  rw [show ((4096 : Nat) : Int) = 4096 from rfl] at h2
  have hq2 : rqe q1.2 = rrep ren renl (rcount 4096 q1.2) (rcounted 4096 q1.2) := rfl
  rw [← hq2] at h2
  generalize rqe q1.2 = q2 at *
  have H2 := Lib.hid h2
  clear h2 hq2
  clear H1 hD3 hB3
  go_wp2_with fail
  refine H2.out.mono ?_
  rintro x w4 ⟨rfl, v2, hD4, hB4⟩
  have HB4 := Lib.hid (HB3.out.trans hB4)
  have x4 : w4.cell? ⟨R, 0, none⟩ = some (.pointer (some ⟨p, 0, none⟩)) := hD4.r.cell 0
  have h3 := some2_any p _ _ _ 4096 _ _ _ _ _ _ hD4 rfl (by omega)
  rw [show ((4096 : Nat) : Int) = 4096 from rfl] at h3
  have hq3 : rqe q2.2 = rrep ren renl (rcount 4096 q2.2) (rcounted 4096 q2.2) := rfl
  rw [← hq3] at h3
  generalize rqe q2.2 = q3 at *
  have H3 := Lib.hid h3
  clear h3 hq3
  clear H2 hD4 hB4
  go_wp2_with fail
  refine H3.out.mono ?_
  rintro x w5 ⟨rfl, v3, hD5, hB5⟩
  have HB5 := Lib.hid (HB4.out.trans hB5)
  obtain ⟨o, rfl, rfl, rfl, hio, hbl⟩ := hD5.isOb
  have hE := end_any p _ w5 hD5.rd
  have x5 : w5.cell? ⟨R, 0, none⟩ = some (.pointer (some ⟨p, 0, none⟩)) := hD5.r.cell 0
  have y0 : w5.cell? ⟨R + 1, 0, none⟩ = some (.slice o.A1 o.m1 o.p1) := hD5.o.cell 0
  have y1 : w5.cell? ⟨R + 1, 1, none⟩ = some (.slice o.A2 o.m2 o.p2) := hD5.o.cell 1
  have y2 : w5.cell? ⟨R + 1, 2, none⟩ = some (.slice o.A3 o.m3 o.p3) := hD5.o.cell 2
  have hob5 := hD5.o
  have hdj : (⟨q1.1, q2.1, q3.1⟩ : OD) = decD l := hdd.symm
  have hio' : IsOb w5 o (decD l) := by rw [← hdj]; exact hio
  have hm : o.m1 ≤ 1000000 ∧ o.m2 ≤ 1000000 ∧ o.m3 ≤ 1000000 := by
    rw [← hio'.n1, ← hio'.n2, ← hio'.n3]
    exact ⟨Nat.le_trans (rrep_len _ _ _ _) (Nat.le_trans (rcount_most 32768 _) (by omega)), Nat.le_trans (rrep_len _ _ _ _) (Nat.le_trans (rcount_most 4096 _) (by omega)), Nat.le_trans (rrep_len _ _ _ _) (Nat.le_trans (rcount_most 4096 _) (by omega))⟩
  have hRT := right_any o (decD l) w5 hio' (by omega) (by omega) (by omega)
  have HRT := Lib.hid hRT
  have HIO := Lib.hid hio'
  have HBL := Lib.hid hbl
  have hbx5 := HBX.out.below HB5.out hp1
  have HO5 : Hid (Only [] w w5) := Lib.hid ⟨HB5.out.os.trans HOK.out.os, HB5.out.tape.trans HOK.out.tape, HB5.out.output.trans HOK.out.output, Nat.le_trans HOK.out.size HB5.out.size, fun i hi _ => (HB5.out.block i (by omega)).trans (HOK.out.block i hi (by simp))⟩
  have HBX5 := Lib.hid hbx5
  have HSS : Hid (decS l = q3.2) := Lib.hid hss
  have HOB := Lib.hid hob5
  clear hbx5 hRT hio hio' hbl hD5 hB5 hdj hdd hss x3 x4 H3 hob5
  unfold Ob.val at HRT
  obtain ⟨A1, m1, p1, A2, m2, p2, A3, m3, p3⟩ := o
  simp only at y0 y1 y2 HRT
  generalize q3.2 = sf at *
  by_cases hsf : sf = some []
  · subst hsf
    have HE : Hid (Calls Try.prog 72 #[.pointer (some ⟨p, 0, none⟩)] w5 fun e w' => e = .returned (.bool true) ∧ w5 = w') := hE
    clear hE
    cases hob : objRight (decD l)
    · rw [hob] at HRT
      have HDN := Lib.hid (dec_none (l := l) (fun h => by rw [hob] at h; cases h.2))
      clear hob
      go_wp2_with (first
        | (go_at_call 72; refine HE.out.mono ?_; rintro x wg ⟨rfl, rfl⟩)
        | (go_at_call 42; refine HRT.out.mono ?_; rintro x w6 ⟨rfl, ho6⟩; have hb6 := HBX5.out.only ho6 (by simp); have z0 : w6.cell? ⟨w.heap.size, 0, none⟩ = some (.slice none 0 0) := hb6.cell 0; have z1 : w6.cell? ⟨w.heap.size, 1, none⟩ = some (.slice none 0 0) := hb6.cell 1; have z2 : w6.cell? ⟨w.heap.size, 2, none⟩ = some (.slice none 0 0) := hb6.cell 2; have f0 : w6.frozen? ⟨w.heap.size, 0, none⟩ = false := hb6.frozen 0; have f1 : w6.frozen? ⟨w.heap.size, 1, none⟩ = false := hb6.frozen 1; have f2 : w6.frozen? ⟨w.heap.size, 2, none⟩ = false := hb6.frozen 2; have HO6 := Lib.hid (HO5.out.trans ho6 (by simp)); clear hb6))
      exact bodyPost_ret (v := .tuple #[.agg #[.slice none 0 0, .slice none 0 0, .slice none 0 0], .int .i64 5]) (by simp [results, Try.results38, go_sem, z0, z1, z2]) rfl (decOut_none HDN.out (((HO6.out.setCell (p := ⟨w.heap.size, 0, none⟩) (.inr (Nat.le_refl _)) _).setCell (p := ⟨w.heap.size, 1, none⟩) (.inr (Nat.le_refl _)) _).setCell (p := ⟨w.heap.size, 2, none⟩) (.inr (Nat.le_refl _)) _))
    · rw [hob] at HRT
      have HDS := Lib.hid (dec_some (l := l) HSS.out hob)
      clear hob
      go_wp2_with (first
        | (go_at_call 72; refine HE.out.mono ?_; rintro x wg ⟨rfl, rfl⟩)
        | (go_at_call 42; refine HRT.out.mono ?_; rintro x w6 ⟨rfl, ho6⟩; have hq6 := HOB.out.only ho6 (by simp); have v0 : w6.cell? ⟨R + 1, 0, none⟩ = some (.slice A1 m1 p1) := hq6.cell 0; have v1 : w6.cell? ⟨R + 1, 1, none⟩ = some (.slice A2 m2 p2) := hq6.cell 1; have v2 : w6.cell? ⟨R + 1, 2, none⟩ = some (.slice A3 m3 p3) := hq6.cell 2; have hb6 := HBX5.out.only ho6 (by simp); have z0 : w6.cell? ⟨w.heap.size, 0, none⟩ = some (.slice none 0 0) := hb6.cell 0; have z1 : w6.cell? ⟨w.heap.size, 1, none⟩ = some (.slice none 0 0) := hb6.cell 1; have z2 : w6.cell? ⟨w.heap.size, 2, none⟩ = some (.slice none 0 0) := hb6.cell 2; have f0 : w6.frozen? ⟨w.heap.size, 0, none⟩ = false := hb6.frozen 0; have f1 : w6.frozen? ⟨w.heap.size, 1, none⟩ = false := hb6.frozen 1; have f2 : w6.frozen? ⟨w.heap.size, 2, none⟩ = false := hb6.frozen 2; have HO6 := Lib.hid (HO5.out.trans ho6 (by simp)); have HI6 := Lib.hid (HIO.out.only ho6); clear hb6 hq6))
      have hoZ : Only [w.heap.size] w6 (((w6.setCell ⟨w.heap.size, 0, none⟩ (.slice A1 m1 p1)).setCell ⟨w.heap.size, 1, none⟩ (.slice A2 m2 p2)).setCell ⟨w.heap.size, 2, none⟩ (.slice A3 m3 p3)) := by
        refine Only.setCell (Only.setCell (Only.setCell (Only.refl _ _) ?_ _) ?_ _) ?_ _ <;> exact .inl (by simp)
      have hsR := HR.out
      have hio7 := HI6.out.only2 hoZ (fun g hg hm => by have := HBL.out g hg; rw [List.mem_singleton.1 hm] at this; omega)
      exact bodyPost_ret (v := .tuple #[.agg #[.slice A1 m1 p1, .slice A2 m2 p2, .slice A3 m3 p3], .int .i64 0]) (by simp [results, Try.results38, go_sem, z0, z1, z2]) rfl (decOut_some HDS.out hio7 (HO6.out.trans hoZ (by intro g hg; rw [List.mem_singleton.1 hg]; exact .inr (Nat.le_refl _))))
  · have hsb : (sf == some []) = false := by simp [hsf]
    rw [hsb] at hE
    have HE := Lib.hid hE
    have HDN := Lib.hid (dec_none (l := l) (fun h => hsf (by rw [← HSS.out]; exact h.1)))
    clear hE hsb hsf
    have z0 : w5.cell? ⟨w.heap.size, 0, none⟩ = some (.slice none 0 0) := HBX5.out.cell 0
    have z1 : w5.cell? ⟨w.heap.size, 1, none⟩ = some (.slice none 0 0) := HBX5.out.cell 1
    have z2 : w5.cell? ⟨w.heap.size, 2, none⟩ = some (.slice none 0 0) := HBX5.out.cell 2
    have f0 : w5.frozen? ⟨w.heap.size, 0, none⟩ = false := HBX5.out.frozen 0
    have f1 : w5.frozen? ⟨w.heap.size, 1, none⟩ = false := HBX5.out.frozen 1
    have f2 : w5.frozen? ⟨w.heap.size, 2, none⟩ = false := HBX5.out.frozen 2
    go_wp2_with (go_at_call 72; refine HE.out.mono ?_; rintro x wg ⟨rfl, rfl⟩)
    exact bodyPost_ret (v := .tuple #[.agg #[.slice none 0 0, .slice none 0 0, .slice none 0 0], .int .i64 5]) (by simp [results, Try.results38, go_sem, z0, z1, z2]) rfl (decOut_none HDN.out (((HO5.out.setCell (p := ⟨w.heap.size, 0, none⟩) (.inr (Nat.le_refl _)) _).setCell (p := ⟨w.heap.size, 1, none⟩) (.inr (Nat.le_refl _)) _).setCell (p := ⟨w.heap.size, 2, none⟩) (.inr (Nat.le_refl _)) _))
end Go.Proofs.Ytbeenfkmnchhbaa.Object
