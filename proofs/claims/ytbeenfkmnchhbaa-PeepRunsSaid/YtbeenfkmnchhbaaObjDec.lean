/- An object out of bytes: an instruction; the object that grows. -/
import Derived.Test.YtbeenfkmnchhbaaObjWriter
import Derived.Test.YtbeenfkmnchhbaaCodecR
import Derived.Deep.RegionLaw
namespace Go.Proofs.Ytbeenfkmnchhbaa.Object
open Go.RowKit Codec
set_option linter.unusedVariables false
set_option maxRecDepth 100000
def g2 (st : Option (List UInt8)) : Option (List UInt8) := rgot 2 st
def n2 (st : Option (List UInt8)) : Int := ((vle (rget 2 st) : Nat) : Int)
theorem n2_in (st : Option (List UInt8)) : 0 ≤ n2 st ∧ n2 st < 65536 := by have := small_lt st; unfold n2; omega
/-- what is read as an instruction; what is left -/
def rcd (st : Option (List UInt8)) : Cd := ⟨n2 st, n2 (g2 st) - 1, n2 (g2 (g2 st)), n2 (g2 (g2 (g2 st))), s64 (vle (rget 8 (g2 (g2 (g2 (g2 st))))))⟩
def rcdl (st : Option (List UInt8)) : Option (List UInt8) := rgot 8 (g2 (g2 (g2 (g2 st))))
def ren (st : Option (List UInt8)) : En := ⟨str (rtext 255 st), s64 (vle (rget 8 (rtexted 255 st)))⟩
def renl (st : Option (List UInt8)) : Option (List UInt8) := rgot 8 (rtexted 255 st)
/-- things, as many, as long as the reader is good -/
def rrep {α : Type} (f : Option (List UInt8) → α) (g : Option (List UInt8) → Option (List UInt8)) : Nat → Option (List UInt8) → List α × Option (List UInt8)
  | 0, st => ([], st)
  | _ + 1, none => ([], none)
  | k + 1, some l => (f (some l) :: (rrep f g k (g (some l))).1, (rrep f g k (g (some l))).2)
theorem small2 (p : Nat) (st : Option (List UInt8)) (w : World) (h : Rd w p st) :
    Calls Try.prog 52 #[.pointer (some ⟨p, 0, none⟩)] w fun e w' => e = .returned (.int .i64 (n2 st)) ∧ Rd w' p (g2 st) ∧ Only [p] w w' := small_r p st w h
theorem Rd.lt {w : World} {p : Nat} {st : Option (List UInt8)} (h : Rd w p st) : p < w.heap.size := by obtain ⟨_, _, _, hb, _⟩ := h; exact hb.lt
set_option maxHeartbeats 2000000 in
theorem code_any (p : Nat) (st : Option (List UInt8)) (w : World) (h : Rd w p st) :
    Calls Try.prog 83 #[.pointer (some ⟨p, 0, none⟩)] w fun x w' => x = .returned (rcd st).val ∧ Rd w' p (rcdl st) ∧ Only [p] w w' := by
  have hpl := Rd.lt h
  unfold rcd rcdl Cd.val
  simp only
  have HS := Lib.hid small2
  have hi := n2_in (g2 st)
  have e1 : IntKind.i64.wrap (n2 (g2 st) - 1) = n2 (g2 st) - 1 := IntWalk.i64_in _ (by omega)
  have h1 := h.later ((Only.refl [] w).alloc (.cells #[.int .i64 0, .int .i64 0, .int .i64 0, .int .i64 0, .int .i64 0] 59)) (by simp)
  have hz1 := Blk.new w 59 #[.int .i64 0, .int .i64 0, .int .i64 0, .int .i64 0, .int .i64 0]
  have HO1 := Lib.hid ((Only.refl [p] w).alloc (.cells #[.int .i64 0, .int .i64 0, .int .i64 0, .int .i64 0, .int .i64 0] 59))
  have HZ1 := Lib.hid hz1
  have C1 := Lib.hid (HS.out p st _ h1)
  clear h h1 hz1
  go_enter Try.func83, Try.ntmps83
  go_wp2_with fail
  generalize hRz : w.heap.size = Rz at *
  have HRZ := Lib.hid hRz
  clear hRz
  refine C1.out.mono ?_
  rintro x w2 ⟨rfl, hR2, ho2⟩
  have HZ2 := Lib.hid (HZ1.out.only ho2 (by simp; omega))
  have HO2 := Lib.hid (HO1.out.trans ho2 (fun g hg => .inl hg))
  have hs2 : Rz < w2.heap.size := HZ2.out.lt
  have h3 := hR2.later ((Only.refl [] w2).alloc (.cells #[.int .i64 (n2 st), .int .i64 0, .int .i64 0, .int .i64 0, .int .i64 0] 59)) (by simp)
  have HG3 := Lib.hid (Blk.new w2 59 #[.int .i64 (n2 st), .int .i64 0, .int .i64 0, .int .i64 0, .int .i64 0])
  have HZ3 := Lib.hid (HZ2.out.alloc (.cells #[.int .i64 (n2 st), .int .i64 0, .int .i64 0, .int .i64 0, .int .i64 0] 59))
  have HO3 := Lib.hid (HO2.out.alloc (.cells #[.int .i64 (n2 st), .int .i64 0, .int .i64 0, .int .i64 0, .int .i64 0] 59))
  have C3 := Lib.hid (HS.out p (g2 st) _ h3)
  clear hR2 ho2 h3 C1
  go_wp2_with fail
  refine C3.out.mono ?_
  rintro x w4 ⟨rfl, hR4, ho4⟩
  have hsp : w2.heap.size ∉ [p] := by simp; omega
  generalize hG : w2.heap.size = G at *
  have hg4 := HG3.out.only ho4 hsp
  have hz4 := HZ3.out.only ho4 (by simp; omega)
  have HO4 := Lib.hid (HO3.out.trans ho4 (fun g hg => .inl hg))
  have f4 : w4.frozen? ⟨G, 1, none⟩ = false := hg4.frozen 1
  have c4 : w4.cell? ⟨G, 1, none⟩ = some (.int .i64 0) := hg4.cell 1
  have h5 := hR4.later ((Only.refl [G] w4).setCell (p := ⟨G, 1, none⟩) (.inl (by simp)) (.int .i64 (n2 (g2 st) - 1))) (by simp; omega)
  have HG5 := Lib.hid (hg4.set_ 1 (.int .i64 (n2 (g2 st) - 1)))
  have HZ5 := Lib.hid (hz4.far (p := ⟨G, 1, none⟩) (by simp; omega) (.int .i64 (n2 (g2 st) - 1)))
  have HO5 := Lib.hid (HO4.out.setCell (p := ⟨G, 1, none⟩) (.inr (by simp only; have := HRZ.out; omega)) (.int .i64 (n2 (g2 st) - 1)))
  have C5 := Lib.hid (HS.out p (g2 (g2 st)) _ h5)
  clear hR4 ho4 h5 hg4 hz4 C3
  go_wp2_with fail
  refine C5.out.mono ?_
  rintro x w6 ⟨rfl, hR6, ho6⟩
  have HG6 := Lib.hid (HG5.out.only ho6 hsp)
  have HZ6 := Lib.hid (HZ5.out.only ho6 (by simp; omega))
  have HO6 := Lib.hid (HO5.out.trans ho6 (fun g hg => .inl hg))
  have C6 := Lib.hid (HS.out p _ _ hR6)
  clear hR6 ho6 C5
  go_wp2_with fail
  refine C6.out.mono ?_
  rintro x w7 ⟨rfl, hR7, ho7⟩
  have hg7 := HG6.out.only ho7 hsp
  have hz7 := HZ6.out.only ho7 (by simp; omega)
  have HO7 := Lib.hid (HO6.out.trans ho7 (fun g hg => .inl hg))
  have f72 : w7.frozen? ⟨G, 2, none⟩ = false := hg7.frozen 2
  have c72 : w7.cell? ⟨G, 2, none⟩ = some (.int .i64 0) := hg7.cell 2
  have f73 : w7.frozen? ⟨G, 3, none⟩ = false := hg7.frozen 3
  have c73 : w7.cell? ⟨G, 3, none⟩ = some (.int .i64 0) := hg7.cell 3
  have hoS : ∀ u v, Only [G] w7 ((w7.setCell ⟨G, 2, none⟩ u).setCell ⟨G, 3, none⟩ v) := fun u v => ((Only.refl [G] w7).setCell (p := ⟨G, 2, none⟩) (.inl (by simp)) u).setCell (p := ⟨G, 3, none⟩) (.inl (by simp)) v
  have h8 := hR7.later (hoS (.int .i64 (n2 (g2 (g2 st)))) (.int .i64 (n2 (g2 (g2 (g2 st)))))) (by simp; omega)
  have HG8 := Lib.hid ((hg7.set_ 2 (.int .i64 (n2 (g2 (g2 st))))).set_ 3 (.int .i64 (n2 (g2 (g2 (g2 st))))))
  have HZ8 := Lib.hid (hz7.only (hoS (.int .i64 (n2 (g2 (g2 st)))) (.int .i64 (n2 (g2 (g2 (g2 st)))))) (by simp; omega))
  have HO8 := Lib.hid (HO7.out.trans (hoS (.int .i64 (n2 (g2 (g2 st)))) (.int .i64 (n2 (g2 (g2 (g2 st)))))) (fun g hg => .inr (by rw [List.mem_singleton.1 hg]; have := HRZ.out; omega)))
  have C8 := Lib.hid (num_r p _ _ h8)
  clear hR7 ho7 hg7 hz7 hoS h8 C6
  go_wp2_with fail
  refine C8.out.mono ?_
  rintro x w9 ⟨rfl, hR9, ho9⟩
  have hg9 := HG8.out.only ho9 hsp
  have hz9 := HZ8.out.only ho9 (by simp; omega)
  have HO9 := Lib.hid (HO8.out.trans ho9 (fun g hg => .inl hg))
  have g0 : w9.cell? ⟨G, 0, none⟩ = some (.int .i64 (n2 st)) := hg9.cell 0
  have g1 : w9.cell? ⟨G, 1, none⟩ = some (.int .i64 (n2 (g2 st) - 1)) := hg9.cell 1
  have g2' : w9.cell? ⟨G, 2, none⟩ = some (.int .i64 (n2 (g2 (g2 st)))) := hg9.cell 2
  have g3 : w9.cell? ⟨G, 3, none⟩ = some (.int .i64 (n2 (g2 (g2 (g2 st))))) := hg9.cell 3
  have g4 : w9.cell? ⟨G, 4, none⟩ = some (.int .i64 0) := hg9.cell 4
  have f4' : w9.frozen? ⟨G, 4, none⟩ = false := hg9.frozen 4
  have z0 : w9.cell? ⟨Rz, 0, none⟩ = some (.int .i64 0) := hz9.cell 0
  have z1 : w9.cell? ⟨Rz, 1, none⟩ = some (.int .i64 0) := hz9.cell 1
  have z2 : w9.cell? ⟨Rz, 2, none⟩ = some (.int .i64 0) := hz9.cell 2
  have z3 : w9.cell? ⟨Rz, 3, none⟩ = some (.int .i64 0) := hz9.cell 3
  have z4 : w9.cell? ⟨Rz, 4, none⟩ = some (.int .i64 0) := hz9.cell 4
  have y0 : w9.frozen? ⟨Rz, 0, none⟩ = false := hz9.frozen 0
  have y1 : w9.frozen? ⟨Rz, 1, none⟩ = false := hz9.frozen 1
  have y2 : w9.frozen? ⟨Rz, 2, none⟩ = false := hz9.frozen 2
  have y3 : w9.frozen? ⟨Rz, 3, none⟩ = false := hz9.frozen 3
  have y4 : w9.frozen? ⟨Rz, 4, none⟩ = false := hz9.frozen 4
  have hne : Rz ≠ G := by omega
  have hne2 : G ≠ Rz := by omega
  have HR9 := Lib.hid hR9
  clear hR9 ho9 hg9 hz9 C8
  go_wp2_with fail
  have hoZ : Only [G, Rz] w9 (((((((w9.setCell ⟨G, 4, none⟩ (.int .i64 (s64 (vle (rget 8 (g2 (g2 (g2 (g2 st))))))))).setCell ⟨Rz, 0, none⟩ (.int .i64 (n2 st))).setCell ⟨Rz, 1, none⟩ (.int .i64 (n2 (g2 st) - 1))).setCell ⟨Rz, 2, none⟩ (.int .i64 (n2 (g2 (g2 st))))).setCell ⟨Rz, 3, none⟩ (.int .i64 (n2 (g2 (g2 (g2 st)))))).setCell ⟨Rz, 4, none⟩ (.int .i64 (s64 (vle (rget 8 (g2 (g2 (g2 (g2 st)))))))))) := by
    refine Only.setCell (Only.setCell (Only.setCell (Only.setCell (Only.setCell (Only.setCell (Only.refl _ _) ?_ _) ?_ _) ?_ _) ?_ _) ?_ _) ?_ _ <;> exact .inl (by simp)
  exact bodyPost_ret (v := .agg #[.int .i64 (n2 st), .int .i64 (n2 (g2 st) - 1), .int .i64 (n2 (g2 (g2 st))), .int .i64 (n2 (g2 (g2 (g2 st)))), .int .i64 (s64 (vle (rget 8 (g2 (g2 (g2 (g2 st)))))))]) (by simp [results, Try.results83, go_sem, z0, z1, z2, z3, z4]) rfl
    ⟨rfl, HR9.out.later hoZ (by simp; omega), HO9.out.trans hoZ (by intro g hg; simp at hg; have := HRZ.out; omega)⟩
end Go.Proofs.Ytbeenfkmnchhbaa.Object
