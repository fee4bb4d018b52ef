/- An object out of bytes, by the document: the object that grows. PRINTED by wip/gen_objrdec.py -/
import Derived.Test.YtbeenfkmnchhbaaObjRBytes
import Derived.Test.YtbeenfkmnchhbaaCodecRefR
import Derived.Deep.RegionLaw
namespace Go.Proofs.Ytbeenfkmnchhbaa.Object
open Go.RowKit Codec
set_option linter.unusedVariables false
set_option maxRecDepth 100000
/-- the document's reader, and the object that grows -/
structure RDec (w : World) (p O B : Nat) (v1 v2 v3 : Value) (st : Option (List UInt8)) (d : OD) : Prop where
  rd : RRd w p st
  o : Blk w O 57 #[v1, v2, v3]
  c1 : OwnR 59 5 w B v1 d.code.length (d.code.map Cd.row)
  c2 : OwnR 73 2 w B v2 d.ents.length (d.ents.map En.row)
  c3 : OwnR 75 2 w B v3 d.calls.length (d.calls.map En.rowC)
  pO : p < O
  OB : O < B
  BB : B ≤ w.heap.size
theorem RRd.lt {w : World} {p : Nat} {st : Option (List UInt8)} (h : RRd w p st) : p < w.heap.size := by obtain ⟨_, _, _, hb, _⟩ := h; exact hb.lt
theorem rrd_cell {w : World} {p : Nat} {st : Option (List UInt8)} (h : RRd w p st) : w.cell? ⟨p, 1, none⟩ = some (.bool st.isNone) := by obtain ⟨A, n, c, hb, _⟩ := h; exact hb.cell 1
section
variable {w w' : World} {p O B : Nat} {v1 v2 v3 : Value} {st st' : Option (List UInt8)} {d : OD}
theorem RDec.reader (h : RDec w p O B v1 v2 v3 st d) (hr : RRd w' p st') (ho : Only [p] w w') : RDec w' p O B v1 v2 v3 st' d := by
  have h1 := h.pO
  have h2 := h.OB
  exact ⟨hr, h.o.only ho (by simp; omega), h.c1.only ho (fun g hg => by have := (h.c1.lt g hg).1; simp; omega), h.c2.only ho (fun g hg => by have := (h.c2.lt g hg).1; simp; omega), h.c3.only ho (fun g hg => by have := (h.c3.lt g hg).1; simp; omega), h1, h2, Nat.le_trans h.BB ho.size⟩
theorem RDec.drew (h : RDec w p O B v1 v2 v3 st d) : RDec w.drew p O B v1 v2 v3 st d := ⟨h.rd, h.o, h.c1.drew, h.c2.drew, h.c3.drew, h.pO, h.OB, h.BB⟩
/-- a new block above all, and what turns in it -/
theorem RDec.far {G : Nat} (h : RDec w p O B v1 v2 v3 st d) (ho : Only [G] w w') (hB : B ≤ G) (hG : ∀ g ∈ ownL v1 ++ (ownL v2 ++ ownL v3), g ≠ G) : RDec w' p O B v1 v2 v3 st d := by
  have h1 := h.pO
  have h2 := h.OB
  exact ⟨h.rd.later ho (by simp; omega), h.o.only ho (by simp; omega), h.c1.only ho (fun g hg => by simpa using hG g (by simp [hg])), h.c2.only ho (fun g hg => by simpa using hG g (by simp [hg])), h.c3.only ho (fun g hg => by simpa using hG g (by simp [hg])), h1, h2, Nat.le_trans h.BB ho.size⟩
theorem RDec.alloc (h : RDec w p O B v1 v2 v3 st d) (x : Obj) : RDec (w.alloc x) p O B v1 v2 v3 st d :=
  have ho : Only [] w (w.alloc x) := (Only.refl [] w).alloc x
  ⟨h.rd.later ho (by simp), h.o.only ho (by simp), h.c1.only ho (by simp), h.c2.only ho (by simp), h.c3.only ho (by simp), h.pO, h.OB, Nat.le_trans h.BB ho.size⟩
theorem RDec.lts (h : RDec w p O B v1 v2 v3 st d) : ∀ g ∈ ownL v1 ++ (ownL v2 ++ ownL v3), g < w.heap.size := by
  intro g hg
  rcases List.mem_append.1 hg with hg | hg
  · exact (h.c1.lt g hg).2
  · rcases List.mem_append.1 hg with hg | hg
    · exact (h.c2.lt g hg).2
    · exact (h.c3.lt g hg).2
end
theorem rcount_small (st : Option (List UInt8)) : (rcount 65535 st : Int) = n2 st ∧ rcounted 65535 st = g2 st := by
  have := small_lt st
  unfold rcount rcounted n2 g2
  rw [if_pos (by omega), if_pos (by omega)]
  exact ⟨rfl, rfl⟩
theorem rsmall2 (p : Nat) (st : Option (List UInt8)) (w : World) (h : RRd w p st) :
    Calls Try.prog 56 #[.pointer (some ⟨p, 0, none⟩), .int .i64 65535] w fun e w' => e = .returned (.int .i64 (n2 st)) ∧ RRd w' p (g2 st) ∧ Only [p] w w' := by
  have := rref_count p 65535 st w h
  rw [(rcount_small st).1, (rcount_small st).2] at this
  exact this
/-- code: one more -/
theorem rdec_put0 {wd wc : World} {p O B : Nat} {v1 v2 v3 v' : Value} {st : Option (List UInt8)} {d : OD} (x : Cd) (h : RDec wc p O B v1 v2 v3 st d) (hE : ExtR 59 5 wc wd B v1 v' (d.code.length + 1) (d.code.map Cd.row ++ [Cd.row x])) :
    RDec (wd.setCell ⟨O, 0, none⟩ v') p O B v' v2 v3 st { d with code := d.code ++ [x] } ∧ Below p wc (wd.setCell ⟨O, 0, none⟩ v') ∧ wd.cell? ⟨O, 0, none⟩ = some v1 ∧ wd.frozen? ⟨O, 0, none⟩ = false := by
  have h1 := h.pO
  have h3 := h.OB
  have hv := h.c1.lt
  have hod := h.o.only hE.only (row_off h.c1 O h.o (by decide))
  have hp1 := h.rd.later hE.only (fun g hg => by have := (hv g hg).1; omega)
  have hset : Only [O] wd (wd.setCell ⟨O, 0, none⟩ v') := (Only.refl [O] wd).setCell (p := ⟨O, 0, none⟩) (.inl (by simp)) v'
  have hbB := h.BB
  have hsz := hE.only.size
  have hsz2 := hset.size
  refine ⟨⟨hp1.later hset (by simp; omega), hod.set_ 0 v', by have := hE.own.only hset (fun g hg hm => by rw [List.mem_singleton.1 hm] at hg; exact row_off hE.own O hod (by decide) hg); simpa using this, (h.c2.only hE.only (fun g hg => rows_off h.c2 h.c1 (by decide) g hg)).only hset (fun g hg hm => by rw [List.mem_singleton.1 hm] at hg; exact row_off (h.c2.only hE.only (fun g hg => rows_off h.c2 h.c1 (by decide) g hg)) O hod (by decide) hg), (h.c3.only hE.only (fun g hg => rows_off h.c3 h.c1 (by decide) g hg)).only hset (fun g hg hm => by rw [List.mem_singleton.1 hm] at hg; exact row_off (h.c3.only hE.only (fun g hg => rows_off h.c3 h.c1 (by decide) g hg)) O hod (by decide) hg), h1, h3, by omega⟩, ?_, hod.cell 0, hod.frozen 0⟩
  refine (hE.only.to_below (B := p) (by omega) (fun g hg => by have := (hv g hg).1; omega)).trans (hset.to_below (B := p) (by omega) (by simp; omega))
/-- ents: one more -/
theorem rdec_put1 {wd wc : World} {p O B : Nat} {v1 v2 v3 v' : Value} {st : Option (List UInt8)} {d : OD} (x : En) (h : RDec wc p O B v1 v2 v3 st d) (hE : ExtR 73 2 wc wd B v2 v' (d.ents.length + 1) (d.ents.map En.row ++ [En.row x])) :
    RDec (wd.setCell ⟨O, 1, none⟩ v') p O B v1 v' v3 st { d with ents := d.ents ++ [x] } ∧ Below p wc (wd.setCell ⟨O, 1, none⟩ v') ∧ wd.cell? ⟨O, 1, none⟩ = some v2 ∧ wd.frozen? ⟨O, 1, none⟩ = false := by
  have h1 := h.pO
  have h3 := h.OB
  have hv := h.c2.lt
  have hod := h.o.only hE.only (row_off h.c2 O h.o (by decide))
  have hp1 := h.rd.later hE.only (fun g hg => by have := (hv g hg).1; omega)
  have hset : Only [O] wd (wd.setCell ⟨O, 1, none⟩ v') := (Only.refl [O] wd).setCell (p := ⟨O, 1, none⟩) (.inl (by simp)) v'
  have hbB := h.BB
  have hsz := hE.only.size
  have hsz2 := hset.size
  refine ⟨⟨hp1.later hset (by simp; omega), hod.set_ 1 v', (h.c1.only hE.only (fun g hg => rows_off h.c1 h.c2 (by decide) g hg)).only hset (fun g hg hm => by rw [List.mem_singleton.1 hm] at hg; exact row_off (h.c1.only hE.only (fun g hg => rows_off h.c1 h.c2 (by decide) g hg)) O hod (by decide) hg), by have := hE.own.only hset (fun g hg hm => by rw [List.mem_singleton.1 hm] at hg; exact row_off hE.own O hod (by decide) hg); simpa using this, (h.c3.only hE.only (fun g hg => rows_off h.c3 h.c2 (by decide) g hg)).only hset (fun g hg hm => by rw [List.mem_singleton.1 hm] at hg; exact row_off (h.c3.only hE.only (fun g hg => rows_off h.c3 h.c2 (by decide) g hg)) O hod (by decide) hg), h1, h3, by omega⟩, ?_, hod.cell 1, hod.frozen 1⟩
  refine (hE.only.to_below (B := p) (by omega) (fun g hg => by have := (hv g hg).1; omega)).trans (hset.to_below (B := p) (by omega) (by simp; omega))
/-- calls: one more -/
theorem rdec_put2 {wd wc : World} {p O B : Nat} {v1 v2 v3 v' : Value} {st : Option (List UInt8)} {d : OD} (x : En) (h : RDec wc p O B v1 v2 v3 st d) (hE : ExtR 75 2 wc wd B v3 v' (d.calls.length + 1) (d.calls.map En.rowC ++ [En.rowC x])) :
    RDec (wd.setCell ⟨O, 2, none⟩ v') p O B v1 v2 v' st { d with calls := d.calls ++ [x] } ∧ Below p wc (wd.setCell ⟨O, 2, none⟩ v') ∧ wd.cell? ⟨O, 2, none⟩ = some v3 ∧ wd.frozen? ⟨O, 2, none⟩ = false := by
  have h1 := h.pO
  have h3 := h.OB
  have hv := h.c3.lt
  have hod := h.o.only hE.only (row_off h.c3 O h.o (by decide))
  have hp1 := h.rd.later hE.only (fun g hg => by have := (hv g hg).1; omega)
  have hset : Only [O] wd (wd.setCell ⟨O, 2, none⟩ v') := (Only.refl [O] wd).setCell (p := ⟨O, 2, none⟩) (.inl (by simp)) v'
  have hbB := h.BB
  have hsz := hE.only.size
  have hsz2 := hset.size
  refine ⟨⟨hp1.later hset (by simp; omega), hod.set_ 2 v', (h.c1.only hE.only (fun g hg => rows_off h.c1 h.c3 (by decide) g hg)).only hset (fun g hg hm => by rw [List.mem_singleton.1 hm] at hg; exact row_off (h.c1.only hE.only (fun g hg => rows_off h.c1 h.c3 (by decide) g hg)) O hod (by decide) hg), (h.c2.only hE.only (fun g hg => rows_off h.c2 h.c3 (by decide) g hg)).only hset (fun g hg hm => by rw [List.mem_singleton.1 hm] at hg; exact row_off (h.c2.only hE.only (fun g hg => rows_off h.c2 h.c3 (by decide) g hg)) O hod (by decide) hg), by have := hE.own.only hset (fun g hg hm => by rw [List.mem_singleton.1 hm] at hg; exact row_off hE.own O hod (by decide) hg); simpa using this, h1, h3, by omega⟩, ?_, hod.cell 2, hod.frozen 2⟩
  refine (hE.only.to_below (B := p) (by omega) (fun g hg => by have := (hv g hg).1; omega)).trans (hset.to_below (B := p) (by omega) (by simp; omega))
/-- in a round: a new instruction's block, too -/
structure RG (w1 w : World) (p O B : Nat) (v1 v2 v3 : Value) (st : Option (List UInt8)) (d : OD) (G : Nat) (cs : Array Value) : Prop where
  dec : RDec w p O B v1 v2 v3 st d
  blk : Blk w G 59 cs
  low : Below p w1 w
  BG : B ≤ G
  off : ∀ g ∈ ownL v1 ++ (ownL v2 ++ ownL v3), g ≠ G
section
variable {w1 w w' : World} {p O B G : Nat} {v1 v2 v3 : Value} {st st' : Option (List UInt8)} {d : OD} {cs : Array Value}
theorem RDec.pw (h : RDec w p O B v1 v2 v3 st d) : p ≤ w.heap.size := by have := h.pO; have := h.OB; have := h.BB; omega
theorem RG.new (h : RDec w p O B v1 v2 v3 st d) (hl : Below p w1 w) (cs : Array Value) : RG w1 (w.alloc (.cells cs 59)) p O B v1 v2 v3 st d w.heap.size cs :=
  ⟨h.alloc _, Blk.new w _ _, hl.trans (((Only.refl [] w).alloc _).to_below h.pw (by simp)), h.BB, fun g hg => Nat.ne_of_lt (h.lts g hg)⟩
theorem RG.call (h : RG w1 w p O B v1 v2 v3 st d G cs) (hr : RRd w' p st') (ho : Only [p] w w') : RG w1 w' p O B v1 v2 v3 st' d G cs :=
  ⟨h.dec.reader hr ho, h.blk.only ho (by have := h.BG; have := h.dec.pO; have := h.dec.OB; simp; omega), h.low.trans (ho.to_below h.dec.pw (by simp)), h.BG, h.off⟩
theorem RG.set_ (h : RG w1 w p O B v1 v2 v3 st d G cs) (i : Nat) (v : Value) : RG w1 (w.setCell ⟨G, i, none⟩ v) p O B v1 v2 v3 st d G (cs.setIfInBounds i v) :=
  have ho : Only [G] w (w.setCell ⟨G, i, none⟩ v) := (Only.refl [G] w).setCell (p := ⟨G, i, none⟩) (.inl (by simp)) v
  ⟨h.dec.far ho h.BG h.off, h.blk.set_ i v, h.low.trans (ho.to_below h.dec.pw (by have := h.BG; have := h.dec.pO; have := h.dec.OB; simp; omega)), h.BG, h.off⟩
end
end Go.Proofs.Ytbeenfkmnchhbaa.Object
