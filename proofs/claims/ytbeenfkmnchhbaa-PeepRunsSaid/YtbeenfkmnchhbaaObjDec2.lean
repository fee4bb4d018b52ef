/- The object that grows, in object.Decode: its closures, and object.some over each. PRINTED by wip/gen_objdec2.py -/
import Derived.Test.YtbeenfkmnchhbaaObjDec
import Derived.Test.YtbeenfkmnchhbaaRow
namespace Go.Proofs.Ytbeenfkmnchhbaa.Object
open Go.RowKit Codec
set_option linter.unusedVariables false
set_option maxRecDepth 100000
theorem code_info : (Try.prog.info? 59).map (fun i => (i.zero, i.size, i.bytes)) = some (some (.agg #[.int .i64 0, .int .i64 0, .int .i64 0, .int .i64 0, .int .i64 0]), 5, 40) := by kernel_rfl
theorem ent_info : (Try.prog.info? 73).map (fun i => (i.zero, i.size, i.bytes)) = some (some (.agg #[.string ⟨#[]⟩, .int .i64 0]), 2, 24) := by kernel_rfl
theorem call_info : (Try.prog.info? 75).map (fun i => (i.zero, i.size, i.bytes)) = some (some (.agg #[.int .i64 0, .string ⟨#[]⟩]), 2, 24) := by kernel_rfl
theorem row_off {w : World} {base e size n : Nat} {v : Value} {rows : List (List Value)} (h : OwnR e size w base v n rows) (g : Nat) {t : TypeId} {cs : Array Value} (hb : Blk w g t cs) (ht : t ≠ e) : g ∉ ownL v := by
  intro hg
  obtain ⟨_, h0⟩ := h.own
  rcases h0 with ⟨rfl, _⟩ | ⟨g', cap, cur, rfl, _, hh, _⟩
  · simp [ownL, Value.ownBlock] at hg
  · simp [ownL, Value.ownBlock] at hg
    subst hg
    exact Blk.ne_ (t := e) hh hb (fun h => ht h.symm) rfl
theorem rows_off {w : World} {b1 b2 e1 e2 s1 s2 n1 n2 : Nat} {v1 v2 : Value} {r1 r2 : List (List Value)} (h1 : OwnR e1 s1 w b1 v1 n1 r1) (h2 : OwnR e2 s2 w b2 v2 n2 r2) (ht : e1 ≠ e2) : ∀ g ∈ ownL v1, g ∉ ownL v2 := by
  intro g hg
  obtain ⟨_, h0⟩ := h1.own
  rcases h0 with ⟨rfl, _⟩ | ⟨g', cap, cur, rfl, _, hh, _⟩
  · simp [ownL, Value.ownBlock] at hg
  · simp [ownL, Value.ownBlock] at hg
    subst hg
    exact row_off h2 g hh ht
/-- the reader, the object that grows, and the variables that hold them -/
structure Dec (w : World) (p R O B : Nat) (v1 v2 v3 : Value) (st : Option (List UInt8)) (d : OD) : Prop where
  rd : Rd w p st
  r : Blk w R 77 #[.pointer (some ⟨p, 0, none⟩)]
  o : Blk w O 57 #[v1, v2, v3]
  c1 : OwnR 59 5 w B v1 d.code.length (d.code.map Cd.row)
  c2 : OwnR 73 2 w B v2 d.ents.length (d.ents.map En.row)
  c3 : OwnR 75 2 w B v3 d.calls.length (d.calls.map En.rowC)
  pR : p < R
  pO : p < O
  pB : p < B
  BB : B ≤ w.heap.size
section
variable {w w' : World} {p R O B : Nat} {v1 v2 v3 : Value} {st st' : Option (List UInt8)} {d : OD}
theorem Dec.reader (h : Dec w p R O B v1 v2 v3 st d) (hr : Rd w' p st') (ho : Only [p] w w') : Dec w' p R O B v1 v2 v3 st' d := by
  have h1 := h.pR
  have h2 := h.pO
  have h3 := h.pB
  exact ⟨hr, h.r.only ho (by simp; omega), h.o.only ho (by simp; omega), h.c1.only ho (fun g hg => by have := (h.c1.lt g hg).1; simp; omega), h.c2.only ho (fun g hg => by have := (h.c2.lt g hg).1; simp; omega), h.c3.only ho (fun g hg => by have := (h.c3.lt g hg).1; simp; omega), h1, h2, h3, Nat.le_trans h.BB ho.size⟩
theorem Dec.drew (h : Dec w p R O B v1 v2 v3 st d) : Dec w.drew p R O B v1 v2 v3 st d := ⟨h.rd, h.r, h.o, h.c1.drew, h.c2.drew, h.c3.drew, h.pR, h.pO, h.pB, h.BB⟩
theorem below_of {S : List Nat} (h : Only S w w') (hp : p ≤ w.heap.size) (hS : ∀ g ∈ S, p ≤ g) : Below p w w' := h.to_below hp hS
end

/-- code: one more -/
theorem dec_put0 {wd wc : World} {p R O B : Nat} {v1 v2 v3 v' : Value} {st : Option (List UInt8)} {d : OD} (x : Cd) (h : Dec wc p R O B v1 v2 v3 st d) (hE : ExtR 59 5 wc wd B v1 v' (d.code.length + 1) (d.code.map Cd.row ++ [Cd.row x])) :
    Dec (wd.setCell ⟨O, 0, none⟩ v') p R O B v' v2 v3 st { d with code := d.code ++ [x] } ∧ Below p wc (wd.setCell ⟨O, 0, none⟩ v') ∧ wd.cell? ⟨O, 0, none⟩ = some v1 ∧ wd.frozen? ⟨O, 0, none⟩ = false ∧ wd.cell? ⟨R, 0, none⟩ = some (.pointer (some ⟨p, 0, none⟩)) := by
  have h1 := h.pR
  have h2 := h.pO
  have h3 := h.pB
  have hv := h.c1.lt
  have hod := h.o.only hE.only (row_off h.c1 O h.o (by decide))
  have hrd := h.r.only hE.only (row_off h.c1 R h.r (by decide))
  have hRO : R ≠ O := Blk.ne_ hrd hod (by decide)
  have hp1 := h.rd.later hE.only (fun g hg => by have := (hv g hg).1; omega)
  have hset : Only [O] wd (wd.setCell ⟨O, 0, none⟩ v') := (Only.refl [O] wd).setCell (p := ⟨O, 0, none⟩) (.inl (by simp)) v'
  have hbB := h.BB
  have hsz := hE.only.size
  have hsz2 := hset.size
  refine ⟨⟨hp1.later hset (by simp; omega), hrd.only hset (by simpa using hRO), hod.set_ 0 v', by have := hE.own.only hset (fun g hg hm => by rw [List.mem_singleton.1 hm] at hg; exact row_off hE.own O hod (by decide) hg); simpa using this, (h.c2.only hE.only (fun g hg => rows_off h.c2 h.c1 (by decide) g hg)).only hset (fun g hg hm => by rw [List.mem_singleton.1 hm] at hg; exact row_off (h.c2.only hE.only (fun g hg => rows_off h.c2 h.c1 (by decide) g hg)) O hod (by decide) hg), (h.c3.only hE.only (fun g hg => rows_off h.c3 h.c1 (by decide) g hg)).only hset (fun g hg hm => by rw [List.mem_singleton.1 hm] at hg; exact row_off (h.c3.only hE.only (fun g hg => rows_off h.c3 h.c1 (by decide) g hg)) O hod (by decide) hg), h1, h2, h3, by omega⟩, ?_, hod.cell 0, hod.frozen 0, hrd.cell 0⟩
  refine (hE.only.to_below (B := p) (by omega) (fun g hg => by have := (hv g hg).1; omega)).trans (hset.to_below (B := p) (by omega) (by simp; omega))
/-- ents: one more -/
theorem dec_put1 {wd wc : World} {p R O B : Nat} {v1 v2 v3 v' : Value} {st : Option (List UInt8)} {d : OD} (x : En) (h : Dec wc p R O B v1 v2 v3 st d) (hE : ExtR 73 2 wc wd B v2 v' (d.ents.length + 1) (d.ents.map En.row ++ [En.row x])) :
    Dec (wd.setCell ⟨O, 1, none⟩ v') p R O B v1 v' v3 st { d with ents := d.ents ++ [x] } ∧ Below p wc (wd.setCell ⟨O, 1, none⟩ v') ∧ wd.cell? ⟨O, 1, none⟩ = some v2 ∧ wd.frozen? ⟨O, 1, none⟩ = false ∧ wd.cell? ⟨R, 0, none⟩ = some (.pointer (some ⟨p, 0, none⟩)) := by
  have h1 := h.pR
  have h2 := h.pO
  have h3 := h.pB
  have hv := h.c2.lt
  have hod := h.o.only hE.only (row_off h.c2 O h.o (by decide))
  have hrd := h.r.only hE.only (row_off h.c2 R h.r (by decide))
  have hRO : R ≠ O := Blk.ne_ hrd hod (by decide)
  have hp1 := h.rd.later hE.only (fun g hg => by have := (hv g hg).1; omega)
  have hset : Only [O] wd (wd.setCell ⟨O, 1, none⟩ v') := (Only.refl [O] wd).setCell (p := ⟨O, 1, none⟩) (.inl (by simp)) v'
  have hbB := h.BB
  have hsz := hE.only.size
  have hsz2 := hset.size
  refine ⟨⟨hp1.later hset (by simp; omega), hrd.only hset (by simpa using hRO), hod.set_ 1 v', (h.c1.only hE.only (fun g hg => rows_off h.c1 h.c2 (by decide) g hg)).only hset (fun g hg hm => by rw [List.mem_singleton.1 hm] at hg; exact row_off (h.c1.only hE.only (fun g hg => rows_off h.c1 h.c2 (by decide) g hg)) O hod (by decide) hg), by have := hE.own.only hset (fun g hg hm => by rw [List.mem_singleton.1 hm] at hg; exact row_off hE.own O hod (by decide) hg); simpa using this, (h.c3.only hE.only (fun g hg => rows_off h.c3 h.c2 (by decide) g hg)).only hset (fun g hg hm => by rw [List.mem_singleton.1 hm] at hg; exact row_off (h.c3.only hE.only (fun g hg => rows_off h.c3 h.c2 (by decide) g hg)) O hod (by decide) hg), h1, h2, h3, by omega⟩, ?_, hod.cell 1, hod.frozen 1, hrd.cell 0⟩
  refine (hE.only.to_below (B := p) (by omega) (fun g hg => by have := (hv g hg).1; omega)).trans (hset.to_below (B := p) (by omega) (by simp; omega))
/-- calls: one more -/
theorem dec_put2 {wd wc : World} {p R O B : Nat} {v1 v2 v3 v' : Value} {st : Option (List UInt8)} {d : OD} (x : En) (h : Dec wc p R O B v1 v2 v3 st d) (hE : ExtR 75 2 wc wd B v3 v' (d.calls.length + 1) (d.calls.map En.rowC ++ [En.rowC x])) :
    Dec (wd.setCell ⟨O, 2, none⟩ v') p R O B v1 v2 v' st { d with calls := d.calls ++ [x] } ∧ Below p wc (wd.setCell ⟨O, 2, none⟩ v') ∧ wd.cell? ⟨O, 2, none⟩ = some v3 ∧ wd.frozen? ⟨O, 2, none⟩ = false ∧ wd.cell? ⟨R, 0, none⟩ = some (.pointer (some ⟨p, 0, none⟩)) := by
  have h1 := h.pR
  have h2 := h.pO
  have h3 := h.pB
  have hv := h.c3.lt
  have hod := h.o.only hE.only (row_off h.c3 O h.o (by decide))
  have hrd := h.r.only hE.only (row_off h.c3 R h.r (by decide))
  have hRO : R ≠ O := Blk.ne_ hrd hod (by decide)
  have hp1 := h.rd.later hE.only (fun g hg => by have := (hv g hg).1; omega)
  have hset : Only [O] wd (wd.setCell ⟨O, 2, none⟩ v') := (Only.refl [O] wd).setCell (p := ⟨O, 2, none⟩) (.inl (by simp)) v'
  have hbB := h.BB
  have hsz := hE.only.size
  have hsz2 := hset.size
  refine ⟨⟨hp1.later hset (by simp; omega), hrd.only hset (by simpa using hRO), hod.set_ 2 v', (h.c1.only hE.only (fun g hg => rows_off h.c1 h.c3 (by decide) g hg)).only hset (fun g hg hm => by rw [List.mem_singleton.1 hm] at hg; exact row_off (h.c1.only hE.only (fun g hg => rows_off h.c1 h.c3 (by decide) g hg)) O hod (by decide) hg), (h.c2.only hE.only (fun g hg => rows_off h.c2 h.c3 (by decide) g hg)).only hset (fun g hg hm => by rw [List.mem_singleton.1 hm] at hg; exact row_off (h.c2.only hE.only (fun g hg => rows_off h.c2 h.c3 (by decide) g hg)) O hod (by decide) hg), by have := hE.own.only hset (fun g hg hm => by rw [List.mem_singleton.1 hm] at hg; exact row_off hE.own O hod (by decide) hg); simpa using this, h1, h2, h3, by omega⟩, ?_, hod.cell 2, hod.frozen 2, hrd.cell 0⟩
  refine (hE.only.to_below (B := p) (by omega) (fun g hg => by have := (hv g hg).1; omega)).trans (hset.to_below (B := p) (by omega) (by simp; omega))
set_option maxHeartbeats 2000000 in
theorem clo0_any (p R O B : Nat) (v1 v2 v3 : Value) (st : Option (List UInt8)) (d : OD) (w : World) (h : Dec w p R O B v1 v2 v3 st d) (hn : d.code.length ≤ 100000) :
    Calls Try.prog 82 #[.pointer (some ⟨O, 0, none⟩), .pointer (some ⟨R, 0, none⟩)] w fun x w' => x = .returned (.tuple #[]) ∧ ∃ v', Dec w' p R O B v' v2 v3 (rcdl st) { d with code := d.code ++ [rcd st] } ∧ Below p w w' := by
  have hC := code_any p st w.drew h.rd
  have hpw := Rd.lt h.rd
  unfold Cd.val at hC
  have a0 : w.drew.cell? ⟨O, 0, none⟩ = some v1 := h.o.cell 0
  have a1 : w.drew.cell? ⟨R, 0, none⟩ = some (.pointer (some ⟨p, 0, none⟩)) := h.r.cell 0
  have HD := Lib.hid h.drew
  have HC := Lib.hid hC
  have HROW : Hid (Cd.row (rcd st) = [.int .i64 (rcd st).op, .int .i64 (rcd st).a, .int .i64 (rcd st).b, .int .i64 (rcd st).c, .int .i64 (rcd st).n]) := rfl
  clear hC h
  generalize rcd st = c at *
  obtain ⟨op, ca, cb, cc, cn⟩ := c
  simp only at HC HROW
  go_enter Try.func82, Try.ntmps82
  go_wp2_with fail
  go_region_law (first
    | (go_simp; go_at_call 83; (refine HC.out.mono ?_; rintro x wc ⟨rfl, hRc, hoc⟩; have hDc := HD.out.reader hRc hoc; have gc0 : wc.cell? ⟨O, 0, none⟩ = some v1 := hDc.o.cell 0; have gc1 : wc.cell? ⟨R, 0, none⟩ = some (.pointer (some ⟨p, 0, none⟩)) := hDc.r.cell 0; have gd0 : (wc.alloc (.cells #[.int .i64 op, .int .i64 ca, .int .i64 cb, .int .i64 cc, .int .i64 cn] 59)).cell? ⟨O, 0, none⟩ = some v1 := (hDc.o.alloc _).cell 0; have hbb := hDc.BB; have hoc2 := hoc))
    | (refine step_append1 (w := wc) rfl (.tmp 3) (.tmp 6) 53 rfl Try.underlying53 code_info rfl (by decide) rfl hDc.c1 rfl rfl (row := [.int .i64 op, .int .i64 ca, .int .i64 cb, .int .i64 cc, .int .i64 cn]) rfl rfl (by intro u hu; simp at hu; rcases hu with rfl | rfl | rfl | rfl | rfl <;> rfl) (by omega) (by unfold maxLen; omega) (by omega) ?_; intro v' wd hE; obtain ⟨A', cap', rfl, _⟩ := hE.own.shape (by decide); have hP := dec_put0 ⟨op, ca, cb, cc, cn⟩ hDc hE; have cd := hP.2.2.1; have fd := hP.2.2.2.1; have HP := Lib.hid hP; clear hP; have HOC := Lib.hid hoc2))
  all_goals
    go_wp2_with fail
    go_end0
    exact ⟨rfl, _, HP.out.1, (Below.trans ((Below.refl p w).drew) (HOC.out.to_below (B := p) (Nat.le_of_lt hpw) (by simp))).trans HP.out.2.1⟩
set_option maxHeartbeats 2000000 in
theorem clo1_any (p R O B : Nat) (v1 v2 v3 : Value) (st : Option (List UInt8)) (d : OD) (w : World) (h : Dec w p R O B v1 v2 v3 st d) (hn : d.ents.length ≤ 100000) :
    Calls Try.prog 84 #[.pointer (some ⟨R, 0, none⟩), .pointer (some ⟨O, 0, none⟩)] w fun x w' => x = .returned (.tuple #[]) ∧ ∃ v', Dec w' p R O B v1 v' v3 (renl st) { d with ents := d.ents ++ [ren st] } ∧ Below p w w' := by
  have hT := text_r p 255 st w h.rd
  have hpw := Rd.lt h.rd
  have a1 : w.cell? ⟨R, 0, none⟩ = some (.pointer (some ⟨p, 0, none⟩)) := h.r.cell 0
  have hren : ren st = ⟨str (rtext 255 st), s64 (vle (rget 8 (rtexted 255 st)))⟩ := rfl
  have hrenl : renl st = rgot 8 (rtexted 255 st) := rfl
  rw [hren, hrenl]
  clear hren hrenl
  have HN := Lib.hid (fun w h => num_r p (rtexted 255 st) w h)
  have HT := Lib.hid hT
  have HD := Lib.hid h
  clear hT h
  generalize str (rtext 255 st) = nm at *
  generalize s64 (vle (rget 8 (rtexted 255 st))) = z at *
  generalize rgot 8 (rtexted 255 st) = stl at *
  generalize rtexted 255 st = stt at *
  go_enter Try.func84, Try.ntmps84
  go_wp2_with (go_at_call 85; refine HT.out.mono ?_; rintro x w2 ⟨rfl, hR2, ho2⟩)
  have hD2 := HD.out.reader hR2 ho2
  have HD2 := Lib.hid hD2.drew
  have HO2 := Lib.hid ho2
  have b0 : w2.drew.cell? ⟨O, 1, none⟩ = some v2 := hD2.o.cell 1
  have b1 : w2.drew.cell? ⟨R, 0, none⟩ = some (.pointer (some ⟨p, 0, none⟩)) := hD2.r.cell 0
  have hNC := HN.out w2.drew hR2
  have HNC := Lib.hid hNC
  clear hNC hD2 hR2 ho2
  go_region_law (first
    | (go_simp; go_at_call 53; (refine HNC.out.mono ?_; rintro x wc ⟨rfl, hRc, hoc⟩; have hDc := HD2.out.reader hRc hoc; have gc0 : wc.cell? ⟨O, 1, none⟩ = some v2 := hDc.o.cell 1; have gc1 : wc.cell? ⟨R, 0, none⟩ = some (.pointer (some ⟨p, 0, none⟩)) := hDc.r.cell 0; have gd0 : (wc.alloc (.cells #[.string nm, .int .i64 z] 73)).cell? ⟨O, 1, none⟩ = some v2 := (hDc.o.alloc _).cell 1; have hbb := hDc.BB; have hoc2 := hoc))
    | (refine step_append1 (w := wc) rfl (.tmp 6) (.tmp 11) 54 rfl Try.underlying54 ent_info rfl (by decide) rfl hDc.c2 rfl rfl (row := [.string nm, .int .i64 z]) rfl rfl (by intro u hu; simp at hu; rcases hu with rfl | rfl <;> rfl) (by omega) (by unfold maxLen; omega) (by omega) ?_; intro v' wd hE; obtain ⟨A', cap', rfl, _⟩ := hE.own.shape (by decide); have hP := dec_put1 ⟨nm, z⟩ hDc hE; have cd := hP.2.2.1; have fd := hP.2.2.2.1; have HP := Lib.hid hP; clear hP; have HOC := Lib.hid hoc2))
  all_goals
    go_wp2_with fail
    go_end0
    have hs2 := HO2.out.size
    exact ⟨rfl, _, HP.out.1, ((HO2.out.to_below (B := p) (Nat.le_of_lt hpw) (by simp)).trans (Below.trans ((Below.refl p w2).drew) (HOC.out.to_below (B := p) (by show p ≤ w2.heap.size; omega) (by simp)))).trans HP.out.2.1⟩
set_option maxHeartbeats 2000000 in
theorem clo2_any (p R O B : Nat) (v1 v2 v3 : Value) (st : Option (List UInt8)) (d : OD) (w : World) (h : Dec w p R O B v1 v2 v3 st d) (hn : d.calls.length ≤ 100000) :
    Calls Try.prog 86 #[.pointer (some ⟨R, 0, none⟩), .pointer (some ⟨O, 0, none⟩)] w fun x w' => x = .returned (.tuple #[]) ∧ ∃ v', Dec w' p R O B v1 v2 v' (renl st) { d with calls := d.calls ++ [ren st] } ∧ Below p w w' := by
  have hT := text_r p 255 st w h.rd
  have hpw := Rd.lt h.rd
  have a1 : w.cell? ⟨R, 0, none⟩ = some (.pointer (some ⟨p, 0, none⟩)) := h.r.cell 0
  have hren : ren st = ⟨str (rtext 255 st), s64 (vle (rget 8 (rtexted 255 st)))⟩ := rfl
  have hrenl : renl st = rgot 8 (rtexted 255 st) := rfl
  rw [hren, hrenl]
  clear hren hrenl
  have HN := Lib.hid (fun w h => num_r p (rtexted 255 st) w h)
  have HT := Lib.hid hT
  have HD := Lib.hid h
  clear hT h
  generalize str (rtext 255 st) = nm at *
  generalize s64 (vle (rget 8 (rtexted 255 st))) = z at *
  generalize rgot 8 (rtexted 255 st) = stl at *
  generalize rtexted 255 st = stt at *
  go_enter Try.func86, Try.ntmps86
  go_wp2_with (go_at_call 85; refine HT.out.mono ?_; rintro x w2 ⟨rfl, hR2, ho2⟩)
  have hD2 := HD.out.reader hR2 ho2
  have HD2 := Lib.hid hD2.drew
  have HO2 := Lib.hid ho2
  have b0 : w2.drew.cell? ⟨O, 2, none⟩ = some v3 := hD2.o.cell 2
  have b1 : w2.drew.cell? ⟨R, 0, none⟩ = some (.pointer (some ⟨p, 0, none⟩)) := hD2.r.cell 0
  have hNC := HN.out w2.drew hR2
  have HNC := Lib.hid hNC
  clear hNC hD2 hR2 ho2
  go_region_law (first
    | (go_simp; go_at_call 53; (refine HNC.out.mono ?_; rintro x wc ⟨rfl, hRc, hoc⟩; have hDc := HD2.out.reader hRc hoc; have gc0 : wc.cell? ⟨O, 2, none⟩ = some v3 := hDc.o.cell 2; have gc1 : wc.cell? ⟨R, 0, none⟩ = some (.pointer (some ⟨p, 0, none⟩)) := hDc.r.cell 0; have gd0 : (wc.alloc (.cells #[.int .i64 z, .string nm] 75)).cell? ⟨O, 2, none⟩ = some v3 := (hDc.o.alloc _).cell 2; have hbb := hDc.BB; have hoc2 := hoc))
    | (refine step_append1 (w := wc) rfl (.tmp 6) (.tmp 11) 55 rfl Try.underlying55 call_info rfl (by decide) rfl hDc.c3 rfl rfl (row := [.int .i64 z, .string nm]) rfl rfl (by intro u hu; simp at hu; rcases hu with rfl | rfl <;> rfl) (by omega) (by unfold maxLen; omega) (by omega) ?_; intro v' wd hE; obtain ⟨A', cap', rfl, _⟩ := hE.own.shape (by decide); have hP := dec_put2 ⟨nm, z⟩ hDc hE; have cd := hP.2.2.1; have fd := hP.2.2.2.1; have HP := Lib.hid hP; clear hP; have HOC := Lib.hid hoc2))
  all_goals
    go_wp2_with fail
    go_end0
    have hs2 := HO2.out.size
    exact ⟨rfl, _, HP.out.1, ((HO2.out.to_below (B := p) (Nat.le_of_lt hpw) (by simp)).trans (Below.trans ((Below.refl p w2).drew) (HOC.out.to_below (B := p) (by show p ≤ w2.heap.size; omega) (by simp)))).trans HP.out.2.1⟩
end Go.Proofs.Ytbeenfkmnchhbaa.Object
