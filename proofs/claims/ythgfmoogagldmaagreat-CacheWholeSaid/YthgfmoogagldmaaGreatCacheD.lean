/- CacheD: A cache in memory: none, Get, Entries, Evicted, Free, Down; and of none; A cache, opened: out of a journal's groups. -/
import Derived.Test.YthgfmoogagldmaaGreatRanges
import Derived.Test.YthgfmoogagldmaaGreatCacheBq
import Derived.Test.YthgfmoogagldmaaGreatJournalF
import Derived.Test.YthgfmoogagldmaaGreatCacheC
set_option linter.unusedVariables false
set_option maxRecDepth 100000
namespace Go.Proofs.YthgfmoogagldmaaGreat.Cache
open Go.RowKit Go.Maps Go.Shelf Journal Disk
structure IsC (w : World) (cq : Nat) (J : Value) (T : List Nat) (m bb ba : Nat) (x : XS) (ev : Nat) : Prop where
  blk : Blk w cq 88 #[J, .map (some bb), .map (some ba), .int .i64 (x.nx : Int), .int .i64 (ev : Int)]
  idx : IsX w T m bb ba x
  far : cq ∉ T
def foundG : Option (Nat × Ent) → Value
  | some a => .tuple #[.string (str a.2.2), .bool true]
  | none => .tuple #[.string ⟨#[]⟩, .bool false]
section
variable {w w' : World} {cq m bb ba ev p g b q base : Nat} {J v : Value} {T : List Nat} {x : XS} {js : JS} {ss : List Sl}
theorem IsC.only (h : IsC w cq J T m bb ba x ev) {S : List Nat} (ho : Only S w w') (hS : ∀ k ∈ cq :: T, k ∉ S) : IsC w' cq J T m bb ba x ev :=
  ⟨h.blk.only ho (hS cq (by simp)), h.idx.only ho (fun k hk => hS k (by simp [hk])), h.far⟩
theorem IsC.only0 (h : IsC w cq J T m bb ba x ev) (ho : Only [] w w') : IsC w' cq J T m bb ba x ev := h.only ho (by simp)
theorem eql_mapC (r : Option Nat) (w : World) : (binOp .eql 84 (.map r) (.map none)).run Tryz.prog w = .ok (.bool r.isNone) w := by cases r <;> kernel_rfl
theorem cnone_any {w : World} {cq ba : Nat} (h : w.cell? ⟨cq, 2, none⟩ = some (.map (some ba))) : Calls Tryz.prog 95 #[.pointer (some ⟨cq, 0, none⟩)] w fun y w' => y = .returned (.bool false) ∧ w' = w := by
  have hq := eql_mapC (some ba) w
  go_enter Tryz.func95, Tryz.ntmps95
  go_wp2_with fail
  go_ret
  exact ⟨rfl, rfl⟩
def NoneC (w : World) (C : Value) : Prop := ∀ wx, Only [] w wx → Calls Tryz.prog 95 #[C] wx fun x w' => x = .returned (.bool true) ∧ w' = wx
theorem NoneC.only {C : Value} (h : NoneC w C) (ho : Only [] w w') : NoneC w' C := fun wx hx => h wx (ho.trans hx (by simp))
theorem cget_any (h : IsC w cq J T m bb ba x ev) (k : List UInt8) (hk : k.length ≤ 1000000) : Calls Tryz.prog 41 #[.pointer (some ⟨cq, 0, none⟩), .string (str k)] w fun y w' => y = .returned (foundG (findX x k)) ∧ Only [] w w' := by
  have c1 := h.blk.cell 1
  have c2 := h.blk.cell 2
  have HN := Lib.hid (cnone_any (w := w) (cq := cq) (ba := ba) c2)
  have HFI := Lib.hid (find_any k h.idx hk c1 c2)
  have HX := Lib.hid h.idx
  obtain ⟨z, hz⟩ : ∃ z, findX x k = z := ⟨_, rfl⟩
  rw [hz] at HFI ⊢
  have HZ := Lib.hid hz
  have HC2 := Lib.hid c2
  clear h c1 c2 hz
  cases z with
  | none =>
    have HFI2 : Hid (Calls Tryz.prog 96 #[.pointer (some ⟨cq, 1, none⟩), .string (str k)] w fun y w' => y = .returned (.tuple #[.int .i64 0, .bool false]) ∧ Only [] w w') := Lib.hid HFI.out
    clear HFI
    go_enter Tryz.func41, Tryz.ntmps41
    go_wp2_with (first
      | (go_at_call 95; refine HN.out.mono ?_; rintro y w2 ⟨rfl, hw2⟩; have hw2 := hw2.symm; subst hw2)
      | (go_at_call 96; refine HFI2.out.mono ?_; rintro y w2 ⟨rfl, ho2⟩; have HO2 := Lib.hid ho2; clear ho2))
    exact bodyPost_ret (v := .tuple #[.string ⟨#[]⟩, .bool false]) (by simp [results, Tryz.results41, go_sem]) rfl ⟨rfl, HO2.out⟩
  | some a =>
    obtain ⟨an, ak, av⟩ := a
    have HFI2 : Hid (Calls Tryz.prog 96 #[.pointer (some ⟨cq, 1, none⟩), .string (str k)] w fun y w' => y = .returned (.tuple #[.int .i64 (an : Int), .bool true]) ∧ Only [] w w') := Lib.hid HFI.out
    clear HFI
    obtain ⟨ha, hak⟩ := findX_some HZ.out
    obtain ⟨f, hf0, _, hfe⟩ := HX.out.all
    have hfa := hfe _ ha
    have hal := HX.out.ok.lt _ ha
    have hsm := HX.out.small
    have HL : Hid (∀ w2, Only [] w w2 → (Instr.lookup 84 (.map (some ba)) (.int .i64 (an : Int)) false).run Tryz.prog w2 = .ok (.agg #[.string (str ak), .string (str av)]) w2 ∧ w2.cell? ⟨cq, 2, none⟩ = some (.map (some ba))) := Lib.hid (fun w2 ho => ⟨run_look1' (hf0.only ho (by simp)) lawN Tryz.underlying84 (zeroE w2) (keyN (i := an) (by simp only at hal; omega)) hfa, ho.cell HC2.out (by simp)⟩)
    clear ha hak hf0 hfe hfa hal hsm
    go_enter Tryz.func41, Tryz.ntmps41
    go_wp2_with (first
      | (go_at_call 95; refine HN.out.mono ?_; rintro y w2 ⟨rfl, hw2⟩; have hw2 := hw2.symm; subst hw2)
      | (go_at_call 96; refine HFI2.out.mono ?_; rintro y w2 ⟨rfl, ho2⟩; have HO2 := Lib.hid ho2; obtain ⟨l1, l2⟩ := HL.out w2 ho2; have hfd := field1 w2 (str ak) (str av); clear ho2))
    exact bodyPost_ret (v := .tuple #[.string (str av), .bool true]) (by simp [results, Tryz.results41, go_sem]) rfl ⟨rfl, HO2.out⟩
theorem centries_any (h : IsC w cq J T m bb ba x ev) : Calls Tryz.prog 44 #[.pointer (some ⟨cq, 0, none⟩)] w fun y w' => ∃ v, y = .returned v ∧ OwnR 69 2 w' w.heap.size v x.L.length (x.L.map entRow) ∧ Only [] w w' := by
  have c2 := h.blk.cell 2
  have HN := Lib.hid (cnone_any (w := w) (cq := cq) (ba := ba) c2)
  have HL := Lib.hid (list_any h.idx c2 (h.blk.cell 3))
  clear h c2
  go_enter Tryz.func44, Tryz.ntmps44
  go_wp2_with (first
    | (go_at_call 95; refine HN.out.mono ?_; rintro y w2 ⟨rfl, hw2⟩; have hw2 := hw2.symm; subst hw2)
    | (go_at_call 99; refine HL.out.mono ?_; rintro y w2 ⟨vv, rfl, hown, ho2⟩))
  go_ret
  exact ⟨_, rfl, hown, ho2⟩
theorem cdown_any (h : IsC w cq (.pointer (some ⟨q, 0, none⟩)) T m bb ba x ev) (hj : IsJ w p g b q base js v ss) : Calls Tryz.prog 47 #[.pointer (some ⟨cq, 0, none⟩)] w fun y w' => y = .returned (.bool js.off) ∧ w' = w := by
  have c0 : w.cell? ⟨cq, 0, none⟩ = some (.pointer (some ⟨q, 0, none⟩)) := h.blk.cell 0
  have HN := Lib.hid (cnone_any (w := w) (cq := cq) (ba := ba) (h.blk.cell 2))
  have HD := Lib.hid (jdown_is hj)
  clear h hj
  go_enter Tryz.func47, Tryz.ntmps47
  go_wp2_with (first
    | (go_at_call 95; refine HN.out.mono ?_; rintro y w2 ⟨rfl, hw2⟩; have hw2 := hw2.symm; subst hw2)
    | (go_at_call 19; refine HD.out.mono ?_; rintro y w2 ⟨rfl, hw2⟩; have hw2 := hw2.symm; subst hw2))
  go_ret
  exact ⟨rfl, rfl⟩
theorem cevicted_any (h : IsC w cq J T m bb ba x ev) : Calls Tryz.prog 45 #[.pointer (some ⟨cq, 0, none⟩)] w fun y w' => y = .returned (.int .i64 (ev : Int)) ∧ w' = w := by
  have c4 : w.cell? ⟨cq, 4, none⟩ = some (.int .i64 (ev : Int)) := h.blk.cell 4
  have HN := Lib.hid (cnone_any (w := w) (cq := cq) (ba := ba) (h.blk.cell 2))
  clear h
  go_enter Tryz.func45, Tryz.ntmps45
  go_wp2_with (go_at_call 95; refine HN.out.mono ?_; rintro y w2 ⟨rfl, hw2⟩; have hw2 := hw2.symm; subst hw2)
  go_ret
  exact ⟨rfl, rfl⟩
theorem cfree_any (h : IsC w cq (.pointer (some ⟨q, 0, none⟩)) T m bb ba x ev) (hj : IsJ w p g b q base js v ss) (hn : ss.length ≤ 1000000) {z : Int} (hz : js.half.room - usedJ js = z) (hz2 : IntKind.i64.wrap z = z) : Calls Tryz.prog 46 #[.pointer (some ⟨cq, 0, none⟩)] w fun y w' => y = .returned (.int .i64 z) ∧ Only [] w w' := by
  have c0 : w.cell? ⟨cq, 0, none⟩ = some (.pointer (some ⟨q, 0, none⟩)) := h.blk.cell 0
  have HN := Lib.hid (cnone_any (w := w) (cq := cq) (ba := ba) (h.blk.cell 2))
  have HR := Lib.hid (fun wx (hx : wx = w) => (show Calls Tryz.prog 33 #[.pointer (some ⟨q, 0, none⟩)] wx fun x w' => x = .returned (.int .i64 js.half.room) ∧ w' = wx by subst hx; exact room_is hj))
  have hj2 : ∀ wx, Only [] w wx → IsJ wx p g b q base js v ss := fun wx ho => hj.only0 ho
  have HU := Lib.hid (fun wx ho => used_is (hj2 wx ho) hn)
  have HR2 := Lib.hid (fun wx ho => room_is (hj2 wx ho))
  subst hz
  have HZ2 := Lib.hid hz2
  clear hz2
  generalize js.half.room = R at *
  generalize usedJ js = U at *
  clear h hj hj2 HR
  go_enter Tryz.func46, Tryz.ntmps46
  go_upto_region 3 with (go_at_call 95; refine HN.out.mono ?_; rintro y w2 ⟨rfl, hw2⟩; have hw2 := hw2.symm; subst hw2)
  have hS : w.drew.cell? ⟨cq, 0, none⟩ = some (.pointer (some ⟨q, 0, none⟩)) ∧ Only [] w w.drew := ⟨c0, (Only.refl [] w).drew⟩
  refine wp_region_hand (S := (fun Y => Y.cell? ⟨cq, 0, none⟩ = some (.pointer (some ⟨q, 0, none⟩)) ∧ Only [] w Y)) (by kernel_rfl) ?_
  refine takeV 0 (.pointer (some ⟨cq, 0, none⟩)) rfl rfl (by kernel_rfl) (fun Y hY => by obtain ⟨y0, y1⟩ := hY; go_simp) hS ?_; simp only [s0A, s0B, s0C]
  refine takeV 1 (.pointer (some ⟨cq, 0, none⟩)) rfl rfl (by kernel_rfl) (fun Y hY => by obtain ⟨y0, y1⟩ := hY; go_simp) hS ?_; simp only [s0A, s0B, s0C]
  refine takeV 2 (.pointer (some ⟨cq, 0, none⟩)) rfl rfl (by kernel_rfl) (fun Y hY => by obtain ⟨y0, y1⟩ := hY; go_simp) hS ?_; simp only [s0A, s0B, s0C]
  refine takeV 3 (.pointer (some ⟨q, 0, none⟩)) rfl rfl (by kernel_rfl) (fun Y hY => by obtain ⟨y0, y1⟩ := hY; go_simp) hS ?_; simp only [s0A, s0B, s0C]
  refine takeV 5 (.pointer (some ⟨cq, 0, none⟩)) rfl rfl (by kernel_rfl) (fun Y hY => by obtain ⟨y0, y1⟩ := hY; go_simp) hS ?_; simp only [s0A, s0B, s0C]
  refine takeV 6 (.pointer (some ⟨cq, 0, none⟩)) rfl rfl (by kernel_rfl) (fun Y hY => by obtain ⟨y0, y1⟩ := hY; go_simp) hS ?_; simp only [s0A, s0B, s0C]
  refine takeV 7 (.pointer (some ⟨cq, 0, none⟩)) rfl rfl (by kernel_rfl) (fun Y hY => by obtain ⟨y0, y1⟩ := hY; go_simp) hS ?_; simp only [s0A, s0B, s0C]
  refine takeV 8 (.pointer (some ⟨q, 0, none⟩)) rfl rfl (by kernel_rfl) (fun Y hY => by obtain ⟨y0, y1⟩ := hY; go_simp) hS ?_; simp only [s0A, s0B, s0C]
  refine callW (i := 4) rfl (by kernel_rfl) rfl (by rfl) ?_ (HR2.out _ hS.2) ?_
  · go_simp
  rintro y w2 ⟨rfl, hw2⟩
  have hw2 := hw2.symm
  subst hw2
  refine ⟨_, rfl, hS, ?_⟩
  simp only [s0A, s0B, s0C]
  refine callW (i := 9) rfl (by kernel_rfl) rfl (by rfl) ?_ (HU.out _ hS.2) ?_
  · go_simp
  rintro y w3 ⟨rfl, hw3⟩
  have hw3 := hw3.symm
  subst hw3
  refine ⟨_, rfl, hS, ?_⟩
  simp only [s0A, s0B, s0C]
  refine takeV 10 (.int .i64 (R - U)) rfl rfl (by kernel_rfl) (fun Y hY => by obtain ⟨y0, y1⟩ := hY; have hz := HZ2.out; go_simp) hS ?_; simp only [s0A, s0B, s0C]
  refine takeV 11 (.int .i64 (R - U)) rfl rfl (by kernel_rfl) (fun Y hY => by obtain ⟨y0, y1⟩ := hY; go_simp) hS ?_; simp only [s0A, s0B, s0C]
  refine wpAnyH_done (by kernel_rfl) ?_ _
  go_wp2_with fail
  go_ret
  exact ⟨rfl, hS.2⟩
end
end Go.Proofs.YthgfmoogagldmaaGreat.Cache
namespace Go.Proofs.YthgfmoogagldmaaGreat.Cache
open Go.RowKit Go.Maps Go.Shelf Journal Disk
def loadX : List (List UInt8) → XS → Option XS
  | [], x => some x
  | l :: t, x => match unp l with
    | none => none
    | some e => loadX t (addX x e)
theorem loadX_cons {ls : List (List UInt8)} {j : Nat} {l : List UInt8} {xj x : XS} (hj : ls[j]? = some l) (h : loadX (ls.drop j) xj = some x) : ∃ e, unp l = some e ∧ loadX (ls.drop (j + 1)) (addX xj e) = some x := by
  obtain ⟨h1, h2⟩ := List.getElem?_eq_some_iff.1 hj
  rw [List.drop_eq_getElem_cons h1, h2] at h
  unfold loadX at h
  cases hu : unp l with
  | none => rw [hu] at h; cases h
  | some e => rw [hu] at h; exact ⟨e, rfl, h⟩
theorem unp_short {l : List UInt8} {e : List UInt8 × List UInt8} (h : unp l = some e) : e.1.length ≤ l.length := by
  unfold unp at h
  split at h
  · cases h
  · injection h with h
    rw [← h]
    simp
    omega
section
variable {w w' : World} {cq m bb ba ev p g b q base cap : Nat} {J v : Value} {T W : List Nat} {x : XS} {d : DS} {js : JS} {ss : List Sl}
set_option maxHeartbeats 1000000 in
theorem indexOf_any (w : World) : Calls Tryz.prog 100 #[] w fun y w' => ∃ bb ba, y = .returned (.agg #[.map (some bb), .map (some ba), .int .i64 0]) ∧ IsX w' [bb, ba] w.heap.size bb ba emptyX ∧ Only [] w w' ∧ w.heap.size ≤ bb ∧ w.heap.size ≤ ba := by
  have hx := IsX.made (m := w.heap.size) (w.alloc (.cells #[.map (some (w.heap.size + 1)), .map (some (w.heap.size + 1 + 1)), .int .i64 0] 86)) (by rw [World.size_alloc]; omega)
  rw [World.size_alloc] at hx
  have hb0 := ((Blk.new w 86 #[.map none, .map none, .int .i64 0]).alloc (.map #[] 0)).alloc (.map #[] 0)
  have hb := ((Blk.new w 86 #[.map (some (w.heap.size + 1)), .map (some (w.heap.size + 1 + 1)), .int .i64 0]).alloc (.map #[] 0)).alloc (.map #[] 0)
  have ho := (((Only.refl [] w).alloc (.cells #[.map (some (w.heap.size + 1)), .map (some (w.heap.size + 1 + 1)), .int .i64 0] 86)).alloc (.map #[] 0)).alloc (.map #[] 0)
  have hmm := @run_makeMap Tryz.prog
  have c0 := hb0.cell 0
  have c1 := hb0.cell 1
  have c2 := hb0.cell 2
  have f0 := hb0.frozen 0
  have f1 := hb0.frozen 1
  have f2 := hb0.frozen 2
  have HX := Lib.hid hx
  have HB := Lib.hid hb
  have HO := Lib.hid ho
  clear hx hb ho hb0
  go_enter Tryz.func100, Tryz.ntmps100
  go_wp2_with fail
  exact bodyPost_ret (v := .agg #[.map (some (w.heap.size + 1)), .map (some (w.heap.size + 1 + 1)), .int .i64 0]) (by simp [results, Tryz.results100, go_sem]) rfl ⟨_, _, rfl, HX.out, HO.out, by omega, by omega⟩
theorem open_sep {w1 : World} {S : List Nat} (hd : IsD w1 p g b W cap d) (hj : IsJ w1 p g b q base js v ss) (hS : ∀ k ∈ S, w1.heap.size ≤ k) : ∀ k ∈ S, k ∉ JT p g b q v ∧ k ∉ W ∧ ∀ s ∈ ss, 0 < s.n → k ∉ blkOf s.A := by
  have e2 := hd.blk.lt
  obtain ⟨C, e1, _⟩ := hd.safe
  have e3 := e1.lt
  have e4 := isD_map_lt hd
  have e5 := hj.lt
  intro k hk
  have hk1 := hS k hk
  refine ⟨fun h => ?_, fun h => ?_, fun s hs hn h => ?_⟩
  · unfold JT at h
    simp only [List.mem_cons] at h
    rcases h with h | h | h | h | h
    · omega
    · omega
    · omega
    · omega
    · have := (hj.own.lt k h).2; omega
  · have := hd.low k h; omega
  · have := bytes_lt (hj.held s hs).1 hn k h; omega
set_option maxHeartbeats 4000000 in
theorem copen_any (hd : IsD w p g b W cap d) (hn2 : d.n ≤ 200000) (hg : newestD d ≤ 4611686018427387000) (hdn : d.done ≤ 4611686018427000000) {D : DS} (hs : openJ d = (D, some js, 0)) (hlen : ∀ l ∈ js.l, l.length ≤ 10000) (hcnt : js.l.length ≤ 100000) (hx : loadX js.l emptyX = some x) :
    Calls Tryz.prog 48 #[.pointer (some ⟨p, 0, none⟩)] w fun y w' => ∃ q v ss W' cq T m bb ba, y = .returned (.tuple #[.pointer (some ⟨cq, 0, none⟩), .int .i64 0]) ∧ IsD w' p g b W' cap D ∧ Newer w W W' ∧ IsJ w' p g b q w.heap.size js v ss ∧ (∀ k ∈ W', k ∉ q :: ownL v) ∧
      IsC w' cq (.pointer (some ⟨q, 0, none⟩)) T m bb ba x 0 ∧ Only [p, g, b] w w' ∧ w.heap.size ≤ q ∧ w.heap.size ≤ m ∧ w.heap.size ≤ cq ∧ (∀ k ∈ cq :: T, k ∉ JT p g b q v ∧ k ∉ W' ∧ ∀ s ∈ ss, 0 < s.n → k ∉ blkOf s.A) := by
  have HOP := Lib.hid (open_any hd hn2 hg hdn)
  rw [hs] at HOP
  have HI := Lib.hid (fun wx => indexOf_any wx)
  have HLEN := Lib.hid hlen
  have HX0 := Lib.hid hx
  have hpgb : p < w.heap.size ∧ g < w.heap.size ∧ b < w.heap.size := by
    have e2 := hd.blk.lt
    obtain ⟨C, e1, _⟩ := hd.safe
    have e3 := e1.lt
    have e4 := isD_map_lt hd
    omega
  clear hd hs hlen hx
  go_enter Tryz.func48, Tryz.ntmps48
  go_wp2_with fail
  refine HOP.out.mono ?_
  intro y w1 hy
  rcases hy with ⟨h1, _⟩ | ⟨js', q, v, ss, W', h1, rfl, hq, hd1, hnw, ho1, hj1, hfr, hW⟩
  · cases h1
  injection h1 with h1
  subst h1
  have HD1 := Lib.hid hd1
  have HJ1 := Lib.hid hj1
  have HO1 := Lib.hid ho1
  have HNW := Lib.hid hnw
  have HW := Lib.hid hW
  have hss : ss.length ≤ 1000000 := by have := hj1.l; have h2 := congrArg List.length this; rw [List.length_map] at h2; omega
  have HSS := Lib.hid hss
  clear hd1 hj1 ho1 hnw hW hfr hss HOP
  go_upto_region 5 with (go_at_call 100; refine (HI.out w1).mono ?_; rintro y w2 ⟨bb, ba, rfl, hx2, ho2, hbb, hba⟩; have HX2 := Lib.hid hx2; have HO2 := Lib.hid ho2; clear hx2 ho2)
  have hb3 := Blk.new w2 88 #[.pointer (some ⟨q, 0, none⟩), .map (some bb), .map (some ba), .int .i64 0, .int .i64 0]
  have ho3 : Only [] w2 (w2.alloc (.cells #[.pointer (some ⟨q, 0, none⟩), .map (some bb), .map (some ba), .int .i64 0, .int .i64 0] 88)) := (Only.refl [] w2).alloc _
  have hs3 := World.size_alloc w2 (.cells #[.pointer (some ⟨q, 0, none⟩), .map (some bb), .map (some ba), .int .i64 0, .int .i64 0] 88)
  have hcq12 := HO2.out.size
  generalize w2.alloc (.cells #[.pointer (some ⟨q, 0, none⟩), .map (some bb), .map (some ba), .int .i64 0, .int .i64 0] 88) = w3 at *
  have hcqe : w1.heap.size ≤ w2.heap.size := HO2.out.size
  generalize hcq : w2.heap.size = cq at *
  have HX3 := Lib.hid (HX2.out.only0 ho3)
  have HB3 := Lib.hid hb3
  have HO13 := Lib.hid (HO2.out.trans ho3 (by simp))
  have HJ3 := Lib.hid (HJ1.out.only0 HO13.out)
  have hxlo := HX2.out.lo
  have hcq3 : cq < w3.heap.size := hb3.lt
  have hcq1 : w1.heap.size ≤ cq := by omega
  clear hb3 ho3 HX2 HO2
  have HGR := Lib.hid (groups_is HJ3.out HSS.out)
  go_wp2_with fail
  refine HGR.out.mono ?_
  rintro y w4 ⟨v2, ts, rfl, hown, hmap, hts, ho4⟩
  obtain ⟨A2, c2, rfl, _, _, _, hA2⟩ := hown.shape (by decide)
  have HRD := Lib.hid (reads_own hown rfl)
  have HMAP := Lib.hid hmap
  have HTS := Lib.hid hts
  have HO4 := Lib.hid ho4
  have HA2 : Hid (∀ k ∈ blkOf A2, w3.heap.size ≤ k) := Lib.hid (fun k hk => by
    rcases hA2 with ⟨rfl, _⟩ | ⟨g2, rfl, h1, _⟩
    · cases hk
    · simp [blkOf] at hk; omega)
  obtain ⟨n, hn⟩ : ∃ n, ts.length = n := ⟨_, rfl⟩
  have HN := Lib.hid hn
  rw [hn] at HRD
  have hnl : js.l.length = n := by rw [← hmap, List.length_map, hn]
  have HNL := Lib.hid hnl
  have hn1e5 : n ≤ 100000 := by rw [← hnl]; exact hcnt
  try rw [hn]
  have HX4 := Lib.hid (HX3.out.only0 ho4)
  have HB4 := Lib.hid (HB3.out.only ho4 (by simp))
  have h34 := ho4.size
  clear hown hmap hts ho4 hA2 hn hnl HX3 HB3 HGR
  go_wp2_with fail
  go_loopw [26] (fun i wr => ∃ (j : Nat) (T : List Nat) (xj : XS), j ≤ n ∧ i = .int .i64 j ∧ loadX (js.l.drop j) xj = some x ∧ xj.nx ≤ j ∧ IsC wr cq (.pointer (some ⟨q, 0, none⟩)) T w1.heap.size bb ba xj 0 ∧ Only [] w1 wr ∧ Only (List.range w3.heap.size) w4 wr ∧ ∀ k ∈ T, k < w3.heap.size ∨ w4.heap.size ≤ k) (fun i _ => n - (Go.RowKit.intOf i).toNat)
  case atStart => exact ⟨0, [bb, ba], emptyX, by omega, rfl, HX0.out, Nat.le_refl _, ⟨HB4.out, HX4.out, fun h => by have := hxlo cq h; omega⟩, HO13.out.trans HO4.out (by simp), Only.refl _ _, fun k hk => .inl (by have := hxlo k hk; omega)⟩
  case round =>
    obtain ⟨j, T, xj, hj, rfl, hld, hnx, hC, ho1r, ho4r, hT⟩ := hrel
    clear HX4 HB4
    by_cases hlt : j < n
    · have d1 : decide ((j : Int) < (n : Int)) = true := decide_eq_true (by omega)
      have hfar : ∀ k, w3.heap.size ≤ k → k ∉ List.range w3.heap.size := fun k hk hm => by have := List.mem_range.1 hm; omega
      obtain ⟨b2, o2, rfl, _, s, hsm, hsj, hc⟩ := Frame.Reads.sl (HRD.out.only ho4r (fun k hk => hfar k (HA2.out k hk))) j hlt
      obtain ⟨hb5, hn5, hc5, _, hf5⟩ := HTS.out s hsm
      have hb6 := (hb5.only ho4r (fun k hk => hfar k (hf5 k hk))).more ho4r.size
      have hlj : js.l[j]? = some s.l := by rw [← HMAP.out, List.getElem?_map, hsj]; rfl
      obtain ⟨e, he, hld2⟩ := loadX_cons hlj hld
      have hsl : s.l.length ≤ 10000 := HLEN.out _ (List.mem_of_getElem? hlj)
      have hup := unpack7 s.A s.n s.c s.l wr hb6 (by rw [← hb6.len]; exact hsl) hn5 hc5
      rw [he] at hup
      have hke := unp_short he
      obtain ⟨ek, evv⟩ := e
      have HUP : Hid (Calls Tryz.prog 37 #[.slice s.A s.n s.c] wr fun y w' => y = .returned (.tuple #[.agg #[.string (str ek), .string (str evv)], .bool true]) ∧ Only [] wr w') := Lib.hid hup
      have HLD := Lib.hid hld2
      have HC := Lib.hid hC
      have HO1R := Lib.hid ho1r
      have HO4R := Lib.hid ho4r
      have HT := Lib.hid hT
      simp only at hke
      clear hld hC ho1r ho4r hT hup he hb5 hb6 hf5 hlj hsj hsm hld2 hfar
      generalize s.A = sA at *
      generalize s.n = sn at *
      generalize s.c = sc at *
      go_upto_region 11 with (go_at_call 37; refine HUP.out.mono ?_; rintro y w5 ⟨rfl, ho5⟩; have HO5 := Lib.hid ho5; have hnb := Blk.new w5 69 #[.string ⟨#[]⟩, .string ⟨#[]⟩]; have n0 := hnb.cell 0; have n1 := hnb.cell 1; have f0 := hnb.frozen 0; have f1 := hnb.frozen 1; clear ho5 hnb)
      have hbe := Blk.new w5 69 #[.string (str ek), .string (str evv)]
      have ho6 : Only [] wr (w5.alloc (.cells #[.string (str ek), .string (str evv)] 69)) := HO5.out.alloc _
      have hs6 := World.size_alloc w5 (.cells #[.string (str ek), .string (str evv)] 69)
      clear n0 n1 f0 f1
      generalize w5.alloc (.cells #[.string (str ek), .string (str evv)] 69) = w6 at *
      have hS : w6.drew.cell? ⟨w5.heap.size, 0, none⟩ = some (.string (str ek)) ∧ w6.drew.cell? ⟨w5.heap.size, 1, none⟩ = some (.string (str evv)) := ⟨hbe.cell 0, hbe.cell 1⟩
      have h56 := HO5.out.size
      have HC6 := Lib.hid ((HC.out.only0 ho6).only0 ((Only.refl [] w6).drew))
      have hTlo := HC.out.idx.lo
      have hcqr := HC.out.blk.lt
      have HADD := Lib.hid (add_any HC6.out.idx HC6.out.far (by have := HO1R.out.size; have h := ho6.size; exact Nat.le_trans this h) HC6.out.blk (ek, evv) (by show ek.length ≤ 1000000; omega) (by omega))
      have HOK := Lib.hid (HC.out.idx.ok.add (ek, evv))
      refine wp_region_hand (S := (fun Y => Y.cell? ⟨w5.heap.size, 0, none⟩ = some (.string (str ek)) ∧ Y.cell? ⟨w5.heap.size, 1, none⟩ = some (.string (str evv)))) (by kernel_rfl) ?_
      refine takeV 0 (.pointer (some ⟨cq, 0, none⟩)) rfl rfl (by kernel_rfl) (fun Y hY => by obtain ⟨y0, y1⟩ := hY; go_simp) hS ?_; simp only [s0A, s0B, s0C]
      refine takeV 1 (.pointer (some ⟨cq, 0, none⟩)) rfl rfl (by kernel_rfl) (fun Y hY => by obtain ⟨y0, y1⟩ := hY; go_simp) hS ?_; simp only [s0A, s0B, s0C]
      refine takeV 2 (.pointer (some ⟨cq, 1, none⟩)) rfl rfl (by kernel_rfl) (fun Y hY => by obtain ⟨y0, y1⟩ := hY; go_simp) hS ?_; simp only [s0A, s0B, s0C]
      refine takeV 3 (.agg #[.string (str ek), .string (str evv)]) rfl rfl (by kernel_rfl) (fun Y hY => by obtain ⟨y0, y1⟩ := hY; go_simp) hS ?_; simp only [s0A, s0B, s0C]
      refine callW (i := 4) rfl (by kernel_rfl) rfl (by rfl) ?_ HADD.out ?_
      · go_simp
      rintro y w7 ⟨rfl, T', hx7, ho7, hT7, hb7⟩
      have hne : w5.heap.size ∉ cq :: T := fun h => by
        rcases List.mem_cons.1 h with h | h
        · omega
        · have := (hTlo _ h).2; omega
      have HX7 := Lib.hid hx7
      have HB7 := Lib.hid hb7
      have HT7 := Lib.hid hT7
      have HO7 := Lib.hid (show Only (cq :: T) wr w7 from ((ho6.drew).mono (by simp)).trans ho7 (fun k hk => .inl hk))
      refine ⟨_, rfl, ⟨ho7.cell hS.1 hne, ho7.cell hS.2 hne⟩, ?_⟩
      clear hx7 hb7 hT7 ho7 hS HADD HC6 hbe
      simp only [s0A, s0B, s0C]
      refine wpAnyH_done (by kernel_rfl) ?_ _
      go_wp2_with fail
      go_roundw
      case measure => simp [Go.RowKit.intOf]; omega
      case rel =>
        refine ⟨j + 1, T', addX xj (ek, evv), by omega, by go_num, HLD.out, by rw [HOK.out.2.2]; omega, ⟨by rw [HOK.out.2.2]; exact HB7.out, HX7.out, fun h => ?_⟩, HO1R.out.trans HO7.out (fun k hk => .inr ?_), HO4R.out.trans HO7.out (fun k hk => ?_), fun k hk => ?_⟩
        · rcases HT7.out cq h with h | h
          · exact HC.out.far h
          · have h2 : w6.heap.size ≤ cq := h
            omega
        · rcases List.mem_cons.1 hk with rfl | hk
          · omega
          · exact (hTlo k hk).1
        · rcases List.mem_cons.1 hk with rfl | hk
          · exact .inl (List.mem_range.2 (by omega))
          · rcases HT.out k hk with h | h
            · exact .inl (List.mem_range.2 h)
            · exact .inr h
        · rcases HT7.out k hk with h | h
          · exact HT.out k h
          · right
            have h2 : w6.heap.size ≤ k := h
            have := HO4R.out.size
            omega
    · obtain rfl : j = n := by omega
      have d1 : decide ((j : Int) < (j : Int)) = false := decide_eq_false (by omega)
      have hxx : xj = x := by
        rw [List.drop_eq_nil_of_le (by rw [HNL.out]; exact Nat.le_refl _)] at hld
        unfold loadX at hld
        injection hld
      subst hxx
      have HC := Lib.hid hC
      have HO1R := Lib.hid ho1r
      have HSEP : Hid (∀ k ∈ cq :: T, w1.heap.size ≤ k) := Lib.hid (fun k hk => by
        rcases List.mem_cons.1 hk with rfl | hk
        · omega
        · exact (hC.idx.lo k hk).1)
      clear hC ho1r ho4r hT hld
      go_wp2_with fail
      have HFIN := Lib.hid (open_sep HD1.out HJ1.out HSEP.out)
      exact bodyPost_ret (v := .tuple #[.pointer (some ⟨cq, 0, none⟩), .int .i64 0]) (by simp [results, Tryz.results48, go_sem]) rfl ⟨q, v, ss, W', cq, T, w1.heap.size, bb, ba, rfl, HD1.out.only0 HO1R.out, HNW.out, HJ1.out.only0 HO1R.out, HW.out, HC.out, HO1.out.trans HO1R.out (by simp), hq, HO1.out.size, by have := HO1.out.size; omega, HFIN.out⟩
end
end Go.Proofs.YthgfmoogagldmaaGreat.Cache
