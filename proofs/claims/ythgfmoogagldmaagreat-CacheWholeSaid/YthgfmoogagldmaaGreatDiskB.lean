/- DiskB: Read, Stop, New, and nobody's disk, walk; Stop, New, Waiting walk; Sync walks. -/
import Derived.Test.YthgfmoogagldmaaGreatDiskA
set_option linter.unusedVariables false
set_option maxRecDepth 100000
namespace Go.Proofs.YthgfmoogagldmaaGreat.Disk
open Go.RowKit Go.Maps
def readD (d : DS) (i : Nat) : List UInt8 := (d.wait i).getD (d.safe i)
def ReadO (w : World) (d : DS) (i : Int) (x : Ending) (w' : World) : Prop :=
  if d.off = true then x = .returned (.tuple #[.slice none 0 0, .int .i64 3]) ∧ Only [] w w'
  else if 0 ≤ i ∧ i < d.n then ∃ q c, x = .returned (.tuple #[.slice (some ⟨q, 0, none⟩) 64 c, .int .i64 0]) ∧ w.heap.size ≤ q ∧ OwnB w' w.heap.size (.slice (some ⟨q, 0, none⟩) 64 c) 64 (readD d i.toNat) ∧ 64 ≤ c ∧ c ≤ maxLen ∧ Only [] w w'
  else x = .returned (.tuple #[.slice none 0 0, .int .i64 1]) ∧ Only [] w w'
section
variable {w w' : World} {p g b cap : Nat} {W : List Nat} {d : DS}
theorem ReadO.off {i : Int} {x : Ending} (hd : d.off = true) (hx : x = .returned (.tuple #[.slice none 0 0, .int .i64 3])) (h : Only [] w w') : ReadO w d i x w' := by unfold ReadO; rw [if_pos hd]; exact ⟨hx, h⟩
theorem ReadO.bad {i : Int} {x : Ending} (hd : d.off = false) (hi : ¬ (0 ≤ i ∧ i < d.n)) (hx : x = .returned (.tuple #[.slice none 0 0, .int .i64 1])) (h : Only [] w w') : ReadO w d i x w' := by unfold ReadO; rw [if_neg (by simp [hd]), if_neg hi]; exact ⟨hx, h⟩
theorem ReadO.ok {i : Int} {x : Ending} (hd : d.off = false) (hi : 0 ≤ i ∧ i < d.n) {q c : Nat} {l : List UInt8} (hx : x = .returned (.tuple #[.slice (some ⟨q, 0, none⟩) 64 c, .int .i64 0])) (h1 : w.heap.size ≤ q) (h2 : OwnB w' w.heap.size (.slice (some ⟨q, 0, none⟩) 64 c) 64 l) (hl : l = readD d i.toNat) (h3 : 64 ≤ c) (h4 : c ≤ maxLen) (h : Only [] w w') : ReadO w d i x w' := by
  unfold ReadO
  rw [if_neg (by simp [hd]), if_pos hi]
  subst hl
  exact ⟨q, c, hx, h1, h2, h3, h4, h⟩
set_option maxHeartbeats 4000000 in
theorem read_any (h : IsD w p g b W cap d) (i : Int) : Calls Tryz.prog 86 #[.pointer (some ⟨p, 0, none⟩), .int .i64 i] w fun x w' => ReadO w d i x w' := by
  have c2 := h.blk.cell 2
  have c4 := h.blk.cell 4
  have HNN := Lib.hid (none_is h)
  have HSC := Lib.hid (sectors_any h)
  have HH := Lib.hid h
  obtain ⟨n0, n1⟩ := h.n0
  clear h
  cases hof : d.off with
  | true =>
    have HF := Lib.hid hof
    rw [hof] at c2
    clear hof
    go_enter Tryz.func86, Tryz.ntmps86
    go_wp2_with (go_at_call 72; refine HNN.out.mono ?_; rintro x w4 ⟨rfl, rfl⟩)
    go_ret2
    exact ReadO.off HF.out rfl (Only.refl _ _)
  | false =>
    have HF := Lib.hid hof
    rw [hof] at c2
    clear hof
    by_cases hi : 0 ≤ i ∧ i < (d.n : Int)
    · obtain ⟨j, rfl⟩ : ∃ j : Nat, i = (j : Int) := ⟨i.toNat, by omega⟩
      have hj : j < d.n := by omega
      have d1 : decide ((j : Int) < 0) = false := decide_eq_false (by omega)
      have d2 : decide ((d.n : Int) ≤ (j : Int)) = false := decide_eq_false (by omega)
      have d3 : decide (d.n ≤ j) = false := decide_eq_false (by omega)
      have HI := Lib.hid hi
      obtain ⟨f, hv, hf⟩ := HH.out.map
      have hlook := hv.run_look lawI Tryz.underlying108 (zeroBs w) (keyI (i := j) (by omega))
      have HAT := Lib.hid (at_any HH.out j hj)
      cases hw : d.wait j with
      | none =>
        rw [hf.none_ j hw] at hlook
        have HRD : Hid (d.safe j = readD d (j : Int).toNat) := Lib.hid (by unfold readD; simp [hw])
        have HBY := Lib.hid (HH.out.safe.bytes hj)
        have HCL := Lib.hid (fun cc => clone_any (some ⟨g, 64 * j, none⟩) 64 cc w.heap.size (d.safe j) w HBY.out (Nat.le_refl _) (by decide) (by decide))
        clear hi hj hf hv hw
        go_enter Tryz.func86, Tryz.ntmps86
        go_wp2_with (first
          | (go_at_call 72; refine HNN.out.mono ?_; rintro x w4 ⟨rfl, rfl⟩)
          | (go_at_call 55; refine HSC.out.mono ?_; rintro x w4 ⟨rfl, rfl⟩)
          | (go_at_call 75; refine HAT.out.mono ?_; rintro x w4 ⟨cc, rfl, hc1, hc2, rfl⟩)
          | (go_at_call 69; refine (HCL.out cc).mono ?_; rintro x w2 ⟨r, rc, rfl, hq1, hq2, hown, hrc, hrm, ho2⟩))
        go_ret2
        exact ReadO.ok HF.out HI.out rfl hq1 hown HRD.out hrc hrm ho2
      | some l =>
        obtain ⟨_, _, q, c, hq, hqW, hb, hc1, hc2⟩ := hf.some_ j l hw
        rw [hq] at hlook
        have HRD : Hid (l = readD d (j : Int).toNat) := Lib.hid (by unfold readD; simp [hw])
        have HCL := Lib.hid (clone_any (some ⟨q, 0, none⟩) 64 c w.heap.size l w hb (Nat.le_refl _) (by decide) (by decide))
        clear hi hj hf hv hw hq hqW hb
        go_enter Tryz.func86, Tryz.ntmps86
        go_wp2_with (first
          | (go_at_call 72; refine HNN.out.mono ?_; rintro x w4 ⟨rfl, rfl⟩)
          | (go_at_call 55; refine HSC.out.mono ?_; rintro x w4 ⟨rfl, rfl⟩)
          | (go_at_call 69; refine HCL.out.mono ?_; rintro x w2 ⟨r, rc, rfl, hq1, hq2, hown, hrc, hrm, ho2⟩))
        go_ret2
        exact ReadO.ok HF.out HI.out rfl hq1 hown HRD.out hrc hrm ho2
    · have hcase : decide (i < 0) = true ∨ (decide (i < 0) = false ∧ decide ((d.n : Int) ≤ i) = true) := by
        by_cases a : i < 0
        · exact .inl (decide_eq_true a)
        · exact .inr ⟨decide_eq_false a, decide_eq_true (by omega)⟩
      have HI := Lib.hid hi
      clear hi
      rcases hcase with d1 | ⟨d1, d2⟩
      all_goals
        go_enter Tryz.func86, Tryz.ntmps86
        go_wp2_with (first
          | (go_at_call 72; refine HNN.out.mono ?_; rintro x w4 ⟨rfl, rfl⟩)
          | (go_at_call 55; refine HSC.out.mono ?_; rintro x w4 ⟨rfl, rfl⟩))
        go_ret2
        exact ReadO.bad HF.out HI.out rfl (Only.refl _ _)
end
end Go.Proofs.YthgfmoogagldmaaGreat.Disk
namespace Go.Proofs.YthgfmoogagldmaaGreat.Disk
open Go.RowKit Go.Maps
def stopD (d : DS) (a : Int) : DS := if d.off = true then d else { d with left := max a 0, off := max a 0 == 0 }
def newD (n : Nat) : DS := ⟨n, -1, 0, false, fun _ => List.replicate 64 0, fun _ => none⟩
section
variable {w w' : World} {p g b cap : Nat} {W : List Nat} {d : DS}
set_option maxHeartbeats 1000000 in
theorem stop_any (h : IsD w p g b W cap d) (a : Int) (ha : a ≤ 9223372036854775807) : Calls Tryz.prog 18 #[.pointer (some ⟨p, 0, none⟩), .int .i64 a] w fun x w' => x = .returned (.tuple #[]) ∧ Did w p g b W cap (stopD d a) w' := by
  have c0 := h.blk.cell 0
  have c2 := h.blk.cell 2
  have f0 := h.blk.frozen 0
  have f2 := h.blk.frozen 2
  have HNN := Lib.hid (none_is h)
  have HH := Lib.hid h
  obtain ⟨n, left, done, off, safe, wait⟩ := d
  unfold stopD
  simp only at c0 c2 ⊢
  cases off with
  | true =>
    rw [if_pos rfl]
    clear h
    go_enter Tryz.func18, Tryz.ntmps18
    go_wp2_with (go_at_call 72; refine HNN.out.mono ?_; rintro x w4 ⟨rfl, rfl⟩)
    go_end0
    exact ⟨rfl, did_of (Only.refl _ _) HH.out⟩
  | false =>
    rw [if_neg (by simp)]
    have ho : ∀ (z : Int) (bb : Bool), Only [p] w ((w.setCell ⟨p, 0, none⟩ (.int .i64 z)).setCell ⟨p, 2, none⟩ (.bool bb)) := fun z bb => ((Only.refl [p] w).setCell (p := ⟨p, 0, none⟩) (.inl (by simp)) _).setCell (p := ⟨p, 2, none⟩) (.inl (by simp)) _
    have hb : ∀ (z : Int) (bb : Bool), Blk ((w.setCell ⟨p, 0, none⟩ (.int .i64 z)).setCell ⟨p, 2, none⟩ (.bool bb)) p 110 #[.int .i64 z, .int .i64 done, .bool bb, .slice (some ⟨g, 0, none⟩) (64 * n : Nat) cap, .map (some b)] := fun z bb => (h.blk.set_ 0 (.int .i64 z)).set_ 2 (.bool bb)
    have hdn := h.done_
    simp only at hdn
    have HF : Hid (∀ (z : Int) (bb : Bool), 0 ≤ z → z ≤ 9223372036854775807 → Did w p g b W cap ⟨n, z, done, bb, safe, wait⟩ ((w.setCell ⟨p, 0, none⟩ (.int .i64 z)).setCell ⟨p, 2, none⟩ (.bool bb))) := Lib.hid (fun z bb hz hz2 => ⟨W, HH.out.head (ho z bb) (hb z bb) (by omega) hdn, Newer.refl _ _, only_p (ho z bb)⟩)
    clear h ho hb hdn
    go_enter Tryz.func18, Tryz.ntmps18
    go_wp2_with (go_at_call 72; refine HNN.out.mono ?_; rintro x w4 ⟨rfl, rfl⟩)
    go_end0
    exact ⟨rfl, HF.out _ _ (by omega) (by omega)⟩
def waitsD (d : DS) (ks : List Nat) : Prop := ks.Pairwise (fun a b => a < b) ∧ ∀ i, i ∈ ks ↔ (d.wait i).isSome = true
theorem waitsD.uniq {ks ks' : List Nat} (h : waitsD d ks) (h' : waitsD d ks') : ks = ks' := by
  have n1 : ks.Nodup := h.1.imp (fun h => by omega)
  have n2 : ks'.Nodup := h'.1.imp (fun h => by omega)
  exact List.Perm.eq_of_pairwise (le := fun a b => a < b) (fun x y _ _ h1 h2 => by omega) h.1 h'.1 ((List.perm_ext_iff_of_nodup n1 n2).2 fun x => by rw [h.2, h'.2])
theorem IsD.keys {f : Lit → Option Value} {ss : List Int} (hf : WaitF w W d.n f d.wait) (hk : KeysI f ss) : ∃ ks : List Nat, ss = ks.map (fun k : Nat => (k : Int)) ∧ waitsD d ks := by
  have hnn : ∀ x ∈ ss, ∃ i : Nat, x = (i : Int) := fun x hx => by
    obtain ⟨i, _, hi⟩ := hf.keys _ ((hk.2.2 x).1 hx)
    unfold pk at hi
    injection hi with _ hi
    exact ⟨i, hi⟩
  refine ⟨ss.map Int.toNat, ?_, ?_, ?_⟩
  · rw [List.map_map]
    symm
    rw [List.map_congr_left (g := id) (fun x hx => by obtain ⟨i, rfl⟩ := hnn x hx; simp), List.map_id]
  · rw [List.pairwise_map]
    have h1 := hk.1
    have h2 : ss.Pairwise (fun a b => a ≠ b) := hk.2.1
    refine (h1.and h2).imp_of_mem ?_
    intro a c ha hc ⟨h3, h4⟩
    obtain ⟨i, rfl⟩ := hnn a ha
    obtain ⟨j, rfl⟩ := hnn c hc
    simp
    omega
  · intro i
    rw [List.mem_map]
    constructor
    · rintro ⟨x, hx, rfl⟩
      obtain ⟨j, rfl⟩ := hnn x hx
      have h3 := (hk.2.2 _).1 hx
      cases hw : d.wait ((j : Int).toNat) with
      | some _ => rfl
      | none =>
        have := hf.none_ _ hw
        simp only [Int.toNat_natCast] at this
        rw [show (Lit.int .i64 (j : Int)) = pk j from rfl, this] at h3
        cases h3
    · intro h3
      obtain ⟨l, hl⟩ := Option.isSome_iff_exists.1 h3
      obtain ⟨_, _, q, c, hq, _⟩ := hf.some_ i l hl
      exact ⟨(i : Int), (hk.2.2 _).2 (by rw [show (Lit.int .i64 (i : Int)) = pk i from rfl, hq]; rfl), by simp⟩
theorem keys_call (b : Nat) (w : World) : Calls Tryz.prog 116 #[.map (some b)] w fun e w' => e = .returned (.func (.func 145) #[] #[.pointer (some ⟨w.heap.size, 0, none⟩)]) ∧ w' = w.alloc (.cells #[.map (some b)] 108) :=
  (callsIn_wide (n := 5)).1 (Tryz.maps_Keys_116 (some b) w)
def WaitsO (w : World) (d : DS) (x : Ending) (w' : World) : Prop := ∃ A c ks, x = .returned (.slice A ks.length c) ∧ waitsD d ks ∧ ks.length ≤ d.n ∧ Reads w' w'.heap.size 1 A ks.length (ks.map (fun k : Nat => Value.int .i64 (k : Int))) ∧ ks.length ≤ c ∧ (∀ q ∈ blkOf A, w.heap.size ≤ q) ∧ Only [] w w'
theorem sorted_call (h : IsD w p g b W cap d) : Calls Tryz.prog 115 #[.func (.func 145) #[] #[.pointer (some ⟨w.heap.size, 0, none⟩)]] (w.alloc (.cells #[.map (some b)] 108)) fun x w' => WaitsO w d x w' := by
  obtain ⟨f, hv, hf⟩ := h.map
  obtain ⟨D, hD, hfe⟩ := hv
  subst hfe
  obtain ⟨n0, n1⟩ := h.n0
  have hs := hD.size_le
  refine ((callsIn_wide (n := 5)).1 (Tryz.slices_Sorted_keys_115_116 b d.n D RV w hD (by unfold maxLen; omega) (by omega))).mono ?_
  rintro e w' ⟨v, ss, rfl, hp, hrow, _, hb⟩
  obtain ⟨hk, hl⟩ := keysI_of hD Tryz.underlying3 hp
  obtain ⟨ks, hks, hwk⟩ := IsD.keys hf hk
  have hlen : ks.length = ss.length := by
    have := congrArg List.length hks
    rw [List.length_map, List.length_mergeSort] at this
    omega
  rw [hks] at hrow
  have hrow2 : w'.ownsRow (w.alloc (.cells #[.map (some b)] 108)).heap.size 3 1 v ks.length (ks.map (fun k : Nat => Value.int .i64 (k : Int))) := by
    rw [hlen]
    rw [List.map_map] at hrow
    exact hrow
  have ho : Only [] w w' := ((Only.refl [] w).alloc _).trans (Only.of_below hb) (by simp)
  rcases hrow2.2 with ⟨hv, hz⟩ | ⟨gb, cp, cur, hv, hbase, hgb, r1, r2, r3, r4⟩
  · subst hv
    obtain rfl : ks = [] := List.eq_nil_of_length_eq_zero hz
    exact ⟨none, 0, [], rfl, hwk, Nat.zero_le _, Reads.none_, Nat.le_refl _, by simp [blkOf], ho⟩
  · subst hv
    exact ⟨some ⟨gb, 0, none⟩, cp, ks, rfl, hwk, by omega, Reads.of_own hrow2, r1, (fun q hq => by simp [blkOf] at hq; rw [World.size_alloc] at hbase; omega), ho⟩
set_option maxHeartbeats 1000000 in
theorem waiting_any (h : IsD w p g b W cap d) : Calls Tryz.prog 74 #[.pointer (some ⟨p, 0, none⟩)] w fun x w' => WaitsO w d x w' := by
  have c4 := h.blk.cell 4
  have HNN := Lib.hid (none_is h)
  have HK := Lib.hid (keys_call b w)
  have HS := Lib.hid (sorted_call h)
  clear h
  go_enter Tryz.func74, Tryz.ntmps74
  go_wp2_with (first
    | (go_at_call 72; refine HNN.out.mono ?_; rintro x w4 ⟨rfl, rfl⟩)
    | (go_at_call 116; refine HK.out.mono ?_; rintro x w2 ⟨rfl, rfl⟩)
    | (go_at_call 115; refine HS.out.mono ?_; rintro x w2 ⟨A, c, ks, rfl, hw⟩))
  go_ret
  exact ⟨A, c, ks, rfl, hw⟩
theorem safe_made {base n : Nat} {g : Nat} (h : w.ownsRow base 5 1 (.slice (some ⟨g, 0, none⟩) (n * 64) (n * 64)) (n * 64) (madeCells (Value.int .u8 0).cells (n * 64 * 1)).toList) : SafeAt w g n (n * 64) (fun _ => List.replicate 64 0) := by
  obtain ⟨hl, h0⟩ := h
  rcases h0 with ⟨h0, _⟩ | ⟨g', cap, cur, hv, hb, hg, h1, h2, h3, h4⟩
  · cases h0
  · simp only [Value.slice.injEq, Option.some.injEq, Addr.mk.injEq, and_true, true_and] at hv
    obtain ⟨rfl, rfl⟩ := hv
    rw [Nat.mul_one] at h3 h4
    refine ⟨cur, hg, h3, by omega, fun i hi => ⟨by simp, fun j hj => ?_⟩⟩
    rw [List.take_of_length_le (by rw [Array.length_toList, h3]; exact Nat.le_refl _)] at h4
    have hr : (List.replicate 64 (0 : UInt8)).getD j 0 = 0 := by
      rw [List.getD_eq_getElem?_getD, List.getElem?_replicate, if_pos hj]
      rfl
    rw [← Array.getElem?_toList, h4, show (Value.int .u8 0).cells = #[.int .u8 0] from rfl, toList_madeCells_one, List.getElem?_replicate, if_pos (by omega), hr]
    rfl
def NewO (w : World) (n : Nat) (x : Ending) (w' : World) : Prop := ∃ p g b cap, x = .returned (.tuple #[.pointer (some ⟨p, 0, none⟩), .int .i64 0]) ∧ IsD w' p g b [] cap (newD n) ∧ w.heap.size ≤ p ∧ w.heap.size ≤ g ∧ w.heap.size ≤ b ∧ Only [] w w'
set_option maxHeartbeats 1000000 in
theorem new_any (n : Nat) (h1 : 1 ≤ n) (h2 : n ≤ 65536) (w : World) : Calls Tryz.prog 12 #[.int .i64 (n : Int)] w fun x w' => NewO w n x w' := by
  obtain ⟨i0, hi0, hz0, hz1, hz2⟩ := info_parts byte_info
  have hmm := @run_makeMap Tryz.prog
  have d1 : decide ((n : Int) < 1) = false := decide_eq_false (by omega)
  have d2 : decide ((65536 : Int) < (n : Int)) = false := decide_eq_false (by omega)
  go_enter Tryz.func12, Tryz.ntmps12
  go_wp2_with (at_make; refine wpList_make_full w rfl _ _ 35 rfl w.heap.size 5 i0 _ 1 Tryz.underlying35 hi0 hz0 hz1 _ _ _ _ (n * 64) rfl rfl (by omega) (by omega) (by rw [hz2]; omega) (by unfold maxLen; omega) (Nat.le_refl _) ?_; intro w2 hmk hgk)
  have ho2 : Only [] w w2 := Only.of_grown hgk
  have hs := safe_made hmk
  have hgl : w.heap.size < w2.heap.size := by obtain ⟨C, hC, _⟩ := hs; exact hC.lt
  have ho3 : Only [] w2 (w2.alloc (.map #[] 0)) := (Only.refl [] w2).alloc _
  have ho4 : Only [] w2 ((w2.alloc (.map #[] 0)).alloc (.cells #[.int .i64 (-1), .int .i64 0, .bool false, .slice (some ⟨w.heap.size, 0, none⟩) (n * 64) (n * 64), .map (some w2.heap.size)] 110)) := ho3.alloc _
  have hvm := VM.made w2 Tryz.prog 3
  have hvm2 := hvm.alloc (.cells #[.int .i64 (-1), .int .i64 0, .bool false, .slice (some ⟨w.heap.size, 0, none⟩) (n * 64) (n * 64), .map (some w2.heap.size)] 110)
  have hbk := Blk.new (w2.alloc (.map #[] 0)) 110 #[.int .i64 (-1), .int .i64 0, .bool false, .slice (some ⟨w.heap.size, 0, none⟩) (n * 64) (n * 64), .map (some w2.heap.size)]
  rw [World.size_alloc] at hbk
  have hfin : IsD ((w2.alloc (.map #[] 0)).alloc (.cells #[.int .i64 (-1), .int .i64 0, .bool false, .slice (some ⟨w.heap.size, 0, none⟩) (n * 64) (n * 64), .map (some w2.heap.size)] 110)) (w2.heap.size + 1) w.heap.size w2.heap.size [] (n * 64) (newD n) := by
    refine ⟨by rw [show 64 * (newD n).n = n * 64 from Nat.mul_comm _ _]; exact hbk, hs.only ho4 (by simp), ⟨_, hvm2.mono (Nat.zero_le _), ⟨(fun k h => by cases h), (fun i l h => by cases h), fun _ _ => rfl⟩⟩, ⟨by omega, by omega, by omega⟩, by simp, by simp, ⟨h1, h2⟩, by unfold maxLen; omega, ⟨by simp [newD], by simp [newD]⟩, ⟨by simp [newD], by simp [newD]⟩⟩
  go_ret2
  exact ⟨_, _, _, _, rfl, hfin, by omega, by omega, by omega, ho2.trans ho4 (by simp)⟩
end
end Go.Proofs.YthgfmoogagldmaaGreat.Disk
namespace Go.Proofs.YthgfmoogagldmaaGreat.Disk
open Go.RowKit Go.Maps
def syncS (d : DS) : Nat → List UInt8 := fun j => (d.wait j).getD (d.safe j)
def part (d : DS) (left : Lit → Bool) : Nat → List UInt8 := fun j => if left (pk j) = true then d.safe j else syncS d j
def mkS (x : Nat × Nat) : Value := .slice (some ⟨x.1, 0, none⟩) 64 x.2
theorem same_pk (i j : Nat) : (pk j).sameKey (pk i) = true ↔ j = i := by
  constructor
  · intro h
    exact pk_inj (WideAt.sameKey_eq h)
  · rintro rfl
    exact WideAt.sameKey_self (by trivial)
theorem part_start {d : DS} {w : World} {W : List Nat} {f : Lit → Option Value} (hf : WaitF w W d.n f d.wait) : part d (fun k => (f k).isSome) = d.safe := by
  funext j
  unfold part syncS
  cases hw : d.wait j with
  | none => simp
  | some l =>
    obtain ⟨_, _, q, c, hq, _⟩ := hf.some_ j l hw
    rw [if_pos (by show (f (pk j)).isSome = true; rw [hq]; rfl)]
theorem part_end {d : DS} {left : Lit → Bool} (h : ∀ k, left k = false) : part d left = syncS d := by
  funext j
  unfold part
  rw [if_neg (by rw [h]; simp)]
theorem part_step {d : DS} {left : Lit → Bool} {i : Nat} {l : List UInt8} (hw : d.wait i = some l) : part d (fun z => left z && !z.sameKey (pk i)) = fun k => if k = i then l else part d left k := by
  funext j
  unfold part
  by_cases e : j = i
  · subst e
    rw [if_neg (by show ¬ (left (pk j) && !(pk j).sameKey (pk j)) = true; rw [(same_pk j j).2 rfl]; simp), if_pos rfl]
    unfold syncS
    rw [hw]
    rfl
  · have : (pk j).sameKey (pk i) = false := by
      cases h : (pk j).sameKey (pk i)
      · rfl
      · exact absurd ((same_pk i j).1 h) e
    rw [if_neg e]
    show (if (left (pk j) && !(pk j).sameKey (pk i)) = true then d.safe j else syncS d j) = _
    rw [this]
    simp
theorem WaitF.mk_ {w : World} {W : List Nat} {n : Nat} {f : Lit → Option Value} {wait : Nat → Option (List UInt8)} (h : WaitF w W n f wait) : ∀ k v, f k = some v → ∃ c, v = mkS c := fun k v hv => by
  obtain ⟨i, hi, rfl⟩ := h.keys k (by rw [hv]; rfl)
  cases hw : wait i with
  | none => rw [h.none_ i hw] at hv; cases hv
  | some l =>
    obtain ⟨_, _, q, c, hq, _⟩ := h.some_ i l hw
    rw [hq] at hv
    injection hv with hv
    exact ⟨(q, c), hv.symm⟩
theorem WaitF.at_ {w : World} {W : List Nat} {n : Nat} {f : Lit → Option Value} {wait : Nat → Option (List UInt8)} (h : WaitF w W n f wait) {s : Int} {x : Nat × Nat} (hs : f (.int .i64 s) = some (mkS x)) : ∃ i l, s = ((i : Nat) : Int) ∧ i < n ∧ wait i = some l ∧ l.length = 64 ∧ Bytes w w.heap.size (some ⟨x.1, 0, none⟩) 64 l ∧ x.1 ∈ W := by
  obtain ⟨i, hi, hk⟩ := h.keys _ (by rw [hs]; rfl)
  unfold pk at hk
  injection hk with _ hk
  subst hk
  cases hw : wait i with
  | none =>
    have := h.none_ i hw
    rw [show pk i = Lit.int .i64 (i : Int) from rfl, hs] at this
    cases this
  | some l =>
    obtain ⟨_, hl, q, c, hq, hqW, hb, _⟩ := h.some_ i l hw
    rw [show pk i = Lit.int .i64 (i : Int) from rfl, hs] at hq
    injection hq with hq
    unfold mkS at hq
    injection hq with hq _ _
    injection hq with hq
    injection hq with hq _ _
    subst hq
    exact ⟨i, l, rfl, hi, hw, hl, hb, hqW⟩
section
variable {w w' : World} {p g b cap : Nat} {W : List Nat} {d : DS}
theorem IsD.box_ne (h : IsD w p g b W cap d) {q : Nat} {v : Option Addr} (hq : w.cell? ⟨q, 0, none⟩ = some (.pointer v)) : q ≠ g := by
  rintro rfl
  obtain ⟨C, hC, _, _, h4⟩ := h.safe
  obtain ⟨_, h5⟩ := h4 0 h.n0.1
  have := h5 0 (by decide)
  rw [hC.cell, this] at hq
  injection hq with hq
  cases hq
set_option maxHeartbeats 4000000 in
theorem sync1_any (h : IsD w p g b W cap d) {q0 : Nat} (x0 : w.cell? ⟨q0, 0, none⟩ = some (.pointer (some ⟨p, 0, none⟩))) (hq0 : q0 < w.heap.size) :
    Calls Tryz.prog 105 #[.pointer (some ⟨q0, 0, none⟩)] w fun x w' => x = .returned (.tuple #[]) ∧ Did w p g b W cap { d with safe := syncS d, wait := fun _ => none } w' := by
  have hne := h.box_ne x0
  obtain ⟨f, hv, hf⟩ := h.map
  have c4 := h.blk.cell 4
  have HH := Lib.hid h
  have HF := Lib.hid hf
  have HV := Lib.hid hv
  have HX0 := Lib.hid x0
  obtain ⟨n0, n1⟩ := h.n0
  obtain ⟨lp, lg, lb⟩ := h.lt
  have hlw := Lib.hid h.low
  have HST := Lib.hid (part_start hf)
  clear h hv hf
  go_enter Tryz.func105, Tryz.ntmps105
  go_wp2_with (at_range; refine wpList_rangeV rfl (.tmp 6) 108 rfl 3 35 lawI Tryz.underlying108 rfl HV.out ?_; intro w3 cnt3 hrg3 hcn3 ho3 hs3)
  go_frame
  obtain ⟨r, hr⟩ : ∃ r, w.heap.size = r := ⟨_, rfl⟩
  rw [hr] at hrg3 hs3 lp lg lb hq0
  rw [hr]
  have hs3' : SafeAt w3 g d.n cap d.safe := HH.out.safe.only ho3 (by simp)
  have HRG3 := Lib.hid hrg3
  have HS3 := Lib.hid hs3'
  have HO3 := Lib.hid (ho3.mono (S' := [g]) (fun k hk => by cases hk))
  have HR := Lib.hid hr
  clear hrg3 hs3' ho3 hs3 hr x0 c4 HV
  go_loopw [8] (fun _ wr => ∃ (left : Lit → Bool) (cnt : Nat), VR Tryz.prog 3 wr b r d.n f left cnt ∧ SafeAt wr g d.n cap (part d left) ∧ Only [g] w wr) (fun _ wr => wr.rangeLeft b r)
  case atStart => exact ⟨_, cnt3, HRG3.out, by rw [HST.out]; exact HS3.out, HO3.out⟩
  case round =>
    clear HRG3 HS3 HO3
    obtain ⟨left, cnt, hrg, hsf, ho⟩ := hrel
    have x0 := ho.cell HX0.out (by simpa using hne)
    have hir := HH.out.turned ho hsf
    have c4 := hir.blk.cell 4
    have HRG := Lib.hid hrg
    have HSF := Lib.hid hsf
    have HO := Lib.hid ho
    have HIR := Lib.hid hir
    clear hrg hsf ho hir
    go_wp2_with (at_next; refine wpList_nextI rfl (.tmp 7) rfl 3 Tryz.underlying3 mkS rfl HRG.out HF.out.mk_ ?_ ?_)
    · intro hl0
      have HL0 := Lib.hid hl0
      have hvm := HRG.out.owns
      have HVM := Lib.hid hvm
      clear hl0 hvm
      go_wp2_with (refine wpList_clearV rfl (.tmp 21) 108 rfl 35 Tryz.underlying108 rfl HVM.out ?_; intro w5 hv5 ho5)
      go_end0
      have hc5 := HIR.out.cleared ho5 hv5
      rw [part_end HL0.out] at hc5
      exact ⟨rfl, W, hc5, Newer.refl _ _, (HO.out.mono (fun k hk => .inl (by simp at hk; simp [hk]))).trans ho5 (fun k hk => .inl (by simp at hk; simp [hk]))⟩
    · intro s q c w5 cnt5 hl hfs hrg5 hlt ho5 hsz5 hen
      obtain ⟨i, l, rfl, hi, hw, hll, hb, hqW⟩ := HF.out.at_ hfs
      simp only at hb hqW
      unfold mkS at hen ⊢
      simp only at hen ⊢
      have x5 := ho5.cell x0 (by simp; omega)
      have hrW : ∀ k ∈ W, k ∉ [r] := fun k hk => by have := hlw.out k hk; have := HR.out; simp; omega
      have hi5 := HIR.out.only ho5 ⟨by simp; omega, by simp; omega, by simp; omega⟩ hrW
      have hwr5 : Only [g] w w5 := HO.out.trans ho5 (fun k hk => .inr (by have := HR.out; simp at hk; omega))
      have hb5 := hb.only hwr5 (fun k hk => by simp [blkOf] at hk; subst hk; simpa using (HH.out.apart _ hqW).2.1)
      have HAT := Lib.hid (at_any hi5 i hi)
      obtain ⟨C, hC, hC2, hC3, hC4⟩ := hi5.safe
      have hC3' : 64 * d.n ≤ cap := hC3
      have hCl : 64 * i + Nat.min 64 64 ≤ C.size := by rw [hC2]; show 64 * i + 64 ≤ cap; omega
      have htk : l.take 64 = l := List.take_of_length_le (by omega)
      have HPS := Lib.hid (part_step (left := left) hw)
      have HC := Lib.hid hC
      have HB5 := Lib.hid hb5
      have HCL := Lib.hid hCl
      have HLD : Hid (∀ w6, Blk w6 g 5 (spliced C (64 * i + 0) l) → SafeAt w6 g d.n cap (fun k => if k = i then lay (part d left i) 0 l else part d left k)) := Lib.hid (fun w6 h6 => SafeAt.laid hC hC2 hC3 hC4 hi (by omega) h6)
      have hlay : lay (part d left i) 0 l = l := lay_whole _ _ (by have h9 : (part d left i).length = 64 := (hC4 i hi).1; omega)
      have HTK := Lib.hid htk
      have HLY := Lib.hid hlay
      have HRG5 := Lib.hid hrg5
      have HLT := Lib.hid hlt
      have HO5 := Lib.hid hwr5
      have HN := Lib.hid (show b ∉ [g] ∧ r ∉ [g] from ⟨by simpa using fun e => HH.out.ne.2.2 e.symm, by simp; omega⟩)
      clear hl hfs hw hll hb hqW hrW hi5 hb5 hC hC2 hC3 hC4 hCl htk hlay hrg5 hlt hwr5 ho5 hsz5 x0 c4
      go_wp2_with (first
        | (go_at_call 75; refine HAT.out.mono ?_; rintro x w4 ⟨cc, rfl, hc1, hc2, rfl⟩)
        | (refine wpList_copy_bytes (o := ⟨some 17, _, _, _, _, _⟩) rfl (.tmp 15) (.tmp 16) 35 35 rfl Tryz.underlying35 (by kernel_rfl) rfl rfl HC.out HB5.out (by decide) HCL.out ?_; intro w6 kk hb6 ho6; rw [HTK.out] at hb6; have HB6 := Lib.hid hb6; have HO6 := Lib.hid ho6; clear hb6 ho6; go_frame))
      have hs6 := HLD.out w6 HB6.out
      rw [HLY.out, ← HPS.out] at hs6
      have hrg6 := HRG5.out.only HO6.out HN.out.1 HN.out.2
      go_roundw
      case rel => exact ⟨_, cnt5, hrg6, hs6, HO5.out.trans HO6.out (fun k hk => .inl hk)⟩
      case measure => rw [hrg6.left_eq, HRG.out.left_eq]; exact HLT.out
end
end Go.Proofs.YthgfmoogagldmaaGreat.Disk
