/- Stop, New, Waiting walk. -/
import Derived.Test.YtgbicimbggdpgaaDisk4
namespace Go.Proofs.Ytgbicimbggdpgaa.Disk
open Go.RowKit Go.Maps
set_option linter.unusedVariables false
set_option maxRecDepth 100000
def stopD (d : DS) (a : Int) : DS := if d.off = true then d else { d with left := max a 0, off := max a 0 == 0 }
def newD (n : Nat) : DS := ⟨n, -1, 0, false, fun _ => List.replicate 64 0, fun _ => none⟩
section
variable {w w' : World} {p g b cap : Nat} {W : List Nat} {d : DS}
set_option maxHeartbeats 1000000 in
theorem stop_any (h : IsD w p g b W cap d) (a : Int) (ha : a ≤ 9223372036854775807) : Calls Try.prog 10 #[.pointer (some ⟨p, 0, none⟩), .int .i64 a] w fun x w' => x = .returned (.tuple #[]) ∧ Did w p g b W cap (stopD d a) w' := by
  have c0 := h.blk.cell 0
  have c2 := h.blk.cell 2
  have f0 := h.blk.frozen 0
  have f2 := h.blk.frozen 2
  have HNN := Lib.hid (none_is h)
  have HH := Lib.hid h
  obtain ⟨n, left, done, off, safe, wait⟩ := d
  unfold stopD
  simp only at c0 c2 ⊢
  cases off with
  | true =>
    rw [if_pos rfl]
    clear h
    go_enter Try.func10, Try.ntmps10
    go_wp2_with (go_at_call 17; refine HNN.out.mono ?_; rintro x w4 ⟨rfl, rfl⟩)
    go_end0
    exact ⟨rfl, did_of (Only.refl _ _) HH.out⟩
  | false =>
    rw [if_neg (by simp)]
    have ho : ∀ (z : Int) (bb : Bool), Only [p] w ((w.setCell ⟨p, 0, none⟩ (.int .i64 z)).setCell ⟨p, 2, none⟩ (.bool bb)) := fun z bb => ((Only.refl [p] w).setCell (p := ⟨p, 0, none⟩) (.inl (by simp)) _).setCell (p := ⟨p, 2, none⟩) (.inl (by simp)) _
    have hb : ∀ (z : Int) (bb : Bool), Blk ((w.setCell ⟨p, 0, none⟩ (.int .i64 z)).setCell ⟨p, 2, none⟩ (.bool bb)) p 47 #[.int .i64 z, .int .i64 done, .bool bb, .slice (some ⟨g, 0, none⟩) (64 * n : Nat) cap, .map (some b)] := fun z bb => (h.blk.set_ 0 (.int .i64 z)).set_ 2 (.bool bb)
    have hdn := h.done_
    simp only at hdn
    have HF : Hid (∀ (z : Int) (bb : Bool), 0 ≤ z → z ≤ 9223372036854775807 → Did w p g b W cap ⟨n, z, done, bb, safe, wait⟩ ((w.setCell ⟨p, 0, none⟩ (.int .i64 z)).setCell ⟨p, 2, none⟩ (.bool bb))) := Lib.hid (fun z bb hz hz2 => ⟨W, HH.out.head (ho z bb) (hb z bb) (by omega) hdn, Newer.refl _ _, only_p (ho z bb)⟩)
    clear h ho hb hdn
    go_enter Try.func10, Try.ntmps10
    go_wp2_with (go_at_call 17; refine HNN.out.mono ?_; rintro x w4 ⟨rfl, rfl⟩)
    go_end0
    exact ⟨rfl, HF.out _ _ (by omega) (by omega)⟩
/-- the sectors that wait -/
def waitsD (d : DS) (ks : List Nat) : Prop := ks.Pairwise (fun a b => a < b) ∧ ∀ i, i ∈ ks ↔ (d.wait i).isSome = true
theorem waitsD.uniq {ks ks' : List Nat} (h : waitsD d ks) (h' : waitsD d ks') : ks = ks' := by
  have n1 : ks.Nodup := h.1.imp (fun h => by omega)
  have n2 : ks'.Nodup := h'.1.imp (fun h => by omega)
  exact List.Perm.eq_of_pairwise (le := fun a b => a < b) (fun x y _ _ h1 h2 => by omega) h.1 h'.1 ((List.perm_ext_iff_of_nodup n1 n2).2 fun x => by rw [h.2, h'.2])
theorem IsD.keys {f : Lit → Option Value} {ss : List Int} (hf : WaitF w W d.n f d.wait) (hk : KeysI f ss) : ∃ ks : List Nat, ss = ks.map (fun k : Nat => (k : Int)) ∧ waitsD d ks := by
  have hnn : ∀ x ∈ ss, ∃ i : Nat, x = (i : Int) := fun x hx => by
    obtain ⟨i, _, hi⟩ := hf.keys _ ((hk.2.2 x).1 hx)
    unfold pk at hi
    injection hi with _ hi
    exact ⟨i, hi⟩
  refine ⟨ss.map Int.toNat, ?_, ?_, ?_⟩
  · rw [List.map_map]
    symm
    rw [List.map_congr_left (g := id) (fun x hx => by obtain ⟨i, rfl⟩ := hnn x hx; simp), List.map_id]
  · rw [List.pairwise_map]
    have h1 := hk.1
    have h2 : ss.Pairwise (fun a b => a ≠ b) := hk.2.1
    refine (h1.and h2).imp_of_mem ?_
    intro a c ha hc ⟨h3, h4⟩
    obtain ⟨i, rfl⟩ := hnn a ha
    obtain ⟨j, rfl⟩ := hnn c hc
    simp
    omega
  · intro i
    rw [List.mem_map]
    constructor
    · rintro ⟨x, hx, rfl⟩
      obtain ⟨j, rfl⟩ := hnn x hx
      have h3 := (hk.2.2 _).1 hx
      cases hw : d.wait ((j : Int).toNat) with
      | some _ => rfl
      | none =>
        have := hf.none_ _ hw
        simp only [Int.toNat_natCast] at this
        rw [show (Lit.int .i64 (j : Int)) = pk j from rfl, this] at h3
        cases h3
    · intro h3
      obtain ⟨l, hl⟩ := Option.isSome_iff_exists.1 h3
      obtain ⟨_, _, q, c, hq, _⟩ := hf.some_ i l hl
      exact ⟨(i : Int), (hk.2.2 _).2 (by rw [show (Lit.int .i64 (i : Int)) = pk i from rfl, hq]; rfl), by simp⟩
theorem keys_call (b : Nat) (w : World) : Calls Try.prog 24 #[.map (some b)] w fun e w' => e = .returned (.func (.func 27) #[] #[.pointer (some ⟨w.heap.size, 0, none⟩)]) ∧ w' = w.alloc (.cells #[.map (some b)] 45) :=
  (callsIn_wide (n := 5)).1 (Try.maps_Keys_24 (some b) w)
/-- what Waiting answers -/
def WaitsO (w : World) (d : DS) (x : Ending) (w' : World) : Prop := ∃ A c ks, x = .returned (.slice A ks.length c) ∧ waitsD d ks ∧ ks.length ≤ d.n ∧ Reads w' w'.heap.size 1 A ks.length (ks.map (fun k : Nat => Value.int .i64 (k : Int))) ∧ ks.length ≤ c ∧ (∀ q ∈ blkOf A, w.heap.size ≤ q) ∧ Only [] w w'
theorem sorted_call (h : IsD w p g b W cap d) : Calls Try.prog 23 #[.func (.func 27) #[] #[.pointer (some ⟨w.heap.size, 0, none⟩)]] (w.alloc (.cells #[.map (some b)] 45)) fun x w' => WaitsO w d x w' := by
  obtain ⟨f, hv, hf⟩ := h.map
  obtain ⟨D, hD, hfe⟩ := hv
  subst hfe
  obtain ⟨n0, n1⟩ := h.n0
  have hs := hD.size_le
  refine ((callsIn_wide (n := 5)).1 (Try.slices_Sorted_keys_23_24 b d.n D RV w hD (by unfold maxLen; omega) (by omega))).mono ?_
  rintro e w' ⟨v, ss, rfl, hp, hrow, _, hb⟩
  obtain ⟨hk, hl⟩ := keysI_of hD Try.underlying3 hp
  obtain ⟨ks, hks, hwk⟩ := IsD.keys hf hk
  have hlen : ks.length = ss.length := by
    have := congrArg List.length hks
    rw [List.length_map, List.length_mergeSort] at this
    omega
  rw [hks] at hrow
  have hrow2 : w'.ownsRow (w.alloc (.cells #[.map (some b)] 45)).heap.size 3 1 v ks.length (ks.map (fun k : Nat => Value.int .i64 (k : Int))) := by
    rw [hlen]
    rw [List.map_map] at hrow
    exact hrow
  have ho : Only [] w w' := ((Only.refl [] w).alloc _).trans (Only.of_below hb) (by simp)
  rcases hrow2.2 with ⟨hv, hz⟩ | ⟨gb, cp, cur, hv, hbase, hgb, r1, r2, r3, r4⟩
  · subst hv
    obtain rfl : ks = [] := List.eq_nil_of_length_eq_zero hz
    exact ⟨none, 0, [], rfl, hwk, Nat.zero_le _, Reads.none_, Nat.le_refl _, by simp [blkOf], ho⟩
  · subst hv
    exact ⟨some ⟨gb, 0, none⟩, cp, ks, rfl, hwk, by omega, Reads.of_own hrow2, r1, (fun q hq => by simp [blkOf] at hq; rw [World.size_alloc] at hbase; omega), ho⟩
set_option maxHeartbeats 1000000 in
theorem waiting_any (h : IsD w p g b W cap d) : Calls Try.prog 16 #[.pointer (some ⟨p, 0, none⟩)] w fun x w' => WaitsO w d x w' := by
  have c4 := h.blk.cell 4
  have HNN := Lib.hid (none_is h)
  have HK := Lib.hid (keys_call b w)
  have HS := Lib.hid (sorted_call h)
  clear h
  go_enter Try.func16, Try.ntmps16
  go_wp2_with (first
    | (go_at_call 17; refine HNN.out.mono ?_; rintro x w4 ⟨rfl, rfl⟩)
    | (go_at_call 24; refine HK.out.mono ?_; rintro x w2 ⟨rfl, rfl⟩)
    | (go_at_call 23; refine HS.out.mono ?_; rintro x w2 ⟨A, c, ks, rfl, hw⟩))
  go_ret
  exact ⟨A, c, ks, rfl, hw⟩
theorem new_bad (n : Int) (hn : n < 1 ∨ 65536 < n) (w : World) : Calls Try.prog 5 #[.int .i64 n] w fun x w' => x = .returned (.tuple #[.pointer none, .int .i64 1]) ∧ Only [] w w' := by
  have hcase : decide (n < 1) = true ∨ (decide (n < 1) = false ∧ decide (65536 < n) = true) := by
    by_cases a : n < 1
    · exact .inl (decide_eq_true a)
    · exact .inr ⟨decide_eq_false a, decide_eq_true (by omega)⟩
  clear hn
  rcases hcase with d1 | ⟨d1, d2⟩
  all_goals
    go_enter Try.func5, Try.ntmps5
    go_wp2_with fail
    go_ret2
    exact ⟨rfl, Only.refl _ _⟩
theorem safe_made {base n : Nat} {g : Nat} (h : w.ownsRow base 5 1 (.slice (some ⟨g, 0, none⟩) (n * 64) (n * 64)) (n * 64) (madeCells (Value.int .u8 0).cells (n * 64 * 1)).toList) : SafeAt w g n (n * 64) (fun _ => List.replicate 64 0) := by
  obtain ⟨hl, h0⟩ := h
  rcases h0 with ⟨h0, _⟩ | ⟨g', cap, cur, hv, hb, hg, h1, h2, h3, h4⟩
  · cases h0
  · simp only [Value.slice.injEq, Option.some.injEq, Addr.mk.injEq, and_true, true_and] at hv
    obtain ⟨rfl, rfl⟩ := hv
    rw [Nat.mul_one] at h3 h4
    refine ⟨cur, hg, h3, by omega, fun i hi => ⟨by simp, fun j hj => ?_⟩⟩
    rw [List.take_of_length_le (by rw [Array.length_toList, h3]; exact Nat.le_refl _)] at h4
    have hr : (List.replicate 64 (0 : UInt8)).getD j 0 = 0 := by
      rw [List.getD_eq_getElem?_getD, List.getElem?_replicate, if_pos hj]
      rfl
    rw [← Array.getElem?_toList, h4, show (Value.int .u8 0).cells = #[.int .u8 0] from rfl, toList_madeCells_one, List.getElem?_replicate, if_pos (by omega), hr]
    rfl
/-- a new disk -/
def NewO (w : World) (n : Nat) (x : Ending) (w' : World) : Prop := ∃ p g b cap, x = .returned (.tuple #[.pointer (some ⟨p, 0, none⟩), .int .i64 0]) ∧ IsD w' p g b [] cap (newD n) ∧ w.heap.size ≤ p ∧ w.heap.size ≤ g ∧ w.heap.size ≤ b ∧ Only [] w w'
set_option maxHeartbeats 1000000 in
theorem new_any (n : Nat) (h1 : 1 ≤ n) (h2 : n ≤ 65536) (w : World) : Calls Try.prog 5 #[.int .i64 (n : Int)] w fun x w' => NewO w n x w' := by
  obtain ⟨i0, hi0, hz0, hz1, hz2⟩ := info_parts byte_info
  have hmm := @run_makeMap Try.prog
  have d1 : decide ((n : Int) < 1) = false := decide_eq_false (by omega)
  have d2 : decide ((65536 : Int) < (n : Int)) = false := decide_eq_false (by omega)
  go_enter Try.func5, Try.ntmps5
  go_wp2_with (at_make; refine wpList_make_full w rfl _ _ 29 rfl w.heap.size 5 i0 _ 1 Try.underlying29 hi0 hz0 hz1 _ _ _ _ (n * 64) rfl rfl (by omega) (by omega) (by rw [hz2]; omega) (by unfold maxLen; omega) (Nat.le_refl _) ?_; intro w2 hmk hgk)
  have ho2 : Only [] w w2 := Only.of_grown hgk
  have hs := safe_made hmk
  have hgl : w.heap.size < w2.heap.size := by obtain ⟨C, hC, _⟩ := hs; exact hC.lt
  have ho3 : Only [] w2 (w2.alloc (.map #[] 0)) := (Only.refl [] w2).alloc _
  have ho4 : Only [] w2 ((w2.alloc (.map #[] 0)).alloc (.cells #[.int .i64 (-1), .int .i64 0, .bool false, .slice (some ⟨w.heap.size, 0, none⟩) (n * 64) (n * 64), .map (some w2.heap.size)] 47)) := ho3.alloc _
  have hvm := VM.made w2 Try.prog 3
  have hvm2 := hvm.alloc (.cells #[.int .i64 (-1), .int .i64 0, .bool false, .slice (some ⟨w.heap.size, 0, none⟩) (n * 64) (n * 64), .map (some w2.heap.size)] 47)
  have hbk := Blk.new (w2.alloc (.map #[] 0)) 47 #[.int .i64 (-1), .int .i64 0, .bool false, .slice (some ⟨w.heap.size, 0, none⟩) (n * 64) (n * 64), .map (some w2.heap.size)]
  rw [World.size_alloc] at hbk
  have hfin : IsD ((w2.alloc (.map #[] 0)).alloc (.cells #[.int .i64 (-1), .int .i64 0, .bool false, .slice (some ⟨w.heap.size, 0, none⟩) (n * 64) (n * 64), .map (some w2.heap.size)] 47)) (w2.heap.size + 1) w.heap.size w2.heap.size [] (n * 64) (newD n) := by
    refine ⟨by rw [show 64 * (newD n).n = n * 64 from Nat.mul_comm _ _]; exact hbk, hs.only ho4 (by simp), ⟨_, hvm2.mono (Nat.zero_le _), ⟨(fun k h => by cases h), (fun i l h => by cases h), fun _ _ => rfl⟩⟩, ⟨by omega, by omega, by omega⟩, by simp, by simp, ⟨h1, h2⟩, by unfold maxLen; omega, ⟨by simp [newD], by simp [newD]⟩, ⟨by simp [newD], by simp [newD]⟩⟩
  go_ret2
  exact ⟨_, _, _, _, rfl, hfin, by omega, by omega, by omega, ho2.trans ho4 (by simp)⟩
end
end Go.Proofs.Ytgbicimbggdpgaa.Disk
