/- The group at a place. -/
import Derived.Test.YthgfmoogagldmaaGreatJournalB
set_option linter.unusedVariables false
set_option maxRecDepth 100000
namespace Go.Proofs.YthgfmoogagldmaaGreat.Journal
open Go.RowKit Disk Go.Proofs.YthgfmoogagldmaaGreat.Frame
theorem flat_eq (ss : List Sl) : flat ss = (ss.map (·.l)).flatten := by unfold flat; rw [List.flatMap_def]
theorem unp_eq (ss : List Sl) (hok : ∀ s ∈ ss, s.l.length = s.n) (n : Int) : unp ss n = unpL (ss.map (·.l)) n := by
  have h : all64 ss ↔ ∀ s ∈ ss.map (·.l), s.length = 64 := ⟨fun h s hs => by obtain ⟨t, ht, rfl⟩ := List.mem_map.1 hs; rw [hok t ht]; exact h t ht, fun h s hs => by rw [← hok s hs]; exact h _ (List.mem_map_of_mem hs)⟩
  unfold unp unpL
  rw [List.length_map, flat_eq]
  by_cases c1 : n < 0 ∨ 1048576 < n ∨ (ss.length : Int) ≠ needZ n
  · rw [if_pos c1, if_pos c1]
  · rw [if_neg c1, if_neg c1]
    by_cases c2 : all64 ss
    · rw [if_neg (fun k : ¬ all64 ss => k c2), if_neg (fun k : ¬ ∀ s ∈ ss.map (·.l), s.length = 64 => k (h.1 c2))]
    · rw [if_pos c2, if_pos (fun k => c2 (h.2 k))]
theorem unpL_len {ss : List (List UInt8)} {n : Int} {V : Option (List UInt8)} (h : unpL ss n = V) (l : List UInt8) (hl : V = some l) : l.length ≤ 1048576 := by
  subst hl
  unfold unpL at h
  split at h
  · cases h
  · rename_i h1
    split at h
    · cases h
    · split at h
      · cases h
      · injection h with h
        rw [← h, List.length_take]
        omega
theorem s64_in (x : Nat) : -9223372036854775808 ≤ Codec.s64 x ∧ Codec.s64 x < 9223372036854775808 := by unfold Codec.s64 wrap64; omega
theorem getR_n (l : List UInt8) : -9223372036854775808 ≤ (getR l).1.n ∧ (getR l).1.n < 9223372036854775808 := by
  unfold getR
  split
  · exact s64_in _
  · exact ⟨by decide, by decide⟩
theorem mark_ext (x y : Frame.Mark) : x = y ↔ x.k = y.k ∧ x.g = y.g ∧ x.s = y.s ∧ x.n = y.n := by
  obtain ⟨a, b, c, d⟩ := x
  obtain ⟨a', b', c', d'⟩ := y
  simp
theorem eql_mark (x y : Frame.Mark) (w : World) : (binOp .eql 123 (.agg #[.int .i64 x.k, .int .i64 x.g, .int .i64 x.s, .int .i64 x.n]) (.agg #[.int .i64 y.k, .int .i64 y.g, .int .i64 y.s, .int .i64 y.n])).run Tryz.prog w = .ok (.bool (decide (x = y))) w := by
  have u_int := Tryz.underlying3
  have a_int : ∀ w, (isAgg 3).run Tryz.prog w = .ok false w := fun _ => by kernel_rfl
  have z_int : ∀ w, (Go.sizeOf 3).run Tryz.prog w = .ok 1 w := fun _ => by kernel_rfl
  have u_i64 := Tryz.underlying2
  have a_i64 : ∀ w, (isAgg 2).run Tryz.prog w = .ok false w := fun _ => by kernel_rfl
  have z_i64 : ∀ w, (Go.sizeOf 2).run Tryz.prog w = .ok 1 w := fun _ => by kernel_rfl
  have hS : Tryz.prog.underlying 123 = some (.struct (Tryz.prog.fieldsOf 123)) := by kernel_rfl
  have hp : Tryz.prog.stoodInHeld 123 = false := by kernel_rfl
  have hd : decide (x = y) = decide (x.k = y.k ∧ x.g = y.g ∧ x.s = y.s ∧ x.n = y.n) := by rw [decide_eq_decide]; exact mark_ext x y
  rw [hd]
  obtain ⟨a, b, c, d⟩ := x
  obtain ⟨a', b', c', d'⟩ := y
  simp only
  rw [run_eql_struct, show (10000 : Nat) = 9999 + 1 from rfl, run_equalIn_agg w 9999 _ _ _ hS hp]
  simp only [Program.fieldsOf, Tryz.underlying123]
  go_simp
  by_cases h1 : a = a' <;> by_cases h2 : b = b' <;> by_cases h3 : c = c' <;> by_cases h4 : d = d' <;> simp [h1, h2, h3, h4]
def GroupO (w : World) (u : Option (List UInt8)) (x : Ending) (w' : World) : Prop := ∃ (A : Option Addr) (n c : Nat), x = .returned (.tuple #[.slice A n c, .bool u.isSome]) ∧ (∀ l, u = some l → Bytes w' w'.heap.size A n l) ∧ n ≤ c ∧ c ≤ maxLen ∧ n ≤ 1048576 ∧ Only [] w w' ∧ ∀ k ∈ blkOf A, w.heap.size ≤ k ∧ ∃ cs, Blk w' k 5 cs
theorem group_no (w w' : World) (ho : Only [] w w') : GroupO w none (.returned (.tuple #[.slice none 0 0, .bool false])) w' := by
  refine ⟨none, 0, 0, rfl, fun l h => (by cases h), Nat.le_refl _, (by simp [maxLen]), (by omega), ho, fun k hk => (by cases hk)⟩
section
variable {w w' : World} {p g b cap : Nat} {W : List Nat} {d : DS}
set_option maxHeartbeats 2000000 in
theorem group_any (hd : IsD w p g b W cap d) (h : Half) (hs : h.small) (a seq : Int) (ha : 0 ≤ a ∧ a ≤ 100000) :
    Calls Tryz.prog 108 #[h.val p, .int .i64 a, .int .i64 seq] w fun x w' => GroupO w (groupH d h a seq) x w' := by
  obtain ⟨w1, hw1⟩ : ∃ w1, w.alloc (.cells #[.pointer (some ⟨p, 0, none⟩), .int .i64 h.gen, .int .i64 h.fr, .int .i64 h.room] 63) = w1 := ⟨_, rfl⟩
  have ho : Only [] w w1 := by rw [← hw1]; exact (Only.refl [] w).alloc _
  have hbk : Blk w1 w.heap.size 63 #[.pointer (some ⟨p, 0, none⟩), .int .i64 h.gen, .int .i64 h.fr, .int .i64 h.room] := by rw [← hw1]; exact Blk.new w _ _
  have HG := Lib.hid (get_any (hd.only0 ho) h hs a (by omega))
  have hn := getR_n (rdD d (h.fr + a))
  obtain ⟨U, hU⟩ : ∃ U, groupH d h a seq = U := ⟨_, rfl⟩
  rw [hU]
  unfold groupH at hU
  obtain ⟨L, hL⟩ : ∃ L, rdD d (h.fr + a) = L := ⟨_, rfl⟩
  rw [hL] at HG hn hU
  have HGM := Lib.hid (fun A n c B w (hr : Bytes w B A n L) hB hnc hcm => Frame.get_any A n c B L w hr hB hnc hcm)
  obtain ⟨R, hR⟩ : ∃ R, getR L = R := ⟨_, rfl⟩
  rw [hR] at HGM hn hU
  have HD := Lib.hid (hd.only0 ho)
  have HO := Lib.hid ho
  have HBK := Lib.hid hbk
  have HS := Lib.hid hs
  have x0 := hbk.cell 0
  have x1 := hbk.cell 1
  have x2 := hbk.cell 2
  have x3 := hbk.cell 3
  clear hd ho hbk hL hR
  obtain ⟨⟨mk, mg, ms, mn⟩, ok⟩ := R
  unfold Frame.Mark.val at HGM
  simp only at hn HGM hU
  obtain ⟨gen, fr, room⟩ := h
  unfold Half.val at HG ⊢
  simp only at hw1 HG x0 x1 x2 x3 hU ⊢
  have HU := Lib.hid hU
  clear hU
  go_enter Tryz.func108, Tryz.ntmps108
  go_wp2_with (first
    | (go_at_call 137; refine HG.out.mono ?_; rintro x w2 ⟨A, n, c, rfl, hby, hnc, hcm, ho2, _⟩; have HM2 := Lib.hid (HGM.out A n c _ w2 hby (Nat.le_refl _) hnc hcm); have HO2 := Lib.hid ho2; clear hby ho2)
    | (go_at_call 103; refine HM2.out.mono ?_; rintro x w3 ⟨rfl, ho3⟩; have HO3 := Lib.hid (HO2.out.trans ho3 (by simp)); clear ho3; have y0 := (HBK.out.only HO3.out (by simp)).cell 0))
  obtain ⟨w4, hw4⟩ : ∃ w4, w3.alloc (.cells #[.int .i64 mk, .int .i64 mg, .int .i64 ms, .int .i64 mn] 123) = w4 := ⟨_, rfl⟩
  have ho4 : Only [] w1 w4 := by rw [← hw4]; exact HO3.out.alloc _
  have hm4 : Blk w4 w3.heap.size 123 #[.int .i64 mk, .int .i64 mg, .int .i64 ms, .int .i64 mn] := by rw [← hw4]; exact Blk.new w3 _ _
  have hh4 := HBK.out.only ho4 (by simp)
  rw [hw4]
  have HO4 := Lib.hid (HO.out.trans ho4 (by simp))
  have HD4 := Lib.hid (HD.out.only0 ho4)
  have HM4 := Lib.hid hm4
  have HH4 := Lib.hid hh4
  have z0 := hh4.cell 0
  have z1 := hh4.cell 1
  have z2 := hh4.cell 2
  have z3 := hh4.cell 3
  have t0 := hm4.cell 0
  have t1 := hm4.cell 1
  have t2 := hm4.cell 2
  have t3 := hm4.cell 3
  obtain ⟨q, hq⟩ : ∃ q, w3.heap.size = q := ⟨_, rfl⟩
  rw [hq] at hm4 t0 t1 t2 t3 HM4 ⊢
  obtain ⟨z, hz⟩ : ∃ z, mn / 4294967296 = z := ⟨_, rfl⟩
  rw [hz]
  have hz1 : -2147483648 ≤ z ∧ z < 2147483648 := by omega
  have HN := Lib.hid (fun w => need_int z w (by omega) (by omega))
  have hnz : 0 ≤ needZ z ∧ needZ z ≤ 100000000 ∧ (z ≤ 1048576 → needZ z ≤ 16384) := by unfold needZ; split <;> omega
  obtain ⟨m, hm⟩ : ∃ m, needZ z = m := ⟨_, rfl⟩
  have hU := HU.out
  rw [hz] at hU
  rw [hm] at HN hnz hU
  clear HG HGM HM2 HO2 HO3 hw4 hq hn x0 x1 x2 x3 ho4 hm4 hh4
  obtain ⟨m0, m1, m2⟩ := hnz
  cases ok with
  | false =>
    rw [if_pos (.inl rfl)] at hU
    subst hU
    go_quiet (fail)
    go_wp2_with fail
    exact bodyPost_ret (v := .tuple #[.slice none 0 0, .bool false]) (by simp [results, Tryz.results108, go_sem]) rfl (group_no _ _ (HO4.out.drewN _))
  | true =>
    by_cases c1 : 1048576 < z
    · rw [if_pos (.inr (.inl c1))] at hU
      subst hU
      have d1 : decide (1048576 < z) = true := decide_eq_true c1
      go_quiet (fail)
      go_wp2_with fail
      exact bodyPost_ret (v := .tuple #[.slice none 0 0, .bool false]) (by simp [results, Tryz.results108, go_sem]) rfl (group_no _ _ (HO4.out.drewN _))
    · have d1 : decide (1048576 < z) = false := decide_eq_false c1
      by_cases c2 : room < a + 1 + m
      · rw [if_pos (.inr (.inr c2))] at hU
        subst hU
        have d2 : decide (room < a + 1 + m) = true := decide_eq_true c2
        go_quiet ((go_at_call 110; exact quiet_left (HN.out _)))
        go_wp2_with fail
        exact bodyPost_ret (v := .tuple #[.slice none 0 0, .bool false]) (by simp [results, Tryz.results108, go_sem]) rfl (group_no _ _ (HO4.out.drewN _))
      · have d2 : decide (room < a + 1 + m) = false := decide_eq_false c2
        rw [if_neg (by simp; omega)] at hU
        have HU2 := Lib.hid hU
        clear hU
        go_quiet ((go_at_call 110; exact quiet_left (HN.out _)))
        go_wp2_with (go_at_call 110; refine (HN.out _).mono ?_; rintro x wx ⟨rfl, rfl⟩)
        obtain ⟨M, hM⟩ := Int.eq_ofNat_of_zero_le m0
        subst hM
        have hMle := m2 (by omega)
        have HM := Lib.hid hm
        obtain ⟨a0, a1⟩ := ha
        have hsm := HS.out
        obtain ⟨_, ⟨fr0, fr1⟩, room0, room1⟩ := hsm
        simp only at fr0 fr1 room0 room1
        clear hm hs m0 m1 m2 d1 d2
        go_loopw [11, 42] (fun v i wr => ∃ (k : Nat) (ss : List Sl), k ≤ M ∧ i = .int .i64 k ∧ ss.length = k ∧ OwnR 35 1 wr w4.heap.size v k (ss.map fun s => [s.val]) ∧ ss.map (·.l) = (List.range k).map (fun i : Nat => rdD d (fr + (a + 1 + (i : Int)))) ∧
          (∀ s ∈ ss, Bytes wr wr.heap.size s.A s.n s.l ∧ (0 < s.n → ∀ k ∈ blkOf s.A, k ∉ ownL v)) ∧ Only [] w4 wr) (fun _ i _ => M - (intOf i).toNat)
        case atStart => exact ⟨0, [], by omega, rfl, rfl, OwnR.nil_ _ _ _ _, rfl, by simp, (Only.refl _ _).drewN _⟩
        case round =>
          obtain ⟨k, ss, hk, rfl, hsl, hown, hmap, hts, ho⟩ := hrel
          by_cases hlt : k < M
          · have e1 : decide ((k : Int) < (M : Int)) = true := decide_eq_true (by omega)
            have e1' : decide (k < M) = true := decide_eq_true hlt
            have HGT := Lib.hid (get_any (HD4.out.only0 ho) ⟨gen, fr, room⟩ HS.out (a + 1 + (k : Int)) (by omega))
            have hh5 := HH4.out.only ho (by simp)
            have y0 := hh5.cell 0
            have y1 := hh5.cell 1
            have y2 := hh5.cell 2
            have y3 := hh5.cell 3
            have HSL := Lib.hid hsl
            have HMAP := Lib.hid hmap
            have HTS := Lib.hid hts
            have HO := Lib.hid ho
            have hws := ho.size
            unfold Half.val at HGT
            simp only at HGT
            clear hsl hmap hts ho hh5 z0 z1 z2 z3 t0 t1 t2 t3
            go_wp2_with (first
              | (go_at_call 137; refine HGT.out.mono ?_; rintro x w6 ⟨A', n', c', rfl, hb2, hc1, hc2, ho2, hf2⟩; have ho02 := HO.out.trans ho2 (by simp); have hown2 := hown.only ho2 (by simp); have hws2 := ho2.size)
              | (at_builtin; refine wpList_append1 (w := w6) rfl (.tmp 45) (.tmp 52) 34 rfl Tryz.underlying34 sl_info rfl (by decide) rfl hown2 rfl rfl (row := [(⟨A', n', c', rdD d (fr + (a + 1 + (k : Int)))⟩ : Sl).val]) rfl rfl (by intro u hu; rw [List.mem_singleton.1 hu]; rfl) (by omega) (by unfold maxLen; omega) (by omega) ?_; intro v' w7 hE))
            go_roundw
            case measure => simp [intOf]; omega
            case rel =>
              have hself : ∀ t : Sl, Bytes w6 w6.heap.size t.A t.n t.l → (0 < t.n → ∀ k ∈ blkOf t.A, k ∉ ownL u11) → 0 < t.n → ∀ k ∈ blkOf t.A, k ∉ ownL v' := fun t h1 h2 hn k hk hm => by
                rcases hE.fresh k hm with e | e
                · exact h2 hn k hk e
                · have := bytes_lt h1 hn k hk; omega
              have hnew : 0 < n' → ∀ k ∈ blkOf A', k ∉ ownL u11 := fun hn k hk hm => by
                have h1 := hf2 k hk
                have h2 := hown.lt k hm
                omega
              refine ⟨k + 1, ss ++ [⟨A', n', c', rdD d (fr + (a + 1 + (k : Int)))⟩], by omega, by go_num, by rw [List.length_append, HSL.out]; rfl, by rw [List.map_append]; exact hE.own, ?_, ?_, ho02.trans hE.only (fun g hg => .inr (hown2.lt g hg).1)⟩
              · rw [List.map_append, HMAP.out, List.range_succ, List.map_append]
                rfl
              · intro t ht
                rcases List.mem_append.1 ht with ht | ht
                · obtain ⟨t1, t6⟩ := HTS.out t ht
                  have t1' := (t1.only ho2 (by simp)).more ho2.size
                  exact ⟨(t1'.only_pos hE.only t6).more hE.only.size, hself t t1' t6⟩
                · rw [List.mem_singleton.1 ht]
                  exact ⟨(hb2.only_pos hE.only hnew).more hE.only.size, hself ⟨A', n', c', rdD d (fr + (a + 1 + (k : Int)))⟩ hb2 hnew⟩
          · obtain rfl : k = M := by omega
            have e1 : decide ((k : Int) < (k : Int)) = false := decide_eq_false (by omega)
            have e1' : decide (k < k) = false := decide_eq_false (by omega)
            obtain ⟨AA, cc, rfl, _, _, _, _⟩ := hown.shape (by decide)
            subst hsl
            have hrr := reads_own hown rfl
            have hlen : ∀ s ∈ ss, s.l.length = s.n := fun s hs => (hts s hs).1.len
            have HUN := Lib.hid (unpackF_any AA ss.length cc wr.heap.size ss z wr rfl (by omega) hrr (Nat.le_refl _) (fun s hs => (hts s hs).1) (by omega) (by omega))
            have hue := unp_eq ss hlen z
            rw [hmap] at hue
            rw [hue] at HUN
            have hU3 := HU2.out
            rw [Int.toNat_natCast] at hU3
            obtain ⟨V, hV⟩ : ∃ V, unpL ((List.range ss.length).map fun i : Nat => rdD d (fr + (a + 1 + (i : Int)))) z = V := ⟨_, rfl⟩
            rw [hV] at HUN hU3
            have HV := Lib.hid hV
            have HO5 := Lib.hid (HO4.out.trans ho (by simp))
            have hh5 := HH4.out.only ho (by simp)
            have hm5 := HM4.out.only ho (by simp)
            have HH5 := Lib.hid hh5
            have HM5 := Lib.hid hm5
            have HU3 := Lib.hid hU3
            have HWS := Lib.hid (Nat.le_trans HO4.out.size ho.size)
            clear hts hmap hown hrr hlen hue HU2 hU3 hV hh5 hm5 ho z0 z1 z2 z3 t0 t1 t2 t3
            go_wp2_with (go_at_call 138; refine HUN.out.mono ?_; rintro x w6 ⟨A', n', c', rfl, hb6, hc1, hc2, ho6, hf6⟩)
            have ho06 := HO5.out.trans ho6 (by simp)
            have hfr : ∀ k ∈ blkOf A', w.heap.size ≤ k ∧ ∃ cs, Blk w6 k 5 cs := fun k hk => ⟨Nat.le_trans HWS.out (hf6 k hk).1, (hf6 k hk).2⟩
            have HO6 := Lib.hid ho06
            have HFR := Lib.hid hfr
            have hh6 := HH5.out.only ho6 (by simp)
            have hm6 := HM5.out.only ho6 (by simp)
            have HHM := Lib.hid hm6
            have y0 := hh6.cell 0
            have y1 := hh6.cell 1
            have y2 := hh6.cell 2
            have y3 := hh6.cell 3
            have t0 := hm6.cell 0
            have t1 := hm6.cell 1
            have t2 := hm6.cell 2
            have t3 := hm6.cell 3
            have HB6 := Lib.hid hb6
            have HL6 := Lib.hid (unpL_len (show unpL _ z = V from HV.out))
            have hU3 := HU3.out
            clear ho06 hfr hh6 hm6 ho6 hf6 hb6 HUN HU3
            cases V with
            | none =>
              simp only at hU3
              subst hU3
              obtain rfl : n' = 0 := HB6.out.len.symm
              go_quiet (fail)
              go_wp2_with fail
              exact bodyPost_ret (v := .tuple #[.slice A' 0 c', .bool false]) (by simp [results, Tryz.results108, go_sem]) rfl ⟨A', 0, c', rfl, fun l h => (by cases h), hc1, hc2, (by omega), HO6.out.drewN _, HFR.out⟩
            | some l =>
              simp only at hU3
              have hn6 : n' ≤ 1048576 := by have h1 := HB6.out.len; have h2 := HL6.out l rfl; simp at h1; omega
              have hmk := mark_any w6.drew p ⟨gen, fr, room⟩ seq A' n' c' w6.heap.size l HB6.out hn6
              obtain ⟨MM, hMM⟩ : ∃ MM, markH ⟨gen, fr, room⟩ seq l = MM := ⟨_, rfl⟩
              rw [hMM] at hU3 hmk
              obtain ⟨bb, hbb⟩ : ∃ bb, decide (MM = (⟨mk, mg, ms, mn⟩ : Frame.Mark)) = bb := ⟨_, rfl⟩
              have hq := eql_mark MM ⟨mk, mg, ms, mn⟩
              rw [hbb] at hq
              obtain ⟨ak, ag, as_, an⟩ := MM
              simp only at hq
              unfold Frame.Mark.val Half.val at hmk
              simp only at hmk
              have HMK := Lib.hid hmk
              have HUU : Hid (U = if bb = true then some l else none) := by
                unfold Hid
                rw [← hU3, ← hbb]
                by_cases e : (⟨ak, ag, as_, an⟩ : Frame.Mark) = ⟨mk, mg, ms, mn⟩
                · rw [if_pos e, if_pos (decide_eq_true e)]
                · rw [if_neg e, if_neg (by rw [decide_eq_false e]; decide)]
              clear hU3 hbb hmk hMM
              go_region_law (go_simp; go_at_call 68; refine HMK.out.mono ?_; rintro x w7 ⟨rfl, ho7⟩; have hm7 := HHM.out.drew.only ho7 (by simp); have s0 := hm7.cell 0; have s1 := hm7.cell 1; have s2 := hm7.cell 2; have s3 := hm7.cell 3; have HO7 := Lib.hid (HO6.out.drew.trans ho7 (by simp)); have HB7 := Lib.hid (((HB6.out.only (Only.refl [] w6).drew (by simp)).only ho7 (by simp)).more ho7.size); have HF7 := Lib.hid (fun k hk => (⟨(HFR.out k hk).1, (HFR.out k hk).2.imp fun cs h => h.drew.only ho7 (by simp)⟩ : w.heap.size ≤ k ∧ ∃ cs, Blk w7 k 5 cs)); clear hm7 ho7)
              all_goals
                go_wp2_with fail
                refine bodyPost_ret (v := .tuple #[.slice A' n' c', .bool bb]) (by simp [results, Tryz.results108, go_sem]) rfl ⟨A', n', c', ?_, ?_, hc1, hc2, hn6, HO7.out, HF7.out⟩
                · rw [HUU.out]
                  cases bb <;> rfl
                · intro l' hl'
                  rw [HUU.out] at hl'
                  cases bb with
                  | true => cases hl'; exact HB7.out
                  | false => cases hl'
end
end Go.Proofs.YthgfmoogagldmaaGreat.Journal
