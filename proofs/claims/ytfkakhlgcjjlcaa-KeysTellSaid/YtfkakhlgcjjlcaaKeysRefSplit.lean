/- The walks of keys: what any text is made of, by the document. -/
import Derived.Test.YtfkakhlgcjjlcaaKeysLawSplit
import Derived.Test.YtfkakhlgcjjlcaaKeysSame
namespace Go.Proofs.Ytfkakhlgcjjlcaa.Keys
open Go.RowKit Codec
set_option linter.unusedVariables false
set_option maxRecDepth 100000

theorem hasB_false {s : ByteArray} (h : hasB s = false) : splitR s = ((0, ⟨#[]⟩, ⟨#[]⟩, []), 5) := split_bad (by
  unfold splitOf
  rw [if_neg]
  rintro ⟨h1, h2, _⟩
  unfold hasB at h
  exact of_decide_eq_false h ⟨h1, h2⟩)
theorem Reader.bad {w : World} {p : Nat} {st : Option (List UInt8)} (h : RRd w p st) : w.cell? ⟨p, 1, none⟩ = some (.bool st.isNone) := by
  obtain ⟨A, n, c, hb, _⟩ := h
  exact hb.cell 1
set_option maxHeartbeats 4000000 in
theorem ref_split (s : ByteArray) (w : World) (hs : s.size ≤ 140737488355328) :
    Calls Try.prog 16 #[.string s] w fun x w' => ∃ v, x = .returned (.tuple #[madeV (splitR s).1 v, .int .i64 (splitR s).2]) ∧ OwnR 62 2 w' w.heap.size v (splitR s).1.2.2.2.length ((splitR s).1.2.2.2.map depRow) ∧ Only [] w w' := by
  have hu0 : Blk (w.alloc (.cells #[.int .i64 0, .string ⟨#[]⟩, .string ⟨#[]⟩, .slice none 0 0] 38)) w.heap.size 38 #[.int .i64 0, .string ⟨#[]⟩, .string ⟨#[]⟩, .slice none 0 0] := Blk.new _ _ _
  have ho0 : Only [] w (w.alloc (.cells #[.int .i64 0, .string ⟨#[]⟩, .string ⟨#[]⟩, .slice none 0 0] 38)) := (Only.refl [] w).alloc _
  have hs0 : (w.alloc (.cells #[.int .i64 0, .string ⟨#[]⟩, .string ⟨#[]⟩, .slice none 0 0] 38)).heap.size = w.heap.size + 1 := alloc_size _ _
  have hfin : ∀ wr, Blk wr w.heap.size 38 #[.int .i64 0, .string ⟨#[]⟩, .string ⟨#[]⟩, .slice none 0 0] → Only [] w wr → ∀ (r : Int) (path txt : ByteArray) (u : Value),
      Blk ((((wr.setCell ⟨w.heap.size, 0, none⟩ (.int .i64 r)).setCell ⟨w.heap.size, 1, none⟩ (.string path)).setCell ⟨w.heap.size, 2, none⟩ (.string txt)).setCell ⟨w.heap.size, 3, none⟩ u) w.heap.size 38 #[.int .i64 r, .string path, .string txt, u] ∧
      Only [] w ((((wr.setCell ⟨w.heap.size, 0, none⟩ (.int .i64 r)).setCell ⟨w.heap.size, 1, none⟩ (.string path)).setCell ⟨w.heap.size, 2, none⟩ (.string txt)).setCell ⟨w.heap.size, 3, none⟩ u) ∧
      Only [w.heap.size] wr ((((wr.setCell ⟨w.heap.size, 0, none⟩ (.int .i64 r)).setCell ⟨w.heap.size, 1, none⟩ (.string path)).setCell ⟨w.heap.size, 2, none⟩ (.string txt)).setCell ⟨w.heap.size, 3, none⟩ u) := fun wr hb h0 r path txt u =>
    ⟨blk4 hb _ _ _ _, (((h0.setCell (.inr (Nat.le_refl _)) _).setCell (.inr (Nat.le_refl _)) _).setCell (.inr (Nat.le_refl _)) _).setCell (.inr (Nat.le_refl _)) _,
      (((((Only.refl [w.heap.size] wr).setCell (p := ⟨w.heap.size, 0, none⟩) (.inl (by simp)) _).setCell (p := ⟨w.heap.size, 1, none⟩) (.inl (by simp)) _).setCell (p := ⟨w.heap.size, 2, none⟩) (.inl (by simp)) _).setCell (p := ⟨w.heap.size, 3, none⟩) (.inl (by simp)) _)⟩
  have HFIN := Lib.hid hfin
  clear hfin
  have hbad : splitR s = ((0, ⟨#[]⟩, ⟨#[]⟩, []), 5) → ∀ wr, Only [] w wr →
      ∃ v, (Ending.returned (.tuple #[.agg #[.int .i64 0, .string ⟨#[]⟩, .string ⟨#[]⟩, .slice none 0 0], .int .i64 5]) : Ending) = .returned (.tuple #[madeV (splitR s).1 v, .int .i64 (splitR s).2]) ∧ OwnR 62 2 wr w.heap.size v (splitR s).1.2.2.2.length ((splitR s).1.2.2.2.map depRow) ∧ Only [] w wr := by
    intro h wr h0
    rw [h]
    exact ⟨.slice none 0 0, rfl, OwnR.nil_ _ _ _ _, h0⟩
  have HBAD := Lib.hid hbad
  clear hbad
  by_cases h4 : s.size < 4
  · have d1 : decide ((s.size : Int) < 4) = true := decide_eq_true (by omega)
    have hR := hasB_false (s := s) (by unfold hasB; exact decide_eq_false (fun h => by omega))
    have HB := Lib.hid (HBAD.out hR _ ho0)
    clear h4 hR
    go_enter Try.func16, Try.ntmps16
    go_wp2_with fail
    exact bodyPost_ret (made_ret _ _ w.heap.size _ _ _ _ _ rfl rfl rfl hu0) rfl HB.out
  · have d1 : decide ((s.size : Int) < 4) = false := decide_eq_false (by omega)
    have h4' : (4 : Int) ≤ (s.size : Int) := by omega
    by_cases hx : s.extract 0 4 = ⟨#[84, 77, 75, 49]⟩
    · by_cases hl : 65536 < s.size
      · have d2 : decide ((65536 : Int) < (s.size : Int)) = true := decide_eq_true (by omega)
        have hR : splitR s = ((0, ⟨#[]⟩, ⟨#[]⟩, []), 5) := split_bad (by
          unfold splitOf
          rw [if_neg]
          rintro ⟨_, _, h3⟩
          omega)
        have HB := Lib.hid (HBAD.out hR _ ho0)
        clear hR hl h4
        go_enter Try.func16, Try.ntmps16
        go_wp2_with fail
        exact bodyPost_ret (made_ret _ _ w.heap.size _ _ _ _ _ rfl rfl rfl hu0) rfl HB.out
      · have d2 : decide ((65536 : Int) < (s.size : Int)) = false := decide_eq_false (by omega)
        have hS : splitOf s = madeOf (s.data.toList.drop 4) := by unfold splitOf; rw [if_pos ⟨by omega, hx, by omega⟩]
        have HS := Lib.hid hS
        have hxl : (s.extract 4 s.size).data.toList = s.data.toList.drop 4 := by
          rw [extract_str, str_list, List.take_of_length_le (by simp)]
        have hxs : (s.extract 4 s.size).size = s.size - 4 := by rw [ByteArray.size_extract]; omega
        obtain ⟨cap, w1, hcv, hB1, hon1, hcc, hcm, hsz1⟩ := bytes_of (w.alloc (.cells #[.int .i64 0, .string ⟨#[]⟩, .string ⟨#[]⟩, .slice none 0 0] 38)) (s.extract 4 s.size) (by rw [hxs]; unfold maxLen; omega)
        rw [hxl, hxs] at hB1
        rw [hxs] at hcv hcc
        rw [hs0] at hcv hB1 hsz1
        have hu1 := hu0.only hon1 (by simp)
        have ho1 := ho0.trans hon1 (by simp)
        clear hxl hS hl h4 hxs hu0 ho0 hon1 hs0
        go_enter Try.func16, Try.ntmps16
        go_wp2_with fail
        have hR2 : RRd (w1.alloc (.cells #[.slice (some ⟨w.heap.size + 1, 0, none⟩) (s.size - 4) cap, .bool false] 60)) (w.heap.size + 1 + 1) (some (s.data.toList.drop 4)) := by
          refine ⟨some ⟨w.heap.size + 1, 0, none⟩, s.size - 4, cap, ?_, hcc, hcm, ?_⟩
          · have h := Blk.new w1 60 #[.slice (some ⟨w.heap.size + 1, 0, none⟩) (s.size - 4) cap, .bool false]
            rw [hsz1] at h
            exact h
          · rw [← hsz1]; exact hB1.alloc (Nat.le_refl _) _
        have hu2 := hu1.alloc (.cells #[.slice (some ⟨w.heap.size + 1, 0, none⟩) (s.size - 4) cap, .bool false] 60)
        have ho2 := ho1.alloc (.cells #[.slice (some ⟨w.heap.size + 1, 0, none⟩) (s.size - 4) cap, .bool false] 60)
        generalize w1.alloc (.cells #[.slice (some ⟨w.heap.size + 1, 0, none⟩) (s.size - 4) cap, .bool false] 60) = w2 at *
        generalize hpp : w.heap.size + 1 + 1 = p at *
        have hpw : w.heap.size < p := by omega
        clear hB1 hcv hcc hcm hsz1 hu1 ho1 hpp
        unfold madeOf at HS
        generalize s.data.toList.drop 4 = l0 at *
        refine (rref_count p 255 _ w2 hR2).mono ?_
        rintro x w3 ⟨rfl, hR3, hO3⟩
        have ho3 := ho2.trans hO3 (by simp; omega)
        have hu3 := hu2.only hO3 (by simp; omega)
        clear hR2 ho2 hu2 hO3
        generalize rcount 255 (some l0) = regs at *
        generalize rcounted 255 (some l0) = st1 at *
        have hpq : p < w3.heap.size := by obtain ⟨A, n, c, hbb, _⟩ := hR3; exact hbb.lt
        go_wp2_with fail
        have hm4 := Blk.new w3 38 #[.int .i64 regs, .string ⟨#[]⟩, .string ⟨#[]⟩, .slice none 0 0]
        have hR4 := hR3.later ((Only.refl [] w3).alloc (.cells #[.int .i64 regs, .string ⟨#[]⟩, .string ⟨#[]⟩, .slice none 0 0] 38)) (by simp)
        have ho4 := ho3.alloc (.cells #[.int .i64 regs, .string ⟨#[]⟩, .string ⟨#[]⟩, .slice none 0 0] 38)
        have hu4 := hu3.alloc (.cells #[.int .i64 regs, .string ⟨#[]⟩, .string ⟨#[]⟩, .slice none 0 0] 38)
        generalize w3.alloc (.cells #[.int .i64 regs, .string ⟨#[]⟩, .string ⟨#[]⟩, .slice none 0 0] 38) = w4 at *
        generalize hqq : w3.heap.size = q at *
        have hwq : w.heap.size < q := by omega
        clear hR3 ho3 hu3 hqq
        refine (rref_text p 255 _ w4 hR4).mono ?_
        rintro x w5 ⟨rfl, hR5, hO5⟩
        have ho5 := ho4.trans hO5 (by simp; omega)
        have hu5 := hu4.only hO5 (by simp; omega)
        have hm5 := hm4.only hO5 (by simp; omega)
        clear hR4 ho4 hu4 hO5 hm4
        generalize str (rtext 255 st1) = path at *
        generalize rtexted 255 st1 = st2 at *
        have g1 : w5.cell? ⟨q, 1, none⟩ = some (.string ⟨#[]⟩) := hm5.cell 1
        have f1 := hm5.frozen 1
        go_wp2_with fail
        clear g1 f1
        have hR6 := hR5.later ((Only.refl [q] w5).setCell (p := ⟨q, 1, none⟩) (.inl (by simp)) (.string path)) (by simp; omega)
        have hm6 : Blk (w5.setCell ⟨q, 1, none⟩ (.string path)) q _ #[.int .i64 regs, .string path, .string ⟨#[]⟩, .slice none 0 0] := hm5.set_ 1 (.string path)
        have ho6 := ho5.setCell (p := ⟨q, 1, none⟩) (.inr (by simp; omega)) (.string path)
        have hu6 := hu5.far (p := ⟨q, 1, none⟩) (by simp; omega) (.string path)
        generalize w5.setCell ⟨q, 1, none⟩ (.string path) = w6 at *
        refine (rref_text p 65535 _ w6 hR6).mono ?_
        rintro x w7 ⟨rfl, hR7, hO7⟩
        have ho7 := ho6.trans hO7 (by simp; omega)
        have hu7 := hu6.only hO7 (by simp; omega)
        have hm7 := hm6.only hO7 (by simp; omega)
        clear hR5 hm5 ho5 hu5 hR6 ho6 hu6 hO7 hm6
        generalize str (rtext 65535 st2) = txt at *
        generalize rtexted 65535 st2 = st3 at *
        have g1 : w7.cell? ⟨q, 2, none⟩ = some (.string ⟨#[]⟩) := hm7.cell 2
        have f1 := hm7.frozen 2
        go_wp2_with fail
        clear g1 f1
        have hR8 := hR7.later ((Only.refl [q] w7).setCell (p := ⟨q, 2, none⟩) (.inl (by simp)) (.string txt)) (by simp; omega)
        have hm8 : Blk (w7.setCell ⟨q, 2, none⟩ (.string txt)) q _ #[.int .i64 regs, .string path, .string txt, .slice none 0 0] := hm7.set_ 2 (.string txt)
        have ho8 := ho7.setCell (p := ⟨q, 2, none⟩) (.inr (by simp; omega)) (.string txt)
        have hu8 := hu7.far (p := ⟨q, 2, none⟩) (by simp; omega) (.string txt)
        generalize w7.setCell ⟨q, 2, none⟩ (.string txt) = w8 at *
        refine (rref_count p 255 _ w8 hR8).mono ?_
        rintro x w9 ⟨rfl, hR9, hO9⟩
        have ho9 := ho8.trans hO9 (by simp; omega)
        have hu9 := hu8.only hO9 (by simp; omega)
        have hm9 := hm8.only hO9 (by simp; omega)
        clear hR7 hm7 ho7 hu7 hR8 ho8 hu8 hO9 hm8
        have hn255 := rcount_255 st3
        generalize rcount 255 st3 = n at *
        generalize rcounted 255 st3 = st4 at *
        obtain ⟨D, F, hDF⟩ : ∃ D F, rdeps n st4 = (D, F) := ⟨_, _, rfl⟩
        rw [hDF] at HS
        have HDF := Lib.hid hDF
        clear hDF
        go_wp2_with fail
        go_loopw [7] (fun i wr => ∃ (k : Nat) (st : Option (List UInt8)) (ds : List DepT) (u : Value), k ≤ n ∧ ds.length = k ∧ i = .int .i64 k ∧ Hid (ds ++ (rdeps (n - k) st).1 = D ∧ (rdeps (n - k) st).2 = F) ∧ RRd wr p st ∧
          Blk wr q 38 #[.int .i64 regs, .string path, .string txt, u] ∧ OwnR 62 2 wr (q + 1) u ds.length (ds.map depRow) ∧ Only [] w wr ∧
          Blk wr w.heap.size 38 #[.int .i64 0, .string ⟨#[]⟩, .string ⟨#[]⟩, .slice none 0 0]) (fun i _ => n - (intOf i).toNat)
        case atStart => exact ⟨0, st4, [], _, by omega, rfl, rfl, by unfold Hid; rw [Nat.sub_zero, HDF.out]; exact ⟨rfl, rfl⟩, hR9, hm9, OwnR.nil_ _ _ _ _, ho9, hu9⟩
        case round =>
          obtain ⟨k, st, ds, u, hk, hdk, rfl, hdf, hR, hm, hU, hO, hu⟩ := hrel
          have HDK := Lib.hid hdk
          clear hdk
          have hbd := Reader.bad hR
          have hm3 : wr.cell? ⟨q, 3, none⟩ = some u := hm.cell 3
          by_cases hlt : k < n
          · have dk : decide ((k : Int) < (n : Int)) = true := decide_eq_true (by omega)
            cases st with
            | some l =>
              have hbd' : wr.cell? ⟨p, 1, none⟩ = some (.bool false) := hbd
              clear hbd
              rw [show n - k = (n - (k + 1)) + 1 by omega, rdeps_succ] at hdf
              go_wp2_with fail
              refine (rref_text p 255 _ wr hR).mono ?_
              rintro x wa ⟨rfl, hRa, hOa⟩
              have hOa' := hO.trans hOa (by simp; omega)
              have hua := hu.only hOa (by simp; omega)
              have hma := hm.only hOa (by simp; omega)
              have hUa := hU.only hOa (fun g hg => by have := (hU.lt g hg).1; simp; omega)
              clear hR hm hU hO hu hOa hm3 hbd'
              generalize str (rtext 255 (some l)) = dp at *
              generalize rtexted 255 (some l) = sta at *
              have hma3 : wa.cell? ⟨q, 3, none⟩ = some u := hma.cell 3
              have hT := rref_text p 65535 sta wa.drew hRa.drew
              generalize str (rtext 65535 sta) = de at *
              generalize rtexted 65535 sta = stb at *
              have hcc : ∀ wb, Only [p] wa.drew wb → Only [] w wb ∧ Blk wb w.heap.size 38 #[.int .i64 0, .string ⟨#[]⟩, .string ⟨#[]⟩, .slice none 0 0] ∧ Blk wb q 38 #[.int .i64 regs, .string path, .string txt, u] ∧ OwnR 62 2 wb (q + 1) u ds.length (ds.map depRow) ∧ wb.cell? ⟨q, 3, none⟩ = some u ∧ q + 1 ≤ wb.heap.size := fun wb h =>
                ⟨(hOa'.drew).trans h (by simp; omega), hua.drew.only h (by simp; omega), hma.drew.only h (by simp; omega), hUa.drew.only h (fun g hg => by have := (hUa.lt g hg).1; simp; omega), (hma.drew.only h (by simp; omega)).cell 3, by have := (hma.drew.only h (by simp; omega)).lt; omega⟩
              have HT := Lib.hid hT
              have HCC := Lib.hid hcc
              have hdl : ds.length + 1 ≤ 255 := by rw [HDK.out]; omega
              clear hT hcc hma hUa hua hRa hOa'
              go_wp2_with fail
              go_region_law (first
                | (refine step_append1 (w := wb) rfl (.tmp 54) (.tmp 59) 36 rfl Try.underlying36 rdep_info rfl (by decide) rfl hUb rfl rfl (row := depRow (dp, de)) rfl rfl (dep_one _) (by omega) (by unfold maxLen; omega) (by omega) ?_; intro v' w' hE; have hm' := hmb.only hE.only (fun hg => by have := (hUb.lt q hg).1; omega); have m4 : w'.cell? ⟨q, 3, none⟩ = some u := hm'.cell 3; have f4 := hm'.frozen 3; obtain ⟨A', cap', rfl, _, _, _, _⟩ := hE.own.shape (by decide))
                | (go_simp; go_at_call 32; refine Calls.mono HT.out ?_; rintro x wb ⟨rfl, hRb, hOb⟩; obtain ⟨hOb', hub, hmb, hUb, hb3, hqb⟩ := HCC.out wb hOb; have hbz : ∀ o, (wb.alloc o).cell? ⟨q, 3, none⟩ = some u := fun o => ((Only.refl [] wb).alloc o).cell hb3 (by simp)))
              all_goals
                go_wp2_with fail
                go_roundw
                case rel =>
                  have hS3 := (Only.refl [q] w').setCell (p := ⟨q, 3, none⟩) (.inl (by simp)) (.slice A' (ds.length + 1) cap')
                  refine ⟨k + 1, stb, ds ++ [(dp, de)], _, by omega, by rw [List.length_append, HDK.out]; rfl, by go_num, ?_, ?_, hm'.set_ 3 _, ?_, ?_, ?_⟩
                  · have := hdf.out
                    unfold Hid
                    rw [List.append_assoc]
                    exact this
                  · exact (hRb.later hE.only (fun g hg => by have := (hUb.lt g hg).1; omega)).later hS3 (by simp; omega)
                  · rw [List.length_append, List.map_append]
                    exact hE.own.only hS3 (fun g hg => by have := (hE.own.lt g hg).1; simp; omega)
                  · exact (hOb'.trans hE.only (fun g hg => .inr (by have := (hUb.lt g hg).1; omega))).trans hS3 (by simp; omega)
                  · exact (hub.only hE.only (fun hg => by have := (hUb.lt _ hg).1; omega)).only hS3 (by simp; omega)
                case measure => simp [intOf]; omega
            | none =>
              rw [rdeps_none] at hdf
              have hbad : splitR s = ((0, ⟨#[]⟩, ⟨#[]⟩, []), 5) := split_bad (by
                rw [HS.out, if_neg]
                intro h
                have := hdf.out.2
                rw [h] at this
                cases this)
              have hbd' : wr.cell? ⟨p, 1, none⟩ = some (.bool true) := hbd
              clear hbd
              have hF := HFIN.out wr hu hO 0 ⟨#[]⟩ ⟨#[]⟩ (.slice none 0 0)
              have HB := Lib.hid (HBAD.out hbad _ hF.2.1)
              have HF := Lib.hid hF.1
              have b0 : wr.cell? ⟨w.heap.size, 0, none⟩ = some (.int .i64 0) := hu.cell 0
              have b1 : wr.cell? ⟨w.heap.size, 1, none⟩ = some (.string ⟨#[]⟩) := hu.cell 1
              have b2 : wr.cell? ⟨w.heap.size, 2, none⟩ = some (.string ⟨#[]⟩) := hu.cell 2
              have b3 : wr.cell? ⟨w.heap.size, 3, none⟩ = some (.slice none 0 0) := hu.cell 3
              have f0 := hu.frozen 0
              have f1 := hu.frozen 1
              have f2 := hu.frozen 2
              have f3 := hu.frozen 3
              clear hbad hF hu hm hU hR
              go_wp2_with fail
              exact bodyPost_ret (made_ret _ _ w.heap.size _ _ _ _ _ rfl rfl rfl HF.out) rfl HB.out
          · have dk : decide ((k : Int) < (n : Int)) = false := decide_eq_false (by omega)
            obtain rfl : k = n := by omega
            rw [Nat.sub_self] at hdf
            have hd1 : ds = D := by have := hdf.out.1; simpa [rdeps] using this
            have hd2 : st = F := by have := hdf.out.2; simpa [rdeps] using this
            subst hd1
            subst hd2
            have b0 : wr.cell? ⟨w.heap.size, 0, none⟩ = some (.int .i64 0) := hu.cell 0
            have b1 : wr.cell? ⟨w.heap.size, 1, none⟩ = some (.string ⟨#[]⟩) := hu.cell 1
            have b2 : wr.cell? ⟨w.heap.size, 2, none⟩ = some (.string ⟨#[]⟩) := hu.cell 2
            have b3 : wr.cell? ⟨w.heap.size, 3, none⟩ = some (.slice none 0 0) := hu.cell 3
            have f0 := hu.frozen 0
            have f1 := hu.frozen 1
            have f2 := hu.frozen 2
            have f3 := hu.frozen 3
            obtain ⟨A, nn, c, hbR, hnc, hcm, hrR⟩ := hR
            have r0 : wr.cell? ⟨p, 0, none⟩ = some (.slice A nn c) := hbR.cell 0
            have hnl := hrR.len
            have HNL := Lib.hid hnl
            clear hnl hbR hrR HDK hdf HDF hR9 hm9 hu9 ho9
            by_cases hF : st = some []
            · subst hF
              have hok : splitR s = ((regs, path, txt, ds), 0) := split_ok (by rw [HS.out, if_pos rfl])
              have hbd' : wr.cell? ⟨p, 1, none⟩ = some (.bool false) := hbd
              obtain rfl : nn = 0 := by have := HNL.out; simpa using this.symm
              have hFF := HFIN.out wr hu hO regs path txt u
              have HF := Lib.hid hFF.1
              have m0 : wr.cell? ⟨q, 0, none⟩ = some (.int .i64 regs) := hm.cell 0
              have m1 : wr.cell? ⟨q, 1, none⟩ = some (.string path) := hm.cell 1
              have m2 : wr.cell? ⟨q, 2, none⟩ = some (.string txt) := hm.cell 2
              have hUf := (hU.mono (by omega : w.heap.size ≤ q + 1)).only hFF.2.2 (fun g hg => by have := (hU.lt g hg).1; simp; omega)
              have HE : Hid (∃ v, (Ending.returned (.tuple #[.agg #[.int .i64 regs, .string path, .string txt, u], .int .i64 0]) : Ending) = .returned (.tuple #[madeV (splitR s).1 v, .int .i64 (splitR s).2]) ∧ OwnR 62 2 ((((wr.setCell ⟨w.heap.size, 0, none⟩ (.int .i64 regs)).setCell ⟨w.heap.size, 1, none⟩ (.string path)).setCell ⟨w.heap.size, 2, none⟩ (.string txt)).setCell ⟨w.heap.size, 3, none⟩ u) w.heap.size v (splitR s).1.2.2.2.length ((splitR s).1.2.2.2.map depRow) ∧ Only [] w ((((wr.setCell ⟨w.heap.size, 0, none⟩ (.int .i64 regs)).setCell ⟨w.heap.size, 1, none⟩ (.string path)).setCell ⟨w.heap.size, 2, none⟩ (.string txt)).setCell ⟨w.heap.size, 3, none⟩ u)) := by
                unfold Hid
                rw [hok]
                exact ⟨u, rfl, hUf, hFF.2.1⟩
              obtain ⟨A', cap', rfl, _, _, _, _⟩ := hU.shape (by decide)
              clear hbd hok hFF hUf hu hm hU HS
              go_wp2_with fail
              exact bodyPost_ret (made_ret _ _ w.heap.size _ _ _ _ _ rfl rfl rfl HF.out) rfl HE.out
            · have hbad : splitR s = ((0, ⟨#[]⟩, ⟨#[]⟩, []), 5) := split_bad (by rw [HS.out, if_neg hF])
              have hFF := HFIN.out wr hu hO 0 ⟨#[]⟩ ⟨#[]⟩ (.slice none 0 0)
              have HB := Lib.hid (HBAD.out hbad _ hFF.2.1)
              have HF := Lib.hid hFF.1
              clear hbad hFF hu hm hU HS
              cases st with
              | none =>
                have hbd' : wr.cell? ⟨p, 1, none⟩ = some (.bool true) := hbd
                clear hbd hF
                go_wp2_with fail
                exact bodyPost_ret (made_ret _ _ w.heap.size _ _ _ _ _ rfl rfl rfl HF.out) rfl HB.out
              | some l =>
                have hbd' : wr.cell? ⟨p, 1, none⟩ = some (.bool false) := hbd
                have hnp : 0 < nn := (by
                  have h1 : l.length = nn := HNL.out
                  have h2 : l.length ≠ 0 := fun h => hF (by rw [List.length_eq_zero_iff.1 h])
                  omega)
                clear hbd hF
                go_wp2_with fail
                exact bodyPost_ret (made_ret _ _ w.heap.size _ _ _ _ _ rfl rfl rfl HF.out) rfl HB.out
    · have hne : ((s.extract 0 4).toList == [84, 77, 75, 49]) = false := by
        have := str_neb hx
        rw [show (⟨#[84, 77, 75, 49]⟩ : ByteArray).toList = [84, 77, 75, 49] by rw [Lib.toList_data]] at this
        exact this
      have hR := hasB_false (s := s) (by unfold hasB; exact decide_eq_false (fun h => hx h.2))
      have HB := Lib.hid (HBAD.out hR _ ho0)
      clear hR h4 hx
      go_enter Try.func16, Try.ntmps16
      go_wp2_with fail
      exact bodyPost_ret (made_ret _ _ w.heap.size _ _ _ _ _ rfl rfl rfl hu0) rfl HB.out
end Go.Proofs.Ytfkakhlgcjjlcaa.Keys
