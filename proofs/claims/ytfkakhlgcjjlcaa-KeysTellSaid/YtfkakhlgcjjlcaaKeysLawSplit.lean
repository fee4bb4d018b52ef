/- The law's own functions: a key's parts as the document's. -/
import Derived.Test.YtfkakhlgcjjlcaaKeysSplit
import Derived.Deep.RegionLaw
namespace Go.Proofs.Ytfkakhlgcjjlcaa.Keys
open Go.RowKit Codec
set_option linter.unusedVariables false
set_option maxRecDepth 100000

theorem rdep_info : (Try.prog.info? 62).map (fun i => (i.zero, i.size, i.bytes)) = some (some (.agg #[.string ⟨#[]⟩, .string ⟨#[]⟩]), 2, 32) := by kernel_rfl
theorem blk4 {w : World} {g : Nat} {t : TypeId} {a b c d : Value} (h : Blk w g t #[a, b, c, d]) (x y z u : Value) :
    Blk ((((w.setCell ⟨g, 0, none⟩ x).setCell ⟨g, 1, none⟩ y).setCell ⟨g, 2, none⟩ z).setCell ⟨g, 3, none⟩ u) g t #[x, y, z, u] :=
  (((h.set_ 0 x).set_ 1 y).set_ 2 z).set_ 3 u
theorem made_ret {f : Func} (T : Array Value) (w : World) (g : Nat) (x y z u e : Value) (hf : f.results = Try.f15.results) (h2 : T[2]?.getD undef = .pointer (some ⟨g, 0, none⟩)) (h3 : T[3]?.getD undef = e)
    (hb : Blk w g 38 #[x, y, z, u]) :
    (results f T).run Try.prog w = .ok (.tuple #[.agg #[x, y, z, u], e]) w := by
  have d0 : w.cell? ⟨g, 0, none⟩ = some x := hb.cell 0
  have d1 : w.cell? ⟨g, 1, none⟩ = some y := hb.cell 1
  have d2 : w.cell? ⟨g, 2, none⟩ = some z := hb.cell 2
  have d3 : w.cell? ⟨g, 3, none⟩ = some u := hb.cell 3
  unfold results
  rw [hf]
  simp [Try.results15, h2, h3, go_sem, d0, d1, d2, d3]
/-- a Made as a value: its list is of the call's own -/
def madeV (m : MadeT) (v : Value) : Value := .agg #[.int .i64 (m.1 : Nat), .string m.2.1, .string m.2.2.1, v]
set_option maxHeartbeats 2000000 in
theorem lsplit_any (s : ByteArray) (w : World) (hs : s.size ≤ 140737488355328) :
    Calls Try.prog 15 #[.string s] w fun x w' => ∃ v, x = .returned (.tuple #[madeV (splitR s).1 v, .int .i64 (splitR s).2]) ∧ OwnR 62 2 w' w.heap.size v (splitR s).1.2.2.2.length ((splitR s).1.2.2.2.map depRow) ∧ Only [] w w' := by
  have hsp := fun w => split_any s w hs
  unfold splitV at hsp
  have hn := splitR_len s
  unfold madeV
  generalize splitR s = S at *
  obtain ⟨⟨r, path, txt, ds⟩, z⟩ := S
  simp only at hsp hn ⊢
  have hu0 : Blk (w.alloc (.cells #[.int .i64 0, .string ⟨#[]⟩, .string ⟨#[]⟩, .slice none 0 0] 38)) w.heap.size 38 #[.int .i64 0, .string ⟨#[]⟩, .string ⟨#[]⟩, .slice none 0 0] := Blk.new _ _ _
  have ho0 : Only [] w (w.alloc (.cells #[.int .i64 0, .string ⟨#[]⟩, .string ⟨#[]⟩, .slice none 0 0] 38)) := (Only.refl [] w).alloc _
  go_enter Try.func15, Try.ntmps15
  go_wp2_with fail
  generalize w.alloc (.cells #[.int .i64 0, .string ⟨#[]⟩, .string ⟨#[]⟩, .slice none 0 0] 38) = w0 at *
  have hsz0 : w.heap.size < w0.heap.size := hu0.lt
  refine (hsp w0).mono ?_
  rintro x w1 ⟨v, rfl, hD, ho1⟩
  have hu1 := hu0.only ho1 (by simp)
  have ho1' := ho0.trans ho1 (by simp)
  have hu2 := hu1.alloc (.cells #[.int .i64 r, .string path, .string txt, .slice none 0 0] 38)
  have hm2 := Blk.new w1 38 #[.int .i64 r, .string path, .string txt, .slice none 0 0]
  have ho2 := ho1'.alloc (.cells #[.int .i64 r, .string path, .string txt, .slice none 0 0] 38)
  have hD2 := hD.alloc (.cells #[.int .i64 r, .string path, .string txt, .slice none 0 0] 38)
  obtain ⟨A, cap, rfl, hcc, hcm, hr, hA⟩ := hD2.shape (by decide)
  have hAlt : ∀ g ∈ blkOf A, g < w1.heap.size := fun g hg => by have := hD.lt g (by cases A with | none => cases hg | some a => simpa [ownL, Value.ownBlock, blkOf] using hg); exact this.2
  have hsz1 := ho1.size
  have hsz2 : (w1.alloc (.cells #[.int .i64 r, .string path, .string txt, .slice none 0 0] 38)).heap.size = w1.heap.size + 1 := alloc_size _ _
  go_wp2_with fail
  generalize w1.alloc (.cells #[.int .i64 r, .string path, .string txt, .slice none 0 0] 38) = w2 at *
  generalize w1.heap.size = q at *
  clear hD hD2 hu0 hu1 ho0 ho1 ho1' hA
  go_loopw [10] (fun i wr => ∃ k : Nat, k ≤ ds.length ∧ i = .int .i64 k ∧ ∃ u, Blk wr q 38 #[.int .i64 r, .string path, .string txt, u] ∧ OwnR 62 2 wr (q + 1) u k ((ds.take k).map depRow) ∧ Only [q] w2 wr) (fun i _ => ds.length - (intOf i).toNat)
  case atStart => exact ⟨0, by omega, rfl, _, hm2, OwnR.nil_ _ _ _ _, Only.refl _ _⟩
  case round =>
    obtain ⟨k, hk, rfl, u, hm, hU, hO⟩ := hrel
    have hru := hr.only hO (fun g hg hgq => by have := hAlt g hg; simp at hgq; omega)
    by_cases hlt : k < ds.length
    · obtain ⟨b, off, rfl, hbB, hc⟩ := hru.at_ (ByteArray.empty, ByteArray.empty) hlt
      have c0 : wr.cell? ⟨b, off + k * 2, none⟩ = _ := hc 0 (by omega)
      have c1 := hc 1 (by omega)
      have hdt : ds.take (k + 1) = ds.take k ++ [ds.getD k (ByteArray.empty, ByteArray.empty)] := by
        rw [List.take_succ_eq_append_getElem hlt, List.getD_eq_getElem?_getD, List.getElem?_eq_getElem hlt]; rfl
      have HDT := Lib.hid hdt
      clear hdt hc
      generalize ds.getD k (ByteArray.empty, ByteArray.empty) = d at *
      obtain ⟨dp, de⟩ := d
      simp only [depRow, List.getElem?_cons_zero, List.getElem?_cons_succ] at c0 c1
      have m3 : wr.cell? ⟨q, 3, none⟩ = some u := hm.cell 3
      go_wp2_with fail
      have hqs := hm.lt
      go_region_law (refine step_append1 (w := wr.drew) rfl (.tmp 30) (.tmp 35) 36 rfl Try.underlying36 rdep_info rfl (by decide) rfl hU.drew rfl rfl (row := depRow (dp, de)) rfl rfl (dep_one _) (by omega) (by unfold maxLen; omega) (by show q + 1 ≤ wr.heap.size + 1; omega) ?_; intro v' w' hE; have hm' := hm.drew.only hE.only (fun hg => by have := (hU.lt q hg).1; omega); have m4 : w'.cell? ⟨q, 3, none⟩ = some u := hm'.cell 3; have f4 := hm'.frozen 3; obtain ⟨A', cap', rfl, _, _, _, _⟩ := hE.own.shape (by decide))
      all_goals
        go_wp2_with fail
        go_roundw
        case rel =>
          refine ⟨k + 1, by omega, by go_num, _, hm'.set_ 3 _, ?_, ?_⟩
          · rw [HDT.out, List.map_append]
            refine hE.own.only ((Only.refl [q] w').setCell (p := ⟨q, 3, none⟩) (.inl (by simp)) _) (fun g hg hgq => ?_)
            have := (hE.own.lt g hg).1
            simp at hgq
            omega
          · refine Only.setCell ?_ (p := ⟨q, 3, none⟩) (.inl (by simp)) _
            refine (hO.drew).trans hE.only (fun g hg => .inr ?_)
            have := (hU.lt g hg).1
            omega
        case measure => simp [intOf]; omega
    · obtain rfl : k = ds.length := by omega
      rw [List.take_of_length_le (Nat.le_refl _)] at hU
      have hb := hu2.only hO (by simp; omega)
      have m0 : wr.cell? ⟨q, 0, none⟩ = some (.int .i64 r) := hm.cell 0
      have m1 : wr.cell? ⟨q, 1, none⟩ = some (.string path) := hm.cell 1
      have m2 : wr.cell? ⟨q, 2, none⟩ = some (.string txt) := hm.cell 2
      have m3 : wr.cell? ⟨q, 3, none⟩ = some u := hm.cell 3
      have b0 : wr.cell? ⟨w.heap.size, 0, none⟩ = some (.int .i64 0) := hb.cell 0
      have b1 : wr.cell? ⟨w.heap.size, 1, none⟩ = some (.string ⟨#[]⟩) := hb.cell 1
      have b2 : wr.cell? ⟨w.heap.size, 2, none⟩ = some (.string ⟨#[]⟩) := hb.cell 2
      have b3 : wr.cell? ⟨w.heap.size, 3, none⟩ = some (.slice none 0 0) := hb.cell 3
      have f0 := hb.frozen 0
      have f1 := hb.frozen 1
      have f2 := hb.frozen 2
      have f3 := hb.frozen 3
      have hb4 := blk4 hb (.int .i64 r) (.string path) (.string txt) u
      have hO4 : Only [] w ((((wr.setCell ⟨w.heap.size, 0, none⟩ (.int .i64 r)).setCell ⟨w.heap.size, 1, none⟩ (.string path)).setCell ⟨w.heap.size, 2, none⟩ (.string txt)).setCell ⟨w.heap.size, 3, none⟩ u) := by
        have h0 := ho2.trans hO (fun g hg => .inr (by simp at hg; omega))
        exact (((h0.setCell (.inr (Nat.le_refl _)) _).setCell (.inr (Nat.le_refl _)) _).setCell (.inr (Nat.le_refl _)) _).setCell (.inr (Nat.le_refl _)) _
      have hU4 : OwnR 62 2 ((((wr.setCell ⟨w.heap.size, 0, none⟩ (.int .i64 r)).setCell ⟨w.heap.size, 1, none⟩ (.string path)).setCell ⟨w.heap.size, 2, none⟩ (.string txt)).setCell ⟨w.heap.size, 3, none⟩ u) w.heap.size u ds.length (ds.map depRow) := by
        refine (hU.mono (by omega)).only ((((((Only.refl [w.heap.size] wr).setCell (p := ⟨w.heap.size, 0, none⟩) (.inl (by simp)) _).setCell (p := ⟨w.heap.size, 1, none⟩) (.inl (by simp)) _).setCell (p := ⟨w.heap.size, 2, none⟩) (.inl (by simp)) _).setCell (p := ⟨w.heap.size, 3, none⟩) (.inl (by simp)) _)) (fun g hg hgq => ?_)
        have := (hU.lt g hg).1
        simp at hgq
        omega
      have H4 := Lib.hid (And.intro hb4 (And.intro hO4 hU4))
      clear hb4 hO4 hU4
      obtain ⟨A', cap', rfl, _, _, _, _⟩ := hU.shape (by decide)
      go_wp2_with fail
      exact bodyPost_ret (made_ret _ _ w.heap.size _ _ _ _ _ rfl rfl rfl H4.out.1) rfl ⟨_, rfl, H4.out.2.2, H4.out.2.1⟩
end Go.Proofs.Ytfkakhlgcjjlcaa.Keys
