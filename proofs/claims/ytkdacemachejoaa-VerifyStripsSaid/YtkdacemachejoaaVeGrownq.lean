/- grown, Starts, Reach. -/
import Derived.Test.YtkdacemachejoaaVeGrowq
namespace Go.Proofs.Ytkdacemachejoaa.Vm
open Go.RowKit Go.Maps Go.Shelf Object
set_option linter.unusedVariables false
set_option maxRecDepth 100000
theorem bool_info : (Try.prog.info? 4).map (fun i => (i.zero, i.size, i.bytes)) = some (some (.bool false), 1, 1) := by kernel_rfl
theorem blk_full {w : World} {base e g n : Nat} {xs : List Value} (hn : 0 < n) (h : w.ownsRow base e 1 (.slice (some ⟨g, 0, none⟩) n n) n xs) : Blk w g e xs.toArray := by
  obtain ⟨hl, h0⟩ := h
  rcases h0 with ⟨h1, _⟩ | ⟨g', cap, cur, h1, _, hh, h2, _, h4, h5⟩
  · injection h1 with h1
    cases h1
  · injection h1 with h1 h6 h7
    injection h1 with h1
    injection h1 with h1
    subst h1
    subst h7
    have : cur = xs.toArray := by
      rw [← h5, List.take_of_length_le (by simp [h4])]
    subst this
    exact hh
theorem made_false (n : Nat) : (madeCells (Value.bool false).cells (n * 1)).toList = (List.replicate n false).map Value.bool := by
  rw [show (Value.bool false).cells = #[.bool false] from rfl, toList_madeCells_one, List.map_replicate, Nat.mul_one]
theorem callsV_nil {w : World} {cs : List Cd} : CallsV w cs [] (fun _ => none) := ⟨fun k hk => absurd hk (by simp), fun l v h => (by cases h)⟩
/-- the tree, all grown -/
def GrownO (cs : List Cd) (w : World) (y : Ending) (w' : World) : Prop := ∃ p mb rb K M, y = .returned (.pointer (some ⟨p, 0, none⟩)) ∧ TI w' p mb rb cs K M ∧ (∀ k, k ∈ K ↔ Rs cs k) ∧ (∀ i, M i ↔ Rd cs i) ∧ w.heap.size ≤ mb ∧ w.heap.size ≤ rb ∧ w.heap.size ≤ p ∧ Only [] w w'
set_option maxHeartbeats 4000000 in
theorem grown_any (A : Option Addr) (n cc : Nat) (cs : List Cd) (w : World) (hr : Recs w w.heap.size 5 A n (cs.map Cd.row)) (hR : vmRight cs = true) :
    Calls Try.prog 28 #[.slice A n cc] w (GrownO cs w) := by
  have hl : cs.length = n := by have := hr.1; simpa using this
  have hlen := (right_len hR).2.1
  have hpos := (right_len hR).1
  have HV := Lib.hid (vmright_any A n cc cs w hr (by omega))
  rw [hR] at HV
  have HR := Lib.hid (And.intro hr hR)
  have HL := Lib.hid (And.intro hl (And.intro hlen hpos))
  have hmm := @run_makeMap Try.prog
  clear hr hR hl hlen hpos
  go_enter Try.func28, Try.ntmps28
  go_wp2_with (go_at_call 25; refine HV.out.mono ?_; rintro y w1 ⟨rfl, ho1⟩; have HO1 := Lib.hid ho1; clear ho1 HV; obtain ⟨w2, hw2⟩ : ∃ w2, w1.alloc (.map #[] 0) = w2 := ⟨_, rfl⟩; have HV2 : Hid (VM Try.prog 3 w2 w1.heap.size 0 (fun _ => none)) := Lib.hid (by rw [← hw2]; exact VM.made w1 _ _); have HO2 : Hid (Only [] w1 w2 ∧ w2.heap.size = w1.heap.size + 1) := Lib.hid (by rw [← hw2]; exact ⟨(Only.refl [] w1).alloc _, World.size_alloc _ _⟩); obtain ⟨i0, hi0, hz0, hz1, hz2⟩ := info_parts bool_info; obtain ⟨w3, hrun, hown, hgr⟩ := run_make_full (P := Try.prog) w2 w2.heap.size 44 4 i0 _ 1 Try.underlying44 hi0 hz0 hz1 .i64 .i64 n (by have := HL.out; rw [hz2]; omega) (by have := HL.out; unfold maxLen; omega) (Nat.le_refl _); have HOWN := Lib.hid hown; have HGR := Lib.hid hgr; clear hown hgr hi0 hz0 hz1 hz2; have hsz := hw2)
  obtain ⟨w4, hw4⟩ : ∃ w4, w3.alloc (.cells #[.map (some w1.heap.size), .slice (some ⟨w2.heap.size, 0, none⟩) n n] 71) = w4 := ⟨_, rfl⟩
  have HO3 : Hid (Only [] w2 w3) := Lib.hid (Only.of_grown HGR.out)
  have HO4 : Hid (Only [] w3 w4) := Lib.hid (by rw [← hw4]; exact (Only.refl [] w3).alloc _)
  have HB4 : Hid (Blk w4 w3.heap.size 71 #[.map (some w1.heap.size), .slice (some ⟨w2.heap.size, 0, none⟩) n n]) := Lib.hid (by rw [← hw4]; exact Blk.new w3 _ _)
  have HRB : Hid (Blk w4 w2.heap.size 4 ((List.replicate n false).map Value.bool).toArray) := Lib.hid (by
    have h1 := blk_full (by have := HL.out; omega) HOWN.out
    rw [made_false] at h1
    exact h1.only HO4.out (by simp))
  have HTI : Hid (TI w4 w3.heap.size w1.heap.size w2.heap.size cs [] (fun _ => False)) := Lib.hid ⟨by
      have h1 := HB4.out
      rw [← HL.out.1] at h1
      exact h1, ⟨_, (HV2.out.only HO3.out (by simp)).only HO4.out (by simp), callsV_nil⟩, ⟨List.replicate n false, by rw [List.length_replicate, HL.out.1], HRB.out, fun i b hb => by
      have h1 := List.mem_of_getElem? hb
      rw [List.mem_replicate] at h1
      rw [h1.2]
      simp⟩, List.nodup_nil, by simp⟩
  have HO04 : Hid (Only [] w w4) := Lib.hid (HO1.out.trans (HO2.out.1.trans (HO3.out.trans HO4.out (by simp)) (by simp)) (by simp))
  have HSZ : Hid (w.heap.size ≤ w1.heap.size ∧ w.heap.size ≤ w2.heap.size ∧ w.heap.size ≤ w3.heap.size) := Lib.hid ⟨HO1.out.size, by have := HO1.out.size; have := HO2.out.1.size; omega, by have := HO1.out.size; have := HO2.out.1.size; have := HO3.out.size; omega⟩
  have hg0 : Calls Try.prog 48 #[.pointer (some ⟨w3.heap.size, 0, none⟩), .slice A n cc, .int .i64 0] w4 (GrowO w3.heap.size w1.heap.size w2.heap.size cs [] (fun _ => False) 0 w4) := (grow_any A n cc w.heap.size w3.heap.size w1.heap.size w2.heap.size cs HR.out.2 HL.out.1 HSZ.out.1 HSZ.out.2.1 (n + 1) [] (fun _ => False) 0 w4 HTI.out (HR.out.1.only HO04.out (by simp)) (by have := HL.out; omega) (by simp))
  have HG := Lib.hid hg0
  clear hg0 HO3 HO4 HB4 HRB HTI HOWN HGR HV2 hsz
  go_wp2_with (first | (go_at_call 48; rw [hw4]; refine HG.out.mono ?_; rintro y w5 ⟨rfl, K, M, hT, hg, ho5⟩; have HF := Lib.hid (And.intro hT (And.intro hg ho5)); clear hT hg ho5))
  go_ret
  have hall := grown_all HR.out.2 HF.out.2.1
  exact ⟨_, _, _, K, M, rfl, HF.out.1, hall.1, hall.2, HSZ.out.1, HSZ.out.2.1, HSZ.out.2.2, HO04.out.trans HF.out.2.2 (fun g hg => by
    simp only [List.mem_cons, List.not_mem_nil, or_false] at hg
    rcases hg with rfl | rfl
    · exact .inr HSZ.out.1
    · exact .inr HSZ.out.2.1)⟩
theorem grown_no (A : Option Addr) (n cc : Nat) (cs : List Cd) (w : World) (hr : Recs w w.heap.size 5 A n (cs.map Cd.row)) (hn : n ≤ 9000000000000000000) (hR : vmRight cs = false) :
    Calls Try.prog 28 #[.slice A n cc] w fun y w' => y = .returned (.pointer none) ∧ Only [] w w' := by
  have HV := Lib.hid (vmright_any A n cc cs w hr hn)
  rw [hR] at HV
  clear hr hR hn
  go_enter Try.func28, Try.ntmps28
  go_wp2_with (go_at_call 25; refine HV.out.mono ?_; rintro y w1 ⟨rfl, ho1⟩; have HO1 := Lib.hid ho1; clear ho1 HV)
  go_ret
  exact ⟨rfl, HO1.out⟩
/-- numbers that rise, to be read -/
theorem starts_any (A : Option Addr) (n cc : Nat) (cs : List Cd) (w : World) (hr : Recs w w.heap.size 5 A n (cs.map Cd.row)) (hR : vmRight cs = true) :
    Calls Try.prog 15 #[.slice A n cc] w fun y w' => ∃ v, y = .returned v ∧ OwnR 3 1 w' w.heap.size v (startsL cs).length (intsR (startsL cs)) ∧ Only [] w w' := by
  have HG := Lib.hid (grown_any A n cc cs w hr hR)
  have HR := Lib.hid hR
  have hlen := (right_len hR).2.1
  have HLN := Lib.hid hlen
  clear hr hR hlen
  go_enter Try.func15, Try.ntmps15
  go_wp2_with (first
    | (go_at_call 31; refine HK.out.mono ?_; rintro y w2 ⟨rfl, rfl⟩)
    | (go_at_call 30; refine HS.out.mono ?_; rintro y w7 ⟨v, rfl, hown, ho7⟩; have HF := Lib.hid (And.intro hown ho7); clear hown ho7)
    | (go_at_call 28; refine HG.out.mono ?_; rintro y w1 ⟨p, mb, rb, K, M, rfl, hT, hK, hM, hb1, hb2, hb3, ho1⟩; have HT := Lib.hid hT; have HO1 := Lib.hid ho1; have HKK := Lib.hid hK; have p0 : w1.cell? ⟨p, 0, none⟩ = some (.map (some mb)) := hT.blk.cell 0; have HK := Lib.hid (keysL_call mb w1); obtain ⟨f, hv, hc⟩ := hT.map; have HS := Lib.hid (sortedL_call hv (by have := nodup_bound hT.nd hT.lt; have := HLN.out; omega) (startsL_asc (cs := cs)) (fun x => by
        constructor
        · intro hx
          obtain ⟨u, hu⟩ := Option.isSome_iff_exists.1 hx
          obtain ⟨k, hk, he⟩ := hc.2 _ _ hu
          exact ⟨k, (mem_startsL HR.out).2 ((hK k).1 hk), pk_inj he⟩
        · rintro ⟨t, ht, rfl⟩
          exact (hc.some_iff t).2 ((hK t).2 ((mem_startsL HR.out).1 ht)))); clear hT hK hM hb1 hb2 hb3 ho1 hv hc))
  go_ret
  exact ⟨v, rfl, HF.out.1.mono HO1.out.size, HO1.out.trans HF.out.2 (by simp)⟩
/-- bools, to be read -/
def Bl (w : World) (A : Option Addr) (R : List Bool) : Prop := Reads w w.heap.size 1 A R.length (R.map Value.bool)
theorem Bl.only0 {w w' : World} {A : Option Addr} {R : List Bool} (h : Bl w A R) (ho : Only [] w w') : Bl w' A R := (Reads.only h ho (by simp)).more ho.size
theorem bl_of {w : World} {g : Nat} {R : List Bool} (hb : Blk w g 4 (R.map Value.bool).toArray) : Bl w (some ⟨g, 0, none⟩) R := by
  refine ⟨by simp, fun _ => ⟨_, rfl, hb.lt, fun j u hu => ?_⟩⟩
  show w.cell? ((Addr.mk g 0 none).add j) = some u
  rw [add_zero_block, hb.cell j, List.getElem?_toArray]
  exact hu
theorem reach_eq {cs : List Cd} {R : List Bool} {M : Nat → Prop} (hl : R.length = cs.length) (hR : ∀ (i : Nat) (b : Bool), R[i]? = some b → (b = true ↔ M i)) (hM : ∀ i, M i ↔ Rd cs i) : R = reachL cs := by
  refine List.ext_getElem? fun i => ?_
  rcases Nat.lt_or_ge i cs.length with hi | hi
  · obtain ⟨b, h1, h2⟩ := reachL_at hi
    have h3 := hR i R[i] (List.getElem?_eq_getElem (by omega))
    rw [hM, ← h2] at h3
    rw [h1, List.getElem?_eq_getElem (by omega)]
    congr 1
    cases hb : b <;> cases hc : R[i] <;> simp_all
  · rw [List.getElem?_eq_none (by omega), List.getElem?_eq_none (by rw [reachL_len]; omega)]
theorem reach_any (A : Option Addr) (n cc : Nat) (cs : List Cd) (w : World) (hr : Recs w w.heap.size 5 A n (cs.map Cd.row)) (hR : vmRight cs = true) :
    Calls Try.prog 18 #[.slice A n cc] w fun y w' => ∃ g, y = .returned (.slice (some ⟨g, 0, none⟩) n n) ∧ Bl w' (some ⟨g, 0, none⟩) (reachL cs) ∧ Only [] w w' := by
  have hl : cs.length = n := by have := hr.1; simpa using this
  have HG := Lib.hid (grown_any A n cc cs w hr hR)
  have HL := Lib.hid hl
  clear hr hR hl
  go_enter Try.func18, Try.ntmps18
  go_wp2_with (go_at_call 28; refine HG.out.mono ?_; rintro y w1 ⟨p, mb, rb, K, M, rfl, hT, hK, hM, hb1, hb2, hb3, ho1⟩; have HT := Lib.hid hT; have HO1 := Lib.hid ho1; have HM := Lib.hid hM; have p1 : w1.cell? ⟨p, 1, none⟩ = some (.slice (some ⟨rb, 0, none⟩) n n) := (by have h1 := hT.blk.cell 1; rw [HL.out] at h1; exact h1); clear hT hK hM hb1 hb2 hb3 ho1)
  go_ret
  obtain ⟨R, h1, h2, h3⟩ := HT.out.arr
  have he := reach_eq h1 h3 HM.out
  subst he
  exact ⟨rb, rfl, bl_of h2, HO1.out⟩
end Go.Proofs.Ytkdacemachejoaa.Vm
