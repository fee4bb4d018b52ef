/- The document's Reach. -/
import Derived.Test.YtkdacemachejoaaVeRStartsq
namespace Go.Proofs.Ytkdacemachejoaa.Vm
open Go.RowKit Go.Shelf Go.Maps Object
set_option linter.unusedVariables false
set_option maxRecDepth 100000
theorem ArrL.store {w : World} {rb i : Nat} {cs : List Cd} {M M' : Nat → Prop} {b : Bool} (h : ArrL w rb cs M) (hi : i < cs.length) (hM : ∀ j, j ≠ i → (M' j ↔ M j)) (hb : b = true ↔ M' i) : ArrL (w.setCell ⟨rb, i, none⟩ (.bool b)) rb cs M' := by
  obtain ⟨R, h1, h2, h3⟩ := h
  refine ⟨R.set i b, by simpa using h1, ?_, fun j c hj => ?_⟩
  · have h := h2.set_ i (.bool b)
    rw [List.setIfInBounds_toArray] at h
    rw [List.map_set]
    exact h
  · by_cases he : j = i
    · subst he
      rw [List.getElem?_set_self (by omega)] at hj
      obtain rfl := (Option.some.inj hj)
      exact hb
    · rw [List.getElem?_set_ne (fun h => he h.symm)] at hj
      rw [hM j he]
      exact h3 j c hj
theorem starts_pos {cs : List Cd} (h : vmRight cs = true) : 0 < (startsL cs).length := List.length_pos_of_mem ((mem_startsL h).2 .zero)
theorem starts_len {cs : List Cd} : (startsL cs).length ≤ cs.length := by unfold startsL; exact Nat.le_trans (List.length_filter_le _ _) (by simp)
set_option maxHeartbeats 8000000 in
theorem rreach_any (A : Option Addr) (n cc : Nat) (cs : List Cd) (w : World) (hr : Recs w w.heap.size 5 A n (cs.map Cd.row)) (hR : vmRight cs = true) :
    Calls Try.prog 19 #[.slice A n cc] w fun y w' => ∃ g, y = .returned (.slice (some ⟨g, 0, none⟩) n n) ∧ Bl w' (some ⟨g, 0, none⟩) (reachL cs) ∧ Only [] w w' := by
  have hl : cs.length = n := by have := hr.1; simpa using this
  have hlen := (right_len hR).2.1
  have hpos := (right_len hR).1
  have HST := Lib.hid (rstarts_any A n cc cs w hr hR)
  obtain ⟨S, hS⟩ : ∃ S, startsL cs = S := ⟨_, rfl⟩
  rw [hS] at HST
  have HS := Lib.hid hS
  have hSp : 0 < S.length := by rw [← hS]; exact starts_pos hR
  have hSl : S.length ≤ n := by rw [← hS, ← hl]; exact starts_len
  have HR := Lib.hid (And.intro hr hR)
  have HL := Lib.hid (And.intro hl (And.intro hlen (And.intro hpos (And.intro hSp hSl))))
  have hne0 : ((S.length : Int) == 0) = false := by rw [beq_eq_false_iff_ne]; omega
  clear hr hR hl hlen hpos hS hSp hSl
  go_enter Try.func19, Try.ntmps19
  go_wp2_with (go_at_call 16; refine HST.out.mono ?_; rintro y w1 ⟨v, rfl, hown, ho1⟩; obtain ⟨As, cS, rfl, hcs, hsl⟩ := sl_of hown; have HSL := Lib.hid hsl; have HO1 := Lib.hid ho1; clear hown hsl hcs; obtain ⟨i0, hi0, hz0, hz1, hz2⟩ := info_parts bool_info; obtain ⟨w2, hrun, hown2, hgr⟩ := run_make_full (P := Try.prog) w1 w1.heap.size 44 4 i0 _ 1 Try.underlying44 hi0 hz0 hz1 .i64 .i64 n (by have := HL.out; rw [hz2]; omega) (by have := HL.out; unfold maxLen; omega) (Nat.le_refl _); have HOW2 := Lib.hid (And.intro hown2 (Only.of_grown hgr)); clear hown2 hgr hi0 hz0 hz1 hz2 ho1)
  obtain ⟨rb, hrb⟩ : ∃ rb, w1.heap.size = rb := ⟨_, rfl⟩
  have HA2 : Hid (ArrL w2 rb cs (fun _ => False)) := Lib.hid (by
    have hb1 := blk_full (by have := HL.out; omega) HOW2.out.1
    rw [made_false, hrb] at hb1
    exact ⟨List.replicate n false, by rw [List.length_replicate, HL.out.1], hb1, fun i b hb => by
      have h1 := List.mem_of_getElem? hb
      rw [List.mem_replicate] at h1
      rw [h1.2]
      simp⟩)
  have HO2 : Hid (Only [] w w2 ∧ w.heap.size ≤ rb ∧ Sl w2 As S) := Lib.hid ⟨HO1.out.trans HOW2.out.2 (by simp), by rw [← hrb]; exact HO1.out.size, HSL.out.only0 HOW2.out.2⟩
  rw [hrb]
  clear hrun hrb
  go_loopw [5] (fun kv wr => ∃ k : Nat, kv = .int .i64 (k : Int) ∧ k ≤ S.length ∧ ArrL wr rb cs (fun i => ∃ s ∈ S.take k, Rp cs s i) ∧ Only [rb] w2 wr) (fun kv _ => S.length - (intOf kv).toNat)
  case atStart => exact ⟨0, rfl, by omega, HA2.out.congr (fun i => by simp), Only.refl _ _⟩
  case round =>
    rename World => wo
    obtain ⟨k, rfl, hk, har, ho⟩ := hrel
    have hni : ∀ g ∈ [rb], ∀ c, ¬ Blk w2 g 3 c := fun g hg c hb => by
      rw [List.mem_singleton.1 hg] at hb
      obtain ⟨R, _, hb2, _⟩ := HA2.out
      exact Blk.ne_ hb hb2 (by decide) rfl
    have hslo := HO2.out.2.2.only ho hni
    by_cases hlt : k < S.length
    · have d1 : decide ((k : Int) < (S.length : Int)) = true := decide_eq_true (by omega)
      have d1' : decide (k < S.length) = true := decide_eq_true hlt
      obtain ⟨bs, os, s, rfl, hs, hcell⟩ := hslo.at_ hlt
      have hrs : Rs cs s := (mem_startsL HR.out.2).1 (by rw [HS.out]; exact List.mem_of_getElem? hs)
      have hwo : Only [] w wo := HO2.out.1.trans ho (fun g hg => by rw [List.mem_singleton.1 hg]; exact .inr HO2.out.2.1)
      have HP := Lib.hid (rpart_any A n cc s cs wo ((HR.out.1.only hwo (by simp)).more hwo.size) HR.out.2 (by have := rs_lt HR.out.2 hrs; have := HL.out; omega))
      have HK := Lib.hid (And.intro hs (And.intro har (And.intro ho hlt)))
      have hrbl : rb < wo.heap.size := by obtain ⟨R, _, hb2, _⟩ := har; exact hb2.lt
      have HRB := Lib.hid hrbl
      clear hk har ho hslo hs hrs hwo hni hrbl
      go_wp2_with (go_at_call 33; refine HP.out.mono ?_; rintro y w6 ⟨g6, rfl, ha6, hg6, ho6⟩; have H6 := Lib.hid (And.intro ha6 (And.intro hg6 ho6)); clear ha6 hg6 ho6)
      clear hcell hlt
      go_loopw [7] (fun iv wr2 => ∃ i : Nat, iv = .int .i64 (i : Int) ∧ i ≤ n ∧ ArrL wr2 rb cs (fun j => (∃ s ∈ S.take k, Rp cs s j) ∨ (j < i ∧ Rp cs s j)) ∧ ArrL wr2 g6 cs (Rp cs s) ∧ Only [rb] wo wr2) (fun iv _ => n - (intOf iv).toNat)
      case atStart => exact ⟨0, rfl, by omega, (HK.out.2.1.only H6.out.2.2 (by simp)).congr (fun j => ⟨fun h => h.elim id (fun h => absurd h.1 (by omega)), .inl⟩), H6.out.1, H6.out.2.2.mono (by simp)⟩
      case round =>
        obtain ⟨i, rfl, hi, har, hag, ho⟩ := hrel
        by_cases hlt : i < n
        · have d2 : decide ((i : Int) < (n : Int)) = true := decide_eq_true (by omega)
          have d2' : decide (i < n) = true := decide_eq_true hlt
          have hin : i < cs.length := by have := HL.out; omega
          obtain ⟨b, r1, r2, r3⟩ := har.cell hin
          obtain ⟨b2, q1, q2, q3⟩ := hag.cell hin
          have hw : wrap64 ((i : Int) + 1) = ((i + 1 : Nat) : Int) := by have := HL.out; rw [wrap_le (by omega) (by omega)]; omega
          have HW := Lib.hid hw
          have hfin : ∀ c : Bool, (c = true ↔ (b = true ∨ b2 = true)) → ArrL (wr.setCell ⟨rb, i, none⟩ (.bool c)) rb cs (fun j => (∃ s ∈ S.take k, Rp cs s j) ∨ (j < i + 1 ∧ Rp cs s j)) := fun c hc => har.store hin (fun j hj => by
            constructor
            · rintro (h | ⟨h1, h2⟩)
              · exact .inl h
              · exact .inr ⟨by omega, h2⟩
            · rintro (h | ⟨h1, h2⟩)
              · exact .inl h
              · exact .inr ⟨by omega, h2⟩) (by
            rw [hc, r2, q2]
            constructor
            · rintro ((h | ⟨h1, h2⟩) | h)
              · exact .inl h
              · omega
              · exact .inr ⟨by omega, h⟩
            · rintro (h | ⟨h1, h2⟩)
              · exact .inl (.inl h)
              · exact .inr h2)
          have hg6 : g6 ∉ [rb] := by have := H6.out.2.1; have := HRB.out; simp; omega
          have hag' : ∀ c : Value, ArrL (wr.setCell ⟨rb, i, none⟩ c) g6 cs (Rp cs s) := fun c => hag.only ((Only.refl [rb] wr).setCell (.inl (by simp)) _) hg6
          have hoo : ∀ c : Value, Only [rb] wo (wr.setCell ⟨rb, i, none⟩ c) := fun c => ho.setCell (.inl (by simp)) _
          have HF := Lib.hid (And.intro hfin (And.intro hag' hoo))
          have hii : i < n := hlt
          clear har hag ho r2 q2 q3 hw hfin hg6 hag' hoo hi hlt hin
          cases b with
          | true =>
            go_wp2_with fail
            go_roundw
            case measure => rw [HW.out]; simp [intOf]; omega
            case rel => exact ⟨i + 1, by rw [HW.out], hii, HF.out.1 true (by simp), HF.out.2.1 _, HF.out.2.2 _⟩
          | false =>
            go_wp2_with fail
            go_roundw
            case measure => rw [HW.out]; simp [intOf]; omega
            case rel => exact ⟨i + 1, by rw [HW.out], hii, HF.out.1 b2 (by simp), HF.out.2.1 _, HF.out.2.2 _⟩
        · obtain rfl : i = n := by omega
          have d2 : decide ((i : Int) < (i : Int)) = false := decide_eq_false (by omega)
          have hw : wrap64 ((k : Int) + 1) = ((k + 1 : Nat) : Int) := by have := HL.out; have := HK.out.2.2.2; rw [wrap_le (by omega) (by omega)]; omega
          have HW := Lib.hid hw
          have HF := Lib.hid (And.intro (har.congr (M' := fun j => ∃ s ∈ S.take (k + 1), Rp cs s j) (fun j => by
            rw [take_snoc HK.out.1]
            constructor
            · rintro ⟨u, hu, h2⟩
              rcases List.mem_append.1 hu with hu | hu
              · exact .inl ⟨u, hu, h2⟩
              · rw [List.mem_singleton.1 hu] at h2
                refine .inr ⟨?_, h2⟩
                have h3 := rp_lt HR.out.2 (rs_lt HR.out.2 ((mem_startsL HR.out.2).1 (by rw [HS.out]; exact List.mem_of_getElem? HK.out.1))) h2
                have := HL.out
                omega
            · rintro (⟨u, hu, h2⟩ | ⟨_, h2⟩)
              · exact ⟨u, List.mem_append_left _ hu, h2⟩
              · exact ⟨s, by simp, h2⟩)) (HK.out.2.2.1.trans ho (fun g hg => .inl hg)))
          clear har hag ho hw hi hlt
          go_wp2_with fail
          rw [HW.out]
          exact ⟨⟨k + 1, rfl, HK.out.2.2.2, HF.out.1, HF.out.2⟩, by have := HK.out.2.2.2; simp [intOf]; omega⟩
    · obtain rfl : k = S.length := by omega
      have d1 : decide ((S.length : Int) < (S.length : Int)) = false := decide_eq_false (by omega)
      have hm : ∀ i, (∃ s ∈ S.take S.length, Rp cs s i) ↔ Rd cs i := fun i => by
        rw [List.take_length, rd_iff HR.out.2, ← HS.out]
        exact ⟨fun ⟨s, h1, h2⟩ => ⟨s, (mem_startsL HR.out.2).1 h1, h2⟩, fun ⟨s, h1, h2⟩ => ⟨s, (mem_startsL HR.out.2).2 h1, h2⟩⟩
      have hbl : Bl wo (some ⟨rb, 0, none⟩) (reachL cs) := by
        obtain ⟨R, h1, h2, h3⟩ := har
        have he := reach_eq h1 h3 hm
        subst he
        exact bl_of h2
      have HF := Lib.hid (And.intro hbl (HO2.out.1.trans ho (fun g hg => by rw [List.mem_singleton.1 hg]; exact .inr HO2.out.2.1)))
      clear har ho hslo hni hk hlt hm hbl
      go_wp2_with fail
      go_ret
      exact ⟨rb, rfl, HF.out.1, HF.out.2⟩
end Go.Proofs.Ytkdacemachejoaa.Vm
