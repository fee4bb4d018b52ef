/- The walks of frame: bytes in sectors, by the document. -/
import Derived.Test.YthgfmoogagldmaaGreatFrameUnpack
import Derived.Test.YthgfmoogagldmaaGreatRow
namespace Go.Proofs.YthgfmoogagldmaaGreat.Frame
open Go.RowKit
set_option linter.unusedVariables false
set_option maxRecDepth 100000
def sec (l : List UInt8) (i : Nat) : List UInt8 := (l.drop (64 * i)).take 64
def fill (s : List UInt8) (j : Nat) : List UInt8 := s.take j ++ List.replicate (64 - j) 0
def pad (s : List UInt8) : List UInt8 := fill s s.length
theorem fill_len (s : List UInt8) (j : Nat) (hj : j ≤ s.length) (hs : s.length ≤ 64) : (fill s j).length = 64 := by
  unfold fill
  rw [List.length_append, List.length_take, List.length_replicate]
  omega
theorem fill_set (s : List UInt8) (j : Nat) (hj : j < s.length) (hs : s.length ≤ 64) : (fill s j).set j (s.getD j 0) = fill s (j + 1) := by
  have h1 : (s.take j).length = j := by rw [List.length_take]; omega
  unfold fill
  rw [List.set_append_right _ _ (by omega), h1, Nat.sub_self]
  obtain ⟨r, hr⟩ : ∃ r, 64 - j = r + 1 := ⟨63 - j, by omega⟩
  rw [hr, List.replicate_succ, List.set_cons_zero, List.take_succ_eq_append_getElem hj, List.append_assoc, show 64 - (j + 1) = r by omega]
  rw [List.getD_eq_getElem?_getD, List.getElem?_eq_getElem hj]
  rfl
theorem sec_len (l : List UInt8) (i : Nat) : (sec l i).length ≤ 64 := by unfold sec; rw [List.length_take]; omega
theorem sec_at (l : List UInt8) (i j : Nat) (hj : j < 64) (h : 64 * i + j < l.length) : j < (sec l i).length ∧ (sec l i).getD j 0 = l.getD (64 * i + j) 0 := by
  unfold sec
  refine ⟨by rw [List.length_take, List.length_drop]; omega, ?_⟩
  rw [List.getD_eq_getElem?_getD, List.getD_eq_getElem?_getD, List.getElem?_take, if_pos hj, List.getElem?_drop]
/-- a sector that the call made -/
def SecAt (w : World) (s : Sl) : Prop := ∃ g, s.A = some ⟨g, 0, none⟩ ∧ s.n = 64 ∧ s.c = 64 ∧ Blk w g 5 (s.l.map B8).toArray ∧ s.l.length = 64
theorem SecAt.only {w w' : World} {s : Sl} {S : List Nat} (h : SecAt w s) (ho : Only S w w') (hS : ∀ g, (∃ t cs, t = 5 ∧ Blk w g t cs) → g ∉ S) : SecAt w' s := by
  obtain ⟨g, h1, h2, h3, h4, h5⟩ := h
  exact ⟨g, h1, h2, h3, h4.only ho (hS g ⟨_, _, rfl, h4⟩), h5⟩
theorem SecAt.bytes {w : World} {s : Sl} (h : SecAt w s) : Bytes w w.heap.size s.A s.n s.l := by
  obtain ⟨g, h1, h2, h3, h4, h5⟩ := h
  rw [h1, h2]
  refine ⟨h5, by simp [h5], fun _ => ⟨_, rfl, h4.lt, fun j u hu => ?_⟩⟩
  rw [add_zero_block, h4.cell j]
  simpa using hu
theorem row_ne {w : World} {base e size n : Nat} {v : Value} {rows : List (List Value)} (h : OwnR e size w base v n rows) (g : Nat) {t : TypeId} {cs : Array Value} (hb : Blk w g t cs) (ht : t ≠ e) : g ∉ ownL v := by
  intro hg
  obtain ⟨_, h0⟩ := h.own
  rcases h0 with ⟨rfl, _⟩ | ⟨g', cap, cur, rfl, _, hh, _⟩
  · simp [ownL, Value.ownBlock] at hg
  · simp [ownL, Value.ownBlock] at hg
    subst hg
    exact Blk.ne_ (t := e) hh hb (fun h => ht h.symm) rfl
theorem sl_info : (Tryz.prog.info? 35).map (fun i => (i.zero, i.size, i.bytes)) = some (some (.slice none 0 0), 1, 24) := by kernel_rfl
def pack (l : List UInt8) (k : Nat) : List (List UInt8) := (List.range k).map fun i => pad (sec l i)
/-- the sectors that Pack hands back -/
def packOut (l : List UInt8) (w : World) (x : Ending) (w' : World) : Prop :=
  ∃ (v : Value) (ss : List Sl), x = .returned v ∧ OwnR 35 1 w' w.heap.size v ss.length (ss.map fun s => [s.val]) ∧ (∀ s ∈ ss, SecAt w' s) ∧ ss.map (·.l) = pack l (needZ l.length).toNat ∧ Only [] w w'
theorem made64 : (madeCells #[.int .u8 0] (64 * 1)).toList = (List.replicate 64 (0 : UInt8)).map B8 := by kernel_rfl
theorem made_blk {w : World} {base g : Nat} (s : List UInt8) (h : w.ownsRow base 5 1 (.slice (some ⟨g, 0, none⟩) 64 64) 64 (madeCells #[.int .u8 0] (64 * 1)).toList) : Blk w g 5 ((fill s 0).map B8).toArray := by
  obtain ⟨_, h0⟩ := h
  rcases h0 with ⟨h1, _⟩ | ⟨g', cap, cur, hv, _, hh, _, _, hsz, ht⟩
  · cases h1
  · injection hv with hv h64 hcap
    injection hv with hv
    injection hv with hg
    subst hg
    subst hcap
    have hc : cur = ((fill s 0).map B8).toArray := by
      apply Array.ext'
      have hl : cur.toList.length = 64 := by simpa using hsz
      rw [List.take_of_length_le (by rw [hl]; exact Nat.le_refl _), made64] at ht
      rw [ht]
      simp [fill]
    rw [← hc]
    exact hh
theorem set_B8 (xs : List UInt8) (j : Nat) (c : UInt8) : ((xs.map B8).toArray).setIfInBounds j (.int .u8 (c.toNat : Int)) = ((xs.set j c).map B8).toArray := by
  apply Array.ext'
  rw [Array.toList_setIfInBounds]
  simp [List.map_set, B8]
theorem sec_size (l : List UInt8) (k : Nat) : (sec l k).length = min 64 (l.length - 64 * k) := by unfold sec; rw [List.length_take, List.length_drop]
set_option maxHeartbeats 1000000 in
theorem rpack_any (A : Option Addr) (n c : Nat) (l : List UInt8) (w : World) (hr : Bytes w w.heap.size A n l) (hn : n ≤ 100000) :
    Calls Tryz.prog 123 #[.slice A n c] w fun x w' => packOut l w x w' := by
  have HL := Lib.hid hr.len
  have d1 : decide ((1048576 : Int) < (n : Int)) = false := decide_eq_false (by omega)
  have hN := fun w => rneed_int (n : Int) w (by omega) (by omega)
  have HN := Lib.hid hN
  obtain ⟨K, hK⟩ : ∃ K : Nat, needZ (n : Int) = (K : Int) := ⟨(needZ n).toNat, by unfold needZ; split <;> omega⟩
  have hKb : K ≤ 2000 ∧ (∀ i, i < K → 64 * i < n) := by
    unfold needZ at hK
    split at hK
    · exact ⟨by omega, fun i hi => by omega⟩
    · exact ⟨by omega, fun i hi => by omega⟩
  rw [hK] at hN
  have HK := Lib.hid hK
  have HN2 := Lib.hid hN
  clear hN hK HN
  go_enter Tryz.func123, Tryz.ntmps123
  go_wp2_with fail
  go_loopw [3, 4] (fun v i wr => ∃ (k : Nat) (ss : List Sl), k ≤ K ∧ i = .int .i64 k ∧ ss.length = k ∧ OwnR 35 1 wr w.heap.size v ss.length (ss.map fun s => [s.val]) ∧ (∀ s ∈ ss, SecAt wr s) ∧ ss.map (·.l) = pack l k ∧ Only [] w wr) (fun _ i _ => K - (intOf i).toNat)
  case atStart => exact ⟨0, [], by omega, rfl, rfl, OwnR.nil_ _ _ _ _, by simp, rfl, Only.refl _ _⟩
  case round =>
    obtain ⟨k, ss, hk, rfl, hsk, hv, hsec, hpk, ho⟩ := hrel
    have HSK := Lib.hid hsk
    have HPK := Lib.hid hpk
    clear hsk hpk
    by_cases hlt : k < K
    · have dk : decide ((k : Int) < (K : Int)) = true := decide_eq_true (by omega)
      obtain ⟨i0, hi0, hz0, hz1, hz2⟩ := info_parts byte_info
      have hws := ho.size
      go_wp2_with (first
        | (go_at_call 83; refine (HN2.out _).mono ?_; rintro x wx ⟨rfl, rfl⟩)
        | (at_make; refine wpList_make_full wr rfl _ _ 35 rfl w.heap.size 5 i0 _ 1 Tryz.underlying35 hi0 hz0 hz1 _ _ _ _ 64 rfl rfl rfl rfl (by rw [hz2]; decide) (by decide) hws ?_; intro w2 hmk hgk; have hgo : Only [] wr w2 := Only.of_grown hgk))
      have hB0 := made_blk (sec l k) hmk
      have hgs : wr.heap.size = wr.heap.size := rfl
      have hv2 := hv.only hgo (by simp)
      have hvl : ∀ g ∈ ownL u3, g < wr.heap.size := fun g hg => (hv.lt g hg).2
      have hsec2 : ∀ s ∈ ss, ∀ wx, Only [wr.heap.size] w2 wx → SecAt wx s := fun s hs wx hx => by
        obtain ⟨g, h1, h2, h3, h4, h5⟩ := hsec s hs
        exact ⟨g, h1, h2, h3, (h4.only hgo (by simp)).only hx (by have := h4.lt; simp; omega), h5⟩
      have ho2 := ho.trans hgo (by simp)
      have hgl : w.heap.size ≤ wr.heap.size := ho.size
      have hn0 := hKb.2 k hlt
      have hSL := sec_size l k
      rw [HL.out] at hSL
      have HSEC := Lib.hid hsec2
      clear hmk hgk hv hsec hsec2 ho hi0 hz0 hz1 hz2 hgo
      obtain ⟨S, hS⟩ : ∃ S, sec l k = S := ⟨_, rfl⟩
      have hat : ∀ j, j < 64 → 64 * k + j < n → j < S.length ∧ S.getD j 0 = l.getD (64 * k + j) 0 := fun j h1 h2 => by
        rw [← hS]
        exact sec_at l k j h1 (by rw [HL.out]; exact h2)
      rw [hS] at hB0 hSL
      have HS := Lib.hid hS
      have HAT := Lib.hid hat
      clear hS hat hgs
      generalize wr.heap.size = g at *
      go_loopw [6] (fun i wx => ∃ j : Nat, j ≤ S.length ∧ i = .int .i64 j ∧ Blk wx g 5 ((fill S j).map B8).toArray ∧ Only [g] w2 wx) (fun i _ => 64 - (intOf i).toNat)
      case atStart => exact ⟨0, by omega, rfl, hB0, Only.refl _ _⟩
      case round =>
        obtain ⟨j, hj, rfl, hbj, hox⟩ := hrel
        have e1 : IntKind.i64.wrap ((k : Int) * 64) = (k : Int) * 64 := IntWalk.i64_in _ (by omega)
        by_cases hj64 : j < 64
        · have dj : decide ((j : Int) < 64) = true := decide_eq_true (by omega)
          by_cases hjn : 64 * k + j < n
          · have dn : decide ((k : Int) * 64 + (j : Int) < (n : Int)) = true := decide_eq_true (by omega)
            obtain ⟨hjS, hjv⟩ := HAT.out j hj64 hjn
            have hrx := (hr.only ho2 (by simp)).only_pos hox (fun hn g' hg' => by have := (hr.only ho2 (by simp)).blk_lt hn g' hg'; simp; omega)
            obtain ⟨bk, off, hAe, hbk, hcj⟩ := hrx.at_ (k := 64 * k + j) hjn
            obtain rfl := hAe
            have e2 : ((k : Int) * 64 + (j : Int)).toNat = 64 * k + j := by omega
            have e3 : IntKind.i64.wrap ((k : Int) * 64 + (j : Int)) = (k : Int) * 64 + (j : Int) := IntWalk.i64_in _ (by omega)
            have e4 : (0 : Int) ≤ (k : Int) * 64 + (j : Int) := by omega
            have e5 : (k : Int) * 64 + (j : Int) < (n : Int) := by omega
            have hlen := fill_len S j hj (by omega)
            obtain ⟨uc, huc⟩ : ∃ uc, wr.cell? ⟨g, j, none⟩ = some uc := by
              rw [hbj.cell j, List.getElem?_toArray, List.getElem?_map, List.getElem?_eq_getElem (by omega)]
              exact ⟨_, rfl⟩
            have hfz := hbj.frozen j
            have hbn := hbj.set_ j (.int .u8 ((S.getD j 0).toNat : Int))
            rw [set_B8, fill_set S j hjS (by omega), hjv] at hbn
            have HBN := Lib.hid hbn
            have HOX := Lib.hid hox
            clear hbn hbj hox hlen hjv
            generalize ((l.getD (64 * k + j) 0).toNat : Int) = cc at *
            go_wp2_with fail
            go_roundw
            case rel => exact ⟨j + 1, by omega, by go_num, HBN.out, HOX.out.setCell (p := ⟨g, j, none⟩) (.inl (by simp)) _⟩
            case measure => simp [intOf]; omega
          · have dn : decide ((k : Int) * 64 + (j : Int) < (n : Int)) = false := decide_eq_false (by omega)
            have e3 : IntKind.i64.wrap ((k : Int) * 64 + (j : Int)) = (k : Int) * 64 + (j : Int) := IntWalk.i64_in _ (by omega)
            have hjS : j = S.length := by omega
            have hfin : fill S j = pad S := by unfold pad; rw [show j = S.length by omega]
            rw [hfin] at hbj
            have hlen64 : (pad S).length = 64 := by unfold pad; exact fill_len S S.length (Nat.le_refl _) (by omega)
            have hv3 := hv2.only hox (fun g' hg' => by have := hvl g' hg'; simp; omega)
            have hox' := ho2.trans hox (by simp; omega)
            have hwsx := hox'.size
            have hK2 := hKb.1
            have hnews : SecAt wr ⟨some ⟨g, 0, none⟩, 64, 64, pad S⟩ := ⟨g, rfl, rfl, rfl, hbj, hlen64⟩
            have HNEW := Lib.hid hnews
            have HHX := Lib.hid hox
            have hss := HSK.out
            have HV3 := Lib.hid hv3
            clear hfin hbj hnews hv2 hox hB0 hlen64
            go_wp2_with (at_builtin; refine wpList_append1 (w := wr) rfl (.tmp 41) (.tmp 43) 34 rfl Tryz.underlying34 sl_info rfl (by decide) rfl hv3 rfl rfl (row := [(⟨some ⟨g, 0, none⟩, 64, 64, pad S⟩ : Sl).val]) rfl rfl (by intro u hu; rw [List.mem_singleton.1 hu]; rfl) (by omega) (by unfold maxLen; omega) (by omega) ?_; intro v' w' hE)
            go_roundw
            case rel =>
              refine ⟨k + 1, ss ++ [⟨some ⟨g, 0, none⟩, 64, 64, pad S⟩], by omega, by go_num, by rw [List.length_append, HSK.out]; rfl, ?_, ?_, ?_, hox'.trans hE.only (fun g' hg' => .inr (HV3.out.lt g' hg').1)⟩
              · rw [List.length_append, List.map_append]
                exact hE.own
              · intro s hs
                have hsx : SecAt wr s := by
                  rcases List.mem_append.1 hs with hs | hs
                  · exact HSEC.out s hs wr HHX.out
                  · rw [List.mem_singleton.1 hs]; exact HNEW.out
                exact hsx.only hE.only (fun g' ⟨t, cs, ht, hb⟩ => row_ne HV3.out g' hb (by rw [ht]; decide))
              · rw [List.map_append, HPK.out]
                unfold pack
                rw [List.range_succ, List.map_append]
                show _ ++ [pad S] = _ ++ [pad (sec l k)]
                rw [HS.out]
            case measure => simp [intOf]; omega
        · have dj : decide ((j : Int) < 64) = false := decide_eq_false (by omega)
          have hjS : j = S.length := by omega
          have hfin : fill S j = pad S := by unfold pad; rw [show j = S.length by omega]
          rw [hfin] at hbj
          have hlen64 : (pad S).length = 64 := by unfold pad; exact fill_len S S.length (Nat.le_refl _) (by omega)
          have hv3 := hv2.only hox (fun g' hg' => by have := hvl g' hg'; simp; omega)
          have hox' := ho2.trans hox (by simp; omega)
          have hwsx := hox'.size
          have hK2 := hKb.1
          have hnews : SecAt wr ⟨some ⟨g, 0, none⟩, 64, 64, pad S⟩ := ⟨g, rfl, rfl, rfl, hbj, hlen64⟩
          have HNEW := Lib.hid hnews
          have HHX := Lib.hid hox
          have hss := HSK.out
          have HV3 := Lib.hid hv3
          clear hfin hbj hnews hv2 hox hB0 hlen64
          go_wp2_with (at_builtin; refine wpList_append1 (w := wr) rfl (.tmp 41) (.tmp 43) 34 rfl Tryz.underlying34 sl_info rfl (by decide) rfl hv3 rfl rfl (row := [(⟨some ⟨g, 0, none⟩, 64, 64, pad S⟩ : Sl).val]) rfl rfl (by intro u hu; rw [List.mem_singleton.1 hu]; rfl) (by omega) (by unfold maxLen; omega) (by omega) ?_; intro v' w' hE)
          go_roundw
          case rel =>
            refine ⟨k + 1, ss ++ [⟨some ⟨g, 0, none⟩, 64, 64, pad S⟩], by omega, by go_num, by rw [List.length_append, HSK.out]; rfl, ?_, ?_, ?_, hox'.trans hE.only (fun g' hg' => .inr (HV3.out.lt g' hg').1)⟩
            · rw [List.length_append, List.map_append]
              exact hE.own
            · intro s hs
              have hsx : SecAt wr s := by
                rcases List.mem_append.1 hs with hs | hs
                · exact HSEC.out s hs wr HHX.out
                · rw [List.mem_singleton.1 hs]; exact HNEW.out
              exact hsx.only hE.only (fun g' ⟨t, cs, ht, hb⟩ => row_ne HV3.out g' hb (by rw [ht]; decide))
            · rw [List.map_append, HPK.out]
              unfold pack
              rw [List.range_succ, List.map_append]
              show _ ++ [pad S] = _ ++ [pad (sec l k)]
              rw [HS.out]
          case measure => simp [intOf]; omega
    · obtain rfl : k = K := by omega
      have dk : decide ((k : Int) < (k : Int)) = false := decide_eq_false (by omega)
      have HP := Lib.hid (show ss.map (·.l) = pack l (needZ l.length).toNat by rw [HPK.out, HL.out, HK.out]; rfl)
      go_wp2_with (go_at_call 83; refine (HN2.out _).mono ?_; rintro x wx ⟨rfl, rfl⟩)
      go_ret
      exact ⟨_, ss, rfl, hv, hsec, HP.out, ho⟩
end Go.Proofs.YthgfmoogagldmaaGreat.Frame
