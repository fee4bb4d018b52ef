/- edits.Apply walks. -/
import Derived.Test.YtphpgbnpmplkhaaEditsDiff
namespace Go.Proofs.Ytphpgbnpmplkhaa.Edits
open Go.RowKit Go.Maps
set_option linter.unusedVariables false
set_option maxRecDepth 100000
/-- what a step makes of a map -/
noncomputable def stf (f : Lit → Option Value) (s : Stp) : Lit → Option Value := if s.op = 0 then upd f (pk s.path) (some (.string s.text)) else upd f (pk s.path) none
noncomputable def sf (f : Lit → Option Value) (l : List Stp) : Lit → Option Value := l.foldl stf f
theorem sf_snoc (f : Lit → Option Value) (l : List Stp) (s : Stp) : sf f (l ++ [s]) = stf (sf f l) s := by unfold sf; rw [List.foldl_append]; rfl
theorem upd_none_text {f : Lit → Option Value} {k0 : Lit} (h : ∀ k v, f k = some v → ∃ c, v = Value.string c) : ∀ k v, upd f k0 none k = some v → ∃ c, v = Value.string c := by
  intro k v hv
  by_cases hk : k = k0
  · subst hk
    rw [upd_same] at hv
    cases hv
  · rw [upd_other _ _ hk] at hv
    exact h k v hv
theorem sf_text : ∀ (l : List Stp) (f : Lit → Option Value), (∀ k v, f k = some v → ∃ c, v = Value.string c) → ∀ k v, sf f l k = some v → ∃ c, v = Value.string c
  | [], f, h => h
  | s :: l, f, h => sf_text l (stf f s) (by
    unfold stf
    split
    · exact upd_text h
    · exact upd_none_text h)
theorem stp_at {w : World} {B m : Nat} {A : Option Addr} {l : List Stp} (hr : Recs w B 5 A m (l.map Stp.row)) (k : Nat) (hk : k < m) : ∃ b off, A = some ⟨b, off, none⟩ ∧ b < B ∧ ∃ c ∈ l, l[k]? = some c ∧
    w.cell? ⟨b, off + k * 5, none⟩ = some (.int .i64 c.op) ∧ w.cell? ⟨b, off + k * 5 + 1, none⟩ = some (.string c.path) ∧ w.cell? ⟨b, off + k * 5 + 2, none⟩ = some (.string c.text) ∧ w.cell? ⟨b, off + k * 5 + 3, none⟩ = some (.int .i64 0) ∧ w.cell? ⟨b, off + k * 5 + 4, none⟩ = some (.slice none 0 0) := by
  have hl : l.length = m := by simpa using hr.1
  obtain ⟨b, off, e, hb, hc⟩ := hr.at_ stp0 hk
  have hg : l.getD k stp0 = l[k] := by rw [List.getD_eq_getElem?_getD, List.getElem?_eq_getElem (by omega)]; rfl
  refine ⟨b, off, e, hb, l[k], List.getElem_mem (by omega), List.getElem?_eq_getElem (by omega), ?_⟩
  rw [hg] at hc
  exact ⟨hc 0 (by omega), hc 1 (by omega), hc 2 (by omega), hc 3 (by omega), hc 4 (by omega)⟩
/-- a path, and its text -/
def srcOf (f : Lit → Option Value) (x : List UInt8) : Src := ⟨ba x, txt (f (.string x))⟩
set_option maxHeartbeats 2000000 in
theorem apply_any (A1 : Option Addr) (m1 c1 : Nat) (l1 : List Src) (A2 : Option Addr) (m2 c2 : Nat) (l2 : List Stp) (w : World) (hr1 : Recs w w.heap.size 2 A1 m1 (l1.map Src.row)) (hr2 : Recs w w.heap.size 5 A2 m2 (l2.map Stp.row))
    (hs1 : Short l1) (hops : ∀ s ∈ l2, (s.op = 0 ∨ s.op = 1) ∧ s.path.size ≤ maxLen) (hm1 : m1 ≤ 1000000) (hm2 : m2 ≤ 2000000) :
    Calls Try.prog 7 #[.slice A1 m1 c1, .slice A2 m2 c2] w fun x w' => ∃ v ss, x = .returned v ∧ KeysL (sf (kf l1) l2) ss ∧ ss.length ≤ m1 + m2 ∧ (∀ x ∈ ss, x.length ≤ maxLen) ∧ OwnR 30 2 w' w.heap.size v ss.length ((ss.map (srcOf (sf (kf l1) l2))).map Src.row) ∧ Only [] w w' := by
  have hK := kept_any A1 m1 c1 l1 w hr1 hs1 hm1
  have hT := sf_text l2 (kf l1) (kf_text l1)
  have hl2 : l2.length = m2 := by simpa using hr2.1
  generalize kf l1 = f0 at *
  obtain ⟨f, hf⟩ : ∃ f, sf f0 l2 = f := ⟨_, rfl⟩
  rw [hf] at hT ⊢
  have HF := Lib.hid hf
  have HK := Lib.hid hK
  have HT := Lib.hid hT
  clear hf
  have HR2 := Lib.hid hr2
  have HOPS := Lib.hid hops
  have HL2 := Lib.hid hl2
  clear hK hT hr1 hs1 hr2 hops hl2
  go_enter Try.func7, Try.ntmps7
  go_wp2_with fail
  refine HK.out.mono ?_
  rintro x w1 ⟨bm, rfl, hbm, hvm, ho1⟩
  have HV1 := Lib.hid hvm
  have HO1 := Lib.hid ho1
  clear hvm ho1 HK
  go_wp2_with fail
  go_loopw [15] (fun i wr => ∃ k : Nat, k ≤ m2 ∧ i = .int .i64 k ∧ VM Try.prog 9 wr bm (m1 + k) (sf f0 (l2.take k)) ∧ Only [] w wr) (fun i _ => m2 - (intOf i).toNat)
  case atStart => exact ⟨0, by omega, rfl, HV1.out, HO1.out⟩
  case round =>
    clear HV1
    obtain ⟨k, hk, rfl, hv, ho⟩ := hrel
    have HO := Lib.hid ho
    by_cases hlt : k < m2
    · have e1 : decide ((k : Int) < (m2 : Int)) = true := decide_eq_true (by omega)
      obtain ⟨b, off, hA, hb, s, hmem, hsk, c0, c1, c2, c3, c4⟩ := stp_at HR2.out k hlt
      subst hA
      have y0 := ho.cell c0 (by simp)
      have y1 := ho.cell c1 (by simp)
      have y2 := ho.cell c2 (by simp)
      have y3 := ho.cell c3 (by simp)
      have y4 := ho.cell c4 (by simp)
      obtain ⟨hop, hpl⟩ := HOPS.out s hmem
      have HSN := Lib.hid (sf_snoc f0 (l2.take k) s)
      have HTS := Lib.hid (take_snoc hsk)
      have HKEY := Lib.hid (keyS hpl)
      obtain ⟨op, path, text⟩ := s
      simp only at y0 y1 y2 hop HKEY hpl
      have HVA := Lib.hid (hv.alloc (.cells #[.int .i64 op, .string path, .string text, .int .i64 0, .slice none 0 0] 34))
      clear c0 c1 c2 c3 c4 hmem hsk hv ho
      rcases hop with rfl | rfl
      · have HSF : Hid (stf (sf f0 (l2.take k)) ⟨0, path, text⟩ = upd (sf f0 (l2.take k)) (pk path) (some (.string text))) := by unfold Hid stf; rw [if_pos rfl]
        go_wp2_with (at_mapUpdate; refine wpList_put rfl (.tmp 23) (.tmp 25) (.tmp 27) 37 rfl 9 9 lawS Try.underlying37 rfl HVA.out (by unfold maxLen; omega) rfl rfl HKEY.out ?_; intro w2 hv2 ho2; go_frame)
        go_roundw
        case rel =>
          refine ⟨k + 1, by omega, by go_num, ?_, (HO.out.alloc _).trans ho2 (by intro g hg; rw [List.mem_singleton.1 hg]; exact .inr hbm)⟩
          rw [HTS.out, HSN.out, HSF.out]
          exact hv2
        case measure => simp [intOf]; omega
      · have HSF : Hid (stf (sf f0 (l2.take k)) ⟨1, path, text⟩ = upd (sf f0 (l2.take k)) (pk path) none) := by unfold Hid stf; rw [if_neg (by simp)]
        go_wp2_with (at_delete; refine wpList_drop rfl (.tmp 30) (.tmp 32) 37 9 rfl 9 lawS Try.underlying37 rfl HVA.out rfl HKEY.out ?_; intro w2 hv2 ho2; go_frame)
        go_roundw
        case rel =>
          refine ⟨k + 1, by omega, by go_num, ?_, (HO.out.alloc _).trans ho2 (by intro g hg; rw [List.mem_singleton.1 hg]; exact .inr hbm)⟩
          rw [HTS.out, HSN.out, HSF.out]
          exact hv2.mono (by omega)
        case measure => simp [intOf]; omega
    · obtain rfl : m2 = k := by omega
      have e1 : decide ((m2 : Int) < (m2 : Int)) = false := decide_eq_false (by omega)
      rw [List.take_of_length_le (by rw [HL2.out]; exact Nat.le_refl _), HF.out] at hv
      have HV := Lib.hid hv
      have HS := Lib.hid (sorted_str bm (m1 + m2) f wr hv (by omega))
      clear hv ho
      go_wp2_with (first
        | (go_at_call 13; refine (keysT bm _).mono ?_; rintro x wk ⟨rfl, rfl⟩)
        | (go_at_call 12; refine HS.out.mono ?_; rintro x w7 ⟨v0, ss, rfl, hkl, hsl, hbd, hown, ho7⟩; obtain ⟨Ak, ck, rfl, hck, hcm, _, _⟩ := hown.shape (by decide)))
      have hszr := HO.out.size
      have HV7 := Lib.hid (HV.out.only ho7 (by simp))
      have HO7 := Lib.hid (HO.out.trans ho7 (by simp))
      have HKL := Lib.hid hkl
      have HBD := Lib.hid hbd
      have HOWN := Lib.hid (hown.mono hszr)
      have hsl2 : ss.length ≤ m1 + m2 := by omega
      clear hkl hbd hown ho7 HV HO HS hsl
      go_loopw [8, 38] (fun v i wz => ∃ k : Nat, k ≤ ss.length ∧ i = .int .i64 k ∧ OwnR 30 2 wz w.heap.size v k (((ss.take k).map (srcOf f)).map Src.row) ∧ VM Try.prog 9 wz bm (m1 + m2) f ∧ OwnR 9 1 wz w.heap.size (.slice Ak ss.length ck) ss.length (ss.map fun x => [Go.Proofs.encStr x]) ∧ Only [] w wz) (fun _ i _ => ss.length - (intOf i).toNat)
      case atStart => exact ⟨0, by omega, rfl, OwnR.nil_ _ _ _ _, HV7.out, HOWN.out, HO7.out⟩
      case round =>
        clear HV7 HOWN HO7
        obtain ⟨k, hk, rfl, hv, hvm, hkeys, ho⟩ := hrel
        have hszr := ho.size
        by_cases hlt : k < ss.length
        · have e2 : decide ((k : Int) < (ss.length : Int)) = true := decide_eq_true (by omega)
          obtain ⟨b, off, x, rfl, hsk, hmem, c0⟩ := key_at hkeys k hlt
          have hbx := HBD.out x hmem
          have hlk := VM.run_look1 hvm lawS Try.underlying37 (zeroS wr) (keyS (s := ba x) (by rw [ba_size]; exact hbx))
          have hxs : (f (.string x)).isSome = true := (HKL.out.2.2 x).1 hmem
          have htk : ((ss.take (k + 1)).map (srcOf f)).map Src.row = (((ss.take k).map (srcOf f)).map Src.row) ++ [(srcOf f x).row] := by
            obtain ⟨hk', he⟩ := List.getElem?_eq_some_iff.1 hsk
            rw [List.take_succ_eq_append_getElem hk', he]
            simp
          have hds : (srcOf f x).row = [.string (ba x), .string (txt (f (pk (ba x))))] := rfl
          have HTK := Lib.hid htk
          have HV := Lib.hid hv
          have HVM := Lib.hid hvm
          have HKY := Lib.hid hkeys
          have HOr := Lib.hid ho
          obtain ⟨t0, hy⟩ := Option.isSome_iff_exists.1 hxs
          have hy' : f (pk (ba x)) = some t0 := hy
          obtain ⟨t, rfl⟩ := HT.out _ _ hy'
          rw [hy'] at hlk hds
          simp only [Option.getD_some] at hlk
          have HDS : Hid ((srcOf f x).row = [.string (ba x), .string t]) := hds
          clear htk hv hkeys ho hds hy hy' hvm hsk hmem hxs hbx
          go_wp2_with (at_builtin; refine wpList_append1 rfl (.tmp 42) (.tmp 48) 22 rfl Try.underlying22 src_info rfl (by decide) rfl HV.out rfl rfl (row := [.string (ba x), .string t]) rfl rfl (by intro u hu; simp at hu; rcases hu with rfl | rfl <;> rfl) (by omega) (by unfold maxLen; omega) (by omega) ?_; intro v' w5 hE)
          go_roundw
          case rel =>
            refine ⟨k + 1, by omega, by go_num, ?_, HVM.out.only hE.only (off_map HV.out HVM.out), HKY.out.only hE.only (off_rows HKY.out HV.out (by decide)), HOr.out.trans hE.only (fun g hg => .inr (HV.out.lt g hg).1)⟩
            rw [HTK.out, HDS.out]
            exact hE.own
          case measure => simp [intOf]; omega
        · obtain rfl : ss.length = k := by omega
          have e2 : decide ((ss.length : Int) < (ss.length : Int)) = false := decide_eq_false (by omega)
          rw [List.take_of_length_le (Nat.le_refl _)] at hv
          have HV := Lib.hid hv
          have HOr := Lib.hid ho
          clear hv ho hvm hkeys
          go_wp2_with fail
          go_ret
          exact ⟨_, ss, rfl, HKL.out, hsl2, HBD.out, HV.out, HOr.out⟩
end Go.Proofs.Ytphpgbnpmplkhaa.Edits
