/- The walks of keys: a key, by the document. -/
import Derived.Test.YtfkakhlgcjjlcaaKeysKey
import Derived.Test.YtfkakhlgcjjlcaaBuf
import Derived.Test.YtfkakhlgcjjlcaaGrow
import Derived.Deep.RegionHeld3
namespace Go.Proofs.Ytfkakhlgcjjlcaa.Keys
open Go.RowKit Codec
set_option linter.unusedVariables false
set_option maxRecDepth 100000

def magicL : List UInt8 := [84, 77, 75, 49]
theorem magic_str (l : List UInt8) : str (magicL ++ l) = magicB ++ str l := by
  apply ByteArray.ext
  rw [ByteArray.data_append]
  apply Array.ext'
  simp [str, magicL, magicB]
set_option maxHeartbeats 4000000 in
theorem ref_key_bad (regs : Int) (path txt : ByteArray) (A : Option Addr) (m c : Nat) (ds : List DepT) (w : World) (hm : ds.length = m) (hbad : keyBad regs path txt ds) :
    Calls Try.prog 14 #[.int .i64 regs, .string path, .string txt, .slice A m c] w fun x w' => x = .returned (keyV regs path txt ds) ∧ Only [] w w' := by
  have hk : keyV regs path txt ds = .tuple #[.string ⟨#[]⟩, .int .i64 1] := by unfold keyV; rw [if_pos hbad]
  rw [hk]
  clear hk
  unfold keyBad at hbad
  rw [hm] at hbad
  have hfin : ∀ P : Prop, P → P := fun _ h => h
  by_cases h1 : regs < 0
  · have d1 : decide (regs < 0) = true := decide_eq_true h1
    clear hbad h1
    go_enter Try.func14, Try.ntmps14
    go_wp2_with fail
    exact bodyPost_ret (v := .tuple #[.string ⟨#[]⟩, .int .i64 1]) (by simp [results, Try.results14, go_sem]) rfl ⟨rfl, Only.refl _ _⟩
  · have d1 : decide (regs < 0) = false := decide_eq_false h1
    by_cases h2 : 255 < regs
    · have d2 : decide (255 < regs) = true := decide_eq_true h2
      clear hbad h1 h2
      go_enter Try.func14, Try.ntmps14
      go_wp2_with fail
      exact bodyPost_ret (v := .tuple #[.string ⟨#[]⟩, .int .i64 1]) (by simp [results, Try.results14, go_sem]) rfl ⟨rfl, Only.refl _ _⟩
    · have d2 : decide (255 < regs) = false := decide_eq_false h2
      by_cases h3 : 255 < path.size
      · have d3 : decide ((255 : Int) < (path.size : Int)) = true := decide_eq_true (by omega)
        clear hbad h1 h2 h3
        go_enter Try.func14, Try.ntmps14
        go_wp2_with fail
        exact bodyPost_ret (v := .tuple #[.string ⟨#[]⟩, .int .i64 1]) (by simp [results, Try.results14, go_sem]) rfl ⟨rfl, Only.refl _ _⟩
      · have d3 : decide ((255 : Int) < (path.size : Int)) = false := decide_eq_false (by omega)
        by_cases h4 : 65535 < txt.size
        · have d4 : decide ((65535 : Int) < (txt.size : Int)) = true := decide_eq_true (by omega)
          clear hbad h1 h2 h3 h4
          go_enter Try.func14, Try.ntmps14
          go_wp2_with fail
          exact bodyPost_ret (v := .tuple #[.string ⟨#[]⟩, .int .i64 1]) (by simp [results, Try.results14, go_sem]) rfl ⟨rfl, Only.refl _ _⟩
        · have d4 : decide ((65535 : Int) < (txt.size : Int)) = false := decide_eq_false (by omega)
          have d5 : decide ((255 : Int) < (m : Int)) = true := decide_eq_true (by omega)
          clear hbad h1 h2 h3 h4
          go_enter Try.func14, Try.ntmps14
          go_wp2_with fail
          exact bodyPost_ret (v := .tuple #[.string ⟨#[]⟩, .int .i64 1]) (by simp [results, Try.results14, go_sem]) rfl ⟨rfl, Only.refl _ _⟩
set_option maxHeartbeats 4000000 in
theorem ref_key (regs : Int) (path txt : ByteArray) (A : Option Addr) (m c B : Nat) (ds : List DepT) (w : World) (hm : ds.length = m) (hr : Recs w B 2 A m (ds.map depRow)) (hB : B ≤ w.heap.size)
    (hsz : ∀ d ∈ ds, d.1.size ≤ maxLen ∧ d.2.size ≤ maxLen) :
    Calls Try.prog 14 #[.int .i64 regs, .string path, .string txt, .slice A m c] w fun x w' => x = .returned (keyV regs path txt ds) ∧ Only [] w w' := by
  by_cases hbad : keyBad regs path txt ds
  · exact ref_key_bad regs path txt A m c ds w hm hbad
  · have hbb : ¬ keyBad regs path txt ds := hbad
    have HBB := Lib.hid hbb
    unfold keyBad at hbad
    rw [hm] at hbad
    have d1 : decide (regs < 0) = false := decide_eq_false (by omega)
    have d2 : decide (255 < regs) = false := decide_eq_false (by omega)
    have d3 : decide ((255 : Int) < (path.size : Int)) = false := decide_eq_false (by omega)
    have d4 : decide ((65535 : Int) < (txt.size : Int)) = false := decide_eq_false (by omega)
    have d5 : decide ((255 : Int) < (m : Int)) = false := decide_eq_false (by omega)
    have hm255 : m ≤ 255 := by omega
    have hps : path.size ≤ 255 := by omega
    have hts : txt.size ≤ 65535 := by omega
    have HM := Lib.hid hm
    clear hbad hbb hm
    obtain ⟨x, rfl⟩ : ∃ x : Nat, regs = (x : Int) := ⟨regs.toNat, by have := of_decide_eq_false d1; omega⟩
    have hx255 : x ≤ 255 := by have := of_decide_eq_false d2; omega
    have hcx : clamp (x : Int) = x := by unfold clamp; omega
    have HCX := Lib.hid hcx
    clear hcx
    have kc := fun (w : World) (C : Array Value) (n c : Nat) => Lib.run_convert_bytes_const (P := Try.prog) w 48 5 C n c Try.underlying48 Try.underlying5
    go_enter Try.func14, Try.ntmps14
    go_wp2_with fail
    have hb0 : Bytes (w.alloc (.cells #[.int .u8 84, .int .u8 77, .int .u8 75, .int .u8 49] 5 (4, 5))) (w.heap.size + 1) (some ⟨w.heap.size, 0, none⟩) 4 magicL := Bytes.const w magicL #[.int .u8 84, .int .u8 77, .int .u8 75, .int .u8 49] 5 (4, 5) rfl
    have hoA : Only [] w (w.alloc (.cells #[.int .u8 84, .int .u8 77, .int .u8 75, .int .u8 49] 5 (4, 5))) := (Only.refl [] w).alloc _
    have hsA : (w.alloc (.cells #[.int .u8 84, .int .u8 77, .int .u8 75, .int .u8 49] 5 (4, 5))).heap.size = w.heap.size + 1 := alloc_size _ _
    refine (ref_small_grow w.heap.size 4 _ x magicL _ (by decide) hb0 (by rw [hsA]; exact Nat.le_refl _) (by decide) (by omega)).mono ?_
    rintro e w1 ⟨v1, rfl, hv1, ho1⟩
    have h1 : BI w w1 v1 6 (magicL ++ le x 2) := BI.of_own (hv1.mono (by rw [hsA]; omega)) (hoA.trans ho1 (by simp))
    clear hb0 hoA hsA hv1 ho1 kc
    go_wp2_with fail
    refine (text_bi h1 path (by unfold maxLen; omega) (by decide)).mono ?_
    rintro e w2 ⟨v2, rfl, h2⟩
    clear h1
    go_wp2_with fail
    refine (text_bi h2 txt (by unfold maxLen; omega) (by decide)).mono ?_
    rintro e w3 ⟨v3, rfl, h3⟩
    clear h2
    go_wp2_with fail
    refine (small_bi h3 (m : Int) (by decide)).mono ?_
    rintro e w4 ⟨v4, rfl, h4⟩
    clear h3
    have hN : (6 + 65537 + 65537 + 2 : Nat) = 131082 := by decide
    rw [hN] at h4
    clear hN
    generalize hL : magicL ++ le x 2 ++ text path ++ text txt ++ le (clamp (m : Int)) 2 = L at *
    have HL := Lib.hid hL
    clear hL d1 d2 d3 d4 d5
    go_wp2_with fail
    go_loopw [10, 11] (fun v i wr => ∃ k : Nat, k ≤ m ∧ i = .int .i64 k ∧ (∀ d ∈ ds.take k, ¬ depLong d) ∧ BI w wr v (131082 + 131074 * k) (L ++ texts (depTs (ds.take k)))) (fun _ i _ => m - (intOf i).toNat)
    case atStart => exact ⟨0, by omega, rfl, by simp, by simpa [depTs, texts] using h4⟩
    case round =>
      obtain ⟨k, hk, rfl, hno, h1⟩ := hrel
      by_cases hlt : k < m
      · obtain ⟨b, off, rfl, hbB, hc⟩ := hr.at_ (ByteArray.empty, ByteArray.empty) hlt
        have c0 : w.cell? ⟨b, off + k * 2, none⟩ = _ := hc 0 (by omega)
        have c1 := hc 1 (by omega)
        have hkz : k < ds.length := by rw [HM.out]; exact hlt
        have HS := Lib.hid (depTs_take ds k hkz)
        have hsl := hsz (ds.getD k (ByteArray.empty, ByteArray.empty)) (by rw [List.getD_eq_getElem?_getD, List.getElem?_eq_getElem hkz]; exact List.getElem_mem hkz)
        have hmem : Hid (ds.getD k (ByteArray.empty, ByteArray.empty) ∈ ds) := by unfold Hid; rw [List.getD_eq_getElem?_getD, List.getElem?_eq_getElem hkz]; exact List.getElem_mem hkz
        have HT := Lib.hid (take_all (fun d => ¬ depLong d) ds (ByteArray.empty, ByteArray.empty) k hkz hno)
        generalize ds.getD k (ByteArray.empty, ByteArray.empty) = d at *
        obtain ⟨dp, de⟩ := d
        simp only [depRow, List.getElem?_cons_zero, List.getElem?_cons_succ] at c0 c1
        clear hc
        have hcc : ∀ w', Only [] w w' → w'.cell? ⟨b, off + k * 2, none⟩ = some (.string dp) ∧ w'.cell? ⟨b, off + k * 2 + 1, none⟩ = some (.string de) := fun w' h => ⟨h.cell c0 (by simp), h.cell c1 (by simp)⟩
        have HCC := Lib.hid hcc
        clear hcc c0 c1
        have hoA := h1.only0
        obtain ⟨c0, c1⟩ := HCC.out wr hoA
        by_cases h5 : 255 < dp.size
        · have d5 : decide ((255 : Int) < (dp.size : Int)) = true := decide_eq_true (by omega)
          have hv : keyV x path txt ds = .tuple #[.string ⟨#[]⟩, .int .i64 1] := by unfold keyV; rw [if_neg HBB.out, if_pos ⟨_, hmem.out, .inl h5⟩]
          have HV := Lib.hid hv
          clear hv h5
          go_wp2_with fail
          rw [HV.out]
          exact bodyPost_ret (v := .tuple #[.string ⟨#[]⟩, .int .i64 1]) (by simp [results, Try.results14, go_sem]) rfl ⟨rfl, hoA⟩
        · have d5 : decide ((255 : Int) < (dp.size : Int)) = false := decide_eq_false (by omega)
          by_cases h6 : 65535 < de.size
          · have d6 : decide ((65535 : Int) < (de.size : Int)) = true := decide_eq_true (by omega)
            have hv : keyV x path txt ds = .tuple #[.string ⟨#[]⟩, .int .i64 1] := by unfold keyV; rw [if_neg HBB.out, if_pos ⟨_, hmem.out, .inr h6⟩]
            have HV := Lib.hid hv
            clear hv h5 h6
            go_wp2_with fail
            rw [HV.out]
            exact bodyPost_ret (v := .tuple #[.string ⟨#[]⟩, .int .i64 1]) (by simp [results, Try.results14, go_sem]) rfl ⟨rfl, hoA⟩
          · have d6 : decide ((65535 : Int) < (de.size : Int)) = false := decide_eq_false (by omega)
            have hnl : Hid (¬ depLong (dp, de)) := fun h => by unfold depLong at h; rcases h with h | h <;> simp only at h <;> omega
            have hsl1 := hsl.1
            have hsl2 := hsl.2
            have hp1 := text_bi h1.drew dp hsl1 (by omega)
            have HP1 := Lib.hid hp1
            clear hp1 h5 h6
            go_wp2_with fail
            go_region_held3 (fun w' => w'.cell? ⟨b, off + k * 2, none⟩ = some (.string dp) ∧ w'.cell? ⟨b, off + k * 2 + 1, none⟩ = some (.string de)) (first | go_keep | (refine ⟨?_, ?_⟩ <;> assumption)) ((first
              | (go_at_call 28; refine (text_bi h7 de hsl2 (by omega)).mono ?_; rintro x w8 ⟨v8, rfl, h8⟩; obtain ⟨e2, e3⟩ := HCC.out w8 h8.only0)
              | (go_at_call 28; refine Calls.mono HP1.out ?_; rintro x w7 ⟨v7, rfl, h7⟩; obtain ⟨e0, e1⟩ := HCC.out w7 h7.only0)))
            all_goals
              go_wp2_with fail
              go_roundw
              case rel =>
                refine ⟨k + 1, by omega, by go_num, HT.out hnl.out, ?_⟩
                have h9 := h8.mono (N' := 131082 + 131074 * (k + 1)) (by omega)
                rw [HS.out]
                simpa [texts, List.append_assoc] using h9
              case measure => simp [intOf]; omega
      · obtain rfl : k = m := by omega
        rw [List.take_of_length_le (by rw [HM.out]; exact Nat.le_refl _)] at h1 hno
        have hk : L ++ texts (depTs ds) = magicL ++ keyB x path txt ds := by
          rw [← HL.out, ← HM.out]
          unfold keyB
          simp [smalls, texts, HCX.out]
        rw [hk] at h1
        have hv : keyV x path txt ds = if 65536 < 4 + (keyB x path txt ds).length then .tuple #[.string ⟨#[]⟩, .int .i64 6] else .tuple #[.string (magicB ++ str (keyB x path txt ds)), .int .i64 0] := by
          unfold keyV; rw [if_neg HBB.out, if_neg (by rintro ⟨d, hd, hl⟩; exact hno d hd hl)]
        rw [← magic_str] at hv
        have hl4 : (magicL ++ keyB x path txt ds).length = 4 + (keyB x path txt ds).length := by rw [List.length_append]; rfl
        rw [← hl4] at hv
        have hoA := h1.only0
        obtain ⟨A1, cap1, rfl, _, _, hr1⟩ := h1.shape
        clear hk hno HL h4 HCX hl4 h1
        generalize magicL ++ keyB x path txt ds = K at *
        by_cases hlong : 65536 < K.length
        · rw [if_pos hlong] at hv
          have HV := Lib.hid hv
          have hf : decide ((65536 : Int) < (K.length : Int)) = true := decide_eq_true (by omega)
          clear hlong hv
          go_wp2_with fail
          rw [HV.out]
          exact bodyPost_ret (v := .tuple #[.string ⟨#[]⟩, .int .i64 6]) (by simp [results, Try.results14, go_sem]) rfl ⟨rfl, hoA⟩
        · rw [if_neg hlong] at hv
          have HV := Lib.hid hv
          have hf : decide ((65536 : Int) < (K.length : Int)) = false := decide_eq_false (by omega)
          have hs1 := run_str hr1 cap1
          clear hlong hv
          go_wp2_with fail
          rw [HV.out]
          exact bodyPost_ret (v := .tuple #[.string (str K), .int .i64 0]) (by simp [results, Try.results14, go_sem]) rfl ⟨rfl, hoA⟩
end Go.Proofs.Ytfkakhlgcjjlcaa.Keys
