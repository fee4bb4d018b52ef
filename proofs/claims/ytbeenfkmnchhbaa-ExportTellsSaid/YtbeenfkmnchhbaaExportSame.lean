/- Two lists that are the same; the law's num and light. -/
import Derived.Test.YtbeenfkmnchhbaaExportDecode
import Derived.Deep.RegionHeld
import Derived.Deep.RegionHeld3
namespace Go.Proofs.Ytbeenfkmnchhbaa.Export
open Go.RowKit Codec
set_option linter.unusedVariables false
set_option maxRecDepth 100000
theorem types_any (A1 A2 : Option Addr) (n c1 c2 B1 B2 : Nat) (l : List UInt8) (w : World) (h1 : Bytes w B1 A1 n l) (h2 : Bytes w B2 A2 n l) (hn : n ≤ 1000000) :
    Calls Try.prog 74 #[.slice A1 n c1, .slice A2 n c2] w fun x w' => x = .returned (.bool true) ∧ Only [] w w' := by
  have H1 := Lib.hid h1
  have H2 := Lib.hid h2
  clear h1 h2
  go_enter Try.func74, Try.ntmps74
  go_wp2_with fail
  go_loopw [5] (fun i wr => ∃ k : Nat, k ≤ n ∧ i = .int .i64 k ∧ Only [] w wr) (fun i _ => n - (intOf i).toNat)
  case atStart => exact ⟨0, by omega, rfl, Only.refl _ _⟩
  case round =>
    obtain ⟨k, hk, rfl, ho⟩ := hrel
    by_cases hlt : k < n
    · have e1 : decide ((k : Int) < (n : Int)) = true := decide_eq_true (by omega)
      obtain ⟨b1, o1, rfl, _, c1'⟩ := (H1.out.only ho.drew (by simp)).at_ hlt
      obtain ⟨b2, o2, rfl, _, c2'⟩ := (H2.out.only ho.drew (by simp)).at_ hlt
      have HO := Lib.hid ho.drew
      clear ho
      generalize ((l.getD k 0).toNat : Int) = z at *
      go_wp2_with fail
      go_region
      all_goals (go_wp2_with fail; go_roundw)
      all_goals first
        | exact ⟨k + 1, by omega, by go_num, HO.out⟩
        | (simp [intOf]; omega)
    · obtain rfl : k = n := by omega
      have e1 : decide ((k : Int) < (k : Int)) = false := decide_eq_false (by omega)
      go_wp2_with fail
      go_ret
      exact ⟨rfl, ho⟩
set_option maxHeartbeats 2000000 in
theorem same_any (A1 A2 : Option Addr) (n c1 c2 : Nat) (ss ts : List Sg) (w : World) (h1 : Sgs w A1 n ss) (h2 : Sgs w A2 n ts) (hd : ss.map Sg.data = ts.map Sg.data) (hn : n ≤ 1000000) (hs4 : ∀ s ∈ ss, s.n ≤ 1000000) :
    Calls Try.prog 31 #[.slice A1 n c1, .slice A2 n c2] w fun x w' => x = .returned (.bool true) ∧ Only [] w w' := by
  have H1 := Lib.hid h1
  have H2 := Lib.hid h2
  have HD := Lib.hid hd
  have H4 := Lib.hid hs4
  clear h1 h2 hd hs4
  go_enter Try.func31, Try.ntmps31
  go_wp2_with fail
  go_loopw [5] (fun i wr => ∃ k : Nat, k ≤ n ∧ i = .int .i64 k ∧ Only [] w wr) (fun i _ => n - (intOf i).toNat)
  case atStart => exact ⟨0, by omega, rfl, Only.refl _ _⟩
  case round =>
    obtain ⟨k, hk, rfl, ho⟩ := hrel
    by_cases hlt : k < n
    · have e1 : decide ((k : Int) < (n : Int)) = true := decide_eq_true (by omega)
      obtain ⟨b1, o1, rfl, _, s, hms, hsk, x0, x1, x2⟩ := recs_at H1.out.recs k hlt
      obtain ⟨b2, o2, rfl, _, t, hmt, htk, y0, y1, y2⟩ := recs_at H2.out.recs k hlt
      have hst : s.data = t.data := by
        have h3 := congrArg (fun x => x[k]?) HD.out
        simp only [List.getElem?_map, hsk, htk, Option.map_some] at h3
        exact Option.some.inj h3
      have hnm : s.name = t.name := congrArg (·.1) hst
      have hps : s.ps = t.ps := by
        have : s.ps.map (·.toNat) = t.ps.map (·.toNat) := congrArg (·.2.1) hst
        exact List.map_inj_right (fun a b h => UInt8.toNat_inj.1 h) |>.1 this
      have hrs : s.res = t.res := UInt8.toNat_inj.1 (congrArg (·.2.2) hst)
      have hb1 := (H1.out.each s hms).1
      have hb2 := (H2.out.each t hmt).1
      have hnn : s.n = t.n := by rw [← hb1.len, ← hb2.len, hps]
      have hsn := H4.out s hms
      obtain ⟨nm, sA, sn, sc, sps, srs⟩ := s
      obtain ⟨nm2, tA, tn, tc, tps, trs⟩ := t
      simp only at hnm hps hrs hnn x0 x1 x2 y0 y1 y2 hb1 hb2 hsn
      subst hnm hps hrs hnn
      have hT := fun w' (h : Only [] w w') => types_any sA tA sn sc tc _ _ sps w' (hb1.only h (by simp)) (hb2.only h (by simp)) hsn
      have hc : ∀ w', Only [] w w' → w'.cell? ⟨b1, o1 + k * 3, none⟩ = some (.string nm) ∧ w'.cell? ⟨b1, o1 + k * 3 + 1, none⟩ = some (.slice sA sn sc) ∧ w'.cell? ⟨b1, o1 + k * 3 + 2, none⟩ = some (.int .u8 (srs.toNat : Int)) ∧
          w'.cell? ⟨b2, o2 + k * 3, none⟩ = some (.string nm) ∧ w'.cell? ⟨b2, o2 + k * 3 + 1, none⟩ = some (.slice tA sn tc) ∧ w'.cell? ⟨b2, o2 + k * 3 + 2, none⟩ = some (.int .u8 (srs.toNat : Int)) := fun w' h =>
        ⟨h.cell x0 (by simp), h.cell x1 (by simp), h.cell x2 (by simp), h.cell y0 (by simp), h.cell y1 (by simp), h.cell y2 (by simp)⟩
      have HT := Lib.hid hT
      have HC := Lib.hid hc
      have HO := Lib.hid ho.drew
      clear hT hc hb1 hb2 hst hsk htk hms hmt ho x0 x1 x2 y0 y1 y2
      generalize (srs.toNat : Int) = z at *
      obtain ⟨x0, x1, x2, y0, y1, y2⟩ := HC.out _ HO.out
      go_wp2_with fail
      go_region_held (fun w' => w'.cell? ⟨b1, o1 + k * 3, none⟩ = some (.string nm) ∧ w'.cell? ⟨b1, o1 + k * 3 + 1, none⟩ = some (.slice sA sn sc) ∧ w'.cell? ⟨b1, o1 + k * 3 + 2, none⟩ = some (.int .u8 z) ∧ w'.cell? ⟨b2, o2 + k * 3, none⟩ = some (.string nm) ∧ w'.cell? ⟨b2, o2 + k * 3 + 1, none⟩ = some (.slice tA sn tc) ∧ w'.cell? ⟨b2, o2 + k * 3 + 2, none⟩ = some (.int .u8 z)) (first | go_keep | (refine ⟨?_, ?_, ?_, ?_, ?_, ?_⟩ <;> assumption)) ((first
        | (go_at_call 74; refine (HT.out _ HO.out).mono ?_; rintro x w2 ⟨rfl, ho2⟩; have HO2 := Lib.hid (HO.out.trans ho2 (by simp)); obtain ⟨p0, p1, p2, q0, q1, q2⟩ := HC.out _ HO2.out)))
      all_goals (go_wp2_with fail; go_roundw)
      all_goals first
        | exact ⟨k + 1, by omega, by go_num, HO2.out⟩
        | (simp [intOf]; omega)
    · obtain rfl : k = n := by omega
      have e1 : decide ((k : Int) < (k : Int)) = false := decide_eq_false (by omega)
      go_wp2_with fail
      go_ret
      exact ⟨rfl, ho⟩
theorem num_is (z : Int) (w : World) : Calls Try.prog 30 #[.int .i64 z] w fun x w' => x = .returned (.int .i64 z) ∧ w = w' := by
  go_enter Try.func30, Try.ntmps30
  go_wp2_with fail
  go_ret
  exact ⟨rfl, rfl⟩
theorem light_any (A : Option Addr) (m c : Nat) (ss : List Sg) (w : World) (hs : Sgs w A m ss) :
    Calls Try.prog 24 #[.slice A m c] w fun x w' => ∃ b, x = .returned (.bool b) ∧ w = w' ∧ (b = true → m ≤ 60 ∧ ∀ s ∈ ss, s.n ≤ 50 ∧ s.name.size ≤ 300) := by
  have HS := Lib.hid hs
  clear hs
  go_enter Try.func24, Try.ntmps24
  go_wp2_with fail
  go_loopw [3] (fun i wr => ∃ k : Nat, k ≤ m ∧ k ≤ 100 ∧ i = .int .i64 k ∧ wr = w ∧ ∀ s ∈ ss.take k, s.n ≤ 50 ∧ s.name.size ≤ 300) (fun i _ => m - (intOf i).toNat)
  case atStart => exact ⟨0, by omega, by omega, rfl, rfl, by simp⟩
  case round =>
    obtain ⟨k, hk, hk100, rfl, rfl, hall⟩ := hrel
    have HALL := Lib.hid hall
    clear hall
    by_cases hlt : k < m
    · have e1 : decide ((k : Int) < (m : Int)) = true := decide_eq_true (by omega)
      by_cases h100 : k < 100
      · have e2 : decide ((k : Int) < 100) = true := decide_eq_true (by omega)
        obtain ⟨b, off, rfl, hb, s, hmem, hsk, c0, c1, c2⟩ := recs_at HS.out.recs k hlt
        have hnext : s.n ≤ 50 → s.name.size ≤ 300 → ∀ t ∈ ss.take (k + 1), t.n ≤ 50 ∧ t.name.size ≤ 300 := fun h1 h2 t ht => by
          obtain ⟨hkl, he⟩ := List.getElem?_eq_some_iff.1 hsk
          rw [List.take_succ_eq_append_getElem hkl, he] at ht
          rcases List.mem_append.1 ht with ht | ht
          · exact HALL.out t ht
          · rw [List.mem_singleton.1 ht]; exact ⟨h1, h2⟩
        have HN := Lib.hid hnext
        clear hnext hsk hmem c2
        obtain ⟨nm, sA, sn, sc, sps, srs⟩ := s
        simp only at c0 c1 HN
        by_cases h3 : 300 < nm.size
        · have e3 : decide ((300 : Int) < (nm.size : Int)) = true := decide_eq_true (by omega)
          go_wp2_with fail
          go_ret
          exact ⟨false, rfl, rfl, fun h => by cases h⟩
        · have e3 : decide ((300 : Int) < (nm.size : Int)) = false := decide_eq_false (by omega)
          by_cases h5 : 50 < sn
          · have e5 : decide ((50 : Int) < (sn : Int)) = true := decide_eq_true (by omega)
            go_wp2_with fail
            go_ret
            exact ⟨false, rfl, rfl, fun h => by cases h⟩
          · have e5 : decide ((50 : Int) < (sn : Int)) = false := decide_eq_false (by omega)
            go_wp2_with fail
            go_roundw
            case rel => exact ⟨k + 1, by omega, by omega, by go_num, trivial, HN.out (by omega) (by omega)⟩
            case measure => simp [intOf]; omega
      · have e2 : decide ((k : Int) < 100) = false := decide_eq_false (by omega)
        have e6 : decide ((m : Int) ≤ 60) = false := decide_eq_false (by omega)
        go_wp2_with fail
        go_ret
        exact ⟨false, rfl, rfl, fun h => by cases h⟩
    · obtain rfl : k = m := by omega
      have e1 : decide ((k : Int) < (k : Int)) = false := decide_eq_false (by omega)
      by_cases h60 : k ≤ 60
      · have e6 : decide ((k : Int) ≤ 60) = true := decide_eq_true (by omega)
        go_wp2_with fail
        go_ret
        refine ⟨true, rfl, rfl, fun _ => ⟨h60, fun s hs => HALL.out s ?_⟩⟩
        rw [List.take_of_length_le (by rw [HS.out.len]; exact Nat.le_refl _)]
        exact hs
      · have e6 : decide ((k : Int) ≤ 60) = false := decide_eq_false (by omega)
        go_wp2_with fail
        go_ret
        exact ⟨false, rfl, rfl, fun h => by cases h⟩
end Go.Proofs.Ytbeenfkmnchhbaa.Export
