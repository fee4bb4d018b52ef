/- Sources, and the map that keeps them by paths; sorted keys. -/
import Derived.Test.YtphpgbnpmplkhaaVRange
import Derived.Test.YtphpgbnpmplkhaaIter
import Derived.Test.YtphpgbnpmplkhaaRow
import Derived.Lib.Hide
namespace Go.Proofs.Ytphpgbnpmplkhaa.Edits
open Go.RowKit Go.Maps
set_option linter.unusedVariables false
set_option maxRecDepth 100000
structure Src where
  path : ByteArray
  text : ByteArray
deriving DecidableEq
def Src.row (s : Src) : List Value := [.string s.path, .string s.text]
def src0 : Src := ⟨⟨#[]⟩, ⟨#[]⟩⟩
/-- texts that are short enough -/
def Short (l : List Src) : Prop := ∀ s ∈ l, s.path.size ≤ 1000000 ∧ s.text.size ≤ 1000000
def pk (s : ByteArray) : Lit := .string s.data.toList
/-- what sources hold, by paths -/
noncomputable def kf (l : List Src) : Lit → Option Value := l.foldl (fun f s => upd f (pk s.path) (some (.string s.text))) (fun _ => none)
theorem kf_snoc (l : List Src) (s : Src) : kf (l ++ [s]) = upd (kf l) (pk s.path) (some (.string s.text)) := by unfold kf; rw [List.foldl_append]; rfl
theorem upd_text {f : Lit → Option Value} {k0 : Lit} {t : ByteArray} (h : ∀ k v, f k = some v → ∃ c, v = Value.string c) : ∀ k v, upd f k0 (some (.string t)) k = some v → ∃ c, v = Value.string c := by
  intro k v hv
  by_cases hk : k = k0
  · subst hk
    rw [upd_same] at hv
    injection hv with hv
    exact ⟨t, hv.symm⟩
  · rw [upd_other _ _ hk] at hv
    exact h k v hv
theorem fold_text : ∀ (l : List Src) (f : Lit → Option Value), (∀ k v, f k = some v → ∃ c, v = Value.string c) → ∀ k v, (l.foldl (fun f s => upd f (pk s.path) (some (.string s.text))) f) k = some v → ∃ c, v = Value.string c
  | [], f, h => h
  | s :: l, f, h => fold_text l _ (upd_text h)
theorem kf_text (l : List Src) : ∀ k v, kf l k = some v → ∃ c, v = Value.string c := fold_text l _ (fun _ _ h => by cases h)
theorem lawS : Keyed Try.prog 9 := string_keyed Try.underlying9
theorem zeroS (w : World) : (zeroValue 9).run Try.prog w = .ok (.string ⟨#[]⟩) w := by kernel_rfl
theorem zeroB (w : World) : (zeroValue 4).run Try.prog w = .ok (.bool false) w := by kernel_rfl
theorem keyS {s : ByteArray} (h : s.size ≤ maxLen) : keyOf Try.prog 9 (.string s) = some (pk s) := Go.WideMaps.keyOf_string_mk Try.underlying9 h
theorem src_at {w : World} {B m : Nat} {A : Option Addr} {l : List Src} (hr : Recs w B 2 A m (l.map Src.row)) (k : Nat) (hk : k < m) : ∃ b off, A = some ⟨b, off, none⟩ ∧ b < B ∧ ∃ c ∈ l, l[k]? = some c ∧
    w.cell? ⟨b, off + k * 2, none⟩ = some (.string c.path) ∧ w.cell? ⟨b, off + k * 2 + 1, none⟩ = some (.string c.text) := by
  have hl : l.length = m := by simpa using hr.1
  obtain ⟨b, off, e, hb, hc⟩ := hr.at_ src0 hk
  have hg : l.getD k src0 = l[k] := by rw [List.getD_eq_getElem?_getD, List.getElem?_eq_getElem (by omega)]; rfl
  refine ⟨b, off, e, hb, l[k], List.getElem_mem (by omega), List.getElem?_eq_getElem (by omega), ?_⟩
  rw [hg] at hc
  exact ⟨hc 0 (by omega), hc 1 (by omega)⟩
theorem take_snoc {α : Type} {l : List α} {k : Nat} {x : α} (h : l[k]? = some x) : l.take (k + 1) = l.take k ++ [x] := by
  obtain ⟨hk, rfl⟩ := List.getElem?_eq_some_iff.1 h
  exact List.take_succ_eq_append_getElem hk
set_option maxHeartbeats 1000000 in
theorem kept_any (A : Option Addr) (m c : Nat) (l : List Src) (w : World) (hr : Recs w w.heap.size 2 A m (l.map Src.row)) (hs : Short l) (hm : m ≤ 1000000) :
    Calls Try.prog 11 #[.slice A m c] w fun x w' => ∃ b, x = .returned (.map (some b)) ∧ w.heap.size ≤ b ∧ VM Try.prog 9 w' b m (kf l) ∧ Only [] w w' := by
  have hl : l.length = m := by simpa using hr.1
  have HL := Lib.hid hl
  have HR := Lib.hid hr
  have HS := Lib.hid hs
  have hmm := @run_makeMap Try.prog
  have hv0 := VM.made w Try.prog 9
  have ho0 : Only [] w (w.alloc (.map #[] 0)) := (Only.refl [] w).alloc _
  have HV0 := Lib.hid hv0
  have HO0 := Lib.hid ho0
  clear hl hr hs hv0 ho0
  go_enter Try.func11, Try.ntmps11
  go_wp2_with fail
  obtain ⟨B, hB⟩ : ∃ B, w.heap.size = B := ⟨_, rfl⟩
  have HB := Lib.hid hB
  rw [hB] at HV0 ⊢
  clear hB
  go_loopw [9] (fun i wr => ∃ k : Nat, k ≤ m ∧ i = .int .i64 k ∧ VM Try.prog 9 wr B k (kf (l.take k)) ∧ Only [] w wr) (fun i _ => m - (intOf i).toNat)
  case atStart => exact ⟨0, by omega, rfl, HV0.out, HO0.out⟩
  case round =>
    obtain ⟨k, hk, rfl, hv, ho⟩ := hrel
    have HO := Lib.hid ho
    by_cases hlt : k < m
    · have e1 : decide ((k : Int) < (m : Int)) = true := decide_eq_true (by omega)
      obtain ⟨b, off, hA, hb, s, hmem, hsk, c0, c1⟩ := src_at HR.out k hlt
      subst hA
      have y0 := ho.cell c0 (by simp)
      have y1 := ho.cell c1 (by simp)
      have hsz := HS.out s hmem
      have HSN := Lib.hid (kf_snoc (l.take k) s)
      have HTS := Lib.hid (take_snoc hsk)
      have hkey := keyS (s := s.path) (by unfold maxLen; omega)
      have HKEY := Lib.hid hkey
      have hva := hv.alloc (.cells #[.string s.path, .string s.text] 30)
      have HVA := Lib.hid hva
      clear c0 c1 hmem hsk hkey hv ho hva
      go_wp2_with (at_mapUpdate; refine wpList_put rfl (.tmp 13) (.tmp 15) (.tmp 17) 37 rfl 9 9 lawS Try.underlying37 rfl HVA.out (by unfold maxLen; omega) rfl rfl HKEY.out ?_; intro w2 hv2 ho2)
      have hsB : B ∉ ([] : List Nat) := by simp
      go_roundw
      case rel =>
        refine ⟨k + 1, by omega, by go_num, ?_, ?_⟩
        · rw [HTS.out, HSN.out]; exact hv2
        · exact ((HO.out.alloc _).trans ho2 (by intro g hg; rw [List.mem_singleton.1 hg]; exact .inr (by have := HB.out; omega)))
      case measure => simp [intOf]; omega
    · obtain rfl : m = k := by omega
      have e1 : decide ((m : Int) < (m : Int)) = false := decide_eq_false (by omega)
      rw [List.take_of_length_le (by rw [HL.out]; exact Nat.le_refl _)] at hv
      have HV := Lib.hid hv
      clear hv ho
      go_wp2_with fail
      go_ret
      exact ⟨B, rfl, by have := HB.out; omega, HV.out, HO.out⟩
end Go.Proofs.Ytphpgbnpmplkhaa.Edits
