/- The law's own functions: whether parts are light; the key of parts; whether parts are the same. -/
import Derived.Test.YtfkakhlgcjjlcaaKeysLawSplit
import Derived.Deep.RegionHeld3
namespace Go.Proofs.Ytfkakhlgcjjlcaa.Keys
open Go.RowKit Codec
set_option linter.unusedVariables false
set_option maxRecDepth 100000

def lightOut (n : Nat) (w : World) (x : Ending) (w' : World) : Prop := ∃ b, x = .returned (.bool b) ∧ (b = true → n ≤ 20) ∧ Only [] w w'
set_option maxHeartbeats 1000000 in
theorem light_any (r : Int) (path txt : ByteArray) (A : Option Addr) (m c : Nat) (ds : List DepT) (w : World) (hm : ds.length = m) (hr : Recs w w.heap.size 2 A m (ds.map depRow)) :
    Calls Try.prog 12 #[.agg #[.int .i64 r, .string path, .string txt, .slice A m c]] w fun x w' => lightOut ds.length w x w' := by
  have hb := Blk.new w 38 #[.int .i64 r, .string path, .string txt, .slice A m c]
  have hO : Only [] w (w.alloc (.cells #[.int .i64 r, .string path, .string txt, .slice A m c] 38)) := (Only.refl [] w).alloc _
  have hr1 := hr.only hO (by simp)
  go_enter Try.func12, Try.ntmps12
  go_wp2_with fail
  generalize w.alloc (.cells #[.int .i64 r, .string path, .string txt, .slice A m c] 38) = w1 at *
  have b1 : w1.cell? ⟨w.heap.size, 1, none⟩ = some (.string path) := hb.cell 1
  have b2 : w1.cell? ⟨w.heap.size, 2, none⟩ = some (.string txt) := hb.cell 2
  have b3 : w1.cell? ⟨w.heap.size, 3, none⟩ = some (.slice A m c) := hb.cell 3
  have HM := Lib.hid hm
  clear hb hr hm
  go_loop [3] (fun i => ∃ k : Nat, k ≤ m ∧ k ≤ 30 ∧ i = .int .i64 k) (fun i => m - (intOf i).toNat)
  case atStart => exact ⟨0, by omega, by omega, rfl⟩
  case round =>
    obtain ⟨k, hk, hk30, rfl⟩ := hrel
    by_cases hlt : k < m
    · have dk : decide ((k : Int) < (m : Int)) = true := decide_eq_true (by omega)
      by_cases h30 : k < 30
      · have d30 : decide ((k : Int) < 30) = true := decide_eq_true (by omega)
        obtain ⟨b, off, rfl, hbB, hc⟩ := hr1.at_ (ByteArray.empty, ByteArray.empty) hlt
        have c0 : w1.cell? ⟨b, off + k * 2, none⟩ = _ := hc 0 (by omega)
        have c1 := hc 1 (by omega)
        generalize ds.getD k (ByteArray.empty, ByteArray.empty) = d at *
        obtain ⟨dp, de⟩ := d
        simp only [depRow, List.getElem?_cons_zero, List.getElem?_cons_succ] at c0 c1
        clear hc hr1
        by_cases h1 : 500 < dp.size
        · have d1 : decide ((500 : Int) < (dp.size : Int)) = true := decide_eq_true (by omega)
          go_wp2_with fail
          go_ret
          exact ⟨false, rfl, by simp, hO⟩
        · have d1 : decide ((500 : Int) < (dp.size : Int)) = false := decide_eq_false (by omega)
          by_cases h2 : 2000 < de.size
          · have d2 : decide ((2000 : Int) < (de.size : Int)) = true := decide_eq_true (by omega)
            go_wp2_with fail
            go_ret
            exact ⟨false, rfl, by simp, hO⟩
          · have d2 : decide ((2000 : Int) < (de.size : Int)) = false := decide_eq_false (by omega)
            go_wp2_with fail
            go_round
            case rel => exact ⟨k + 1, by omega, by omega, by go_num⟩
            case measure => simp [intOf]; omega
      · have d30 : decide ((k : Int) < 30) = false := decide_eq_false (by omega)
        have dm : decide ((m : Int) ≤ 20) = false := decide_eq_false (by omega)
        go_wp2_with fail
        all_goals
          go_ret
          refine ⟨_, rfl, ?_, hO⟩
          intro h
          first | (cases h; done) | (rw [HM.out]; simp at h; omega)
    · obtain rfl : k = m := by omega
      go_wp2_with fail
      all_goals
        go_ret
        refine ⟨_, rfl, ?_, hO⟩
        intro h
        first | (cases h; done) | (rw [HM.out]; simp at h; omega)

/-- deps: the document's list as the program's -/
theorem deps_any (A : Option Addr) (m c : Nat) (ds : List DepT) (w : World) (hm : ds.length = m) (hr : Recs w w.heap.size 2 A m (ds.map depRow)) (h20 : m ≤ 255) :
    Calls Try.prog 27 #[.slice A m c] w fun x w' => ∃ v, x = .returned v ∧ OwnR 69 2 w' w.heap.size v m (ds.map depRow) ∧ Only [] w w' := by
  have HM := Lib.hid hm
  clear hm
  go_enter Try.func27, Try.ntmps27
  go_wp2_with fail
  go_loopw [3, 4] (fun v i wr => ∃ k : Nat, k ≤ m ∧ i = .int .i64 k ∧ OwnR 69 2 wr w.heap.size v k ((ds.take k).map depRow) ∧ Only [] w wr) (fun _ i _ => m - (intOf i).toNat)
  case atStart => exact ⟨0, by omega, rfl, OwnR.nil_ _ _ _ _, Only.refl _ _⟩
  case round =>
    obtain ⟨k, hk, rfl, hU, hO⟩ := hrel
    have hru := hr.only hO (by simp)
    by_cases hlt : k < m
    · obtain ⟨b, off, rfl, hbB, hc⟩ := hru.at_ (ByteArray.empty, ByteArray.empty) hlt
      have c0 : wr.cell? ⟨b, off + k * 2, none⟩ = _ := hc 0 (by omega)
      have c1 := hc 1 (by omega)
      have hdt : ds.take (k + 1) = ds.take k ++ [ds.getD k (ByteArray.empty, ByteArray.empty)] := by
        have hlt' : k < ds.length := by rw [HM.out]; exact hlt
        rw [List.take_succ_eq_append_getElem hlt', List.getD_eq_getElem?_getD, List.getElem?_eq_getElem hlt']; rfl
      have HDT := Lib.hid hdt
      clear hdt hc
      generalize ds.getD k (ByteArray.empty, ByteArray.empty) = d at *
      obtain ⟨dp, de⟩ := d
      simp only [depRow, List.getElem?_cons_zero, List.getElem?_cons_succ] at c0 c1
      have hws := hO.size
      go_wp2_with (at_builtin; refine wpList_append1 (w := wr) rfl (.tmp 11) (.tmp 16) 63 rfl Try.underlying63 dep_info rfl (by decide) rfl hU rfl rfl (row := depRow (dp, de)) rfl rfl (dep_one _) (by omega) (by unfold maxLen; omega) (by omega) ?_; intro v' w' hE)
      go_roundw
      case rel =>
        refine ⟨k + 1, by omega, by go_num, ?_, ?_⟩
        · rw [HDT.out, List.map_append]; exact hE.own
        · exact hO.trans hE.only (fun g hg => .inr (hU.lt g hg).1)
      case measure => simp [intOf]; omega
    · obtain rfl : k = m := by omega
      rw [List.take_of_length_le (by rw [HM.out]; exact Nat.le_refl _)] at hU
      go_wp2_with fail
      go_ret
      exact ⟨_, rfl, hU, hO⟩
/-- key: of what it is made of -/
theorem lkey_any (r : Int) (path txt : ByteArray) (A : Option Addr) (m c : Nat) (ds : List DepT) (w : World) (hm : ds.length = m) (hr : Recs w w.heap.size 2 A m (ds.map depRow)) (h20 : m ≤ 255)
    (hsz : ∀ d ∈ ds, d.1.size ≤ maxLen ∧ d.2.size ≤ maxLen) :
    Calls Try.prog 13 #[.agg #[.int .i64 r, .string path, .string txt, .slice A m c]] w fun x w' => x = .returned (keyV r path txt ds) ∧ Only [] w w' := by
  have hb := Blk.new w 38 #[.int .i64 r, .string path, .string txt, .slice A m c]
  have hO : Only [] w (w.alloc (.cells #[.int .i64 r, .string path, .string txt, .slice A m c] 38)) := (Only.refl [] w).alloc _
  have hr1 := (hr.only hO (by simp)).more hO.size
  have hkv : ∃ s e, keyV r path txt ds = .tuple #[.string s, .int .i64 e] := by
    unfold keyV
    split
    · exact ⟨_, _, rfl⟩
    · split
      · exact ⟨_, _, rfl⟩
      · split <;> exact ⟨_, _, rfl⟩
  have hK := fun A' c' B w' hr' hB => key_any r path txt A' m c' B ds w' hm hr' hB hsz
  obtain ⟨s, e, hse⟩ := hkv
  rw [hse] at hK ⊢
  clear hse
  go_enter Try.func13, Try.ntmps13
  go_wp2_with fail
  generalize w.alloc (.cells #[.int .i64 r, .string path, .string txt, .slice A m c] 38) = w1 at *
  have b0 : w1.cell? ⟨w.heap.size, 0, none⟩ = some (.int .i64 r) := hb.cell 0
  have b1 : w1.cell? ⟨w.heap.size, 1, none⟩ = some (.string path) := hb.cell 1
  have b2 : w1.cell? ⟨w.heap.size, 2, none⟩ = some (.string txt) := hb.cell 2
  have b3 : w1.cell? ⟨w.heap.size, 3, none⟩ = some (.slice A m c) := hb.cell 3
  have hd := deps_any A m c ds w1.drew hm hr1 h20
  have hc : ∀ w2, Only [] w1.drew w2 → Only [] w w2 ∧ w2.cell? ⟨w.heap.size, 0, none⟩ = some (.int .i64 r) ∧ w2.cell? ⟨w.heap.size, 1, none⟩ = some (.string path) ∧ w2.cell? ⟨w.heap.size, 2, none⟩ = some (.string txt) ∧ w2.cell? ⟨w.heap.size, 3, none⟩ = some (.slice A m c) :=
    fun w2 h2 => ⟨(hO.drew).trans h2 (by simp), h2.cell b0 (by simp), h2.cell b1 (by simp), h2.cell b2 (by simp), h2.cell b3 (by simp)⟩
  have HD := Lib.hid hd
  have HC := Lib.hid hc
  have HK := Lib.hid hK
  clear hd hc hK hr hr1 hb hm hsz
  go_region_held3 (fun w' => w'.cell? ⟨w.heap.size, 0, none⟩ = some (.int .i64 r) ∧ w'.cell? ⟨w.heap.size, 1, none⟩ = some (.string path) ∧ w'.cell? ⟨w.heap.size, 2, none⟩ = some (.string txt) ∧ w'.cell? ⟨w.heap.size, 3, none⟩ = some (.slice A m c)) (first | go_keep | (refine ⟨?_, ?_, ?_, ?_⟩ <;> assumption)) ((first
    | (go_at_call 27; refine Calls.mono HD.out ?_; rintro x w2 ⟨v, rfl, hV, hO2⟩; obtain ⟨HO2, d0, d1, d2, d3⟩ := HC.out w2 hO2; obtain ⟨A2, cap2, rfl, _, _, hR2, _⟩ := hV.shape (by decide))
    | (go_at_call 18; refine Calls.mono (HK.out A2 cap2 w2.heap.size w2 hR2 (Nat.le_refl _)) ?_; rintro x w3 ⟨rfl, hO3⟩; obtain ⟨HO3, e0, e1, e2, e3⟩ := HC.out w3 (hO2.trans hO3 (by simp)))))
  all_goals
    go_wp2_with fail
    exact bodyPost_ret (v := .tuple #[.string s, .int .i64 e]) (by simp [results, Try.results13, go_sem]) rfl ⟨rfl, HO3⟩
end Go.Proofs.Ytfkakhlgcjjlcaa.Keys
