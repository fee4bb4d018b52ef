/- The walks of keys: a key, by the program. -/
import Derived.Test.YtfkakhlgcjjlcaaWriter
import Derived.Test.YtfkakhlgcjjlcaaRecs
import Derived.Test.YtfkakhlgcjjlcaaKeysUnits
namespace Go.Proofs.Ytfkakhlgcjjlcaa.Keys
open Go.RowKit Codec
set_option linter.unusedVariables false
set_option maxRecDepth 100000

theorem long_any (most : Int) (s : ByteArray) (w : World) (C : Array Value) (e : TypeId) (fr : Nat × Nat) (g c : Nat) (hg : w.heap.size = g) (hC : C = #[.string s]) :
    Calls Try.prog 33 #[.int .i64 most, .slice (some ⟨g, 0, none⟩) 1 c] (w.alloc (.cells C e fr)) fun x w' => x = .returned (.bool (decide (most < (s.size : Int)))) ∧ w.alloc (.cells C e fr) = w' := by
  subst hg; subst hC
  have hr := Reads.const w ([s].map Value.string) #[.string s] e fr rfl
  generalize hW : w.alloc (.cells #[.string s] e fr) = W at *
  obtain ⟨b, off, hA, _, hc⟩ := hr.at1 (k := 0) (by simp)
  have hc' : W.cell? ⟨w.heap.size, 0, none⟩ = some (.string s) := by
    injection hA with hA
    injection hA with h1 h2
    subst h1; subst h2
    exact hc
  clear hr hA hc hW
  go_enter Try.func33, Try.ntmps33
  go_wp2_with fail
  go_loop [9] (fun i => ∃ k : Nat, (k = 0 ∨ k = 1 ∧ ¬ (most < (s.size : Int))) ∧ i = .int .i64 k) (fun i => 1 - (intOf i).toNat)
  case atStart => exact ⟨0, .inl rfl, rfl⟩
  case round =>
    obtain ⟨k, hk, rfl⟩ := hrel
    rcases hk with rfl | ⟨rfl, hm⟩
    · by_cases hm : most < (s.size : Int)
      · have hd : decide (most < (s.size : Int)) = true := decide_eq_true hm
        go_wp2_with fail
        go_ret
        exact ⟨by simp, rfl⟩
      · have hd : decide (most < (s.size : Int)) = false := decide_eq_false hm
        go_wp2_with fail
        go_round
        case rel => exact ⟨1, .inr ⟨rfl, hm⟩, rfl⟩
        case measure => simp [intOf]
    · have hd : decide (most < (s.size : Int)) = false := decide_eq_false hm
      go_wp2_with fail
      go_ret
      exact ⟨by simp, rfl⟩
theorem long_is (most : Int) (s : ByteArray) (w : World) (C : Array Value) (e : TypeId) (fr : Nat × Nat) (g c : Nat) (b : Bool) (hb : decide (most < (s.size : Int)) = b) (hg : w.heap.size = g) (hC : C = #[.string s]) :
    Calls Try.prog 33 #[.int .i64 most, .slice (some ⟨g, 0, none⟩) 1 c] (w.alloc (.cells C e fr)) fun x w' => x = .returned (.bool b) ∧ w.alloc (.cells C e fr) = w' := by
  subst hb
  exact long_any most s w C e fr g c hg hC

abbrev DepT := ByteArray × ByteArray
def depRow (d : DepT) : List Value := [.string d.1, .string d.2]
def depTs (ds : List DepT) : List ByteArray := ds.flatMap fun d => [d.1, d.2]
theorem depTs_take (ds : List DepT) (k : Nat) (h : k < ds.length) : depTs (ds.take (k + 1)) = depTs (ds.take k) ++ [(ds.getD k (ByteArray.empty, ByteArray.empty)).1, (ds.getD k (ByteArray.empty, ByteArray.empty)).2] := flatMap_take_succ _ ds _ k h
/-- a key's bytes -/
def keyB (regs : Int) (path txt : ByteArray) (ds : List DepT) : List UInt8 := smalls [regs] ++ texts [path, txt] ++ smalls [(ds.length : Int)] ++ texts (depTs ds)
def depLong (d : DepT) : Prop := 255 < d.1.size ∨ 65535 < d.2.size
def keyBad (regs : Int) (path txt : ByteArray) (ds : List DepT) : Prop := regs < 0 ∨ 255 < regs ∨ 255 < ds.length ∨ 255 < path.size ∨ 65535 < txt.size
def magicB : ByteArray := ⟨#[84, 77, 75, 49]⟩
open Classical in
noncomputable def keyV (regs : Int) (path txt : ByteArray) (ds : List DepT) : Value :=
  if keyBad regs path txt ds then .tuple #[.string ⟨#[]⟩, .int .i64 1]
  else if ∃ d ∈ ds, depLong d then .tuple #[.string ⟨#[]⟩, .int .i64 1]
  else if 65536 < 4 + (keyB regs path txt ds).length then .tuple #[.string ⟨#[]⟩, .int .i64 6]
  else .tuple #[.string (magicB ++ str (keyB regs path txt ds)), .int .i64 0]

theorem take_all {α : Type} (P : α → Prop) (l : List α) (d : α) (k : Nat) (hk : k < l.length) (h : ∀ x ∈ l.take k, P x) (h1 : P (l.getD k d)) : ∀ x ∈ l.take (k + 1), P x := by
  intro x hx
  rw [List.take_succ_eq_append_getElem hk] at hx
  rw [List.getD_eq_getElem?_getD, List.getElem?_eq_getElem hk] at h1
  rcases List.mem_append.1 hx with hx | hx
  · exact h x hx
  · rw [List.mem_singleton.1 hx]; exact h1
set_option maxHeartbeats 4000000 in
theorem key_bad (regs : Int) (path txt : ByteArray) (A : Option Addr) (m c : Nat) (ds : List DepT) (w : World) (hm : ds.length = m) (hbad : keyBad regs path txt ds) :
    Calls Try.prog 18 #[.int .i64 regs, .string path, .string txt, .slice A m c] w fun x w' => x = .returned (keyV regs path txt ds) ∧ Only [] w w' := by
  have hk : keyV regs path txt ds = .tuple #[.string ⟨#[]⟩, .int .i64 1] := by unfold keyV; rw [if_pos hbad]
  rw [hk]
  clear hk
  unfold keyBad at hbad
  rw [hm] at hbad
  by_cases h1 : regs < 0
  · have d1 : decide (regs < 0) = true := decide_eq_true h1
    clear hbad h1
    go_enter Try.func18, Try.ntmps18
    go_wp2_with fail
    exact bodyPost_ret (v := .tuple #[.string ⟨#[]⟩, .int .i64 1]) (by simp [results, Try.results18, go_sem]) rfl ⟨rfl, Only.refl _ _⟩
  · have d1 : decide (regs < 0) = false := decide_eq_false h1
    by_cases h2 : 255 < max regs m
    · by_cases hlt : regs < (m : Int)
      · have d2 : decide (255 < (m : Int)) = true := decide_eq_true (by omega)
        clear hbad h1 h2
        go_enter Try.func18, Try.ntmps18
        go_wp2_with fail
        exact bodyPost_ret (v := .tuple #[.string ⟨#[]⟩, .int .i64 1]) (by simp [results, Try.results18, go_sem]) rfl ⟨rfl, Only.refl _ _⟩
      · have d2 : decide (255 < regs) = true := decide_eq_true (by omega)
        have hle : (m : Int) ≤ regs := by omega
        clear hbad h1 h2
        go_enter Try.func18, Try.ntmps18
        go_wp2_with fail
        exact bodyPost_ret (v := .tuple #[.string ⟨#[]⟩, .int .i64 1]) (by simp [results, Try.results18, go_sem]) rfl ⟨rfl, Only.refl _ _⟩
    · have dm1 : decide (255 < (m : Int)) = false := decide_eq_false (by omega)
      have dm2 : decide (255 < regs) = false := decide_eq_false (by omega)
      by_cases h3 : 255 < path.size
      · have d3 : Hid (decide ((255 : Int) < (path.size : Int)) = true) := decide_eq_true (by omega)
        clear hbad h1 h2 h3
        by_cases hlt : regs < (m : Int)
        all_goals
          go_enter Try.func18, Try.ntmps18
          go_wp2_with (go_at_call 33; refine (long_is 255 path _ _ _ _ _ _ _ d3.out (by with_reducible rfl) rfl).mono ?_; rintro x wx ⟨rfl, rfl⟩)
          exact bodyPost_ret (v := .tuple #[.string ⟨#[]⟩, .int .i64 1]) (by simp [results, Try.results18, go_sem]) rfl ⟨rfl, (Only.refl _ _).alloc _⟩
      · have d3 : Hid (decide ((255 : Int) < (path.size : Int)) = false) := decide_eq_false (by omega)
        have d4 : Hid (decide ((65535 : Int) < (txt.size : Int)) = true) := decide_eq_true (by omega)
        clear hbad h1 h2 h3
        by_cases hlt : regs < (m : Int)
        all_goals
          go_enter Try.func18, Try.ntmps18
          go_wp2_with (go_at_call 33; refine (long_is _ _ _ _ _ _ _ _ _ (by first | with_reducible exact d3.out | with_reducible exact d4.out) (by first | with_reducible rfl | exact alloc_size _ _) rfl).mono ?_; rintro x wx ⟨rfl, rfl⟩)
          exact bodyPost_ret (v := .tuple #[.string ⟨#[]⟩, .int .i64 1]) (by simp [results, Try.results18, go_sem]) rfl ⟨rfl, ((Only.refl _ _).alloc _).alloc _⟩

set_option maxHeartbeats 4000000 in
theorem key_any (regs : Int) (path txt : ByteArray) (A : Option Addr) (m c B : Nat) (ds : List DepT) (w : World) (hm : ds.length = m) (hr : Recs w B 2 A m (ds.map depRow)) (hB : B ≤ w.heap.size)
    (hsz : ∀ d ∈ ds, d.1.size ≤ maxLen ∧ d.2.size ≤ maxLen) :
    Calls Try.prog 18 #[.int .i64 regs, .string path, .string txt, .slice A m c] w fun x w' => x = .returned (keyV regs path txt ds) ∧ Only [] w w' := by
  by_cases hbad : keyBad regs path txt ds
  · exact key_bad regs path txt A m c ds w hm hbad
  · have hbb : ¬ keyBad regs path txt ds := hbad
    have HBB := Lib.hid hbb
    unfold keyBad at hbad
    rw [hm] at hbad
    have d1 : decide (regs < 0) = false := decide_eq_false (by omega)
    have dm1 : decide (255 < (m : Int)) = false := decide_eq_false (by omega)
    have dm2 : decide (255 < regs) = false := decide_eq_false (by omega)
    have d3 : Hid (decide ((255 : Int) < (path.size : Int)) = false) := decide_eq_false (by omega)
    have d4 : Hid (decide ((65535 : Int) < (txt.size : Int)) = false) := decide_eq_false (by omega)
    have hm255 : m ≤ 255 := by omega
    have hps : path.size ≤ 255 := by omega
    have hts : txt.size ≤ 65535 := by omega
    have HM := Lib.hid hm
    clear hbad hbb hm
    by_cases hlt : regs < (m : Int)
    all_goals
     go_enter Try.func18, Try.ntmps18
     go_wp2_with (go_at_call 33; refine (long_is _ _ _ _ _ _ _ _ _ (by first | with_reducible exact d3.out | with_reducible exact d4.out) (by first | with_reducible rfl | exact alloc_size _ _) rfl).mono ?_; rintro x wx ⟨rfl, rfl⟩)
     have h1 : WI w (((w.alloc (.cells #[.string path] 9)).alloc (.cells #[.string txt] 9)).alloc (.cells #[.slice none 0 0] 50)) (w.heap.size + 1 + 1) 0 [] := by
       have := (WI.new ((w.alloc (.cells #[.string path] 9)).alloc (.cells #[.string txt] 9))).from (((Only.refl [] w).alloc _).alloc _)
       rw [alloc_size, alloc_size] at this
       exact this
     have hs1 : (((w.alloc (.cells #[.string path] 9)).alloc (.cells #[.string txt] 9)).alloc (.cells #[.slice none 0 0] 50)).heap.size = w.heap.size + 1 + 1 + 1 := by rw [alloc_size, alloc_size, alloc_size]
     generalize (((w.alloc (.cells #[.string path] 9)).alloc (.cells #[.string txt] 9)).alloc (.cells #[.slice none 0 0] 50)) = w3 at *
     refine (small_in h1 [regs] _ _ _ 1 1 _ rfl hs1 rfl (by decide)).mono ?_
     rintro e w4 ⟨rfl, h4⟩
     clear h1 hs1
     generalize w.heap.size + 1 + 1 = p at *
     go_wp2_with fail
     refine (text_in h4 [path, txt] _ _ _ 2 2 _ rfl rfl rfl (by intro s hs; simp only [List.mem_cons, List.not_mem_nil, or_false] at hs; unfold maxLen; rcases hs with rfl | rfl <;> omega) (by decide)).mono ?_
     rintro e w5 ⟨rfl, h5⟩
     clear h4
     go_wp2_with fail
     refine (small_in h5 [(m : Int)] _ _ _ 1 1 _ rfl rfl rfl (by decide)).mono ?_
     rintro e w6 ⟨rfl, h6⟩
     clear h5
     go_wp2_with fail
     rw [List.nil_append] at h6
     have hN : (0 + 2 * 1 + 65537 * 2 + 2 * 1 : Nat) = 131078 := by decide
     rw [hN] at h6
     clear hN d1 dm1 dm2
     generalize hL : smalls [regs] ++ texts [path, txt] ++ smalls [(m : Int)] = L at *
     have HL := Lib.hid hL
     clear hL
     go_loopw [51] (fun i wr => ∃ k : Nat, k ≤ m ∧ i = .int .i64 k ∧ (∀ d ∈ ds.take k, ¬ depLong d) ∧ WI w wr p (131078 + 131074 * k) (L ++ texts (depTs (ds.take k)))) (fun i _ => m - (intOf i).toNat)
     case atStart => exact ⟨0, by omega, rfl, by simp, by simpa [depTs, texts] using h6⟩
     case round =>
       obtain ⟨k, hk, rfl, hno, h1⟩ := hrel
       by_cases hlt : k < m
       · have hr1 := hr.only h1.only0 (by simp)
         obtain ⟨b, off, rfl, hbB, hc⟩ := hr1.at_ (ByteArray.empty, ByteArray.empty) hlt
         have c0 : wr.cell? ⟨b, off + k * 2, none⟩ = _ := hc 0 (by omega)
         have c1 := hc 1 (by omega)
         have hkz : k < ds.length := by rw [HM.out]; exact hlt
         have HS := Lib.hid (depTs_take ds k hkz)
         have hsl := hsz (ds.getD k (ByteArray.empty, ByteArray.empty)) (by rw [List.getD_eq_getElem?_getD, List.getElem?_eq_getElem hkz]; exact List.getElem_mem hkz)
         have hmem : Hid (ds.getD k (ByteArray.empty, ByteArray.empty) ∈ ds) := by unfold Hid; rw [List.getD_eq_getElem?_getD, List.getElem?_eq_getElem hkz]; exact List.getElem_mem hkz
         have HT := Lib.hid (take_all (fun d => ¬ depLong d) ds (ByteArray.empty, ByteArray.empty) k hkz hno)
         generalize ds.getD k (ByteArray.empty, ByteArray.empty) = d at *
         obtain ⟨dp, de⟩ := d
         simp only [depRow, List.getElem?_cons_zero, List.getElem?_cons_succ] at c0 c1
         unfold maxLen at hsl
         clear hc hr1
         have hoA := h1.only0
         by_cases h5 : 255 < dp.size
         · have d5 : Hid (decide ((255 : Int) < (dp.size : Int)) = true) := decide_eq_true (by omega)
           clear h5
           have hv : keyV regs path txt ds = .tuple #[.string ⟨#[]⟩, .int .i64 1] := by unfold keyV; rw [if_neg HBB.out, if_pos ⟨_, hmem.out, .inl (show 255 < dp.size by have := d5.out; simp at this; omega)⟩]
           have HV := Lib.hid hv
           clear hv
           go_wp2_with (go_at_call 33; refine (long_is _ _ _ _ _ _ _ _ _ (by with_reducible exact d5.out) (by first | with_reducible rfl | exact alloc_size _ _) rfl).mono ?_; rintro x wx ⟨rfl, rfl⟩)
           rw [HV.out]
           exact bodyPost_ret (v := .tuple #[.string ⟨#[]⟩, .int .i64 1]) (by simp [results, Try.results18, go_sem]) rfl ⟨rfl, ((hoA.alloc _).alloc _)⟩
         · have d5 : Hid (decide ((255 : Int) < (dp.size : Int)) = false) := decide_eq_false (by omega)
           by_cases h6 : 65535 < de.size
           · have d6 : Hid (decide ((65535 : Int) < (de.size : Int)) = true) := decide_eq_true (by omega)
             clear h5 h6
             have hv : keyV regs path txt ds = .tuple #[.string ⟨#[]⟩, .int .i64 1] := by unfold keyV; rw [if_neg HBB.out, if_pos ⟨_, hmem.out, .inr (show 65535 < de.size by have := d6.out; simp at this; omega)⟩]
             have HV := Lib.hid hv
             clear hv
             go_wp2_with (go_at_call 33; refine (long_is _ _ _ _ _ _ _ _ _ (by first | with_reducible exact d5.out | with_reducible exact d6.out) (by first | with_reducible rfl | exact alloc_size _ _ | (rw [alloc_size, alloc_size])) rfl).mono ?_; rintro x wx ⟨rfl, rfl⟩)
             rw [HV.out]
             exact bodyPost_ret (v := .tuple #[.string ⟨#[]⟩, .int .i64 1]) (by simp [results, Try.results18, go_sem]) rfl ⟨rfl, (((hoA.alloc _).alloc _).alloc _)⟩
           · have d6 : Hid (decide ((65535 : Int) < (de.size : Int)) = false) := decide_eq_false (by omega)
             have hnl : Hid (¬ depLong (dp, de)) := fun h => by unfold depLong at h; rcases h with h | h <;> simp only at h <;> omega
             have hds : Hid (dp.size ≤ 255 ∧ de.size ≤ 65535) := ⟨by omega, by omega⟩
             clear h5 h6
             go_wp2_with (go_at_call 33; refine (long_is _ _ _ _ _ _ _ _ _ (by first | with_reducible exact d5.out | with_reducible exact d6.out) (by first | with_reducible rfl | exact alloc_size _ _ | (rw [alloc_size, alloc_size])) rfl).mono ?_; rintro x wx ⟨rfl, rfl⟩)
             refine (text_in (((h1.alloc _).alloc _).alloc _) [dp, de] _ _ _ 2 2 _ rfl (by rw [alloc_size, alloc_size, alloc_size]) rfl (by have := hds.out; intro s hs; simp only [List.mem_cons, List.not_mem_nil, or_false] at hs; unfold maxLen; rcases hs with rfl | rfl <;> omega) (by omega)).mono ?_
             rintro e w7 ⟨rfl, h7⟩
             go_wp2_with fail
             go_roundw
             case rel =>
               refine ⟨k + 1, by omega, by go_num, HT.out hnl.out, ?_⟩
               · have h8 := h7.mono (N' := 131078 + 131074 * (k + 1)) (by omega)
                 rw [HS.out]
                 rw [List.append_assoc] at h8
                 simpa [texts] using h8
             case measure => simp [intOf]; omega
       · obtain rfl : k = m := by omega
         rw [List.take_of_length_le (by rw [HM.out]; exact Nat.le_refl _)] at h1 hno
         have hk : L ++ texts (depTs ds) = keyB regs path txt ds := by rw [← HL.out, ← HM.out]; rfl
         rw [hk] at h1
         have hv : keyV regs path txt ds = if 65536 < 4 + (keyB regs path txt ds).length then .tuple #[.string ⟨#[]⟩, .int .i64 6] else .tuple #[.string (magicB ++ str (keyB regs path txt ds)), .int .i64 0] := by
           unfold keyV; rw [if_neg HBB.out, if_neg (by rintro ⟨d, hd, hl⟩; exact hno d hd hl)]
         clear hk hno HL h6
         generalize keyB regs path txt ds = K at *
         have HV := Lib.hid hv
         clear hv
         obtain ⟨v, n, hn, hw, h0, hp, hvv⟩ := h1
         have hlen := hw.own.len
         have hbl := bytes_any p n v K wr hw (by omega)
         have HB := Lib.hid hbl
         clear hbl hw hvv
         have hq : (str K).size = n := by rw [str_size, hlen]
         have hf1 : (9223372036854775807 < 4 + (str K).size) = False := eq_false (by omega)
         by_cases hlong : 65536 < 4 + n
         · have hf : ((65536 : Int) < 4 + ((str K).size : Int)) = True := eq_true (by omega)
           rw [hlen, if_pos hlong] at HV
           clear hlong hq
           go_wp2_with (go_at_call 20; refine Calls.mono HB.out ?_; rintro e' w3 ⟨v3, rfl, ho3, hon3⟩; obtain ⟨A3, cap3, rfl, hc3, hm3, hr3, hb3⟩ := ho3.shape; have hs3 := run_str hr3 cap3)
           rw [HV.out]
           exact bodyPost_ret (v := .tuple #[.string ⟨#[]⟩, .int .i64 6]) (by simp [results, Try.results18, go_sem]) rfl ⟨rfl, h0.trans hon3 (by simp)⟩
         · have hf : ((65536 : Int) < 4 + ((str K).size : Int)) = False := eq_false (by omega)
           rw [hlen, if_neg hlong] at HV
           clear hlong hq
           go_wp2_with (go_at_call 20; refine Calls.mono HB.out ?_; rintro e' w3 ⟨v3, rfl, ho3, hon3⟩; obtain ⟨A3, cap3, rfl, hc3, hm3, hr3, hb3⟩ := ho3.shape; have hs3 := run_str hr3 cap3)
           rw [HV.out]
           exact bodyPost_ret (v := .tuple #[.string (magicB ++ str K), .int .i64 0]) (by simp [results, Try.results18, go_sem, magicB]) rfl ⟨rfl, h0.trans hon3 (by simp)⟩
end Go.Proofs.Ytfkakhlgcjjlcaa.Keys
