/- The document's in, has, all. -/
import Derived.Test.YtdfiibnpckahnaaGPut
namespace Go.Proofs.Ytdfiibnpckahnaa.Graph
open Go.RowKit Go.Shelf Go.Maps
set_option linter.unusedVariables false
set_option maxRecDepth 100000
theorem none_mem {s t : Path} {l : List Path} {k : Nat} (hn : s ∉ l.take k) (hk : l[k]? = some t) (he : ¬ t = s) : s ∉ l.take (k + 1) := by
  rw [take_snoc hk]
  intro hm
  rcases List.mem_append.1 hm with h | h
  · exact hn h
  · exact he (List.mem_singleton.1 h).symm
theorem some_mem {s : Path} {l : List Path} {k : Nat} (hk : l[k]? = some s) : s ∈ l := by
  obtain ⟨h1, h2⟩ := List.getElem?_eq_some_iff.1 hk
  rw [← h2]; exact List.getElem_mem h1
section
variable {w w' : World}
set_option maxHeartbeats 4000000 in
theorem rin_any (A : Option Addr) (B n c : Nat) (l : List Path) (s : Path) (w : World) (h : Recs w B 1 A n (svs l)) (hn1 : n ≤ 1000000) :
    Calls Try.prog 30 #[.slice A n c, .string (str s)] w fun y w' => y = .returned (.bool (decide (s ∈ l))) ∧ w' = w := by
  have H := Lib.hid h
  have L := Lib.hid (recs_len h)
  clear h
  go_enter Try.func30, Try.ntmps30
  go_wp2_with fail
  go_loopw [5] (fun i wr => ∃ k : Nat, i = .int .i64 k ∧ k ≤ n ∧ s ∉ l.take k ∧ wr = w) (fun i _ => n - (intOf i).toNat)
  case atStart => exact ⟨0, rfl, by omega, by simp, rfl⟩
  case round =>
    obtain ⟨k, rfl, hk, hn, rfl⟩ := hrel
    have HN := Lib.hid hn
    clear hn
    by_cases hlt : k < n
    · have d1 : decide ((k : Int) < (n : Int)) = true := decide_eq_true (by omega)
      obtain ⟨b, o, rfl, _, hc⟩ := H.out.at_ [] hlt
      have q := hc 0 (by decide)
      simp only [Nat.mul_one, Nat.add_zero, sv] at q
      obtain ⟨t, ht⟩ : ∃ s, l.getD k [] = s := ⟨_, rfl⟩
      rw [ht] at q
      have g : l[k]? = some t := by rw [← ht, List.getD_eq_getElem?_getD, List.getElem?_eq_getElem (by rw [L.out]; exact hlt)]; rfl
      have G := Lib.hid g
      clear hc ht g
      by_cases he : t = s
      · subst he
        have e5 : ((str t).toList == (str t).toList) = true := by simp
        go_wp2_with fail
        go_ret
        exact ⟨by rw [decide_eq_true (some_mem G.out)]; rfl, rfl⟩
      · have e5 : ((str t).toList == (str s).toList) = false := by rw [str_eqb]; exact decide_eq_false he
        have HNX := Lib.hid (none_mem HN.out G.out he)
        clear he
        go_wp2_with fail
        go_roundw
        case measure => simp [intOf]; omega
        case rel => exact ⟨k + 1, by go_num, by omega, HNX.out, trivial⟩
    · obtain rfl : k = n := by omega
      have d1 : decide ((k : Int) < (k : Int)) = false := decide_eq_false (by omega)
      have hn := HN.out
      rw [List.take_of_length_le (by rw [L.out]; exact Nat.le_refl _)] at hn
      have HN2 := Lib.hid hn
      clear hn
      go_wp2_with fail
      go_ret
      exact ⟨by rw [decide_eq_false HN2.out]; rfl, rfl⟩
theorem map_at {l : List ND} {k : Nat} {x : ND} (h : l[k]? = some x) : (l.map (·.path))[k]? = some x.path := by rw [List.getElem?_map, h]; rfl
set_option maxHeartbeats 4000000 in
theorem rhas_any (A : Option Addr) (B n c : Nat) (l : List ND) (s : Path) (w : World) (h : Recs w B 2 A n (l.map ND.row)) (hn1 : n ≤ 1000000) :
    Calls Try.prog 26 #[.slice A n c, .string (str s)] w fun y w' => y = .returned (.bool (decide (s ∈ l.map (·.path)))) ∧ w' = w := by
  have H := Lib.hid h
  have L := Lib.hid (show l.length = n by have := h.1; rwa [List.length_map] at this)
  clear h
  go_enter Try.func26, Try.ntmps26
  go_wp2_with fail
  go_loopw [5] (fun i wr => ∃ k : Nat, i = .int .i64 k ∧ k ≤ n ∧ s ∉ (l.map (·.path)).take k ∧ wr = w) (fun i _ => n - (intOf i).toNat)
  case atStart => exact ⟨0, rfl, by omega, by simp, rfl⟩
  case round =>
    obtain ⟨k, rfl, hk, hn, rfl⟩ := hrel
    have HN := Lib.hid hn
    clear hn
    by_cases hlt : k < n
    · have d1 : decide ((k : Int) < (n : Int)) = true := decide_eq_true (by omega)
      obtain ⟨b, o, rfl, _, x, _, hxk, q, _⟩ := nd_at H.out k hlt
      unfold sv at q
      have G := Lib.hid (map_at hxk)
      clear hxk
      by_cases he : x.path = s
      · have e5 : ((str x.path).toList == (str s).toList) = true := by rw [str_eqb]; exact decide_eq_true he
        have HM : Hid (decide (s ∈ l.map (·.path)) = true) := Lib.hid (decide_eq_true (some_mem (by rw [← he]; exact G.out)))
        clear he
        go_wp2_with fail
        go_ret
        exact ⟨by rw [HM.out]; rfl, rfl⟩
      · have e5 : ((str x.path).toList == (str s).toList) = false := by rw [str_eqb]; exact decide_eq_false he
        have HNX := Lib.hid (none_mem HN.out G.out he)
        clear he
        go_wp2_with fail
        go_roundw
        case measure => simp [intOf]; omega
        case rel => exact ⟨k + 1, by go_num, by omega, HNX.out, trivial⟩
    · obtain rfl : k = n := by omega
      have d1 : decide ((k : Int) < (k : Int)) = false := decide_eq_false (by omega)
      have hn := HN.out
      rw [List.take_of_length_le (by rw [List.length_map, L.out]; exact Nat.le_refl _)] at hn
      have HN2 := Lib.hid hn
      clear hn
      go_wp2_with fail
      go_ret
      exact ⟨by rw [decide_eq_false HN2.out]; rfl, rfl⟩
theorem all_snoc {l out : List Path} {k : Nat} {t : Path} (h : ∀ i ∈ l.take k, i ∈ out) (hk : l[k]? = some t) (ht : t ∈ out) : ∀ i ∈ l.take (k + 1), i ∈ out := by
  rw [take_snoc hk]
  intro i hi
  rcases List.mem_append.1 hi with h1 | h1
  · exact h i h1
  · rw [List.mem_singleton.1 h1]; exact ht
set_option maxHeartbeats 4000000 in
theorem rall_any (A : Option Addr) (B n c : Nat) (l : List Path) (A2 : Option Addr) (B2 n2 c2 : Nat) (l2 : List Path) (w : World) (h : Recs w B 1 A n (svs l)) (h2 : Recs w B2 1 A2 n2 (svs l2)) (hn1 : n ≤ 1000000) (hn2 : n2 ≤ 1000000) :
    Calls Try.prog 45 #[.slice A n c, .slice A2 n2 c2] w fun y w' => y = .returned (.bool (l.all (fun i => decide (i ∈ l2)))) ∧ w' = w := by
  have H := Lib.hid h
  have L := Lib.hid (recs_len h)
  have HIN := Lib.hid (fun s => rin_any A2 B2 n2 c2 l2 s w h2 hn2)
  clear h h2
  go_enter Try.func45, Try.ntmps45
  go_wp2_with fail
  go_loopw [5] (fun i wr => ∃ k : Nat, i = .int .i64 k ∧ k ≤ n ∧ (∀ i ∈ l.take k, i ∈ l2) ∧ wr = w) (fun i _ => n - (intOf i).toNat)
  case atStart => exact ⟨0, rfl, by omega, by simp, rfl⟩
  case round =>
    obtain ⟨k, rfl, hk, hn, hwr⟩ := hrel
    have hwr := hwr.symm
    subst hwr
    have HN := Lib.hid hn
    clear hn
    by_cases hlt : k < n
    · have d1 : decide ((k : Int) < (n : Int)) = true := decide_eq_true (by omega)
      obtain ⟨b, o, rfl, _, hc⟩ := H.out.at_ [] hlt
      have q := hc 0 (by decide)
      simp only [Nat.mul_one, Nat.add_zero, sv] at q
      obtain ⟨t, ht⟩ : ∃ s, l.getD k [] = s := ⟨_, rfl⟩
      rw [ht] at q
      have g : l[k]? = some t := by rw [← ht, List.getD_eq_getElem?_getD, List.getElem?_eq_getElem (by rw [L.out]; exact hlt)]; rfl
      have G := Lib.hid g
      clear hc ht g
      have HC := HIN.out t
      obtain ⟨bb, hbb⟩ : ∃ bb, decide (t ∈ l2) = bb := ⟨_, rfl⟩
      rw [hbb] at HC
      have HC2 := Lib.hid HC
      have HB := Lib.hid hbb
      clear HC hbb
      cases bb
      · have HF : Hid (l.all (fun i => decide (i ∈ l2)) = false) := Lib.hid (List.all_eq_false.2 ⟨t, some_mem G.out, by rw [HB.out]; simp⟩)
        go_wp2_with (go_at_call 30; refine HC2.out.mono ?_; rintro y wn ⟨rfl, hwn⟩; have hwn := hwn.symm; subst hwn)
        go_ret
        exact ⟨by rw [HF.out]; rfl, rfl⟩
      · have HNX := Lib.hid (all_snoc HN.out G.out (of_decide_eq_true HB.out))
        go_wp2_with (go_at_call 30; refine HC2.out.mono ?_; rintro y wn ⟨rfl, hwn⟩; have hwn := hwn.symm; subst hwn)
        go_roundw
        case measure => simp [intOf]; omega
        case rel => exact ⟨k + 1, by go_num, by omega, HNX.out, trivial⟩
    · obtain rfl : k = n := by omega
      have d1 : decide ((k : Int) < (k : Int)) = false := decide_eq_false (by omega)
      have hn := HN.out
      rw [List.take_of_length_le (by rw [L.out]; exact Nat.le_refl _)] at hn
      have HN2 : Hid (l.all (fun i => decide (i ∈ l2)) = true) := Lib.hid (List.all_eq_true.2 (fun i hi => decide_eq_true (hn i hi)))
      clear hn
      go_wp2_with fail
      go_ret
      exact ⟨by rw [HN2.out]; rfl, rfl⟩
end
end Go.Proofs.Ytdfiibnpckahnaa.Graph
