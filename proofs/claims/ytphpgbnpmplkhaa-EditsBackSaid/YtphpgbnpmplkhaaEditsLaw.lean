/- The plain law of edits; the law's small helpers walk. -/
import Derived.Test.YtphpgbnpmplkhaaEditsApply
namespace Go.Proofs.Ytphpgbnpmplkhaa.Edits
open Go.RowKit Go.Maps
set_option linter.unusedVariables false
set_option maxRecDepth 100000
/-- such a map holds texts, by texts -/
structure Txt (f : Lit → Option Value) : Prop where
  val : ∀ k v, f k = some v → ∃ c, v = Value.string c
  key : ∀ k v, f k = some v → ∃ x, k = .string x
theorem Txt.none_ : Txt (fun _ => none) := ⟨(fun _ _ h => by cases h), (fun _ _ h => by cases h)⟩
theorem Txt.put {f : Lit → Option Value} (h : Txt f) (p t : ByteArray) : Txt (upd f (pk p) (some (.string t))) :=
  ⟨upd_text h.val, fun k v hv => by
    by_cases hk : k = pk p
    · exact ⟨_, hk⟩
    · rw [upd_other _ _ hk] at hv
      exact h.key k v hv⟩
theorem fold_txt : ∀ (l : List Src) (f : Lit → Option Value), Txt f → Txt (l.foldl (fun f s => upd f (pk s.path) (some (.string s.text))) f)
  | [], f, h => h
  | s :: l, f, h => fold_txt l _ (h.put s.path s.text)
theorem kf_txt (l : List Src) : Txt (kf l) := fold_txt l _ Txt.none_
theorem Txt.at_ {f : Lit → Option Value} (h : Txt f) {x : List UInt8} (hx : (f (.string x)).isSome = true) : some (.string (txt (f (.string x)))) = f (.string x) := by
  obtain ⟨v, hv⟩ := Option.isSome_iff_exists.1 hx
  obtain ⟨c, rfl⟩ := h.val _ _ hv
  rw [hv]
  rfl
theorem stf_dstep {f g : Lit → Option Value} (hg : Txt g) (x : List UInt8) : stf f (dstep g x) = upd f (.string x) (g (.string x)) := by
  unfold stf dstep
  cases hx : (g (.string x)).isSome
  · rw [if_neg (by simp), if_neg (by simp)]
    show upd f (.string x) none = _
    cases hgx : g (.string x) with
    | none => rfl
    | some v => rw [hgx] at hx; cases hx
  · rw [if_pos rfl, if_pos rfl]
    show upd f (.string x) (some (.string (txt (g (.string x))))) = _
    rw [hg.at_ hx]
open Classical in
theorem sf_dsteps {g : Lit → Option Value} (hg : Txt g) : ∀ (ss : List (List UInt8)) (f : Lit → Option Value), sf f (ss.map (dstep g)) = fun k => if ∃ x ∈ ss, k = .string x then g k else f k
  | [], f => by funext k; simp [sf]
  | y :: ss, f => by
    show sf (stf f (dstep g y)) (ss.map (dstep g)) = _
    rw [sf_dsteps hg ss, stf_dstep hg]
    funext k
    by_cases h : ∃ x ∈ ss, k = .string x
    · rw [if_pos h, if_pos]
      obtain ⟨x, hx, e⟩ := h
      exact ⟨x, List.mem_cons_of_mem _ hx, e⟩
    · rw [if_neg h]
      by_cases hk : k = .string y
      · rw [if_pos ⟨y, List.mem_cons_self, hk⟩, hk, upd_same]
      · rw [upd_other _ _ hk, if_neg]
        rintro ⟨x, hx, e⟩
        rcases List.mem_cons.1 hx with rfl | hx
        · exact hk e
        · exact h ⟨x, hx, e⟩
theorem odd_some (f g : Lit → Option Value) (k : Lit) : (oddf f g k).isSome = true ↔ f k ≠ g k := by
  unfold oddf
  by_cases h : f k = g k
  · simp [h]
  · simp [h]
/-- what makes a tree another one, done to it, makes it that one -/
theorem sf_back {f g : Lit → Option Value} (hf : Txt f) (hg : Txt g) {ss : List (List UInt8)} (hk : KeysL (oddf f g) ss) : sf f (ss.map (dstep g)) = g := by
  rw [sf_dsteps hg]
  funext k
  by_cases h : ∃ x ∈ ss, k = .string x
  · rw [if_pos h]
  · rw [if_neg h]
    cases hfk : f k with
    | none =>
      cases hgk : g k with
      | none => rfl
      | some v =>
        exfalso
        obtain ⟨x, rfl⟩ := hg.key _ _ hgk
        exact h ⟨x, (hk.2.2 x).2 ((odd_some f g _).2 (by rw [hfk, hgk]; simp)), rfl⟩
    | some u =>
      obtain ⟨x, rfl⟩ := hf.key _ _ hfk
      rw [← hfk]
      refine Classical.byContradiction fun hne => h ⟨x, (hk.2.2 x).2 ((odd_some f g _).2 (fun e => hne e)), rfl⟩
open Classical in
theorem fold_srcs {f : Lit → Option Value} (hf : Txt f) : ∀ (ss : List (List UInt8)) (g : Lit → Option Value), (∀ x ∈ ss, (f (.string x)).isSome = true) → (ss.map (srcOf f)).foldl (fun f s => upd f (pk s.path) (some (.string s.text))) g = fun k => if ∃ x ∈ ss, k = .string x then f k else g k
  | [], g, _ => by funext k; simp
  | y :: ss, g, h => by
    show (ss.map (srcOf f)).foldl _ (upd g (.string y) (some (.string (txt (f (.string y)))))) = _
    rw [fold_srcs hf ss _ (fun x hx => h x (List.mem_cons_of_mem _ hx)), hf.at_ (h y List.mem_cons_self)]
    funext k
    by_cases hm : ∃ x ∈ ss, k = .string x
    · rw [if_pos hm, if_pos]
      obtain ⟨x, hx, e⟩ := hm
      exact ⟨x, List.mem_cons_of_mem _ hx, e⟩
    · rw [if_neg hm]
      by_cases hk : k = .string y
      · rw [if_pos ⟨y, List.mem_cons_self, hk⟩, hk, upd_same]
      · rw [upd_other _ _ hk, if_neg]
        rintro ⟨x, hx, e⟩
        rcases List.mem_cons.1 hx with rfl | hx
        · exact hk e
        · exact hm ⟨x, hx, e⟩
/-- a map laid out by its keys is that map -/
theorem kf_srcs {f : Lit → Option Value} (hf : Txt f) {ss : List (List UInt8)} (hk : KeysL f ss) : kf (ss.map (srcOf f)) = f := by
  unfold kf
  rw [fold_srcs hf ss _ (fun x hx => (hk.2.2 x).1 hx)]
  funext k
  by_cases h : ∃ x ∈ ss, k = .string x
  · rw [if_pos h]
  · rw [if_neg h]
    cases hfk : f k with
    | none => rfl
    | some u =>
      exfalso
      obtain ⟨x, rfl⟩ := hf.key _ _ hfk
      exact h ⟨x, (hk.2.2 x).2 (by rw [hfk]; rfl), rfl⟩
theorem odd_self {f : Lit → Option Value} {ss : List (List UInt8)} (hk : KeysL (oddf f f) ss) : ss = [] := by
  cases ss with
  | nil => rfl
  | cons x ss => exact absurd rfl ((odd_some f f _).1 ((hk.2.2 x).1 List.mem_cons_self))
theorem odd_turn {f g : Lit → Option Value} {a b : List (List UInt8)} (ha : KeysL (oddf f g) a) (hb : KeysL (oddf g f) b) : a = b := by
  refine ha.congr hb (fun x => ?_)
  have h1 := odd_some f g (.string x)
  have h2 := odd_some g f (.string x)
  rw [Bool.eq_iff_iff, h1, h2]
  exact ⟨fun h e => h e.symm, fun h e => h e.symm⟩
/-- what Light hands back -/
def lightO (m : Nat) (l : List Src) (w : World) (x : Ending) (w' : World) : Prop := ∃ b, x = .returned (.bool b) ∧ (b = true → m ≤ 20 ∧ ∀ s ∈ l, s.path.size ≤ 300 ∧ s.text.size ≤ 500) ∧ w = w'
theorem lightO_no {m : Nat} {l : List Src} {w : World} : lightO m l w (.returned (.bool false)) w := ⟨false, rfl, (fun h => by cases h), rfl⟩
theorem light_any (A : Option Addr) (m c : Nat) (l : List Src) (w : World) (hr : Recs w w.heap.size 2 A m (l.map Src.row)) :
    Calls Try.prog 4 #[.slice A m c, .int .i64 500] w (lightO m l w) := by
  have hl : l.length = m := by simpa using hr.1
  have HL := Lib.hid hl
  have HR := Lib.hid hr
  clear hl hr
  go_enter Try.func4, Try.ntmps4
  go_wp2_with fail
  go_loop [5] (fun i => ∃ k : Nat, k ≤ m ∧ k ≤ 40 ∧ i = .int .i64 k ∧ ∀ s ∈ l.take k, s.path.size ≤ 300 ∧ s.text.size ≤ 500) (fun i => m - (intOf i).toNat)
  case atStart => exact ⟨0, by omega, by omega, rfl, by simp⟩
  case round =>
    obtain ⟨k, hk, hk4, rfl, hall⟩ := hrel
    have HALL := Lib.hid hall
    clear hall
    by_cases hlt : k < m
    · have e1 : decide ((k : Int) < (m : Int)) = true := decide_eq_true (by omega)
      by_cases h40 : k < 40
      · have e2 : decide ((k : Int) < (40 : Int)) = true := decide_eq_true (by omega)
        obtain ⟨b, off, hA, hb, s, hmem, hsk, c0, c1⟩ := src_at HR.out k hlt
        subst hA
        have HTS := Lib.hid (take_snoc hsk)
        by_cases hp : s.path.size ≤ 300
        · have e3 : decide ((300 : Int) < (s.path.size : Int)) = false := decide_eq_false (by omega)
          by_cases ht : s.text.size ≤ 500
          · have e4 : decide ((500 : Int) < (s.text.size : Int)) = false := decide_eq_false (by omega)
            clear hsk hmem
            go_wp2_with fail
            go_round
            case rel =>
              refine ⟨k + 1, by omega, by omega, by go_num, ?_⟩
              rw [HTS.out]
              intro u hu
              rcases List.mem_append.1 hu with hu | hu
              · exact HALL.out u hu
              · rw [List.mem_singleton.1 hu]; exact ⟨hp, ht⟩
            case measure => simp [intOf]; omega
          · have e4 : decide ((500 : Int) < (s.text.size : Int)) = true := decide_eq_true (by omega)
            clear hsk hmem
            go_wp2_with fail
            go_ret
            exact lightO_no
        · have e3 : decide ((300 : Int) < (s.path.size : Int)) = true := decide_eq_true (by omega)
          clear hsk hmem
          go_wp2_with fail
          go_ret
          exact lightO_no
      · have e2 : decide ((k : Int) < (40 : Int)) = false := decide_eq_false (by omega)
        have e5 : decide ((m : Int) ≤ (20 : Int)) = false := decide_eq_false (by omega)
        go_wp2_with fail
        go_ret
        exact lightO_no
    · obtain rfl : m = k := by omega
      have e1 : decide ((m : Int) < (m : Int)) = false := decide_eq_false (by omega)
      have hfull : ∀ s ∈ l, s.path.size ≤ 300 ∧ s.text.size ≤ 500 := by
        have := HALL.out
        rwa [List.take_of_length_le (by rw [HL.out]; exact Nat.le_refl _)] at this
      have HF := Lib.hid hfull
      clear hfull
      by_cases h20 : m ≤ 20
      · have e5 : decide ((m : Int) ≤ (20 : Int)) = true := decide_eq_true (by omega)
        go_wp2_with fail
        go_ret
        exact ⟨true, rfl, fun _ => ⟨h20, HF.out⟩, rfl⟩
      · have e5 : decide ((m : Int) ≤ (20 : Int)) = false := decide_eq_false (by omega)
        go_wp2_with fail
        go_ret
        exact lightO_no
end Go.Proofs.Ytphpgbnpmplkhaa.Edits
