/- EditsBack, walked. -/
import Derived.Test.YtphpgbnpmplkhaaEditsSame
import Derived.Deep.DeepCutAuto
namespace Go.Proofs.Ytphpgbnpmplkhaa.Edits
open Go.RowKit Go.Maps
set_option linter.unusedVariables false
set_option maxRecDepth 100000
theorem recs_head {w : World} {B size m k : Nat} {A : Option Addr} {rows : List (List Value)} (h : Recs w B size A m rows) (hk : k ≤ m) : Recs w B size A k (rows.take k) := by
  obtain ⟨hl, hc⟩ := h
  refine ⟨by rw [List.length_take]; omega, fun h0 => ?_⟩
  obtain ⟨b, off, e, hb, hx⟩ := hc (by omega)
  refine ⟨b, off, e, hb, fun i hi j hj => ?_⟩
  have hg : (rows.take k).getD i [] = rows.getD i [] := by
    rw [List.getD_eq_getElem?_getD, List.getD_eq_getElem?_getD, List.getElem?_take_of_lt hi]
  rw [hg]
  exact hx i (by omega) j hj
theorem num_fold (l : List Src) (f : Lit → Option Value) (k : Lit) (v : Value) (h : (l.foldl (fun f s => upd f (pk s.path) (some (.string s.text))) f) k = some v) : f k = some v ∨ ∃ s ∈ l, k = pk s.path ∧ v = .string s.text := by
  induction l generalizing f with
  | nil => exact .inl h
  | cons s l ih =>
    rcases ih _ h with h | ⟨u, hu, h1, h2⟩
    · have h : upd f (pk s.path) (some (.string s.text)) k = some v := h
      by_cases hk : k = pk s.path
      · subst hk
        rw [upd_same] at h
        injection h with h
        exact .inr ⟨s, List.mem_cons_self, rfl, h.symm⟩
      · rw [upd_other _ _ hk] at h
        exact .inl h
    · exact .inr ⟨u, List.mem_cons_of_mem _ hu, h1, h2⟩
theorem kf_mem {l : List Src} {k : Lit} {v : Value} (h : kf l k = some v) : ∃ s ∈ l, k = pk s.path ∧ v = .string s.text := by
  rcases num_fold l _ k v h with h | h
  · cases h
  · exact h
theorem short_srcs {l : List Src} (hl : Short l) {ss : List (List UInt8)} (hk : KeysL (kf l) ss) : Short (ss.map (srcOf (kf l))) := by
  intro s hs
  obtain ⟨x, hx, rfl⟩ := List.mem_map.1 hs
  obtain ⟨v, hv⟩ := Option.isSome_iff_exists.1 ((hk.2.2 x).1 hx)
  obtain ⟨u, hu, h1, rfl⟩ := kf_mem hv
  have := hl u hu
  unfold srcOf
  rw [hv]
  injection h1 with h1
  refine ⟨?_, this.2⟩
  rw [ba_size, h1]
  rw [Array.length_toList]
  exact this.1
theorem short_of {l : List Src} (h : ∀ s ∈ l, s.path.size ≤ 300 ∧ s.text.size ≤ 500) : Short l := fun s hs => by
  have := h s hs
  omega
theorem steps_ok (g : Lit → Option Value) {ss : List (List UInt8)} (h : ∀ x ∈ ss, x.length ≤ maxLen) : ∀ s ∈ ss.map (dstep g), (s.op = 0 ∨ s.op = 1) ∧ s.path.size ≤ maxLen := by
  intro s hs
  obtain ⟨x, hx, rfl⟩ := List.mem_map.1 hs
  have hb : (ba x).size ≤ maxLen := by rw [ba_size]; exact h x hx
  unfold dstep
  split
  · exact ⟨.inl rfl, hb⟩
  · exact ⟨.inr rfl, hb⟩
theorem k_main (t : ByteArray) : kf [⟨pMain, t⟩] = upd (fun _ => none) (.string [109, 97, 105, 110]) (some (.string t)) := rfl
theorem k_both (t u : ByteArray) : kf [⟨pMain, t⟩, ⟨pQ, u⟩] = upd (kf [⟨pMain, t⟩]) (.string [113]) (some (.string u)) := rfl
theorem keys_one (t u : ByteArray) : KeysL (oddf (kf [⟨pMain, t⟩, ⟨pQ, u⟩]) (kf [⟨pMain, t⟩])) [[113]] := by
  refine ⟨by simp, by simp, fun x => ?_⟩
  rw [odd_some, k_both]
  by_cases h : x = [113]
  · subst h
    rw [upd_same, k_main, upd_other _ _ (by intro e; injection e with e; simp at e)]
    simp
  · rw [upd_other _ _ (by intro e; injection e with e; exact h e)]
    simp [h]
theorem keys_two (t u : ByteArray) : KeysL (oddf (kf [⟨pMain, t⟩, ⟨pQ, u⟩]) (kf [])) [[109, 97, 105, 110], [113]] := by
  refine ⟨by simp [leB]; decide, by simp, fun x => ?_⟩
  rw [odd_some, k_both]
  by_cases h : x = [113]
  · subst h
    rw [upd_same]
    simp [kf]
  · rw [upd_other _ _ (by intro e; injection e with e; exact h e), k_main]
    by_cases h2 : x = [109, 97, 105, 110]
    · subst h2
      rw [upd_same]
      simp [kf]
    · rw [upd_other _ _ (by intro e; injection e with e; exact h2 e)]
      simp [h, h2, kf]
theorem d_one (t : ByteArray) : ([([113] : List UInt8)].map (dstep (kf [⟨pMain, t⟩]))).map Stp.row = [[.int .i64 1, .string ⟨#[113]⟩, .string ⟨#[]⟩, .int .i64 0, .slice none 0 0]] := by
  have : dstep (kf [⟨pMain, t⟩]) [113] = ⟨1, ba [113], ⟨#[]⟩⟩ := by
    unfold dstep
    rw [k_main, upd_other _ _ (by intro e; injection e with e; simp at e), if_neg (by simp)]
  simp only [List.map_cons, List.map_nil, this]
  rfl
set_option maxHeartbeats 1000000 in
theorem knows_any (w : World) : Calls Try.prog 5 #[] w fun x w' => x = .returned (.bool true) ∧ Only [] w w' := by
  obtain ⟨t1, t2, hsam, ht1, ht2⟩ := sample_any
  have HSAM := Lib.hid hsam
  have hsh2 : Short [(⟨pMain, t1⟩ : Src), ⟨pQ, t2⟩] := by
    intro s hs
    simp at hs
    rcases hs with rfl | rfl
    · exact ⟨(by decide : pMain.size ≤ 1000000), by simp only; omega⟩
    · exact ⟨(by decide : pQ.size ≤ 1000000), by simp only; omega⟩
  have hsh1 : Short [(⟨pMain, t1⟩ : Src)] := fun s hs => hsh2 s (by simp at hs; simp [hs])
  have HS1 := Lib.hid hsh1
  have HS2 := Lib.hid hsh2
  clear hsam hsh1 hsh2
  go_enter Try.func5, Try.ntmps5
  go_wp2_with fail
  refine (HSAM.out w).mono ?_
  rintro x w1 ⟨A1, rfl, hr1, ho1⟩
  have HR1 := Lib.hid hr1
  have HO1 := Lib.hid ho1
  clear hr1 ho1
  go_wp2_with fail
  refine (HSAM.out w1).mono ?_
  rintro x w2 ⟨A2, rfl, hr2, ho2⟩
  have HD := Lib.hid (diff_any (some A1) 2 2 _ (some A2) 1 2 [⟨pMain, t1⟩] w2 ((HR1.out.only ho2 (by simp)).more ho2.size) (recs_head (k := 1) hr2 (by omega)) HS2.out HS1.out (by omega) (by omega))
  have HO2 := Lib.hid (HO1.out.trans ho2 (by simp))
  clear hr2 ho2 HR1 HO1
  go_wp2_with fail
  refine HD.out.mono ?_
  rintro x w3 ⟨v, ss, rfl, hkl, _, _, hown, ho3⟩
  obtain rfl : ss = [[113]] := hkl.uniq (keys_one t1 t2)
  rw [d_one] at hown
  have hown : OwnR 34 5 w3 w2.heap.size v 1 [[.int .i64 1, .string ⟨#[113]⟩, .string ⟨#[]⟩, .int .i64 0, .slice none 0 0]] := hown
  obtain ⟨Ad, cd, rfl, _, _, hrd, _⟩ := hown.shape (by decide)
  obtain ⟨hl1, hc⟩ := hrd
  obtain ⟨b, off, rfl, hb, hcell⟩ := hc (by omega)
  have c0 : w3.cell? ⟨b, off, none⟩ = some (.int .i64 1) := by simpa using (hcell 0 (by omega) 0 (by omega)).1
  have c1 : w3.cell? ⟨b, off + 1, none⟩ = some (.string ⟨#[113]⟩) := by simpa using (hcell 0 (by omega) 1 (by omega)).1
  have HO3 := Lib.hid (HO2.out.trans ho3 (by simp))
  clear hkl hown ho3 hcell hc hl1 HD HO2
  go_wp2_with fail
  refine (HSAM.out w3).mono ?_
  rintro x w4 ⟨A4, rfl, hr4, ho4⟩
  have HU := Lib.hid (unlike_any (some A4) 2 2 _ none 0 0 [] w4 hr4 Recs.nil_ HS2.out (by intro s hs; cases hs) (by omega) (by omega))
  have HO4 := Lib.hid (HO3.out.trans ho4 (by simp))
  clear hr4 ho4 HO3
  go_wp2_with fail
  refine HU.out.mono ?_
  rintro x w5 ⟨v5, s5, rfl, hk5, _, _, hown5, ho5⟩
  obtain rfl : s5 = [[109, 97, 105, 110], [113]] := hk5.uniq (keys_two t1 t2)
  obtain ⟨A5, c5, rfl, _⟩ := hown5.shape (by decide)
  have HO5 := Lib.hid (HO4.out.trans ho5 (by simp))
  clear hk5 hown5 ho5 HU HO4
  go_wp2_with fail
  go_ret
  exact ⟨rfl, HO5.out⟩
end Go.Proofs.Ytphpgbnpmplkhaa.Edits
