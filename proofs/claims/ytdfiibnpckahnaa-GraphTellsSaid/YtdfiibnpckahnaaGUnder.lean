/- graph.reach, Under, Over. -/
import Derived.Test.YtdfiibnpckahnaaGNext
import Derived.Test.YtdfiibnpckahnaaIter
namespace Go.Proofs.Ytdfiibnpckahnaa.Graph
open Go.RowKit Go.Shelf Go.Maps
set_option linter.unusedVariables false
set_option maxRecDepth 100000
theorem own_singles {w : World} {base : Nat} {v : Value} {ss : List (List UInt8)} (h : w.ownsRow base 9 1 v ss.length (ss.map Go.Proofs.encStr)) : OwnR 9 1 w base v ss.length (svs ss) :=
  ⟨by unfold svs; simp, by intro r hr; unfold svs at hr; obtain ⟨x, _, rfl⟩ := List.mem_map.1 hr; rfl, by rw [svs_flat]; exact h⟩
theorem sorted_bool (b n : Nat) (f : Lit → Option Value) (w : World) (h : VM Try.prog 9 w b n f) (hn : n ≤ 3000000) :
    Calls Try.prog 28 #[.func (.func 59) #[] #[.pointer (some ⟨w.heap.size, 0, none⟩)]] (w.alloc (.cells #[.map (some b)] 78)) fun e w' => ∃ v ss, e = .returned v ∧ KeysL f ss ∧ ss.length ≤ n ∧ OwnR 9 1 w' w.heap.size v ss.length (svs ss) ∧ Only [] w w' := by
  obtain ⟨D, hD, rfl⟩ := h
  have hs := hD.size_le
  refine ((callsIn_wide (n := 5)).1 (Try.slices_Sorted_keys_28_51 b n D RV w hD (by unfold maxLen; omega) (by omega))).mono ?_
  rintro e w' ⟨v, ss, rfl, hp, hrow, _, hb⟩
  obtain ⟨hk, hl⟩ := keysL_of hD Try.underlying9 hp
  have he : ss.length = (ss.mergeSort (fun x y => decide (x ≤ y))).length := (List.length_mergeSort ss).symm
  refine ⟨v, _, rfl, hk, by rw [← he]; exact hl, ?_, (((Only.refl [] w).alloc _).trans (Only.of_below hb) (by simp))⟩
  rw [he] at hrow
  exact OwnR.mono (own_singles hrow) (by rw [World.size_alloc]; omega)
theorem sorted_int (b n : Nat) (f : Lit → Option Value) (w : World) (h : VM Try.prog 9 w b n f) (hn : n ≤ 3000000) :
    Calls Try.prog 28 #[.func (.func 48) #[] #[.pointer (some ⟨w.heap.size, 0, none⟩)]] (w.alloc (.cells #[.map (some b)] 59)) fun e w' => ∃ v ss, e = .returned v ∧ KeysL f ss ∧ ss.length ≤ n ∧ OwnR 9 1 w' w.heap.size v ss.length (svs ss) ∧ Only [] w w' := by
  obtain ⟨D, hD, rfl⟩ := h
  have hs := hD.size_le
  refine ((callsIn_wide (n := 5)).1 (Try.slices_Sorted_keys_28_29 b n D RV w hD (by unfold maxLen; omega) (by omega))).mono ?_
  rintro e w' ⟨v, ss, rfl, hp, hrow, _, hb⟩
  obtain ⟨hk, hl⟩ := keysL_of hD Try.underlying9 hp
  have he : ss.length = (ss.mergeSort (fun x y => decide (x ≤ y))).length := (List.length_mergeSort ss).symm
  refine ⟨v, _, rfl, hk, by rw [← he]; exact hl, ?_, (((Only.refl [] w).alloc _).trans (Only.of_below hb) (by simp))⟩
  rw [he] at hrow
  exact OwnR.mono (own_singles hrow) (by rw [World.size_alloc]; omega)
theorem keysB (b : Nat) (w : World) : Calls Try.prog 51 #[.map (some b)] w fun e w' => e = .returned (.func (.func 59) #[] #[.pointer (some ⟨w.heap.size, 0, none⟩)]) ∧ w' = w.alloc (.cells #[.map (some b)] 78) :=
  (callsIn_wide (n := 5)).1 (Try.maps_Keys_51 (some b) w)
theorem keysI (b : Nat) (w : World) : Calls Try.prog 29 #[.map (some b)] w fun e w' => e = .returned (.func (.func 48) #[] #[.pointer (some ⟨w.heap.size, 0, none⟩)]) ∧ w' = w.alloc (.cells #[.map (some b)] 59) :=
  (callsIn_wide (n := 5)).1 (Try.maps_Keys_29 (some b) w)
/-- what reach leaves -/
def ReachO (w : World) (nx : Path → List Path) (s : Path) (y : Ending) (w' : World) : Prop := ∃ v ss, y = .returned v ∧ OwnR 9 1 w' w.heap.size v ss.length (svs ss) ∧ Only [] w w' ∧ ∀ l, Ris l → (∀ t, t ∈ l ↔ Rch nx s t) → ss = l
section
variable {w w' : World} {F lb : Nat}
set_option maxHeartbeats 4000000 in
theorem reach_any {nx : Path → List Path} {U : List Path} (hU : ∀ s, ∀ t ∈ nx s, t ∈ U) (hU3 : ∀ t ∈ U, t.length ≤ 300) (hUl : U.length ≤ 100000) (hnl : ∀ s, (nx s).length ≤ 100000) (hN : ∀ sm, w.heap.size ≤ sm → NextC w sm F lb nx) (eg : ∀ (args : Array Value) (w : World), (callFunc F args).run Try.prog w = .ok (.enter F args) w) (s : Path) (hs : s.length ≤ 300) :
    Calls Try.prog 33 #[.string (str s), .func (.func F) #[] #[.pointer (some ⟨lb, 0, none⟩)]] w fun y w' => ReachO w nx s y w' := by
  have hmm := @run_makeMap Try.prog
  have hsf := run_store_func Try.prog
  obtain ⟨w1, hw1⟩ : ∃ w1, w.alloc (.cells #[.func (.func F) #[] #[.pointer (some ⟨lb, 0, none⟩)]] 68) = w1 := ⟨_, rfl⟩
  have b1 : Blk w1 w.heap.size 68 #[.func (.func F) #[] #[.pointer (some ⟨lb, 0, none⟩)]] := by rw [← hw1]; exact Blk.new w _ _
  have o1 : Only [] w w1 := by rw [← hw1]; exact (Only.refl [] w).alloc _
  have z1 : w1.heap.size = w.heap.size + 1 := by rw [← hw1]; exact World.size_alloc _ _
  obtain ⟨w2, hw2⟩ : ∃ w2, w1.alloc (.map #[] 0) = w2 := ⟨_, rfl⟩
  have m2 : SeenM w2 w1.heap.size [] := by rw [← hw2]; exact SeenM.made w1
  have o2 : Only [] w1 w2 := by rw [← hw2]; exact (Only.refl [] w1).alloc _
  have z2 : w2.heap.size = w.heap.size + 1 + 1 := by rw [← hw2, World.size_alloc, z1]
  obtain ⟨w3, hw3⟩ : ∃ w3, w2.alloc (.cells #[.map (some (w.heap.size + 1))] 78) = w3 := ⟨_, rfl⟩
  have b3 : Blk w3 w2.heap.size 78 #[.map (some (w.heap.size + 1))] := by rw [← hw3]; exact Blk.new w2 _ _
  have o3 : Only [] w2 w3 := by rw [← hw3]; exact (Only.refl [] w2).alloc _
  have z3 : w3.heap.size = w.heap.size + 1 + 1 + 1 := by rw [← hw3, World.size_alloc, z2]
  obtain ⟨w4, hw4⟩ : ∃ w4, w3.alloc (.cells #[.func (.func 50) #[] #[.pointer (some ⟨w.heap.size, 0, none⟩), .pointer (some ⟨w.heap.size + 1 + 1, 0, none⟩), .pointer (some ⟨w.heap.size + 1 + 1 + 1, 0, none⟩)]] 79) = w4 := ⟨_, rfl⟩
  have b4 : Blk w4 w3.heap.size 79 #[.func (.func 50) #[] #[.pointer (some ⟨w.heap.size, 0, none⟩), .pointer (some ⟨w.heap.size + 1 + 1, 0, none⟩), .pointer (some ⟨w.heap.size + 1 + 1 + 1, 0, none⟩)]] := by rw [← hw4]; exact Blk.new w3 _ _
  have o4 : Only [] w3 w4 := by rw [← hw4]; exact (Only.refl [] w3).alloc _
  have o24 := o3.trans o4 (by simp)
  have o14 := o2.trans o24 (by simp)
  have o04 := o1.trans o14 (by simp)
  have hrs : RcS w4 w.heap.size (w.heap.size + 1 + 1) (w.heap.size + 1 + 1 + 1) (w.heap.size + 1) F lb [] := by
    refine ⟨o14.cell (b1.cell 0) (by simp), ?_, ?_, ⟨by omega, by omega, by omega⟩, ?_⟩
    · have h := o4.cell (b3.cell 0) (by simp)
      rw [z2] at h
      exact h
    · have h := b4.cell 0
      rw [z3] at h
      exact h
    · rw [← z1]; exact m2.only o24
  have HW := Lib.hid (walk_all (nb := w.heap.size) (sb := w.heap.size + 1 + 1) (wb := w.heap.size + 1 + 1 + 1) (w0 := w4) hU hU3 hUl hnl (fun wx s' ho => hN (w.heap.size + 1) (by omega) wx s' ((o04.mono (by simp)).trans ho (fun g h => .inl h))) eg U.length [] s w4 (by simp) (by simp) (by simp) (Only.refl _ _) hrs hs)
  have HO4 := Lib.hid o04
  have HC4 := Lib.hid hrs.k
  have HUL := Lib.hid hUl
  have HW1 := Lib.hid hw1
  have HW2 := Lib.hid hw2
  have HW3 := Lib.hid hw3
  have HW4 := Lib.hid hw4
  clear b1 o1 z1 m2 o2 z2 b3 o3 z3 b4 o4 o24 o14 o04 hrs hN hU hU3 hUl hnl eg hw1 hw2 hw3 hw4
  go_enter Try.func33, Try.ntmps33
  go_upto_region 4 with fail
  rw [HW1.out, HW2.out, HW3.out, HW4.out]
  clear hmm hsf HW1 HW2 HW3 HW4
  have c4 := HC4.out
  go_upto_region 5 with (go_at_call 50; refine HW.out.mono ?_; rintro y w5 ⟨rfl, S', hP⟩; have HP := Lib.hid hP; clear hP)
  have c5 := HP.out.2.2.1.s
  obtain ⟨FF, hv, hF⟩ := HP.out.2.2.1.m
  have hln : S'.length ≤ 3000000 := by
    have := nodup_le HP.out.1 HP.out.2.1
    have := HUL.out
    omega
  have HS := Lib.hid (sorted_bool (w.heap.size + 1) S'.length FF w5 hv hln)
  have HFF := Lib.hid hF
  have HO5 := Lib.hid (HO4.out.trans HP.out.2.2.2.1 (fun g h => .inr (by rw [List.mem_singleton.1 h]; omega)))
  have HK := Lib.hid (keysB (w.heap.size + 1) w5)
  clear hv hF hln c4
  go_wp2_with (first
    | (go_at_call 51; refine HK.out.mono ?_; rintro x wk ⟨rfl, hwk⟩; subst hwk)
    | (go_at_call 28; refine HS.out.mono ?_; rintro x w7 ⟨v, ss, rfl, hkl, hsl, hown, ho7⟩; have HR := Lib.hid (And.intro hkl (And.intro hown ho7)); clear hkl hsl hown ho7))
  go_ret
  refine ⟨v, ss, rfl, HR.out.2.1.mono HO5.out.size, HO5.out.trans HR.out.2.2 (by simp), fun l hl hm => ?_⟩
  refine hl.keys (fun x => ?_) HR.out.1
  rw [hm, ← walkR_rch HP.out.2.2.2.2, HFF.out]
  by_cases e : x ∈ S' <;> simp [e]
theorem eg_under (args : Array Value) (w : World) : (callFunc 34 args).run Try.prog w = .ok (.enter 34 args) w := by go_simp
theorem eg_over (args : Array Value) (w : World) : (callFunc 36 args).run Try.prog w = .ok (.enter 36 args) w := by go_simp
end
end Go.Proofs.Ytdfiibnpckahnaa.Graph
