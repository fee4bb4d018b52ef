/- Graph: Order's closures; IndexFunc, ContainsFunc over paths and nodes. PRINTED by wip/gen_gidx.py. -/
import Derived.Test.YtdfiibnpckahnaaGPaths
namespace Go.Proofs.Ytdfiibnpckahnaa.Graph
open Go.RowKit Go.Shelf Go.Maps
set_option linter.unusedVariables false
set_option maxRecDepth 100000
theorem any_take {α : Type} {xs : List α} {p : α → Bool} {k : Nat} {a : α} (hk : xs[k]? = some a) (hp : p a = true) : xs.any p = true := by
  rw [List.any_eq_true]
  exact ⟨a, List.mem_of_getElem? hk, hp⟩
theorem none_take {α : Type} {xs : List α} {p : α → Bool} {k : Nat} {a : α} (hk : xs[k]? = some a) (hp : p a = false) (h : (xs.take k).any p = false) : (xs.take (k + 1)).any p = false := by
  obtain ⟨h1, h2⟩ := List.getElem?_eq_some_iff.1 hk
  rw [List.take_succ_eq_append_getElem h1, List.any_append, h2, h]
  simp [hp]
theorem order1_any {w : World} {mb b n : Nat} {F : Lit → Option Value} {ps : List Path} (hb : w.cell? ⟨mb, 0, none⟩ = some (.map (some b))) (hv : VM Try.prog 9 w b n F) (hF : IsPM F ps) (p : Path) (hp : p.length ≤ 300) :
    Calls Try.prog 20 #[.string (str p), .pointer (some ⟨mb, 0, none⟩)] w fun y w' => y = .returned (.bool (!decide (p ∈ ps))) ∧ Only [] w w' := by
  obtain ⟨s, A, n2, c2, hlk⟩ := look_pm hv hF p hp
  clear hv hF
  generalize decide (p ∈ ps) = d at *
  go_enter Try.func20, Try.ntmps20
  go_wp2_with fail
  go_ret
  exact ⟨rfl, (Only.refl [] w).alloc _⟩
set_option maxHeartbeats 4000000 in
theorem mis_index {w : World} {A : Option Addr} {n c : Nat} {q : Nat} (xs : List Path) (p : Path → Bool) (hr : Reads w w.heap.size 1 A n (xs.map sv)) (hn : n ≤ 1000000) (HP : ∀ wr, Only [] w wr → ∀ a ∈ xs, Calls Try.prog 20 #[.string (str a), .pointer (some ⟨q, 0, none⟩)] wr fun y w' => y = .returned (.bool (p a)) ∧ Only [] wr w') :
    Calls Try.prog 39 #[.slice A n c, .func (.func 20) #[] #[.pointer (some ⟨q, 0, none⟩)]] w fun y w' => ∃ r : Int, y = .returned (.int .i64 r) ∧ decide (0 ≤ r) = xs.any p ∧ Only [] w w' := by
  have hl : xs.length = n := by have := hr.1; simpa using this
  have HL := Lib.hid hl
  have HR := Lib.hid hr
  have HPC := Lib.hid HP
  clear hr hl HP
  go_enter Try.func39, Try.ntmps39
  go_wp2_with fail
  go_loopw [8] (fun i wr => ∃ j : Nat, j ≤ n ∧ i = .int .i64 j ∧ Only [] w wr ∧ (xs.take j).any p = false) (fun i _ => n - (Go.RowKit.intOf i).toNat)
  case atStart => exact ⟨0, by omega, rfl, Only.refl _ _, by simp⟩
  case round =>
    obtain ⟨j, hj, rfl, ho, hne⟩ := hrel
    by_cases hlt : j < n
    · have d1 : decide ((j : Int) < (n : Int)) = true := decide_eq_true (by omega)
      have hlt2 : j < xs.length := by rw [HL.out]; exact hlt
      obtain ⟨b, off, rfl, _, hc⟩ := Reads.at1 HR.out hlt
      obtain ⟨a, haj⟩ : ∃ a, xs[j]? = some a := ⟨_, List.getElem?_eq_getElem hlt2⟩
      rw [List.getElem?_map, haj] at hc
      have q0 : wr.cell? ⟨b, off + j, none⟩ = some (.string (str a)) := ho.cell hc (by simp)
      clear hc
      have HC := Lib.hid (HPC.out wr ho a (List.mem_of_getElem? haj))
      have HAJ := Lib.hid haj
      have HNE := Lib.hid hne
      have HO := Lib.hid ho
      clear haj hne ho
      obtain ⟨pb, hpb⟩ : ∃ pb, p a = pb := ⟨_, rfl⟩
      rw [hpb] at HC
      have HPB := Lib.hid hpb
      clear hpb
      cases pb
      · go_wp2_with (go_at_call 20; refine HC.out.mono ?_; rintro y w2 ⟨rfl, ho2⟩; have HO2 := Lib.hid (HO.out.trans ho2 (by simp)); clear ho2)
        go_roundw
        case measure => simp [Go.RowKit.intOf]; omega
        case rel => exact ⟨j + 1, by omega, by go_num, HO2.out, none_take HAJ.out HPB.out HNE.out⟩
      · go_wp2_with (go_at_call 20; refine HC.out.mono ?_; rintro y w2 ⟨rfl, ho2⟩; have HO2 := Lib.hid (HO.out.trans ho2 (by simp)); clear ho2)
        go_ret
        exact ⟨(j : Int), rfl, by rw [any_take HAJ.out HPB.out]; exact decide_eq_true (by omega), HO2.out⟩
    · obtain rfl : j = n := by omega
      have d1 : decide ((j : Int) < (j : Int)) = false := decide_eq_false (by omega)
      rw [List.take_of_length_le (by rw [HL.out]; exact Nat.le_refl _)] at hne
      have HNE := Lib.hid hne
      clear hne
      go_wp2_with fail
      go_ret
      exact ⟨-1, rfl, by rw [HNE.out]; rfl, ho⟩
theorem mis_contains {w : World} {A : Option Addr} {n c : Nat} {q : Nat} (xs : List Path) (p : Path → Bool) (hr : Reads w w.heap.size 1 A n (xs.map sv)) (hn : n ≤ 1000000) (HP : ∀ wr, Only [] w wr → ∀ a ∈ xs, Calls Try.prog 20 #[.string (str a), .pointer (some ⟨q, 0, none⟩)] wr fun y w' => y = .returned (.bool (p a)) ∧ Only [] wr w') :
    Calls Try.prog 23 #[.slice A n c, .func (.func 20) #[] #[.pointer (some ⟨q, 0, none⟩)]] w fun y w' => y = .returned (.bool (xs.any p)) ∧ Only [] w w' := by
  have HI := Lib.hid (mis_index (A := A) (n := n) (c := c) (q := q) xs p hr hn HP)
  clear hr HP
  go_enter Try.func23, Try.ntmps23
  go_wp2_with (go_at_call 39; refine HI.out.mono ?_; rintro y w2 ⟨r, rfl, hr, ho2⟩; have HO2 := Lib.hid ho2; have HD := Lib.hid hr; clear ho2 hr)
  go_ret
  refine ⟨?_, HO2.out⟩
  rw [← HD.out]
  rfl
theorem order2_any {w : World} {fb mb b n : Nat} {F : Lit → Option Value} {ps : List Path} (hf : w.cell? ⟨fb, 0, none⟩ = some (.func (.func 20) #[] #[.pointer (some ⟨mb, 0, none⟩)])) (hb : w.cell? ⟨mb, 0, none⟩ = some (.map (some b))) (hv : VM Try.prog 9 w b n F) (hF : IsPM F ps) (x : ND) (hx : x.in_ w w.heap.size) :
    Calls Try.prog 22 #[x.val, .pointer (some ⟨fb, 0, none⟩)] w fun y w' => y = .returned (.bool (x.imps.any (fun i => !decide (i ∈ ps)))) ∧ Only [] w w' := by
  unfold ND.val
  have ho1 := (Only.refl [] w).alloc (.cells #[.string (str x.path), .slice x.IA x.imps.length x.Ic] 43)
  have f1 := ho1.cell hf (by simp)
  have hbn := Blk.new w 43 #[.string (str x.path), .slice x.IA x.imps.length x.Ic]
  have z1 := hbn.cell 1
  have HC := Lib.hid (mis_contains (w := w.alloc (.cells #[.string (str x.path), .slice x.IA x.imps.length x.Ic] 43)) (A := x.IA) (n := x.imps.length) (c := x.Ic) (q := mb) x.imps (fun i => !decide (i ∈ ps)) ((hx.r.only ho1 (by simp)).more (by rw [World.size_alloc]; omega)) (by have := hx.c.1; omega) (fun wr ho a ha => order1_any ((ho1.trans ho (by simp)).cell hb (by simp)) (hv.only (ho1.trans ho (by simp)) (by simp)) hF a (hx.c.2.2 a ha)))
  have HO1 := Lib.hid ho1
  clear ho1 hbn hv hF hb hf hx
  go_enter Try.func22, Try.ntmps22
  go_upto_region 1 with fail
  generalize w.alloc (.cells #[.string (str x.path), .slice x.IA x.imps.length x.Ic] 43) = w1 at *
  go_wp2_with (go_at_call 23; refine HC.out.mono ?_; rintro y w2 ⟨rfl, ho2⟩; have HO2 := Lib.hid (HO1.out.trans ho2 (by simp)); clear ho2)
  go_ret
  exact ⟨rfl, HO2.out⟩
set_option maxHeartbeats 4000000 in
theorem nom_index {w : World} {A : Option Addr} {n c : Nat} {q : Nat} (xs : List ND) (p : ND → Bool) (hr : Recs w w.heap.size 2 A n (xs.map ND.row)) (hn : n ≤ 1000000) (HP : ∀ wr, Only [] w wr → ∀ a ∈ xs, Calls Try.prog 22 #[a.val, .pointer (some ⟨q, 0, none⟩)] wr fun y w' => y = .returned (.bool (p a)) ∧ Only [] wr w') :
    Calls Try.prog 38 #[.slice A n c, .func (.func 22) #[] #[.pointer (some ⟨q, 0, none⟩)]] w fun y w' => ∃ r : Int, y = .returned (.int .i64 r) ∧ decide (0 ≤ r) = xs.any p ∧ Only [] w w' := by
  have hl : xs.length = n := by have := hr.1; simpa using this
  have HL := Lib.hid hl
  have HR := Lib.hid hr
  have HPC := Lib.hid HP
  clear hr hl HP
  go_enter Try.func38, Try.ntmps38
  go_wp2_with fail
  go_loopw [8] (fun i wr => ∃ j : Nat, j ≤ n ∧ i = .int .i64 j ∧ Only [] w wr ∧ (xs.take j).any p = false) (fun i _ => n - (Go.RowKit.intOf i).toNat)
  case atStart => exact ⟨0, by omega, rfl, Only.refl _ _, by simp⟩
  case round =>
    obtain ⟨j, hj, rfl, ho, hne⟩ := hrel
    by_cases hlt : j < n
    · have d1 : decide ((j : Int) < (n : Int)) = true := decide_eq_true (by omega)
      have hlt2 : j < xs.length := by rw [HL.out]; exact hlt
      obtain ⟨b, off, rfl, _, a, _, haj, h0, h1⟩ := nd_at HR.out j hlt
      have q0 := ho.cell h0 (by simp)
      have q1 := ho.cell h1 (by simp)
      unfold sv at q0
      clear h0 h1
      have HC := Lib.hid (HPC.out wr ho a (List.mem_of_getElem? haj))
      have HAJ := Lib.hid haj
      have HNE := Lib.hid hne
      have HO := Lib.hid ho
      clear haj hne ho
      obtain ⟨pb, hpb⟩ : ∃ pb, p a = pb := ⟨_, rfl⟩
      rw [hpb] at HC
      have HPB := Lib.hid hpb
      clear hpb
      cases pb
      · go_wp2_with (go_at_call 22; refine HC.out.mono ?_; rintro y w2 ⟨rfl, ho2⟩; have HO2 := Lib.hid (HO.out.trans ho2 (by simp)); clear ho2)
        go_roundw
        case measure => simp [Go.RowKit.intOf]; omega
        case rel => exact ⟨j + 1, by omega, by go_num, HO2.out, none_take HAJ.out HPB.out HNE.out⟩
      · go_wp2_with (go_at_call 22; refine HC.out.mono ?_; rintro y w2 ⟨rfl, ho2⟩; have HO2 := Lib.hid (HO.out.trans ho2 (by simp)); clear ho2)
        go_ret
        exact ⟨(j : Int), rfl, by rw [any_take HAJ.out HPB.out]; exact decide_eq_true (by omega), HO2.out⟩
    · obtain rfl : j = n := by omega
      have d1 : decide ((j : Int) < (j : Int)) = false := decide_eq_false (by omega)
      rw [List.take_of_length_le (by rw [HL.out]; exact Nat.le_refl _)] at hne
      have HNE := Lib.hid hne
      clear hne
      go_wp2_with fail
      go_ret
      exact ⟨-1, rfl, by rw [HNE.out]; rfl, ho⟩
theorem nom_contains {w : World} {A : Option Addr} {n c : Nat} {q : Nat} (xs : List ND) (p : ND → Bool) (hr : Recs w w.heap.size 2 A n (xs.map ND.row)) (hn : n ≤ 1000000) (HP : ∀ wr, Only [] w wr → ∀ a ∈ xs, Calls Try.prog 22 #[a.val, .pointer (some ⟨q, 0, none⟩)] wr fun y w' => y = .returned (.bool (p a)) ∧ Only [] wr w') :
    Calls Try.prog 21 #[.slice A n c, .func (.func 22) #[] #[.pointer (some ⟨q, 0, none⟩)]] w fun y w' => y = .returned (.bool (xs.any p)) ∧ Only [] w w' := by
  have HI := Lib.hid (nom_index (A := A) (n := n) (c := c) (q := q) xs p hr hn HP)
  clear hr HP
  go_enter Try.func21, Try.ntmps21
  go_wp2_with (go_at_call 38; refine HI.out.mono ?_; rintro y w2 ⟨r, rfl, hr, ho2⟩; have HO2 := Lib.hid ho2; have HD := Lib.hid hr; clear ho2 hr)
  go_ret
  refine ⟨?_, HO2.out⟩
  rw [← HD.out]
  rfl
end Go.Proofs.Ytdfiibnpckahnaa.Graph
