/- KeysA: The keys of maps, sorted; verify.called: what a part calls; The tree of calls, as it lies. -/
import Derived.Test.YtkdacemachejoaaVePartq
import Derived.Test.YtkdacemachejoaaReachA
import Derived.Test.YtkdacemachejoaaIter
namespace Go.Proofs.Ytkdacemachejoaa.Vm
open Go.RowKit Go.Maps Go.Shelf Object
set_option linter.unusedVariables false
set_option maxRecDepth 100000
theorem intsR_flat (L : List Nat) : (intsR L).flatten = (zs L).map encZ := by
  induction L with
  | nil => rfl
  | cons a L ih =>
    unfold intsR zs at *
    simp only [List.map_cons, List.flatten_cons, ih]
    rfl
theorem keysI_asc {f : Lit → Option Value} {L : List Nat} (hL : Asc L) (hk : ∀ x : Int, (f (pk x)).isSome = true ↔ ∃ t ∈ L, x = (t : Int)) : KeysI f (zs L) := by
  refine ⟨?_, ?_, fun x => ?_⟩
  · unfold zs
    rw [List.pairwise_map]
    exact hL.imp (fun h => by omega)
  · unfold zs
    rw [List.Nodup, List.pairwise_map]
    exact hL.imp (fun h => by omega)
  · rw [show (Lit.int .i64 x) = pk x from rfl, hk]
    unfold zs
    rw [List.mem_map]
    exact ⟨fun ⟨t, h1, h2⟩ => ⟨t, h1, h2.symm⟩, fun ⟨t, h1, h2⟩ => ⟨t, h1, h2.symm⟩⟩
theorem row_of_keys {w w' : World} {b n : Nat} {D : DataW Value} {v : Value} {ss : List Int} {L : List Nat} {B : Nat} (hD : w.ownsMap Try.prog 3 RV b n D) (hL : Asc L) (hk : ∀ x : Int, (look D (pk x)).isSome = true ↔ ∃ t ∈ L, x = (t : Int)) (hp : ss.Perm (intKeys D))
    (hrow : w'.ownsRow B 3 1 v ss.length ((ss.mergeSort (fun x y => decide (x ≤ y))).map encZ)) : OwnR 3 1 w' B v L.length (intsR L) := by
  obtain ⟨h1, h2⟩ := keysI_of hD Try.underlying3 hp
  have he := h1.uniq (keysI_asc hL hk)
  have hlen : ss.length = L.length := by
    have h3 := congrArg List.length he
    rw [List.length_mergeSort] at h3
    rw [h3]
    unfold zs
    rw [List.length_map]
  rw [he, hlen] at hrow
  refine ⟨intsR_len L, fun r hr => ?_, ?_⟩
  · unfold intsR at hr
    obtain ⟨x, _, rfl⟩ := List.mem_map.1 hr
    rfl
  · rw [intsR_flat]
    exact hrow
theorem keysB_call (b : Nat) (w : World) : Calls Try.prog 53 #[.map (some b)] w fun e w' => e = .returned (.func (.func 74) #[] #[.pointer (some ⟨w.heap.size, 0, none⟩)]) ∧ w' = w.alloc (.cells #[.map (some b)] 64) :=
  (callsIn_wide (n := 5)).1 (Try.maps_Keys_53 (some b) w)
theorem sortedB_call {w : World} {b n : Nat} {f : Lit → Option Value} {L : List Nat} (h : VM Try.prog 3 w b n f) (hn : n ≤ 100000) (hL : Asc L) (hk : ∀ x : Int, (f (pk x)).isSome = true ↔ ∃ t ∈ L, x = (t : Int)) :
    Calls Try.prog 30 #[.func (.func 74) #[] #[.pointer (some ⟨w.heap.size, 0, none⟩)]] (w.alloc (.cells #[.map (some b)] 64)) fun e w' => ∃ v, e = .returned v ∧ OwnR 3 1 w' w.heap.size v L.length (intsR L) ∧ Only [] w w' := by
  obtain ⟨D, hD, rfl⟩ := h
  have hs := hD.size_le
  refine ((callsIn_wide (n := 5)).1 (Try.slices_Sorted_keys_30_53 b n D RV w hD (by unfold maxLen; omega) (by omega))).mono ?_
  rintro e w' ⟨v, ss, rfl, hp, hrow, _, hb⟩
  exact ⟨v, rfl, (row_of_keys hD hL hk hp hrow).mono (by rw [World.size_alloc]; omega), ((Only.refl [] w).alloc _).trans (Only.of_below hb) (by simp)⟩
theorem keysL_call (b : Nat) (w : World) : Calls Try.prog 31 #[.map (some b)] w fun e w' => e = .returned (.func (.func 51) #[] #[.pointer (some ⟨w.heap.size, 0, none⟩)]) ∧ w' = w.alloc (.cells #[.map (some b)] 69) :=
  (callsIn_wide (n := 5)).1 (Try.maps_Keys_31 (some b) w)
theorem sortedL_call {w : World} {b n : Nat} {f : Lit → Option Value} {L : List Nat} (h : VM Try.prog 3 w b n f) (hn : n ≤ 100000) (hL : Asc L) (hk : ∀ x : Int, (f (pk x)).isSome = true ↔ ∃ t ∈ L, x = (t : Int)) :
    Calls Try.prog 30 #[.func (.func 51) #[] #[.pointer (some ⟨w.heap.size, 0, none⟩)]] (w.alloc (.cells #[.map (some b)] 69)) fun e w' => ∃ v, e = .returned v ∧ OwnR 3 1 w' w.heap.size v L.length (intsR L) ∧ Only [] w w' := by
  obtain ⟨D, hD, rfl⟩ := h
  have hs := hD.size_le
  refine ((callsIn_wide (n := 5)).1 (Try.slices_Sorted_keys_30_31 b n D RV w hD (by unfold maxLen; omega) (by omega))).mono ?_
  rintro e w' ⟨v, ss, rfl, hp, hrow, _, hb⟩
  exact ⟨v, rfl, (row_of_keys hD hL hk hp hrow).mono (by rw [World.size_alloc]; omega), ((Only.refl [] w).alloc _).trans (Only.of_below hb) (by simp)⟩
end Go.Proofs.Ytkdacemachejoaa.Vm
namespace Go.Proofs.Ytkdacemachejoaa.Vm
open Go.RowKit Go.Maps Go.Shelf Object
set_option linter.unusedVariables false
set_option maxRecDepth 100000
def mkT (u : Unit) : Value := .bool true
theorem seenF_val {vis : List Int} {l : Lit} {v : Value} (h : seenF vis l = some v) : ∃ c, v = mkT c := by
  unfold seenF at h
  split at h
  · split at h
    · exact ⟨(), (Option.some.inj h).symm⟩
    · cases h
  · cases h
theorem seenF_mem {vis : List Int} {d : Int} {v : Value} (h : seenF vis (.int .i64 d) = some v) : d ∈ vis := by
  unfold seenF at h
  simp only at h
  split at h
  · assumption
  · cases h
theorem seenF_some {vis : List Int} {d : Int} : (seenF vis (pk d)).isSome = true ↔ d ∈ vis := by
  unfold seenF pk
  simp only
  by_cases h : d ∈ vis
  · simp [h]
  · simp [h]
/-- the targets of what was ranged over -/
structure CInv (cs : List Cd) (D : List Nat) (left : Lit → Bool) (T : List Int) : Prop where
  into : ∀ t ∈ T, ∃ i ∈ D, ∃ c, cs[i]? = some c ∧ c.op = 18 ∧ c.n = t
  all : ∀ i ∈ D, left (pk (i : Int)) = false → ∀ c, cs[i]? = some c → c.op = 18 → c.n ∈ T
theorem cinv_start {cs : List Cd} {D : List Nat} : CInv cs D (fun k => (seenF (zs D) k).isSome) [] :=
  ⟨by simp, fun i hi hl => by
    have : (seenF (zs D) (pk (i : Int))).isSome = true := seenF_some.2 (mem_zs.2 hi)
    rw [this] at hl
    cases hl⟩
theorem same_pk {i : Nat} {s : Int} : (pk (i : Int)).sameKey (.int .i64 s) = decide ((i : Int) = s) := by
  unfold pk Lit.sameKey
  simp
theorem cinv_skip {cs : List Cd} {D : List Nat} {left : Lit → Bool} {T : List Int} {i : Nat} {c : Cd} (h : CInv cs D left T) (hc : cs[i]? = some c) (ho : c.op ≠ 18) : CInv cs D (fun z => left z && !z.sameKey (.int .i64 (i : Int))) T :=
  ⟨h.into, fun j hj hl c' hc' ho' => by
    rw [same_pk] at hl
    by_cases he : (j : Int) = (i : Int)
    · have : j = i := by omega
      subst this
      rw [hc] at hc'
      obtain rfl := Option.some.inj hc'
      exact absurd ho' ho
    · rw [decide_eq_false he] at hl
      simp at hl
      exact h.all j hj hl c' hc' ho'⟩
theorem cinv_put {cs : List Cd} {D : List Nat} {left : Lit → Bool} {T : List Int} {i : Nat} {c : Cd} (h : CInv cs D left T) (hi : i ∈ D) (hc : cs[i]? = some c) (ho : c.op = 18) : CInv cs D (fun z => left z && !z.sameKey (.int .i64 (i : Int))) (c.n :: T) :=
  ⟨fun t ht => by
    rcases List.mem_cons.1 ht with rfl | ht
    · exact ⟨i, hi, c, hc, ho, rfl⟩
    · exact h.into t ht, fun j hj hl c' hc' ho' => by
    rw [same_pk] at hl
    by_cases he : (j : Int) = (i : Int)
    · have : j = i := by omega
      subst this
      rw [hc] at hc'
      obtain rfl := Option.some.inj hc'
      exact List.mem_cons_self
    · rw [decide_eq_false he] at hl
      simp at hl
      exact List.mem_cons_of_mem _ (h.all j hj hl c' hc' ho')⟩
theorem cinv_end {cs : List Cd} {f : Nat} {D : List Nat} {left : Lit → Bool} {T : List Int} (hR : vmRight cs = true) (hD : ∀ j, j ∈ D ↔ Rp cs f j) (h : CInv cs D left T) (hl : ∀ k, left k = false) (x : Int) : (seenF T (pk x)).isSome = true ↔ ∃ t ∈ callsL cs f, x = (t : Int) := by
  rw [seenF_some]
  constructor
  · intro hx
    obtain ⟨i, hi, c, hc, ho, hn⟩ := h.into x hx
    obtain ⟨k, hk, _⟩ := right_n hR hc (by simp [ho])
    exact ⟨k, (mem_callsL hR).2 ⟨i, c, (hD i).1 hi, hc, ho, hk⟩, by omega⟩
  · rintro ⟨t, ht, rfl⟩
    obtain ⟨i, c, h1, h2, h3, h4⟩ := (mem_callsL hR).1 ht
    rw [← h4]
    exact h.all i ((hD i).2 h1) (hl _) c h2 h3
def CalledO (cs : List Cd) (f : Nat) (w : World) (y : Ending) (w' : World) : Prop := ∃ v, y = .returned v ∧ OwnR 3 1 w' w.heap.size v (callsL cs f).length (intsR (callsL cs f)) ∧ Only [] w w'
set_option maxHeartbeats 4000000 in
theorem called_any (A : Option Addr) (n cc f mb : Nat) (D : List Nat) (cs : List Cd) (w : World) (hr : Recs w w.heap.size 5 A n (cs.map Cd.row)) (hR : vmRight cs = true) (hf : f < n) (hnd : D.Nodup) (hD : ∀ j, j ∈ D ↔ Rp cs f j) (hv : VM Try.prog 3 w mb D.length (seenF (zs D))) :
    Calls Try.prog 34 #[.slice A n cc, .map (some mb)] w (CalledO cs f w) := by
  have hl : cs.length = n := by have := hr.1; simpa using this
  have hlen := (right_len hR).2.1
  have hlt : ∀ j ∈ D, j < n := fun j hj => by have := rp_lt hR (by omega) ((hD j).1 hj); omega
  have hdn : D.length ≤ n := nodup_bound hnd hlt
  obtain ⟨w1, hw1⟩ : ∃ w1, w.alloc (.map #[] 0) = w1 := ⟨_, rfl⟩
  have hv1 : VM Try.prog 3 w1 w.heap.size 0 (seenF []) := by rw [← hw1, seenF_nil]; exact VM.made w _ _
  have o1 : Only [] w w1 := by rw [← hw1]; exact (Only.refl [] w).alloc _
  have hvi := hv.only o1 (by simp)
  have hmw : mb < w.heap.size := hv.lt
  have HV1 := Lib.hid hv1
  have HVI := Lib.hid hvi
  have HR := Lib.hid (And.intro hr hR)
  have HL := Lib.hid (And.intro hl (And.intro hlen (And.intro hf hdn)))
  have HD := Lib.hid (And.intro hlt hD)
  have HO1 := Lib.hid o1
  have HMW := Lib.hid hmw
  have hmm := @run_makeMap Try.prog
  clear hl hlen hlt hdn hv1 o1 hvi hr hR hf hnd hD hv hmw
  go_enter Try.func34, Try.ntmps34
  go_wp2_with (at_range; refine wpList_rangeV rfl (.tmp 8) 64 rfl 3 4 lawI Try.underlying64 rfl HVI.out ?_; intro w3 cnt3 hrg3 hcn3 ho3 hs3)
  go_frame
  obtain ⟨r, hr⟩ : ∃ r, w1.heap.size = r := ⟨_, rfl⟩
  obtain ⟨mt, hmt⟩ : ∃ mt, w.heap.size = mt := ⟨_, rfl⟩
  rw [hmt] at HV1
  rw [hr] at hrg3
  rw [hr, hmt]
  have hmtr : mt < r := by rw [← hmt, ← hr, ← hw1, World.size_alloc]; omega
  have HN := Lib.hid (And.intro hmtr (show w.heap.size = mt from hmt))
  have HV3 := Lib.hid (HV1.out.only ho3 (by simp))
  have HRG3 := Lib.hid hrg3
  have HO3 := Lib.hid (HO1.out.trans ho3 (by simp))
  have HCN := Lib.hid hcn3
  clear hrg3 hcn3 ho3 hs3 hr hmt hmtr hw1 hmm
  go_loopw [10] (fun _ wr => ∃ (left : Lit → Bool) (cnt nt : Nat) (T : List Int), VR Try.prog 3 wr mb r D.length (seenF (zs D)) left cnt ∧ VM Try.prog 3 wr mt nt (seenF T) ∧ CInv cs D left T ∧ nt + cnt ≤ D.length ∧ Only [] w wr) (fun _ wr => wr.rangeLeft mb r)
  case atStart => exact ⟨_, cnt3, 0, [], HRG3.out, HV3.out, cinv_start, by have := HCN.out; omega, HO3.out⟩
  case round =>
    clear HRG3 HV3 HO3 HCN
    obtain ⟨left, cnt, nt, T, hrg, hvt, hci, hcnt, ho⟩ := hrel
    have HRG := Lib.hid hrg
    have HVT := Lib.hid hvt
    have HCI := Lib.hid hci
    have HO := Lib.hid (And.intro ho hcnt)
    clear hrg hvt hci hcnt ho
    go_wp2_with (at_next; refine wpList_nextI rfl (.tmp 9) rfl 3 Try.underlying3 mkT rfl HRG.out (fun k v h => seenF_val h) ?_ ?_)
    · intro hl0
      have HK := Lib.hid (keysB_call mt wr)
      have HS := Lib.hid (sortedB_call HVT.out (by have := HO.out; have := HL.out; omega) callsL_asc (cinv_end HR.out.2 HD.out.2 HCI.out hl0))
      clear hl0
      go_wp2_with (first
        | (go_at_call 53; refine HK.out.mono ?_; rintro y w2 ⟨rfl, rfl⟩)
        | (go_at_call 30; refine HS.out.mono ?_; rintro y w7 ⟨v, rfl, hown, ho7⟩))
      go_ret
      exact ⟨v, rfl, hown.mono HO.out.1.size, HO.out.1.trans ho7 (by simp)⟩
    · intro s u w5 cnt5 hl hfs hrg5 hlt ho5 hsz5 hen
      have hsm := seenF_mem hfs
      obtain ⟨i, hi, rfl⟩ := List.mem_map.1 hsm
      have hin := HD.out.1 i hi
      have hrw : w.heap.size ≤ r := by have := HN.out; omega
      have ho5w : Only [] w w5 := HO.out.1.trans ho5 (fun g hg => by rw [List.mem_singleton.1 hg]; exact .inr hrw)
      have hr5 := HR.out.1.only ho5w (by simp)
      obtain ⟨b, off, rfl, hbB, c, _, hc, q0, q1, q2, q3, q4⟩ := cd_at hr5 i hin
      have hvt5 := HVT.out.only ho5 (by have := HN.out; simp; omega)
      unfold mkT at hen ⊢
      obtain ⟨op, a, bb, c3, z⟩ := c
      simp only at q0 q4
      by_cases hop : op = 18
      · subst hop
        obtain ⟨k, hk, hk2⟩ := right_n HR.out.2 hc (by simp)
        simp only at hk
        subst hk
        obtain ⟨w6, hput, hvt6, ho6⟩ := VM.run_put (P := Try.prog) 64 lawI Try.underlying64 hvt5 (by have := HO.out; have := HL.out; unfold maxLen; omega) (.bool true) (keyP (in64n (n := k) (by have := HL.out; omega)))
        rw [seenF_cons] at hvt6
        have hrg6 := hrg5.only ho6 (by have := HMW.out; have := HN.out; simp; omega) (by have := HN.out; simp; omega)
        have ho6w : Only [] w w6 := ho5w.trans ho6 (fun g hg => by rw [List.mem_singleton.1 hg]; exact .inr (by have := HN.out; omega))
        have HX := Lib.hid (And.intro hrg6 (And.intro hvt6 (And.intro (cinv_put HCI.out hi hc rfl) (And.intro hlt ho6w))))
        have HIN := Lib.hid hin
        have hltn : i < n := hin
        clear hl hfs hrg5 hlt ho5 hsz5 hsm hi hin hrw ho5w hr5 hbB hvt5 hc hvt6 ho6 hrg6 ho6w q1 q2 q3 hk2
        go_wp2_with fail
        go_roundw
        case rel => exact ⟨_, cnt5, nt + 1, _, HX.out.1, HX.out.2.1, HX.out.2.2.1, by have := HX.out.2.2.2.1; have := HO.out.2; omega, HX.out.2.2.2.2⟩
        case measure => rw [HX.out.1.left_eq, HRG.out.left_eq]; exact HX.out.2.2.2.1
      · have HX := Lib.hid (And.intro hrg5 (And.intro hvt5 (And.intro (cinv_skip HCI.out hc hop) (And.intro hlt ho5w))))
        have hltn : i < n := hin
        have e1 : (op == 18) = false := by simpa using hop
        have e2 : decide (op = 18) = false := decide_eq_false hop
        clear hl hfs hrg5 hlt ho5 hsz5 hsm hi hin hrw ho5w hr5 hbB hvt5 hc q1 q2 q3
        go_wp2_with fail
        go_roundw
        case rel => exact ⟨_, cnt5, nt, _, HX.out.1, HX.out.2.1, HX.out.2.2.1, by have := HX.out.2.2.2.1; have := HO.out.2; omega, HX.out.2.2.2.2⟩
        case measure => rw [HX.out.1.left_eq, HRG.out.left_eq]; exact HX.out.2.2.2.1
end Go.Proofs.Ytkdacemachejoaa.Vm
namespace Go.Proofs.Ytkdacemachejoaa.Vm
open Go.RowKit Go.Maps Go.Shelf Object
set_option linter.unusedVariables false
set_option maxRecDepth 100000
def nv (n : Nat) : Value := .int .i64 (n : Int)
theorem intsR_flat2 (L : List Nat) : (intsR L).flatten = L.map nv := by
  induction L with
  | nil => rfl
  | cons a L ih =>
    unfold intsR at *
    simp only [List.map_cons, List.flatten_cons, ih]
    rfl
/-- a list of instructions, to be read -/
def Sl (w : World) (A : Option Addr) (L : List Nat) : Prop := Reads w w.heap.size 1 A L.length (L.map nv) ∧ ∀ g ∈ blkOf A, ∃ cs, Blk w g 3 cs
theorem Sl.only {w w' : World} {S : List Nat} {A : Option Addr} {L : List Nat} (h : Sl w A L) (ho : Only S w w') (hS : ∀ g ∈ S, ∀ cs, ¬ Blk w g 3 cs) : Sl w' A L := by
  have hn : ∀ g ∈ blkOf A, g ∉ S := fun g hg hm => by
    obtain ⟨cs, hb⟩ := h.2 g hg
    exact hS g hm cs hb
  refine ⟨(h.1.only ho hn).more ho.size, fun g hg => ?_⟩
  obtain ⟨cs, hb⟩ := h.2 g hg
  exact ⟨cs, hb.only ho (hn g hg)⟩
theorem Sl.only0 {w w' : World} {A : Option Addr} {L : List Nat} (h : Sl w A L) (ho : Only [] w w') : Sl w' A L := h.only ho (by simp)
theorem sl_of {w : World} {base : Nat} {v : Value} {L : List Nat} (h : OwnR 3 1 w base v L.length (intsR L)) : ∃ A c, v = .slice A L.length c ∧ L.length ≤ c ∧ Sl w A L := by
  obtain ⟨A, c, rfl, hc, _, _, _⟩ := h.shape (by decide)
  have hr := Reads.of_own h.own
  rw [intsR_flat2] at hr
  refine ⟨A, c, rfl, hc, hr, fun g hg => ?_⟩
  refine (row_blks h g ?_).2
  have ho := h.own
  obtain ⟨_, h0⟩ := ho
  rcases h0 with ⟨h1, _⟩ | ⟨g', cap, cur, h1, _⟩
  · injection h1 with h1
    subst h1
    simp [blkOf] at hg
  · injection h1 with h1
    subst h1
    simpa [blkOf, ownL, Value.ownBlock] using hg
theorem Sl.at_ {w : World} {A : Option Addr} {L : List Nat} (h : Sl w A L) {j : Nat} (hj : j < L.length) : ∃ b off t, A = some ⟨b, off, none⟩ ∧ L[j]? = some t ∧ w.cell? ⟨b, off + j, none⟩ = some (.int .i64 (t : Int)) := by
  obtain ⟨b, off, hA, _, hc⟩ := Reads.at1 h.1 hj
  rw [List.getElem?_map, List.getElem?_eq_getElem hj] at hc
  exact ⟨b, off, L[j], hA, List.getElem?_eq_getElem hj, hc⟩
/-- the map of calls -/
def CallsV (w : World) (cs : List Cd) (K : List Nat) (f : Lit → Option Value) : Prop :=
  (∀ k ∈ K, ∃ A c, f (pk (k : Int)) = some (.slice A (callsL cs k).length c) ∧ Sl w A (callsL cs k)) ∧ ∀ l v, f l = some v → ∃ k ∈ K, l = pk (k : Int)
theorem CallsV.some_iff {w : World} {cs : List Cd} {K : List Nat} {f : Lit → Option Value} (h : CallsV w cs K f) (s : Nat) : (f (pk (s : Int))).isSome = true ↔ s ∈ K := by
  constructor
  · intro hs
    obtain ⟨v, hv⟩ := Option.isSome_iff_exists.1 hs
    obtain ⟨k, hk, he⟩ := h.2 _ _ hv
    have := pk_inj he
    have : s = k := by omega
    exact this ▸ hk
  · intro hs
    obtain ⟨A, c, hv, _⟩ := h.1 s hs
    rw [hv]
    rfl
/-- the tree in memory: K its starts, M the instructions that are marked -/
structure TI (w : World) (p mb rb : Nat) (cs : List Cd) (K : List Nat) (M : Nat → Prop) : Prop where
  blk : Blk w p 71 #[.map (some mb), .slice (some ⟨rb, 0, none⟩) cs.length cs.length]
  map : ∃ f, VM Try.prog 3 w mb K.length f ∧ CallsV w cs K f
  arr : ∃ R : List Bool, R.length = cs.length ∧ Blk w rb 4 (R.map Value.bool).toArray ∧ ∀ (i : Nat) (b : Bool), R[i]? = some b → (b = true ↔ M i)
  nd : K.Nodup
  lt : ∀ k ∈ K, k < cs.length
section
variable {w w' : World} {p mb rb : Nat} {cs : List Cd} {K : List Nat} {M : Nat → Prop}
theorem TI.ne (h : TI w p mb rb cs K M) : mb ≠ p ∧ mb ≠ rb ∧ p ≠ rb := by
  obtain ⟨f, hv, _⟩ := h.map
  obtain ⟨R, _, hb, _⟩ := h.arr
  exact ⟨vm_ne hv h.blk, vm_ne hv hb, Blk.ne_ h.blk hb (by decide)⟩
theorem TI.not_int (h : TI w p mb rb cs K M) : ∀ g ∈ [mb, rb], ∀ c, ¬ Blk w g 3 c := by
  obtain ⟨f, hv, _⟩ := h.map
  obtain ⟨R, _, hb, _⟩ := h.arr
  intro g hg c hc
  simp only [List.mem_cons, List.not_mem_nil, or_false] at hg
  rcases hg with rfl | rfl
  · exact vm_ne hv hc rfl
  · exact Blk.ne_ hb hc (by decide) rfl
theorem CallsV.only {S : List Nat} {f : Lit → Option Value} (h : CallsV w cs K f) (ho : Only S w w') (hS : ∀ g ∈ S, ∀ c, ¬ Blk w g 3 c) : CallsV w' cs K f :=
  ⟨fun k hk => by
    obtain ⟨A, c, h1, h2⟩ := h.1 k hk
    exact ⟨A, c, h1, h2.only ho hS⟩, h.2⟩
theorem TI.only0 (h : TI w p mb rb cs K M) (ho : Only [] w w') : TI w' p mb rb cs K M := by
  obtain ⟨f, hv, hc⟩ := h.map
  obtain ⟨R, h1, h2, h3⟩ := h.arr
  exact ⟨h.blk.only ho (by simp), ⟨f, hv.only ho (by simp), hc.only ho (by simp)⟩, ⟨R, h1, h2.only ho (by simp), h3⟩, h.nd, h.lt⟩
/-- one mark more -/
theorem arr_set {R : List Bool} {i : Nat} {M' : Nat → Prop} (hl : R.length = cs.length) (hb : Blk w rb 4 (R.map Value.bool).toArray) (hM : ∀ (j : Nat) (b : Bool), R[j]? = some b → (b = true ↔ M j)) (hi : i < cs.length) (hM' : ∀ j, M' j ↔ M j ∨ j = i) :
    ∃ R' : List Bool, R'.length = cs.length ∧ Blk (w.setCell ⟨rb, i, none⟩ (.bool true)) rb 4 (R'.map Value.bool).toArray ∧ ∀ (j : Nat) (b : Bool), R'[j]? = some b → (b = true ↔ M' j) := by
  refine ⟨R.set i true, by simpa using hl, ?_, fun j b hj => ?_⟩
  · have h := hb.set_ i (.bool true)
    rw [List.setIfInBounds_toArray] at h
    rw [List.map_set]
    exact h
  · rw [hM']
    by_cases he : j = i
    · subst he
      rw [List.getElem?_set_self (by omega)] at hj
      obtain rfl := (Option.some.inj hj).symm
      simp
    · rw [List.getElem?_set_ne (fun h => he h.symm)] at hj
      rw [hM j b hj]
      simp [he]
/-- a start's calls are put down -/
theorem TI.put {s : Nat} {A : Option Addr} {c : Nat} {f : Lit → Option Value} (h : TI w p mb rb cs K M) (hf : CallsV w cs K f) (hs : s ∉ K) (hlt : s < cs.length) (hsl : Sl w A (callsL cs s))
    (hv : VM Try.prog 3 w' mb (K.length + 1) (upd f (pk (s : Int)) (some (.slice A (callsL cs s).length c)))) (ho : Only [mb] w w') : TI w' p mb rb cs (s :: K) M ∧ CallsV w' cs (s :: K) (upd f (pk (s : Int)) (some (.slice A (callsL cs s).length c))) := by
  have hn := h.ne
  have hni : ∀ g ∈ [mb], ∀ c, ¬ Blk w g 3 c := fun g hg => h.not_int g (by simp at hg; simp [hg])
  have hf' := hf.only ho hni
  obtain ⟨R, h1, h2, h3⟩ := h.arr
  have hc : CallsV w' cs (s :: K) (upd f (pk (s : Int)) (some (.slice A (callsL cs s).length c))) := by
    refine ⟨fun k hk => ?_, fun l v hl => ?_⟩
    · by_cases he : k = s
      · subst he
        exact ⟨A, c, upd_same _ _ _, hsl.only ho hni⟩
      · rcases List.mem_cons.1 hk with rfl | hk
        · exact absurd rfl he
        · obtain ⟨A', c', h4, h5⟩ := hf'.1 k hk
          refine ⟨A', c', ?_, h5⟩
          rw [upd_other _ _ (fun e => he (by have := pk_inj e; omega))]
          exact h4
    · by_cases he : l = pk (s : Int)
      · exact ⟨s, List.mem_cons_self, he⟩
      · rw [upd_other _ _ he] at hl
        obtain ⟨k, hk, hkl⟩ := hf'.2 l v hl
        exact ⟨k, List.mem_cons_of_mem _ hk, hkl⟩
  exact ⟨⟨h.blk.only ho (by simpa using hn.1.symm), ⟨_, hv, hc⟩, ⟨R, h1, h2.only ho (by simpa using hn.2.1.symm), h3⟩, List.nodup_cons.2 ⟨hs, h.nd⟩, fun k hk => by
    rcases List.mem_cons.1 hk with rfl | hk
    · exact hlt
    · exact h.lt k hk⟩, hc⟩
end
theorem zeroL (w : World) : (zeroValue 41).run Try.prog w = .ok (.slice none 0 0) w := by kernel_rfl
end Go.Proofs.Ytkdacemachejoaa.Vm
