/- The heap's own methods: Len, Less, Swap, Push, Pop. -/
import Derived.Test.YtdfiibnpckahnaaGHeap
import Derived.Test.YtdfiibnpckahnaaRegOne
import Derived.Test.YtdfiibnpckahnaaRowCut
import Derived.Test.YtdfiibnpckahnaaBytes
import Derived.BigRegion
import Derived.Sort.Walk0
import Derived.Lib.Hide
namespace Go.Proofs.Ytdfiibnpckahnaa.Graph
open Go.RowKit Go.Shelf
set_option linter.unusedVariables false
set_option maxRecDepth 100000
def sv (s : Path) : Value := .string (str s)
def svs (hs : List Path) : List (List Value) := hs.map fun s => [sv s]
theorem svs_get {hs : List Path} {i : Nat} (hi : i < hs.length) : ((svs hs).getD i [])[0]? = some (sv (hat hs i)) := by
  unfold svs
  rw [List.getD_eq_getElem?_getD, List.getElem?_map, List.getElem?_eq_getElem hi, hat_eq hi]
  rfl
theorem svs_set (hs : List Path) (i : Nat) (s : Path) : (svs hs).set i [sv s] = svs (hs.set i s) := by
  unfold svs
  rw [List.map_set]
theorem str_lss (a b : Path) : Op.bytesLess (str a).toList (str b).toList = decide (a < b) := by
  rw [bytesLess_eq, Lib.toList_data, Lib.toList_data, str_data, str_data]
section
variable {w w' : World} {base g c n : Nat} {hs : List Path} {v : Value}
theorem hlen_any (A : Option Addr) (n c : Nat) (w : World) : Calls Try.prog 43 #[.slice A n c] w fun x w' => x = .returned (.int .i64 (n : Int)) ∧ w' = w := by
  go_enter Try.func43, Try.ntmps43
  go_wp2_with fail
  go_ret
  exact ⟨rfl, rfl⟩
theorem hless_any (hown : OwnR 9 1 w base (.slice (some ⟨g, 0, none⟩) n c) n (svs hs)) (hl : hs.length = n) {i j : Nat} (hi : i < n) (hj : j < n) (hn : n ≤ 1000000) :
    Calls Try.prog 95 #[.slice (some ⟨g, 0, none⟩) n c, .int .i64 (i : Int), .int .i64 (j : Int)] w fun x w' => x = .returned (.bool (decide (hat hs i < hat hs j))) ∧ Only [] w w' := by
  have c1 := hown.cellOf (i := i) (j := 0) hi (by decide)
  have c2 := hown.cellOf (i := j) (j := 0) hj (by decide)
  rw [svs_get (by omega)] at c1 c2
  simp only [Nat.mul_one, Nat.add_zero, sv] at c1 c2
  have hb := str_lss (hat hs i) (hat hs j)
  have HO := Lib.hid (Only.refl [] w)
  clear hown hl
  generalize hat hs i = a at *
  generalize hat hs j = b at *
  go_enter Try.func95, Try.ntmps95
  go_wp2_with fail
  go_region
  go_wp2_with fail
  go_ret
  exact ⟨rfl, HO.out.drew⟩
theorem hswap_any (hown : OwnR 9 1 w base (.slice (some ⟨g, 0, none⟩) n c) n (svs hs)) (hl : hs.length = n) {i j : Nat} (hi : i < n) (hj : j < n) (hn : n ≤ 1000000) :
    Calls Try.prog 96 #[.slice (some ⟨g, 0, none⟩) n c, .int .i64 (i : Int), .int .i64 (j : Int)] w fun x w' => x = .returned (.tuple #[]) ∧ OwnR 9 1 w' base (.slice (some ⟨g, 0, none⟩) n c) n (svs (swapL hs i j)) ∧ Only [g] w w' := by
  have c1 := hown.cellOf (i := i) (j := 0) hi (by decide)
  have c2 := hown.cellOf (i := j) (j := 0) hj (by decide)
  rw [svs_get (by omega)] at c1 c2
  simp only [Nat.mul_one, Nat.add_zero, sv] at c1 c2
  have f1 := hown.frozenOf i
  have f2 := hown.frozenOf j
  have HF : Hid (OwnR 9 1 ((w.setCell ⟨g, i, none⟩ (sv (hat hs j))).setCell ⟨g, j, none⟩ (sv (hat hs i))).drew base (.slice (some ⟨g, 0, none⟩) n c) n (svs (swapL hs i j)) ∧ Only [g] w ((w.setCell ⟨g, i, none⟩ (sv (hat hs j))).setCell ⟨g, j, none⟩ (sv (hat hs i))).drew) := Lib.hid (by
    have h1 := (hown.put1 hi (sv (hat hs j))).put1 hj (sv (hat hs i))
    rw [svs_set, svs_set] at h1
    exact ⟨h1.only ((Only.refl [] _).drew) (by simp), ((((Only.refl [] w).mono (by simp)).setCell (.inl (by simp)) _).setCell (.inl (by simp)) _).drew⟩)
  clear hown hl
  unfold sv at HF
  by_cases hij : i = j
  · subst hij
    clear c2 f2
    generalize hat hs i = a at *
    go_enter Try.func96, Try.ntmps96
    go_region
    go_wp2_with fail
    go_end0
    exact ⟨rfl, HF.out⟩
  · generalize hat hs i = a at *
    generalize hat hs j = b at *
    go_enter Try.func96, Try.ntmps96
    go_region
    go_wp2_with fail
    go_end0
    exact ⟨rfl, HF.out⟩
end
end Go.Proofs.Ytdfiibnpckahnaa.Graph
