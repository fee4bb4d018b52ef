/- slices.Collect, Sort, Sorted of paths; each once. -/
import Derived.Test.YtdfiibnpckahnaaGOwn1
import Derived.Test.YtdfiibnpckahnaaIter
import Derived.Test.YtdfiibnpckahnaaGLaw2
namespace Go.Proofs.Ytdfiibnpckahnaa.Graph
open Go.RowKit Go.Shelf Go.Sort
set_option linter.unusedVariables false
set_option maxRecDepth 100000
def srt (l : List Path) : List Path := l.mergeSort fun x y => decide (x ≤ y)
theorem svs_flat (l : List Path) : (svs l).flatten = l.map encStr := by
  unfold svs
  induction l with
  | nil => rfl
  | cons a t ih => simp only [List.map_cons, List.flatten_cons, ih]; rfl
theorem svs_len (l : List Path) : ∀ r ∈ svs l, r.length = 1 := by
  intro r hr
  obtain ⟨s, _, rfl⟩ := List.mem_map.1 hr
  rfl
section
variable {w w' : World} {base n : Nat} {l : List Path} {v : Value}
theorem sort_any (hown : OwnR 9 1 w base v n (svs l)) (hl : l.length = n) (hn : n ≤ 100000) : Calls Try.prog 47 #[v] w fun e w' => e = .returned (.tuple #[]) ∧ OwnR 9 1 w' base v n (svs (srt l)) ∧ Only (ownL v) w w' := by
  subst hl
  have hs := Try.sorts28 5
  obtain ⟨h1, h2, h3, h0⟩ := hown
  have hsl : (srt l).length = l.length := by unfold srt; exact List.length_mergeSort _
  rcases h0 with ⟨rfl, hz⟩ | ⟨g, cap, cur, rfl, hbase, hgb, r1, r2, r3, r4⟩
  · have hl0 : l = [] := List.eq_nil_of_length_eq_zero hz
    subst hl0
    refine (callsIn_wide.1 (hs.2 none 0 w)).mono ?_
    rintro e w' ⟨rfl, rfl⟩
    exact ⟨rfl, ⟨by simp [svs, srt], by simp [svs, srt], ⟨by simp [svs, srt], .inl ⟨rfl, rfl⟩⟩⟩, Only.refl _ _⟩
  · rw [svs_flat] at r4 h3
    have hH : Holds encStr w g 0 l.toArray := holds_of_block hgb (by rw [Nat.mul_one] at r4; exact r4)
    have hgl : g < w.heap.size := (Array.getElem?_eq_some_iff.1 hgb).1
    refine (callsIn_wide.1 (hs.1 g 0 cap l w hH hgl (by omega))).mono ?_
    rintro e w' ⟨rfl, k, os, rfl⟩
    have hrow := ownsRow_sorted (os := os) (n := k) (ss := l) (ts := srt l) hsl hbase hgb r1 r2 r3
    refine ⟨rfl, ⟨by rw [← hsl]; simp [svs], svs_len _, by rw [svs_flat]; exact hrow⟩, Only.of_grown (grownBy_sorted _)⟩
/-- the closure that slices.Values hands back -/
def valF (hb : Nat) : Value := .func (.func 53) #[] #[.pointer (some ⟨hb, 0, none⟩)]
theorem collect_any (hb : Nat) (A : Option Addr) (n c B : Nat) (l : List Path) (w : World) (hr : RdP w hb A n c B l) (hl : l.length = n) (hn : n ≤ 100000) (hB : B ≤ w.heap.size) :
    Calls Try.prog 46 #[valF hb] w fun e w' => ∃ v, e = .returned v ∧ OwnR 9 1 w' w.heap.size v n (svs l) ∧ Only [] w w' := by
  have HA := Lib.hid (callsIn_wide.1 (appendSeq_in hb A n c B l w hr hl hn hB))
  unfold valF
  clear hr hl
  go_enter Try.func46, Try.ntmps46
  go_wp2_with (go_at_call 56; refine HA.out.mono ?_; rintro e w2 ⟨v, rfl, hown, ho⟩; have HO := Lib.hid (And.intro hown ho); clear hown ho)
  go_ret
  exact ⟨_, rfl, HO.out⟩
theorem sorted_any (hb : Nat) (A : Option Addr) (n c B : Nat) (l : List Path) (w : World) (hr : RdP w hb A n c B l) (hl : l.length = n) (hn : n ≤ 100000) (hB : B ≤ w.heap.size) :
    Calls Try.prog 28 #[valF hb] w fun e w' => ∃ v, e = .returned v ∧ OwnR 9 1 w' w.heap.size v n (svs (srt l)) ∧ Only [] w w' := by
  have HA := Lib.hid (collect_any hb A n c B l w hr hl hn hB)
  have HL := Lib.hid hl
  unfold valF at HA ⊢
  clear hr hl
  go_enter Try.func28, Try.ntmps28
  go_wp2_with (first
    | (go_at_call 46; refine HA.out.mono ?_; rintro e w2 ⟨v, rfl, hown, ho⟩; have HO := Lib.hid (And.intro hown ho); clear hown ho)
    | (go_at_call 47; refine (sort_any HO.out.1 HL.out hn).mono ?_; rintro e w3 ⟨rfl, hown, ho⟩; have HO3 := Lib.hid (And.intro hown ho); clear hown ho))
  go_ret
  exact ⟨_, rfl, HO3.out.1, HO.out.2.trans HO3.out.2 (fun k hk => .inr (HO.out.1.lt k hk).1)⟩
end
end Go.Proofs.Ytdfiibnpckahnaa.Graph
