/- A row that a call owns is apart from other rows, blocks and maps. -/
import Derived.Test.YtbeenfkmnchhbaaRow
import Derived.Test.YtbeenfkmnchhbaaVMap
namespace Go.Proofs.Ytbeenfkmnchhbaa
open Go.RowKit
set_option linter.unusedVariables false
theorem own_cells {w : World} {base e size n : Nat} {v : Value} {rows : List (List Value)} (h : OwnR e size w base v n rows) {g : Nat} (hg : g ∈ ownL v) : ∃ cs, w.heap[g]? = some (.cells cs e (0, 0)) := by
  obtain ⟨_, h0⟩ := h.own
  rcases h0 with ⟨rfl, _⟩ | ⟨g', cap, cur, rfl, _, hh, _⟩
  · simp [ownL, Value.ownBlock] at hg
  · simp [ownL, Value.ownBlock] at hg
    subst hg
    exact ⟨_, hh⟩
theorem off_blk {w : World} {base e size n : Nat} {v : Value} {rows : List (List Value)} (h : OwnR e size w base v n rows) {g : Nat} {t : TypeId} {cs : Array Value} (hb : Blk w g t cs) (ht : t ≠ e) : g ∉ ownL v := by
  intro hg
  obtain ⟨_, hh⟩ := own_cells h hg
  unfold Blk at hb
  rw [hb] at hh
  injection hh with hh
  injection hh with _ h2 _
  exact ht h2
theorem off_rows {w : World} {b1 b2 e1 e2 s1 s2 n1 n2 : Nat} {v1 v2 : Value} {r1 r2 : List (List Value)} (h1 : OwnR e1 s1 w b1 v1 n1 r1) (h2 : OwnR e2 s2 w b2 v2 n2 r2) (ht : e1 ≠ e2) : ∀ g ∈ ownL v1, g ∉ ownL v2 := by
  intro g hg hg2
  obtain ⟨_, hh⟩ := own_cells h1 hg
  obtain ⟨_, hh2⟩ := own_cells h2 hg2
  rw [hh] at hh2
  injection hh2 with hh2
  injection hh2 with _ h2 _
  exact ht h2
theorem off_map {P : Program} {K : TypeId} {w : World} {base e size n b m : Nat} {v : Value} {rows : List (List Value)} {f : Lit → Option Value} (h : OwnR e size w base v n rows) (hm : VM P K w b m f) : b ∉ ownL v := by
  intro hg
  obtain ⟨_, hh⟩ := own_cells h hg
  obtain ⟨D, ⟨es, clock, hb, _⟩, _⟩ := hm
  rw [hb] at hh
  cases hh
end Go.Proofs.Ytbeenfkmnchhbaa
