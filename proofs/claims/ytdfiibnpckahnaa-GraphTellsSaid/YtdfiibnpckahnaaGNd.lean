/- Nodes in memory; what count lays. -/
import Derived.Test.YtdfiibnpckahnaaGCnt1
import Derived.Test.YtdfiibnpckahnaaGLaw2
namespace Go.Proofs.Ytdfiibnpckahnaa.Graph
open Go.RowKit Go.Shelf Go.Maps
set_option linter.unusedVariables false
set_option maxRecDepth 100000
/-- a node as it lies -/
structure ND where
  path : Path
  IA : Option Addr
  Ic : Nat
  imps : List Path
def ND.row (x : ND) : List Value := [sv x.path, .slice x.IA x.imps.length x.Ic]
def ND.nd (x : ND) : Nd := ⟨x.path, x.imps⟩
def nd0 : ND := ⟨[], none, 0, []⟩
/-- what it holds can be read, below block B; it is small -/
structure ND.in_ (w : World) (B : Nat) (x : ND) : Prop where
  r : Reads w B 1 x.IA x.imps.length (x.imps.map sv)
  c : x.imps.length ≤ 40 ∧ x.path.length ≤ 300 ∧ ∀ i ∈ x.imps, i.length ≤ 300
theorem nd_at {w : World} {B m : Nat} {A : Option Addr} {l : List ND} (hr : Recs w B 2 A m (l.map ND.row)) (k : Nat) (hk : k < m) : ∃ b off, A = some ⟨b, off, none⟩ ∧ b < B ∧ ∃ x ∈ l, l[k]? = some x ∧
    w.cell? ⟨b, off + k * 2, none⟩ = some (sv x.path) ∧ w.cell? ⟨b, off + k * 2 + 1, none⟩ = some (.slice x.IA x.imps.length x.Ic) := by
  obtain ⟨b, off, hA, hb, hc⟩ := hr.at_ nd0 hk
  have hl : k < l.length := by have := hr.1; rw [List.length_map] at this; omega
  refine ⟨b, off, hA, hb, l.getD k nd0, ?_, ?_, ?_, ?_⟩
  · rw [List.getD_eq_getElem?_getD, List.getElem?_eq_getElem hl]; exact List.getElem_mem hl
  · rw [List.getD_eq_getElem?_getD, List.getElem?_eq_getElem hl]; rfl
  · have := hc 0 (by decide); rw [Nat.add_zero] at this; exact this
  · exact hc 1 (by decide)
/-- what is counted of the first nodes -/
def cntF (l : List Nd) (p : Path) : Option Nat := (l.find? (fun x => decide (x.path = p))).map fun x => (impL x).length
theorem cntF_lf (l : List Nd) : cntF l = lf l impL [] none [] := by
  funext p
  unfold cntF lf
  rw [if_neg (by simp)]
  congr 1
  funext x
  exact (leftC_nil _).symm
theorem cntF_snoc {l : List Nd} {x : Nd} (h : x.path ∉ l.map (·.path)) : cntF (l ++ [x]) = fun q => if q = x.path then some (impL x).length else cntF l q := by
  funext q
  unfold cntF
  rw [List.find?_append]
  by_cases e : q = x.path
  · subst e
    have h0 : l.find? (fun y => decide (y.path = x.path)) = none := by
      rw [List.find?_eq_none]
      intro y hy
      have : y.path ≠ x.path := fun e => h (List.mem_map.2 ⟨y, hy, e⟩)
      simpa using this
    rw [h0]
    simp
  · have h1 : ([x] : List Nd).find? (fun y => decide (y.path = q)) = none := by
      rw [List.find?_eq_none]
      intro y hy
      rw [List.mem_singleton.1 hy]
      simpa using fun h => e h.symm
    rw [h1]
    simp only [if_neg e]
    cases l.find? (fun x => decide (x.path = q)) <;> rfl
theorem byL_snoc (l : List Nd) (x : Nd) (q : Path) : byL (l ++ [x]) impL q = byL l impL q ++ (if q ∈ impL x then [x.path] else []) := by
  unfold byL
  rw [List.filter_append, List.map_append]
  congr 1
  by_cases e : q ∈ impL x
  · rw [if_pos e, List.filter_cons_of_pos (by simpa using e)]; rfl
  · rw [if_neg e, List.filter_cons_of_neg (by simpa using e)]; rfl
/-- the lists while the imports of x are gone through -/
def byI (l : List Nd) (x : Nd) (o : List Path) (q : Path) : List Path := byL l impL q ++ (if q ∈ o then [x.path] else [])
theorem byI_nil (l : List Nd) (x : Nd) : byI l x [] = byL l impL := by funext q; unfold byI; simp
theorem byI_snoc {l : List Nd} {x : Nd} {o : List Path} {s : Path} (h : s ∉ o) : (fun q => if q = s then byI l x o s ++ [x.path] else byI l x o q) = byI l x (o ++ [s]) := by
  funext q
  unfold byI
  by_cases e : q = s
  · subst e
    rw [if_pos rfl, if_neg h, List.append_nil, if_pos (by simp)]
  · rw [if_neg e]
    congr 1
    by_cases e2 : q ∈ o
    · rw [if_pos e2, if_pos (by simp [e2])]
    · rw [if_neg e2, if_neg (by simp [e2, e])]
theorem byI_all (l : List Nd) (x : Nd) : byI l x (impL x) = byL (l ++ [x]) impL := by funext q; rw [byL_snoc]; rfl
theorem byL_len (l : List Nd) (q : Path) : (byL l impL q).length ≤ l.length := by unfold byL; rw [List.length_map]; exact List.length_filter_le _ _
theorem byI_len (l : List Nd) (x : Nd) (o : List Path) (q : Path) : (byI l x o q).length ≤ l.length + 1 := by
  unfold byI
  rw [List.length_append]
  have := byL_len l q
  split <;> simp <;> omega
/-- those with no imports -/
def freeL (l : List Nd) : List Path := (l.filter (fun x => (impL x).isEmpty)).map (·.path)
theorem freeL_snoc (l : List Nd) (x : Nd) : freeL (l ++ [x]) = freeL l ++ (if (impL x).isEmpty then [x.path] else []) := by
  unfold freeL
  rw [List.filter_append, List.map_append]
  congr 1
  by_cases e : (impL x).isEmpty = true
  · rw [if_pos e, List.filter_cons_of_pos (p := fun x => (impL x).isEmpty) e]; rfl
  · rw [if_neg e, List.filter_cons_of_neg (p := fun x => (impL x).isEmpty) e]; rfl
theorem freeL_len (l : List Nd) : (freeL l).length ≤ l.length := by unfold freeL; rw [List.length_map]; exact List.length_filter_le _ _
theorem cmpL_len : ∀ (l : List Path), (cmpL l).length ≤ l.length
  | [] => Nat.le_refl _
  | a :: t => by
    have ih := cmpL_len t
    unfold cmpL
    split
    · simp
    · rename_i b r hb
      rw [hb] at ih
      split
      · simp at ih ⊢; omega
      · simp at ih ⊢; omega
theorem impL_len (x : Nd) : (impL x).length ≤ x.imps.length := by
  unfold impL
  have := cmpL_len (x.imps.mergeSort (fun a b => decide (a ≤ b)))
  rw [List.length_mergeSort] at this
  exact this
/-- the lists turn -/
theorem CT.by_ {w w' : World} {c lb bb base nl nb nb' : Nat} {v : Value} {T T' U : List Nat} {f : Path → Option Nat} {by_ by2 : Path → List Path} {hs : List Path} (h : CT w c lb bb base nl nb v T f by_ hs) (hby : IsBy w' bb base nb' T' by2) (hT : ∀ k ∈ T', k ∈ T ∨ w.heap.size ≤ k) (hU : ∀ k ∈ U, k ∈ T) (ho : Only (bb :: U) w w') : CT w' c lb bb base nl nb' v T' f by2 hs := by
  have hlt := h.lt
  obtain ⟨k1, k2, ⟨F, k3, k4⟩, k5, k6, k7, k8⟩ := h
  obtain ⟨g, g1, _⟩ := k5.g
  have hcb : c ≠ bb := vm_blk g1 k1.blk
  have hvb := vm_row g1 k1.own
  have hnot : ∀ k, k < w.heap.size → k ∉ T → k ∉ T' := fun k h1 h2 hm => (hT k hm).elim h2 (fun h => by omega)
  refine ⟨⟨k1.blk.only ho (fun hm => ?_), k1.own.only ho (fun k hk hm => ?_), k1.far, k1.small⟩, k2, ⟨F, k3.only ho (fun hm => ?_), k4⟩, hby, k6, ⟨hnot _ hlt.1 k7.1, hnot _ hlt.2.1 k7.2.1, hnot _ hlt.2.2 k7.2.2.1, fun k hk => hnot k (k1.own.lt k hk).2 (k7.2.2.2 k hk)⟩, k8.1, k8.2.1, k8.2.2.1, Nat.le_trans k8.2.2.2 ho.size⟩
  · rcases List.mem_cons.1 hm with e | e
    · exact hcb e
    · exact k7.1 (hU _ e)
  · rcases List.mem_cons.1 hm with e | e
    · exact hvb (e ▸ hk)
    · exact k7.2.2.2 k hk (hU _ e)
  · rcases List.mem_cons.1 hm with e | e
    · exact k6 e
    · exact k7.2.1 (hU _ e)
end Go.Proofs.Ytdfiibnpckahnaa.Graph
