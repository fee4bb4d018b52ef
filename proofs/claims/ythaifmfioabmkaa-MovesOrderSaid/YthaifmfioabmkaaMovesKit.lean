/- Moves, the plain functions on them, and the mover in memory; (*mover).do walks. -/
import Derived.Test.YthaifmfioabmkaaRowOff
import Derived.Test.YthaifmfioabmkaaChecked
import Derived.Lib.Hide
namespace Go.Proofs.Ythaifmfioabmkaa.Moves
open Go.RowKit Go.Maps
set_option linter.unusedVariables false
set_option maxRecDepth 100000
structure Mv where
  dst : Int
  src : Int
deriving DecidableEq
def Mv.row (x : Mv) : List Value := [.int .i64 x.dst, .int .i64 x.src]
def mv0 : Mv := ⟨0, 0⟩
def in64 (n : Int) : Prop := -9223372036854775808 ≤ n ∧ n ≤ 9223372036854775807
def Mv.ok (x : Mv) : Prop := in64 x.dst ∧ in64 x.src
/-- where a place's value comes from -/
def fro (l : List Mv) (p : Int) : Option Int := (l.find? (fun x => x.dst == p)).map (·.src)
/-- by how many a place is asked for -/
def ask (l : List Mv) (p : Int) : Nat := l.countP (fun x => x.src == p)
def dropD (l : List Mv) (p : Int) : List Mv := l.filter (fun x => !(x.dst == p))
def Uniq (l : List Mv) : Prop := (l.map (·.dst)).Nodup
theorem fro_mem {l : List Mv} {p s : Int} (h : fro l p = some s) : ⟨p, s⟩ ∈ l := by
  unfold fro at h
  cases hf : l.find? (fun x => x.dst == p) with
  | none => rw [hf] at h; cases h
  | some x =>
    rw [hf] at h
    have h1 := List.mem_of_find?_eq_some hf
    have h2 := List.find?_some hf
    simp only [Option.map_some, Option.some.injEq] at h
    simp only [beq_iff_eq] at h2
    obtain ⟨d, t⟩ := x
    simp only at h h2
    subst h h2
    exact h1
theorem fro_none {l : List Mv} {p : Int} (h : fro l p = none) : ∀ x ∈ l, x.dst ≠ p := by
  intro x hx hp
  unfold fro at h
  simp only [Option.map_eq_none_iff, List.find?_eq_none] at h
  exact h x hx (by simp [hp])
theorem fro_of_mem {l : List Mv} (hu : Uniq l) {x : Mv} (h : x ∈ l) : fro l x.dst = some x.src := by
  unfold Uniq at hu
  induction l with
  | nil => cases h
  | cons a l ih =>
    simp only [List.map_cons, List.nodup_cons] at hu
    unfold fro
    by_cases ha : a.dst = x.dst
    · rw [List.find?_cons_of_pos (by simp [ha])]
      rcases List.mem_cons.1 h with rfl | hm
      · rfl
      · exact absurd (List.mem_map.2 ⟨x, hm, rfl⟩) (ha ▸ hu.1)
    · rw [List.find?_cons_of_neg (by simp [ha])]
      rcases List.mem_cons.1 h with rfl | hm
      · exact absurd rfl ha
      · exact ih hu.2 hm
theorem fro_dropD (l : List Mv) (p q : Int) : fro (dropD l p) q = if q = p then none else fro l q := by
  unfold fro dropD
  rw [List.find?_filter]
  by_cases hq : q = p
  · subst hq
    rw [if_pos rfl, Option.map_eq_none_iff, List.find?_eq_none]
    intro x hx
    simp
  · rw [if_neg hq]
    congr 2
    funext x
    by_cases hx : x.dst = q
    · simp [hx, hq]
    · simp [hx]
theorem Uniq.dropD {l : List Mv} (h : Uniq l) (p : Int) : Uniq (dropD l p) := List.Nodup.sublist ((List.filter_sublist).map _) h
theorem mem_dropD {l : List Mv} {p : Int} {x : Mv} : x ∈ dropD l p ↔ x ∈ l ∧ x.dst ≠ p := by unfold dropD; simp
theorem dropD_none {l : List Mv} {p : Int} (h : ∀ x ∈ l, x.dst ≠ p) : dropD l p = l := by
  unfold dropD
  rw [List.filter_eq_self]
  intro x hx
  simp [h x hx]
theorem perm_dropD {l : List Mv} (hu : Uniq l) {p s : Int} (h : ⟨p, s⟩ ∈ l) : l.Perm (⟨p, s⟩ :: dropD l p) := by
  unfold Uniq at hu
  induction l with
  | nil => cases h
  | cons a l ih =>
    simp only [List.map_cons, List.nodup_cons] at hu
    rcases List.mem_cons.1 h with rfl | hm
    · have : Moves.dropD (⟨p, s⟩ :: l) p = l := by
        rw [show Moves.dropD (⟨p, s⟩ :: l) p = Moves.dropD l p from by unfold Moves.dropD; simp]
        exact dropD_none fun x hx hp => hu.1 (List.mem_map.2 ⟨x, hx, hp⟩)
      rw [this]
    · have ha : a.dst ≠ p := fun hp => hu.1 (List.mem_map.2 ⟨_, hm, hp.symm⟩)
      rw [show Moves.dropD (a :: l) p = a :: Moves.dropD l p from by unfold Moves.dropD; simp [ha]]
      exact ((ih hu.2 hm).cons a).trans (.swap _ _ _)
theorem len_dropD {l : List Mv} (hu : Uniq l) {p s : Int} (h : fro l p = some s) : (dropD l p).length + 1 = l.length := by
  have := (perm_dropD hu (fro_mem h)).length_eq
  simpa using this.symm
theorem ask_dropD {l : List Mv} (hu : Uniq l) {p s : Int} (h : fro l p = some s) (q : Int) : ask l q = ask (dropD l p) q + if s = q then 1 else 0 := by
  unfold ask
  rw [(perm_dropD hu (fro_mem h)).countP_eq, List.countP_cons]
  simp
theorem ask_le (l : List Mv) (p : Int) : ask l p ≤ l.length := List.countP_le_length
/-- keys that are numbers -/
def ik (d : Int) : Lit := .int .i64 d
def fromF (l : List Mv) : Lit → Option Value
  | .int .i64 d => (fro l d).map (.int .i64)
  | _ => none
theorem fromF_ik (l : List Mv) (d : Int) : fromF l (ik d) = (fro l d).map (.int .i64) := rfl
theorem fromF_drop (l : List Mv) (p : Int) : upd (fromF l) (ik p) none = fromF (dropD l p) := by
  funext k
  by_cases hk : k = ik p
  · subst hk
    rw [upd_same, fromF_ik, fro_dropD, if_pos rfl]
    rfl
  · rw [upd_other _ _ hk]
    unfold fromF
    split
    · rename_i d
      have : d ≠ p := fun h => hk (by rw [h]; rfl)
      rw [fro_dropD, if_neg this]
    · rfl
theorem fro_snoc {l : List Mv} {x : Mv} (hx : ∀ y ∈ l, y.dst ≠ x.dst) (q : Int) : fro (l ++ [x]) q = if q = x.dst then some x.src else fro l q := by
  unfold fro
  rw [List.find?_append]
  by_cases hq : q = x.dst
  · rw [if_pos hq]
    subst hq
    have : l.find? (fun y => y.dst == x.dst) = none := by rw [List.find?_eq_none]; intro y hy; simp [hx y hy]
    rw [this]
    simp
  · rw [if_neg hq]
    have : ([x].find? fun y => y.dst == q) = none := by rw [List.find?_eq_none]; intro y hy; rw [List.mem_singleton.1 hy]; simp; exact fun h => hq h.symm
    rw [this]
    simp
theorem fromF_snoc {l : List Mv} {x : Mv} (hx : ∀ y ∈ l, y.dst ≠ x.dst) : upd (fromF l) (ik x.dst) (some (.int .i64 x.src)) = fromF (l ++ [x]) := by
  funext k
  by_cases hk : k = ik x.dst
  · subst hk
    rw [upd_same, fromF_ik, fro_snoc hx, if_pos rfl]
    rfl
  · rw [upd_other _ _ hk]
    unfold fromF
    split
    · rename_i d
      have : d ≠ x.dst := fun h => hk (by rw [h]; rfl)
      rw [fro_snoc hx, if_neg this]
    · rfl
theorem fromF_nil : fromF [] = fun _ => none := by
  funext k
  unfold fromF
  split <;> rfl
def AskF (l : List Mv) (f : Lit → Option Value) : Prop := ∀ q, (f (ik q)).getD (.int .i64 0) = .int .i64 (ask l q : Nat)
theorem ik_inj {p q : Int} (h : ik p = ik q) : p = q := by unfold ik at h; injection h
theorem AskF.nil_ : AskF [] (fun _ => none) := fun _ => rfl
theorem AskF.drop {L L' : List Mv} {f : Lit → Option Value} {s : Int} (h : AskF L f) (hL : ∀ q, ask L q = ask L' q + if s = q then 1 else 0) (n : Int) (hn : n = (ask L s : Int) - 1) : AskF L' (upd f (ik s) (some (.int .i64 n))) := by
  intro q
  have ha := hL q
  by_cases hq : q = s
  · subst hq
    rw [upd_same]
    rw [if_pos rfl] at ha
    simp only [Option.getD_some]
    congr 1
    omega
  · rw [upd_other _ _ (fun hk => hq (ik_inj hk)), h q]
    rw [if_neg (fun h => hq h.symm)] at ha
    rw [ha]
    simp
theorem ask_app (L G : List Mv) (q : Int) : ask (L ++ G) q = ask L q + ask G q := List.countP_append ..
theorem AskF.snoc {l : List Mv} {f : Lit → Option Value} (h : AskF l f) (x : Mv) (n : Int) (hn : n = (ask l x.src : Int) + 1) : AskF (l ++ [x]) (upd f (ik x.src) (some (.int .i64 n))) := by
  intro q
  have ha : ask (l ++ [x]) q = ask l q + if x.src = q then 1 else 0 := by
    unfold ask
    rw [List.countP_append, List.countP_cons]
    simp
  by_cases hq : q = x.src
  · subst hq
    rw [upd_same]
    rw [if_pos rfl] at ha
    simp only [Option.getD_some]
    congr 1
    omega
  · rw [upd_other _ _ (fun hk => hq (ik_inj hk)), h q]
    rw [if_neg (fun h => hq h.symm)] at ha
    rw [ha]
    simp
theorem lawI : Keyed Try.prog 3 := int_keyed Try.underlying3
theorem zeroI (w : World) : (zeroValue 3).run Try.prog w = .ok (.int .i64 0) w := by kernel_rfl
theorem keyI {d : Int} (h : in64 d) : keyOf Try.prog 3 (.int .i64 d) = some (ik d) := Go.Maps.keyOf_int_mk Try.underlying3 (by obtain ⟨h1, h2⟩ := h; show (decide (_ ≤ d) && decide (d ≤ _)) = true; rw [Bool.and_eq_true, decide_eq_true_eq, decide_eq_true_eq]; exact ⟨h1, h2⟩)
theorem mv_info : (Try.prog.info? 33).map (fun i => (i.zero, i.size, i.bytes)) = some (some (.agg #[.int .i64 0, .int .i64 0]), 2, 16) := by kernel_rfl
/-- a mover in memory: block p, its maps b1 and b2, its slice v -/
structure MW (w : World) (p b1 b2 : Nat) (v : Value) (base N : Nat) (S G O : List Mv) : Prop where
  blk : Blk w p 47 #[.map (some b1), .map (some b2), v]
  frm : ∃ n, n ≤ N ∧ VM Try.prog 3 w b1 n (fromF S)
  asked : ∃ n f, n + S.length ≤ N ∧ VM Try.prog 3 w b2 n f ∧ AskF (S ++ G) f
  out : OwnR 33 2 w base v O.length (O.map Mv.row)
  ne : b1 ≠ b2
  uniq : Uniq S
  len : O.length + S.length ≤ N
  glen : G.length + S.length ≤ N
def mvBlocks (p b1 b2 : Nat) (v : Value) : List Nat := p :: b1 :: b2 :: ownL v
end Go.Proofs.Ythaifmfioabmkaa.Moves
