/- copy into a row that is known whole; bytes.Clone. -/
import Derived.Test.YthgfmoogagldmaaGreatBytes
import Derived.Laws.CopyOwn
set_option linter.unusedVariables false
namespace Go.Proofs.YthgfmoogagldmaaGreat
open Go.RowKit
theorem Only.setRow0 {w w' : World} {S : List Nat} (h : Only S w w') {g : Nat} (hg : g ∈ S ∨ w.heap.size ≤ g) (cs : Array Value) : Only S w (w'.setRow g cs) :=
  ⟨h.os, h.tape, h.output, by simpa [World.setRow] using h.size, fun i hi hn => (setRow_other w' g i cs (by
    rintro rfl
    rcases hg with hg | hg
    · exact hn hg
    · omega)).trans (h.block i hi hn)⟩
section
variable {P : Program} {w : World} {ops : Array Oper} {rest : List Oper} {o : Oper} {a : Act} {Q : Exit → Act → World → Prop}
def spliced (cur : Array Value) (off : Nat) (l : List UInt8) : Array Value := (cur.toList.take off ++ (l.map B8 ++ cur.toList.drop (off + l.length))).toArray
theorem run_copy_bytes {dT sT elem : TypeId} (hu : P.underlying dT = some (.slice elem)) (hsz : (P.info? elem).map (·.size) = some 1) {g off dLen dCap : Nat} {A : Option Addr} {sLen sCap B : Nat} {t : TypeId} {cur : Array Value} {l : List UInt8}
    (hg : Blk w g t cur) (hr : Bytes w B A sLen l) (hs : 0 < sLen) (hfit : off + Nat.min sLen dLen ≤ cur.size) (ty : TypeId) :
    (Builtin.copy_ #[dT, sT] ty #[.slice (some ⟨g, off, none⟩) dLen dCap, .slice A sLen sCap]).run P w = .ok (goInt (l.take dLen).length) (w.setRow g (spliced cur off (l.take dLen))) := by
  obtain ⟨hl, hrd⟩ := hr
  obtain ⟨ad, hA, hb, hc⟩ := hrd.2 hs
  subst hA
  have hlen : ((l.take dLen).map B8).length = Nat.min sLen dLen := by rw [List.length_map, List.length_take, hl]; exact Nat.min_comm _ _
  have := run_copy_row (P := P) w dT sT ty elem g off dLen dCap ad sLen sCap cur t ((l.take dLen).map B8) hu hsz hg hlen (by
    intro j v hv
    refine hc j v ?_
    rw [List.getElem?_map] at hv ⊢
    rw [List.getElem?_take] at hv
    split at hv
    · exact hv
    · cases hv) (by rw [hlen]; exact hfit) (fun v hv => by obtain ⟨c, _, rfl⟩ := List.mem_map.1 hv; rfl)
  rw [this]
  unfold spliced
  rw [List.length_map, List.append_assoc]
theorem wpList_copy_bytes (hgd : o.guard = none) (d s : Operand) (dT sT : TypeId)
    (ho : o.op = .call { callee := .builtin .copy, args := #[d, s], argTypes := #[dT, sT] }) {elem : TypeId} (hu : P.underlying dT = some (.slice elem)) (hsz : (P.info? elem).map (·.size) = some 1)
    {g off dLen dCap : Nat} {A : Option Addr} {sLen sCap B : Nat} (hd : a.eval d = .slice (some ⟨g, off, none⟩) dLen dCap) (hs : a.eval s = .slice A sLen sCap)
    {t : TypeId} {cur : Array Value} {l : List UInt8} (hg : Blk w g t cur) (hr : Bytes w B A sLen l) (hp : 0 < sLen) (hfit : off + Nat.min sLen dLen ≤ cur.size)
    (h : ∀ w' (k : Nat), Blk w' g t (spliced cur off (l.take dLen)) → Only [g] w w' → wpList P ops Q rest (a.put o.dst (goInt k)) w') : wpList P ops Q (o :: rest) a w := by
  refine wpList_plain hgd fun K hK => ?_
  have hrun := run_copy_bytes (P := P) (sT := sT) (dCap := dCap) (sCap := sCap) hu hsz hg hr hp hfit o.type
  obtain ⟨k, hk⟩ : ∃ k, (l.take dLen).length = k := ⟨_, rfl⟩
  rw [hk] at hrun
  clear hk
  unfold Oper.wp
  simp [execOp, ho, resolve, invoke, builtin, hd, hs, hrun, Result.andThen]
  exact hK _ _ (h _ k (setRow_heap w g _ _ t (0, 0) hg) ((Only.refl [g] w).setRow0 (.inl (by simp)) _))
theorem step_copy_bytes {K1 : Act → World → Prop} {E : Prop} (hgd : o.guard = none) (d s : Operand) (dT sT : TypeId)
    (ho : o.op = .call { callee := .builtin .copy, args := #[d, s], argTypes := #[dT, sT] }) {elem : TypeId} (hu : P.underlying dT = some (.slice elem)) (hsz : (P.info? elem).map (·.size) = some 1)
    {g off dLen dCap : Nat} {A : Option Addr} {sLen sCap B : Nat} (hd : a.eval d = .slice (some ⟨g, off, none⟩) dLen dCap) (hs : a.eval s = .slice A sLen sCap)
    {t : TypeId} {cur : Array Value} {l : List UInt8} (hg : Blk w g t cur) (hr : Bytes w B A sLen l) (hp : 0 < sLen) (hfit : off + Nat.min sLen dLen ≤ cur.size)
    (h : ∀ w' (k : Nat), Blk w' g t (spliced cur off (l.take dLen)) → Only [g] w w' → K1 (a.put o.dst (goInt k)) w') : if Region.wanted o (yielded ops a.tmps) = true then Oper.wp P o a w K1 Q else E := by
  rw [if_pos (by simp [Region.wanted, hgd])]
  have hrun := run_copy_bytes (P := P) (sT := sT) (dCap := dCap) (sCap := sCap) hu hsz hg hr hp hfit o.type
  obtain ⟨k, hk⟩ : ∃ k, (l.take dLen).length = k := ⟨_, rfl⟩
  rw [hk] at hrun
  clear hk
  unfold Oper.wp
  simp [execOp, ho, resolve, invoke, builtin, hd, hs, hrun, Result.andThen]
  exact h _ k (setRow_heap w g _ _ t (0, 0) hg) ((Only.refl [g] w).setRow0 (.inl (by simp)) _)
end
theorem spliced_size (cur : Array Value) (off : Nat) (l : List UInt8) (h : off + l.length ≤ cur.size) : (spliced cur off l).size = cur.size := by
  unfold spliced
  simp
  omega
theorem spliced_at (cur : Array Value) (off : Nat) (l : List UInt8) (h : off + l.length ≤ cur.size) (k : Nat) : (spliced cur off l)[k]? = if off ≤ k ∧ k < off + l.length then some (B8 (l.getD (k - off) 0)) else cur[k]? := by
  unfold spliced
  rw [List.getElem?_toArray]
  have htl : (cur.toList.take off).length = off := by rw [List.length_take]; simp; omega
  by_cases h1 : k < off
  · rw [if_neg (by omega), List.getElem?_append_left (by omega), List.getElem?_take, if_pos h1, Array.getElem?_toList]
  · rw [List.getElem?_append_right (by omega), htl]
    by_cases h2 : k < off + l.length
    · rw [if_pos ⟨by omega, h2⟩, List.getElem?_append_left (by rw [List.length_map]; omega), List.getElem?_map, List.getElem?_eq_getElem (by omega), List.getD_eq_getElem?_getD, List.getElem?_eq_getElem (by omega)]
      rfl
    · rw [if_neg (by omega), List.getElem?_append_right (by rw [List.length_map]; omega), List.length_map, List.getElem?_drop, Array.getElem?_toList]
      congr 1
      omega
end Go.Proofs.YthgfmoogagldmaaGreat
