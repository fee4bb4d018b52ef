/- The words of DiskSafe: acts, and two arrays of eight sectors. -/
import Derived.Test.YtgbicimbggdpgaaDiskLaw1
import Derived.Test.YtgbicimbggdpgaaRecs
namespace Go.Proofs.Ytgbicimbggdpgaa.Disk
open Go.RowKit Go.Maps
set_option linter.unusedVariables false
set_option maxRecDepth 100000
structure AC where
  kind : Int
  at_ : Int
  n : Int
  b : UInt8
  fates : Value
def AC.row (x : AC) : List Value := [.int .i64 x.kind, .int .i64 x.at_, .int .i64 x.n, B8 x.b, x.fates]
def ac0 : AC := ⟨0, 0, 0, 0, .slice none 0 0⟩
theorem ac_at {w : World} {B m : Nat} {A : Option Addr} {cs : List AC} (hr : Recs w B 5 A m (cs.map AC.row)) (k : Nat) (hk : k < m) : ∃ b off, A = some ⟨b, off, none⟩ ∧ b < B ∧ ∃ c : AC, cs[k]? = some c ∧
    w.cell? ⟨b, off + k * 5, none⟩ = some (.int .i64 c.kind) ∧ w.cell? ⟨b, off + k * 5 + 1, none⟩ = some (.int .i64 c.at_) ∧ w.cell? ⟨b, off + k * 5 + 3, none⟩ = some (.int .u8 (c.b.toNat : Int)) := by
  obtain ⟨b, off, hA, hb, hc⟩ := hr.at_ ac0 hk
  have hl : k < cs.length := by have := hr.1; rw [List.length_map] at this; omega
  refine ⟨b, off, hA, hb, cs.getD k ac0, by rw [List.getD_eq_getElem?_getD, List.getElem?_eq_getElem hl]; rfl, ?_, ?_, ?_⟩
  · have := hc 0 (by decide); rw [Nat.add_zero] at this; exact this
  · exact hc 1 (by decide)
  · exact hc 3 (by decide)
/-- an array of eight sectors, the first n of which are known; no one of them lies in Z -/
def Arr (w : World) (a n : Nat) (f : Nat → List UInt8) (Z : List Nat) : Prop := ∃ C : Array Value, Blk w a 30 C ∧ C.size = 8 ∧ ∀ i, i < n → ∃ q c, C[i]? = some (.slice (some ⟨q, 0, none⟩) 64 c) ∧ Bytes w w.heap.size (some ⟨q, 0, none⟩) 64 (f i) ∧ q ∉ Z ∧ 64 ≤ c
section
variable {w w' : World} {a n : Nat} {f : Nat → List UInt8} {Z S : List Nat}
theorem Arr.only (h : Arr w a n f Z) (ho : Only S w w') (ha : a ∉ S) (hS : ∀ k ∈ S, k ∈ Z ∨ w.heap.size ≤ k) : Arr w' a n f Z := by
  obtain ⟨C, h1, h2, h3⟩ := h
  refine ⟨C, h1.only ho ha, h2, fun i hi => ?_⟩
  obtain ⟨q, c, h4, h5, h6, h7⟩ := h3 i hi
  refine ⟨q, c, h4, (h5.only ho (fun k hk => ?_)).more ho.size, h6, h7⟩
  simp [blkOf] at hk
  subst hk
  intro hm
  rcases hS _ hm with h | h
  · exact h6 h
  · have := h5.blk_lt (by decide) k (by simp [blkOf]); omega
theorem Arr.only0 (h : Arr w a n f Z) (ho : Only [] w w') : Arr w' a n f Z := h.only ho (by simp) (by simp)
theorem Arr.lt (h : Arr w a n f Z) : a < w.heap.size := by obtain ⟨C, h1, _⟩ := h; exact h1.lt
theorem Arr.frozen (h : Arr w a n f Z) (i : Nat) : w.frozen? ⟨a, i, none⟩ = false := by obtain ⟨C, h1, _⟩ := h; exact h1.frozen i
theorem Arr.cell_any (h : Arr w a n f Z) {i : Nat} (hi : i < 8) : ∃ v, w.cell? ⟨a, i, none⟩ = some v := by
  obtain ⟨C, h1, h2, _⟩ := h
  exact ⟨C[i]'(by omega), by rw [h1.cell, Array.getElem?_eq_getElem (by omega)]⟩
theorem Arr.cell (h : Arr w a n f Z) {i : Nat} (hi : i < n) : ∃ q c, w.cell? ⟨a, i, none⟩ = some (.slice (some ⟨q, 0, none⟩) 64 c) ∧ Bytes w w.heap.size (some ⟨q, 0, none⟩) 64 (f i) ∧ q ∉ Z ∧ 64 ≤ c := by
  obtain ⟨C, h1, h2, h3⟩ := h
  obtain ⟨q, c, h4, h5⟩ := h3 i hi
  exact ⟨q, c, by rw [h1.cell, h4], h5⟩
/-- a sector more is laid -/
theorem Arr.set {i q c : Nat} {l : List UInt8} {n' : Nat} {f' : Nat → List UInt8} (h : Arr w a n f Z) (hi : i < 8) (hb : Bytes w w.heap.size (some ⟨q, 0, none⟩) 64 l) (hq : q ∉ Z) (ha : a ∈ Z) (hc : 64 ≤ c) (hn : ∀ j, j < n' → j = i ∨ j < n) (hf : ∀ j, f' j = if j = i then l else f j) :
    Arr (w.setCell ⟨a, i, none⟩ (.slice (some ⟨q, 0, none⟩) 64 c)) a n' f' Z := by
  have ho : Only [a] w (w.setCell ⟨a, i, none⟩ (.slice (some ⟨q, 0, none⟩) 64 c)) := (Only.refl [a] w).setCell (p := ⟨a, i, none⟩) (.inl (by simp)) _
  have hkeep : ∀ {r : Nat} {l' : List UInt8}, r ∉ Z → Bytes w w.heap.size (some ⟨r, 0, none⟩) 64 l' → Bytes (w.setCell ⟨a, i, none⟩ (.slice (some ⟨q, 0, none⟩) 64 c)) (w.setCell ⟨a, i, none⟩ (.slice (some ⟨q, 0, none⟩) 64 c)).heap.size (some ⟨r, 0, none⟩) 64 l' := fun hr hb => (hb.only ho (fun k hk => by
    simp [blkOf] at hk
    subst hk
    intro hm
    exact hr (by rw [List.mem_singleton.1 hm]; exact ha))).more ho.size
  obtain ⟨C, h1, h2, h3⟩ := h
  refine ⟨_, h1.set_ i _, by simpa using h2, fun j hj => ?_⟩
  by_cases e : j = i
  · subst e
    refine ⟨q, c, by rw [Array.getElem?_setIfInBounds_self, if_pos (by omega)], ?_, hq, hc⟩
    rw [hf, if_pos rfl]
    exact hkeep hq hb
  · have hjn : j < n := by rcases hn j hj with h | h; exact absurd h e; exact h
    obtain ⟨r, c', h4, h5, h6, h7⟩ := h3 j hjn
    refine ⟨r, c', by rw [Array.getElem?_setIfInBounds_ne (fun h => e h.symm)]; exact h4, ?_, h6, h7⟩
    rw [hf, if_neg e]
    exact hkeep h6 h5
/-- one array is stored over another one -/
theorem Arr.eight (h : Arr w a n f Z) : ∃ v0 v1 v2 v3 v4 v5 v6 v7, Blk w a 30 #[v0, v1, v2, v3, v4, v5, v6, v7] ∧ ∀ i, i < n → ∃ q c, (#[v0, v1, v2, v3, v4, v5, v6, v7] : Array Value)[i]? = some (.slice (some ⟨q, 0, none⟩) 64 c) ∧ Bytes w w.heap.size (some ⟨q, 0, none⟩) 64 (f i) ∧ q ∉ Z ∧ 64 ≤ c := by
  obtain ⟨⟨C⟩, h1, h2, h3⟩ := h
  match C, h1, h2, h3 with
  | [v0, v1, v2, v3, v4, v5, v6, v7], h1, h2, h3 => exact ⟨v0, v1, v2, v3, v4, v5, v6, v7, h1, h3⟩
end
/-- what the law keeps of a disk that is not crashed -/
structure Keep (d : DS) (S L : Nat → List UInt8) : Prop where
  n : d.n = 8
  safe : ∀ i, i < 8 → S i = d.safe i
  last : ∀ i, i < 8 → L i = readD d i
theorem Keep.start : Keep (newD 8) (fun _ => List.replicate 64 0) (fun _ => List.replicate 64 0) := ⟨rfl, fun _ _ => rfl, fun _ _ => rfl⟩
theorem Keep.off {d : DS} {S L : Nat → List UInt8} (h : Keep d S L) : Keep { d with off := true } S L := ⟨h.n, h.safe, h.last⟩
theorem Keep.stop {d : DS} {S L : Nat → List UInt8} (h : Keep d S L) (a : Int) : Keep (stopD d a) S L := by
  unfold stopD
  split
  · exact h
  · exact ⟨h.n, h.safe, h.last⟩
theorem Keep.sync {d : DS} {S L : Nat → List UInt8} (h : Keep d S L) : Keep (syncD d) L L := by
  refine ⟨h.n, fun i hi => ?_, fun i hi => ?_⟩
  · rw [h.last i hi]; rfl
  · rw [h.last i hi]; rfl
theorem Keep.write {d : DS} {S L : Nat → List UInt8} (h : Keep d S L) (j : Nat) (l : List UInt8) : Keep (stepD { d with wait := setW d.wait j l }) S (fun i => if i = j then l else L i) := by
  refine ⟨h.n, h.safe, fun i hi => ?_⟩
  show _ = ((setW d.wait j l) i).getD (d.safe i)
  unfold setW
  by_cases e : i = j
  · rw [if_pos e, if_pos e]; rfl
  · rw [if_neg e, if_neg e]; exact h.last i hi
theorem crashL_half (z : Int) {s l : List UInt8} (hs : s.length = 64) (hl : l.length = 64) : ((crashL z s l).take 32 = s.take 32 ∨ (crashL z s l).take 32 = l.take 32) ∧ ((crashL z s l).drop 32 = s.drop 32 ∨ (crashL z s l).drop 32 = l.drop 32) := by
  have h1 : ∀ x y : List UInt8, x.length = 32 → (x ++ y).take 32 = x := fun x y hx => by rw [List.take_append_of_le_length (by omega), List.take_of_length_le (by omega)]
  have h2 : ∀ x y : List UInt8, x.length = 32 → (x ++ y).drop 32 = y := fun x y hx => by rw [List.drop_append_of_le_length (by omega), List.drop_eq_nil_of_le (by omega), List.nil_append]
  have e1 : (s.take 32).length = 32 := by rw [List.length_take]; omega
  have e2 : (l.take 32).length = 32 := by rw [List.length_take]; omega
  unfold crashL
  constructor
  · split
    · right; exact h1 _ _ e2
    · left; exact h1 _ _ e1
  · by_cases h : z = 1 ∨ z = 2
    · rw [if_pos h, h2 _ _ e2]
      split
      · exact .inr rfl
      · exact .inl rfl
    · rw [if_neg h, h2 _ _ e1]
      split
      · exact .inr rfl
      · exact .inl rfl
/-- behind a crash each half is of what was safe, or of what was last -/
theorem Keep.crash {d : DS} {S L : Nat → List UInt8} (h : Keep d S L) (hw : ∀ i l, d.wait i = some l → l.length = 64) (hs : ∀ i, i < 8 → (d.safe i).length = 64) (fs : List Int) {ks : List Nat} (hk : waitsD d ks) (i : Nat) (hi : i < 8) :
    ((readD (crashD d fs ks) i).take 32 = (S i).take 32 ∨ (readD (crashD d fs ks) i).take 32 = (L i).take 32) ∧ ((readD (crashD d fs ks) i).drop 32 = (S i).drop 32 ∨ (readD (crashD d fs ks) i).drop 32 = (L i).drop 32) := by
  have e1 : readD (crashD d fs ks) i = crashK d fs ks ks.length i := rfl
  rw [e1, h.safe i hi, h.last i hi]
  unfold crashK
  rw [List.take_length]
  by_cases hm : i ∈ ks
  · rw [if_pos hm]
    obtain ⟨l, hl⟩ := Option.isSome_iff_exists.1 ((hk.2 i).1 hm)
    have : readD d i = l := by unfold readD; rw [hl]; rfl
    rw [this]
    unfold crashAt
    rw [hl]
    exact crashL_half _ (hs i hi) (hw i l hl)
  · rw [if_neg hm]
    exact ⟨.inl rfl, .inl rfl⟩
end Go.Proofs.Ytgbicimbggdpgaa.Disk
