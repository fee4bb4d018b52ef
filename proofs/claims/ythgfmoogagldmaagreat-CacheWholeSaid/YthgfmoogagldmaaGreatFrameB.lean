/- FrameB: The walks of frame: how many sectors; the bytes of sectors, by the document; The walks of frame: bytes in sectors, by the document. -/
import Derived.Test.YthgfmoogagldmaaGreatConcat
import Derived.Test.YthgfmoogagldmaaGreatRows2
set_option linter.unusedVariables false
set_option maxRecDepth 100000
namespace Go.Proofs.YthgfmoogagldmaaGreat.Frame
open Go.RowKit
def needZ (n : Int) : Int := if n ≤ 0 then 0 else (n - 1) / 64 + 1
theorem need_int (n : Int) (w : World) (h0 : -9223372036854775808 ≤ n) (h1 : n < 9223372036854775808) : Calls Tryz.prog 110 #[.int .i64 n] w fun x w' => x = .returned (.int .i64 (needZ n)) ∧ w = w' := by
  by_cases h : n ≤ 0
  · have hv : needZ n = 0 := if_pos h
    have d1 : decide (n ≤ 0) = true := decide_eq_true h
    rw [hv]
    clear hv
    go_enter Tryz.func110, Tryz.ntmps110
    go_wp2_with fail
    go_ret
    exact ⟨rfl, rfl⟩
  · obtain ⟨k, rfl⟩ : ∃ k : Nat, n = (k : Int) + 1 := ⟨(n - 1).toNat, by omega⟩
    have hv : needZ ((k : Int) + 1) = (k : Int) / 64 + 1 := by unfold needZ; rw [if_neg h]; omega
    have d1 : decide ((k : Int) + 1 ≤ 0) = false := decide_eq_false h
    rw [hv]
    clear hv
    go_enter Tryz.func110, Tryz.ntmps110
    go_wp2_with fail
    go_ret
    exact ⟨rfl, rfl⟩
def allZ (l : List UInt8) : Prop := ∀ c ∈ l, c = 0
instance (l : List UInt8) : Decidable (allZ l) := by unfold allZ; infer_instance
def all64 (ss : List Sl) : Prop := ∀ s ∈ ss, s.n = 64
instance (ss : List Sl) : Decidable (all64 ss) := by unfold all64; infer_instance
def unp (ss : List Sl) (n : Int) : Option (List UInt8) :=
  if n < 0 ∨ 1048576 < n ∨ (ss.length : Int) ≠ needZ n then none
  else if ¬ all64 ss then none
  else if ¬ allZ ((flat ss).drop n.toNat) then none
  else some ((flat ss).take n.toNat)
def unpOut (u : Option (List UInt8)) (w : World) (x : Ending) (w' : World) : Prop :=
  ∃ A n c, x = .returned (.tuple #[.slice A n c, .bool u.isSome]) ∧ Bytes w' w'.heap.size A n (u.getD []) ∧ n ≤ c ∧ c ≤ maxLen ∧ Only [] w w'
theorem flat_len (ss : List Sl) (w : World) (B : Nat) (hok : ∀ s ∈ ss, Bytes w B s.A s.n s.l) (h : all64 ss) : (flat ss).length = 64 * ss.length := by
  induction ss with
  | nil => rfl
  | cons s ss ih =>
    have h1 := (hok s (by simp)).len
    have h2 := h s (by simp)
    have h3 := ih (fun s hs => hok s (by simp [hs])) (fun s hs => h s (by simp [hs]))
    show (s.l ++ flat ss).length = _
    rw [List.length_append, h3, h1, h2, List.length_cons]
    omega
theorem allZ_step (l : List UInt8) (a j : Nat) (haj : a ≤ j) (hj : j < l.length) (h : allZ ((l.drop a).take (j - a))) (h0 : l.getD j 0 = 0) : allZ ((l.drop a).take (j + 1 - a)) := by
  intro c hc
  rw [show j + 1 - a = (j - a) + 1 by omega, List.take_succ_eq_append_getElem (by rw [List.length_drop]; omega)] at hc
  rcases List.mem_append.1 hc with hc | hc
  · exact h c hc
  · rw [List.mem_singleton.1 hc, List.getElem_drop]
    rw [List.getD_eq_getElem?_getD, List.getElem?_eq_getElem hj] at h0
    simp only [show a + (j - a) = j by omega]
    exact h0
theorem not_allZ (l : List UInt8) (a j : Nat) (haj : a ≤ j) (hj : j < l.length) (h0 : l.getD j 0 ≠ 0) : ¬ allZ (l.drop a) := by
  intro h
  apply h0
  rw [List.getD_eq_getElem?_getD, List.getElem?_eq_getElem hj]
  apply h
  rw [List.mem_iff_getElem]
  exact ⟨j - a, by rw [List.length_drop]; omega, by rw [List.getElem_drop]; congr 1; omega⟩
theorem need_le (n : Int) (m : Nat) (h0 : 0 ≤ n) (h : (m : Int) = needZ n) : n ≤ 64 * (m : Int) := by
  unfold needZ at h
  split at h <;> omega
end Go.Proofs.YthgfmoogagldmaaGreat.Frame
namespace Go.Proofs.YthgfmoogagldmaaGreat.Frame
open Go.RowKit
def sec (l : List UInt8) (i : Nat) : List UInt8 := (l.drop (64 * i)).take 64
def fill (s : List UInt8) (j : Nat) : List UInt8 := s.take j ++ List.replicate (64 - j) 0
def pad (s : List UInt8) : List UInt8 := fill s s.length
theorem fill_len (s : List UInt8) (j : Nat) (hj : j ≤ s.length) (hs : s.length ≤ 64) : (fill s j).length = 64 := by
  unfold fill
  rw [List.length_append, List.length_take, List.length_replicate]
  omega
theorem sec_len (l : List UInt8) (i : Nat) : (sec l i).length ≤ 64 := by unfold sec; rw [List.length_take]; omega
theorem sec_at (l : List UInt8) (i j : Nat) (hj : j < 64) (h : 64 * i + j < l.length) : j < (sec l i).length ∧ (sec l i).getD j 0 = l.getD (64 * i + j) 0 := by
  unfold sec
  refine ⟨by rw [List.length_take, List.length_drop]; omega, ?_⟩
  rw [List.getD_eq_getElem?_getD, List.getD_eq_getElem?_getD, List.getElem?_take, if_pos hj, List.getElem?_drop]
def SecAt (w : World) (s : Sl) : Prop := ∃ g, s.A = some ⟨g, 0, none⟩ ∧ s.n = 64 ∧ s.c = 64 ∧ Blk w g 5 (s.l.map B8).toArray ∧ s.l.length = 64
theorem SecAt.only {w w' : World} {s : Sl} {S : List Nat} (h : SecAt w s) (ho : Only S w w') (hS : ∀ g, (∃ t cs, t = 5 ∧ Blk w g t cs) → g ∉ S) : SecAt w' s := by
  obtain ⟨g, h1, h2, h3, h4, h5⟩ := h
  exact ⟨g, h1, h2, h3, h4.only ho (hS g ⟨_, _, rfl, h4⟩), h5⟩
theorem SecAt.bytes {w : World} {s : Sl} (h : SecAt w s) : Bytes w w.heap.size s.A s.n s.l := by
  obtain ⟨g, h1, h2, h3, h4, h5⟩ := h
  rw [h1, h2]
  refine ⟨h5, by simp [h5], fun _ => ⟨_, rfl, h4.lt, fun j u hu => ?_⟩⟩
  rw [add_zero_block, h4.cell j]
  simpa using hu
theorem row_ne {w : World} {base e size n : Nat} {v : Value} {rows : List (List Value)} (h : OwnR e size w base v n rows) (g : Nat) {t : TypeId} {cs : Array Value} (hb : Blk w g t cs) (ht : t ≠ e) : g ∉ ownL v := by
  intro hg
  obtain ⟨_, h0⟩ := h.own
  rcases h0 with ⟨rfl, _⟩ | ⟨g', cap, cur, rfl, _, hh, _⟩
  · simp [ownL, Value.ownBlock] at hg
  · simp [ownL, Value.ownBlock] at hg
    subst hg
    exact Blk.ne_ (t := e) hh hb (fun h => ht h.symm) rfl
theorem sl_info : (Tryz.prog.info? 35).map (fun i => (i.zero, i.size, i.bytes)) = some (some (.slice none 0 0), 1, 24) := by kernel_rfl
def pack (l : List UInt8) (k : Nat) : List (List UInt8) := (List.range k).map fun i => pad (sec l i)
def packOut (l : List UInt8) (w : World) (x : Ending) (w' : World) : Prop :=
  ∃ (v : Value) (ss : List Sl), x = .returned v ∧ OwnR 35 1 w' w.heap.size v ss.length (ss.map fun s => [s.val]) ∧ (∀ s ∈ ss, SecAt w' s) ∧ ss.map (·.l) = pack l (needZ l.length).toNat ∧ Only [] w w'
theorem made64 : (madeCells #[.int .u8 0] (64 * 1)).toList = (List.replicate 64 (0 : UInt8)).map B8 := by kernel_rfl
theorem made_blk {w : World} {base g : Nat} (s : List UInt8) (h : w.ownsRow base 5 1 (.slice (some ⟨g, 0, none⟩) 64 64) 64 (madeCells #[.int .u8 0] (64 * 1)).toList) : Blk w g 5 ((fill s 0).map B8).toArray := by
  obtain ⟨_, h0⟩ := h
  rcases h0 with ⟨h1, _⟩ | ⟨g', cap, cur, hv, _, hh, _, _, hsz, ht⟩
  · cases h1
  · injection hv with hv h64 hcap
    injection hv with hv
    injection hv with hg
    subst hg
    subst hcap
    have hc : cur = ((fill s 0).map B8).toArray := by
      apply Array.ext'
      have hl : cur.toList.length = 64 := by simpa using hsz
      rw [List.take_of_length_le (by rw [hl]; exact Nat.le_refl _), made64] at ht
      rw [ht]
      simp [fill]
    rw [← hc]
    exact hh
theorem sec_size (l : List UInt8) (k : Nat) : (sec l k).length = min 64 (l.length - 64 * k) := by unfold sec; rw [List.length_take, List.length_drop]
end Go.Proofs.YthgfmoogagldmaaGreat.Frame
