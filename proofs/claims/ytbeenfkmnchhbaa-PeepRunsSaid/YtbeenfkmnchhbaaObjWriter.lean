/- A Writer's numbers, other blocks kept; what code and entries are as bytes. -/
import Derived.Test.YtbeenfkmnchhbaaObjRight
import Derived.Test.YtbeenfkmnchhbaaWriterKeep
namespace Go.Proofs.Ytbeenfkmnchhbaa.Codec
open Go.RowKit
set_option linter.unusedVariables false
section
variable {w0 w w' w'' : World} {p N : Nat} {l : List UInt8}
theorem num_in_k (h : WI w0 w p N l) (zs : List Int) (C : Array Value) (e : TypeId) (fr : Nat × Nat) (m c g : Nat) (hm : zs.length = m) (hg : w.heap.size = g) (hC : C.toList = zs.map (.int .i64)) (hN : N + 8 * m ≤ 140737488355328) :
    Calls Try.prog 79 #[.pointer (some ⟨p, 0, none⟩), .slice (some ⟨g, 0, none⟩) m c] (w.alloc (.cells C e fr)) fun x w' => x = .returned (.tuple #[]) ∧ WI w0 w' p (N + 8 * m) (l ++ nums zs) ∧ Kept (w.alloc (.cells C e fr)) w' := by
  subst hm; subst hg
  obtain ⟨v, n, hn, hw, h0, hp, hv⟩ := h
  have hr := Reads.const w (zs.map (Value.int .i64)) C e fr hC
  rw [List.length_map] at hr
  refine (num_any p n v l _ _ c _ zs _ (hw.only ((Only.refl [] w).alloc _) (by simp) (by simp)) rfl hr ?_ (by omega)).mono ?_
  · intro k hk hm
    simp [blkOf] at hk
    subst hk
    rcases List.mem_cons.1 hm with e | e
    · have := hw.blk.lt; omega
    · have := hw.own.lt _ e; omega
  · rintro x w' ⟨rfl, v', hw', ht⟩
    exact ⟨rfl, wi_turned (h0.alloc _) hp hv hw' (by omega) ht, kept_turned (hw.only ((Only.refl [] w).alloc _) (by simp) (by simp)) ht⟩
end
end Go.Proofs.Ytbeenfkmnchhbaa.Codec
namespace Go.Proofs.Ytbeenfkmnchhbaa.Object
open Go.RowKit Codec
set_option linter.unusedVariables false
def layCd (c : Cd) : List UInt8 := smalls [c.op, c.a + 1, c.b, c.c] ++ nums [c.n]
def layEn (e : En) : List UInt8 := texts [e.name] ++ nums [e.pos]
def layO (d : OD) : List UInt8 := smalls [(d.code.length : Int)] ++ d.code.flatMap layCd ++ smalls [(d.ents.length : Int)] ++ d.ents.flatMap layEn ++ smalls [(d.calls.length : Int)] ++ d.calls.flatMap layEn
/-- what an instruction's fields may be, where code may be and is clean -/
structure CdIn (c : Cd) : Prop where
  op : 1 ≤ c.op ∧ c.op ≤ 23
  a : -1 ≤ c.a ∧ c.a < 8
  b : 0 ≤ c.b ∧ c.b < 8
  c : 0 ≤ c.c ∧ c.c < 8
theorem part_ok {c : Cd} {m : Int} {l : List UInt8} (h : l.all (fun p => partOk c m (p.toNat : Int)) = true) :
    (65 ∈ l → 0 ≤ c.a ∧ c.a < 8) ∧ (66 ∈ l → 0 ≤ c.b ∧ c.b < 8) ∧ (67 ∈ l → 0 ≤ c.c ∧ c.c < 8) ∧ (97 ∈ l → c.a < 8) := by
  rw [List.all_eq_true] at h
  refine ⟨fun k => ?_, fun k => ?_, fun k => ?_, fun k => ?_⟩
  all_goals
    have := h _ k
    simpa [partOk, regOk] using this
theorem cd_in {c : Cd} {m : Int} (h : codeOk m c = true) (hc : cleanB c = true) : CdIn c := by
  unfold codeOk at h
  rw [Bool.and_eq_true] at h
  obtain ⟨hw, hp⟩ := h
  have hcl : clean c = c := of_decide_eq_true hc
  have hop : 1 ≤ c.op ∧ c.op ≤ 23 := by unfold wordOk at hw; simpa using hw
  obtain ⟨ra, rb, rc, rl⟩ := part_ok hp
  obtain ⟨op, a, b, cc, n⟩ := c
  simp only at hop ra rb rc rl
  unfold partsOf at ra rb rc rl
  unfold clean at hcl
  simp only at hcl
  by_cases h1 : op = 1 ∨ op = 14 ∨ op = 15 ∨ op = 17 ∨ op = 22 ∨ op = 23
  · rw [if_pos h1] at hcl
    injection hcl with _ _ hb hcc _
    have : 0 ≤ a ∧ a < 8 := by
      apply ra
      rcases h1 with rfl | rfl | rfl | rfl | rfl | rfl <;> simp
    exact ⟨hop, ⟨by simp only; omega, this.2⟩, ⟨by simp only; omega, by simp only; omega⟩, ⟨by simp only; omega, by simp only; omega⟩⟩
  · rw [if_neg h1] at hcl
    by_cases h18 : op = 18
    · rw [if_pos h18] at hcl
      injection hcl with _ ha hb hcc _
      have : a < 8 := by apply rl; subst h18; simp
      exact ⟨hop, ⟨by simp only; split at ha <;> omega, this⟩, ⟨by simp only; omega, by simp only; omega⟩, ⟨by simp only; omega, by simp only; omega⟩⟩
    · rw [if_neg h18] at hcl
      by_cases h19 : op = 19
      · rw [if_pos h19] at hcl
        injection hcl with _ ha hb hcc _
        have : a < 8 := by apply rl; subst h19; simp
        exact ⟨hop, ⟨by simp only; split at ha <;> omega, this⟩, ⟨by simp only; omega, by simp only; omega⟩, ⟨by simp only; omega, by simp only; omega⟩⟩
      · rw [if_neg h19] at hcl
        by_cases h16 : op = 16
        · rw [if_pos h16] at hcl
          injection hcl with _ ha hb hcc _
          exact ⟨hop, ⟨by simp only; omega, by simp only; omega⟩, ⟨by simp only; omega, by simp only; omega⟩, ⟨by simp only; omega, by simp only; omega⟩⟩
        · rw [if_neg h16] at hcl
          by_cases h20 : op = 20
          · rw [if_pos h20] at hcl
            injection hcl with _ ha hb hcc _
            have : 0 ≤ a ∧ a < 8 := by apply ra; subst h20; simp
            exact ⟨hop, ⟨by simp only; omega, this.2⟩, ⟨by simp only; omega, by simp only; omega⟩, ⟨by simp only; omega, by simp only; omega⟩⟩
          · rw [if_neg h20] at hcl
            by_cases h2 : op = 2 ∨ op = 3 ∨ op = 4
            · rw [if_pos h2] at hcl
              injection hcl with _ ha hb hcc _
              have h3 : 0 ≤ a ∧ a < 8 := by apply ra; rcases h2 with rfl | rfl | rfl <;> simp
              have h4 : 0 ≤ b ∧ b < 8 := by apply rb; rcases h2 with rfl | rfl | rfl <;> simp
              exact ⟨hop, ⟨by simp only; omega, h3.2⟩, h4, ⟨by simp only; omega, by simp only; omega⟩⟩
            · rw [if_neg h2] at hcl
              by_cases h5 : 5 ≤ op ∧ op ≤ 13
              · have hl : (if op = 1 then ([65, 110] : List UInt8) else if op = 2 ∨ op = 3 ∨ op = 4 then [65, 66] else if op = 14 then [65, 115] else if op = 15 then [115, 65] else if op = 16 then [116] else if op = 17 then [65, 116] else
  if op = 18 then [97, 116] else if op = 19 then [97] else if op = 20 then [65] else if op = 21 then [] else if op = 22 then [112, 65] else if op = 23 then [65, 112] else [65, 66, 67]) = [65, 66, 67] := by
                  rw [if_neg (by omega), if_neg (by omega), if_neg (by omega), if_neg (by omega), if_neg (by omega), if_neg (by omega), if_neg (by omega), if_neg (by omega), if_neg (by omega), if_neg (by omega), if_neg (by omega), if_neg (by omega)]
                rw [hl] at ra rb rc
                have h3 := ra (by simp)
                have h4 := rb (by simp)
                have h6 := rc (by simp)
                exact ⟨hop, ⟨by simp only; omega, h3.2⟩, h4, h6⟩
              · rw [if_neg h5] at hcl
                injection hcl with _ ha hb hcc _
                exact ⟨hop, ⟨by simp only; omega, by simp only; omega⟩, ⟨by simp only; omega, by simp only; omega⟩, ⟨by simp only; omega, by simp only; omega⟩⟩
/-- what an object that may be is like -/
structure RightIn (d : OD) : Prop where
  n1 : d.code.length ≤ 32768
  n2 : d.ents.length ≤ 4096
  n3 : d.calls.length ≤ 4096
  code : ∀ c ∈ d.code, CdIn c
  ents : ∀ e ∈ d.ents, 1 ≤ e.name.size ∧ e.name.size ≤ 255
  calls : ∀ e ∈ d.calls, 1 ≤ e.name.size ∧ e.name.size ≤ 255
theorem named_in {s : ByteArray} (h : namedB s = true) : 1 ≤ s.size ∧ s.size ≤ 255 := by
  unfold namedB at h
  simp only [Bool.and_eq_true, Bool.not_eq_true', decide_eq_true_eq] at h
  obtain ⟨h1, h2⟩ := h
  rw [Lib.toList_data] at h1
  have : s.data.toList ≠ [] := fun h => by rw [h] at h1; simp at h1
  have h3 : s.data.toList.length ≠ 0 := fun h => this (List.length_eq_zero_iff.1 h)
  rw [data_len] at h3
  omega
theorem calls_in : ∀ (cs : List Cd) (i : Int) (ls : List En), callsOk i cs ls = true → ∀ l ∈ ls, namedB l.name = true
  | [], i, ls, h, l, hl => by
    have : ls = [] := List.isEmpty_iff.1 h
    subst this
    cases hl
  | c :: cs, i, ls, h, l, hl => by
    unfold callsOk at h
    by_cases h18 : c.op = 18
    · rw [if_pos h18] at h
      cases ls with
      | nil => cases hl
      | cons x r =>
        simp only [Bool.and_eq_true] at h
        rcases List.mem_cons.1 hl with rfl | hl
        · exact h.2.1
        · exact calls_in cs _ r h.2.2.2 l hl
    · rw [if_neg h18] at h
      exact calls_in cs _ ls h l hl
theorem right_in {d : OD} (h : objRight d = true) : RightIn d := by
  unfold objRight at h
  by_cases h0 : d.code.length = 0
  · rw [if_pos h0] at h
    simp only [beq_iff_eq] at h
    have h1 : d.code = [] := List.length_eq_zero_iff.1 h0
    have h2 : d.ents = [] := List.length_eq_zero_iff.1 (by omega)
    have h3 : d.calls = [] := List.length_eq_zero_iff.1 (by omega)
    exact ⟨by omega, by omega, by omega, by rw [h1]; simp, by rw [h2]; simp, by rw [h3]; simp⟩
  · rw [if_neg h0] at h
    simp only [Bool.and_eq_true, decide_eq_true_eq] at h
    obtain ⟨⟨⟨n1, n2, n3⟩, hv⟩, he, hc, hk⟩ := h
    refine ⟨n1, n2, n3, fun c hm => ?_, fun e hm => ?_, fun e hm => ?_⟩
    · unfold vmRight at hv
      simp only [Bool.and_eq_true] at hv
      exact cd_in (List.all_eq_true.1 hv.1.2 c hm) (List.all_eq_true.1 hc c hm)
    · have := List.all_eq_true.1 he e hm
      unfold entOk at this
      simp only [Bool.and_eq_true] at this
      exact named_in this.1.1
    · exact named_in (calls_in _ _ _ hk e hm)
end Go.Proofs.Ytbeenfkmnchhbaa.Object
