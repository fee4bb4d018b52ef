/- slices.Clone over code, entries and calls; a cell of an own row is stored. PRINTED by wip/gen_peepclone.py. -/
import Derived.Test.YtbeenfkmnchhbaaPeepTarget
import Derived.Lib.SliceRun
namespace Go.Proofs.Ytbeenfkmnchhbaa
open Go.RowKit
theorem flatten_set {size : Nat} : ∀ {rows : List (List Value)} (i j : Nat) (u : Value), (∀ r ∈ rows, r.length = size) → i < rows.length → j < size → (rows.set i ((rows.getD i []).set j u)).flatten = rows.flatten.set (i * size + j) u
  | [], i, j, u, _, hi, _ => by simp at hi
  | r :: rows, 0, j, u, h, _, hj => by
    have hr := h r (by simp)
    simp only [List.set_cons_zero, List.getD_cons_zero, List.flatten_cons, Nat.zero_mul, Nat.zero_add]
    rw [List.set_append_left _ _ (by omega)]
  | r :: rows, i + 1, j, u, h, hi, hj => by
    have hr := h r (by simp)
    have ih := flatten_set (rows := rows) i j u (fun x hx => h x (by simp [hx])) (by simpa using hi) hj
    simp only [List.set_cons_succ, List.getD_cons_succ, List.flatten_cons]
    rw [ih, List.set_append_right _ _ (by rw [hr, Nat.add_mul]; omega), hr]
    congr 2
    rw [Nat.add_mul]
    omega
theorem OwnR.set {e size : Nat} {w : World} {base g n cap : Nat} {rows : List (List Value)} (h : OwnR e size w base (.slice (some ⟨g, 0, none⟩) n cap) n rows) {i j : Nat} (hi : i < n) (hj : j < size) (u : Value) :
    OwnR e size (w.setCell ⟨g, i * size + j, none⟩ u) base (.slice (some ⟨g, 0, none⟩) n cap) n (rows.set i ((rows.getD i []).set j u)) := by
  have hl := h.len
  refine ⟨by rw [List.length_set]; exact h.len, ?_, ?_⟩
  · intro r hr
    rcases List.mem_or_eq_of_mem_set hr with hr | rfl
    · exact h.each r hr
    · rw [List.length_set, List.getD_eq_getElem?_getD, List.getElem?_eq_getElem (by omega)]
      exact h.each _ (List.getElem_mem _)
  · rw [flatten_set i j u h.each (by omega) hj]
    exact (h.own.stored (i * size + j) u).1
theorem OwnR.cellAt {e size : Nat} {w : World} {base g n cap : Nat} {rows : List (List Value)} (h : OwnR e size w base (.slice (some ⟨g, 0, none⟩) n cap) n rows) {i j : Nat} (hi : i < n) (hj : j < size) : w.cell? ⟨g, i * size + j, none⟩ = (rows.getD i [])[j]? := by
  rw [h.own.cellAt (i * size + j) (by have := Nat.mul_le_mul_right size (show i + 1 ≤ n from hi); rw [Nat.add_mul] at this; omega), flatten_get h.each i j hj]
theorem OwnR.frozenAt {e size : Nat} {w : World} {base g n cap : Nat} {rows : List (List Value)} (h : OwnR e size w base (.slice (some ⟨g, 0, none⟩) n cap) n rows) (q : Nat) : w.frozen? ⟨g, q, none⟩ = false := h.own.frozenAt q
theorem OwnR.empty_ {e size : Nat} (w : World) : OwnR e size (w.alloc (.cells #[] e)) w.heap.size (.slice (some ⟨w.heap.size, 0, none⟩) 0 0) 0 [] := by
  refine ⟨rfl, by simp, ⟨by simp, .inr ⟨w.heap.size, 0, #[], rfl, Nat.le_refl _, ?_, Nat.le_refl _, by simp [maxLen], by simp, by simp⟩⟩⟩
  exact heap_alloc_new w _
end Go.Proofs.Ytbeenfkmnchhbaa
namespace Go.Proofs.Ytbeenfkmnchhbaa.Peep
open Go.RowKit Object
set_option linter.unusedVariables false
set_option maxRecDepth 100000
theorem cd_info : (Try.prog.info? 59).map (fun i => (i.zero, i.size, i.bytes)) = some (some (.agg #[.int .i64 0, .int .i64 0, .int .i64 0, .int .i64 0, .int .i64 0]), 5, 40) := by kernel_rfl
theorem cd_one (c : Cd) : ∀ u ∈ Cd.row c, u.oneCell' = true := by intro u hu; simp [Cd.row] at hu; rcases hu with rfl | rfl | rfl | rfl | rfl <;> rfl
theorem clone_cd (A : Option Addr) (m c B : Nat) (l : List Cd) (w : World) (hr : Recs w B 5 A m (l.map Cd.row)) (hm : m ≤ 1000000) (hB : B ≤ w.heap.size) :
    Calls Try.prog 101 #[.slice A m c] w fun x w' => ∃ v, x = .returned v ∧ OwnR 59 5 w' w.heap.size v m (l.map Cd.row) ∧ Only [] w w' := by
  have HR := Lib.hid hr
  have hnil := fun (w : World) (a : Option Addr) (n c n' c' : Nat) => Lib.run_eql_slice_nil (P := Try.prog) w 53 59 a n c n' c' Try.underlying53
  cases A with
  | none =>
    have h0 : m = 0 := by
      rcases Nat.eq_zero_or_pos m with h | h
      · exact h
      · obtain ⟨_, _, e, _⟩ := hr.2 h
        cases e
    subst h0
    have hl : l = [] := List.eq_nil_of_length_eq_zero (by simpa using hr.1)
    subst hl
    clear hr
    go_enter Try.func101, Try.ntmps101
    go_wp2_with fail
    go_ret
    exact ⟨_, rfl, OwnR.nil_ _ _ _ _, Only.refl _ _⟩
  | some a =>
    clear hr
    have HE := Lib.hid (OwnR.empty_ (e := 59) (size := 5) w)
    have HO := Lib.hid ((Only.refl [] w).alloc (.cells #[] 59))
    have HR2 := Lib.hid (HR.out.only HO.out (by simp))
    obtain ⟨ti, hti, hz, h2, h3⟩ := info_parts cd_info
    go_enter Try.func101, Try.ntmps101
    go_wp2_with (at_builtin; refine wpList_append_rec rfl (.tmp 5) (.tmp 6) 53 rfl Try.underlying53 hti hz h2 h3 (by decide) (by decide) rfl HE.out rfl HR2.out (by intro r hr; obtain ⟨x, _, rfl⟩ := List.mem_map.1 hr; rfl) (by intro r hr; obtain ⟨x, _, rfl⟩ := List.mem_map.1 hr; exact cd_one x) (by omega) (by unfold maxLen; omega) (by rw [World.size_alloc]; omega) ?_; intro v' w2 hE)
    go_ret
    have hown := hE.own
    rw [Nat.zero_add, List.nil_append] at hown
    refine ⟨v', rfl, hown, HO.out.trans hE.only (fun g hg => .inr (HE.out.lt g hg).1)⟩
theorem en_info : (Try.prog.info? 73).map (fun i => (i.zero, i.size, i.bytes)) = some (some (.agg #[.string ⟨#[]⟩, .int .i64 0]), 2, 24) := by kernel_rfl
theorem en_one (c : En) : ∀ u ∈ En.row c, u.oneCell' = true := by intro u hu; simp [En.row] at hu; rcases hu with rfl | rfl <;> rfl
theorem clone_en (A : Option Addr) (m c B : Nat) (l : List En) (w : World) (hr : Recs w B 2 A m (l.map En.row)) (hm : m ≤ 1000000) (hB : B ≤ w.heap.size) :
    Calls Try.prog 139 #[.slice A m c] w fun x w' => ∃ v, x = .returned v ∧ OwnR 73 2 w' w.heap.size v m (l.map En.row) ∧ Only [] w w' := by
  have HR := Lib.hid hr
  have hnil := fun (w : World) (a : Option Addr) (n c n' c' : Nat) => Lib.run_eql_slice_nil (P := Try.prog) w 54 73 a n c n' c' Try.underlying54
  cases A with
  | none =>
    have h0 : m = 0 := by
      rcases Nat.eq_zero_or_pos m with h | h
      · exact h
      · obtain ⟨_, _, e, _⟩ := hr.2 h
        cases e
    subst h0
    have hl : l = [] := List.eq_nil_of_length_eq_zero (by simpa using hr.1)
    subst hl
    clear hr
    go_enter Try.func139, Try.ntmps139
    go_wp2_with fail
    go_ret
    exact ⟨_, rfl, OwnR.nil_ _ _ _ _, Only.refl _ _⟩
  | some a =>
    clear hr
    have HE := Lib.hid (OwnR.empty_ (e := 73) (size := 2) w)
    have HO := Lib.hid ((Only.refl [] w).alloc (.cells #[] 73))
    have HR2 := Lib.hid (HR.out.only HO.out (by simp))
    obtain ⟨ti, hti, hz, h2, h3⟩ := info_parts en_info
    go_enter Try.func139, Try.ntmps139
    go_wp2_with (at_builtin; refine wpList_append_rec rfl (.tmp 5) (.tmp 6) 54 rfl Try.underlying54 hti hz h2 h3 (by decide) (by decide) rfl HE.out rfl HR2.out (by intro r hr; obtain ⟨x, _, rfl⟩ := List.mem_map.1 hr; rfl) (by intro r hr; obtain ⟨x, _, rfl⟩ := List.mem_map.1 hr; exact en_one x) (by omega) (by unfold maxLen; omega) (by rw [World.size_alloc]; omega) ?_; intro v' w2 hE)
    go_ret
    have hown := hE.own
    rw [Nat.zero_add, List.nil_append] at hown
    refine ⟨v', rfl, hown, HO.out.trans hE.only (fun g hg => .inr (HE.out.lt g hg).1)⟩
theorem cl_info : (Try.prog.info? 75).map (fun i => (i.zero, i.size, i.bytes)) = some (some (.agg #[.int .i64 0, .string ⟨#[]⟩]), 2, 24) := by kernel_rfl
theorem cl_one (c : En) : ∀ u ∈ En.rowC c, u.oneCell' = true := by intro u hu; simp [En.rowC] at hu; rcases hu with rfl | rfl <;> rfl
theorem clone_cl (A : Option Addr) (m c B : Nat) (l : List En) (w : World) (hr : Recs w B 2 A m (l.map En.rowC)) (hm : m ≤ 1000000) (hB : B ≤ w.heap.size) :
    Calls Try.prog 140 #[.slice A m c] w fun x w' => ∃ v, x = .returned v ∧ OwnR 75 2 w' w.heap.size v m (l.map En.rowC) ∧ Only [] w w' := by
  have HR := Lib.hid hr
  have hnil := fun (w : World) (a : Option Addr) (n c n' c' : Nat) => Lib.run_eql_slice_nil (P := Try.prog) w 55 75 a n c n' c' Try.underlying55
  cases A with
  | none =>
    have h0 : m = 0 := by
      rcases Nat.eq_zero_or_pos m with h | h
      · exact h
      · obtain ⟨_, _, e, _⟩ := hr.2 h
        cases e
    subst h0
    have hl : l = [] := List.eq_nil_of_length_eq_zero (by simpa using hr.1)
    subst hl
    clear hr
    go_enter Try.func140, Try.ntmps140
    go_wp2_with fail
    go_ret
    exact ⟨_, rfl, OwnR.nil_ _ _ _ _, Only.refl _ _⟩
  | some a =>
    clear hr
    have HE := Lib.hid (OwnR.empty_ (e := 75) (size := 2) w)
    have HO := Lib.hid ((Only.refl [] w).alloc (.cells #[] 75))
    have HR2 := Lib.hid (HR.out.only HO.out (by simp))
    obtain ⟨ti, hti, hz, h2, h3⟩ := info_parts cl_info
    go_enter Try.func140, Try.ntmps140
    go_wp2_with (at_builtin; refine wpList_append_rec rfl (.tmp 5) (.tmp 6) 55 rfl Try.underlying55 hti hz h2 h3 (by decide) (by decide) rfl HE.out rfl HR2.out (by intro r hr; obtain ⟨x, _, rfl⟩ := List.mem_map.1 hr; rfl) (by intro r hr; obtain ⟨x, _, rfl⟩ := List.mem_map.1 hr; exact cl_one x) (by omega) (by unfold maxLen; omega) (by rw [World.size_alloc]; omega) ?_; intro v' w2 hE)
    go_ret
    have hown := hE.own
    rw [Nat.zero_add, List.nil_append] at hown
    refine ⟨v', rfl, hown, HO.out.trans hE.only (fun g hg => .inr (HE.out.lt g hg).1)⟩
end Go.Proofs.Ytbeenfkmnchhbaa.Peep
