/- DiskSafe, walked. -/
import Derived.Test.YtgbicimbggdpgaaDiskSafe1
namespace Go.Proofs.Ytgbicimbggdpgaa.Disk
open Go.RowKit Go.Maps
set_option linter.unusedVariables false
set_option maxRecDepth 100000
theorem list_eq {a b : ByteArray} : (a.toList = b.toList) ↔ a = b := by
  constructor
  · intro h
    rw [Lib.toList_data, Lib.toList_data] at h
    cases a
    cases b
    congr 1
    exact Array.toList_inj.1 h
  · rintro rfl
    rfl
/-- where the law stands, within its loop over acts -/
structure At (w0 wr : World) (p g b cap s t k : Nat) (W : List Nat) (d : DS) (S L : Nat → List UInt8) : Prop where
  disk : IsD wr p g b W cap d
  one : Arr wr s 8 S [p, g, b, s, t]
  two : Arr wr t 8 L [p, g, b, s, t]
  done : d.done ≤ (k : Int)
  far : ∀ x ∈ W, x ≠ s ∧ x ≠ t
  only : Only [] w0 wr
  new_ : w0.heap.size ≤ p ∧ w0.heap.size ≤ g ∧ w0.heap.size ≤ b ∧ w0.heap.size ≤ s ∧ w0.heap.size ≤ t
  ne : p ≠ s ∧ p ≠ t ∧ g ≠ s ∧ g ≠ t ∧ b ≠ s ∧ b ≠ t ∧ s ≠ t
section
variable {w0 wr w' : World} {p g b cap s t k : Nat} {W : List Nat} {d d' : DS} {S L S' L' : Nat → List UInt8}
theorem At.did (h : At w0 wr p g b cap s t k W d S L) (hd : Did wr p g b W cap d' w') (hdn : d'.done ≤ ((k + 1 : Nat) : Int)) : ∃ W', At w0 w' p g b cap s t (k + 1) W' d' S L := by
  obtain ⟨W', hi, hn, ho⟩ := hd
  have hS : ∀ x ∈ [p, g, b], x ∈ [p, g, b, s, t] ∨ wr.heap.size ≤ x := fun x hx => .inl (by simp at hx ⊢; rcases hx with rfl | rfl | rfl <;> simp)
  have hs : s ∉ [p, g, b] := by have := h.ne; simp; omega
  have ht : t ∉ [p, g, b] := by have := h.ne; simp; omega
  refine ⟨W', hi, h.one.only ho hs hS, h.two.only ho ht hS, hdn, fun x hx => ?_, h.only.trans ho (fun x hx => .inr ?_), h.new_, h.ne⟩
  · rcases hn x hx with h1 | h1
    · exact h.far x h1
    · have := h.one.lt; have := h.two.lt; omega
  · have := h.new_; simp at hx; rcases hx with rfl | rfl | rfl <;> omega
/-- the world went on, nothing turned -/
theorem At.on (h : At w0 wr p g b cap s t k W d S L) (ho : Only [] wr w') : At w0 w' p g b cap s t k W d S L :=
  ⟨h.disk.only0 ho, h.one.only0 ho, h.two.only0 ho, h.done, h.far, h.only.trans ho (by simp), h.new_, h.ne⟩
theorem At.next (h : At w0 wr p g b cap s t k W d S L) : At w0 wr p g b cap s t (k + 1) W d S L :=
  ⟨h.disk, h.one, h.two, by have := h.done; omega, h.far, h.only, h.new_, h.ne⟩
/-- an array turned -/
theorem At.set2 (h : At w0 wr p g b cap s t k W d S L) (ho : Only [t] wr w') (h2 : Arr w' t 8 L' [p, g, b, s, t]) : At w0 w' p g b cap s t k W d S L' := by
  have hS : ∀ x ∈ [t], x ∈ [p, g, b, s, t] ∨ wr.heap.size ≤ x := fun x hx => .inl (by simp at hx ⊢; simp [hx])
  have hn := h.ne
  have hw := h.new_
  exact ⟨h.disk.only ho (by simp; omega) (fun x hx => by have := h.far x hx; simp; omega), h.one.only ho (by simp; omega) hS, h2, h.done, h.far, h.only.trans ho (fun x hx => .inr (by simp at hx; omega)), h.new_, h.ne⟩
theorem At.set1 (h : At w0 wr p g b cap s t k W d S L) (ho : Only [s] wr w') (h2 : Arr w' s 8 S' [p, g, b, s, t]) : At w0 w' p g b cap s t k W d S' L := by
  have hS : ∀ x ∈ [s], x ∈ [p, g, b, s, t] ∨ wr.heap.size ≤ x := fun x hx => .inl (by simp at hx ⊢; simp [hx])
  have hn := h.ne
  have hw := h.new_
  exact ⟨h.disk.only ho (by simp; omega) (fun x hx => by have := h.far x hx; simp; omega), h2, h.two.only ho (by simp; omega) hS, h.done, h.far, h.only.trans ho (fun x hx => .inr (by simp at hx; omega)), h.new_, h.ne⟩
end
theorem Blk.put {w : World} {g : Nat} {t : TypeId} {cs cs' : Array Value} (h : Blk w g t cs) (i : Nat) (v : Value) (he : cs.setIfInBounds i v = cs') : Blk (w.setCell ⟨g, i, none⟩ v) g t cs' := by rw [← he]; exact h.set_ i v
theorem eight_set {w : World} {s : Nat} {u0 u1 u2 u3 u4 u5 u6 u7 v0 v1 v2 v3 v4 v5 v6 v7 : Value} (h : Blk w s 30 #[u0, u1, u2, u3, u4, u5, u6, u7]) :
    Blk ((((((((w.setCell ⟨s, 0, none⟩ v0).setCell ⟨s, 1, none⟩ v1).setCell ⟨s, 2, none⟩ v2).setCell ⟨s, 3, none⟩ v3).setCell ⟨s, 4, none⟩ v4).setCell ⟨s, 5, none⟩ v5).setCell ⟨s, 6, none⟩ v6).setCell ⟨s, 7, none⟩ v7) s 30 #[v0, v1, v2, v3, v4, v5, v6, v7] := by
  have h0 := Blk.put h 0 v0 (cs' := #[v0, u1, u2, u3, u4, u5, u6, u7]) rfl
  have h1 := Blk.put h0 1 v1 (cs' := #[v0, v1, u2, u3, u4, u5, u6, u7]) rfl
  have h2 := Blk.put h1 2 v2 (cs' := #[v0, v1, v2, u3, u4, u5, u6, u7]) rfl
  have h3 := Blk.put h2 3 v3 (cs' := #[v0, v1, v2, v3, u4, u5, u6, u7]) rfl
  have h4 := Blk.put h3 4 v4 (cs' := #[v0, v1, v2, v3, v4, u5, u6, u7]) rfl
  have h5 := Blk.put h4 5 v5 (cs' := #[v0, v1, v2, v3, v4, v5, u6, u7]) rfl
  have h6 := Blk.put h5 6 v6 (cs' := #[v0, v1, v2, v3, v4, v5, v6, u7]) rfl
  exact Blk.put h6 7 v7 rfl
theorem eight_only {w : World} {s : Nat} {v0 v1 v2 v3 v4 v5 v6 v7 : Value} :
    Only [s] w ((((((((w.setCell ⟨s, 0, none⟩ v0).setCell ⟨s, 1, none⟩ v1).setCell ⟨s, 2, none⟩ v2).setCell ⟨s, 3, none⟩ v3).setCell ⟨s, 4, none⟩ v4).setCell ⟨s, 5, none⟩ v5).setCell ⟨s, 6, none⟩ v6).setCell ⟨s, 7, none⟩ v7) :=
  ((((((((Only.refl [s] w).setCell (p := ⟨s, 0, none⟩) (.inl (by simp)) _).setCell (p := ⟨s, 1, none⟩) (.inl (by simp)) _).setCell (p := ⟨s, 2, none⟩) (.inl (by simp)) _).setCell (p := ⟨s, 3, none⟩) (.inl (by simp)) _).setCell (p := ⟨s, 4, none⟩) (.inl (by simp)) _).setCell (p := ⟨s, 5, none⟩) (.inl (by simp)) _).setCell (p := ⟨s, 6, none⟩) (.inl (by simp)) _).setCell (p := ⟨s, 7, none⟩) (.inl (by simp)) _
theorem arr_eight {w : World} {a : Nat} {f : Nat → List UInt8} {Z : List Nat} (h : Arr w a 8 f Z) : ∃ q0 e0 q1 e1 q2 e2 q3 e3 q4 e4 q5 e5 q6 e6 q7 e7, Blk w a 30 #[.slice (some ⟨q0, 0, none⟩) 64 e0, .slice (some ⟨q1, 0, none⟩) 64 e1, .slice (some ⟨q2, 0, none⟩) 64 e2, .slice (some ⟨q3, 0, none⟩) 64 e3, .slice (some ⟨q4, 0, none⟩) 64 e4, .slice (some ⟨q5, 0, none⟩) 64 e5, .slice (some ⟨q6, 0, none⟩) 64 e6, .slice (some ⟨q7, 0, none⟩) 64 e7] ∧ ∀ i, i < 8 → ∃ q c, (#[.slice (some ⟨q0, 0, none⟩) 64 e0, .slice (some ⟨q1, 0, none⟩) 64 e1, .slice (some ⟨q2, 0, none⟩) 64 e2, .slice (some ⟨q3, 0, none⟩) 64 e3, .slice (some ⟨q4, 0, none⟩) 64 e4, .slice (some ⟨q5, 0, none⟩) 64 e5, .slice (some ⟨q6, 0, none⟩) 64 e6, .slice (some ⟨q7, 0, none⟩) 64 e7] : Array Value)[i]? = some (.slice (some ⟨q, 0, none⟩) 64 c) ∧ Bytes w w.heap.size (some ⟨q, 0, none⟩) 64 (f i) ∧ q ∉ Z ∧ 64 ≤ c := by
  obtain ⟨v0, v1, v2, v3, v4, v5, v6, v7, h1, h2⟩ := h.eight
  obtain ⟨q0, e0, h10, _⟩ := h2 0 (by decide)
  have h10' : v0 = .slice (some ⟨q0, 0, none⟩) 64 e0 := by simpa using h10
  obtain ⟨q1, e1, h11, _⟩ := h2 1 (by decide)
  have h11' : v1 = .slice (some ⟨q1, 0, none⟩) 64 e1 := by simpa using h11
  obtain ⟨q2, e2, h12, _⟩ := h2 2 (by decide)
  have h12' : v2 = .slice (some ⟨q2, 0, none⟩) 64 e2 := by simpa using h12
  obtain ⟨q3, e3, h13, _⟩ := h2 3 (by decide)
  have h13' : v3 = .slice (some ⟨q3, 0, none⟩) 64 e3 := by simpa using h13
  obtain ⟨q4, e4, h14, _⟩ := h2 4 (by decide)
  have h14' : v4 = .slice (some ⟨q4, 0, none⟩) 64 e4 := by simpa using h14
  obtain ⟨q5, e5, h15, _⟩ := h2 5 (by decide)
  have h15' : v5 = .slice (some ⟨q5, 0, none⟩) 64 e5 := by simpa using h15
  obtain ⟨q6, e6, h16, _⟩ := h2 6 (by decide)
  have h16' : v6 = .slice (some ⟨q6, 0, none⟩) 64 e6 := by simpa using h16
  obtain ⟨q7, e7, h17, _⟩ := h2 7 (by decide)
  have h17' : v7 = .slice (some ⟨q7, 0, none⟩) 64 e7 := by simpa using h17
  subst h10' h11' h12' h13' h14' h15' h16' h17'
  exact ⟨q0, e0, q1, e1, q2, e2, q3, e3, q4, e4, q5, e5, q6, e6, q7, e7, h1, h2⟩
theorem arr_copied {w w' : World} {s : Nat} {f : Nat → List UInt8} {Z : List Nat} {C : Array Value} (hb : Blk w' s 30 C) (hC : C.size = 8) (ho : Only [s] w w') (hs : s ∈ Z) (h : ∀ i, i < 8 → ∃ q c, C[i]? = some (.slice (some ⟨q, 0, none⟩) 64 c) ∧ Bytes w w.heap.size (some ⟨q, 0, none⟩) 64 (f i) ∧ q ∉ Z ∧ 64 ≤ c) : Arr w' s 8 f Z := by
  refine ⟨C, hb, hC, fun i hi => ?_⟩
  obtain ⟨q, c, h1, h2, h3, h4⟩ := h i hi
  refine ⟨q, c, h1, (h2.only ho (fun k hk => ?_)).more ho.size, h3, h4⟩
  simp [blkOf] at hk
  subst hk
  intro hm
  exact h3 (by rw [List.mem_singleton.1 hm]; exact hs)
/-- what nobody's disk answers, in whatever world comes later -/
structure NoneC (w0 : World) (v : Value) : Prop where
  stop : ∀ wa, Only [] w0 wa → ∀ i : Int, Calls Try.prog 10 #[v, .int .i64 i] wa fun x w' => x = .returned (.tuple #[]) ∧ Only [] wa w'
  crash : ∀ wa, Only [] w0 wa → ∀ A n c, Calls Try.prog 11 #[v, .slice A n c] wa fun x w' => x = .returned (.tuple #[]) ∧ Only [] wa w'
  read : ∀ wa, Only [] w0 wa → ∀ i : Int, Calls Try.prog 12 #[v, .int .i64 i] wa fun x w' => x = .returned (.tuple #[.slice none 0 0, .int .i64 1]) ∧ Only [] wa w'
  write : ∀ wa, Only [] w0 wa → ∀ (i : Int) A n c, Calls Try.prog 8 #[v, .int .i64 i, .slice A n c] wa fun x w' => x = .returned (.int .i64 1) ∧ Only [] wa w'
  sync : ∀ wa, Only [] w0 wa → Calls Try.prog 7 #[v] wa fun x w' => x = .returned (.int .i64 1) ∧ Only [] wa w'
  down : ∀ wa, Only [] w0 wa → Calls Try.prog 13 #[v] wa fun x w' => x = .returned (.bool true) ∧ w' = wa
  sectors : ∀ wa, Only [] w0 wa → Calls Try.prog 14 #[v] wa fun x w' => x = .returned (.int .i64 0) ∧ w' = wa
  done : ∀ wa, Only [] w0 wa → Calls Try.prog 15 #[v] wa fun x w' => x = .returned (.int .i64 0) ∧ w' = wa
  waiting : ∀ wa, Only [] w0 wa → Calls Try.prog 16 #[v] wa fun x w' => x = .returned (.slice none 0 0) ∧ Only [] wa w'
theorem NoneC.nil_ (w0 : World) : NoneC w0 (.pointer none) :=
  ⟨fun wa _ i => stop_nil wa i, fun wa _ A n c => crash_nil wa A n c, fun wa _ i => read_nil wa i, fun wa _ i A n c => write_nil wa i A n c, fun wa _ => sync_nil wa, fun wa _ => down_nil wa, fun wa _ => sectors_nil wa, fun wa _ => done_nil wa, fun wa _ => waiting_nil wa⟩
theorem NoneC.zero {w0 : World} {z : Nat} (h : w0.cell? ⟨z, 4, none⟩ = some (.map none)) : NoneC w0 (.pointer (some ⟨z, 0, none⟩)) := by
  have hc : ∀ wa, Only [] w0 wa → ∀ w2, Only [] wa w2 → w2.cell? ⟨z, 4, none⟩ = some (.map none) := fun wa h1 w2 h2 => h2.cell (h1.cell h (by simp)) (by simp)
  exact ⟨fun wa ho i => stop_zero wa z (hc wa ho) i, fun wa ho A n c => crash_zero wa z (hc wa ho) A n c, fun wa ho i => read_zero wa z (hc wa ho) i, fun wa ho i A n c => write_zero wa z (hc wa ho) i A n c, fun wa ho => sync_zero wa z (hc wa ho), fun wa ho => down_zero wa z (ho.cell h (by simp)), fun wa ho => sectors_zero wa z (ho.cell h (by simp)), fun wa ho => done_zero wa z (ho.cell h (by simp)), fun wa ho => waiting_zero wa z (hc wa ho)⟩
/-- which disk is nobody's, in the last loop -/
def NoneI (wr : World) (pt i : Value) : Prop := ∃ n : Nat, n ≤ 2 ∧ i = .int .i64 n ∧ NoneC wr pt
theorem NoneI.start (w0 : World) : NoneI w0 (.pointer none) (.int .i64 0) := ⟨0, by omega, rfl, NoneC.nil_ w0⟩
theorem zero_box (w0 : World) : NoneC (w0.alloc (.cells #[.int .i64 0, .int .i64 0, .bool false, .slice none 0 0, .map none] 47)) (.pointer (some ⟨w0.heap.size, 0, none⟩)) := NoneC.zero ((Blk.new w0 47 #[.int .i64 0, .int .i64 0, .bool false, .slice none 0 0, .map none]).cell 4)
theorem sync_no {w : World} {p g b cap : Nat} {W : List Nat} {d : DS} (h : IsD w p g b W cap d) (hd : d.done ≤ 4611686018427387904) (hn : d.off = true ∨ d.left = 0) : Calls Try.prog 7 #[.pointer (some ⟨p, 0, none⟩)] w fun x w' => x = .returned (.int .i64 3) ∧ Did w p g b W cap { d with off := true } w' :=
  (sync_any h hd).mono fun x w' hx => by unfold SyncO at hx; rw [if_pos hn] at hx; exact hx
theorem sync_yes {w : World} {p g b cap : Nat} {W : List Nat} {d : DS} (h : IsD w p g b W cap d) (hd : d.done ≤ 4611686018427387904) (hn : ¬ (d.off = true ∨ d.left = 0)) : Calls Try.prog 7 #[.pointer (some ⟨p, 0, none⟩)] w fun x w' => x = .returned (.int .i64 0) ∧ Did w p g b W cap (syncD d) w' :=
  (sync_any h hd).mono fun x w' hx => by unfold SyncO at hx; rw [if_neg hn] at hx; exact hx
theorem write_no {w : World} {p g b cap : Nat} {W : List Nat} {d : DS} (h : IsD w p g b W cap d) (hd : d.done ≤ 4611686018427387904) (hn : d.off = true ∨ d.left = 0) {A : Option Addr} {c : Nat} {l : List UInt8} (hr : Bytes w w.heap.size A 64 l) (j : Nat) : Calls Try.prog 8 #[.pointer (some ⟨p, 0, none⟩), .int .i64 (j : Int), .slice A 64 c] w fun x w' => x = .returned (.int .i64 3) ∧ Did w p g b W cap { d with off := true } w' :=
  (write_any h (j : Int) hr (Nat.le_refl _) hd (by decide)).mono fun x w' hx => by unfold WriteO at hx; rw [if_pos hn] at hx; exact hx
theorem write_yes {w : World} {p g b cap : Nat} {W : List Nat} {d : DS} (h : IsD w p g b W cap d) (hd : d.done ≤ 4611686018427387904) (hn : ¬ (d.off = true ∨ d.left = 0)) {A : Option Addr} {c : Nat} {l : List UInt8} (hr : Bytes w w.heap.size A 64 l) (j : Nat) (hj : j < d.n) : Calls Try.prog 8 #[.pointer (some ⟨p, 0, none⟩), .int .i64 (j : Int), .slice A 64 c] w fun x w' => x = .returned (.int .i64 0) ∧ Did w p g b W cap (stepD { d with wait := setW d.wait j l }) w' :=
  (write_any h (j : Int) hr (Nat.le_refl _) hd (by decide)).mono fun x w' hx => by unfold WriteO at hx; rw [if_neg hn, if_pos ⟨by omega, by omega, hr.len⟩] at hx; exact hx
set_option maxHeartbeats 16000000 in
theorem safe_any (A : Option Addr) (m c : Nat) (acts : List AC) (Af : Option Addr) (mf cf : Nat) (fs : List Int) (w : World) (hr : Recs w w.heap.size 5 A m (acts.map AC.row)) (hf : Reads w w.heap.size 1 Af mf (fs.map (Value.int .i64))) (hin : ∀ x ∈ acts, x.at_ ≤ 9223372036854775807) :
    Calls Try.prog 3 #[.slice A m c, .slice Af mf cf] w fun x w' => x = .returned (.bool true) ∧ Only [] w w' := by
  have HIN := Lib.hid hin
  clear hin
  have HK := Lib.hid dknows_any
  have HR := Lib.hid hr
  have HF := Lib.hid hf
  have hfl : fs.length = mf := by have := hf.1; simpa using this
  have HFL := Lib.hid hfl
  have hal : acts.length = m := by have := hr.1; simpa using this
  have HAL := Lib.hid hal
  clear hr hf hfl hal
  by_cases hbig : 60 < m
  · have d1 : decide ((60 : Int) < (m : Int)) = true := decide_eq_true (by omega)
    have d2 : decide (60 < m) = true := decide_eq_true hbig
    go_enter Try.func3, Try.ntmps3
    go_wp2_with (go_at_call 4; refine (HK.out w).mono ?_; rintro x w2 ⟨rfl, ho2⟩)
    go_ret
    exact ⟨rfl, ho2⟩
  have d1 : decide ((60 : Int) < (m : Int)) = false := decide_eq_false (by omega)
  have d2 : decide (60 < m) = false := decide_eq_false hbig
  by_cases hbig2 : 100 < mf
  · have d3 : decide ((100 : Int) < (mf : Int)) = true := decide_eq_true (by omega)
    have d4 : decide (100 < mf) = true := decide_eq_true hbig2
    go_enter Try.func3, Try.ntmps3
    go_wp2_with (go_at_call 4; refine (HK.out w).mono ?_; rintro x w2 ⟨rfl, ho2⟩)
    go_ret
    exact ⟨rfl, ho2⟩
  have d3 : decide ((100 : Int) < (mf : Int)) = false := decide_eq_false (by omega)
  have d4 : decide (100 < mf) = false := decide_eq_false hbig2
  have HNEW := Lib.hid (fun w2 => new_any 8 (by decide) (by decide) w2)
  go_enter Try.func3, Try.ntmps3
  go_wp2_with (first
    | (go_at_call 4; refine (HK.out w).mono ?_; rintro x w2 ⟨rfl, ho2⟩)
    | (go_at_call 5; refine (HNEW.out w2).mono ?_; rintro x w3 ⟨p, g, b, cap, rfl, hi, lp, lg, lb, ho3⟩))
  clear d1 d2 d3 d4
  obtain ⟨lp', lg', lb'⟩ := hi.lt
  obtain ⟨s, hs⟩ : ∃ s, w3.heap.size = s := ⟨_, rfl⟩
  obtain ⟨W4, hW4⟩ : ∃ W4, (w3.alloc (.cells #[.slice none 0 0, .slice none 0 0, .slice none 0 0, .slice none 0 0, .slice none 0 0, .slice none 0 0, .slice none 0 0, .slice none 0 0] 30)).alloc (.cells #[.slice none 0 0, .slice none 0 0, .slice none 0 0, .slice none 0 0, .slice none 0 0, .slice none 0 0, .slice none 0 0, .slice none 0 0] 30) = W4 := ⟨_, rfl⟩
  have ho4 : Only [] w3 W4 := by rw [← hW4]; exact ((Only.refl [] w3).alloc _).alloc _
  have b0 : Blk W4 s 30 #[.slice none 0 0, .slice none 0 0, .slice none 0 0, .slice none 0 0, .slice none 0 0, .slice none 0 0, .slice none 0 0, .slice none 0 0] := by rw [← hW4, ← hs]; exact (Blk.new w3 _ _).alloc _
  have b1 : Blk W4 (s + 1) 30 #[.slice none 0 0, .slice none 0 0, .slice none 0 0, .slice none 0 0, .slice none 0 0, .slice none 0 0, .slice none 0 0, .slice none 0 0] := by
    have := Blk.new (w3.alloc (.cells #[.slice none 0 0, .slice none 0 0, .slice none 0 0, .slice none 0 0, .slice none 0 0, .slice none 0 0, .slice none 0 0, .slice none 0 0] 30)) 30 #[.slice none 0 0, .slice none 0 0, .slice none 0 0, .slice none 0 0, .slice none 0 0, .slice none 0 0, .slice none 0 0, .slice none 0 0]
    rw [World.size_alloc, hW4, hs] at this
    exact this
  obtain ⟨t, ht⟩ : ∃ t, s + 1 = t := ⟨_, rfl⟩
  rw [ht] at b1
  rw [hs, ht, hW4]
  have hz : ∀ (f : Nat → List UInt8) (Z : List Nat), Arr W4 s 0 f Z ∧ Arr W4 t 0 f Z := fun f Z => ⟨⟨_, b0, rfl, fun i hi => by omega⟩, ⟨_, b1, rfl, fun i hi => by omega⟩⟩
  have hw2 := ho2.size
  have hw3 := ho3.size
  have HN : Hid (p ≠ s ∧ p ≠ t ∧ g ≠ s ∧ g ≠ t ∧ b ≠ s ∧ b ≠ t ∧ s ≠ t) := Lib.hid (by omega)
  have HLO : Hid (w.heap.size ≤ p ∧ w.heap.size ≤ g ∧ w.heap.size ≤ b ∧ w.heap.size ≤ s ∧ w.heap.size ≤ t) := Lib.hid (by omega)
  have HZ := Lib.hid (hz (fun _ => List.replicate 64 0) [p, g, b, s, t])
  have HO4 := Lib.hid (((ho2.trans ho3 (by simp)).trans ho4 (by simp)))
  have HI4 := Lib.hid (hi.only0 ho4)
  clear hi lp lg lb lp' lg' lb' hs hW4 ho2 ho3 ho4 b0 b1 ht hz hw2 hw3 HNEW
  obtain ⟨i0, hi0, hz0, hz1, hz2⟩ := info_parts byte_info
  go_loopw [9] (fun i wr => ∃ k : Nat, k ≤ 8 ∧ i = .int .i64 k ∧ IsD wr p g b [] cap (newD 8) ∧ Arr wr s k (fun _ => List.replicate 64 0) [p, g, b, s, t] ∧ Arr wr t k (fun _ => List.replicate 64 0) [p, g, b, s, t] ∧ Only [] w wr) (fun i _ => 8 - (intOf i).toNat)
  case atStart => exact ⟨0, by omega, rfl, HI4.out, HZ.out.1, HZ.out.2, HO4.out⟩
  case round =>
    clear HI4 HZ HO4
    obtain ⟨k, hk, rfl, hi, h1, h2, ho⟩ := hrel
    have HI := Lib.hid hi
    have H1 := Lib.hid h1
    have H2 := Lib.hid h2
    have HO := Lib.hid ho
    have hl := HLO.out
    have hwr := ho.size
    have HSZ : Hid (p < wr.heap.size ∧ g < wr.heap.size ∧ b < wr.heap.size ∧ s < wr.heap.size ∧ t < wr.heap.size) := Lib.hid ⟨hi.lt.1, hi.lt.2.1, hi.lt.2.2, h1.lt, h2.lt⟩
    clear hi h1 h2 ho hl hwr
    by_cases hlt : k < 8
    · have e1 : decide ((k : Int) < 8) = true := decide_eq_true (by omega)
      have e1' : decide (k < 8) = true := decide_eq_true (by omega)
      have hst : s ≠ t := HN.out.2.2.2.2.2.2
      have hts : t ≠ s := fun h => hst h.symm
      go_wp2_with (at_make; refine wpList_make_full wr rfl _ _ 29 rfl wr.heap.size 5 i0 _ 1 Try.underlying29 hi0 hz0 hz1 _ _ _ _ 64 rfl rfl (by decide) (by decide) (by rw [hz2]; decide) (by decide) (Nat.le_refl _) ?_; intro w5 hmk hgk; have ho5 : Only [] wr w5 := Only.of_grown hgk; have hown := own_made hmk; have h15 := H1.out.only0 ho5; have h25 := H2.out.only0 ho5; obtain ⟨v1, hv1⟩ := h15.cell_any hlt; obtain ⟨v2, hv2⟩ := h25.cell_any hlt; have f1 := h15.frozen k; have f2 := h25.frozen k; have HO5 := Lib.hid ho5; have HOWN := Lib.hid hown; have H15 := Lib.hid h15; have H25 := Lib.hid h25; clear hmk hgk ho5 hown h15 h25)
      have hq : wr.heap.size ∉ [p, g, b, s, t] := by have := HSZ.out; simp; omega
      have hoa : Only [s] w5 (w5.setCell ⟨s, k, none⟩ (.slice (some ⟨wr.heap.size, 0, none⟩) 64 64)) := (Only.refl [s] w5).setCell (p := ⟨s, k, none⟩) (.inl (by simp)) _
      have hob : Only [t] (w5.setCell ⟨s, k, none⟩ (.slice (some ⟨wr.heap.size, 0, none⟩) 64 64)) ((w5.setCell ⟨s, k, none⟩ (.slice (some ⟨wr.heap.size, 0, none⟩) 64 64)).setCell ⟨t, k, none⟩ (.slice (some ⟨wr.heap.size, 0, none⟩) 64 64)) := (Only.refl [t] _).setCell (p := ⟨t, k, none⟩) (.inl (by simp)) _
      have hZs : ∀ x ∈ [s], x ∈ [p, g, b, s, t] ∨ w5.heap.size ≤ x := fun x hx => .inl (by simp at hx ⊢; simp [hx])
      have hZt : ∀ x ∈ [t], x ∈ [p, g, b, s, t] ∨ (w5.setCell ⟨s, k, none⟩ (.slice (some ⟨wr.heap.size, 0, none⟩) 64 64)).heap.size ≤ x := fun x hx => .inl (by simp at hx ⊢; simp [hx])
      have ha1 := H15.out.set (n' := k + 1) (f' := fun _ => List.replicate 64 0) hlt HOWN.out.reads hq (by simp) (Nat.le_refl _) (by omega) (by simp)
      have ha1' := ha1.only hob (by simpa using hst) hZt
      have hb5 := HOWN.out.reads.only hoa (fun x hx => by simp [blkOf] at hx; have := HSZ.out; simp; omega)
      have hb6 : Bytes (w5.setCell ⟨s, k, none⟩ (.slice (some ⟨wr.heap.size, 0, none⟩) 64 64)) (w5.setCell ⟨s, k, none⟩ (.slice (some ⟨wr.heap.size, 0, none⟩) 64 64)).heap.size (some ⟨wr.heap.size, 0, none⟩) 64 (List.replicate 64 0) := hb5.more hoa.size
      have ha2 := (H25.out.only hoa (by simpa using hts) hZs).set (n' := k + 1) (f' := fun _ => List.replicate 64 0) hlt hb6 hq (by simp) (Nat.le_refl _) (by omega) (by simp)
      have hN := HN.out
      have hL := HLO.out
      have hi6 := ((HI.out.only0 HO5.out).only hoa (by simp; omega) (by simp)).only hob (by simp; omega) (by simp)
      have ho6 := ((HO.out.trans HO5.out (by simp)).trans hoa (fun x hx => .inr (by simp at hx; omega))).trans hob (fun x hx => .inr (by simp at hx; omega))
      go_roundw
      case measure => simp [intOf]; omega
      case rel => exact ⟨k + 1, by omega, by go_num, hi6, ha1', ha2, ho6⟩
    · obtain rfl : k = 8 := by omega
      have HAT : Hid (At w wr p g b cap s t 0 [] (newD 8) (fun _ => List.replicate 64 0) (fun _ => List.replicate 64 0)) := Lib.hid ⟨HI.out, H1.out, H2.out, by simp [newD], by simp, HO.out, HLO.out, HN.out⟩
      clear HI H1 H2 HO HSZ
      go_wp2_with fail
      go_loopw [10] (fun i wr => ∃ (k : Nat) (W : List Nat) (d : DS) (S L : Nat → List UInt8), k ≤ m ∧ i = .int .i64 k ∧ Keep d S L ∧ At w wr p g b cap s t k W d S L) (fun i _ => m - (intOf i).toNat)
      case atStart => exact ⟨0, [], newD 8, _, _, by omega, rfl, Keep.start, HAT.out⟩
      case round =>
        clear HAT
        obtain ⟨k, W, d, S, L, hk, rfl, hkp, hat⟩ := hrel
        have HKP := Lib.hid hkp
        have HAT := Lib.hid hat
        by_cases hlt : k < m
        · have e1 : decide ((k : Int) < (m : Int)) = true := decide_eq_true (by omega)
          have e1' : decide (k < m) = true := decide_eq_true (by omega)
          obtain ⟨bb, off, hA, hbb, x, hx, c0, c1, c3⟩ := ac_at HR.out k hlt
          subst hA
          have y0 := hat.only.cell c0 (by simp)
          have y1 := hat.only.cell c1 (by simp)
          have y3 := hat.only.cell c3 (by simp)
          have hxa : x.at_ ≤ 9223372036854775807 := HIN.out x (List.mem_of_getElem? hx)
          have hdn : d.done ≤ 4611686018427387904 := by have := hat.done; omega
          have hdk := hat.done
          have hn8 := hkp.n
          have HN8 := Lib.hid hn8
          have C0 := Lib.hid c0
          have C1 := Lib.hid c1
          have C3 := Lib.hid c3
          have HDN := Lib.hid hdn
          have HDK := Lib.hid hdk
          obtain ⟨kind, xa, xn, xb, xf⟩ := x
          simp only at y0 y1 y3 hxa C0 C1 C3
          obtain ⟨j, hj⟩ : ∃ j : Nat, xa % 8 = (j : Int) := ⟨(xa % 8).toNat, by omega⟩
          have hj8 : j < 8 := by omega
          have h7 : bits BinOp.and IntKind.i64 xa 7 = (j : Int) := by rw [i64_and7, hj]
          have HNUM := Lib.hid dnum_is
          clear c0 c1 c3 hx hat hj hn8 hdn hdk hkp
          by_cases k3 : kind = 3
          · subst k3
            by_cases hdo : d.off = true ∨ d.left = 0
            · have HS := Lib.hid (sync_no HAT.out.disk HDN.out hdo)
              clear hdo
              go_wp2_with (first
                | (go_at_call 7; refine HS.out.mono ?_; rintro x w5 ⟨rfl, hdid⟩; obtain ⟨W', hA5⟩ := HAT.out.did hdid (by have := HDK.out; simp only; omega); have z0 := hA5.only.cell C0.out (by simp); have HA5 := Lib.hid hA5; clear hA5 hdid)
                | (go_at_call 6; refine (HNUM.out _ _).mono ?_; rintro x wn ⟨rfl, rfl⟩))
              go_roundw
              case measure => simp [intOf]; omega
              case rel => exact ⟨k + 1, W', _, S, L, by omega, by go_num, HKP.out.off, HA5.out⟩
            · have HS := Lib.hid (sync_yes HAT.out.disk HDN.out hdo)
              clear hdo
              have hst : s ≠ t := HN.out.2.2.2.2.2.2
              have hts : t ≠ s := fun h => hst h.symm
              go_wp2_with (first
                | (go_at_call 7; refine HS.out.mono ?_; rintro x w5 ⟨rfl, hdid⟩; obtain ⟨W', hA5⟩ := HAT.out.did hdid (by have := HDK.out; show d.done + 1 ≤ _; omega); obtain ⟨u0, u1, u2, u3, u4, u5, u6, u7, hu, _⟩ := hA5.one.eight; obtain ⟨q0, e0, q1, e1, q2, e2, q3, e3, q4, e4, q5, e5, q6, e6, q7, e7, hv, hvb⟩ := arr_eight hA5.two; have s0 := hu.cell 0; have s1 := hu.cell 1; have s2 := hu.cell 2; have s3 := hu.cell 3; have s4 := hu.cell 4; have s5 := hu.cell 5; have s6 := hu.cell 6; have s7 := hu.cell 7; have f0 := hu.frozen 0; have f1 := hu.frozen 1; have f2 := hu.frozen 2; have f3 := hu.frozen 3; have f4 := hu.frozen 4; have f5 := hu.frozen 5; have f6 := hu.frozen 6; have f7 := hu.frozen 7; have t0 := hv.cell 0; have t1 := hv.cell 1; have t2 := hv.cell 2; have t3 := hv.cell 3; have t4 := hv.cell 4; have t5 := hv.cell 5; have t6 := hv.cell 6; have t7 := hv.cell 7; have hox : Only [s] w5 ((((((((w5.setCell ⟨s, 0, none⟩ (.slice (some ⟨q0, 0, none⟩) 64 e0)).setCell ⟨s, 1, none⟩ (.slice (some ⟨q1, 0, none⟩) 64 e1)).setCell ⟨s, 2, none⟩ (.slice (some ⟨q2, 0, none⟩) 64 e2)).setCell ⟨s, 3, none⟩ (.slice (some ⟨q3, 0, none⟩) 64 e3)).setCell ⟨s, 4, none⟩ (.slice (some ⟨q4, 0, none⟩) 64 e4)).setCell ⟨s, 5, none⟩ (.slice (some ⟨q5, 0, none⟩) 64 e5)).setCell ⟨s, 6, none⟩ (.slice (some ⟨q6, 0, none⟩) 64 e6)).setCell ⟨s, 7, none⟩ (.slice (some ⟨q7, 0, none⟩) 64 e7)) := eight_only; have z0 : ∀ q o v, q < w.heap.size → w.cell? ⟨q, o, none⟩ = some v → ((((((((w5.setCell ⟨s, 0, none⟩ (.slice (some ⟨q0, 0, none⟩) 64 e0)).setCell ⟨s, 1, none⟩ (.slice (some ⟨q1, 0, none⟩) 64 e1)).setCell ⟨s, 2, none⟩ (.slice (some ⟨q2, 0, none⟩) 64 e2)).setCell ⟨s, 3, none⟩ (.slice (some ⟨q3, 0, none⟩) 64 e3)).setCell ⟨s, 4, none⟩ (.slice (some ⟨q4, 0, none⟩) 64 e4)).setCell ⟨s, 5, none⟩ (.slice (some ⟨q5, 0, none⟩) 64 e5)).setCell ⟨s, 6, none⟩ (.slice (some ⟨q6, 0, none⟩) 64 e6)).setCell ⟨s, 7, none⟩ (.slice (some ⟨q7, 0, none⟩) 64 e7)).cell? ⟨q, o, none⟩ = some v := (fun q o v hq hc => hox.cell (hA5.only.cell hc (by simp)) (by have := HLO.out; simp; omega)); have z0 := z0 _ _ _ hbb C0.out; have HA5 := Lib.hid hA5; have HU := Lib.hid hu; have HVB := Lib.hid hvb; have HOX := Lib.hid hox; clear hA5 hdid hu hv hvb hox)
                | (go_at_call 6; refine (HNUM.out _ _).mono ?_; rintro x wn ⟨rfl, rfl⟩))
              have harr := arr_copied (eight_set HU.out) rfl HOX.out (by simp) HVB.out
              have hfin := HA5.out.set1 HOX.out harr
              go_roundw
              case measure => simp [intOf]; omega
              case rel => exact ⟨k + 1, W', _, L, L, by omega, by go_num, HKP.out.sync, hfin⟩
          · by_cases k01 : kind = 0 ∨ kind = 1
            · by_cases hdo : d.off = true ∨ d.left = 0
              · have HW := Lib.hid (fun w6 q (ho6 : Only [] wr w6) (hown : OwnB w6 wr.heap.size (.slice (some ⟨q, 0, none⟩) 64 64) 64 (fillB xb)) => write_no (c := 64) (HAT.out.disk.only0 ho6) HDN.out hdo hown.reads j)
                clear hdo k3
                rcases k01 with rfl | rfl
                all_goals
                  go_wp2_with (first
                    | (go_at_call 8; refine (HW.out w6 q ho6 hown).mono ?_; rintro x w7 ⟨rfl, hdid⟩; obtain ⟨W', hA7⟩ := (HAT.out.on ho6).did hdid (by have := HDK.out; simp only; omega); have z0 := hA7.only.cell C0.out (by simp); have HA7 := Lib.hid hA7; clear hA7 hdid)
                    | (go_at_call 9; refine (lbytes_any xb wr).mono ?_; rintro x w6 ⟨q, rfl, hq, hown, ho6⟩)
                    | (go_at_call 6; refine (HNUM.out _ _).mono ?_; rintro x wn ⟨rfl, rfl⟩))
                  go_roundw
                  case measure => simp [intOf]; omega
                  case rel => exact ⟨k + 1, W', _, S, L, by omega, by go_num, HKP.out.off, HA7.out⟩
              · have HW := Lib.hid (fun w6 q (ho6 : Only [] wr w6) (hown : OwnB w6 wr.heap.size (.slice (some ⟨q, 0, none⟩) 64 64) 64 (fillB xb)) => write_yes (c := 64) (HAT.out.disk.only0 ho6) HDN.out hdo hown.reads j (by rw [HN8.out]; exact hj8))
                clear hdo k3
                rcases k01 with rfl | rfl
                all_goals
                  go_wp2_with (first
                    | (go_at_call 8; refine (HW.out w6 q ho6 hown).mono ?_; rintro x w7 ⟨rfl, hdid⟩; obtain ⟨W', hA7⟩ := (HAT.out.on ho6).did hdid (by have := HDK.out; show d.done + 1 ≤ _; omega); have z0 := hA7.only.cell C0.out (by simp); have z1 := hA7.only.cell C1.out (by simp); have z3 := hA7.only.cell C3.out (by simp); have HA7 := Lib.hid hA7; clear hA7 hdid)
                    | (go_at_call 9; have hq7 := HA7; refine (lbytes_any xb w7).mono ?_; rintro x w8 ⟨q2, rfl, hq2, hown2, ho8⟩; have hA8 := HA7.out.on ho8; obtain ⟨v2, hv2⟩ := hA8.two.cell_any hj8; have f2 := hA8.two.frozen j; have z0 := hA8.only.cell C0.out (by simp); have hot : Only [t] w8 (w8.setCell ⟨t, j, none⟩ (.slice (some ⟨q2, 0, none⟩) 64 64)) := (Only.refl [t] w8).setCell (p := ⟨t, j, none⟩) (.inl (by simp)) _; have z0' := hot.cell z0 (by have := HLO.out; simp; omega); have hlt7 : p < w7.heap.size ∧ g < w7.heap.size ∧ b < w7.heap.size ∧ s < w7.heap.size ∧ t < w7.heap.size := ⟨HA7.out.disk.lt.1, HA7.out.disk.lt.2.1, HA7.out.disk.lt.2.2, HA7.out.one.lt, HA7.out.two.lt⟩; have harr := hA8.two.set (i := j) (n' := 8) (f' := fun i => if i = j then fillB xb else L i) hj8 hown2.reads (by simp; omega) (by simp) (Nat.le_refl _) (fun i hi => .inr hi) (fun _ => rfl); have HFIN := Lib.hid (hA8.set2 hot harr); clear hA8 hot hlt7 harr hown2 ho8)
                    | (go_at_call 9; refine (lbytes_any xb wr).mono ?_; rintro x w6 ⟨q, rfl, hq, hown, ho6⟩)
                    | (go_at_call 6; refine (HNUM.out _ _).mono ?_; rintro x wn ⟨rfl, rfl⟩))
                  go_roundw
                  case measure => simp [intOf]; omega
                  case rel => exact ⟨k + 1, W', _, S, _, by omega, by go_num, HKP.out.write j (fillB xb), HFIN.out⟩
            · have g1 : (kind == 3) = false := by simp [k3]
              have g2 : decide (kind < 2) = false ∨ (decide (kind < 2) = true ∧ decide (0 ≤ kind) = false) := by
                by_cases h : kind < 2
                · exact .inr ⟨decide_eq_true h, decide_eq_false (by omega)⟩
                · exact .inl (decide_eq_false h)
              by_cases k4 : kind = 4
              · subst k4
                clear g1 g2 k3 k01
                have HST := Lib.hid (stop_any HAT.out.disk xa hxa)
                go_wp2_with (go_at_call 10; refine HST.out.mono ?_; rintro x w5 ⟨rfl, hdid⟩; obtain ⟨W', hA5⟩ := HAT.out.did hdid (by have h9 : (stopD d xa).done = d.done := (by unfold stopD; split <;> rfl); have := HDK.out; omega); have HA5 := Lib.hid hA5; clear hA5 hdid)
                go_roundw
                case measure => simp [intOf]; omega
                case rel => exact ⟨k + 1, W', _, S, L, by omega, by go_num, HKP.out.stop xa, HA5.out⟩
              · have g4 : (kind == 4) = false := by simp [k4]
                clear k3 k01 k4
                rcases g2 with g2 | ⟨g2, g3⟩
                all_goals
                  go_wp2_with fail
                  go_roundw
                  case measure => simp [intOf]; omega
                  case rel => exact ⟨k + 1, W, d, S, L, by omega, by go_num, HKP.out, HAT.out.next⟩
        · obtain rfl : k = m := by omega
          have e1 : decide ((k : Int) < (k : Int)) = false := decide_eq_false (by omega)
          have e1' : decide (k < k) = false := decide_eq_false (by omega)
          have hrf := HF.out.only hat.only (by simp)
          have hcr := crash_any Af cf hat.disk fs (by rw [HFL.out]; exact hrf.more hat.only.size) (by rw [HFL.out]; omega) (by
            intro h0 q hq
            have : q < w.heap.size := by
              obtain ⟨ad, hA, hb', _⟩ := HF.out.2 (by rw [← HFL.out]; exact h0)
              rw [hA] at hq
              simp [blkOf] at hq
              omega
            have := HLO.out
            omega)
          rw [HFL.out] at hcr
          have HCR := Lib.hid hcr
          clear hrf hcr hat hkp
          go_wp2_with (go_at_call 11; refine HCR.out.mono ?_; rintro x w5 ⟨ks, hks, rfl, W5, hi5, hn5, ho5⟩)
          have HKC := Lib.hid (HKP.out.crash (fun i l h => (HAT.out.disk.wait_lt h).2) (fun i hi => by obtain ⟨C, _, _, _, h4⟩ := HAT.out.disk.safe; exact (h4 i (by rw [HKP.out.n]; exact hi)).1) fs hks)
          have hS : ∀ x ∈ [p, g, b], x ∈ [p, g, b, s, t] ∨ wr.heap.size ≤ x := fun x hx => .inl (by simp at hx ⊢; rcases hx with rfl | rfl | rfl <;> simp)
          have hN := HN.out
          have H15 := Lib.hid (HAT.out.one.only ho5 (by simp; omega) hS)
          have H25 := Lib.hid (HAT.out.two.only ho5 (by simp; omega) hS)
          have HI5 := Lib.hid hi5
          have hL := HLO.out
          have HO5 := Lib.hid (HAT.out.only.trans ho5 (fun x hx => .inr (by simp at hx; rcases hx with rfl | rfl | rfl <;> omega)))
          have hd8 : (crashD d fs ks).n = 8 := HKP.out.n
          have hdo : (crashD d fs ks).off = false := rfl
          have hdw : (crashD d fs ks).wait = fun _ => none := rfl
          obtain ⟨dc, hdc⟩ : ∃ dc, crashD d fs ks = dc := ⟨_, rfl⟩
          rw [hdc] at HI5 HKC hd8 hdo hdw
          have HD8 := Lib.hid hd8
          have HDO := Lib.hid hdo
          have HDW := Lib.hid hdw
          clear hks hi5 hn5 ho5 hS hN hL hd8 hdo hdw hdc HKP HAT HCR
          go_loopw [12] (fun i wr => ∃ q : Nat, q ≤ 8 ∧ i = .int .i64 q ∧ Only [] w5 wr) (fun i _ => 8 - (intOf i).toNat)
          case atStart => exact ⟨0, by omega, rfl, Only.refl _ _⟩
          case round =>
            obtain ⟨i, hi, rfl, ho⟩ := hrel
            by_cases hlt8 : i < 8
            · have e8 : decide ((i : Int) < 8) = true := decide_eq_true (by omega)
              have HRD := Lib.hid (read_any (HI5.out.only0 ho) (i : Int))
              have HO := Lib.hid ho
              have HNUM := Lib.hid dnum_is
              clear ho
              go_wp2_with (first
                | (go_at_call 6; refine (HNUM.out _ _).mono ?_; rintro x wn ⟨rfl, rfl⟩)
                | (go_at_call 12; refine HRD.out.mono ?_; intro x w6 hx; unfold ReadO at hx; rw [if_neg (by rw [HDO.out]; simp), if_pos (by rw [HD8.out]; omega)] at hx; obtain ⟨q, qc, rfl, hq, hown, hqc, hqm, ho6⟩ := hx; have HOWN := Lib.hid hown; have HO6 := Lib.hid ho6; clear hown ho6))
              have hkc := HKC.out i hlt8
              rw [show ((i : Nat) : Int).toNat = i from rfl] at HOWN
              have hrb := HOWN.out.reads
              have hr1 := hrb.head (k := 32) (by decide)
              have hr2 := bytes_tail hrb
              have hx1 : ∀ n, (convert 29 9 (.slice (some ⟨q, 0, none⟩) 32 qc)).run Try.prog (w6.drewN n) = .ok (.string (str ((readD dc i).take 32))) (w6.drewN n) := fun n => run_str (hr1.drewN n) qc
              have hx2 : ∀ n, (convert 29 9 (.slice (some ⟨q, 32, none⟩) 32 (qc - 32))).run Try.prog (w6.drewN n) = .ok (.string (str ((readD dc i).drop 32))) (w6.drewN n) := fun n => run_str (hr2.drewN n) (qc - 32)
              obtain ⟨qs, cs, s0, sb, _, hcs⟩ := (H15.out.only0 (HO.out.trans HO6.out (by simp))).cell hlt8
              obtain ⟨ql, cl, t0, lb, _, hcl⟩ := (H25.out.only0 (HO.out.trans HO6.out (by simp))).cell hlt8
              have hs1 : ∀ n, (convert 29 9 (.slice (some ⟨qs, 0, none⟩) 32 cs)).run Try.prog (w6.drewN n) = .ok (.string (str ((S i).take 32))) (w6.drewN n) := fun n => run_str ((sb.head (k := 32) (by decide)).drewN n) cs
              have hs2 : ∀ n, (convert 29 9 (.slice (some ⟨qs, 32, none⟩) 32 (cs - 32))).run Try.prog (w6.drewN n) = .ok (.string (str ((S i).drop 32))) (w6.drewN n) := fun n => run_str ((bytes_tail sb).drewN n) (cs - 32)
              have hl1 : ∀ n, (convert 29 9 (.slice (some ⟨ql, 0, none⟩) 32 cl)).run Try.prog (w6.drewN n) = .ok (.string (str ((L i).take 32))) (w6.drewN n) := fun n => run_str ((lb.head (k := 32) (by decide)).drewN n) cl
              have hl2 : ∀ n, (convert 29 9 (.slice (some ⟨ql, 32, none⟩) 32 (cl - 32))).run Try.prog (w6.drewN n) = .ok (.string (str ((L i).drop 32))) (w6.drewN n) := fun n => run_str ((bytes_tail lb).drewN n) (cl - 32)
              have s0' : ∀ n, (w6.drewN n).cell? ⟨s, i, none⟩ = some (.slice (some ⟨qs, 0, none⟩) 64 cs) := fun n => s0
              have t0' : ∀ n, (w6.drewN n).cell? ⟨t, i, none⟩ = some (.slice (some ⟨ql, 0, none⟩) 64 cl) := fun n => t0
              have n1 : ¬ qc = 32 := by omega
              have n2 : ¬ cs = 32 := by omega
              have n3 : ¬ cl = 32 := by omega
              obtain ⟨X, hX⟩ : ∃ X, str ((readD dc i).take 32) = X := ⟨_, rfl⟩
              obtain ⟨Y, hY⟩ : ∃ X, str ((readD dc i).drop 32) = X := ⟨_, rfl⟩
              obtain ⟨SX, hSX⟩ : ∃ X, str ((S i).take 32) = X := ⟨_, rfl⟩
              obtain ⟨SY, hSY⟩ : ∃ X, str ((S i).drop 32) = X := ⟨_, rfl⟩
              obtain ⟨LX, hLX⟩ : ∃ X, str ((L i).take 32) = X := ⟨_, rfl⟩
              obtain ⟨LY, hLY⟩ : ∃ X, str ((L i).drop 32) = X := ⟨_, rfl⟩
              have hXX : X = SX ∨ ((¬ X.toList = SX.toList) ∧ X = LX) := by
                rcases hkc.1 with h | h
                · left; rw [← hX, ← hSX, h]
                · by_cases e : X = SX
                  · exact .inl e
                  · right; exact ⟨fun h => e (list_eq.1 h), by rw [← hX, ← hLX, h]⟩
              have hYY : Y = SY ∨ ((¬ Y.toList = SY.toList) ∧ Y = LY) := by
                rcases hkc.2 with h | h
                · left; rw [← hY, ← hSY, h]
                · by_cases e : Y = SY
                  · exact .inl e
                  · right; exact ⟨fun h => e (list_eq.1 h), by rw [← hY, ← hLY, h]⟩
              rw [hX] at hx1
              rw [hY] at hx2
              rw [hSX] at hs1
              rw [hSY] at hs2
              rw [hLX] at hl1
              rw [hLY] at hl2
              have HOF := Lib.hid (HO.out.trans HO6.out (by simp))
              clear hX hY hSX hSY hLX hLY hkc hrb hr1 hr2 sb lb s0 t0 HOWN HO HO6 HRD
              rcases hXX with hXX | ⟨hXN, hXX⟩
              · subst hXX
                rcases hYY with hYY | ⟨hYN, hYY⟩
                · subst hYY
                  go_quiet (fail)
                  go_wp2_with fail
                  go_roundw
                  case measure => simp [intOf]; omega
                  case rel => exact ⟨i + 1, by omega, by go_num, HOF.out.drewN nq⟩
                · subst hYY
                  go_quiet (fail)
                  go_wp2_with fail
                  go_roundw
                  case measure => simp [intOf]; omega
                  case rel => exact ⟨i + 1, by omega, by go_num, HOF.out.drewN nq⟩
              · subst hXX
                rcases hYY with hYY | ⟨hYN, hYY⟩
                · subst hYY
                  go_quiet (fail)
                  go_wp2_with fail
                  go_roundw
                  case measure => simp [intOf]; omega
                  case rel => exact ⟨i + 1, by omega, by go_num, HOF.out.drewN nq⟩
                · subst hYY
                  go_quiet (fail)
                  go_wp2_with fail
                  go_roundw
                  case measure => simp [intOf]; omega
                  case rel => exact ⟨i + 1, by omega, by go_num, HOF.out.drewN nq⟩
            · obtain rfl : i = 8 := by omega
              have HO := Lib.hid ho
              clear ho
              go_wp2_with fail
              go_loopw [17, 18] (fun pt i wz => NoneI wz pt i ∧ Only [] w5 wz) (fun _ i _ => 2 - (intOf i).toNat)
              case atStart => exact ⟨NoneI.start _, HO.out⟩
              case round =>
                obtain ⟨⟨nn, hnn, rfl, hnc⟩, ho⟩ := hrel
                have HNC := Lib.hid hnc
                have HZ := Lib.hid ho
                have HNUM := Lib.hid dnum_is
                clear hnc ho
                by_cases hlt2 : nn < 2
                · have e2 : decide ((nn : Int) < 2) = true := decide_eq_true (by omega)
                  have e2' : decide (nn < 2) = true := decide_eq_true hlt2
                  go_wp2_with fail
                  refine (HNC.out.stop _ (Only.refl _ _) 1).mono ?_
                  rintro x wa ⟨rfl, hoa⟩
                  have HOA := Lib.hid (hoa.alloc (.cells #[.int .i64 1] 3))
                  clear hoa
                  go_wp2_with fail
                  refine (HNC.out.crash _ HOA.out _ _ _).mono ?_
                  rintro x wb ⟨rfl, hob⟩
                  have HOB := Lib.hid (HOA.out.trans hob (by simp))
                  clear hob HOA
                  go_wp2_with fail
                  refine (HNC.out.read _ HOB.out 0).mono ?_
                  rintro x wc ⟨rfl, hoc⟩
                  have HOC := Lib.hid (HOB.out.trans hoc (by simp))
                  clear hoc HOB
                  go_wp2_with (go_at_call 6; refine (HNUM.out _ _).mono ?_; rintro x wn ⟨rfl, rfl⟩)
                  refine (HNC.out.write _ HOC.out 0 none 0 0).mono ?_
                  rintro x wd ⟨rfl, hod⟩
                  have HOD := Lib.hid (HOC.out.trans hod (by simp))
                  clear hod HOC
                  go_wp2_with (go_at_call 6; refine (HNUM.out _ _).mono ?_; rintro x wn ⟨rfl, rfl⟩)
                  refine (HNC.out.sync _ HOD.out).mono ?_
                  rintro x we ⟨rfl, hoe⟩
                  have HOE := Lib.hid (HOD.out.trans hoe (by simp))
                  clear hoe HOD
                  go_wp2_with (go_at_call 6; refine (HNUM.out _ _).mono ?_; rintro x wn ⟨rfl, rfl⟩)
                  refine (HNC.out.down _ HOE.out).mono ?_
                  rintro x wf ⟨rfl, hwf⟩
                  subst hwf
                  go_wp2_with fail
                  refine (HNC.out.sectors _ HOE.out).mono ?_
                  rintro x wf ⟨rfl, hwf⟩
                  subst hwf
                  go_wp2_with fail
                  refine (HNC.out.done _ HOE.out).mono ?_
                  rintro x wf ⟨rfl, hwf⟩
                  subst hwf
                  go_wp2_with fail
                  refine (HNC.out.waiting _ HOE.out).mono ?_
                  rintro x wg ⟨rfl, hog⟩
                  have HOG := Lib.hid (HOE.out.trans hog (by simp))
                  clear hog HOE
                  go_wp2_with fail
                  go_roundw
                  case measure => simp [intOf]; omega
                  case rel => first | exact ⟨⟨nn + 1, by omega, by go_num, zero_box wg⟩, (HZ.out.trans HOG.out (by simp)).alloc _⟩ | ((repeat apply Exists.intro); exact ⟨⟨⟨nn + 1, by omega, by go_num, zero_box wg⟩, (HZ.out.trans HOG.out (by simp)).alloc _⟩, rfl⟩)
                · obtain rfl : nn = 2 := by omega
                  have HWT := Lib.hid (waiting_any (HI5.out.only0 HZ.out))
                  go_wp2_with fail
                  refine HWT.out.mono ?_
                  rintro x wh ⟨A5, c5, ks5, rfl, hw5, _, _, _, _, hoh⟩
                  have hk0 : ks5 = [] := by
                    rcases ks5 with _ | ⟨y, ys⟩
                    · rfl
                    · have h9 := (hw5.2 y).1 (by simp)
                      rw [HDW.out] at h9
                      cases h9
                  subst hk0
                  have HDN := Lib.hid (down_any (HI5.out.only0 (HZ.out.trans hoh (by simp))))
                  rw [HDO.out] at HDN
                  have HOH := Lib.hid (HO5.out.trans (HZ.out.trans hoh (by simp)) (by simp))
                  clear hw5 hoh
                  go_wp2_with (go_at_call 13; refine HDN.out.mono ?_; rintro x wi ⟨rfl, hwi⟩; subst hwi)
                  go_ret
                  exact ⟨rfl, HOH.out⟩
end Go.Proofs.Ytgbicimbggdpgaa.Disk
