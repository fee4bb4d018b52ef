/- RefS: The document's journal: Reset, whole; A journal and the document's journal, side by side in memory; Journal and document's journal in the law's loop: the acts, each done to both; JournalPlays: how it begins. -/
import Derived.Test.YthgfmoogagldmaaGreatRJ8eq
import Derived.Test.YthgfmoogagldmaaGreatRJ8nq
import Derived.Test.YthgfmoogagldmaaGreatRefC
import Derived.Test.YthgfmoogagldmaaGreatJournalG
import Derived.Test.YthgfmoogagldmaaGreatJournalH
import Derived.Deep.DeepCutAuto
set_option linter.unusedVariables false
set_option maxRecDepth 100000
namespace Go.Proofs.YthgfmoogagldmaaGreat.RefD
open Go.RowKit Go.Shelf Disk Journal Go.Proofs.YthgfmoogagldmaaGreat.Frame
section
variable {w w' wr : World} {p sb sc wb base q n c : Nat} {d : DS} {X S T T' : List Nat} {A : Option Addr} {l : List UInt8} {ls : List (List UInt8)} {js : JS} {ts : List Sl}
theorem rjreset_any (hd : IsR X w p sb sc wb base d) (h8 : 8 ≤ d.n) (hj : IsRJ X w p sb wb q js) (hqX : q ∈ X) (hh : js.half = halfD d js.half.gen) (hg : 0 ≤ js.half.gen ∧ js.half.gen ≤ 4611686018427380000) (A : Option Addr) (n c : Nat) (hl : ts.length = n) (hr : Reads w w.heap.size 1 A n (ts.map Sl.val)) (hc : n ≤ c ∧ c ≤ maxLen) (hk : Held w (q :: p :: sb :: wb :: X) ts) (h2k : ∀ s ∈ ts, s.n ≤ 2000) (hn : n ≤ 1000) (hfar : 0 < n → ∀ k ∈ blkOf A, k ∉ q :: p :: sb :: wb :: X) (hdn : d.done ≤ 4611686018427000000) :
    Calls Tryz.prog 27 #[.pointer (some ⟨q, 0, none⟩), .slice A n c] w fun x w' => RAct X w p sb sc wb base q (resetJ d js (ts.map (·.l))) x w' := by
  cases ho : js.off with
  | true => exact rjres_off hd h8 hj hqX hh hg A n c hl hr hc hk h2k hn hfar hdn ho
  | false =>
    by_cases hre : refuseJ js (ts.map (·.l)) js.half.room = 0
    case neg => exact rjres_full hd h8 hj hqX hh hg A n c hl hr hc hk h2k hn hfar hdn ho hre
    case pos =>
      obtain ⟨h, hhd⟩ : ∃ h, halfD d (js.half.gen + 1) = h := ⟨_, rfl⟩
      obtain ⟨⟨D1, b1⟩, hL⟩ : ∃ r, LZR d h (ts.map (·.l)) = r := ⟨_, rfl⟩
      obtain ⟨⟨D2, b2⟩, hS⟩ : ∃ r, synD D1 = r := ⟨_, rfl⟩
      obtain ⟨⟨D3, b3⟩, hM⟩ : ∃ r, wrD D2 (h.gen % 2) (putB ⟨1, h.gen, 0, 0⟩) = r := ⟨_, rfl⟩
      obtain ⟨⟨D4, b4⟩, hS2⟩ : ∃ r, synD D3 = r := ⟨_, rfl⟩
      rcases Nat.eq_zero_or_pos n with h0 | h0
      · exact rjres_e hd h8 hj hqX hh hg A n c hl hr hc hk h2k hn hfar hdn h0 ho hre hhd hL hS hM hS2
      · exact rjres_n hd h8 hj hqX hh hg A n c hl hr hc hk h2k hn hfar hdn h0 ho hre hhd hL hS hM hS2
end
end Go.Proofs.YthgfmoogagldmaaGreat.RefD
namespace Go.Proofs.YthgfmoogagldmaaGreat.RefD
open Go.RowKit Go.Shelf Disk Journal Go.Proofs.YthgfmoogagldmaaGreat.Frame
def BW (m : Nat) (w : World) (p g b q cap p' sb sc wb bs q' : Nat) (d : DS) (js : JS) (d' : DS) (js' : JS) : Prop :=
  ∃ W v ss base, IsD w p g b W cap d ∧ IsJ w p g b q base js v ss ∧ (∀ k ∈ W, k ∉ q :: ownL v) ∧ base ≤ w.heap.size ∧ IsR (q' :: JT p g b q v) w p' sb sc wb bs d' ∧ IsRJ (q' :: JT p g b q v) w p' sb wb q' js' ∧
    (∀ k ∈ JT p g b q v, k ∉ [p', sb, wb, q'] ∧ m ≤ k) ∧ (∀ k ∈ W, k ∉ [p', sb, wb, q']) ∧ (∀ s ∈ ss, 0 < s.n → ∀ k ∈ blkOf s.A, k ∉ [p', sb, wb, q']) ∧ (∀ k ∈ [p', sb, wb, q'], m ≤ k ∧ k < w.heap.size)
section
variable {w w' : World} {m p g b q cap p' sb sc wb bs q' q2 base base2 : Nat} {d d2 d' : DS} {js js2 js' : JS} {W W' S : List Nat} {v v' : Value} {ss ss' : List Sl}
theorem jt_lt (hd : IsD w p g b W cap d) (hj : IsJ w p g b q base js v ss) : ∀ k ∈ JT p g b q v, k < w.heap.size := by
  have e2 := hd.blk.lt
  obtain ⟨C, c1, _⟩ := hd.safe
  have e3 := c1.lt
  have e4 := isD_map_lt hd
  have e5 := hj.lt
  intro k hk
  unfold JT at hk
  simp only [List.mem_cons] at hk
  rcases hk with e | e | e | e | e
  · omega
  · omega
  · omega
  · omega
  · exact (hj.own.lt k e).2
theorem IsJ.apart (h : IsJ w p g b q base js v ss) (ho : Only S w w') (hT : ∀ k ∈ JT p g b q v, k ∉ S) (hs : ∀ s ∈ ss, 0 < s.n → ∀ k ∈ blkOf s.A, k ∉ S) : IsJ w' p g b q base js v ss :=
  ⟨h.blk.only ho (hT q (by simp [JT])), h.own.only ho (fun k hk => hT k (by simp [JT, hk])), fun s hm => by
    obtain ⟨h1, h2, h3, h4, h5⟩ := h.held s hm
    exact ⟨(h1.only_pos ho (hs s hm)).more ho.size, h2, h3, h4, h5⟩, h.l, h.sm⟩
theorem BW.left (hd : IsD w p g b W cap d) (hj : IsJ w p g b q base js v ss) (hR : IsR (q' :: JT p g b q v) w p' sb sc wb bs d') (hRJ : IsRJ (q' :: JT p g b q v) w p' sb wb q' js')
    (h1 : ∀ k ∈ JT p g b q v, k ∉ [p', sb, wb, q'] ∧ m ≤ k) (h2 : ∀ k ∈ W, k ∉ [p', sb, wb, q']) (h3 : ∀ s ∈ ss, 0 < s.n → ∀ k ∈ blkOf s.A, k ∉ [p', sb, wb, q']) (h4 : ∀ k ∈ [p', sb, wb, q'], m ≤ k ∧ k < w.heap.size)
    (k1 : IsD w' p g b W' cap d2) (k2 : Newer w W W') (k3 : IsJ w' p g b q2 base2 js2 v' ss') (k4 : Only (JT p g b q v) w w') (k5 : ∀ k ∈ JT p g b q2 v', k ∈ JT p g b q v ∨ w.heap.size ≤ k) (k6 : ∀ k ∈ W', k ∉ q2 :: ownL v') (k7 : NewS w ss ss') (hb : base2 ≤ w'.heap.size) (hmw : m ≤ w.heap.size) :
    BW m w' p g b q2 cap p' sb sc wb bs q' d2 js2 d' js' ∧ Abv m w w' := by
  have hx : ∀ k ∈ [p', sb, wb, q'], k ∉ JT p g b q v := fun k hk hm => (h1 k hm).1 hk
  have hX : ∀ k ∈ q' :: JT p g b q2 v', k ∈ q' :: JT p g b q v ∨ w.heap.size ≤ k := fun k hk => by
    rcases List.mem_cons.1 hk with e | e
    · exact .inl (by simp [e])
    · rcases k5 k e with h | h
      · exact .inl (by simp [h])
      · exact .inr h
  have hsz := k4.size
  refine ⟨⟨W', v', ss', base2, k1, k3, k6, hb, hR.turn k4 ⟨hx p' (by simp), hx sb (by simp), hx wb (by simp)⟩ (fun k hk => .inl (by simp [hk])) hX (fun k hk => ?_), hRJ.only k4 (hx q' (by simp)) (fun k hk => .inl (by simp [hk])) hX, fun k hk => ?_, fun k hk hm => ?_, fun s hs hn k hk hm => ?_, fun k hk => ⟨(h4 k hk).1, Nat.lt_of_lt_of_le (h4 k hk).2 hsz⟩⟩, _, k4, fun k hk => (h1 k hk).2⟩
  · rcases List.mem_cons.1 hk with e | e
    · have := (h4 q' (by simp)).2; omega
    · exact jt_lt k1 k3 k e
  · rcases k5 k hk with h | h
    · exact h1 k h
    · exact ⟨fun hm => by have := (h4 k hm).2; omega, by omega⟩
  · rcases k2 k hk with h | h
    · exact h2 k h hm
    · have := (h4 k hm).2; omega
  · rcases k7 s hs with h | h
    · exact h3 s h hn k hk hm
    · have a := h k hk; have c := (h4 k hm).2; omega
theorem BW.right {d2' : DS} {js2' : JS} (hd : IsD w p g b W cap d) (hj : IsJ w p g b q base js v ss) (hW : ∀ k ∈ W, k ∉ q :: ownL v) (hb : base ≤ w.heap.size)
    (h1 : ∀ k ∈ JT p g b q v, k ∉ [p', sb, wb, q'] ∧ m ≤ k) (h2 : ∀ k ∈ W, k ∉ [p', sb, wb, q']) (h3 : ∀ s ∈ ss, 0 < s.n → ∀ k ∈ blkOf s.A, k ∉ [p', sb, wb, q']) (h4 : ∀ k ∈ [p', sb, wb, q'], m ≤ k ∧ k < w.heap.size)
    (k1 : IsR (q' :: JT p g b q v) w' p' sb sc wb bs d2') (k2 : IsRJ (q' :: JT p g b q v) w' p' sb wb q' js2') (k3 : Only [p', sb, wb, q'] w w') :
    BW m w' p g b q cap p' sb sc wb bs q' d js d2' js2' ∧ Abv m w w' := by
  have hsz := k3.size
  refine ⟨⟨W, v, ss, base, hd.only k3 ⟨(h1 p (by simp [JT])).1, (h1 g (by simp [JT])).1, (h1 b (by simp [JT])).1⟩ h2, IsJ.apart hj k3 (fun k hk => (h1 k hk).1) h3, hW, Nat.le_trans hb hsz, k1, k2, h1, h2, h3, fun k hk => ⟨(h4 k hk).1, Nat.lt_of_lt_of_le (h4 k hk).2 hsz⟩⟩, _, k3, fun k hk => (h4 k hk).1⟩
theorem BW.only0 (h : BW m w p g b q cap p' sb sc wb bs q' d js d' js') (ho : Only [] w w') : BW m w' p g b q cap p' sb sc wb bs q' d js d' js' := by
  obtain ⟨W, v, ss, base, h1, h2, h3, h4, h5, h6, h7, h8, h9, h10⟩ := h
  exact ⟨W, v, ss, base, h1.only0 ho, h2.only0 ho, h3, Nat.le_trans h4 ho.size, h5.only0 ho, h6.only ho (by simp) (by simp) (fun k hk => .inl hk), h7, h8, h9, fun k hk => ⟨(h10 k hk).1, Nat.lt_of_lt_of_le (h10 k hk).2 ho.size⟩⟩
theorem BW.append (h : BW m w p g b q cap p' sb sc wb bs q' d js d' js') (hmw : m ≤ w.heap.size) (hn2 : 2 ≤ d.n) (A : Option Addr) (n c : Nat) (l : List UInt8) (hr : Bytes w w.heap.size A n l) (hn : n ≤ 2000) (hnc : n ≤ c) (hcm : c ≤ maxLen) (hfar : 0 < n → ∀ k ∈ blkOf A, k < m) (hsl : js.l.length ≤ 100000) (hdn : d.done ≤ 4611686018427000000) :
    Calls Tryz.prog 15 #[.pointer (some ⟨q, 0, none⟩), .slice A n c] w fun x w' => x = .returned (.int .i64 (appendJ d js l).2.2) ∧ BW m w' p g b q cap p' sb sc wb bs q' (appendJ d js l).1 (appendJ d js l).2.1 d' js' ∧ Abv m w w' := by
  obtain ⟨W, v, ss, base, h1, h2, h3, h4, h5, h6, h7, h8, h9, h10⟩ := h
  refine (append_any h1 hn2 h2 h3 A n c l hr hn hnc hcm (fun h k hk hm => by have a := hfar h k hk; have c := (h7 k hm).2; omega) (by rw [← h2.l, List.length_map] at hsl; exact hsl) hdn h4).mono ?_
  rintro x w' ⟨rfl, W', v', ss', k1, k2, k3, k4, k5, k6, k7⟩
  refine ⟨rfl, BW.left h1 h2 h5 h6 h7 h8 h9 h10 k1 k2 k3 k4 (fun k hk => ?_) k6 k7 (Nat.le_trans h4 k4.size) hmw⟩
  unfold JT at hk ⊢
  simp only [List.mem_cons] at hk ⊢
  rcases hk with e | e | e | e | e
  · exact .inl (.inl e)
  · exact .inl (.inr (.inl e))
  · exact .inl (.inr (.inr (.inl e)))
  · exact .inl (.inr (.inr (.inr (.inl e))))
  · rcases k5 k e with h | h
    · exact .inl (.inr (.inr (.inr (.inr h))))
    · exact .inr h
theorem BW.rappend (h : BW m w p g b q cap p' sb sc wb bs q' d js d' js') (h8' : 8 ≤ d'.n) (hh : js'.half = halfD d' js'.half.gen) (hg : 0 ≤ js'.half.gen ∧ js'.half.gen ≤ 4611686018427387904) (hll : js'.l.length ≤ 100000) (A : Option Addr) (n c : Nat) (l : List UInt8) (hr : Bytes w w.heap.size A n l) (hn : n ≤ 2000) (hnc : n ≤ c) (hcm : c ≤ maxLen) (hfar : 0 < n → ∀ k ∈ blkOf A, k < m) (hdn : d'.done ≤ 4611686018427300000) :
    Calls Tryz.prog 26 #[.pointer (some ⟨q', 0, none⟩), .slice A n c] w fun x w' => x = .returned (.int .i64 (appendJ d' js' l).2.2) ∧ BW m w' p g b q cap p' sb sc wb bs q' d js (appendJ d' js' l).1 (appendJ d' js' l).2.1 ∧ Abv m w w' := by
  obtain ⟨W, v, ss, base, h1, h2, h3, h4, h5, h6, h7, h8, h9, h10⟩ := h
  refine (rjappend_any h5 h8' h6 (by simp) hh hg hll A n c l hr hn hnc hcm (fun h k hk hm => ?_) hdn).mono ?_
  · have a := hfar h k hk
    simp only [List.mem_cons] at hm
    rcases hm with e | e | e | e | e | e
    · have := (h10 q' (by simp)).1; omega
    · have := (h10 p' (by simp)).1; omega
    · have := (h10 sb (by simp)).1; omega
    · have := (h10 wb (by simp)).1; omega
    · have := (h10 q' (by simp)).1; omega
    · have := (h7 k e).2; omega
  · rintro x w' ⟨rfl, k1, k2, k3⟩
    exact ⟨rfl, BW.right h1 h2 h3 h4 h7 h8 h9 h10 k2 k1 k3⟩
theorem BW.reset (h : BW m w p g b q cap p' sb sc wb bs q' d js d' js') (hmw : m ≤ w.heap.size) (hn2 : 2 ≤ d.n) (A : Option Addr) (n c : Nat) (ts : List Sl) (hl : ts.length = n) (hr : Reads w w.heap.size 1 A n (ts.map Sl.val)) (hh : ∀ T : List Nat, (∀ k ∈ T, m ≤ k) → Held w T ts) (h2k : ∀ s ∈ ts, s.n ≤ 2000) (hn : n ≤ 1000) (hfar : 0 < n → ∀ k ∈ blkOf A, k < m) (hdn : d.done ≤ 4611686018426000000)
    (hroom : js.half.room = roomD d) (hgen : 0 ≤ js.half.gen ∧ js.half.gen ≤ 4611686018427380000) (hsmall : (halfD d (js.half.gen + 1)).small) :
    Calls Tryz.prog 17 #[.pointer (some ⟨q, 0, none⟩), .slice A n c] w fun x w' => x = .returned (.int .i64 (resetJ d js (ts.map (·.l))).2.2) ∧ BW m w' p g b q cap p' sb sc wb bs q' (resetJ d js (ts.map (·.l))).1 (resetJ d js (ts.map (·.l))).2.1 d' js' ∧ Abv m w w' := by
  obtain ⟨W, v, ss, base, h1, h2, h3, h4, h5, h6, h7, h8, h9, h10⟩ := h
  refine (reset_any h1 hn2 h2 h3 A n c ts hl hr (hh _ (fun k hk => (h7 k hk).2)) h2k (by omega) (fun h k hk hm => by have a := hfar h k hk; have c := (h7 k hm).2; omega) h4 hdn hroom hgen hsmall).mono ?_
  rintro x w' ⟨rfl, W', v', ss', k1, k2, k3, k4, k5, k6, k7⟩
  refine ⟨rfl, BW.left h1 h2 h5 h6 h7 h8 h9 h10 k1 k2 k3 k4 (fun k hk => ?_) k6 k7 (Nat.le_trans h4 k4.size) hmw⟩
  unfold JT at hk ⊢
  simp only [List.mem_cons] at hk ⊢
  rcases hk with e | e | e | e | e
  · exact .inl (.inl e)
  · exact .inl (.inr (.inl e))
  · exact .inl (.inr (.inr (.inl e)))
  · exact .inl (.inr (.inr (.inr (.inl e))))
  · rcases k5 k e with h | h
    · exact .inl (.inr (.inr (.inr (.inr h))))
    · exact .inr h
theorem BW.rreset (h : BW m w p g b q cap p' sb sc wb bs q' d js d' js') (h8' : 8 ≤ d'.n) (hh' : js'.half = halfD d' js'.half.gen) (hg : 0 ≤ js'.half.gen ∧ js'.half.gen ≤ 4611686018427380000) (A : Option Addr) (n c : Nat) (ts : List Sl) (hl : ts.length = n) (hr : Reads w w.heap.size 1 A n (ts.map Sl.val)) (hc : n ≤ c ∧ c ≤ maxLen) (hh : ∀ T : List Nat, (∀ k ∈ T, m ≤ k) → Held w T ts) (h2k : ∀ s ∈ ts, s.n ≤ 2000) (hn : n ≤ 1000) (hfar : 0 < n → ∀ k ∈ blkOf A, k < m) (hdn : d'.done ≤ 4611686018427000000) :
    Calls Tryz.prog 27 #[.pointer (some ⟨q', 0, none⟩), .slice A n c] w fun x w' => x = .returned (.int .i64 (resetJ d' js' (ts.map (·.l))).2.2) ∧ BW m w' p g b q cap p' sb sc wb bs q' d js (resetJ d' js' (ts.map (·.l))).1 (resetJ d' js' (ts.map (·.l))).2.1 ∧ Abv m w w' := by
  obtain ⟨W, v, ss, base, h1, h2, h3, h4, h5, h6, h7, h8, h9, h10⟩ := h
  have hT : ∀ k ∈ q' :: p' :: sb :: wb :: q' :: JT p g b q v, m ≤ k := fun k hm => by
    simp only [List.mem_cons] at hm
    rcases hm with e | e | e | e | e | e
    · have := (h10 q' (by simp)).1; omega
    · have := (h10 p' (by simp)).1; omega
    · have := (h10 sb (by simp)).1; omega
    · have := (h10 wb (by simp)).1; omega
    · have := (h10 q' (by simp)).1; omega
    · exact (h7 k e).2
  refine (rjreset_any h5 h8' h6 (by simp) hh' hg A n c hl hr hc (hh _ hT) h2k hn (fun h k hk hm => by have a := hfar h k hk; have c := hT k hm; omega) hdn).mono ?_
  rintro x w' ⟨rfl, k1, k2, k3⟩
  exact ⟨rfl, BW.right h1 h2 h3 h4 h7 h8 h9 h10 k2 k1 k3⟩
theorem BW.did (h1 : IsD w p g b W cap d) (h2 : IsJ w p g b q base js v ss) (h3 : ∀ k ∈ W, k ∉ q :: ownL v) (h4 : base ≤ w.heap.size) (h5 : IsR (q' :: JT p g b q v) w p' sb sc wb bs d') (h6 : IsRJ (q' :: JT p g b q v) w p' sb wb q' js')
    (h7 : ∀ k ∈ JT p g b q v, k ∉ [p', sb, wb, q'] ∧ m ≤ k) (h8 : ∀ k ∈ W, k ∉ [p', sb, wb, q']) (h9 : ∀ s ∈ ss, 0 < s.n → ∀ k ∈ blkOf s.A, k ∉ [p', sb, wb, q']) (h10 : ∀ k ∈ [p', sb, wb, q'], m ≤ k ∧ k < w.heap.size) (hmw : m ≤ w.heap.size) (hx : Did w p g b W cap d2 w') :
    BW m w' p g b q cap p' sb sc wb bs q' d2 js d' js' ∧ Abv m w w' := by
  obtain ⟨W', k1, k2, k3⟩ := hx
  refine BW.left h1 h2 h5 h6 h7 h8 h9 h10 k1 k2 (h2.deed h1 k3) (k3.mono (fun k hk => .inl (jt_of k hk))) (fun k hk => .inl hk) (fun k hk hm => ?_) (NewS.refl _ _) (Nat.le_trans h4 k3.size) hmw
  rcases k2 k hk with e | e
  · exact h3 k e hm
  · rcases List.mem_cons.1 hm with e2 | e2
    · have := h2.lt; omega
    · have := (h2.own.lt k e2).2; omega
theorem BW.stop (h : BW m w p g b q cap p' sb sc wb bs q' d js d' js') (hmw : m ≤ w.heap.size) (a : Int) (ha : a ≤ 9223372036854775807) : Calls Tryz.prog 18 #[.pointer (some ⟨p, 0, none⟩), .int .i64 a] w fun x w' => x = .returned (.tuple #[]) ∧ BW m w' p g b q cap p' sb sc wb bs q' (stopD d a) js d' js' ∧ Abv m w w' := by
  obtain ⟨W, v, ss, base, h1, h2, h3, h4, h5, h6, h7, h8, h9, h10⟩ := h
  exact (stop_any h1 a ha).mono fun x w' ⟨k1, k2⟩ => ⟨k1, BW.did h1 h2 h3 h4 h5 h6 h7 h8 h9 h10 hmw k2⟩
theorem BW.rstop (h : BW m w p g b q cap p' sb sc wb bs q' d js d' js') (a : Int) (ha : a ≤ 9223372036854775807) : Calls Tryz.prog 28 #[.pointer (some ⟨p', 0, none⟩), .int .i64 a] w fun x w' => x = .returned (.tuple #[]) ∧ BW m w' p g b q cap p' sb sc wb bs q' d js (stopD d' a) js' ∧ Abv m w w' := by
  obtain ⟨W, v, ss, base, h1, h2, h3, h4, h5, h6, h7, h8, h9, h10⟩ := h
  have hq0 : q' ∉ [p', sb, wb] := by
    obtain ⟨A0, n0, c0, hb0, _⟩ := h6
    exact h5.far hb0 (by decide) (by decide)
  refine (rstop_any h5 a ha).mono ?_
  rintro x w' ⟨k1, k2, k3⟩
  refine ⟨k1, BW.right h1 h2 h3 h4 h7 h8 h9 h10 k2 (h6.only k3 (fun hm => ?_) (fun k hk => .inl (by simp at hk; simp [hk])) (fun k hk => .inl hk)) (k3.mono (fun k hk => .inl (by simp at hk; simp [hk])))⟩
  exact hq0 (by simp at hm; simp [hm])
theorem BW.crash (h : BW m w p g b q cap p' sb sc wb bs q' d js d' js') (hmw : m ≤ w.heap.size) (A : Option Addr) (n c : Nat) (fs : List Int) (hl : fs.length = n) (hr : Reads w w.heap.size 1 A n (fs.map (Value.int .i64))) (hn : n ≤ 1000000) (hfar : 0 < n → ∀ k ∈ blkOf A, k < m) :
    Calls Tryz.prog 21 #[.pointer (some ⟨p, 0, none⟩), .slice A n c] w fun x w' => ∃ ks, waitsD d ks ∧ x = .returned (.tuple #[]) ∧ BW m w' p g b q cap p' sb sc wb bs q' (crashD d fs ks) js d' js' ∧ Abv m w w' := by
  subst hl
  obtain ⟨W, v, ss, base, h1, h2, h3, h4, h5, h6, h7, h8, h9, h10⟩ := h
  refine (crash_any A c h1 fs hr hn (fun h k hk e => by have a := hfar h k hk; have c := (h7 g (by simp [JT])).2; omega)).mono ?_
  rintro x w' ⟨ks, k1, rfl, k2⟩
  exact ⟨ks, k1, rfl, BW.did h1 h2 h3 h4 h5 h6 h7 h8 h9 h10 hmw k2⟩
theorem BW.rcrash (h : BW m w p g b q cap p' sb sc wb bs q' d js d' js') (A : Option Addr) (n c : Nat) (fs : List Int) (hl : fs.length = n) (hr : Reads w w.heap.size 1 A n (fs.map (Value.int .i64))) (hn : n ≤ 1000000) (hfar : 0 < n → ∀ k ∈ blkOf A, k < m) :
    Calls Tryz.prog 29 #[.pointer (some ⟨p', 0, none⟩), .slice A n c] w fun x w' => ∃ ks, waitsD d' ks ∧ x = .returned (.tuple #[]) ∧ BW m w' p g b q cap p' sb sc wb bs q' d js (crashD d' fs ks) js' ∧ Abv m w w' := by
  subst hl
  obtain ⟨W, v, ss, base, h1, h2, h3, h4, h5, h6, h7, h8, h9, h10⟩ := h
  have hq0 : q' ∉ [p', sb, wb] := by
    obtain ⟨A0, n0, c0, hb0, _⟩ := h6
    exact h5.far hb0 (by decide) (by decide)
  refine (rcrash_any h5 A c fs hr hn (fun h k hk => by
    have a := hfar h k hk
    intro hm
    have := (h10 k (by simp at hm ⊢; omega)).1
    omega)).mono ?_
  rintro x w' ⟨ks, k0, k1, k2, k3⟩
  refine ⟨ks, k0, k1, BW.right h1 h2 h3 h4 h7 h8 h9 h10 k2 (h6.only k3 (fun hm => ?_) (fun k hk => .inl (by simp only [List.mem_cons, List.not_mem_nil, or_false] at hk; rcases hk with e | e | e <;> simp [e])) (fun k hk => .inl hk)) (k3.mono (fun k hk => .inl (by simp only [List.mem_cons, List.not_mem_nil, or_false] at hk; rcases hk with e | e | e <;> simp [e])))⟩
  exact hq0 (by simpa using hm)
theorem BW.open_ (h : BW m w p g b q cap p' sb sc wb bs q' d js d' js') (hmw : m ≤ w.heap.size) (hn2 : d.n ≤ 200000) (hg : newestD d ≤ 4611686018427387000) (hdn : d.done ≤ 4611686018427000000) {D : DS} {js2 : JS} (hs : openJ d = (D, some js2, 0)) :
    Calls Tryz.prog 13 #[.pointer (some ⟨p, 0, none⟩)] w fun x w' => ∃ q2, x = .returned (.tuple #[.pointer (some ⟨q2, 0, none⟩), .int .i64 0]) ∧ BW m w' p g b q2 cap p' sb sc wb bs q' D js2 d' js' ∧ Abv m w w' := by
  obtain ⟨W, v, ss, base, h1, h2, h3, h4, h5, h6, h7, h8, h9, h10⟩ := h
  refine (open_any h1 hn2 hg hdn).mono ?_
  intro x w' hx
  rw [hs] at hx
  rcases hx with ⟨h1', _⟩ | ⟨js'', q2, v', ss', W', k0, rfl, k2, k3, k4, k5, k6, k7, k8⟩
  · cases h1'
  · cases k0
    refine ⟨q2, rfl, BW.left h1 h2 h5 h6 h7 h8 h9 h10 k3 k4 k6 (k5.mono (fun k hk => .inl (jt_of k hk))) (fun k hk => ?_) k8 (fun s hs => .inr (k7 s hs)) k5.size hmw⟩
    unfold JT at hk ⊢
    simp only [List.mem_cons] at hk ⊢
    rcases hk with e | e | e | e | e
    · exact .inl (.inl e)
    · exact .inl (.inr (.inl e))
    · exact .inl (.inr (.inr (.inl e)))
    · exact .inr (by omega)
    · exact .inr (k6.own.lt k e).1
theorem BW.open_no (h : BW m w p g b q cap p' sb sc wb bs q' d js d' js') (hmw : m ≤ w.heap.size) (hn2 : d.n ≤ 200000) (hg : newestD d ≤ 4611686018427387000) (hdn : d.done ≤ 4611686018427000000) {e : Int} (hs : openJ d = (d, none, e)) :
    Calls Tryz.prog 13 #[.pointer (some ⟨p, 0, none⟩)] w fun x w' => x = .returned (.tuple #[.pointer none, .int .i64 e]) ∧ BW m w' p g b q cap p' sb sc wb bs q' d js d' js' ∧ Abv m w w' := by
  obtain ⟨W, v, ss, base, h1, h2, h3, h4, h5, h6, h7, h8, h9, h10⟩ := h
  refine (open_any h1 hn2 hg hdn).mono ?_
  intro x w' hx
  rw [hs] at hx
  rcases hx with ⟨_, h1', h2'⟩ | ⟨js', q', v', ss', W', k0, _⟩
  · exact ⟨h1', BW.did h1 h2 h3 h4 h5 h6 h7 h8 h9 h10 hmw h2'⟩
  · cases k0
theorem BW.ropen_ (h : BW m w p g b q cap p' sb sc wb bs q' d js d' js') (hmw : m ≤ w.heap.size) (h8' : 8 ≤ d'.n) (hoff : d'.off = false) (hg : 1 ≤ newestD d' ∧ newestD d' ≤ 4611686018427387000) {D : DS} {js2 : JS} (hs : openJ d' = (D, some js2, 0)) :
    Calls Tryz.prog 25 #[.pointer (some ⟨p', 0, none⟩)] w fun x w' => ∃ q2, x = .returned (.tuple #[.pointer (some ⟨q2, 0, none⟩), .int .i64 0]) ∧ BW m w' p g b q cap p' sb sc wb bs q2 d js D js2 ∧ Abv m w w' := by
  obtain ⟨W, v, ss, base, h1, h2, h3, h4, h5, h6, h7, h8, h9, h10⟩ := h
  have h5' : IsR (JT p g b q v) w p' sb sc wb bs d' := h5.turn (Only.refl [] w) ⟨by simp, by simp, by simp⟩ (by simp) (fun k hk => .inl (by simp [hk])) (fun k hk => h5.xlt k (by simp [hk]))
  refine (ropen_old h5' h8' hoff hg).mono ?_
  intro x w' hx
  rw [hs] at hx
  obtain ⟨q2, js3, rfl, e3, k2, k3, k4, k5⟩ := hx
  injection e3 with e3
  subst e3
  have hsz := k5.size
  have hlow : ∀ k ∈ [p', sb, wb], m ≤ k ∧ k < w.heap.size := fun k hk => h10 k (by simp at hk ⊢; omega)
  have hnot : ∀ k, k < w.heap.size → k ∉ [p', sb, wb, q'] → k ∉ [p', sb, wb, q2] := fun k hk h hm => by
    simp at hm h
    omega
  have hS3 : ∀ k, k ∉ [p', sb, wb, q'] → k ∉ [p', sb, wb] := fun k h hm => h (by simp at hm ⊢; omega)
  refine ⟨q2, rfl, ⟨W, v, ss, base, h1.only k5 ⟨hS3 _ (h7 p (by simp [JT])).1, hS3 _ (h7 g (by simp [JT])).1, hS3 _ (h7 b (by simp [JT])).1⟩ (fun k hk => hS3 k (h8 k hk)), IsJ.apart h2 k5 (fun k hk => hS3 k (h7 k hk).1) (fun s hs hn k hk => hS3 k (h9 s hs hn k hk)), h3, Nat.le_trans h4 hsz, k4, ?_,
    fun k hk => ⟨hnot k (jt_lt h1 h2 k hk) (h7 k hk).1, (h7 k hk).2⟩, fun k hk => hnot k (h1.low k hk) (h8 k hk), fun s hs hn k hk => hnot k (bytes_lt (h2.held s hs).1 hn k hk) (h9 s hs hn k hk), fun k hk => ?_⟩, _, k5, fun k hk => (hlow k hk).1⟩
  · obtain ⟨A, n, c, hb, hl⟩ := k3
    refine ⟨A, n, c, hb, hl.only (Only.refl [] w') (by simp) (fun k hk => .inl ?_)⟩
    simp only [List.mem_cons] at hk
    rcases hk with e | e | e | e | e | e <;> simp [e]
  · simp only [List.mem_cons, List.not_mem_nil, or_false] at hk
    rcases hk with e | e | e | e
    · exact ⟨(hlow k (by simp [e])).1, Nat.lt_of_lt_of_le (hlow k (by simp [e])).2 hsz⟩
    · exact ⟨(hlow k (by simp [e])).1, Nat.lt_of_lt_of_le (hlow k (by simp [e])).2 hsz⟩
    · exact ⟨(hlow k (by simp [e])).1, Nat.lt_of_lt_of_le (hlow k (by simp [e])).2 hsz⟩
    · subst e
      exact ⟨by omega, k4.xlt k (by simp)⟩
theorem BW.ropen_no (h : BW m w p g b q cap p' sb sc wb bs q' d js d' js') (h8' : 8 ≤ d'.n) (hoff : d'.off = true) :
    Calls Tryz.prog 25 #[.pointer (some ⟨p', 0, none⟩)] w fun x w' => x = .returned (.tuple #[.pointer none, .int .i64 3]) ∧ w' = w := by
  obtain ⟨W, v, ss, base, h1, h2, h3, h4, h5, h6, h7, h8, h9, h10⟩ := h
  exact ropen_off h5 h8' hoff
theorem BW.groups (h : BW m w p g b q cap p' sb sc wb bs q' d js d' js') (hn : js.l.length ≤ 1000000) : Calls Tryz.prog 23 #[.pointer (some ⟨q, 0, none⟩)] w fun x w' => GroupsO w js.l x w' := by
  obtain ⟨W, v, ss, base, h1, h2, h3, h4, _⟩ := h
  exact groups_is h2 (by rw [← h2.l, List.length_map] at hn; exact hn)
theorem BW.gen (h : BW m w p g b q cap p' sb sc wb bs q' d js d' js') : Calls Tryz.prog 30 #[.pointer (some ⟨q, 0, none⟩)] w fun x w' => x = .returned (.int .i64 js.half.gen) ∧ w' = w := by
  obtain ⟨W, v, ss, base, h1, h2, _⟩ := h
  exact gen_is h2
theorem BW.room (h : BW m w p g b q cap p' sb sc wb bs q' d js d' js') : Calls Tryz.prog 33 #[.pointer (some ⟨q, 0, none⟩)] w fun x w' => x = .returned (.int .i64 js.half.room) ∧ w' = w := by
  obtain ⟨W, v, ss, base, h1, h2, _⟩ := h
  exact room_is h2
theorem BW.used (h : BW m w p g b q cap p' sb sc wb bs q' d js d' js') (hn : js.l.length ≤ 1000000) : Calls Tryz.prog 31 #[.pointer (some ⟨q, 0, none⟩)] w fun x w' => x = .returned (.int .i64 (usedJ js)) ∧ w' = w := by
  obtain ⟨W, v, ss, base, h1, h2, _⟩ := h
  exact used_is h2 (by rw [← h2.l, List.length_map] at hn; exact hn)
theorem BW.down (h : BW m w p g b q cap p' sb sc wb bs q' d js d' js') : Calls Tryz.prog 19 #[.pointer (some ⟨q, 0, none⟩)] w fun x w' => x = .returned (.bool js.off) ∧ w' = w := by
  obtain ⟨W, v, ss, base, h1, h2, _⟩ := h
  exact jdown_is h2
theorem BW.rj (h : BW m w p g b q cap p' sb sc wb bs q' d js d' js') : ∃ A n c, Blk w q' 55 #[.pointer (some ⟨p', 0, none⟩), .int .i64 js'.half.gen, .slice A n c, .bool js'.off] ∧ Lst w A n js'.l ∧ Gs w w.heap.size A n js'.l ∧ js'.l.length = n := by
  obtain ⟨W, v, ss, base, h1, h2, h3, h4, h5, ⟨A, n, c, hb, hl⟩, _⟩ := h
  refine ⟨A, n, c, hb, ?_, hl.gs, hl.len⟩
  obtain ⟨ts, a1, a2, a3, _, _, _, a7⟩ := hl
  exact ⟨ts, a1, a2, a3, fun s hs => (a7 s hs).1⟩
theorem BW.ref (h : BW m w p g b q cap p' sb sc wb bs q' d js d' js') : ∃ X, IsR X w p' sb sc wb bs d' := by
  obtain ⟨W, v, ss, base, h1, h2, h3, h4, h5, _⟩ := h
  exact ⟨_, h5⟩
theorem BW.disk (h : BW m w p g b q cap p' sb sc wb bs q' d js d' js') : ∃ W, IsD w p g b W cap d := by
  obtain ⟨W, v, ss, base, h1, _⟩ := h
  exact ⟨_, h1⟩
end
end Go.Proofs.YthgfmoogagldmaaGreat.RefD
namespace Go.Proofs.YthgfmoogagldmaaGreat.RefD
open Go.RowKit Go.Shelf Disk Journal Go.Proofs.YthgfmoogagldmaaGreat.Frame
def PS (w wx : World) (p g b cap p' sb sc wb bs n k : Nat) (x y : Value) : Prop := ∃ q q' d js, x = .pointer (some ⟨q, 0, none⟩) ∧ y = .pointer (some ⟨q', 0, none⟩) ∧ BW w.heap.size wx p g b q cap p' sb sc wb bs q' d js d js ∧ PL d js n (1 + k) ∧ d.done ≤ 10 + 300000 * k ∧ js.l.length ≤ 300 + k ∧ Only [] w wx
section
variable {w w' wx : World} {p g b q cap p' sb sc wb bs q' n k m : Nat} {d d2 : DS} {js js2 : JS}
theorem app_len (d : DS) (js : JS) (l : List UInt8) : (appendJ d js l).2.1.l.length ≤ js.l.length + 1 := by
  unfold appendJ
  split
  · simp
  · simp only
    split
    · simp
    · simp
theorem res_len (d : DS) (js : JS) (l : List (List UInt8)) : (resetJ d js l).2.1.l.length ≤ js.l.length ∨ (resetJ d js l).2.1.l.length = l.length := by
  unfold resetJ
  split
  · exact .inl (Nat.le_refl _)
  · simp only
    split
    · exact .inr rfl
    · exact .inl (Nat.le_refl _)
theorem ready_len {gen : Int} {l : List (List UInt8)} (h : Ready d n gen l) (hn : n ≤ 200) : l.length ≤ 200 := by
  obtain ⟨_, b2, _⟩ := h.stands.laid
  have h1 := len_takes l
  unfold halfN at b2
  simp only at b2
  omega
theorem pl_half {G : Int} (h : PL d js n G) : ∃ gen, 1 ≤ gen ∧ gen ≤ G ∧ js.half.gen = gen ∧ js.half = Journal.halfD d js.half.gen ∧ js.half.room = roomD d := by
  obtain ⟨gen, h1, h2, h3⟩ := h.half
  have e : js.half.gen = gen := by rw [h3]; rfl
  have hn := h.n_
  refine ⟨gen, h1, h2, e, ?_, ?_⟩
  · rw [e, h3, halfD_eq, hn]
  · rw [h3]
    show ((n : Int) - 2) / 2 = _
    unfold roomD
    rw [hn]
theorem small_of (d : DS) (hd : 8 ≤ d.n ∧ d.n ≤ 200) {gen : Int} (hg : 0 ≤ gen ∧ gen ≤ 1000000) : (Journal.halfD d (gen + 1)).small := by
  unfold Half.small Journal.halfD roomD
  simp only
  have hm : (gen + 1) % 2 = 0 ∨ (gen + 1) % 2 = 1 := by omega
  rcases hm with hm | hm <;> rw [hm] <;> omega
theorem abv0 (ho : Only [] w wx) (h : Abv w.heap.size wx w') : Only [] w w' := ((Abv.of0 ho).trans h).only (Nat.le_refl _)
theorem ps_app1 (h : BW w.heap.size wx p g b q cap p' sb sc wb bs q' d js d js) (hn : 8 ≤ n ∧ n ≤ 200) (hk : k ≤ 100) (hP : PL d js n (1 + k)) (hdn : d.done ≤ 10 + 300000 * k) (hl : js.l.length ≤ 300 + k) (ho : Only [] w wx) (A : Option Addr) (c : Nat) (nb : Nat) (l : List UInt8) (hr : Bytes w w.heap.size A nb l) (hnb : nb ≤ 1000) (hc : nb ≤ c ∧ c ≤ maxLen) :
    Calls Tryz.prog 15 #[.pointer (some ⟨q, 0, none⟩), .slice A nb c] wx fun x w' => x = .returned (.int .i64 (appendJ d js l).2.2) ∧ BW w.heap.size w' p g b q cap p' sb sc wb bs q' (appendJ d js l).1 (appendJ d js l).2.1 d js ∧ Only [] w w' := by
  have hnn := hP.n_
  refine (h.append ho.size (by omega) A nb c l ((hr.only ho (by simp)).more ho.size) (by omega) hc.1 hc.2 (fun h k hk => bytes_lt hr h k hk) (by omega) (by omega)).mono ?_
  rintro x w' ⟨rfl, h1, h2⟩
  exact ⟨rfl, h1, abv0 ho h2⟩
theorem ps_app2 {dl : DS} {jl : JS} (h : BW w.heap.size wx p g b q cap p' sb sc wb bs q' dl jl d js) (hn : 8 ≤ n ∧ n ≤ 200) (hk : k ≤ 100) (hP : PL d js n (1 + k)) (hdn : d.done ≤ 10 + 300000 * k) (hl : js.l.length ≤ 300 + k) (ho : Only [] w wx) (A : Option Addr) (c : Nat) (nb : Nat) (l : List UInt8) (hr : Bytes w w.heap.size A nb l) (hnb : nb ≤ 1000) (hc : nb ≤ c ∧ c ≤ maxLen) (hdl : dl = (appendJ d js l).1) (hjl : jl = (appendJ d js l).2.1) :
    Calls Tryz.prog 26 #[.pointer (some ⟨q', 0, none⟩), .slice A nb c] wx fun x w' => x = .returned (.int .i64 (appendJ d js l).2.2) ∧ PS w w' p g b cap p' sb sc wb bs n (k + 1) (.pointer (some ⟨q, 0, none⟩)) (.pointer (some ⟨q', 0, none⟩)) := by
  subst hdl
  subst hjl
  have hnn := hP.n_
  obtain ⟨gen, g1, g2, g3, g4, g5⟩ := pl_half hP
  have hbl := hr.len
  refine (h.rappend (by omega) g4 (by omega) (by omega) A nb c l ((hr.only ho (by simp)).more ho.size) (by omega) hc.1 hc.2 (fun h k hk => bytes_lt hr h k hk) (by omega)).mono ?_
  rintro x w' ⟨rfl, h1, h2⟩
  have ha := app_len d js l
  have hd := app_done d js l
  have ht := takesB_1 (b := l) (by omega)
  exact ⟨rfl, q, q', _, _, rfl, rfl, h1, (hP.append hn.1 (by omega) (by omega) (by omega)).up (by push_cast; omega), by push_cast; omega, by omega, abv0 ho h2⟩
theorem ps_res1 (h : BW w.heap.size wx p g b q cap p' sb sc wb bs q' d js d js) (hn : 8 ≤ n ∧ n ≤ 200) (hk : k ≤ 100) (hP : PL d js n (1 + k)) (hdn : d.done ≤ 10 + 300000 * k) (hl : js.l.length ≤ 300 + k) (ho : Only [] w wx) (A : Option Addr) (c : Nat) (ts : List Sl) (hr : Reads w w.heap.size 1 A ts.length (ts.map Sl.val)) (he : ∀ s ∈ ts, Bytes w w.heap.size s.A s.n s.l ∧ s.n ≤ s.c ∧ s.c ≤ maxLen) (hs : ∀ s ∈ ts, s.n ≤ 1000) (hlen : ts.length ≤ 10) :
    Calls Tryz.prog 17 #[.pointer (some ⟨q, 0, none⟩), .slice A ts.length c] wx fun x w' => x = .returned (.int .i64 (resetJ d js (ts.map (·.l))).2.2) ∧ BW w.heap.size w' p g b q cap p' sb sc wb bs q' (resetJ d js (ts.map (·.l))).1 (resetJ d js (ts.map (·.l))).2.1 d js ∧ Only [] w w' := by
  have hnn := hP.n_
  obtain ⟨gen, g1, g2, g3, g4, g5⟩ := pl_half hP
  refine (h.reset ho.size (by omega) A ts.length c ts rfl ((hr.only ho (by simp)).more ho.size) (fun T hT s hm => ?_) (fun s hm => by have := hs s hm; omega) (by omega) (fun h k hk => reads_lt' hr h k hk) (by omega) g5 (by omega) (small_of d (by omega) (by omega))).mono ?_
  · obtain ⟨a1, a2, a3⟩ := he s hm
    exact ⟨(a1.only ho (by simp)).more ho.size, a2, a3, by have := hs s hm; omega, fun hn k hk hk2 => by have a := bytes_lt a1 hn k hk; have c := hT k hk2; omega⟩
  · rintro x w' ⟨rfl, h1, h2⟩
    exact ⟨rfl, h1, abv0 ho h2⟩
theorem ps_res2 {dl : DS} {jl : JS} (h : BW w.heap.size wx p g b q cap p' sb sc wb bs q' dl jl d js) (hn : 8 ≤ n ∧ n ≤ 200) (hk : k ≤ 100) (hP : PL d js n (1 + k)) (hdn : d.done ≤ 10 + 300000 * k) (hl : js.l.length ≤ 300 + k) (ho : Only [] w wx) (A : Option Addr) (c : Nat) (ts : List Sl) (hr : Reads w w.heap.size 1 A ts.length (ts.map Sl.val)) (he : ∀ s ∈ ts, Bytes w w.heap.size s.A s.n s.l ∧ s.n ≤ s.c ∧ s.c ≤ maxLen) (hs : ∀ s ∈ ts, s.n ≤ 1000) (hlen : ts.length ≤ 10) (hc : ts.length ≤ c ∧ c ≤ maxLen) (hdl : dl = (resetJ d js (ts.map (·.l))).1) (hjl : jl = (resetJ d js (ts.map (·.l))).2.1) :
    Calls Tryz.prog 27 #[.pointer (some ⟨q', 0, none⟩), .slice A ts.length c] wx fun x w' => x = .returned (.int .i64 (resetJ d js (ts.map (·.l))).2.2) ∧ PS w w' p g b cap p' sb sc wb bs n (k + 1) (.pointer (some ⟨q, 0, none⟩)) (.pointer (some ⟨q', 0, none⟩)) := by
  subst hdl
  subst hjl
  have hnn := hP.n_
  obtain ⟨gen, g1, g2, g3, g4, g5⟩ := pl_half hP
  refine (h.rreset (by omega) g4 (by omega) A ts.length c ts rfl ((hr.only ho (by simp)).more ho.size) hc (fun T hT s hm => ?_) (fun s hm => by have := hs s hm; omega) (by omega) (fun h k hk => reads_lt' hr h k hk) (by omega)).mono ?_
  · obtain ⟨a1, a2, a3⟩ := he s hm
    exact ⟨(a1.only ho (by simp)).more ho.size, a2, a3, by have := hs s hm; omega, fun hn k hk hk2 => by have a := bytes_lt a1 hn k hk; have c := hT k hk2; omega⟩
  · rintro x w' ⟨rfl, h1, h2⟩
    have ha := res_len d js (ts.map (·.l))
    rw [List.length_map] at ha
    have hd := res_done d js (ts.map (·.l))
    have ht := takesL_10 (l := ts.map (·.l)) (fun b hb => by
      obtain ⟨s, hm, rfl⟩ := List.mem_map.1 hb
      have a := (he s hm).1.len
      have c := hs s hm
      omega) (by rw [List.length_map]; exact hlen)
    exact ⟨rfl, q, q', _, _, rfl, rfl, h1, (hP.reset hn.1 (by omega) (by omega)).up (by push_cast; omega), by push_cast; omega, by omega, abv0 ho h2⟩
theorem ps_stop1 (h : BW w.heap.size wx p g b q cap p' sb sc wb bs q' d js d js) (ho : Only [] w wx) (a : Int) (ha : a ≤ 9223372036854775807) : Calls Tryz.prog 18 #[.pointer (some ⟨p, 0, none⟩), .int .i64 a] wx fun x w' => x = .returned (.tuple #[]) ∧ BW w.heap.size w' p g b q cap p' sb sc wb bs q' (stopD d a) js d js ∧ Only [] w w' := by
  refine (h.stop ho.size a ha).mono ?_
  rintro x w' ⟨rfl, h1, h2⟩
  exact ⟨rfl, h1, abv0 ho h2⟩
theorem ps_stop2 {dl : DS} (h : BW w.heap.size wx p g b q cap p' sb sc wb bs q' dl js d js) (hP : PL d js n (1 + k)) (hdn : d.done ≤ 10 + 300000 * k) (hl : js.l.length ≤ 300 + k) (ho : Only [] w wx) (a : Int) (ha : a ≤ 9223372036854775807) (hdl : dl = stopD d a) : Calls Tryz.prog 28 #[.pointer (some ⟨p', 0, none⟩), .int .i64 a] wx fun x w' => x = .returned (.tuple #[]) ∧ PS w w' p g b cap p' sb sc wb bs n (k + 1) (.pointer (some ⟨q, 0, none⟩)) (.pointer (some ⟨q', 0, none⟩)) := by
  subst hdl
  refine (h.rstop a ha).mono ?_
  rintro x w' ⟨rfl, h1, h2⟩
  have hd : (stopD d a).done = d.done := by unfold stopD; split <;> rfl
  exact ⟨rfl, q, q', _, _, rfl, rfl, h1, (hP.stop a).up (by push_cast; omega), by rw [hd]; push_cast; omega, by omega, abv0 ho h2⟩
def CS (w wx : World) (p g b cap p' sb sc wb bs n k q q' : Nat) (d : DS) (js : JS) (gen : Int) (l : List (List UInt8)) : Prop := BW w.heap.size wx p g b q cap p' sb sc wb bs q' d js d js ∧ Ready d n gen l ∧ d.off = false ∧ gen ≤ 1 + k ∧ d.done ≤ 10 + 300000 * k ∧ Only [] w wx
theorem ps_crash1 (h : BW w.heap.size wx p g b q cap p' sb sc wb bs q' d js d js) (ho : Only [] w wx) (A : Option Addr) (c : Nat) (fs : List Int) (hr : Reads w w.heap.size 1 A fs.length (fs.map (Value.int .i64))) (hn : fs.length ≤ 100) :
    Calls Tryz.prog 21 #[.pointer (some ⟨p, 0, none⟩), .slice A fs.length c] wx fun x w' => ∃ ks, waitsD d ks ∧ x = .returned (.tuple #[]) ∧ BW w.heap.size w' p g b q cap p' sb sc wb bs q' (crashD d fs ks) js d js ∧ Only [] w w' := by
  refine (h.crash ho.size A fs.length c fs rfl ((hr.only ho (by simp)).more ho.size) (by omega) (fun h k hk => reads_lt' hr h k hk)).mono ?_
  rintro x w' ⟨ks, h0, rfl, h1, h2⟩
  exact ⟨ks, h0, rfl, h1, abv0 ho h2⟩
theorem ps_crash2 {dl : DS} {ks : List Nat} (h : BW w.heap.size wx p g b q cap p' sb sc wb bs q' dl js d js) (hks : waitsD d ks) (fs : List Int) (hdl : dl = crashD d fs ks) (hP : PL d js n (1 + k)) (hdn : d.done ≤ 10 + 300000 * k) (ho : Only [] w wx) (A : Option Addr) (c : Nat) (hr : Reads w w.heap.size 1 A fs.length (fs.map (Value.int .i64))) (hn : fs.length ≤ 100) :
    Calls Tryz.prog 29 #[.pointer (some ⟨p', 0, none⟩), .slice A fs.length c] wx fun x w' => x = .returned (.tuple #[]) ∧ ∃ d2 gen l, CS w w' p g b cap p' sb sc wb bs n k q q' d2 js gen l := by
  subst hdl
  refine (h.rcrash A fs.length c fs rfl ((hr.only ho (by simp)).more ho.size) (by omega) (fun h k hk => reads_lt' hr h k hk)).mono ?_
  rintro x w' ⟨ks2, h0, rfl, h1, h2⟩
  obtain rfl := waitsD.uniq h0 hks
  obtain ⟨gen, l, hg, hR⟩ := hP.crash fs h0
  exact ⟨rfl, _, gen, l, h1, hR, rfl, hg, hdn, abv0 ho h2⟩
def OS1 (w wx : World) (p g b cap p' sb sc wb bs n k q q' : Nat) (d : DS) (js : JS) (u : Value) (e : Int) : Prop :=
  (∃ q2 js2 gen, u = .pointer (some ⟨q2, 0, none⟩) ∧ e = 0 ∧ BW w.heap.size wx p g b q2 cap p' sb sc wb bs q' d js2 d js ∧ openJ d = (d, some js2, 0) ∧ d.off = false ∧ 1 ≤ newestD d ∧ newestD d ≤ 1000000000 ∧ PL d js2 n (1 + k) ∧ js2.l.length ≤ 300 + k ∧ gen = (0 : Int)) ∨ (u = .pointer none ∧ e = 3 ∧ BW w.heap.size wx p g b q cap p' sb sc wb bs q' d js d js ∧ d.off = true ∧ PL d js n (1 + k) ∧ js.l.length ≤ 300 + k)
theorem ps_open1 (h : BW w.heap.size wx p g b q cap p' sb sc wb bs q' d js d js) (hn : 8 ≤ n ∧ n ≤ 200) (hk : k ≤ 100) (hdd : d.n = n) (hdn : d.done ≤ 10 + 300000 * k) (ho : Only [] w wx)
    (hcs : (PL d js n (1 + k) ∧ js.l.length ≤ 300 + k) ∨ ∃ gen l, Ready d n gen l ∧ gen ≤ 1 + k ∧ d.off = false) :
    Calls Tryz.prog 13 #[.pointer (some ⟨p, 0, none⟩)] wx fun x w' => ∃ u e, x = .returned (.tuple #[u, .int .i64 e]) ∧ OS1 w w' p g b cap p' sb sc wb bs n k q q' d js u e ∧ Only [] w w' := by
  have hc2 : (d.off = true ∧ openJ d = (d, none, 3) ∧ PL d js n (1 + k) ∧ js.l.length ≤ 300 + k ∧ newestD d ≤ 1000000000) ∨ (∃ js2, d.off = false ∧ openJ d = (d, some js2, 0) ∧ newestD d ≤ 1000000000 ∧ 1 ≤ newestD d ∧ PL d js2 n (1 + k) ∧ js2.l.length ≤ 300 + k) := by
    rcases hcs with ⟨hP, hl⟩ | ⟨gen, l, hR, hg, hoff⟩
    · rcases hP.open_ hn.1 (by omega) with ⟨h1, h2⟩ | ⟨h1, h2, h3, h4⟩
      · exact .inl ⟨h1, h2, hP, hl, hP.newest hn.1⟩
      · exact .inr ⟨js, h1, h2, h3, h4, hP, hl⟩
    · have hP := PL.of_ready hR hg
      have hlen := ready_len hR hn.2
      rcases hP.open_ hn.1 (by omega) with ⟨h1, _⟩ | ⟨h1, h2, h3, h4⟩
      · rw [hoff] at h1; cases h1
      · exact .inr ⟨_, h1, h2, h3, h4, hP, by show l.length ≤ _; omega⟩
  rcases hc2 with ⟨h1, h2, hP, hl, h3⟩ | ⟨js2, h1, h2, h3, h4, hP, hl⟩
  · refine (h.open_no ho.size (by omega) (by omega) (by omega) h2).mono ?_
    rintro x w' ⟨rfl, k1, k2⟩
    exact ⟨_, _, rfl, .inr ⟨rfl, rfl, k1, h1, hP, hl⟩, abv0 ho k2⟩
  · refine (h.open_ ho.size (by omega) (by omega) (by omega) h2).mono ?_
    rintro x w' ⟨q2, rfl, k1, k2⟩
    exact ⟨_, _, rfl, .inl ⟨q2, js2, 0, rfl, rfl, k1, h2, h1, h4, h3, hP, hl, rfl⟩, abv0 ho k2⟩
theorem ps_open2a {q2 : Nat} (h : BW w.heap.size wx p g b q2 cap p' sb sc wb bs q' d js2 d js) (hn : 8 ≤ n ∧ n ≤ 200) (hs : openJ d = (d, some js2, 0)) (hoff : d.off = false) (hg : 1 ≤ newestD d ∧ newestD d ≤ 1000000000) (hP : PL d js2 n (1 + k)) (hl : js2.l.length ≤ 300 + k) (hdn : d.done ≤ 10 + 300000 * k) (ho : Only [] w wx) :
    Calls Tryz.prog 25 #[.pointer (some ⟨p', 0, none⟩)] wx fun x w' => ∃ q3, x = .returned (.tuple #[.pointer (some ⟨q3, 0, none⟩), .int .i64 0]) ∧ PS w w' p g b cap p' sb sc wb bs n (k + 1) (.pointer (some ⟨q2, 0, none⟩)) (.pointer (some ⟨q3, 0, none⟩)) := by
  have hnn := hP.n_
  refine (h.ropen_ ho.size (by omega) hoff ⟨hg.1, by omega⟩ hs).mono ?_
  rintro x w' ⟨q3, rfl, k1, k2⟩
  exact ⟨q3, rfl, q2, q3, d, js2, rfl, rfl, k1, hP.up (by push_cast; omega), by push_cast; omega, by omega, abv0 ho k2⟩
theorem ps_open2b (h : BW w.heap.size wx p g b q cap p' sb sc wb bs q' d js d js) (hn : 8 ≤ n ∧ n ≤ 200) (hoff : d.off = true) (hP : PL d js n (1 + k)) (hl : js.l.length ≤ 300 + k) (hdn : d.done ≤ 10 + 300000 * k) (ho : Only [] w wx) :
    Calls Tryz.prog 25 #[.pointer (some ⟨p', 0, none⟩)] wx fun x w' => x = .returned (.tuple #[.pointer none, .int .i64 3]) ∧ PS w w' p g b cap p' sb sc wb bs n (k + 1) (.pointer (some ⟨q, 0, none⟩)) (.pointer (some ⟨q', 0, none⟩)) := by
  have hnn := hP.n_
  refine (h.ropen_no (by omega) hoff).mono ?_
  rintro x w' ⟨rfl, rfl⟩
  exact ⟨rfl, q, q', d, js, rfl, rfl, h, hP.up (by push_cast; omega), by push_cast; omega, by omega, ho⟩
theorem rd_any {W : List Nat} (h : IsD w p g b W cap d) (i : Int) : Calls Tryz.prog 86 #[.pointer (some ⟨p, 0, none⟩), .int .i64 i] w fun x w' => ∃ A n c, x = .returned (.tuple #[.slice A n c, .int .i64 (readE d i)]) ∧ Bytes w' w'.heap.size A n (rdD d i) ∧ Only [] w w' := by
  refine (read_any h i).mono ?_
  intro x w' hx
  unfold ReadO at hx
  unfold readE rdD
  by_cases e1 : d.off = true
  · rw [if_pos e1] at hx ⊢
    rw [if_pos e1]
    exact ⟨none, 0, 0, hx.1, Bytes.nil_, hx.2⟩
  · rw [if_neg e1] at hx ⊢
    rw [if_neg e1]
    by_cases e2 : 0 ≤ i ∧ i < d.n
    · rw [if_pos e2] at hx ⊢
      rw [if_pos e2]
      obtain ⟨q, c, h1, h2, h3, h4, h5, h6⟩ := hx
      obtain ⟨A', c', e, _, _, h7, _⟩ := h3.shape
      cases e
      exact ⟨_, _, _, h1, h7, h6⟩
    · rw [if_neg e2] at hx ⊢
      rw [if_neg e2]
      exact ⟨none, 0, 0, hx.1, Bytes.nil_, hx.2⟩
set_option maxHeartbeats 2000000 in
theorem readL_any {W X : List Nat} (hd : IsD w p g b W cap d) (hr : IsR X w p' sb sc wb bs d) (i : Int) : Calls Tryz.prog 35 #[.pointer (some ⟨p, 0, none⟩), .pointer (some ⟨p', 0, none⟩), .int .i64 i] w fun x w' => x = .returned (.bool true) ∧ Only [] w w' := by
  have H1 := Lib.hid (rd_any hd i)
  have H2 := Lib.hid (fun (wx : World) (ho : Only [] w wx) => rread_any (hr.only0 ho) i)
  have HM := Lib.hid (fun z w => num6_any z w)
  clear hd hr
  obtain ⟨L, hL⟩ : ∃ L, rdD d i = L := ⟨_, rfl⟩
  obtain ⟨E, hE⟩ : ∃ E, readE d i = E := ⟨_, rfl⟩
  rw [hL, hE] at H1 H2
  have e0 : (E == E) = true := by simp
  clear hL hE
  go_enter Tryz.func35, Tryz.ntmps35
  go_wp2_with (first
    | (go_at_call 86; refine H1.out.mono ?_; rintro x w2 ⟨A1, n1, c1, rfl, hb1, ho2⟩; have HB1 := Lib.hid hb1; have HO2 := Lib.hid ho2; clear hb1 ho2)
    | (go_at_call 76; refine (H2.out _ HO2.out).mono ?_; rintro x w3 ⟨v3, n3, rfl, hown3, ho3⟩; obtain ⟨A3, c3, rfl, _, _, hb3, _⟩ := hown3.shape; have HO3 := Lib.hid (HO2.out.trans ho3 (by simp)); have s1 := run_str (HB1.out.only ho3 (by simp)) c1; have s3 := run_str hb3 c3; clear hown3 hb3 ho3)
    | (go_at_call 14; refine (HM.out _ _).mono ?_; rintro x wn ⟨rfl, hwn⟩; have hwn := hwn.symm; subst hwn))
  go_ret
  exact ⟨rfl, HO3.out⟩
end
end Go.Proofs.YthgfmoogagldmaaGreat.RefD
namespace Go.Proofs.YthgfmoogagldmaaGreat.RefD
open Go.RowKit Go.Shelf Disk Journal Go.Proofs.YthgfmoogagldmaaGreat.Frame
def S1 (w wx : World) (p g b cap p' sb sc wb bs n q : Nat) : Prop := ∃ W v ss base D, IsD wx p g b W cap D ∧ IsJ wx p g b q base ⟨halfN n 1, [], false⟩ v ss ∧ (∀ k ∈ W, k ∉ q :: ownL v) ∧ base ≤ wx.heap.size ∧ IsR (JT p g b q v) wx p' sb sc wb bs (newD n) ∧
  (∀ k ∈ JT p g b q v, k ∉ [p', sb, wb] ∧ w.heap.size ≤ k) ∧ (∀ k ∈ W, k ∉ [p', sb, wb]) ∧ (∀ k ∈ [p', sb, wb], w.heap.size ≤ k) ∧ openJ (newD n) = (D, some ⟨halfN n 1, [], false⟩, 0) ∧ Ready D n 1 [] ∧ D.done ≤ 10 ∧ Only [] w wx
section
variable {w w1 w2 w' wx : World} {p g b q cap p' sb sc wb bs q' n k m : Nat} {d d2 : DS} {js js2 : JS}
theorem start1 (hn : 8 ≤ n ∧ n ≤ 200) (hd : IsD w1 p g b [] cap (newD n)) (hp : w.heap.size ≤ p ∧ w.heap.size ≤ g ∧ w.heap.size ≤ b) (ho1 : Only [] w w1) (hr : IsR [p, g, b] w2 p' sb sc wb bs (newD n)) (hq : w1.heap.size ≤ p' ∧ w1.heap.size ≤ sb ∧ w1.heap.size ≤ wb) (ho2 : Only [] w1 w2) :
    Calls Tryz.prog 13 #[.pointer (some ⟨p, 0, none⟩)] w2 fun x w' => ∃ q, x = .returned (.tuple #[.pointer (some ⟨q, 0, none⟩), .int .i64 0]) ∧ S1 w w' p g b cap p' sb sc wb bs n q := by
  obtain ⟨D, k1, k2, k3, k4, k5, k6, k7, k8⟩ := open_new n hn.1 (by omega)
  have hg0 : newestD (newD n) ≤ 4611686018427387000 := by
    obtain ⟨_, _, _, _, h, _⟩ := new_chain n hn.1 (by omega)
    rw [h]
    decide
  have hd2 := hd.only0 ho2
  have hlt : p < w1.heap.size ∧ g < w1.heap.size ∧ b < w1.heap.size := by
    have e2 := hd.blk.lt
    obtain ⟨C, c1, _⟩ := hd.safe
    have e3 := c1.lt
    have e4 := isD_map_lt hd
    omega
  have hlr := hr.lt3
  have h12 := ho2.size
  have h01 := ho1.size
  refine (open_any hd2 (by show n ≤ _; omega) hg0 (by show (0 : Int) ≤ _; decide)).mono ?_
  intro x w' hx
  rw [k1] at hx
  rcases hx with ⟨h1', _⟩ | ⟨js'', q2, v, ss, W, e0, rfl, e2, e3, e4, e5, e6, e7, e8⟩
  · cases h1'
  · cases e0
    have hsz := e5.size
    have hJ : ∀ k ∈ JT p g b q2 v, k ∈ [p, g, b] ∨ w2.heap.size ≤ k := fun k hk => by
      unfold JT at hk
      simp only [List.mem_cons] at hk
      rcases hk with e | e | e | e | e
      · exact .inl (by simp [e])
      · exact .inl (by simp [e])
      · exact .inl (by simp [e])
      · exact .inr (by omega)
      · exact .inr (e6.own.lt k e).1
    have hx3 : ∀ k ∈ [p', sb, wb], w1.heap.size ≤ k := fun k hk => by simp at hk; omega
    have hp3 : ∀ k ∈ [p, g, b], w.heap.size ≤ k ∧ k < w1.heap.size := fun k hk => by simp at hk; omega
    refine ⟨q2, rfl, W, v, ss, w2.heap.size, D, e3, e6, e8, hsz, hr.turn e5 ⟨fun h => ?_, fun h => ?_, fun h => ?_⟩ (fun k hk => .inl hk) hJ (jt_lt e3 e6), fun k hk => ⟨fun hm => ?_, ?_⟩, fun k hk hm => ?_, fun k hk => Nat.le_trans h01 (hx3 k hk), k1, ⟨k2, k3, k4, k8⟩, by omega, ((ho1.trans ho2 (by simp)).mono (S' := [p, g, b]) (by simp)).trans e5 (fun k hk => .inl hk) |>.mono (fun k hk => .inr (hp3 k hk).1)⟩
    · have := (hp3 p' h).2; have := hx3 p' (by simp); omega
    · have := (hp3 sb h).2; have := hx3 sb (by simp); omega
    · have := (hp3 wb h).2; have := hx3 wb (by simp); omega
    · have a := hx3 k hm
      have c := hlr k hm
      rcases hJ k hk with h | h
      · have := (hp3 k h).2; omega
      · omega
    · rcases hJ k hk with h | h
      · exact (hp3 k h).1
      · omega
    · have c := hlr k hm
      rcases e4 k hk with h | h
      · cases h
      · omega
theorem start2 (hn : 8 ≤ n ∧ n ≤ 200) (h : S1 w wx p g b cap p' sb sc wb bs n q) :
    Calls Tryz.prog 25 #[.pointer (some ⟨p', 0, none⟩)] wx fun x w' => ∃ q', x = .returned (.tuple #[.pointer (some ⟨q', 0, none⟩), .int .i64 0]) ∧ PS w w' p g b cap p' sb sc wb bs n 0 (.pointer (some ⟨q, 0, none⟩)) (.pointer (some ⟨q', 0, none⟩)) := by
  obtain ⟨W, v, ss, base, D, h1, h2, h3, h4, h5, h6, h7, h8, h9, h10, h11, h12⟩ := h
  refine (ropen_new (n0 := n) h5 (by show 8 ≤ n; exact hn.1) rfl rfl).mono ?_
  intro x w' hx
  rw [h9] at hx
  obtain ⟨q2, js3, rfl, e3, k2, k3, k4, k5⟩ := hx
  injection e3 with e3
  subst e3
  have hsz := k5.size
  have h0 := h12.size
  have hss : ss = [] := List.map_eq_nil_iff.1 h2.l
  have hnot : ∀ k, k < wx.heap.size → k ∉ [p', sb, wb] → k ∉ [p', sb, wb, q2] := fun k hk h hm => by
    simp at hm h
    omega
  have hP : PL D ⟨halfN n 1, [], false⟩ n (1 + ((0 : Nat) : Int)) := PL.of_ready h10 (by omega)
  refine ⟨q2, rfl, q, q2, D, _, rfl, rfl, ⟨W, v, ss, base, h1.only k5 ⟨(h6 p (by simp [JT])).1, (h6 g (by simp [JT])).1, (h6 b (by simp [JT])).1⟩ h7, IsJ.apart h2 k5 (fun k hk => (h6 k hk).1) (by rw [hss]; simp), h3, Nat.le_trans h4 hsz, k4, ?_,
    fun k hk => ⟨hnot k (jt_lt h1 h2 k hk) (h6 k hk).1, (h6 k hk).2⟩, fun k hk => hnot k (h1.low k hk) (h7 k hk), by rw [hss]; simp, fun k hk => ?_⟩, hP, by push_cast; omega, by simp, (h12.mono (S' := [p', sb, wb]) (by simp)).trans k5 (fun k hk => .inl hk) |>.mono (fun k hk => .inr (h8 k hk))⟩
  · obtain ⟨A, n, c, hb, hl⟩ := k3
    refine ⟨A, n, c, hb, hl.only (Only.refl [] w') (by simp) (fun k hk => .inl ?_)⟩
    simp only [List.mem_cons] at hk
    rcases hk with e | e | e | e | e | e <;> simp [e]
  · simp only [List.mem_cons, List.not_mem_nil, or_false] at hk
    have hl3 := k4.lt3
    rcases hk with e | e | e | e
    · exact ⟨h8 k (by simp [e]), hl3 k (by simp [e])⟩
    · exact ⟨h8 k (by simp [e]), hl3 k (by simp [e])⟩
    · exact ⟨h8 k (by simp [e]), hl3 k (by simp [e])⟩
    · subst e
      exact ⟨by omega, k4.xlt k (by simp)⟩
theorem PS.next {x y : Value} (h : PS w wx p g b cap p' sb sc wb bs n k x y) : PS w wx p g b cap p' sb sc wb bs n (k + 1) x y := by
  obtain ⟨q, q', d, js, rfl, rfl, h1, h2, h3, h4, h5⟩ := h
  exact ⟨q, q', d, js, rfl, rfl, h1, h2.up (by push_cast; omega), by push_cast; omega, by omega, h5⟩
end
end Go.Proofs.YthgfmoogagldmaaGreat.RefD
