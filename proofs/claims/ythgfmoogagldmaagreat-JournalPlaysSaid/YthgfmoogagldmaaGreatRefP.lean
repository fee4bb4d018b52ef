/- RefP: The document's journal: Append; The document's journal: Append, the answers; The document's journal: Append, whole. -/
import Derived.Test.YthgfmoogagldmaaGreatRanges
import Derived.Test.YthgfmoogagldmaaGreatRefO
import Derived.Test.YthgfmoogagldmaaGreatJWalk13q
set_option linter.unusedVariables false
set_option maxRecDepth 100000
namespace Go.Proofs.YthgfmoogagldmaaGreat.RefD
open Go.RowKit Go.Shelf Disk Journal Go.Proofs.YthgfmoogagldmaaGreat.Frame
theorem rows_empty (w : World) (base : Nat) (h : base ≤ w.heap.size) : OwnR 35 1 (w.alloc (.cells #[] 35)) base (.slice (some ⟨w.heap.size, 0, none⟩) 0 0) 0 [] :=
  ⟨rfl, by simp, World.ownsRow_lit w #[] 0 h (by simp) rfl⟩
def RAct (X : List Nat) (w : World) (p sb sc wb base q : Nat) (r : DS × JS × Int) (x : Ending) (w' : World) : Prop :=
  x = .returned (.int .i64 r.2.2) ∧ IsRJ X w' p sb wb q r.2.1 ∧ IsR X w' p sb sc wb base r.1 ∧ Only [p, sb, wb, q] w w'
section
variable {w w' wr : World} {p sb sc wb base q n c : Nat} {d : DS} {X S T T' : List Nat} {A : Option Addr} {l : List UInt8} {ls : List (List UInt8)} {js : JS}
theorem LR.len (h : LR w T A n c ls) : ls.length = n := by
  obtain ⟨ss, h1, _, h3, _⟩ := h
  rw [← h3, List.length_map, h1]
theorem LR.light (h : LR w T A n c ls) : ∀ b ∈ ls, b.length ≤ 1048576 := by
  obtain ⟨ss, h1, _, h3, _, _, _, h7⟩ := h
  rw [← h3]
  exact h7.light
theorem LR.maxi (h : LR w T A n c ls) : n ≤ c ∧ c ≤ maxLen := by
  obtain ⟨ss, _, _, _, h4, h5, _⟩ := h
  exact ⟨h4, h5⟩
theorem LR.snoc {w3 : World} {ss : List Sl} {x : Sl} {A' : Option Addr} {c' : Nat} (h7 : Held w T ss) (hl : ss.map (·.l) = ls) (ho : Only [] w w3) (hT : ∀ k ∈ T, k < w.heap.size) (hx : Bytes w3 w3.heap.size x.A x.n x.l) (h1 : x.n ≤ x.c) (h2 : x.c ≤ maxLen) (h3 : x.n ≤ 1048576) (hxf : ∀ k ∈ blkOf x.A, w.heap.size ≤ k)
    (hown : OwnR 35 1 w3 w.heap.size (.slice A' (ss ++ [x]).length c') (ss ++ [x]).length ((ss.map fun s => [s.val]) ++ [[x.val]])) : LR w3 T A' (ss ++ [x]).length c' (ls ++ [x.l]) := by
  obtain ⟨A2, cap, he, hc1, hc2, _, hA⟩ := hown.shape (by decide)
  injection he with e1 _ e2
  subst e1
  subst e2
  rw [show (ss.map fun s => [s.val]) ++ [[x.val]] = (ss ++ [x]).map fun s => [s.val] from by rw [List.map_append]; rfl] at hown
  refine ⟨ss ++ [x], rfl, reads_own hown rfl, by rw [List.map_append, hl]; rfl, hc1, hc2, fun _ k hk hm => ?_, fun s hs => ?_⟩
  · have h5 := hT k hm
    rcases hA with ⟨rfl, _⟩ | ⟨g, rfl, h6, _⟩
    · cases hk
    · simp [blkOf] at hk
      omega
  · rcases List.mem_append.1 hs with hs | hs
    · exact h7.only ho (by simp) (fun k hk => .inl hk) s hs
    · rw [List.mem_singleton.1 hs]
      exact ⟨hx, h1, h2, h3, fun _ k hk hm => by have a := hT k hm; have b := hxf k hk; omega⟩
theorem IsR.put1 (h : IsR X w p sb sc wb base d) (hq : q ∉ [p, sb, wb]) (hX : q ∈ X) {o : Nat} (v : Value) : IsR X (w.setCell ⟨q, o, none⟩ v) p sb sc wb base d ∧ Only [q] w (w.setCell ⟨q, o, none⟩ v) := by
  have hset : Only [q] w (w.setCell ⟨q, o, none⟩ v) := (Only.refl [q] w).setCell (p := ⟨q, o, none⟩) (.inl (by simp)) _
  refine ⟨h.turn hset ?_ (fun k hk => .inl (by rw [List.mem_singleton.1 hk]; exact hX)) (fun k hk => .inl hk) (fun k hk => Nat.lt_of_lt_of_le (h.xlt k hk) hset.size), hset⟩
  simp only [List.mem_cons, not_or, List.not_mem_nil, not_false_eq_true, and_true] at hq ⊢
  exact ⟨fun e => hq.1 e.symm, fun e => hq.2.1 e.symm, fun e => hq.2.2 e.symm⟩
theorem IsR.drew (h : IsR X w p sb sc wb base d) : IsR X w.drew p sb sc wb base d := h.only0 (Only.refl [] w).drew
theorem only4 {w w' : World} (h : Only [p, sb, wb] w w') : Only [p, sb, wb, q] w w' := h.mono (fun k hk => .inl (by simp at hk ⊢; omega))
theorem appR {d : DS} {js : JS} {l : List UInt8} (hre : refuseJ js [l] (js.half.room - usedJ js) = 0) {D1 D2 D3 D4 : DS} {b1 b2 b3 b4 : Bool} (hW : writeR d js.half (usedJ js) js.l.length l false true = (D1, b1)) (hS : synD D1 = (D2, b2))
    (hM : wrD D2 (js.half.fr + usedJ js) (putB (markH js.half js.l.length l)) = (D3, b3)) (hS2 : synD D3 = (D4, b4)) :
    appendJ d js l = if b1 = false then (D1, { js with off := true }, 3) else if b2 = false then (D2, { js with off := true }, 3) else if b3 = false then (D3, { js with off := true }, 3) else if b4 = false then (D4, { js with off := true }, 3) else (D4, { js with l := js.l ++ [l] }, 0) := by
  unfold appendJ
  rw [if_neg (by rw [hre]; decide)]
  simp only
  have e0 : andThen (packH d js.half (usedJ js) l) (fun x => zeroH x js.half (usedJ js + takesB l)) = (D1, b1) := by
    rw [← hW]
    unfold writeR
    rw [if_neg (by decide)]
    unfold andThen
    simp
  rw [e0]
  cases b1 with
  | false => simp [andThen]
  | true =>
    have e1 : andThen ((D1, true) : DS × Bool) synD = (D2, b2) := by unfold andThen; rw [if_pos rfl, hS]
    rw [e1]
    cases b2 with
    | false => simp [andThen]
    | true =>
      have e2 : andThen ((D2, true) : DS × Bool) (fun x => wrD x (js.half.fr + usedJ js) (putB (markH js.half js.l.length l))) = (D3, b3) := by unfold andThen; rw [if_pos rfl]; exact hM
      rw [e2]
      cases b3 with
      | false => simp [andThen]
      | true =>
        have e3 : andThen ((D3, true) : DS × Bool) synD = (D4, b4) := by unfold andThen; rw [if_pos rfl, hS2]
        rw [e3]
        cases b4 <;> simp
theorem writeR_done (d : DS) (h : Half) (a seq : Int) (l : List UInt8) (mk last : Bool) : (writeR d h a seq l mk last).1.done ≤ d.done + (takesB l + 2) ∧ (writeR d h a seq l mk last).1.n = d.n := by
  have hw := wr_done d (h.fr + a) (putB (markH h seq l))
  have hwn := wrD_n d (h.fr + a) (putB (markH h seq l))
  obtain ⟨⟨D1, b1⟩, e1⟩ : ∃ r, (if mk = true then wrD d (h.fr + a) (putB (markH h seq l)) else (d, true)) = r := ⟨_, rfl⟩
  have k1 : D1.done ≤ d.done + 1 ∧ D1.n = d.n := by
    cases mk with
    | true => rw [if_pos rfl] at e1; rw [e1] at hw hwn; exact ⟨hw.1, hwn⟩
    | false => rw [if_neg (by decide)] at e1; injection e1 with e1 _; rw [← e1]; exact ⟨by omega, rfl⟩
  have hp := packH_done D1 h a l
  have hpn : (packH D1 h a l).1.n = D1.n := putsD_n _ _ _
  unfold writeR
  rw [e1]
  unfold andThen
  have htp := takesB_pos l
  cases b1 with
  | false => simp; omega
  | true =>
    simp only [if_true]
    obtain ⟨⟨D2, b2⟩, e2⟩ : ∃ r, packH D1 h a l = r := ⟨_, rfl⟩
    rw [e2] at hp hpn ⊢
    simp only at hp hpn ⊢
    have hz := zero_done D2 h (a + takesB l)
    have hzn : (zeroH D2 h (a + takesB l)).1.n = D2.n := by
      unfold zeroH
      split
      · rfl
      · exact wrD_n _ _ _
    cases b2 with
    | false => simp; omega
    | true =>
      cases last with
      | true => simp only [if_true]; omega
      | false => simp; omega
set_option maxHeartbeats 2000000 in
theorem rjapp_off (hd : IsR X w p sb sc wb base d) (h8 : 8 ≤ d.n) (hj : IsRJ X w p sb wb q js) (hqX : q ∈ X) (hh : js.half = halfD d js.half.gen) (hg : 0 ≤ js.half.gen ∧ js.half.gen ≤ 4611686018427387904) (hll : js.l.length ≤ 100000) (A : Option Addr) (n c : Nat) (l : List UInt8) (hb : Bytes w w.heap.size A n l) (hn : n ≤ 2000) (hnc : n ≤ c) (hcm : c ≤ maxLen) (hfar : 0 < n → ∀ k ∈ blkOf A, k ∉ q :: p :: sb :: wb :: X) (hdn : d.done ≤ 4611686018427300000) (ho : js.off = true) :
    Calls Tryz.prog 26 #[.pointer (some ⟨q, 0, none⟩), .slice A n c] w fun x w' => RAct X w p sb sc wb base q (appendJ d js l) x w' := by
  have hr : appendJ d js l = (d, js, 3) := by
    have : refuseJ js [l] (js.half.room - usedJ js) = 3 := by unfold refuseJ; rw [if_pos ho]
    unfold appendJ
    rw [if_pos (by rw [this]; decide), this]
  rw [hr]
  have hj2 := hj
  obtain ⟨A0, n0, c0, hjb, hjl⟩ := hj
  have cq3 := hjb.cell 3
  have e1 : js.off = true := ho
  have cq4 : w.cell? ⟨q, 3, none⟩ = some (.bool true) := by rw [← ho]; exact cq3
  have HF : Hid (RAct X w p sb sc wb base q (d, js, 3) (.returned (.int .i64 3)) w) := Lib.hid ⟨rfl, hj2, hd, Only.refl _ _⟩
  clear hd hj2 hjb hjl hb hfar ho hh cq3 e1 hr
  go_enter Tryz.func26, Tryz.ntmps26
  go_wp2_with fail
  go_ret
  exact HF.out
set_option maxHeartbeats 4000000 in
theorem rjapp_full (hd : IsR X w p sb sc wb base d) (h8 : 8 ≤ d.n) (hj : IsRJ X w p sb wb q js) (hqX : q ∈ X) (hh : js.half = halfD d js.half.gen) (hg : 0 ≤ js.half.gen ∧ js.half.gen ≤ 4611686018427387904) (hll : js.l.length ≤ 100000) (A : Option Addr) (n c : Nat) (l : List UInt8) (hb : Bytes w w.heap.size A n l) (hn : n ≤ 2000) (hnc : n ≤ c) (hcm : c ≤ maxLen) (hfar : 0 < n → ∀ k ∈ blkOf A, k ∉ q :: p :: sb :: wb :: X) (hdn : d.done ≤ 4611686018427300000) (ho : js.off = false) (hre : refuseJ js [l] (js.half.room - usedJ js) ≠ 0) :
    Calls Tryz.prog 26 #[.pointer (some ⟨q, 0, none⟩), .slice A n c] w fun x w' => RAct X w p sb sc wb base q (appendJ d js l) x w' := by
  have hbl0 := hb.len
  have hno : ¬ ∃ b ∈ [l], 1048576 < b.length := by
    rintro ⟨b, hm, h1⟩
    rw [List.mem_singleton.1 hm] at h1
    omega
  have hlt : js.half.room - usedJ js < takesB l := by
    refine Classical.byContradiction fun hc => hre ?_
    unfold refuseJ
    rw [if_neg (by rw [ho]; decide), if_neg hno, if_neg (by rw [takesL_cons, takesL_nil]; omega)]
  have hr2 : refuseJ js [l] (js.half.room - usedJ js) = 2 := by
    unfold refuseJ
    rw [if_neg (by rw [ho]; decide), if_neg hno, if_pos (by rw [takesL_cons, takesL_nil]; omega)]
  have hr : appendJ d js l = (d, js, 2) := by
    unfold appendJ
    rw [if_pos hre, hr2]
  rw [hr]
  have HFF : Hid (∀ wx, Only [] w wx → RAct X w p sb sc wb base q (d, js, 2) (.returned (.int .i64 2)) wx) := Lib.hid (fun wx ho => ⟨rfl, hj.only ho (by simp) (by simp) (fun k hk => .inl hk), hd.only0 ho, ho.mono (by simp)⟩)
  obtain ⟨A0, n0, c0, hjb, hjl⟩ := hj
  have hqf := hd.far hjb (by decide) (by decide)
  have cq0 := hjb.cell 0
  have cq1 := hjb.cell 1
  have cq2 := hjb.cell 2
  have cq3 := hjb.cell 3
  have hll0 := hjl.len
  have hlig := hjl.light
  have hmx := hjl.maxi
  have HTK := Lib.hid (rtakes_any A0 n0 c0 _ js.l w hjl.gs (by omega))
  have hRO := rroom_any hd.drew (by omega)
  have hroom : js.half.room = roomD d := by rw [hh]; rfl
  have hbl := hb.len
  have htb : takesB l = 1 + needZ (n : Int) := by unfold takesB; rw [hbl]
  have hnz : 0 ≤ needZ (n : Int) ∧ needZ (n : Int) ≤ 32 := by unfold needZ; split <;> omega
  have hr0 : 0 ≤ roomD d ∧ roomD d ≤ 40000 := by have := hd.n0; unfold roomD; omega
  have hul := takesL_le js.l.length js.l hlig (Nat.le_refl _)
  rw [List.take_of_length_le (Nat.le_refl _)] at hul
  have hfrr : 0 ≤ js.half.fr ∧ js.half.fr ≤ 50000 := by
    rw [hh]
    have hn1 := hd.n0
    unfold halfD roomD
    simp only
    have hm : js.half.gen % 2 = 0 ∨ js.half.gen % 2 = 1 := by omega
    rcases hm with hm | hm <;> rw [hm] <;> omega
  have HD := Lib.hid hd
  have HJB := Lib.hid hjb
  have HJL := Lib.hid hjl
  have HQF := Lib.hid hqf
  have HN8 := Lib.hid h8
  have HHF := Lib.hid hh
  have HB := Lib.hid hb
  have HNE := Lib.hid (fun w => rneed_int (n : Int) w (by omega) (by omega))
  rw [ho] at cq3
  have HRO := Lib.hid hRO
  obtain ⟨U, hU⟩ : ∃ U, takesL js.l = U := ⟨_, rfl⟩
  have hUJ : usedJ js = U := hU
  rw [hU] at HTK hul
  rw [hUJ] at hlt
  obtain ⟨z, hz⟩ : ∃ z, needZ (n : Int) = z := ⟨_, rfl⟩
  rw [hz] at HNE htb hnz
  rw [htb] at hlt
  obtain ⟨room, hrm⟩ : ∃ r, roomD d = r := ⟨_, rfl⟩
  rw [hrm] at HRO hroom hr0
  rw [hroom] at hlt
  obtain ⟨gen, hgn⟩ : ∃ g, js.half.gen = g := ⟨_, rfl⟩
  rw [hgn] at cq1
  obtain ⟨full, hfull⟩ : ∃ b, decide (room < U + 1 + z) = b := ⟨_, rfl⟩
  have hft : full = true := by rw [← hfull]; exact decide_eq_true (by omega)
  have hk1 : IntKind.i64.wrap (U + 1) = U + 1 := by rw [IntKind.wrap_i64]; omega
  have hk2 : IntKind.i64.wrap (U + 1 + z) = U + 1 + z := by rw [IntKind.wrap_i64]; omega
  have e5 : decide ((1048576 : Int) < (n : Int)) = false := decide_eq_false (by omega)
  have e5' : decide (1048576 < n) = false := decide_eq_false (by omega)
  clear hd hjb hjl hqf h8 hh hb hbl htb hul hlt hr hr2 hno hre hlig hroom hU hUJ hz hrm hgn hRO ho hmx hll0 hfar hll hfrr
  go_enter Tryz.func26, Tryz.ntmps26
  go_wp2_with (first
    | (go_at_call 32; refine HTK.out.mono ?_; rintro x wx ⟨rfl, hwx⟩; have hwx := hwx.symm; subst hwx))
  have hS : w.drew.cell? ⟨q, 0, none⟩ = some (.pointer (some ⟨p, 0, none⟩)) ∧ w.drew.cell? ⟨q, 1, none⟩ = some (.int .i64 gen) ∧ w.drew.cell? ⟨q, 2, none⟩ = some (.slice A0 n0 c0) := ⟨cq0, cq1, cq2⟩
  refine wp_region_hand (S := fun Y => Y.cell? ⟨q, 0, none⟩ = some (.pointer (some ⟨p, 0, none⟩)) ∧ Y.cell? ⟨q, 1, none⟩ = some (.int .i64 gen) ∧ Y.cell? ⟨q, 2, none⟩ = some (.slice A0 n0 c0)) (by kernel_rfl) ?_
  refine takeV 0 (.int .i64 U) rfl rfl (by kernel_rfl) (fun Y hY => by obtain ⟨y0, y1, y2⟩ := hY; go_simp) hS ?_; simp only [s0A, s0B, s0C]
  refine takeV 1 (.int .i64 (U + 1)) rfl rfl (by kernel_rfl) (fun Y hY => by obtain ⟨y0, y1, y2⟩ := hY; go_simp) hS ?_; simp only [s0A, s0B, s0C]
  refine takeV 2 (.slice A n c) rfl rfl (by kernel_rfl) (fun Y hY => by obtain ⟨y0, y1, y2⟩ := hY; go_simp) hS ?_; simp only [s0A, s0B, s0C]
  refine takeV 3 (.int .i64 n) rfl rfl (by kernel_rfl) (fun Y hY => by obtain ⟨y0, y1, y2⟩ := hY; go_simp) hS ?_; simp only [s0A, s0B, s0C]
  refine takeV 6 (.pointer (some ⟨q, 0, none⟩)) rfl rfl (by kernel_rfl) (fun Y hY => by obtain ⟨y0, y1, y2⟩ := hY; go_simp) hS ?_; simp only [s0A, s0B, s0C]
  refine takeV 7 (.pointer (some ⟨q, 0, none⟩)) rfl rfl (by kernel_rfl) (fun Y hY => by obtain ⟨y0, y1, y2⟩ := hY; go_simp) hS ?_; simp only [s0A, s0B, s0C]
  refine takeV 8 (.pointer (some ⟨q, 0, none⟩)) rfl rfl (by kernel_rfl) (fun Y hY => by obtain ⟨y0, y1, y2⟩ := hY; go_simp) hS ?_; simp only [s0A, s0B, s0C]
  refine takeV 9 (.pointer (some ⟨p, 0, none⟩)) rfl rfl (by kernel_rfl) (fun Y hY => by obtain ⟨y0, y1, y2⟩ := hY; go_simp) hS ?_; simp only [s0A, s0B, s0C]
  refine callW (i := 4) rfl (by kernel_rfl) rfl (by rfl) ?_ (HNE.out _) ?_
  · go_simp
  rintro x w2 ⟨rfl, hw2⟩
  subst hw2
  refine ⟨_, rfl, hS, ?_⟩
  simp only [s0A, s0B, s0C]
  refine takeV 5 (.int .i64 (U + 1 + z)) rfl rfl (by kernel_rfl) (fun Y hY => by obtain ⟨y0, y1, y2⟩ := hY; go_simp) hS ?_; simp only [s0A, s0B, s0C]
  refine callW (i := 10) rfl (by kernel_rfl) rfl (by rfl) ?_ (HRO.out) ?_
  · go_simp
  rintro x w2 ⟨rfl, hw2⟩
  have hw2 := hw2.symm
  subst hw2
  refine ⟨_, rfl, hS, ?_⟩
  simp only [s0A, s0B, s0C]
  refine takeV 11 (.bool full) rfl rfl (by kernel_rfl) (fun Y hY => by obtain ⟨y0, y1, y2⟩ := hY; go_simp) hS ?_; simp only [s0A, s0B, s0C]
  refine wpAnyH_done (by kernel_rfl) ?_ _
  clear hS
  subst hft
  go_wp2_with fail
  go_ret
  exact HFF.out _ (Only.refl [] w).drew
end
end Go.Proofs.YthgfmoogagldmaaGreat.RefD
namespace Go.Proofs.YthgfmoogagldmaaGreat.RefD
open Go.RowKit Go.Shelf Disk Journal Go.Proofs.YthgfmoogagldmaaGreat.Frame
section
variable {w w' wr : World} {p sb sc wb base q n c : Nat} {d : DS} {X S T T' : List Nat} {A : Option Addr} {l : List UInt8} {ls : List (List UInt8)} {js : JS}
set_option maxHeartbeats 8000000 in
theorem rjapp_ok (hd : IsR X w p sb sc wb base d) (h8 : 8 ≤ d.n) (hj : IsRJ X w p sb wb q js) (hqX : q ∈ X) (hh : js.half = halfD d js.half.gen) (hg : 0 ≤ js.half.gen ∧ js.half.gen ≤ 4611686018427387904) (hll : js.l.length ≤ 100000) (A : Option Addr) (n c : Nat) (l : List UInt8) (hb : Bytes w w.heap.size A n l) (hn : n ≤ 2000) (hnc : n ≤ c) (hcm : c ≤ maxLen) (hfar : 0 < n → ∀ k ∈ blkOf A, k ∉ q :: p :: sb :: wb :: X) (hdn : d.done ≤ 4611686018427300000) (ho : js.off = false) (hre : refuseJ js [l] (js.half.room - usedJ js) = 0) {D1 D2 D3 D4 : DS} {b1 b2 b3 b4 : Bool} (hW : writeR d js.half (usedJ js) js.l.length l false true = (D1, b1)) (hS : synD D1 = (D2, b2))
    (hM : wrD D2 (js.half.fr + usedJ js) (putB (markH js.half js.l.length l)) = (D3, b3)) (hS2 : synD D3 = (D4, b4)) :
    Calls Tryz.prog 26 #[.pointer (some ⟨q, 0, none⟩), .slice A n c] w fun x w' => RAct X w p sb sc wb base q (appendJ d js l) x w' := by
  have hres := appR hre hW hS hM hS2
  have HRES := Lib.hid hres
  have hfit := fits_of hre
  have HLR : Hid (∀ wx wy, Only [p, sb, wb] w wx → Only [q] wx wy → ∀ A n c, LR w (q :: p :: sb :: wb :: X) A n c js.l → LR wy (q :: p :: sb :: wb :: X) A n c js.l) := Lib.hid (fun wx wy h1 h2 A n c h => (h.only h1 (fun k hk => .inl (by simp at hk ⊢; omega)) (fun k hk => .inl hk)).only h2 (fun k hk => .inl (by rw [List.mem_singleton.1 hk]; simp)) (fun k hk => .inl hk))
  obtain ⟨A0, n0, c0, hjb, hjl⟩ := hj
  have hqf := hd.far hjb (by decide) (by decide)
  have cq0 := hjb.cell 0
  have cq1 := hjb.cell 1
  have cq2 := hjb.cell 2
  have cq3 := hjb.cell 3
  have hll0 := hjl.len
  have hlig := hjl.light
  have hmx := hjl.maxi
  have HTK := Lib.hid (rtakes_any A0 n0 c0 _ js.l w hjl.gs (by omega))
  have hRO := rroom_any hd.drew (by omega)
  have hroom : js.half.room = roomD d := by rw [hh]; rfl
  have hbl := hb.len
  have htb : takesB l = 1 + needZ (n : Int) := by unfold takesB; rw [hbl]
  have hnz : 0 ≤ needZ (n : Int) ∧ needZ (n : Int) ≤ 32 := by unfold needZ; split <;> omega
  have hr0 : 0 ≤ roomD d ∧ roomD d ≤ 40000 := by have := hd.n0; unfold roomD; omega
  have hul := takesL_le js.l.length js.l hlig (Nat.le_refl _)
  rw [List.take_of_length_le (Nat.le_refl _)] at hul
  have hfrr : 0 ≤ js.half.fr ∧ js.half.fr ≤ 50000 := by
    rw [hh]
    have hn1 := hd.n0
    unfold halfD roomD
    simp only
    have hm : js.half.gen % 2 = 0 ∨ js.half.gen % 2 = 1 := by omega
    rcases hm with hm | hm <;> rw [hm] <;> omega
  have HD := Lib.hid hd
  have HJB := Lib.hid hjb
  have HJL := Lib.hid hjl
  have HQF := Lib.hid hqf
  have HN8 := Lib.hid h8
  have HHF := Lib.hid hh
  have HB := Lib.hid hb
  have HNE := Lib.hid (fun w => rneed_int (n : Int) w (by omega) (by omega))
  have HRO := Lib.hid hRO
  have HQX := Lib.hid hqX
  have hwd := writeR_done d js.half (usedJ js) js.l.length l false true
  rw [hW] at hwd
  simp only at hwd
  have hd2 := syn_done D1
  have hn2 := synD_n D1
  rw [hS] at hd2 hn2
  simp only at hd2 hn2
  have hd3 := wr_done D2 (js.half.fr + usedJ js) (putB (markH js.half js.l.length l))
  have hn3 := wrD_n D2 (js.half.fr + usedJ js) (putB (markH js.half js.l.length l))
  rw [hM] at hd3 hn3
  simp only at hd3 hn3
  have hfar3 : 0 < n → ∀ k ∈ blkOf A, k ∉ [p, sb, wb] := fun h k hk hm => hfar h k hk (by simp at hm ⊢; omega)
  have ha : 0 ≤ usedJ js ∧ usedJ js ≤ 100000 := by
    have : usedJ js = takesL js.l := rfl
    omega
  have HW1 : Hid (Calls Tryz.prog 84 #[.pointer (some ⟨q, 0, none⟩), .int .i64 js.half.gen, .int .i64 (usedJ js), .int .i64 (js.l.length : Int), .slice A n c, .bool false, .bool true] w.drew.drew fun x w' => RWr X w.drew.drew p sb sc wb base (D1, b1) x w') := Lib.hid (by
    have := rjwrite_nz hd.drew.drew h8 hjb.drew.drew js.half.gen hg (usedJ js) ha js.l.length A n c l hb.drew.drew hn hnc hcm hfar3 (by omega)
    rw [← hh, hW] at this
    exact this)
  have HS2 := Lib.hid (fun wx (h : IsR X wx p sb sc wb base D1) => rsync_0 h hS (by omega))
  have HFI := Lib.hid (fun wx (h : IsR X wx p sb sc wb base D2) => rfirst_any h (by omega) js.half.gen hg)
  have hfe : (halfD D2 js.half.gen).fr = js.half.fr := by
    rw [hh]
    unfold halfD roomD
    simp only
    rw [show D2.n = d.n by omega]
  rw [hfe] at HFI
  have HMK := Lib.hid (fun wx (ho : Only [p, sb, wb] w wx) => rmark_any wx js.half js.l.length A n c wx.heap.size l ((hb.only_pos ho hfar3).more ho.size) (by omega))
  obtain ⟨MK, hMK⟩ : ∃ m, markH js.half js.l.length l = m := ⟨_, rfl⟩
  rw [hMK] at HMK hM
  have hpl : (putB MK).length ≤ 1000000 := by have := putB_len MK; omega
  obtain ⟨PB, hPB⟩ : ∃ m, putB MK = m := ⟨_, rfl⟩
  have HPU := Lib.hid (fun wx => rput_any MK wx)
  rw [hPB] at HPU hM hpl
  have HPBL := Lib.hid hpl
  have HW3A := Lib.hid (fun wx (h : IsR X wx p sb sc wb base D2) A n c hb hn => rwrite_0 h hM A n c hb hn (by omega))
  have HS4 := Lib.hid (fun wx (h : IsR X wx p sb sc wb base D3) => rsync_0 h hS2 (by omega))
  have HLR1 := Lib.hid (fun wx wy h1 h2 => HLR.out wx wy h1 h2 A0 n0 c0 hjl)
  have HLR := HLR1
  have HBN := Lib.hid (fun wx (ho : Only [p, sb, wb] w wx) => (hb.only_pos ho hfar3).more ho.size)
  have HLR0 := Lib.hid (fun wx (ho : Only [p, sb, wb] w wx) => hjl.only ho (T' := q :: p :: sb :: wb :: X) (fun k hk => .inl (by simp at hk ⊢; omega)) (fun k hk => .inl hk))
  rw [ho] at cq3 hjb
  have HMX : Hid (n0 ≤ 100000) := Lib.hid (by omega)
  have HN2K := Lib.hid hn
  have HOFF := Lib.hid ho
  have HL0 := Lib.hid hll0
  rw [hll0] at HW1 HMK
  obtain ⟨U, hU⟩ : ∃ U, takesL js.l = U := ⟨_, rfl⟩
  have hUJ : usedJ js = U := hU
  rw [hU] at HTK hul
  rw [hUJ] at hfit HW1 HW3A
  obtain ⟨z, hz⟩ : ∃ z, needZ (n : Int) = z := ⟨_, rfl⟩
  rw [hz] at HNE htb hnz
  rw [htb] at hfit
  obtain ⟨room, hrm⟩ : ∃ r, roomD d = r := ⟨_, rfl⟩
  rw [hrm] at HRO hroom hr0
  rw [hroom] at hfit
  have HGN0 := Lib.hid (show js.half.gen = js.half.gen from rfl)
  obtain ⟨gen, hgn⟩ : ∃ g, js.half.gen = g := ⟨_, rfl⟩
  have HGN : Hid (js.half.gen = gen) := Lib.hid hgn
  rw [hgn] at cq1 hjb HW1 HFI HMK
  have HJB2 := Lib.hid hjb
  obtain ⟨fr, hfrE⟩ : ∃ f, js.half.fr = f := ⟨_, rfl⟩
  rw [hfrE] at hfrr HFI HW3A
  obtain ⟨fr0, fr1⟩ := hfrr
  obtain ⟨full, hfull⟩ : ∃ b, decide (room < U + 1 + z) = b := ⟨_, rfl⟩
  have hft : full = false := by rw [← hfull]; exact decide_eq_false (by omega)
  have hk1 : IntKind.i64.wrap (U + 1) = U + 1 := by rw [IntKind.wrap_i64]; omega
  have hk2 : IntKind.i64.wrap (U + 1 + z) = U + 1 + z := by rw [IntKind.wrap_i64]; omega
  have hk3 : IntKind.i64.wrap (fr + U) = fr + U := by rw [IntKind.wrap_i64]; omega
  have e5 : decide ((1048576 : Int) < (n : Int)) = false := decide_eq_false (by omega)
  have e5' : decide (1048576 < n) = false := decide_eq_false (by omega)
  clear hd hjb hjl hqf h8 hh hb hbl htb hul hfit hre hlig hroom hU hUJ hz hrm hgn hRO ho hmx hll0 hfar hfar3 hll hres hW hS hM hS2 hwd hd2 hn2 hd3 hn3 ha hqX hfe hMK hpl hPB HGN0 hfrE hdn hg
  obtain ⟨r, hrr⟩ : ∃ r, appendJ d js l = r := ⟨_, rfl⟩
  rw [hrr]
  have HR := Lib.hid hrr
  clear hrr
  go_enter Tryz.func26, Tryz.ntmps26
  go_wp2_with (first
    | (go_at_call 32; refine HTK.out.mono ?_; rintro x wx ⟨rfl, hwx⟩; have hwx := hwx.symm; subst hwx))
  have hS : w.drew.cell? ⟨q, 0, none⟩ = some (.pointer (some ⟨p, 0, none⟩)) ∧ w.drew.cell? ⟨q, 1, none⟩ = some (.int .i64 gen) ∧ w.drew.cell? ⟨q, 2, none⟩ = some (.slice A0 n0 c0) := ⟨cq0, cq1, cq2⟩
  refine wp_region_hand (S := fun Y => Y.cell? ⟨q, 0, none⟩ = some (.pointer (some ⟨p, 0, none⟩)) ∧ Y.cell? ⟨q, 1, none⟩ = some (.int .i64 gen) ∧ Y.cell? ⟨q, 2, none⟩ = some (.slice A0 n0 c0)) (by kernel_rfl) ?_
  refine takeV 0 (.int .i64 U) rfl rfl (by kernel_rfl) (fun Y hY => by obtain ⟨y0, y1, y2⟩ := hY; go_simp) hS ?_; simp only [s0A, s0B, s0C]
  refine takeV 1 (.int .i64 (U + 1)) rfl rfl (by kernel_rfl) (fun Y hY => by obtain ⟨y0, y1, y2⟩ := hY; go_simp) hS ?_; simp only [s0A, s0B, s0C]
  refine takeV 2 (.slice A n c) rfl rfl (by kernel_rfl) (fun Y hY => by obtain ⟨y0, y1, y2⟩ := hY; go_simp) hS ?_; simp only [s0A, s0B, s0C]
  refine takeV 3 (.int .i64 n) rfl rfl (by kernel_rfl) (fun Y hY => by obtain ⟨y0, y1, y2⟩ := hY; go_simp) hS ?_; simp only [s0A, s0B, s0C]
  refine takeV 6 (.pointer (some ⟨q, 0, none⟩)) rfl rfl (by kernel_rfl) (fun Y hY => by obtain ⟨y0, y1, y2⟩ := hY; go_simp) hS ?_; simp only [s0A, s0B, s0C]
  refine takeV 7 (.pointer (some ⟨q, 0, none⟩)) rfl rfl (by kernel_rfl) (fun Y hY => by obtain ⟨y0, y1, y2⟩ := hY; go_simp) hS ?_; simp only [s0A, s0B, s0C]
  refine takeV 8 (.pointer (some ⟨q, 0, none⟩)) rfl rfl (by kernel_rfl) (fun Y hY => by obtain ⟨y0, y1, y2⟩ := hY; go_simp) hS ?_; simp only [s0A, s0B, s0C]
  refine takeV 9 (.pointer (some ⟨p, 0, none⟩)) rfl rfl (by kernel_rfl) (fun Y hY => by obtain ⟨y0, y1, y2⟩ := hY; go_simp) hS ?_; simp only [s0A, s0B, s0C]
  refine callW (i := 4) rfl (by kernel_rfl) rfl (by rfl) ?_ (HNE.out _) ?_
  · go_simp
  rintro x w2 ⟨rfl, hw2⟩
  subst hw2
  refine ⟨_, rfl, hS, ?_⟩
  simp only [s0A, s0B, s0C]
  refine takeV 5 (.int .i64 (U + 1 + z)) rfl rfl (by kernel_rfl) (fun Y hY => by obtain ⟨y0, y1, y2⟩ := hY; go_simp) hS ?_; simp only [s0A, s0B, s0C]
  refine callW (i := 10) rfl (by kernel_rfl) rfl (by rfl) ?_ (HRO.out) ?_
  · go_simp
  rintro x w2 ⟨rfl, hw2⟩
  have hw2 := hw2.symm
  subst hw2
  refine ⟨_, rfl, hS, ?_⟩
  simp only [s0A, s0B, s0C]
  refine takeV 11 (.bool full) rfl rfl (by kernel_rfl) (fun Y hY => by obtain ⟨y0, y1, y2⟩ := hY; go_simp) hS ?_; simp only [s0A, s0B, s0C]
  refine wpAnyH_done (by kernel_rfl) ?_ _
  clear hS
  subst hft
  go_wp2_with fail
  have hS : w.drew.drew.cell? ⟨q, 0, none⟩ = some (.pointer (some ⟨p, 0, none⟩)) ∧ w.drew.drew.cell? ⟨q, 1, none⟩ = some (.int .i64 gen) ∧ w.drew.drew.cell? ⟨q, 2, none⟩ = some (.slice A0 n0 c0) := ⟨cq0, cq1, cq2⟩
  refine wp_region_hand (S := fun Y => Y.cell? ⟨q, 0, none⟩ = some (.pointer (some ⟨p, 0, none⟩)) ∧ Y.cell? ⟨q, 1, none⟩ = some (.int .i64 gen) ∧ Y.cell? ⟨q, 2, none⟩ = some (.slice A0 n0 c0)) (by kernel_rfl) ?_
  refine takeV 0 (.pointer (some ⟨q, 0, none⟩)) rfl rfl (by kernel_rfl) (fun Y hY => by obtain ⟨y0, y1, y2⟩ := hY; go_simp) hS ?_; simp only [s0A, s0B, s0C]
  refine takeV 1 (.pointer (some ⟨q, 0, none⟩)) rfl rfl (by kernel_rfl) (fun Y hY => by obtain ⟨y0, y1, y2⟩ := hY; go_simp) hS ?_; simp only [s0A, s0B, s0C]
  refine takeV 2 (.pointer (some ⟨q, 0, none⟩)) rfl rfl (by kernel_rfl) (fun Y hY => by obtain ⟨y0, y1, y2⟩ := hY; go_simp) hS ?_; simp only [s0A, s0B, s0C]
  refine takeV 3 (.pointer (some ⟨q, 1, none⟩)) rfl rfl (by kernel_rfl) (fun Y hY => by obtain ⟨y0, y1, y2⟩ := hY; go_simp) hS ?_; simp only [s0A, s0B, s0C]
  refine takeV 4 (.int .i64 gen) rfl rfl (by kernel_rfl) (fun Y hY => by obtain ⟨y0, y1, y2⟩ := hY; go_simp) hS ?_; simp only [s0A, s0B, s0C]
  refine takeV 5 (.int .i64 U) rfl rfl (by kernel_rfl) (fun Y hY => by obtain ⟨y0, y1, y2⟩ := hY; go_simp) hS ?_; simp only [s0A, s0B, s0C]
  refine takeV 6 (.pointer (some ⟨q, 0, none⟩)) rfl rfl (by kernel_rfl) (fun Y hY => by obtain ⟨y0, y1, y2⟩ := hY; go_simp) hS ?_; simp only [s0A, s0B, s0C]
  refine takeV 7 (.pointer (some ⟨q, 0, none⟩)) rfl rfl (by kernel_rfl) (fun Y hY => by obtain ⟨y0, y1, y2⟩ := hY; go_simp) hS ?_; simp only [s0A, s0B, s0C]
  refine takeV 8 (.pointer (some ⟨q, 2, none⟩)) rfl rfl (by kernel_rfl) (fun Y hY => by obtain ⟨y0, y1, y2⟩ := hY; go_simp) hS ?_; simp only [s0A, s0B, s0C]
  refine takeV 9 (.slice A0 n0 c0) rfl rfl (by kernel_rfl) (fun Y hY => by obtain ⟨y0, y1, y2⟩ := hY; go_simp) hS ?_; simp only [s0A, s0B, s0C]
  refine takeV 10 (.int .i64 n0) rfl rfl (by kernel_rfl) (fun Y hY => by obtain ⟨y0, y1, y2⟩ := hY; go_simp) hS ?_; simp only [s0A, s0B, s0C]
  refine takeV 11 (.slice A n c) rfl rfl (by kernel_rfl) (fun Y hY => by obtain ⟨y0, y1, y2⟩ := hY; go_simp) hS ?_; simp only [s0A, s0B, s0C]
  refine callW (i := 12) rfl (by kernel_rfl) rfl (by rfl) ?_ (HW1.out) ?_
  · go_simp
  rintro x w1 ⟨rfl, hd1, ho1⟩
  have HD1 := Lib.hid hd1
  have HO1 := Lib.hid (((Only.refl [p, sb, wb] w).drew.drew).trans ho1 (fun k hk => .inl hk))
  have hS1 : w1.cell? ⟨q, 0, none⟩ = some (.pointer (some ⟨p, 0, none⟩)) ∧ w1.cell? ⟨q, 1, none⟩ = some (.int .i64 gen) ∧ w1.cell? ⟨q, 2, none⟩ = some (.slice A0 n0 c0) := ⟨ho1.cell hS.1 HQF.out, ho1.cell hS.2.1 HQF.out, ho1.cell hS.2.2 HQF.out⟩
  clear hd1 ho1
  refine ⟨_, rfl, hS1, ?_⟩
  simp only [s0A, s0B, s0C]
  cases b1
  · refine takeV 13 (.bool true) rfl rfl (by kernel_rfl) (fun Y hY => by obtain ⟨y0, y1, y2⟩ := hY; go_simp) hS1 ?_; simp only [s0A, s0B, s0C]
    refine takeV 14 (.bool true) rfl rfl (by kernel_rfl) (fun Y hY => by obtain ⟨y0, y1, y2⟩ := hY; go_simp) hS1 ?_; simp only [s0A, s0B, s0C]
    refine passV 15 rfl rfl (by kernel_rfl) hS1 ?_; simp only [s0A, s0B, s0C]
    refine passV 16 rfl rfl (by kernel_rfl) hS1 ?_; simp only [s0A, s0B, s0C]
    refine passV 17 rfl rfl (by kernel_rfl) hS1 ?_; simp only [s0A, s0B, s0C]
    refine passV 18 rfl rfl (by kernel_rfl) hS1 ?_; simp only [s0A, s0B, s0C]
    refine passV 19 rfl rfl (by kernel_rfl) hS1 ?_; simp only [s0A, s0B, s0C]
    refine passV 20 rfl rfl (by kernel_rfl) hS1 ?_; simp only [s0A, s0B, s0C]
    refine takeV 21 (.bool true) rfl rfl (by kernel_rfl) (fun Y hY => by obtain ⟨y0, y1, y2⟩ := hY; go_simp) hS1 ?_; simp only [s0A, s0B, s0C]
    refine takeV 22 (.bool true) rfl rfl (by kernel_rfl) (fun Y hY => by obtain ⟨y0, y1, y2⟩ := hY; go_simp) hS1 ?_; simp only [s0A, s0B, s0C]
    refine passV 23 rfl rfl (by kernel_rfl) hS1 ?_; simp only [s0A, s0B, s0C]
    refine passV 24 rfl rfl (by kernel_rfl) hS1 ?_; simp only [s0A, s0B, s0C]
    refine passV 25 rfl rfl (by kernel_rfl) hS1 ?_; simp only [s0A, s0B, s0C]
    refine passV 26 rfl rfl (by kernel_rfl) hS1 ?_; simp only [s0A, s0B, s0C]
    refine passV 27 rfl rfl (by kernel_rfl) hS1 ?_; simp only [s0A, s0B, s0C]
    refine passV 28 rfl rfl (by kernel_rfl) hS1 ?_; simp only [s0A, s0B, s0C]
    refine passV 29 rfl rfl (by kernel_rfl) hS1 ?_; simp only [s0A, s0B, s0C]
    refine passV 30 rfl rfl (by kernel_rfl) hS1 ?_; simp only [s0A, s0B, s0C]
    refine passV 31 rfl rfl (by kernel_rfl) hS1 ?_; simp only [s0A, s0B, s0C]
    refine passV 32 rfl rfl (by kernel_rfl) hS1 ?_; simp only [s0A, s0B, s0C]
    refine passV 33 rfl rfl (by kernel_rfl) hS1 ?_; simp only [s0A, s0B, s0C]
    refine passV 34 rfl rfl (by kernel_rfl) hS1 ?_; simp only [s0A, s0B, s0C]
    refine passV 35 rfl rfl (by kernel_rfl) hS1 ?_; simp only [s0A, s0B, s0C]
    refine passV 36 rfl rfl (by kernel_rfl) hS1 ?_; simp only [s0A, s0B, s0C]
    refine passV 37 rfl rfl (by kernel_rfl) hS1 ?_; simp only [s0A, s0B, s0C]
    refine passV 38 rfl rfl (by kernel_rfl) hS1 ?_; simp only [s0A, s0B, s0C]
    refine passV 39 rfl rfl (by kernel_rfl) hS1 ?_; simp only [s0A, s0B, s0C]
    refine passV 40 rfl rfl (by kernel_rfl) hS1 ?_; simp only [s0A, s0B, s0C]
    refine passV 41 rfl rfl (by kernel_rfl) hS1 ?_; simp only [s0A, s0B, s0C]
    refine passV 42 rfl rfl (by kernel_rfl) hS1 ?_; simp only [s0A, s0B, s0C]
    refine passV 43 rfl rfl (by kernel_rfl) hS1 ?_; simp only [s0A, s0B, s0C]
    refine passV 44 rfl rfl (by kernel_rfl) hS1 ?_; simp only [s0A, s0B, s0C]
    refine passV 45 rfl rfl (by kernel_rfl) hS1 ?_; simp only [s0A, s0B, s0C]
    refine passV 46 rfl rfl (by kernel_rfl) hS1 ?_; simp only [s0A, s0B, s0C]
    refine passV 47 rfl rfl (by kernel_rfl) hS1 ?_; simp only [s0A, s0B, s0C]
    refine passV 48 rfl rfl (by kernel_rfl) hS1 ?_; simp only [s0A, s0B, s0C]
    refine passV 49 rfl rfl (by kernel_rfl) hS1 ?_; simp only [s0A, s0B, s0C]
    refine passV 50 rfl rfl (by kernel_rfl) hS1 ?_; simp only [s0A, s0B, s0C]
    refine passV 51 rfl rfl (by kernel_rfl) hS1 ?_; simp only [s0A, s0B, s0C]
    refine takeV 52 (.bool true) rfl rfl (by kernel_rfl) (fun Y hY => by obtain ⟨y0, y1, y2⟩ := hY; go_simp) hS1 ?_; simp only [s0A, s0B, s0C]
    refine takeV 53 (.bool true) rfl rfl (by kernel_rfl) (fun Y hY => by obtain ⟨y0, y1, y2⟩ := hY; go_simp) hS1 ?_; simp only [s0A, s0B, s0C]
    refine passV 54 rfl rfl (by kernel_rfl) hS1 ?_; simp only [s0A, s0B, s0C]
    refine passV 55 rfl rfl (by kernel_rfl) hS1 ?_; simp only [s0A, s0B, s0C]
    refine passV 56 rfl rfl (by kernel_rfl) hS1 ?_; simp only [s0A, s0B, s0C]
    refine passV 57 rfl rfl (by kernel_rfl) hS1 ?_; simp only [s0A, s0B, s0C]
    refine passV 58 rfl rfl (by kernel_rfl) hS1 ?_; simp only [s0A, s0B, s0C]
    refine passV 59 rfl rfl (by kernel_rfl) hS1 ?_; simp only [s0A, s0B, s0C]
    refine takeV 60 (.bool true) rfl rfl (by kernel_rfl) (fun Y hY => by obtain ⟨y0, y1, y2⟩ := hY; go_simp) hS1 ?_; simp only [s0A, s0B, s0C]
    refine wpAnyH_done (by kernel_rfl) ?_ _
    have HBX : Hid (Blk w1 q 55 #[.pointer (some ⟨p, 0, none⟩), .int .i64 gen, .slice A0 n0 c0, .bool false]) := Lib.hid (HJB2.out.only HO1.out HQF.out)
    have fb := HBX.out.frozen 3
    have cb3 := HBX.out.cell 3
    have hr : r = (D1, { js with off := true }, 3) := by rw [← HR.out, HRES.out]; simp
    subst hr
    have HFIN : Hid (RAct X w p sb sc wb base q (D1, { js with off := true }, 3) (.returned (.int .i64 3)) (w1.setCell ⟨q, 3, none⟩ (.bool true))) := Lib.hid (by
      obtain ⟨k1, k2⟩ := HD1.out.put1 HQF.out HQX.out (o := 3) (.bool true)
      refine ⟨rfl, ⟨A0, n0, c0, by rw [HGN.out]; exact HBX.out.set_ 3 (.bool true), HLR.out _ _ HO1.out k2⟩, k1, (only4 HO1.out).trans k2 (fun k hk => .inl (by rw [List.mem_singleton.1 hk]; simp))⟩)
    go_wp2_with fail
    go_ret
    exact HFIN.out
  refine takeV 13 (.bool false) rfl rfl (by kernel_rfl) (fun Y hY => by obtain ⟨y0, y1, y2⟩ := hY; go_simp) hS1 ?_; simp only [s0A, s0B, s0C]
  refine takeV 14 (.bool false) rfl rfl (by kernel_rfl) (fun Y hY => by obtain ⟨y0, y1, y2⟩ := hY; go_simp) hS1 ?_; simp only [s0A, s0B, s0C]
  refine takeV 15 (.pointer (some ⟨q, 0, none⟩)) rfl rfl (by kernel_rfl) (fun Y hY => by obtain ⟨y0, y1, y2⟩ := hY; go_simp) hS1 ?_; simp only [s0A, s0B, s0C]
  refine takeV 16 (.pointer (some ⟨q, 0, none⟩)) rfl rfl (by kernel_rfl) (fun Y hY => by obtain ⟨y0, y1, y2⟩ := hY; go_simp) hS1 ?_; simp only [s0A, s0B, s0C]
  refine takeV 17 (.pointer (some ⟨q, 0, none⟩)) rfl rfl (by kernel_rfl) (fun Y hY => by obtain ⟨y0, y1, y2⟩ := hY; go_simp) hS1 ?_; simp only [s0A, s0B, s0C]
  refine takeV 18 (.pointer (some ⟨p, 0, none⟩)) rfl rfl (by kernel_rfl) (fun Y hY => by obtain ⟨y0, y1, y2⟩ := hY; go_simp) hS1 ?_; simp only [s0A, s0B, s0C]
  refine callW (i := 19) rfl (by kernel_rfl) rfl (by rfl) ?_ (HS2.out w1 HD1.out) ?_
  · go_simp
  rintro x w2 ⟨e2, rfl, he2, he2n, hd2, ho2⟩
  have HD2 := Lib.hid hd2
  have HO2 := Lib.hid (HO1.out.trans ho2 (fun k hk => .inl hk))
  have hS2 : w2.cell? ⟨q, 0, none⟩ = some (.pointer (some ⟨p, 0, none⟩)) ∧ w2.cell? ⟨q, 1, none⟩ = some (.int .i64 gen) ∧ w2.cell? ⟨q, 2, none⟩ = some (.slice A0 n0 c0) := ⟨ho2.cell hS1.1 HQF.out, ho2.cell hS1.2.1 HQF.out, ho2.cell hS1.2.2 HQF.out⟩
  clear hd2 ho2
  refine ⟨_, rfl, hS2, ?_⟩
  simp only [s0A, s0B, s0C]
  cases b2
  · have he2n : (e2 != 0) = true := he2n
    refine takeV 20 (.bool true) rfl rfl (by kernel_rfl) (fun Y hY => by obtain ⟨y0, y1, y2⟩ := hY; go_simp) hS2 ?_; simp only [s0A, s0B, s0C]
    refine takeV 21 (.bool true) rfl rfl (by kernel_rfl) (fun Y hY => by obtain ⟨y0, y1, y2⟩ := hY; go_simp) hS2 ?_; simp only [s0A, s0B, s0C]
    refine takeV 22 (.bool true) rfl rfl (by kernel_rfl) (fun Y hY => by obtain ⟨y0, y1, y2⟩ := hY; go_simp) hS2 ?_; simp only [s0A, s0B, s0C]
    refine passV 23 rfl rfl (by kernel_rfl) hS2 ?_; simp only [s0A, s0B, s0C]
    refine passV 24 rfl rfl (by kernel_rfl) hS2 ?_; simp only [s0A, s0B, s0C]
    refine passV 25 rfl rfl (by kernel_rfl) hS2 ?_; simp only [s0A, s0B, s0C]
    refine passV 26 rfl rfl (by kernel_rfl) hS2 ?_; simp only [s0A, s0B, s0C]
    refine passV 27 rfl rfl (by kernel_rfl) hS2 ?_; simp only [s0A, s0B, s0C]
    refine passV 28 rfl rfl (by kernel_rfl) hS2 ?_; simp only [s0A, s0B, s0C]
    refine passV 29 rfl rfl (by kernel_rfl) hS2 ?_; simp only [s0A, s0B, s0C]
    refine passV 30 rfl rfl (by kernel_rfl) hS2 ?_; simp only [s0A, s0B, s0C]
    refine passV 31 rfl rfl (by kernel_rfl) hS2 ?_; simp only [s0A, s0B, s0C]
    refine passV 32 rfl rfl (by kernel_rfl) hS2 ?_; simp only [s0A, s0B, s0C]
    refine passV 33 rfl rfl (by kernel_rfl) hS2 ?_; simp only [s0A, s0B, s0C]
    refine passV 34 rfl rfl (by kernel_rfl) hS2 ?_; simp only [s0A, s0B, s0C]
    refine passV 35 rfl rfl (by kernel_rfl) hS2 ?_; simp only [s0A, s0B, s0C]
    refine passV 36 rfl rfl (by kernel_rfl) hS2 ?_; simp only [s0A, s0B, s0C]
    refine passV 37 rfl rfl (by kernel_rfl) hS2 ?_; simp only [s0A, s0B, s0C]
    refine passV 38 rfl rfl (by kernel_rfl) hS2 ?_; simp only [s0A, s0B, s0C]
    refine passV 39 rfl rfl (by kernel_rfl) hS2 ?_; simp only [s0A, s0B, s0C]
    refine passV 40 rfl rfl (by kernel_rfl) hS2 ?_; simp only [s0A, s0B, s0C]
    refine passV 41 rfl rfl (by kernel_rfl) hS2 ?_; simp only [s0A, s0B, s0C]
    refine passV 42 rfl rfl (by kernel_rfl) hS2 ?_; simp only [s0A, s0B, s0C]
    refine passV 43 rfl rfl (by kernel_rfl) hS2 ?_; simp only [s0A, s0B, s0C]
    refine passV 44 rfl rfl (by kernel_rfl) hS2 ?_; simp only [s0A, s0B, s0C]
    refine passV 45 rfl rfl (by kernel_rfl) hS2 ?_; simp only [s0A, s0B, s0C]
    refine passV 46 rfl rfl (by kernel_rfl) hS2 ?_; simp only [s0A, s0B, s0C]
    refine passV 47 rfl rfl (by kernel_rfl) hS2 ?_; simp only [s0A, s0B, s0C]
    refine passV 48 rfl rfl (by kernel_rfl) hS2 ?_; simp only [s0A, s0B, s0C]
    refine passV 49 rfl rfl (by kernel_rfl) hS2 ?_; simp only [s0A, s0B, s0C]
    refine passV 50 rfl rfl (by kernel_rfl) hS2 ?_; simp only [s0A, s0B, s0C]
    refine passV 51 rfl rfl (by kernel_rfl) hS2 ?_; simp only [s0A, s0B, s0C]
    refine takeV 52 (.bool true) rfl rfl (by kernel_rfl) (fun Y hY => by obtain ⟨y0, y1, y2⟩ := hY; go_simp) hS2 ?_; simp only [s0A, s0B, s0C]
    refine takeV 53 (.bool true) rfl rfl (by kernel_rfl) (fun Y hY => by obtain ⟨y0, y1, y2⟩ := hY; go_simp) hS2 ?_; simp only [s0A, s0B, s0C]
    refine passV 54 rfl rfl (by kernel_rfl) hS2 ?_; simp only [s0A, s0B, s0C]
    refine passV 55 rfl rfl (by kernel_rfl) hS2 ?_; simp only [s0A, s0B, s0C]
    refine passV 56 rfl rfl (by kernel_rfl) hS2 ?_; simp only [s0A, s0B, s0C]
    refine passV 57 rfl rfl (by kernel_rfl) hS2 ?_; simp only [s0A, s0B, s0C]
    refine passV 58 rfl rfl (by kernel_rfl) hS2 ?_; simp only [s0A, s0B, s0C]
    refine passV 59 rfl rfl (by kernel_rfl) hS2 ?_; simp only [s0A, s0B, s0C]
    refine takeV 60 (.bool true) rfl rfl (by kernel_rfl) (fun Y hY => by obtain ⟨y0, y1, y2⟩ := hY; go_simp) hS2 ?_; simp only [s0A, s0B, s0C]
    refine wpAnyH_done (by kernel_rfl) ?_ _
    have HBX : Hid (Blk w2 q 55 #[.pointer (some ⟨p, 0, none⟩), .int .i64 gen, .slice A0 n0 c0, .bool false]) := Lib.hid (HJB2.out.only HO2.out HQF.out)
    have fb := HBX.out.frozen 3
    have cb3 := HBX.out.cell 3
    have hr : r = (D2, { js with off := true }, 3) := by rw [← HR.out, HRES.out]; simp
    subst hr
    have HFIN : Hid (RAct X w p sb sc wb base q (D2, { js with off := true }, 3) (.returned (.int .i64 3)) (w2.setCell ⟨q, 3, none⟩ (.bool true))) := Lib.hid (by
      obtain ⟨k1, k2⟩ := HD2.out.put1 HQF.out HQX.out (o := 3) (.bool true)
      refine ⟨rfl, ⟨A0, n0, c0, by rw [HGN.out]; exact HBX.out.set_ 3 (.bool true), HLR.out _ _ HO2.out k2⟩, k1, (only4 HO2.out).trans k2 (fun k hk => .inl (by rw [List.mem_singleton.1 hk]; simp))⟩)
    go_wp2_with fail
    go_ret
    exact HFIN.out
  have he2n : (e2 != 0) = false := he2n
  refine takeV 20 (.bool false) rfl rfl (by kernel_rfl) (fun Y hY => by obtain ⟨y0, y1, y2⟩ := hY; go_simp) hS2 ?_; simp only [s0A, s0B, s0C]
  refine takeV 21 (.bool false) rfl rfl (by kernel_rfl) (fun Y hY => by obtain ⟨y0, y1, y2⟩ := hY; go_simp) hS2 ?_; simp only [s0A, s0B, s0C]
  refine takeV 22 (.bool false) rfl rfl (by kernel_rfl) (fun Y hY => by obtain ⟨y0, y1, y2⟩ := hY; go_simp) hS2 ?_; simp only [s0A, s0B, s0C]
  refine takeV 23 (.pointer (some ⟨q, 0, none⟩)) rfl rfl (by kernel_rfl) (fun Y hY => by obtain ⟨y0, y1, y2⟩ := hY; go_simp) hS2 ?_; simp only [s0A, s0B, s0C]
  refine takeV 24 (.pointer (some ⟨q, 0, none⟩)) rfl rfl (by kernel_rfl) (fun Y hY => by obtain ⟨y0, y1, y2⟩ := hY; go_simp) hS2 ?_; simp only [s0A, s0B, s0C]
  refine takeV 25 (.pointer (some ⟨q, 0, none⟩)) rfl rfl (by kernel_rfl) (fun Y hY => by obtain ⟨y0, y1, y2⟩ := hY; go_simp) hS2 ?_; simp only [s0A, s0B, s0C]
  refine takeV 26 (.pointer (some ⟨p, 0, none⟩)) rfl rfl (by kernel_rfl) (fun Y hY => by obtain ⟨y0, y1, y2⟩ := hY; go_simp) hS2 ?_; simp only [s0A, s0B, s0C]
  refine takeV 27 (.pointer (some ⟨q, 0, none⟩)) rfl rfl (by kernel_rfl) (fun Y hY => by obtain ⟨y0, y1, y2⟩ := hY; go_simp) hS2 ?_; simp only [s0A, s0B, s0C]
  refine takeV 28 (.pointer (some ⟨q, 0, none⟩)) rfl rfl (by kernel_rfl) (fun Y hY => by obtain ⟨y0, y1, y2⟩ := hY; go_simp) hS2 ?_; simp only [s0A, s0B, s0C]
  refine takeV 29 (.pointer (some ⟨q, 0, none⟩)) rfl rfl (by kernel_rfl) (fun Y hY => by obtain ⟨y0, y1, y2⟩ := hY; go_simp) hS2 ?_; simp only [s0A, s0B, s0C]
  refine takeV 30 (.pointer (some ⟨p, 0, none⟩)) rfl rfl (by kernel_rfl) (fun Y hY => by obtain ⟨y0, y1, y2⟩ := hY; go_simp) hS2 ?_; simp only [s0A, s0B, s0C]
  refine takeV 31 (.pointer (some ⟨q, 0, none⟩)) rfl rfl (by kernel_rfl) (fun Y hY => by obtain ⟨y0, y1, y2⟩ := hY; go_simp) hS2 ?_; simp only [s0A, s0B, s0C]
  refine takeV 32 (.pointer (some ⟨q, 0, none⟩)) rfl rfl (by kernel_rfl) (fun Y hY => by obtain ⟨y0, y1, y2⟩ := hY; go_simp) hS2 ?_; simp only [s0A, s0B, s0C]
  refine takeV 33 (.pointer (some ⟨q, 1, none⟩)) rfl rfl (by kernel_rfl) (fun Y hY => by obtain ⟨y0, y1, y2⟩ := hY; go_simp) hS2 ?_; simp only [s0A, s0B, s0C]
  refine takeV 34 (.int .i64 gen) rfl rfl (by kernel_rfl) (fun Y hY => by obtain ⟨y0, y1, y2⟩ := hY; go_simp) hS2 ?_; simp only [s0A, s0B, s0C]
  refine takeV 36 (.int .i64 U) rfl rfl (by kernel_rfl) (fun Y hY => by obtain ⟨y0, y1, y2⟩ := hY; go_simp) hS2 ?_; simp only [s0A, s0B, s0C]
  refine takeV 38 (.pointer (some ⟨q, 0, none⟩)) rfl rfl (by kernel_rfl) (fun Y hY => by obtain ⟨y0, y1, y2⟩ := hY; go_simp) hS2 ?_; simp only [s0A, s0B, s0C]
  refine takeV 39 (.pointer (some ⟨q, 0, none⟩)) rfl rfl (by kernel_rfl) (fun Y hY => by obtain ⟨y0, y1, y2⟩ := hY; go_simp) hS2 ?_; simp only [s0A, s0B, s0C]
  refine takeV 40 (.pointer (some ⟨q, 1, none⟩)) rfl rfl (by kernel_rfl) (fun Y hY => by obtain ⟨y0, y1, y2⟩ := hY; go_simp) hS2 ?_; simp only [s0A, s0B, s0C]
  refine takeV 41 (.int .i64 gen) rfl rfl (by kernel_rfl) (fun Y hY => by obtain ⟨y0, y1, y2⟩ := hY; go_simp) hS2 ?_; simp only [s0A, s0B, s0C]
  refine takeV 42 (.pointer (some ⟨q, 0, none⟩)) rfl rfl (by kernel_rfl) (fun Y hY => by obtain ⟨y0, y1, y2⟩ := hY; go_simp) hS2 ?_; simp only [s0A, s0B, s0C]
  refine takeV 43 (.pointer (some ⟨q, 0, none⟩)) rfl rfl (by kernel_rfl) (fun Y hY => by obtain ⟨y0, y1, y2⟩ := hY; go_simp) hS2 ?_; simp only [s0A, s0B, s0C]
  refine takeV 44 (.pointer (some ⟨q, 2, none⟩)) rfl rfl (by kernel_rfl) (fun Y hY => by obtain ⟨y0, y1, y2⟩ := hY; go_simp) hS2 ?_; simp only [s0A, s0B, s0C]
  refine takeV 45 (.slice A0 n0 c0) rfl rfl (by kernel_rfl) (fun Y hY => by obtain ⟨y0, y1, y2⟩ := hY; go_simp) hS2 ?_; simp only [s0A, s0B, s0C]
  refine takeV 46 (.int .i64 n0) rfl rfl (by kernel_rfl) (fun Y hY => by obtain ⟨y0, y1, y2⟩ := hY; go_simp) hS2 ?_; simp only [s0A, s0B, s0C]
  refine takeV 47 (.slice A n c) rfl rfl (by kernel_rfl) (fun Y hY => by obtain ⟨y0, y1, y2⟩ := hY; go_simp) hS2 ?_; simp only [s0A, s0B, s0C]
  refine callW (i := 35) rfl (by kernel_rfl) rfl (by rfl) ?_ (HFI.out w2 HD2.out) ?_
  · go_simp
  rintro x wf ⟨rfl, hwf⟩
  have hwf := hwf.symm
  subst hwf
  refine ⟨_, rfl, hS2, ?_⟩
  simp only [s0A, s0B, s0C]
  refine takeV 37 (.int .i64 (fr + U)) rfl rfl (by kernel_rfl) (fun Y hY => by obtain ⟨y0, y1, y2⟩ := hY; go_simp) hS2 ?_; simp only [s0A, s0B, s0C]
  refine callW (i := 48) rfl (by kernel_rfl) rfl (by rfl) ?_ (HMK.out w2 HO2.out) ?_
  · go_simp
  rintro x w4 ⟨rfl, ho4⟩
  have hS4 : w4.cell? ⟨q, 0, none⟩ = some (.pointer (some ⟨p, 0, none⟩)) ∧ w4.cell? ⟨q, 1, none⟩ = some (.int .i64 gen) ∧ w4.cell? ⟨q, 2, none⟩ = some (.slice A0 n0 c0) := ⟨ho4.cell hS2.1 (by simp), ho4.cell hS2.2.1 (by simp), ho4.cell hS2.2.2 (by simp)⟩
  refine ⟨_, rfl, hS4, ?_⟩
  simp only [s0A, s0B, s0C]
  refine callW (i := 49) rfl (by kernel_rfl) rfl (by rfl) ?_ (HPU.out w4) ?_
  · go_simp
  rintro x w5 ⟨v5, rfl, hown5, ho5⟩
  obtain ⟨A5, c5, rfl, _, _, hb5, _⟩ := hown5.shape
  have ho25 := ho4.trans ho5 (by simp)
  have hS5 : w5.cell? ⟨q, 0, none⟩ = some (.pointer (some ⟨p, 0, none⟩)) ∧ w5.cell? ⟨q, 1, none⟩ = some (.int .i64 gen) ∧ w5.cell? ⟨q, 2, none⟩ = some (.slice A0 n0 c0) := ⟨ho5.cell hS4.1 (by simp), ho5.cell hS4.2.1 (by simp), ho5.cell hS4.2.2 (by simp)⟩
  have HW3 := Lib.hid (HW3A.out w5 (HD2.out.only0 ho25) A5 _ c5 hb5 HPBL.out)
  have HO25 := Lib.hid (HO2.out.trans (ho25.mono (by simp)) (fun k hk => .inl hk))
  clear hown5 hb5 ho25
  refine ⟨_, rfl, hS5, ?_⟩
  simp only [s0A, s0B, s0C]
  refine callW (i := 50) rfl (by kernel_rfl) rfl (by rfl) ?_ (HW3.out) ?_
  · go_simp
  rintro x w6 ⟨e6, rfl, he6, he6n, hd6, ho6⟩
  have HD6 := Lib.hid hd6
  have HO6 := Lib.hid (HO25.out.trans ho6 (fun k hk => .inl hk))
  have hS6 : w6.cell? ⟨q, 0, none⟩ = some (.pointer (some ⟨p, 0, none⟩)) ∧ w6.cell? ⟨q, 1, none⟩ = some (.int .i64 gen) ∧ w6.cell? ⟨q, 2, none⟩ = some (.slice A0 n0 c0) := ⟨ho6.cell hS5.1 HQF.out, ho6.cell hS5.2.1 HQF.out, ho6.cell hS5.2.2 HQF.out⟩
  clear hd6 ho6
  refine ⟨_, rfl, hS6, ?_⟩
  simp only [s0A, s0B, s0C]
  cases b3
  · have he6n : (e6 != 0) = true := he6n
    refine takeV 51 (.bool true) rfl rfl (by kernel_rfl) (fun Y hY => by obtain ⟨y0, y1, y2⟩ := hY; go_simp) hS6 ?_; simp only [s0A, s0B, s0C]
    refine takeV 52 (.bool true) rfl rfl (by kernel_rfl) (fun Y hY => by obtain ⟨y0, y1, y2⟩ := hY; go_simp) hS6 ?_; simp only [s0A, s0B, s0C]
    refine takeV 53 (.bool true) rfl rfl (by kernel_rfl) (fun Y hY => by obtain ⟨y0, y1, y2⟩ := hY; go_simp) hS6 ?_; simp only [s0A, s0B, s0C]
    refine passV 54 rfl rfl (by kernel_rfl) hS6 ?_; simp only [s0A, s0B, s0C]
    refine passV 55 rfl rfl (by kernel_rfl) hS6 ?_; simp only [s0A, s0B, s0C]
    refine passV 56 rfl rfl (by kernel_rfl) hS6 ?_; simp only [s0A, s0B, s0C]
    refine passV 57 rfl rfl (by kernel_rfl) hS6 ?_; simp only [s0A, s0B, s0C]
    refine passV 58 rfl rfl (by kernel_rfl) hS6 ?_; simp only [s0A, s0B, s0C]
    refine passV 59 rfl rfl (by kernel_rfl) hS6 ?_; simp only [s0A, s0B, s0C]
    refine takeV 60 (.bool true) rfl rfl (by kernel_rfl) (fun Y hY => by obtain ⟨y0, y1, y2⟩ := hY; go_simp) hS6 ?_; simp only [s0A, s0B, s0C]
    refine wpAnyH_done (by kernel_rfl) ?_ _
    have HBX : Hid (Blk w6 q 55 #[.pointer (some ⟨p, 0, none⟩), .int .i64 gen, .slice A0 n0 c0, .bool false]) := Lib.hid (HJB2.out.only HO6.out HQF.out)
    have fb := HBX.out.frozen 3
    have cb3 := HBX.out.cell 3
    have hr : r = (D3, { js with off := true }, 3) := by rw [← HR.out, HRES.out]; simp
    subst hr
    have HFIN : Hid (RAct X w p sb sc wb base q (D3, { js with off := true }, 3) (.returned (.int .i64 3)) (w6.setCell ⟨q, 3, none⟩ (.bool true))) := Lib.hid (by
      obtain ⟨k1, k2⟩ := HD6.out.put1 HQF.out HQX.out (o := 3) (.bool true)
      refine ⟨rfl, ⟨A0, n0, c0, by rw [HGN.out]; exact HBX.out.set_ 3 (.bool true), HLR.out _ _ HO6.out k2⟩, k1, (only4 HO6.out).trans k2 (fun k hk => .inl (by rw [List.mem_singleton.1 hk]; simp))⟩)
    go_wp2_with fail
    go_ret
    exact HFIN.out
  have he6n : (e6 != 0) = false := he6n
  refine takeV 51 (.bool false) rfl rfl (by kernel_rfl) (fun Y hY => by obtain ⟨y0, y1, y2⟩ := hY; go_simp) hS6 ?_; simp only [s0A, s0B, s0C]
  refine takeV 52 (.bool false) rfl rfl (by kernel_rfl) (fun Y hY => by obtain ⟨y0, y1, y2⟩ := hY; go_simp) hS6 ?_; simp only [s0A, s0B, s0C]
  refine takeV 53 (.bool false) rfl rfl (by kernel_rfl) (fun Y hY => by obtain ⟨y0, y1, y2⟩ := hY; go_simp) hS6 ?_; simp only [s0A, s0B, s0C]
  refine takeV 54 (.pointer (some ⟨q, 0, none⟩)) rfl rfl (by kernel_rfl) (fun Y hY => by obtain ⟨y0, y1, y2⟩ := hY; go_simp) hS6 ?_; simp only [s0A, s0B, s0C]
  refine takeV 55 (.pointer (some ⟨q, 0, none⟩)) rfl rfl (by kernel_rfl) (fun Y hY => by obtain ⟨y0, y1, y2⟩ := hY; go_simp) hS6 ?_; simp only [s0A, s0B, s0C]
  refine takeV 56 (.pointer (some ⟨q, 0, none⟩)) rfl rfl (by kernel_rfl) (fun Y hY => by obtain ⟨y0, y1, y2⟩ := hY; go_simp) hS6 ?_; simp only [s0A, s0B, s0C]
  refine takeV 57 (.pointer (some ⟨p, 0, none⟩)) rfl rfl (by kernel_rfl) (fun Y hY => by obtain ⟨y0, y1, y2⟩ := hY; go_simp) hS6 ?_; simp only [s0A, s0B, s0C]
  refine callW (i := 58) rfl (by kernel_rfl) rfl (by rfl) ?_ (HS4.out w6 HD6.out) ?_
  · go_simp
  rintro x w7 ⟨e7, rfl, he7, he7n, hd7, ho7⟩
  have HD7 := Lib.hid hd7
  have HO7 := Lib.hid (HO6.out.trans ho7 (fun k hk => .inl hk))
  have hS7 : w7.cell? ⟨q, 0, none⟩ = some (.pointer (some ⟨p, 0, none⟩)) ∧ w7.cell? ⟨q, 1, none⟩ = some (.int .i64 gen) ∧ w7.cell? ⟨q, 2, none⟩ = some (.slice A0 n0 c0) := ⟨ho7.cell hS6.1 HQF.out, ho7.cell hS6.2.1 HQF.out, ho7.cell hS6.2.2 HQF.out⟩
  clear hd7 ho7
  refine ⟨_, rfl, hS7, ?_⟩
  simp only [s0A, s0B, s0C]
  cases b4
  · have he7n : (e7 != 0) = true := he7n
    refine takeV 59 (.bool true) rfl rfl (by kernel_rfl) (fun Y hY => by obtain ⟨y0, y1, y2⟩ := hY; go_simp) hS7 ?_; simp only [s0A, s0B, s0C]
    refine takeV 60 (.bool true) rfl rfl (by kernel_rfl) (fun Y hY => by obtain ⟨y0, y1, y2⟩ := hY; go_simp) hS7 ?_; simp only [s0A, s0B, s0C]
    refine wpAnyH_done (by kernel_rfl) ?_ _
    have HBX : Hid (Blk w7 q 55 #[.pointer (some ⟨p, 0, none⟩), .int .i64 gen, .slice A0 n0 c0, .bool false]) := Lib.hid (HJB2.out.only HO7.out HQF.out)
    have fb := HBX.out.frozen 3
    have cb3 := HBX.out.cell 3
    have hr : r = (D4, { js with off := true }, 3) := by rw [← HR.out, HRES.out]; simp
    subst hr
    have HFIN : Hid (RAct X w p sb sc wb base q (D4, { js with off := true }, 3) (.returned (.int .i64 3)) (w7.setCell ⟨q, 3, none⟩ (.bool true))) := Lib.hid (by
      obtain ⟨k1, k2⟩ := HD7.out.put1 HQF.out HQX.out (o := 3) (.bool true)
      refine ⟨rfl, ⟨A0, n0, c0, by rw [HGN.out]; exact HBX.out.set_ 3 (.bool true), HLR.out _ _ HO7.out k2⟩, k1, (only4 HO7.out).trans k2 (fun k hk => .inl (by rw [List.mem_singleton.1 hk]; simp))⟩)
    go_wp2_with fail
    go_ret
    exact HFIN.out
  have he7n : (e7 != 0) = false := he7n
  refine takeV 59 (.bool false) rfl rfl (by kernel_rfl) (fun Y hY => by obtain ⟨y0, y1, y2⟩ := hY; go_simp) hS7 ?_; simp only [s0A, s0B, s0C]
  refine takeV 60 (.bool false) rfl rfl (by kernel_rfl) (fun Y hY => by obtain ⟨y0, y1, y2⟩ := hY; go_simp) hS7 ?_; simp only [s0A, s0B, s0C]
  refine wpAnyH_done (by kernel_rfl) ?_ _
  have hr : r = (D4, { js with l := js.l ++ [l] }, 0) := by rw [← HR.out, HRES.out]; simp
  subst hr
  have HBX : Hid (Blk w7 q 55 #[.pointer (some ⟨p, 0, none⟩), .int .i64 gen, .slice A0 n0 c0, .bool false]) := Lib.hid (HJB2.out.only HO7.out HQF.out)
  have HLX := Lib.hid (HLR0.out _ HO7.out)
  obtain ⟨ss, hsl, hrd, hsm, _, _, _, hheld⟩ := HLX.out
  have cx := HBX.out.cell 2
  obtain ⟨wa, hwa⟩ : ∃ wa, w7.alloc (.cells #[] 35) = wa := ⟨_, rfl⟩
  have hoa : Only [] w7 wa := by rw [← hwa]; exact (Only.refl [] w7).alloc _
  have hea : OwnR 35 1 wa w7.heap.size (.slice (some ⟨w7.heap.size, 0, none⟩) 0 0) 0 [] := by rw [← hwa]; exact rows_empty w7 _ (Nat.le_refl _)
  have hsa : wa.heap.size = w7.heap.size + 1 := by rw [← hwa, World.size_alloc]
  have hcs : Recs wa wa.heap.size 1 A0 n0 (ss.map fun s => [s.val]) := Reads.recs (by decide) (by rw [List.length_map, hsl]) (by intro r hr; obtain ⟨s, _, rfl⟩ := List.mem_map.1 hr; rfl) (by rw [flat_ones']; exact (hrd.only hoa (by simp)).more hoa.size)
  have hone : ∀ r ∈ ss.map (fun s => [s.val]), ∀ u ∈ r, u.oneCell' = true := by
    intro r hr u hu
    obtain ⟨s, _, rfl⟩ := List.mem_map.1 hr
    rw [List.mem_singleton.1 hu]
    rfl
  obtain ⟨i0, hi0, hz0, hz1, hz2⟩ := info_parts sl_info
  have HSL := Lib.hid hsl
  have HSM := Lib.hid hsm
  have HHELD := Lib.hid hheld
  have HOA := Lib.hid hoa
  have HEA := Lib.hid hea
  have HCS := Lib.hid hcs
  have HONE := Lib.hid hone
  have HBB := Lib.hid (HBN.out _ HO7.out)
  clear hsl hsm hheld hoa hea hcs hone hrd hS hS1 hS2 hS4 hS5 hS6 hS7 he2 he2n he6 he6n he7 he7n ho4 ho5
  have cxa := (HBX.out.only HOA.out (by simp)).cell 2
  have HT7 : Hid (∀ k ∈ q :: p :: sb :: wb :: X, k < w7.heap.size) := Lib.hid (fun k hk => by
    have h1 := HD7.out.lt3
    have h3 := HD7.out.xlt
    have h2 := HBX.out.lt
    simp only [List.mem_cons] at hk
    rcases hk with e | e | e | e | e
    · omega
    · exact h1 k (by simp [e])
    · exact h1 k (by simp [e])
    · exact h1 k (by simp [e])
    · exact h3 k e)
  go_wp2_with (first
    | (at_builtin; refine wpList_append_rec (w := wa) rfl (.tmp 95) (.tmp 99) 34 rfl (e := 35) (size := 1) Tryz.underlying34 hi0 hz0 hz1 hz2 rfl (by decide) rfl HEA.out rfl HCS.out (by intro r hr; obtain ⟨s, _, rfl⟩ := List.mem_map.1 hr; rfl) HONE.out (by have := HMX.out; omega) (by have := HMX.out; unfold maxLen; omega) (by omega) ?_; intro v1 wc hE1; have HE1 := Lib.hid hE1; clear hE1; obtain ⟨wd, hwd⟩ : ∃ wd, wc.alloc (.cells #[] 5) = wd := ⟨_, rfl⟩; have hed : OwnB wd wc.heap.size (.slice (some ⟨wc.heap.size, 0, none⟩) 0 0) 0 [] := (by rw [← hwd]; exact OwnB.empty wc _ (Nat.le_refl _)); have hod : Only [] wc wd := (by rw [← hwd]; exact (Only.refl [] wc).alloc _); have ho7c : Only [] w7 wc := HOA.out.trans HE1.out.only (fun k hk => .inr (by have e : k ∈ [w7.heap.size] := hk; rw [List.mem_singleton.1 e]; exact Nat.le_refl _)); have HO7C := Lib.hid ho7c; have HED := Lib.hid hed; have HOD := Lib.hid hod; clear hed hod ho7c)
    | (at_builtin; refine wpList_append_bytes (w := wd) rfl (.tmp 101) (.tmp 102) rfl rfl HED.out rfl (HBB.out.only ((HO7C.out.trans HOD.out (by simp))) (by simp)) (by omega) (HOD.out.size) ?_; intro v2 we hown2 ho2e hf2; rw [Nat.zero_add, List.nil_append] at hown2; obtain ⟨A2, c2, rfl, hnc2, hcm2, hb2, hA2⟩ := hown2.shape; have HOW2 := Lib.hid hown2; have HO2E := Lib.hid ho2e; have HB2 := Lib.hid hb2; have HA2 := Lib.hid hA2; have HNC2 := Lib.hid (And.intro hnc2 hcm2); have hszc := HO7C.out.size; have hsze := Nat.le_trans HOD.out.size ho2e.size; have HSZ : Hid (w7.heap.size ≤ wc.heap.size ∧ wc.heap.size ≤ we.heap.size) := Lib.hid ⟨hszc, hsze⟩; clear hown2 ho2e hf2 hb2 hA2 hnc2 hcm2 hszc hsze)
    | (at_builtin; refine wpList_append1 (w := we) rfl (.tmp 100) (.tmp 104) 34 rfl Tryz.underlying34 sl_info rfl (by decide) rfl ((HE1.out.own.only HOD.out (by simp)).only HO2E.out (fun g hg hm => by have h1 := (HE1.out.own.lt g hg).2; have e : g ∈ [wc.heap.size] := hm; rw [List.mem_singleton.1 e] at h1; exact absurd h1 (Nat.lt_irrefl _))) rfl rfl (row := [.slice A2 n c2]) rfl rfl (by intro u hu; rw [List.mem_singleton.1 hu]; rfl) (by have := HMX.out; omega) (by have := HMX.out; unfold maxLen; omega) (by have := HSZ.out; omega) ?_; intro v3 wg hE3; have HE3 := Lib.hid hE3; obtain ⟨A3, c3, rfl, _, _, _, _⟩ := hE3.own.shape (by decide); have ho7g : Only [] w7 wg := ((HO7C.out.trans HOD.out (by simp)).trans HO2E.out (fun g hg => .inr (by have h2 := HO7C.out.size; have e : g ∈ [wc.heap.size] := hg; rw [List.mem_singleton.1 e]; exact h2))).trans hE3.only (fun g hg => .inr (HE1.out.own.lt g hg).1); have HO7G := Lib.hid ho7g; have hbg := HBX.out.only ho7g (by simp); have HBG := Lib.hid hbg; have fg := hbg.frozen 2; have cg := hbg.cell 2; clear hE3 ho7g hbg))
  have hlen : (ss ++ [(⟨A2, n, c2, l⟩ : Sl)]).length = 0 + n0 + 1 := by rw [List.length_append, HSL.out]; simp
  have hsnoc : LR wg (q :: p :: sb :: wb :: X) A3 (0 + n0 + 1) c3 (js.l ++ [l]) := by
    rw [← hlen]
    refine LR.snoc (x := ⟨A2, n, c2, l⟩) HHELD.out HSM.out HO7G.out HT7.out ?_ HNC2.out.1 HNC2.out.2 (by show n ≤ 1048576; have := HN2K.out; omega) (fun k hk => ?_) (by rw [hlen]; exact HE3.out.own)
    · exact (HB2.out.only_pos HE3.out.only (fun hn k hk hm => by
        have h1 := (HE1.out.own.lt k hm).2
        rcases HA2.out with ⟨h2, _⟩ | ⟨g, h2, h3, _⟩
        · subst h2; cases hk
        · subst h2
          simp [blkOf] at hk
          omega)).more HE3.out.only.size
    · have h4 := HSZ.out
      rcases HA2.out with ⟨h2, _⟩ | ⟨g, h2, h3, _⟩
      · subst h2; cases hk
      · subst h2
        simp [blkOf] at hk
        omega
  have hput := (HD7.out.only0 HO7G.out).put1 HQF.out HQX.out (o := 2) (.slice A3 (0 + n0 + 1) c3)
  have HFIN : Hid (RAct X w p sb sc wb base q (D4, { js with l := js.l ++ [l] }, 0) (.returned (.int .i64 0)) (wg.setCell ⟨q, 2, none⟩ (.slice A3 (0 + n0 + 1) c3))) := Lib.hid (by
    refine ⟨rfl, ⟨A3, 0 + n0 + 1, c3, ?_, hsnoc.only hput.2 (fun k hk => .inl (by rw [List.mem_singleton.1 hk]; simp)) (fun k hk => .inl hk)⟩, hput.1, (only4 (HO7.out.trans (HO7G.out.mono (by simp)) (fun k hk => .inl hk))).trans hput.2 (fun k hk => .inl (by rw [List.mem_singleton.1 hk]; simp))⟩
    have := HBG.out.set_ 2 (.slice A3 (0 + n0 + 1) c3)
    show Blk _ _ _ #[_, .int .i64 js.half.gen, _, .bool js.off]
    rw [HGN.out, HOFF.out]
    exact this)
  clear hsnoc hput hlen
  go_ret
  obtain ⟨_, hf⟩ := HFIN.out
  first | exact ⟨rfl, hf⟩ | (rw [Nat.zero_add] at hf; exact ⟨rfl, hf⟩)
end
end Go.Proofs.YthgfmoogagldmaaGreat.RefD
namespace Go.Proofs.YthgfmoogagldmaaGreat.RefD
open Go.RowKit Go.Shelf Disk Journal Go.Proofs.YthgfmoogagldmaaGreat.Frame
section
variable {w w' wr : World} {p sb sc wb base q n c : Nat} {d : DS} {X S T T' : List Nat} {A : Option Addr} {l : List UInt8} {ls : List (List UInt8)} {js : JS}
theorem rjappend_any (hd : IsR X w p sb sc wb base d) (h8 : 8 ≤ d.n) (hj : IsRJ X w p sb wb q js) (hqX : q ∈ X) (hh : js.half = halfD d js.half.gen) (hg : 0 ≤ js.half.gen ∧ js.half.gen ≤ 4611686018427387904) (hll : js.l.length ≤ 100000) (A : Option Addr) (n c : Nat) (l : List UInt8) (hb : Bytes w w.heap.size A n l) (hn : n ≤ 2000) (hnc : n ≤ c) (hcm : c ≤ maxLen) (hfar : 0 < n → ∀ k ∈ blkOf A, k ∉ q :: p :: sb :: wb :: X) (hdn : d.done ≤ 4611686018427300000) :
    Calls Tryz.prog 26 #[.pointer (some ⟨q, 0, none⟩), .slice A n c] w fun x w' => RAct X w p sb sc wb base q (appendJ d js l) x w' := by
  cases ho : js.off with
  | true => exact rjapp_off hd h8 hj hqX hh hg hll A n c l hb hn hnc hcm hfar hdn ho
  | false =>
    by_cases hre : refuseJ js [l] (js.half.room - usedJ js) = 0
    case neg => exact rjapp_full hd h8 hj hqX hh hg hll A n c l hb hn hnc hcm hfar hdn ho hre
    case pos =>
      obtain ⟨⟨D1, b1⟩, hW⟩ : ∃ r, writeR d js.half (usedJ js) js.l.length l false true = r := ⟨_, rfl⟩
      obtain ⟨⟨D2, b2⟩, hS⟩ : ∃ r, synD D1 = r := ⟨_, rfl⟩
      obtain ⟨⟨D3, b3⟩, hM⟩ : ∃ r, wrD D2 (js.half.fr + usedJ js) (putB (markH js.half js.l.length l)) = r := ⟨_, rfl⟩
      obtain ⟨⟨D4, b4⟩, hS2⟩ : ∃ r, synD D3 = r := ⟨_, rfl⟩
      exact rjapp_ok hd h8 hj hqX hh hg hll A n c l hb hn hnc hcm hfar hdn ho hre hW hS hM hS2
end
end Go.Proofs.YthgfmoogagldmaaGreat.RefD
