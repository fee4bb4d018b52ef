/- PackA: slices.Chunk(b, 64): the sectors of b, one behind the other, for every loop body that keeps what Chunk reads; frame.Pack: the sectors it hands back are the document's; The law's same: two lists of sectors. -/
import Derived.Test.YthgfmoogagldmaaGreatFencedq
import Derived.Test.YthgfmoogagldmaaGreatFrameB
import Derived.Stop.RegionWithIn
set_option linter.unusedVariables false
set_option maxRecDepth 100000
namespace Go.Proofs.YthgfmoogagldmaaGreat.Frame
open Go.RowKit Go.Shelf
attribute [local go_sem] Oper.semAt_some
abbrev SecNo (n : Nat) : Type := { k : Nat // 64 * k < n }
def cut (n k : Nat) : Nat := min 64 (n - 64 * k)
def secArg (b off n : Nat) (x : SecNo n) : Array Value := #[.slice (some ⟨b, off + 64 * x.1, none⟩) (cut n x.1) (cut n x.1)]
def upto (n k : Nat) (pre : List (SecNo n)) : Prop := pre.map (·.1) = List.range k
theorem upto.len {n k : Nat} {pre : List (SecNo n)} (h : upto n k pre) : pre.length = k := by
  have := congrArg List.length h
  simpa using this
theorem upto.snoc {n k : Nat} {pre : List (SecNo n)} (h : upto n k pre) (x : SecNo n) (hx : x.1 = k) : upto n (k + 1) (pre ++ [x]) := by
  unfold upto at h ⊢
  rw [List.map_append, h, List.range_succ]
  simp [hx]
set_option maxHeartbeats 2000000 in
theorem chunk1_in (F : Fence) (d : Nat) (h7 : F.fn 156) (hro : F.round = none) (hd : 1 ≤ d) (l Bs Bn n₁ B n b off c : Nat) (hn : n ≤ c ∧ c ≤ maxLen ∧ n ≤ 2000) (hBs : Bs < n₁ ∧ Bs ≠ B) (hBn : Bn < n₁ ∧ Bn ≠ B) (J Jx : List (SecNo n) → World → Prop)
    (hJ : ∀ (s : List (SecNo n)) (X : World), J s X → J s X.drew)
    (hY : ∀ pre x W, J pre W → pre.length < (n + 63) / 64 → YieldAt F (d - 1) Tryz.prog l (secArg b off n x) W fun e W' =>
      (e = .returned (.bool true) ∧ J (pre ++ [x]) W' ∧ KeepsBut n₁ B W W') ∨ (e = .returned (.bool false) ∧ Jx (pre ++ [x]) W'))
    (W : World) (hcs : W.cell? ⟨Bs, 0, none⟩ = some (.slice (some ⟨b, off, none⟩) n c)) (hcn : W.cell? ⟨Bn, 0, none⟩ = some (.int .i64 64)) (h0 : J [] W) :
    CallsIn F d Tryz.prog 156 #[.func (.yield l) #[] #[], .pointer (some ⟨Bs, 0, none⟩), .pointer (some ⟨Bn, 0, none⟩)] W fun e W' => (∃ v, e = .returned v) ∧
      ((∃ ys, upto n ((n + 63) / 64) ys ∧ J ys W') ∨ (∃ pre, True ∧ Jx pre W')) := by
  have hkeep : ∀ X Y : World, KeepsBut n₁ B X Y → ∀ g, g < n₁ ∧ g ≠ B → ∀ v, X.cell? ⟨g, 0, none⟩ = some v → Y.cell? ⟨g, 0, none⟩ = some v := by
    intro X Y hk g hg v hv
    unfold World.cell? at hv ⊢
    simp only [hk.2 g hg.1 hg.2]
    exact hv
  have HK := Lib.hid hkeep
  have hmx : c ≤ maxLen := hn.2.1
  clear hkeep
  have HC := Lib.hid hcn
  refine callsIn_of_wp Tryz.func156 rfl h7 ?_ hro
  simp only [Tryz.ntmps156, List.size_toArray, List.length_cons, List.length_nil, Nat.reduceAdd, Nat.reduceSub, Array.replicate_succ, Array.replicate_zero, List.push_toArray, List.append_toArray, List.nil_append, List.cons_append]
  gi_wp2
  gi_loopw [4] (fun i wr => ∃ (k : Nat) (pre : List (SecNo n)), (64 * k < n + 64) ∧ i = .int .i64 (64 * (k : Int)) ∧ upto n k pre ∧ J pre wr ∧ KeepsBut n₁ B W wr)
    (fun i _ => n + 64 - (intOf i).toNat)
  case atStart => exact ⟨0, [], by omega, rfl, rfl, h0, KeepsBut.refl _ _ _⟩
  case round =>
    obtain ⟨k, pre, hk, rfl, hup, hJs, hkp⟩ := hrel
    have hc1 := HK.out _ _ hkp _ hBs _ hcs
    have hc2 := HK.out _ _ hkp _ hBn _ hcn
    have HKP := Lib.hid hkp
    have HUP := Lib.hid hup
    clear hkp hup
    by_cases hlt : 64 * k < n
    · obtain ⟨e, he⟩ : ∃ e, cut n k = e := ⟨_, rfl⟩
      obtain ⟨fn, tmps, assign, body, hy, hR⟩ := hY pre ⟨k, hlt⟩ wr.drew (hJ _ _ hJs) (by rw [HUP.out.len]; omega)
      unfold secArg at hy
      dsimp only at hy
      rw [he] at hy
      have hmin : (if ((n - 64 * k : Nat) : Int) < 64 then ((n - 64 * k : Nat) : Int) else 64) = (e : Int) := by unfold cut at he; split <;> omega
      have hb : 0 < e ∧ 64 * k + e ≤ n := by unfold cut at he; omega
      have dlt : decide (64 * (k : Int) < (n : Int)) = true := decide_eq_true (by omega)
      have HM := Lib.hid hmin
      clear hmin he
      gi_wp2
      gi_region
      all_goals rw [HM.out]
      all_goals gi_wp2
      all_goals (refine hR.mono ?_; rintro x W3 (⟨rfl, hJ3, hk3⟩ | ⟨rfl, hJx3⟩))
      all_goals first
        | (have hkx := keepsBut_t HKP.out (show KeepsBut n₁ B wr W3 from hk3)
           have hn2 := HK.out _ _ hkx _ hBn _ HC.out
           have HKX := Lib.hid hkx
           have HU := Lib.hid (HUP.out.snoc ⟨k, hlt⟩ rfl)
           clear hk3 hkx hJs hy
           gi_wp2
           go_roundw
           case rel => exact ⟨k + 1, _, by omega, by go_num, HU.out, hJ3, HKX.out⟩
           case measure => simp [intOf]; omega)
        | (gi_wp2
           refine bodyPost_ret (results_none rfl _ _ _) rfl ?_
           exact ⟨⟨_, rfl⟩, .inr ⟨_, trivial, hJx3⟩⟩)
    · have dlt : decide (64 * (k : Int) < (n : Int)) = false := decide_eq_false (by omega)
      gi_wp2
      go_end0
      exact ⟨⟨_, rfl⟩, .inl ⟨_, by rw [show (n + 63) / 64 = k by omega]; exact HUP.out, hJs⟩⟩
end Go.Proofs.YthgfmoogagldmaaGreat.Frame
namespace Go.Proofs.YthgfmoogagldmaaGreat.Frame
open Go.RowKit Go.Shelf
attribute [local go_sem] Oper.semAt_some
set_option maxHeartbeats 1000000 in
theorem chunk1_nil (F : Fence) (d : Nat) (h7 : F.fn 156) (hro : F.round = none) (l Bs Bn c : Nat) (A : Option Addr) (J : List (SecNo 0) → World → Prop)
    (W : World) (hcs : W.cell? ⟨Bs, 0, none⟩ = some (.slice A 0 c)) (h0 : J [] W) :
    CallsIn F d Tryz.prog 156 #[.func (.yield l) #[] #[], .pointer (some ⟨Bs, 0, none⟩), .pointer (some ⟨Bn, 0, none⟩)] W fun e W' => (∃ v, e = .returned v) ∧ J [] W' := by
  refine callsIn_of_wp Tryz.func156 rfl h7 ?_ hro
  simp only [Tryz.ntmps156, List.size_toArray, List.length_cons, List.length_nil, Nat.reduceAdd, Nat.reduceSub, Array.replicate_succ, Array.replicate_zero, List.push_toArray, List.append_toArray, List.nil_append, List.cons_append]
  gi_wp2
  gi_loopw [4] (fun i wr => i = .int .i64 0 ∧ wr = W) (fun _ _ => 0)
  case atStart => exact ⟨rfl, rfl⟩
  case round =>
    obtain ⟨rfl, rfl⟩ := hrel
    gi_wp2
    go_end0
    exact ⟨⟨_, rfl⟩, h0⟩
theorem chunk_stops (F : Fence) (d : Nat) (h7 : F.fn 156) (hro : F.round = none) (hd : 1 ≤ d) (Bs Bn n₁ B n b off c : Nat) (A : Option Addr) (hA : n = 0 ∨ A = some ⟨b, off, none⟩) (hn : n ≤ c ∧ c ≤ maxLen ∧ n ≤ 2000) (hBs : Bs < n₁ ∧ Bs ≠ B) (hBn : Bn < n₁ ∧ Bn ≠ B)
    (w : World) (hn₁ : n₁ ≤ w.heap.size) (hcs : w.cell? ⟨Bs, 0, none⟩ = some (.slice A n c)) (hcn : w.cell? ⟨Bn, 0, none⟩ = some (.int .i64 64)) :
    SeqStopsK F d Tryz.prog 156 #[.pointer (some ⟨Bs, 0, none⟩), .pointer (some ⟨Bn, 0, none⟩)] (secArg b off n) (KeepsBut n₁ B) (fun ys => upto n ((n + 63) / 64) ys) (fun _ => True) ((n + 63) / 64) w := fun l J Jx W hW hJ hJx hY h0 => by
  have hc1 := (hW.cell (p := ⟨Bs, 0, none⟩) (Nat.lt_of_lt_of_le hBs.1 hn₁)).trans hcs
  have hc2 := (hW.cell (p := ⟨Bn, 0, none⟩) (Nat.lt_of_lt_of_le hBn.1 hn₁)).trans hcn
  rcases Nat.eq_zero_or_pos n with rfl | hp
  · exact (chunk1_nil F d h7 hro l Bs Bn c A J W hc1 h0).mono fun e W' ⟨he, hj⟩ => ⟨he, .inl ⟨[], rfl, hj⟩⟩
  · obtain rfl : A = some ⟨b, off, none⟩ := hA.resolve_left (by omega)
    exact chunk1_in F d h7 hro hd l Bs Bn n₁ B n b off c hn hBs hBn J Jx (fun s X hs => hJ s X X.drew none hs ⟨rfl, rfl, rfl, Nat.le_refl _, fun _ _ _ => rfl⟩ (by simp)) hY W hc1 hc2 h0
set_option maxHeartbeats 1000000 in
theorem chunk_in (F : Fence) (d : Nat) (h5 : F.fn 139) (hro : F.round = none) (A : Option Addr) (n c : Nat) (w : World) :
    CallsIn F d Tryz.prog 139 #[.slice A n c, .int .i64 64] w fun e w' => e = .returned (.func (.func 156) #[] #[.pointer (some ⟨w.heap.size, 0, none⟩), .pointer (some ⟨w.heap.size + 1, 0, none⟩)]) ∧ w' = (w.alloc (.cells #[.slice A n c] 35)).alloc (.cells #[.int .i64 64] 3) := by
  refine callsIn_of_wp Tryz.func139 rfl h5 ?_ hro
  simp only [Tryz.ntmps139, List.size_toArray, List.length_cons, List.length_nil, Nat.reduceAdd, Nat.reduceSub, Array.replicate_succ, Array.replicate_zero, List.push_toArray, List.append_toArray, List.nil_append, List.cons_append]
  gi_wp2
  go_ret
  exact ⟨by simp, rfl⟩
theorem row_blks {w : World} {base e size n : Nat} {v : Value} {rows : List (List Value)} (h : OwnR e size w base v n rows) : ∀ g ∈ ownL v, base ≤ g ∧ ∃ t cs, Blk w g t cs := by
  intro g hg
  refine ⟨(h.lt g hg).1, ?_⟩
  obtain ⟨_, h0⟩ := h.own
  rcases h0 with ⟨rfl, _⟩ | ⟨g', cap, cur, rfl, _, hh, _⟩
  · simp [ownL, Value.ownBlock] at hg
  · simp [ownL, Value.ownBlock] at hg
    subst hg
    exact ⟨_, _, hh⟩
theorem row_copied (s : List UInt8) (hs : s.length ≤ 64) : ((((fill s 0).map B8).toArray.toList.take 0 ++ (s.map B8 ++ ((fill s 0).map B8).toArray.toList.drop (0 + (s.map B8).length))).toArray) = ((pad s).map B8).toArray := by
  apply Array.ext'
  have h : (fill s 0).drop s.length = List.replicate (64 - s.length) 0 := by
    unfold fill
    rw [List.take_zero, List.nil_append, List.drop_replicate]
  show _ = (pad s).map B8
  rw [List.take_zero, List.nil_append, List.length_map, Nat.zero_add]
  show s.map B8 ++ ((fill s 0).map B8).drop s.length = _
  rw [← List.map_drop, h, ← List.map_append]
  unfold pad
  congr 1
  unfold fill
  rw [List.take_of_length_le (Nat.le_refl _)]
theorem pack_upto (l : List UInt8) (n : Nat) (hl : l.length = n) (ys : List (SecNo n)) (h : upto n ((n + 63) / 64) ys) : (ys.map fun x => pad (sec l x.1)) = pack l (needZ l.length).toNat := by
  have hz : (needZ l.length).toNat = (n + 63) / 64 := by
    rw [hl]
    unfold needZ
    split <;> omega
  rw [hz]
  unfold pack
  rw [← h, List.map_map]
  rfl
theorem wpListIn_copy_new {P : Program} {F : Fence} {d : Nat} {w : World} {ops : Array Oper} {rest : List Oper} {o : Oper} {a : Act} {Q : Exit → Act → World → Prop} (hgd : o.guard = none) (p s : Operand) (dT sT : TypeId)
    (ho : o.op = .call { callee := .builtin .copy, args := #[p, s], argTypes := #[dT, sT] }) (elem : TypeId) (hu : P.underlying dT = some (.slice elem)) (hsz : (P.info? elem).map (·.size) = some 1)
    (g : Nat) (ad : Addr) (sLen sCap : Nat) (hd : a.eval p = .slice (some ⟨g, 0, none⟩) 64 64) (hs : a.eval s = .slice (some ad) sLen sCap)
    (t : TypeId) (S : List UInt8) (hS : S.length = sLen) (h64 : sLen ≤ 64) (hg : Blk w g t ((fill S 0).map B8).toArray)
    (hsrc : ∀ j v, (S.map B8)[j]? = some v → w.cell? (ad.add j) = some v)
    (h : ∀ w3, Only [g] w w3 → Blk w3 g t ((pad S).map B8).toArray → wpListIn F d P ops Q rest (a.put o.dst (goInt S.length)) w3) : wpListIn F d P ops Q (o :: rest) a w := by
  have hl : (S.map B8).length = S.length := List.length_map _
  refine wpListIn_copy_row hgd p s dT sT ho elem hu hsz g 0 64 64 ad sLen sCap hd hs _ t hg (S.map B8) (by rw [hl, hS]; exact (Nat.min_eq_left h64).symm) hsrc ?_ (fun v hv => by obtain ⟨c, _, rfl⟩ := List.mem_map.1 hv; rfl) ?_
  · rw [hl, Nat.zero_add]
    simp [fill_len S 0 (Nat.zero_le _) (by omega)]
    omega
  · rw [row_copied S (by omega), hl]
    exact h _ ((Only.refl [g] w).setRow (.inl (by simp)) _) (setRow_heap w g _ _ t (0, 0) hg)
def Halt (p : Prop) : Prop := p
theorem halt {p : Prop} (h : Halt p) : p := h
def InvP (w : World) (n₁ : Nat) (l : List UInt8) (n : Nat) (pre : List (SecNo n)) (W : World) : Prop :=
  ∃ (v : Value) (ss : List Sl), Boxed W w.heap.size 34 v ∧ OwnR 35 1 W n₁ v ss.length (ss.map fun s => [s.val]) ∧ (∀ s ∈ ss, SecAt W s) ∧ ss.map (·.l) = pre.map (fun x => pad (sec l x.1)) ∧ Only [] w W ∧ n₁ ≤ W.heap.size
theorem InvP.own (w : World) (n₁ : Nat) (l : List UInt8) (n : Nat) (hn : w.heap.size < n₁) : OwnFrom n₁ (InvP w n₁ l n) := by
  rintro pre W W' row ⟨v, ss, hv, hrow, hsec, hmap, ho, hsz⟩ hg hr
  have hne : ∀ g t cs, Blk W g t cs → g ∉ row.toList := by
    intro g t cs hb hm
    have : row = some g := by simpa using hm
    obtain ⟨_, o, h1, h2⟩ := hr g this
    unfold Blk at hb
    rw [hb] at h1
    cases h1
    cases h2
  refine ⟨v, ss, hv.kept hg (fun e => by have := (hr _ e.symm).1; omega), hrow.only (Only.of_grown hg) (fun g hg' => by obtain ⟨_, t, cs, hb⟩ := row_blks hrow g hg'; exact hne g t cs hb), fun s hs => (hsec s hs).only (Only.of_grown hg) (fun g ⟨t, cs, _, hb⟩ => hne g t cs hb), hmap, ho.trans (Only.of_grown hg) (fun g hg' => by
    have : row = some g := by simpa using hg'
    have := (hr _ this).1
    exact .inr (by omega)), Nat.le_trans hsz hg.size⟩
set_option maxHeartbeats 2000000 in
theorem pack_any (A : Option Addr) (n c : Nat) (l : List UInt8) (w : World) (hr : Bytes w w.heap.size A n l) (hn : n ≤ 2000) (hnc : n ≤ c) (hcm : c ≤ maxLen) :
    Calls Tryz.prog 109 #[.slice A n c] w fun x w' => packOut l w x w' := by
  refine (callsIn_wide (n := 4)).1 ?_
  have HL := Lib.hid hr.len
  obtain ⟨b, off, hA⟩ : ∃ b off, n = 0 ∨ A = some ⟨b, off, none⟩ := by
    rcases Nat.eq_zero_or_pos n with h | h
    · exact ⟨0, 0, .inl h⟩
    · obtain ⟨b, off, hA, _⟩ := hr.at_ (k := 0) h
      exact ⟨b, off, .inr hA⟩
  have d1 : decide ((1048576 : Int) < (n : Int)) = false := decide_eq_false (by omega)
  have HA := Lib.hid hA
  have HR := Lib.hid hr
  clear hA hr
  refine callsIn_of_wp_marks Tryz.func109 rfl trivial ?_ rfl
  simp only [Tryz.ntmps109, List.size_toArray, List.length_cons, List.length_nil, Nat.reduceAdd, Nat.reduceSub, Array.replicate_succ, Array.replicate_zero, List.push_toArray, List.append_toArray, List.nil_append, List.cons_append]
  gi_wp2_with (refine ⟨trivial, ?_⟩; gi_at_call 139; refine (chunk_in Fence.wide _ trivial rfl _ _ _ _).mono ?_; rintro e w' ⟨rfl, rfl⟩)
  have bO := Boxed.new w 34 (.slice none 0 0)
  have bS := Boxed.new (w.alloc (.cells #[.slice none 0 0] 34)) 35 (.slice A n c)
  have bN := Boxed.new ((w.alloc (.cells #[.slice none 0 0] 34)).alloc (.cells #[.slice A n c] 35)) 3 (.int .i64 64)
  rw [World.size_alloc] at bS bN
  rw [World.size_alloc] at bN
  have bS := bS.alloc (.cells #[.int .i64 64] 3)
  have bO := (bO.alloc (.cells #[.slice A n c] 35)).alloc (.cells #[.int .i64 64] 3)
  have hO0 : Only [] w (((w.alloc (.cells #[.slice none 0 0] 34)).alloc (.cells #[.slice A n c] 35)).alloc (.cells #[.int .i64 64] 3)) := (((Only.refl [] w).alloc _).alloc _).alloc _
  obtain ⟨W0, hW0⟩ : ∃ W0, (((w.alloc (.cells #[.slice none 0 0] 34)).alloc (.cells #[.slice A n c] 35)).alloc (.cells #[.int .i64 64] 3)) = W0 := ⟨_, rfl⟩
  have hsz : W0.heap.size = w.heap.size + 3 := by rw [← hW0]; simp
  rw [hW0] at bO bS bN hO0 ⊢
  clear hW0
  refine wpIn_rangeFunc_ownG rfl (by omega) (gf := 156) (lb := #[.pointer (some ⟨w.heap.size + 1, 0, none⟩), .pointer (some ⟨w.heap.size + 1 + 1, 0, none⟩)]) rfl trivial (enters_of Tryz.func156 (by kernel_rfl) rfl)
    (chunk_stops Fence.wide _ trivial rfl (by omega) (w.heap.size + 1) (w.heap.size + 1 + 1) W0.heap.size w.heap.size n b off c A HA.out ⟨hnc, hcm, hn⟩ (by omega) (by omega) W0 (Nat.le_refl _) bS.cell bN.cell) keepsBut_t (keepsBut_b (Nat.le_refl _)) (Below.refl _ _) (fun _ => rfl)
    (InvP w W0.heap.size l n) (fun _ _ _ => False) (InvP.own w W0.heap.size l n (by omega)) (fun _ _ _ _ _ hs _ _ => hs)
    ⟨_, [], bO, OwnR.nil_ _ _ _ _, by simp, rfl, hO0, Nat.le_refl _⟩
    (fun x => { tmps := #[.slice A n c, undef, .slice none 0 0, .pointer (some ⟨w.heap.size, 0, none⟩), (.slice (some ⟨b, off + 64 * x.1, none⟩) (cut n x.1) (cut n x.1)), undef, .slice A n c, .int .i64 n, .bool false, .slice A n c, .func (.func 156) #[] #[.pointer (some ⟨w.heap.size + 1, 0, none⟩), .pointer (some ⟨w.heap.size + 1 + 1, 0, none⟩)], (.slice (some ⟨b, off + 64 * x.1, none⟩) (cut n x.1) (cut n x.1)), undef, undef, undef, undef, undef, undef, undef, undef, undef], defers := [] }) ?assign ?body ?done ?stop
  case assign =>
    intro l x W K hK
    unfold secArg
    gi_wp2
    exact hK
  case body =>
    rintro lp pre x W ⟨v, ss, hv, hrow, hsec, hmap, ho, hn₁⟩ hlt
    obtain ⟨k, hk⟩ := x
    have hc := hv.cell
    have hWs := ho.size
    have hbl : n = 0 ∨ b < w.heap.size := by
      rcases HA.out with h | h
      · exact .inl h
      · obtain ⟨b', off', hA', hb', _⟩ := HR.out.at_ (k := 64 * k) hk
        rw [h] at hA'
        cases hA'
        exact .inr hb'
    have hsrc0 : ∀ W2, Only [] W W2 → ∀ j u, ((sec l k).map B8)[j]? = some u → W2.cell? (Addr.add ⟨b, off + 64 * k, none⟩ j) = some u := by
      intro W2 h2 j u hu
      have hj : j < (sec l k).length := by
        rcases Nat.lt_or_ge j (sec l k).length with h | h
        · exact h
        · rw [List.getElem?_eq_none (by rw [List.length_map]; exact h)] at hu; cases hu
      have hz := sec_size l k
      rw [HL.out] at hz
      have hjn : 64 * k + j < n := by omega
      obtain ⟨b', off', hA', hb', hcj⟩ := HR.out.at_ (k := 64 * k + j) hjn
      rcases HA.out with h | h
      · omega
      · rw [h] at hA'
        cases hA'
        have := (sec_at l k j (by omega) (by rw [HL.out]; exact hjn)).2
        rw [List.getElem?_map, List.getElem?_eq_getElem hj] at hu
        cases hu
        rw [add_block, Nat.add_assoc]
        refine h2.cell (ho.cell ?_ (by simp)) (by simp)
        rw [hcj, ← this, List.getD_eq_getElem?_getD, List.getElem?_eq_getElem hj]
        rfl
    have hcut : (sec l k).length = cut n k := by rw [sec_size, HL.out]; rfl
    have hce : 0 < cut n k ∧ cut n k ≤ 64 := by unfold cut; omega
    have hss : ss.length ≤ 40 := by
      have h1 := congrArg List.length hmap
      rw [List.length_map, List.length_map] at h1
      omega
    have HS := Lib.hid hsrc0
    have HCUT := Lib.hid hcut
    have HSEC := Lib.hid hsec
    have HMAP := Lib.hid hmap
    clear hsrc0 hcut hsec hmap
    generalize cut n k = e at *
    gi_wp2_with (first
      | (gi_at_make; refine wpListIn_make_full (w := W) rfl _ _ 35 rfl W.heap.size 5 Tryz.underlying35 byte_info _ _ _ _ 64 rfl rfl rfl rfl (by decide) (by decide) (Nat.le_refl _) ?_; intro w2 hmk hgk; have hbm := made_blk (sec l k) hmk; have hom : Only [] W w2 := Only.of_grown hgk)
      | (refine wpListIn_copy_new (o := ⟨some 15, _, _, _, _, none⟩) rfl _ _ 35 35 rfl 5 Tryz.underlying35 (by kernel_rfl) W.heap.size _ e e rfl rfl 5 (sec l k) HCUT.out hce.2 hbm (HS.out _ hom) ?_; intro w3 ho3 hb3; have ho33 : Only [] W w3 := hom.trans ho3 (by simp); have hr3 := hrow.only ho33 (by simp); have hc3 := ho33.cell hc (by simp); have hz3 := ho33.size)
      | (gi_at_builtin; refine halt ?_))
    unfold Halt
    refine wpListIn_append1 (w := w3) rfl _ _ 34 rfl Tryz.underlying34 sl_info rfl (by decide) rfl hr3 rfl rfl (row := [(⟨some ⟨W.heap.size, 0, none⟩, 64, 64, pad (sec l k)⟩ : Sl).val]) rfl rfl (by intro u hu; rw [List.mem_singleton.1 hu]; rfl) (by omega) (by unfold maxLen; omega) (by omega) ?_
    intro v' w4 hE
    obtain ⟨g', cap', rfl⟩ := ownsRow_succ hE.own.own
    have hvv : ∃ v', v' = Value.slice (some ⟨g', 0, none⟩) (ss.length + 1) cap' := ⟨_, rfl⟩
    have hbt := Blk.only (show Blk W w.heap.size 34 #[v] from hv) ho33 (by simp)
    have hBv := row_ne hr3 w.heap.size hbt (by decide)
    have hb4 : Boxed w4 w.heap.size 34 v := hbt.only hE.only hBv
    have hc4 := hb4.cell
    have hf4 := hb4.frozen
    gi_wp2
    obtain ⟨v', hv'⟩ := hvv
    rw [← hv'] at hE ⊢
    have h4 : Only (ownL v) W w4 := (ho33.mono (fun g hg => by cases hg)).trans hE.only (fun g hg => .inl hg)
    have h5 : Only (w.heap.size :: ownL v) W (w4.setCell ⟨w.heap.size, 0, none⟩ v') := (h4.mono (fun g hg => .inl (List.mem_cons_of_mem _ hg))).setCell (p := ⟨w.heap.size, 0, none⟩) (.inl (List.mem_cons_self ..)) _
    have h43 : Only (w.heap.size :: ownL v) w3 (w4.setCell ⟨w.heap.size, 0, none⟩ v') := (hE.only.mono (fun g hg => .inl (List.mem_cons_of_mem _ hg))).setCell (p := ⟨w.heap.size, 0, none⟩) (.inl (List.mem_cons_self ..)) _
    have hcells : ∀ g ∈ w.heap.size :: ownL v, ∃ t cs, Blk W g t cs := by
      intro g hg
      rcases List.mem_cons.1 hg with rfl | hg
      · exact ⟨_, _, hv⟩
      · exact (row_blks hrow g hg).2
    have hnot : ∀ s : Sl, SecAt w3 s → SecAt (w4.setCell ⟨w.heap.size, 0, none⟩ v') s := by
      intro s hs
      refine hs.only h43 ?_
      rintro g ⟨t, cs, rfl, hb⟩ hm
      rcases List.mem_cons.1 hm with h | hm
      · exact Blk.ne_ hb hbt (by decide) h
      · exact row_ne hr3 g hb (by decide) hm
    refine ⟨(h5.others hcells).from _, h5.keepsBut hn₁ ?_, v', ss ++ [⟨some ⟨W.heap.size, 0, none⟩, 64, 64, pad (sec l k)⟩], hb4.set v', ?_, ?_, ?_, ?_, ?_⟩
    · intro g hg
      rcases List.mem_cons.1 hg with h | hg
      · exact .inl h
      · exact .inr (row_blks hrow g hg).1
    · rw [List.length_append, List.map_append]
      exact hE.own.only ((Only.refl [w.heap.size] w4).setCell (p := ⟨w.heap.size, 0, none⟩) (.inl (by simp)) _) (fun g hg hm => by
        rw [List.mem_singleton.1 hm] at hg
        exact row_ne hE.own w.heap.size hb4 (by decide) hg)
    · intro s hs
      refine hnot s ?_
      rcases List.mem_append.1 hs with hs | hs
      · exact (HSEC.out s hs).only ho33 (by simp)
      · rw [List.mem_singleton.1 hs]
        exact ⟨W.heap.size, rfl, rfl, rfl, hb3, by unfold pad; exact fill_len (sec l k) _ (Nat.le_refl _) (by rw [HCUT.out]; omega)⟩
    · rw [List.map_append, List.map_append, HMAP.out]
      rfl
    · exact ho.trans h5 (fun g hg => by
        rcases List.mem_cons.1 hg with h | hg
        · exact .inr (by omega)
        · exact .inr (by have := (row_blks hrow g hg).1; omega))
    · exact Nat.le_trans hn₁ h5.size
  case done =>
    rintro D ys W hD hup hI hK
    have hI2 := (InvP.own w W0.heap.size l n (by omega)).putObj (.deferred none) hI hD hK rfl
    obtain ⟨v, ss, hv, _⟩ := hI
    have hc := hv.cell
    gi_wp2
    refine ⟨by simp, .inl ⟨_, _, rfl, run_takeDeferred hK, ?_⟩⟩
    obtain ⟨v', ss, hv', hrow, hsec, hmap, ho, _⟩ := hI2
    obtain rfl : v' = v := by
      have := (hv.kept (grownBy_putObj' W D (.deferred none)) (by simp; omega)).cell
      rw [hv'.cell] at this
      exact Option.some.inj this
    exact ⟨_, results_tmp rfl _ _ _, v', ss, rfl, hrow.mono (by omega), hsec, by rw [hmap, pack_upto l n HL.out ys hup], ho⟩
  case stop =>
    rintro D c pre W _ _ h _
    exact h.elim
end Go.Proofs.YthgfmoogagldmaaGreat.Frame
namespace Go.Proofs.YthgfmoogagldmaaGreat.Frame
open Go.RowKit
theorem Reads.sl {w : World} {B m : Nat} {A : Option Addr} {ss : List Sl} (hr : Reads w B 1 A m (ss.map Sl.val)) (k : Nat) (hk : k < m) : ∃ b off, A = some ⟨b, off, none⟩ ∧ b < B ∧ ∃ s ∈ ss, ss[k]? = some s ∧ w.cell? ⟨b, off + k, none⟩ = some (.slice s.A s.n s.c) := by
  obtain ⟨b, off, e, hb, hc⟩ := Reads.at1 hr hk
  have hl : ss.length = m := by simpa using hr.1
  rw [List.getElem?_map, List.getElem?_eq_getElem (by omega)] at hc
  exact ⟨b, off, e, hb, _, List.getElem_mem (by omega), List.getElem?_eq_getElem (by omega), hc⟩
end Go.Proofs.YthgfmoogagldmaaGreat.Frame
