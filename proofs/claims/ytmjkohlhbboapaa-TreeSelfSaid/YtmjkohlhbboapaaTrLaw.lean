/- TreeSelf's walk. PRINTED by wip/gen_trlaw.py. -/
import Derived.Test.YtmjkohlhbboapaaTrKnows
import Derived.Test.YtmjkohlhbboapaaTrLight2
import Derived.Test.YtmjkohlhbboapaaTrSame2
namespace Go.Proofs.Ytmjkohlhbboapaa.Tree
open Go.RowKit Go.Shelf
set_option linter.unusedVariables false
set_option maxRecDepth 100000
def sE (e : XT) : ST := .mk 6 ⟨#[]⟩ e none 0 [] none 0 []
def fE (e : XT) (k : Nat) : FT := ⟨⟨#[]⟩, none, 0, [], 0, some ⟨k, 0, none⟩, 1, [sE e]⟩
def dE (e : XT) (k l : Nat) : DT := ⟨⟨#[112]⟩, none, 0, [], some ⟨l, 0, none⟩, 1, [fE e k]⟩
theorem fE_in {w : World} {e : XT} {k B d : Nat} (hx : XT.In w B (d + 1) e) (h : Recs w B 9 (some ⟨k, 0, none⟩) 1 [(sE e).row]) : FT.In w B (d + 1) (fE e k) :=
  ⟨⟨Recs.nil_, by simp [maxLen, fE]⟩, ⟨h, by simp [maxLen, fE]⟩, fun y hy => by
    rw [List.mem_singleton.1 hy]
    exact ⟨hx, ⟨Recs.nil_, by simp [maxLen, sE, ST.body]⟩, ⟨Recs.nil_, by simp [maxLen, sE, ST.els]⟩, (fun y hy => by cases hy), (fun y hy => by cases hy)⟩⟩
theorem dE_in {w : World} {e : XT} {k l B d : Nat} (hf : FT.In w B d (fE e k)) (h : Recs w B 4 (some ⟨l, 0, none⟩) 1 [(fE e k).row]) : DT.In w B d (dE e k l) :=
  ⟨⟨Recs.nil_, by simp [maxLen, dE]⟩, ⟨h, by simp [maxLen, dE]⟩, fun y hy => by
    rw [List.mem_singleton.1 hy]
    exact hf⟩
theorem xor_ne (n : Int) : (n == bits .xor .i64 n 1) = false := by
  rw [beq_eq_false_iff_ne]
  intro h
  unfold bits at h
  simp only at h
  obtain ⟨u, hu⟩ : ∃ u, BitVec.ofInt 64 n ^^^ BitVec.ofInt 64 1 = u := ⟨_, rfl⟩
  have h : n = IntKind.i64.wrap (u.toNat : Int) := by rw [← hu]; exact h
  rw [IntKind.wrap_i64] at h
  have hlt := u.isLt
  have hv : (BitVec.ofInt 64 n).toNat = u.toNat := by
    rw [BitVec.toNat_ofInt]
    omega
  have hv2 : BitVec.ofInt 64 n = u := BitVec.eq_of_toNat_eq hv
  have h0 := congrArg (fun b : BitVec 64 => b.getLsbD 0) hu
  rw [hv2] at h0
  simp at h0
/-- the expression with another number; one about it -/
def xE (e : XT) (m : Int) : XT := .mk e.op m e.s e.q e.A e.c e.X
def nE (e : XT) (k : Nat) : XT := .mk 6 0 ⟨#[]⟩ ⟨#[]⟩ (some ⟨k, 0, none⟩) 1 [e]
theorem xE_in {w : World} {B d : Nat} {e : XT} (m : Int) (h : XT.In w B (d + 1) e) : XT.In w B (d + 1) (xE e m) := h
theorem nE_in {w : World} {B d k : Nat} {e : XT} (h : XT.In w B d e) (hr : Recs w B 5 (some ⟨k, 0, none⟩) 1 [e.row]) : XT.In w B (d + 1) (nE e k) :=
  ⟨hr, by simp [maxLen, nE, XT.X], fun y hy => by
    rw [List.mem_singleton.1 hy]
    exact h⟩
theorem ne_x {d : Nat} {e : XT} {m : Int} (h : (e.n == m) = false) : sameX d e (xE e m) = false := by
  cases d with
  | zero => rfl
  | succ d =>
    unfold sameX
    rw [show (xE e m).n = m from rfl, h]
    simp
theorem ne_n {w : World} {B d k : Nat} {e : XT} (h : XT.In w B (d + 2) (nE e k)) : sameX (d + 1) e (nE e k) = false := by
  cases hs : sameX (d + 1) e (nE e k) with
  | false => rfl
  | true =>
    have h1 := sameX_cnt hs h
    have h2 : cntX (d + 2) (nE e k) = 1 + (cntX (d + 1) e + 0) := by
      show 1 + ((nE e k).X.map (cntX (d + 1))).sum = _
      rfl
    omega
theorem ne_nn {d k l : Nat} {e f : XT} (h : sameX d e f = false) : sameX (d + 1) (nE e k) (nE f l) = false := by
  unfold sameX
  rw [show sameL (sameX d) (nE e k).X (nE f l).X = (sameX d e f && true) from rfl, h]
  simp
theorem row_empty {e size : Nat} (w : World) : OwnR e size (w.alloc (.cells #[] e)) w.heap.size (.slice (some ⟨w.heap.size, 0, none⟩) 0 0) 0 [] := by
  refine ⟨rfl, by simp, ⟨by simp, .inr ⟨w.heap.size, 0, #[], rfl, Nat.le_refl _, ?_, Nat.le_refl _, by simp [maxLen], by simp, by simp⟩⟩⟩
  exact heap_alloc_new w _
theorem func_info : (Try.prog.info? 35).map (fun i => (i.zero, i.size, i.bytes)) = some (some (.agg #[.string ⟨#[]⟩, .slice none 0 0, .int .u8 0, .slice none 0 0]), 4, 72) := by kernel_rfl
theorem ft_len {l : List FT} : ∀ r ∈ l.map FT.row, r.length = 4 := by
  intro r hr
  obtain ⟨y, _, rfl⟩ := List.mem_map.1 hr
  rfl
theorem ft_cells {l : List FT} : ∀ r ∈ l.map FT.row, ∀ u ∈ r, u.oneCell' = true := by
  intro r hr u hu
  obtain ⟨y, _, rfl⟩ := List.mem_map.1 hr
  simp only [FT.row, List.mem_cons, List.not_mem_nil, or_false] at hu
  rcases hu with rfl | rfl | rfl | rfl <;> rfl
theorem cnt_more {d : Nat} {a b : DT} {f : FT} (cA : Option Addr) (cc : Nat) {l : List FT} (hl : l = a.fs ++ [f]) (hb : b.fs = [f]) (h1 : cntD d a ≤ 400) (h2 : cntD d b ≤ 400) :
    min (cntD d a) (1000 + 1) < min (cntD d ⟨a.name, a.iA, a.ic, a.imps, cA, cc, l⟩) (1000 + 1) := by
  have h3 : cntD d b = cntF d f + 0 := by unfold cntD; rw [hb]; rfl
  have h4 : cntD d ⟨a.name, a.iA, a.ic, a.imps, cA, cc, l⟩ = cntD d a + (cntF d f + 0) := by
    unfold cntD
    simp only
    rw [hl, List.map_append, List.sum_append]
    rfl
  have h5 : 1 ≤ cntF d f := by unfold cntF; omega
  omega
set_option maxHeartbeats 16000000 in
theorem law_any (d : Nat) (a : DT) (e : XT) (w : World) (ha : DT.In w w.heap.size (d + 1) a) (he : XT.In w w.heap.size (d + 1) e) :
    Calls Try.prog 3 #[a.val, e.val] w fun y W => y = .returned (.bool true) ∧ Only [] w W := by
  obtain ⟨w1, hw1⟩ : ∃ w1, w.alloc (.cells #[.string a.name, .slice a.iA a.imps.length a.ic, .slice a.fA a.fs.length a.fc] 25) = w1 := ⟨_, rfl⟩
  have b1 : Blk w1 w.heap.size 25 #[.string a.name, .slice a.iA a.imps.length a.ic, .slice a.fA a.fs.length a.fc] := by rw [← hw1]; exact Blk.new w _ _
  have o1 : Only [] w w1 := by rw [← hw1]; exact (Only.refl [] w).alloc _
  have lw1 := b1.lt
  have sw1 := o1.size
  obtain ⟨w2, hw2⟩ : ∃ w2, w1.alloc (.cells #[.int .i64 e.op, .int .i64 e.n, .string e.s, .string e.q, .slice e.A e.X.length e.c] 28) = w2 := ⟨_, rfl⟩
  have b2 : Blk w2 w1.heap.size 28 #[.int .i64 e.op, .int .i64 e.n, .string e.s, .string e.q, .slice e.A e.X.length e.c] := by rw [← hw2]; exact Blk.new w1 _ _
  have o2 : Only [] w1 w2 := by rw [← hw2]; exact (Only.refl [] w1).alloc _
  have lw2 := b2.lt
  have sw2 := o2.size
  obtain ⟨w3, hw3⟩ : ∃ w3, w2.alloc (.cells #[.int .i64 6, .string ⟨#[]⟩, .int .i64 e.op, .int .i64 e.n, .string e.s, .string e.q, .slice e.A e.X.length e.c, .slice none 0 0, .slice none 0 0] 31) = w3 := ⟨_, rfl⟩
  have b3 : Blk w3 w2.heap.size 31 #[.int .i64 6, .string ⟨#[]⟩, .int .i64 e.op, .int .i64 e.n, .string e.s, .string e.q, .slice e.A e.X.length e.c, .slice none 0 0, .slice none 0 0] := by rw [← hw3]; exact Blk.new w2 _ _
  have o3 : Only [] w2 w3 := by rw [← hw3]; exact (Only.refl [] w2).alloc _
  have lw3 := b3.lt
  have sw3 := o3.size
  obtain ⟨w4, hw4⟩ : ∃ w4, w3.alloc (.cells #[.string ⟨#[]⟩, .slice none 0 0, .int .u8 0, .slice (some ⟨w2.heap.size, 0, none⟩) 1 1] 35) = w4 := ⟨_, rfl⟩
  have b4 : Blk w4 w3.heap.size 35 #[.string ⟨#[]⟩, .slice none 0 0, .int .u8 0, .slice (some ⟨w2.heap.size, 0, none⟩) 1 1] := by rw [← hw4]; exact Blk.new w3 _ _
  have o4 : Only [] w3 w4 := by rw [← hw4]; exact (Only.refl [] w3).alloc _
  have lw4 := b4.lt
  have sw4 := o4.size
  obtain ⟨w5, hw5⟩ : ∃ w5, w4.alloc (.cells #[.string ⟨#[112]⟩, .slice none 0 0, .slice (some ⟨w3.heap.size, 0, none⟩) 1 1] 25) = w5 := ⟨_, rfl⟩
  have b5 : Blk w5 w4.heap.size 25 #[.string ⟨#[112]⟩, .slice none 0 0, .slice (some ⟨w3.heap.size, 0, none⟩) 1 1] := by rw [← hw5]; exact Blk.new w4 _ _
  have o5 : Only [] w4 w5 := by rw [← hw5]; exact (Only.refl [] w4).alloc _
  have lw5 := b5.lt
  have sw5 := o5.size
  have o45 := o4.trans o5 (by simp)
  have o35 := o3.trans o45 (by simp)
  have o25 := o2.trans o35 (by simp)
  have ho5 := o1.trans o25 (by simp)
  have HA5 : Hid (DT.In w5 w5.heap.size (d + 1) a) := Lib.hid (ha.only ho5 (by omega))
  have HE5 : Hid (XT.In w5 w5.heap.size (d + 1) e) := Lib.hid (he.only ho5 (by omega))
  have HS5 : Hid (Recs w5 w5.heap.size 9 (some ⟨w2.heap.size, 0, none⟩) 1 [(sE e).row]) := Lib.hid (recs_one (row := (sE e).row) (b3.only o45 (by simp)) (by omega))
  have HF5 : Hid (Recs w5 w5.heap.size 4 (some ⟨w3.heap.size, 0, none⟩) 1 [(fE e w2.heap.size).row]) := Lib.hid (recs_one (row := (fE e w2.heap.size).row) (b4.only o5 (by simp)) (by omega))
  have HFF5 : Hid (FT.In w5 w5.heap.size (d + 1) (fE e w2.heap.size)) := Lib.hid (fE_in HE5.out HS5.out)
  have HD5 : Hid (DT.In w5 w5.heap.size (d + 1) (dE e w2.heap.size w3.heap.size)) := Lib.hid (dE_in HFF5.out HF5.out)
  have HB5 := Lib.hid (And.intro (b1.only o25 (by simp)) (And.intro (b2.only o35 (by simp)) b5))
  have HK := Lib.hid (fun wx => knows_any wx)
  have HOW5 := Lib.hid ho5
  have HL := Lib.hid (light_any (d + 1) a 400 w5 HA5.out (by omega))
  have p0 := b2.cell 0
  have p1 := b2.cell 1
  have p2 := b2.cell 2
  have p3 := b2.cell 3
  have p4 := b2.cell 4
  clear b1 b2 b3 b4 b5 o1 o2 o3 o4 o5 o45 o35 o25 ho5 lw1 lw2 lw3 lw4 lw5 sw1 sw2 sw3 sw4 sw5 ha he
  unfold DT.val XT.val
  go_enter Try.func3, Try.ntmps3
  go_upto_region 2 with fail
  clear p0 p1 p2 p3 p4 hw1 hw2 hw3 hw4 hw5
  have b6 := HB5.out.1
  have p0 := b6.cell 0
  have p1 := b6.cell 1
  have p2 := b6.cell 2
  clear b6
  go_upto_region 3 with fail
  refine HL.out.mono ?_
  rintro y w6 ⟨⟨q, rfl, hq⟩, ho6⟩
  cases q with
  | false =>
    have HOF := Lib.hid (HOW5.out.trans ho6 (by simp))
    clear hq ho6 p0 p1 p2
    go_wp2_with fail
    refine (HK.out _).mono ?_
    rintro y w7 ⟨rfl, ho7⟩
    have HOF2 := Lib.hid (HOF.out.trans ho7 (by simp))
    clear ho7
    go_wp2_with fail
    go_ret
    exact ⟨rfl, HOF2.out⟩
  | true =>
  have HCA := Lib.hid (hq rfl)
  have HOW6 := Lib.hid (HOW5.out.trans ho6 (by simp))
  have HA6 := Lib.hid (HA5.out.only ho6 ho6.size)
  have HE6 := Lib.hid (HE5.out.only ho6 ho6.size)
  have HF6 := Lib.hid (recs_only HF5.out ho6 ho6.size)
  have HFF6 := Lib.hid (HFF5.out.only ho6 ho6.size)
  have HD6 := Lib.hid (HD5.out.only ho6 ho6.size)
  have HB6 := Lib.hid (And.intro (HB5.out.1.only ho6 (by simp)) (And.intro (HB5.out.2.1.only ho6 (by simp)) (HB5.out.2.2.only ho6 (by simp))))
  have HM := Lib.hid (light_any (d + 1) (dE e w2.heap.size w3.heap.size) 400 w6 HD6.out (by omega))
  have b6 := HB6.out.2.2
  clear hq ho6 p0 p1 p2 HA5 HE5 HF5 HFF5 HD5 HB5 HS5 HL
  have p0 := b6.cell 0
  have p1 := b6.cell 1
  have p2 := b6.cell 2
  clear b6
  go_wp2_with fail
  refine HM.out.mono ?_
  rintro y w7 ⟨⟨q, rfl, hq⟩, ho7⟩
  cases q with
  | false =>
    have HOF := Lib.hid (HOW6.out.trans ho7 (by simp))
    clear hq ho7 p0 p1 p2
    go_wp2_with fail
    refine (HK.out _).mono ?_
    rintro y w8 ⟨rfl, ho8⟩
    have HOF2 := Lib.hid (HOF.out.trans ho8 (by simp))
    clear ho8
    go_wp2_with fail
    go_ret
    exact ⟨rfl, HOF2.out⟩
  | true =>
  have HCB2 := Lib.hid (hq rfl)
  clear hq p0 p1 p2
  go_wp2_with fail
  refine (HK.out _).mono ?_
  rintro y w8 ⟨rfl, ho8⟩
  have ho8 := ho7.trans ho8 (by simp)
  have HOW8 := Lib.hid (HOW6.out.trans ho8 (by simp))
  have HA8 := Lib.hid (HA6.out.only ho8 ho8.size)
  have HE8 := Lib.hid (HE6.out.only ho8 ho8.size)
  have HF8 := Lib.hid (recs_only HF6.out ho8 ho8.size)
  have HFF8 := Lib.hid (HFF6.out.only ho8 ho8.size)
  have HB8 := Lib.hid (And.intro (HB6.out.1.only ho8 (by simp)) (And.intro (HB6.out.2.1.only ho8 (by simp)) (HB6.out.2.2.only ho8 (by simp))))
  clear HA6 HE6 HF6 HFF6 HB6 HD6 HM ho7 ho8 HK
  obtain ⟨w9, hw9⟩ : ∃ w9, w8.alloc (.cells #[.int .i64 e.op, .int .i64 e.n, .string e.s, .string e.q, .slice e.A e.X.length e.c] 28) = w9 := ⟨_, rfl⟩
  have b9 : Blk w9 w8.heap.size 28 #[.int .i64 e.op, .int .i64 e.n, .string e.s, .string e.q, .slice e.A e.X.length e.c] := by rw [← hw9]; exact Blk.new w8 _ _
  have o9 : Only [] w8 w9 := by rw [← hw9]; exact (Only.refl [] w8).alloc _
  have lw9 := b9.lt
  have sw9 := o9.size
  obtain ⟨nx, hnx⟩ : ∃ m, bits .xor .i64 e.n 1 = m := ⟨_, rfl⟩
  have HNX : Hid ((e.n == nx) = false) := Lib.hid (by rw [← hnx]; exact xor_ne e.n)
  obtain ⟨w10, hw10⟩ : ∃ w10, w9.setCell ⟨w8.heap.size, 1, none⟩ (.int .i64 nx) = w10 := ⟨_, rfl⟩
  have b10 : Blk w10 w8.heap.size 28 #[.int .i64 e.op, .int .i64 nx, .string e.s, .string e.q, .slice e.A e.X.length e.c] := by rw [← hw10]; exact b9.set_ 1 _
  have o10 : Only [] w8 w10 := by rw [← hw10]; exact o9.setCell (.inr (Nat.le_refl _)) _
  have z9 := b9.frozen 1
  have lw10 := b10.lt
  have sw10 := o10.size
  obtain ⟨w11, hw11⟩ : ∃ w11, w10.alloc (.cells #[.int .i64 e.op, .int .i64 e.n, .string e.s, .string e.q, .slice e.A e.X.length e.c] 28) = w11 := ⟨_, rfl⟩
  have b11 : Blk w11 w10.heap.size 28 #[.int .i64 e.op, .int .i64 e.n, .string e.s, .string e.q, .slice e.A e.X.length e.c] := by rw [← hw11]; exact Blk.new w10 _ _
  have o11 : Only [] w10 w11 := by rw [← hw11]; exact (Only.refl [] w10).alloc _
  have lw11 := b11.lt
  have sw11 := o11.size
  obtain ⟨w12, hw12⟩ : ∃ w12, w11.alloc (.cells #[.int .i64 6, .int .i64 0, .string ⟨#[]⟩, .string ⟨#[]⟩, .slice (some ⟨w10.heap.size, 0, none⟩) 1 1] 28) = w12 := ⟨_, rfl⟩
  have b12 : Blk w12 w11.heap.size 28 #[.int .i64 6, .int .i64 0, .string ⟨#[]⟩, .string ⟨#[]⟩, .slice (some ⟨w10.heap.size, 0, none⟩) 1 1] := by rw [← hw12]; exact Blk.new w11 _ _
  have o12 : Only [] w11 w12 := by rw [← hw12]; exact (Only.refl [] w11).alloc _
  have lw12 := b12.lt
  have sw12 := o12.size
  obtain ⟨w13, hw13⟩ : ∃ w13, w12.alloc (.cells #[.int .i64 e.op, .int .i64 nx, .string e.s, .string e.q, .slice e.A e.X.length e.c] 28) = w13 := ⟨_, rfl⟩
  have b13 : Blk w13 w12.heap.size 28 #[.int .i64 e.op, .int .i64 nx, .string e.s, .string e.q, .slice e.A e.X.length e.c] := by rw [← hw13]; exact Blk.new w12 _ _
  have o13 : Only [] w12 w13 := by rw [← hw13]; exact (Only.refl [] w12).alloc _
  have lw13 := b13.lt
  have sw13 := o13.size
  obtain ⟨w14, hw14⟩ : ∃ w14, w13.alloc (.cells #[.int .i64 6, .int .i64 0, .string ⟨#[]⟩, .string ⟨#[]⟩, .slice (some ⟨w12.heap.size, 0, none⟩) 1 1] 28) = w14 := ⟨_, rfl⟩
  have b14 : Blk w14 w13.heap.size 28 #[.int .i64 6, .int .i64 0, .string ⟨#[]⟩, .string ⟨#[]⟩, .slice (some ⟨w12.heap.size, 0, none⟩) 1 1] := by rw [← hw14]; exact Blk.new w13 _ _
  have o14 : Only [] w13 w14 := by rw [← hw14]; exact (Only.refl [] w13).alloc _
  have lw14 := b14.lt
  have sw14 := o14.size
  obtain ⟨w15, hw15⟩ : ∃ w15, w14.alloc (.cells #[.string a.name, .slice a.iA a.imps.length a.ic, .slice a.fA a.fs.length a.fc] 25) = w15 := ⟨_, rfl⟩
  have b15 : Blk w15 w14.heap.size 25 #[.string a.name, .slice a.iA a.imps.length a.ic, .slice a.fA a.fs.length a.fc] := by rw [← hw15]; exact Blk.new w14 _ _
  have o15 : Only [] w14 w15 := by rw [← hw15]; exact (Only.refl [] w14).alloc _
  have lw15 := b15.lt
  have sw15 := o15.size
  have o1415 := o14.trans o15 (by simp)
  have o1315 := o13.trans o1415 (by simp)
  have o1215 := o12.trans o1315 (by simp)
  have o1115 := o11.trans o1215 (by simp)
  have o15' := o10.trans o1115 (by simp)
  have HSB := Lib.hid (And.intro (b10.only o1115 (by simp)) (And.intro (b12.only o1315 (by simp)) (b14.only o15 (by simp))))
  have HRY := Lib.hid (And.intro (b11.only o1215 (by simp)) (b13.only o1415 (by simp)))
  have HCB15 := Lib.hid b15
  have HO15 := Lib.hid o15'
  have HLW : Hid (w8.heap.size ≤ w14.heap.size) := Lib.hid (by omega)
  have HLT : Hid (w.heap.size < w14.heap.size ∧ w1.heap.size < w14.heap.size ∧ w8.heap.size < w14.heap.size ∧ w10.heap.size < w14.heap.size ∧ w11.heap.size < w14.heap.size ∧ w12.heap.size < w14.heap.size ∧ w13.heap.size < w14.heap.size ∧ w14.heap.size < w15.heap.size) := Lib.hid ⟨by have := HB8.out.1.lt; omega, by have := HB8.out.2.1.lt; omega, by omega, by omega, by omega, by omega, by omega, by omega⟩
  have b8 := HB8.out.2.1
  have p0 := b8.cell 0
  have p1 := b8.cell 1
  have p2 := b8.cell 2
  have p3 := b8.cell 3
  have p4 := b8.cell 4
  have q0 := b9.cell 0
  have q1 := b9.cell 1
  have q2 := b9.cell 2
  have q3 := b9.cell 3
  have q4 := b9.cell 4
  have a14 := ((HB8.out.1.only o10 (by simp)).only (o11.trans (o12.trans (o13.trans o14 (by simp)) (by simp)) (by simp)) (by simp))
  have e10 := HB8.out.2.1.only o10 (by simp)
  have x12 := b10.only (o11.trans o12 (by simp)) (by simp)
  have u0 := a14.cell 0
  have u1 := a14.cell 1
  have u2 := a14.cell 2
  have v0 := e10.cell 0
  have v1 := e10.cell 1
  have v2 := e10.cell 2
  have v3 := e10.cell 3
  have v4 := e10.cell 4
  have x0 := x12.cell 0
  have x1 := x12.cell 1
  have x2 := x12.cell 2
  have x3 := x12.cell 3
  have x4 := x12.cell 4
  clear b8 a14 e10 x12 b9 b10 b11 b12 b13 b14 b15 o9 o10 o11 o12 o13 o14 o15 o1415 o1315 o1215 o1115 o15' lw9 sw9 lw10 sw10 lw11 sw11 lw12 sw12 lw13 sw13 lw14 sw14 lw15 sw15
  go_upto_region 4 with fail
  go_upto_region 6 with fail
  clear hnx hw9 hw10 z9 p0 p1 p2 p3 p4 q0 q1 q2 q3 q4
  go_upto_region 7 with fail
  clear v0 v1 v2 v3 v4
  go_upto_region 8 with fail
  clear x0 x1 x2 x3 x4
  go_upto_region 9 with fail
  clear u0 u1 u2 hw11 hw12 hw13 hw14 hw15
  have HSX : Hid (∀ Y, Only [] w15 Y → (fun Y => Y.cell? ⟨w.heap.size, 2, none⟩ = some (.slice a.fA a.fs.length a.fc) ∧ Y.cell? ⟨w4.heap.size, 2, none⟩ = some (.slice (some ⟨w3.heap.size, 0, none⟩) 1 1)) Y) := Lib.hid (fun Y hY => ⟨((HB8.out.1.only HO15.out (by simp)).only hY (by simp)).cell 2, ((HB8.out.2.2.only HO15.out (by simp)).only hY (by simp)).cell 2⟩)
  have HNA : Hid (w.heap.size ∉ [w14.heap.size] ∧ w1.heap.size ∉ [w14.heap.size] ∧ w4.heap.size ∉ [w14.heap.size] ∧ w8.heap.size ∉ [w14.heap.size] ∧ w10.heap.size ∉ [w14.heap.size] ∧ w11.heap.size ∉ [w14.heap.size] ∧ w12.heap.size ∉ [w14.heap.size] ∧ w13.heap.size ∉ [w14.heap.size]) := Lib.hid (by
    have := HLT.out
    have h4 := HB8.out.2.2.lt
    simp only [List.mem_singleton]
    omega)
  have HSY : Hid (∀ Y, Only [w14.heap.size] w15 Y → (fun Y => Y.cell? ⟨w.heap.size, 2, none⟩ = some (.slice a.fA a.fs.length a.fc) ∧ Y.cell? ⟨w4.heap.size, 2, none⟩ = some (.slice (some ⟨w3.heap.size, 0, none⟩) 1 1)) Y) := Lib.hid (fun Y hY => ⟨((HB8.out.1.only HO15.out (by simp)).only hY HNA.out.1).cell 2, ((HB8.out.2.2.only HO15.out (by simp)).only hY HNA.out.2.2.1).cell 2⟩)
  have HD0 : Hid (Only [] w15 w15.drew) := Lib.hid (Only.refl [] w15).drew
  have HOD : Hid (Only [] w15 (w15.drew.alloc (.cells #[] 35))) := Lib.hid ((Only.refl [] w15).drew.alloc _)
  have HSA := Lib.hid (HSX.out _ HOD.out)
  have HOW : Hid (OwnR 35 4 (w15.drew.alloc (.cells #[] 35)) w15.heap.size (.slice (some ⟨w15.heap.size, 0, none⟩) 0 0) 0 []) := Lib.hid (row_empty (e := 35) (size := 4) w15.drew)
  have HRA := Lib.hid (recs_only HA8.out.2.1.1 (HO15.out.trans HOD.out (by simp)) (HO15.out.trans HOD.out (by simp)).size)
  have HRB : Hid (Recs w15 w15.heap.size 4 (some ⟨w3.heap.size, 0, none⟩) 1 ([fE e w2.heap.size].map FT.row)) := Lib.hid (recs_only HF8.out HO15.out HO15.out.size)
  have HSZ := Lib.hid HOD.out.size
  obtain ⟨ti, hti, htz, hi2, hi3⟩ := info_parts func_info
  have HTI := Lib.hid (And.intro hti (And.intro htz (And.intro hi2 hi3)))
  clear hti htz hi2 hi3
  have hS9 : ((fun Y => Y.cell? ⟨w.heap.size, 2, none⟩ = some (.slice a.fA a.fs.length a.fc) ∧ Y.cell? ⟨w4.heap.size, 2, none⟩ = some (.slice (some ⟨w3.heap.size, 0, none⟩) 1 1)) : World → Prop) w15.drew := HSX.out _ HD0.out
  go_upto_region 9 with fail
  refine wp_region_hand (S := (fun Y => Y.cell? ⟨w.heap.size, 2, none⟩ = some (.slice a.fA a.fs.length a.fc) ∧ Y.cell? ⟨w4.heap.size, 2, none⟩ = some (.slice (some ⟨w3.heap.size, 0, none⟩) 1 1))) (by kernel_rfl) ?_
  refine takeW (i := 1) rfl (by kernel_rfl) (by kernel_rfl) (by kernel_rfl) (fun _ _ _ h => h) rfl (by rfl) (v := .pointer (some ⟨w.heap.size, 2, none⟩)) (fun Y hY => by obtain ⟨y0, y1⟩ := hY; go_simp) hS9 ?_
  simp only [List.setIfInBounds_toArray, List.set_cons_zero, List.set_cons_succ]
  refine takeW (i := 2) rfl (by kernel_rfl) (by kernel_rfl) (by kernel_rfl) (fun _ _ _ h => h) rfl (by rfl) (v := .slice a.fA a.fs.length a.fc) (fun Y hY => by obtain ⟨y0, y1⟩ := hY; go_simp) hS9 ?_
  simp only [List.setIfInBounds_toArray, List.set_cons_zero, List.set_cons_succ]
  refine takeW (i := 4) rfl (by kernel_rfl) (by kernel_rfl) (by kernel_rfl) (fun _ _ _ h => h) rfl (by rfl) (v := .pointer (some ⟨w4.heap.size, 2, none⟩)) (fun Y hY => by obtain ⟨y0, y1⟩ := hY; go_simp) hS9 ?_
  simp only [List.setIfInBounds_toArray, List.set_cons_zero, List.set_cons_succ]
  refine takeW (i := 5) rfl (by kernel_rfl) (by kernel_rfl) (by kernel_rfl) (fun _ _ _ h => h) rfl (by rfl) (v := .slice (some ⟨w3.heap.size, 0, none⟩) 1 1) (fun Y hY => by obtain ⟨y0, y1⟩ := hY; go_simp) hS9 ?_
  simp only [List.setIfInBounds_toArray, List.set_cons_zero, List.set_cons_succ]
  refine oneW (i := 0) (v := .slice (some ⟨w15.heap.size, 0, none⟩) 0 0) (w' := w15.drew.alloc (.cells #[] 35)) rfl (by kernel_rfl) rfl (by rfl) (by go_simp) HSA.out ?_
  simp only [List.setIfInBounds_toArray, List.set_cons_zero, List.set_cons_succ]
  refine oneA (i := 3) rfl (by kernel_rfl) rfl rfl (fun K hK => ?_)
  refine step_append_rec (w := w15.drew.alloc (.cells #[] 35)) rfl (.tmp 41) (.tmp 43) 23 rfl Try.underlying23 HTI.out.1 HTI.out.2.1 HTI.out.2.2.1 HTI.out.2.2.2 (by decide) (by decide) rfl HOW.out rfl HRA.out ft_len ft_cells (by have := HCA.out.2; omega) (by have := HCA.out.2; unfold maxLen; omega) HSZ.out ?_
  intro v17 w17 hE
  have hE1 := hE.after HOD.out
  have ho17 : Only [] w15 w17 := hE1.base0 rfl (fun g hg => by have hg : g ∈ ownL (.slice (some ⟨w15.heap.size, 0, none⟩) 0 0) := hg; simp [ownL, Value.ownBlock] at hg; omega)
  have HE1 := Lib.hid hE1
  have HO17 := Lib.hid ho17
  have HRB17 := Lib.hid (recs_only HRB.out ho17 ho17.size)
  clear hE hE1 ho17
  have hS17 := HSX.out _ HO17.out
  refine hK _ _ hS17 ?_
  clear hK K
  simp only [List.setIfInBounds_toArray, List.set_cons_zero, List.set_cons_succ]
  refine oneA (i := 6) rfl (by kernel_rfl) rfl rfl (fun K hK => ?_)
  refine step_append_rec (w := w17) rfl (.tmp 44) (.tmp 46) 23 rfl Try.underlying23 HTI.out.1 HTI.out.2.1 HTI.out.2.2.1 HTI.out.2.2.2 (by decide) (by decide) rfl HE1.out.own rfl HRB17.out (ft_len (l := [fE e w2.heap.size])) (ft_cells (l := [fE e w2.heap.size])) (by have := HCA.out.2; omega) (by have := HCA.out.2; unfold maxLen; omega) HO17.out.size ?_
  intro v18 w18 hE
  have hE2 := HE1.out.trans hE
  have ho18 : Only [] w15 w18 := hE2.base0 rfl (fun g hg => by have hg : g ∈ ownL (.slice (some ⟨w15.heap.size, 0, none⟩) 0 0) := hg; simp [ownL, Value.ownBlock] at hg; omega)
  have HO18 := Lib.hid ho18
  obtain ⟨cA, cc, rfl, _, hcm, hrc, hsh⟩ := hE2.own.shape (by decide)
  have HCB : Hid (∀ g ∈ blkOf cA, w15.heap.size ≤ g) := Lib.hid (fun g hg => by
    rcases hsh with ⟨rfl, _⟩ | ⟨g2, rfl, h, _⟩
    · simp [blkOf] at hg
    · rw [show g = g2 by simpa [blkOf] using hg]
      exact h)
  obtain ⟨fs2, hfs2⟩ : ∃ l, l = a.fs ++ [fE e w2.heap.size] := ⟨_, rfl⟩
  have hn2 : 0 + a.fs.length + 1 = fs2.length := by rw [hfs2, List.length_append]; simp
  rw [hn2] at hrc ⊢
  have HRC : Hid (Recs w18 w18.heap.size 4 cA fs2.length (fs2.map FT.row)) := Lib.hid (by rw [hfs2, List.map_append]; rw [hfs2] at hrc; exact hrc)
  have HF2 := Lib.hid hfs2
  have HN2 := Lib.hid hn2
  have b18 := HCB15.out.only ho18 (by simp)
  have c2 := b18.cell 2
  have z2 := b18.frozen 2
  have HC18 := Lib.hid b18
  clear hE hE2 hcm hrc hfs2 hn2 b18 hsh
  have hS18 := HSX.out _ HO18.out
  refine hK _ _ hS18 ?_
  clear hK K ho18
  simp only [List.setIfInBounds_toArray, List.set_cons_zero, List.set_cons_succ]
  refine takeW (i := 7) rfl (by kernel_rfl) (by kernel_rfl) (by kernel_rfl) (fun _ _ _ h => h) rfl (by rfl) (v := .pointer (some ⟨w14.heap.size, 2, none⟩)) (fun Y hY => by obtain ⟨y0, y1⟩ := hY; go_simp) hS18 ?_
  simp only [List.setIfInBounds_toArray, List.set_cons_zero, List.set_cons_succ]
  refine oneS (i := 8) (v := undef) (w' := w18.setCell ⟨w14.heap.size, 2, none⟩ (.slice cA fs2.length cc)) rfl (by kernel_rfl) rfl (by rfl) (by first | (left; go_simp; done) | (right; go_simp; done)) (HSY.out _ ((HO18.out.mono (by simp)).setCell (.inl (by simp)) _)) ?_
  refine wpAnyH_done (by kernel_rfl) ?_ _
  have HO19 : Hid (Only [w14.heap.size] w15 (w18.setCell ⟨w14.heap.size, 2, none⟩ (.slice cA fs2.length cc))) := Lib.hid ((HO18.out.mono (by simp)).setCell (.inl (by simp)) _)
  have HO1819 : Hid (Only [w14.heap.size] w18 (w18.setCell ⟨w14.heap.size, 2, none⟩ (.slice cA fs2.length cc))) := Lib.hid ((Only.refl _ w18).setCell (.inl (by simp)) _)
  have HC19 := Lib.hid (HC18.out.set_ 2 (.slice cA fs2.length cc))
  obtain ⟨w19, hw19⟩ : ∃ w19, w18.setCell ⟨w14.heap.size, 2, none⟩ (.slice cA fs2.length cc) = w19 := ⟨_, rfl⟩
  rw [hw19] at HO19 HO1819 HC19 ⊢
  clear hw19 c2 z2 HC18
  have HO819 : Hid (Only [] w8 w19) := Lib.hid (HO15.out.trans HO19.out (fun g hg => by
    have h1 := HLT.out
    have h2 := HB8.out.2.1.lt
    rw [List.mem_singleton.1 hg]
    exact .inr HLW.out))
  have HA19 : Hid (DT.In w19 w19.heap.size (d + 1) a) := Lib.hid (HA8.out.only HO819.out HO819.out.size)
  have HE19 : Hid (XT.In w19 w19.heap.size (d + 1) e) := Lib.hid (HE8.out.only HO819.out HO819.out.size)
  have hl19 : w14.heap.size < w19.heap.size := HC19.out.lt
  have HY19 : Hid (XT.In w19 w19.heap.size (d + 2) (nE e w10.heap.size)) := Lib.hid (nE_in HE19.out (recs_one (row := e.row) (HRY.out.1.only HO19.out HNA.out.2.2.2.2.1) (by have := HLT.out; omega)))
  have HZ19 : Hid (XT.In w19 w19.heap.size (d + 2) (nE (xE e nx) w12.heap.size)) := Lib.hid (nE_in (xE_in nx HE19.out) (recs_one (row := (xE e nx).row) (HRY.out.2.only HO19.out HNA.out.2.2.2.2.2.2.1) (by have := HLT.out; omega)))
  have HFF19 : Hid (FT.In w19 w19.heap.size (d + 1) (fE e w2.heap.size)) := Lib.hid (HFF8.out.only HO819.out HO819.out.size)
  have HC : Hid (DT.In w19 w19.heap.size (d + 1) ⟨a.name, a.iA, a.ic, a.imps, cA, cc, fs2⟩) := Lib.hid ⟨HA19.out.1, ⟨(HRC.out.only HO1819.out (fun g hg hm => by
      have h1 := HCB.out g hg
      have h2 := HLT.out
      rw [List.mem_singleton.1 hm] at h1
      omega)).more HO1819.out.size, by have := HN2.out; have := HCA.out.2; unfold maxLen; simp only; omega⟩, fun y hy => by
      simp only [HF2.out, List.mem_append, List.mem_singleton] at hy
      rcases hy with hy | rfl
      · exact HA19.out.2.2 y hy
      · exact HFF19.out⟩
  have HSZ10 : Hid (∀ Y, Only [] w19 Y → (fun Y => Y.cell? ⟨w.heap.size, 0, none⟩ = some (.string a.name) ∧ Y.cell? ⟨w.heap.size, 1, none⟩ = some (.slice a.iA a.imps.length a.ic) ∧ Y.cell? ⟨w.heap.size, 2, none⟩ = some (.slice a.fA a.fs.length a.fc) ∧ Y.cell? ⟨w1.heap.size, 0, none⟩ = some (.int .i64 e.op) ∧ Y.cell? ⟨w1.heap.size, 1, none⟩ = some (.int .i64 e.n) ∧ Y.cell? ⟨w1.heap.size, 2, none⟩ = some (.string e.s) ∧ Y.cell? ⟨w1.heap.size, 3, none⟩ = some (.string e.q) ∧ Y.cell? ⟨w1.heap.size, 4, none⟩ = some (.slice e.A e.X.length e.c) ∧ Y.cell? ⟨w8.heap.size, 0, none⟩ = some (.int .i64 e.op) ∧ Y.cell? ⟨w8.heap.size, 1, none⟩ = some (.int .i64 nx) ∧ Y.cell? ⟨w8.heap.size, 2, none⟩ = some (.string e.s) ∧ Y.cell? ⟨w8.heap.size, 3, none⟩ = some (.string e.q) ∧ Y.cell? ⟨w8.heap.size, 4, none⟩ = some (.slice e.A e.X.length e.c) ∧ Y.cell? ⟨w11.heap.size, 0, none⟩ = some (.int .i64 6) ∧ Y.cell? ⟨w11.heap.size, 1, none⟩ = some (.int .i64 0) ∧ Y.cell? ⟨w11.heap.size, 2, none⟩ = some (.string ⟨#[]⟩) ∧ Y.cell? ⟨w11.heap.size, 3, none⟩ = some (.string ⟨#[]⟩) ∧ Y.cell? ⟨w11.heap.size, 4, none⟩ = some (.slice (some ⟨w10.heap.size, 0, none⟩) 1 1) ∧ Y.cell? ⟨w13.heap.size, 0, none⟩ = some (.int .i64 6) ∧ Y.cell? ⟨w13.heap.size, 1, none⟩ = some (.int .i64 0) ∧ Y.cell? ⟨w13.heap.size, 2, none⟩ = some (.string ⟨#[]⟩) ∧ Y.cell? ⟨w13.heap.size, 3, none⟩ = some (.string ⟨#[]⟩) ∧ Y.cell? ⟨w13.heap.size, 4, none⟩ = some (.slice (some ⟨w12.heap.size, 0, none⟩) 1 1) ∧ Y.cell? ⟨w14.heap.size, 0, none⟩ = some (.string a.name) ∧ Y.cell? ⟨w14.heap.size, 1, none⟩ = some (.slice a.iA a.imps.length a.ic) ∧ Y.cell? ⟨w14.heap.size, 2, none⟩ = some (.slice cA fs2.length cc)) Y) := Lib.hid (fun Y hY => by
    have ba := (((HB8.out.1.only HO15.out (by simp)).only HO19.out HNA.out.1).only hY (by simp))
    have be := (((HB8.out.2.1.only HO15.out (by simp)).only HO19.out HNA.out.2.1).only hY (by simp))
    have bx := ((HSB.out.1.only HO19.out HNA.out.2.2.2.1).only hY (by simp))
    have by_ := ((HSB.out.2.1.only HO19.out HNA.out.2.2.2.2.2.1).only hY (by simp))
    have bz := ((HSB.out.2.2.only HO19.out HNA.out.2.2.2.2.2.2.2).only hY (by simp))
    have bc := HC19.out.only hY (by simp)
    exact ⟨ba.cell 0, ba.cell 1, ba.cell 2, be.cell 0, be.cell 1, be.cell 2, be.cell 3, be.cell 4, bx.cell 0, bx.cell 1, bx.cell 2, bx.cell 3, bx.cell 4, by_.cell 0, by_.cell 1, by_.cell 2, by_.cell 3, by_.cell 4, bz.cell 0, bz.cell 1, bz.cell 2, bz.cell 3, bz.cell 4, bc.cell 0, bc.cell 1, bc.cell 2⟩)
  have HO19D : Hid (Only [] w19 w19.drew) := Lib.hid (Only.refl [] w19).drew
  have HK1 : Hid (∀ wx, Only [] w19 wx → Calls Try.prog 6 #[.agg #[.string a.name, .slice a.iA a.imps.length a.ic, .slice a.fA a.fs.length a.fc], .agg #[.string a.name, .slice a.iA a.imps.length a.ic, .slice a.fA a.fs.length a.fc]] wx fun y w' => y = .returned (.bool true) ∧ Only [] wx w') := Lib.hid (fun wx hx => (same_more (d + 1) a a wx (HA19.out.only hx hx.size) (HA19.out.only hx hx.size) rfl ⟨rfl, rfl⟩ [] (List.append_nil _).symm).mono fun y w' h => ⟨by rw [h.1]; simp, h.2⟩)
  have HK2 : Hid (∀ wx, Only [] w19 wx → Calls Try.prog 7 #[.agg #[.int .i64 e.op, .int .i64 e.n, .string e.s, .string e.q, .slice e.A e.X.length e.c], .agg #[.int .i64 e.op, .int .i64 e.n, .string e.s, .string e.q, .slice e.A e.X.length e.c]] wx fun y w' => y = .returned (.bool true) ∧ Only [] wx w') := Lib.hid (fun wx hx => by have h := sameExpr_any (d + 1) e e (d + 1) wx (HE19.out.only hx hx.size) (HE19.out.only hx hx.size); rw [sameX_refl HE19.out] at h; exact h)
  have HK3 : Hid (∀ wx, Only [] w19 wx → Calls Try.prog 7 #[.agg #[.int .i64 e.op, .int .i64 e.n, .string e.s, .string e.q, .slice e.A e.X.length e.c], .agg #[.int .i64 e.op, .int .i64 nx, .string e.s, .string e.q, .slice e.A e.X.length e.c]] wx fun y w' => y = .returned (.bool false) ∧ Only [] wx w') := Lib.hid (fun wx hx => by have h := sameExpr_any (d + 1) e (xE e nx) (d + 1) wx (HE19.out.only hx hx.size) (xE_in nx (HE19.out.only hx hx.size)); rw [ne_x HNX.out] at h; exact h)
  have HK4 : Hid (∀ wx, Only [] w19 wx → Calls Try.prog 7 #[.agg #[.int .i64 e.op, .int .i64 e.n, .string e.s, .string e.q, .slice e.A e.X.length e.c], .agg #[.int .i64 6, .int .i64 0, .string ⟨#[]⟩, .string ⟨#[]⟩, .slice (some ⟨w10.heap.size, 0, none⟩) 1 1]] wx fun y w' => y = .returned (.bool false) ∧ Only [] wx w') := Lib.hid (fun wx hx => by have h := sameExpr_any (d + 1) e (nE e w10.heap.size) (d + 2) wx (HE19.out.only hx hx.size) (HY19.out.only hx hx.size); rw [ne_n HY19.out] at h; exact h)
  have HK5 : Hid (∀ wx, Only [] w19 wx → Calls Try.prog 7 #[.agg #[.int .i64 6, .int .i64 0, .string ⟨#[]⟩, .string ⟨#[]⟩, .slice (some ⟨w10.heap.size, 0, none⟩) 1 1], .agg #[.int .i64 6, .int .i64 0, .string ⟨#[]⟩, .string ⟨#[]⟩, .slice (some ⟨w12.heap.size, 0, none⟩) 1 1]] wx fun y w' => y = .returned (.bool false) ∧ Only [] wx w') := Lib.hid (fun wx hx => by have h := sameExpr_any (d + 2) (nE e w10.heap.size) (nE (xE e nx) w12.heap.size) (d + 2) wx (HY19.out.only hx hx.size) (HZ19.out.only hx hx.size); rw [ne_nn (ne_x HNX.out)] at h; exact h)
  have HK6 : Hid (∀ wx, Only [] w19 wx → Calls Try.prog 6 #[.agg #[.string a.name, .slice a.iA a.imps.length a.ic, .slice a.fA a.fs.length a.fc], .agg #[.string a.name, .slice a.iA a.imps.length a.ic, .slice cA fs2.length cc]] wx fun y w' => y = .returned (.bool false) ∧ Only [] wx w') := Lib.hid (fun wx hx => (same_more (d + 1) a ⟨a.name, a.iA, a.ic, a.imps, cA, cc, fs2⟩ wx (HA19.out.only hx hx.size) (HC.out.only hx hx.size) rfl ⟨rfl, rfl⟩ [fE e w2.heap.size] HF2.out).mono fun y w' h => ⟨by rw [h.1]; simp, h.2⟩)
  have HK7 : Hid (∀ wx, Only [] w19 wx → Calls Try.prog 6 #[.agg #[.string a.name, .slice a.iA a.imps.length a.ic, .slice cA fs2.length cc], .agg #[.string a.name, .slice a.iA a.imps.length a.ic, .slice cA fs2.length cc]] wx fun y w' => y = .returned (.bool true) ∧ Only [] wx w') := Lib.hid (fun wx hx => (same_more (d + 1) ⟨a.name, a.iA, a.ic, a.imps, cA, cc, fs2⟩ ⟨a.name, a.iA, a.ic, a.imps, cA, cc, fs2⟩ wx (HC.out.only hx hx.size) (HC.out.only hx hx.size) rfl ⟨rfl, rfl⟩ [] (List.append_nil _).symm).mono fun y w' h => ⟨by rw [h.1]; simp, h.2⟩)
  obtain ⟨CA, hCA⟩ : ∃ n, min (cntD (d + 1) a) (1000 + 1) = n := ⟨_, rfl⟩
  obtain ⟨CC, hCC⟩ : ∃ n, min (cntD (d + 1) ⟨a.name, a.iA, a.ic, a.imps, cA, cc, fs2⟩) (1000 + 1) = n := ⟨_, rfl⟩
  have hlt := cnt_more (b := dE e w2.heap.size w3.heap.size) cA cc HF2.out rfl HCA.out.1 HCB2.out.1
  rw [hCA, hCC] at hlt
  have HLTC := Lib.hid hlt
  have HK8 : Hid (∀ wx, Only [] w19 wx → Calls Try.prog 8 #[.agg #[.string a.name, .slice a.iA a.imps.length a.ic, .slice a.fA a.fs.length a.fc], .int .i64 1000] wx fun y w' => y = .returned (.int .i64 ((CA : Nat) : Int)) ∧ Only [] wx w') := Lib.hid (fun wx hx => by have h := count_any (d + 1) a 1000 wx (HA19.out.only hx hx.size) (by omega); rw [hCA] at h; exact h)
  have HK9 : Hid (∀ wx, Only [] w19 wx → Calls Try.prog 8 #[.agg #[.string a.name, .slice a.iA a.imps.length a.ic, .slice cA fs2.length cc], .int .i64 1000] wx fun y w' => y = .returned (.int .i64 ((CC : Nat) : Int)) ∧ Only [] wx w') := Lib.hid (fun wx hx => by have h := count_any (d + 1) ⟨a.name, a.iA, a.ic, a.imps, cA, cc, fs2⟩ 1000 wx (HC.out.only hx hx.size) (by omega); rw [hCC] at h; exact h)
  clear hCA hCC hlt hl19 hS9
  have hS10 : ((fun Y => Y.cell? ⟨w.heap.size, 0, none⟩ = some (.string a.name) ∧ Y.cell? ⟨w.heap.size, 1, none⟩ = some (.slice a.iA a.imps.length a.ic) ∧ Y.cell? ⟨w.heap.size, 2, none⟩ = some (.slice a.fA a.fs.length a.fc) ∧ Y.cell? ⟨w1.heap.size, 0, none⟩ = some (.int .i64 e.op) ∧ Y.cell? ⟨w1.heap.size, 1, none⟩ = some (.int .i64 e.n) ∧ Y.cell? ⟨w1.heap.size, 2, none⟩ = some (.string e.s) ∧ Y.cell? ⟨w1.heap.size, 3, none⟩ = some (.string e.q) ∧ Y.cell? ⟨w1.heap.size, 4, none⟩ = some (.slice e.A e.X.length e.c) ∧ Y.cell? ⟨w8.heap.size, 0, none⟩ = some (.int .i64 e.op) ∧ Y.cell? ⟨w8.heap.size, 1, none⟩ = some (.int .i64 nx) ∧ Y.cell? ⟨w8.heap.size, 2, none⟩ = some (.string e.s) ∧ Y.cell? ⟨w8.heap.size, 3, none⟩ = some (.string e.q) ∧ Y.cell? ⟨w8.heap.size, 4, none⟩ = some (.slice e.A e.X.length e.c) ∧ Y.cell? ⟨w11.heap.size, 0, none⟩ = some (.int .i64 6) ∧ Y.cell? ⟨w11.heap.size, 1, none⟩ = some (.int .i64 0) ∧ Y.cell? ⟨w11.heap.size, 2, none⟩ = some (.string ⟨#[]⟩) ∧ Y.cell? ⟨w11.heap.size, 3, none⟩ = some (.string ⟨#[]⟩) ∧ Y.cell? ⟨w11.heap.size, 4, none⟩ = some (.slice (some ⟨w10.heap.size, 0, none⟩) 1 1) ∧ Y.cell? ⟨w13.heap.size, 0, none⟩ = some (.int .i64 6) ∧ Y.cell? ⟨w13.heap.size, 1, none⟩ = some (.int .i64 0) ∧ Y.cell? ⟨w13.heap.size, 2, none⟩ = some (.string ⟨#[]⟩) ∧ Y.cell? ⟨w13.heap.size, 3, none⟩ = some (.string ⟨#[]⟩) ∧ Y.cell? ⟨w13.heap.size, 4, none⟩ = some (.slice (some ⟨w12.heap.size, 0, none⟩) 1 1) ∧ Y.cell? ⟨w14.heap.size, 0, none⟩ = some (.string a.name) ∧ Y.cell? ⟨w14.heap.size, 1, none⟩ = some (.slice a.iA a.imps.length a.ic) ∧ Y.cell? ⟨w14.heap.size, 2, none⟩ = some (.slice cA fs2.length cc)) : World → Prop) w19.drew := HSZ10.out _ HO19D.out
  go_upto_region 10 with fail
  refine wp_region_hand (S := (fun Y => Y.cell? ⟨w.heap.size, 0, none⟩ = some (.string a.name) ∧ Y.cell? ⟨w.heap.size, 1, none⟩ = some (.slice a.iA a.imps.length a.ic) ∧ Y.cell? ⟨w.heap.size, 2, none⟩ = some (.slice a.fA a.fs.length a.fc) ∧ Y.cell? ⟨w1.heap.size, 0, none⟩ = some (.int .i64 e.op) ∧ Y.cell? ⟨w1.heap.size, 1, none⟩ = some (.int .i64 e.n) ∧ Y.cell? ⟨w1.heap.size, 2, none⟩ = some (.string e.s) ∧ Y.cell? ⟨w1.heap.size, 3, none⟩ = some (.string e.q) ∧ Y.cell? ⟨w1.heap.size, 4, none⟩ = some (.slice e.A e.X.length e.c) ∧ Y.cell? ⟨w8.heap.size, 0, none⟩ = some (.int .i64 e.op) ∧ Y.cell? ⟨w8.heap.size, 1, none⟩ = some (.int .i64 nx) ∧ Y.cell? ⟨w8.heap.size, 2, none⟩ = some (.string e.s) ∧ Y.cell? ⟨w8.heap.size, 3, none⟩ = some (.string e.q) ∧ Y.cell? ⟨w8.heap.size, 4, none⟩ = some (.slice e.A e.X.length e.c) ∧ Y.cell? ⟨w11.heap.size, 0, none⟩ = some (.int .i64 6) ∧ Y.cell? ⟨w11.heap.size, 1, none⟩ = some (.int .i64 0) ∧ Y.cell? ⟨w11.heap.size, 2, none⟩ = some (.string ⟨#[]⟩) ∧ Y.cell? ⟨w11.heap.size, 3, none⟩ = some (.string ⟨#[]⟩) ∧ Y.cell? ⟨w11.heap.size, 4, none⟩ = some (.slice (some ⟨w10.heap.size, 0, none⟩) 1 1) ∧ Y.cell? ⟨w13.heap.size, 0, none⟩ = some (.int .i64 6) ∧ Y.cell? ⟨w13.heap.size, 1, none⟩ = some (.int .i64 0) ∧ Y.cell? ⟨w13.heap.size, 2, none⟩ = some (.string ⟨#[]⟩) ∧ Y.cell? ⟨w13.heap.size, 3, none⟩ = some (.string ⟨#[]⟩) ∧ Y.cell? ⟨w13.heap.size, 4, none⟩ = some (.slice (some ⟨w12.heap.size, 0, none⟩) 1 1) ∧ Y.cell? ⟨w14.heap.size, 0, none⟩ = some (.string a.name) ∧ Y.cell? ⟨w14.heap.size, 1, none⟩ = some (.slice a.iA a.imps.length a.ic) ∧ Y.cell? ⟨w14.heap.size, 2, none⟩ = some (.slice cA fs2.length cc))) (by kernel_rfl) ?_
  refine takeW (i := 0) rfl (by kernel_rfl) (by kernel_rfl) (by kernel_rfl) (fun _ _ _ h => h) rfl (by rfl) (v := .agg #[.string a.name, .slice a.iA a.imps.length a.ic, .slice a.fA a.fs.length a.fc]) (fun Y hY => by obtain ⟨y0, y1, y2, y3, y4, y5, y6, y7, y8, y9, y10, y11, y12, y13, y14, y15, y16, y17, y18, y19, y20, y21, y22, y23, y24, y25⟩ := hY; go_simp) hS10 ?_
  simp only [List.setIfInBounds_toArray, List.set_cons_zero, List.set_cons_succ]
  refine takeW (i := 1) rfl (by kernel_rfl) (by kernel_rfl) (by kernel_rfl) (fun _ _ _ h => h) rfl (by rfl) (v := .agg #[.string a.name, .slice a.iA a.imps.length a.ic, .slice a.fA a.fs.length a.fc]) (fun Y hY => by obtain ⟨y0, y1, y2, y3, y4, y5, y6, y7, y8, y9, y10, y11, y12, y13, y14, y15, y16, y17, y18, y19, y20, y21, y22, y23, y24, y25⟩ := hY; go_simp) hS10 ?_
  simp only [List.setIfInBounds_toArray, List.set_cons_zero, List.set_cons_succ]
  refine callW (i := 2) rfl (by kernel_rfl) rfl (by rfl) ?_ ((HK1.out _ HO19D.out)) ?_
  · go_simp
  rintro x w20 ⟨rfl, ho20⟩
  have HO20 := Lib.hid (HO19D.out.trans ho20 (by simp))
  have hS20 := HSZ10.out _ HO20.out
  clear ho20 hS10
  refine ⟨_, rfl, hS20, ?_⟩
  simp only [List.setIfInBounds_toArray, List.set_cons_zero, List.set_cons_succ]
  refine takeW (i := 3) rfl (by kernel_rfl) (by kernel_rfl) (by kernel_rfl) (fun _ _ _ h => h) rfl (by rfl) (v := .bool true) (fun Y hY => by obtain ⟨y0, y1, y2, y3, y4, y5, y6, y7, y8, y9, y10, y11, y12, y13, y14, y15, y16, y17, y18, y19, y20, y21, y22, y23, y24, y25⟩ := hY; go_simp) hS20 ?_
  simp only [List.setIfInBounds_toArray, List.set_cons_zero, List.set_cons_succ]
  refine takeW (i := 4) rfl (by kernel_rfl) (by kernel_rfl) (by kernel_rfl) (fun _ _ _ h => h) rfl (by rfl) (v := .agg #[.int .i64 e.op, .int .i64 e.n, .string e.s, .string e.q, .slice e.A e.X.length e.c]) (fun Y hY => by obtain ⟨y0, y1, y2, y3, y4, y5, y6, y7, y8, y9, y10, y11, y12, y13, y14, y15, y16, y17, y18, y19, y20, y21, y22, y23, y24, y25⟩ := hY; go_simp) hS20 ?_
  simp only [List.setIfInBounds_toArray, List.set_cons_zero, List.set_cons_succ]
  refine takeW (i := 5) rfl (by kernel_rfl) (by kernel_rfl) (by kernel_rfl) (fun _ _ _ h => h) rfl (by rfl) (v := .agg #[.int .i64 e.op, .int .i64 e.n, .string e.s, .string e.q, .slice e.A e.X.length e.c]) (fun Y hY => by obtain ⟨y0, y1, y2, y3, y4, y5, y6, y7, y8, y9, y10, y11, y12, y13, y14, y15, y16, y17, y18, y19, y20, y21, y22, y23, y24, y25⟩ := hY; go_simp) hS20 ?_
  simp only [List.setIfInBounds_toArray, List.set_cons_zero, List.set_cons_succ]
  refine callW (i := 6) rfl (by kernel_rfl) rfl (by rfl) ?_ ((HK2.out _ HO20.out)) ?_
  · go_simp
  rintro x w21 ⟨rfl, ho21⟩
  have HO21 := Lib.hid (HO20.out.trans ho21 (by simp))
  have hS21 := HSZ10.out _ HO21.out
  clear ho21 hS20
  refine ⟨_, rfl, hS21, ?_⟩
  simp only [List.setIfInBounds_toArray, List.set_cons_zero, List.set_cons_succ]
  refine takeW (i := 7) rfl (by kernel_rfl) (by kernel_rfl) (by kernel_rfl) (fun _ _ _ h => h) rfl (by rfl) (v := .bool true) (fun Y hY => by obtain ⟨y0, y1, y2, y3, y4, y5, y6, y7, y8, y9, y10, y11, y12, y13, y14, y15, y16, y17, y18, y19, y20, y21, y22, y23, y24, y25⟩ := hY; go_simp) hS21 ?_
  simp only [List.setIfInBounds_toArray, List.set_cons_zero, List.set_cons_succ]
  refine takeW (i := 8) rfl (by kernel_rfl) (by kernel_rfl) (by kernel_rfl) (fun _ _ _ h => h) rfl (by rfl) (v := .bool true) (fun Y hY => by obtain ⟨y0, y1, y2, y3, y4, y5, y6, y7, y8, y9, y10, y11, y12, y13, y14, y15, y16, y17, y18, y19, y20, y21, y22, y23, y24, y25⟩ := hY; go_simp) hS21 ?_
  simp only [List.setIfInBounds_toArray, List.set_cons_zero, List.set_cons_succ]
  refine takeW (i := 9) rfl (by kernel_rfl) (by kernel_rfl) (by kernel_rfl) (fun _ _ _ h => h) rfl (by rfl) (v := .agg #[.int .i64 e.op, .int .i64 e.n, .string e.s, .string e.q, .slice e.A e.X.length e.c]) (fun Y hY => by obtain ⟨y0, y1, y2, y3, y4, y5, y6, y7, y8, y9, y10, y11, y12, y13, y14, y15, y16, y17, y18, y19, y20, y21, y22, y23, y24, y25⟩ := hY; go_simp) hS21 ?_
  simp only [List.setIfInBounds_toArray, List.set_cons_zero, List.set_cons_succ]
  refine takeW (i := 10) rfl (by kernel_rfl) (by kernel_rfl) (by kernel_rfl) (fun _ _ _ h => h) rfl (by rfl) (v := .agg #[.int .i64 e.op, .int .i64 nx, .string e.s, .string e.q, .slice e.A e.X.length e.c]) (fun Y hY => by obtain ⟨y0, y1, y2, y3, y4, y5, y6, y7, y8, y9, y10, y11, y12, y13, y14, y15, y16, y17, y18, y19, y20, y21, y22, y23, y24, y25⟩ := hY; go_simp) hS21 ?_
  simp only [List.setIfInBounds_toArray, List.set_cons_zero, List.set_cons_succ]
  refine callW (i := 11) rfl (by kernel_rfl) rfl (by rfl) ?_ ((HK3.out _ HO21.out)) ?_
  · go_simp
  rintro x w22 ⟨rfl, ho22⟩
  have HO22 := Lib.hid (HO21.out.trans ho22 (by simp))
  have hS22 := HSZ10.out _ HO22.out
  clear ho22 hS21
  refine ⟨_, rfl, hS22, ?_⟩
  simp only [List.setIfInBounds_toArray, List.set_cons_zero, List.set_cons_succ]
  refine takeW (i := 12) rfl (by kernel_rfl) (by kernel_rfl) (by kernel_rfl) (fun _ _ _ h => h) rfl (by rfl) (v := .bool true) (fun Y hY => by obtain ⟨y0, y1, y2, y3, y4, y5, y6, y7, y8, y9, y10, y11, y12, y13, y14, y15, y16, y17, y18, y19, y20, y21, y22, y23, y24, y25⟩ := hY; go_simp) hS22 ?_
  simp only [List.setIfInBounds_toArray, List.set_cons_zero, List.set_cons_succ]
  refine takeW (i := 13) rfl (by kernel_rfl) (by kernel_rfl) (by kernel_rfl) (fun _ _ _ h => h) rfl (by rfl) (v := .bool true) (fun Y hY => by obtain ⟨y0, y1, y2, y3, y4, y5, y6, y7, y8, y9, y10, y11, y12, y13, y14, y15, y16, y17, y18, y19, y20, y21, y22, y23, y24, y25⟩ := hY; go_simp) hS22 ?_
  simp only [List.setIfInBounds_toArray, List.set_cons_zero, List.set_cons_succ]
  refine takeW (i := 14) rfl (by kernel_rfl) (by kernel_rfl) (by kernel_rfl) (fun _ _ _ h => h) rfl (by rfl) (v := .bool true) (fun Y hY => by obtain ⟨y0, y1, y2, y3, y4, y5, y6, y7, y8, y9, y10, y11, y12, y13, y14, y15, y16, y17, y18, y19, y20, y21, y22, y23, y24, y25⟩ := hY; go_simp) hS22 ?_
  simp only [List.setIfInBounds_toArray, List.set_cons_zero, List.set_cons_succ]
  refine takeW (i := 15) rfl (by kernel_rfl) (by kernel_rfl) (by kernel_rfl) (fun _ _ _ h => h) rfl (by rfl) (v := .agg #[.int .i64 e.op, .int .i64 e.n, .string e.s, .string e.q, .slice e.A e.X.length e.c]) (fun Y hY => by obtain ⟨y0, y1, y2, y3, y4, y5, y6, y7, y8, y9, y10, y11, y12, y13, y14, y15, y16, y17, y18, y19, y20, y21, y22, y23, y24, y25⟩ := hY; go_simp) hS22 ?_
  simp only [List.setIfInBounds_toArray, List.set_cons_zero, List.set_cons_succ]
  refine takeW (i := 16) rfl (by kernel_rfl) (by kernel_rfl) (by kernel_rfl) (fun _ _ _ h => h) rfl (by rfl) (v := .agg #[.int .i64 6, .int .i64 0, .string ⟨#[]⟩, .string ⟨#[]⟩, .slice (some ⟨w10.heap.size, 0, none⟩) 1 1]) (fun Y hY => by obtain ⟨y0, y1, y2, y3, y4, y5, y6, y7, y8, y9, y10, y11, y12, y13, y14, y15, y16, y17, y18, y19, y20, y21, y22, y23, y24, y25⟩ := hY; go_simp) hS22 ?_
  simp only [List.setIfInBounds_toArray, List.set_cons_zero, List.set_cons_succ]
  refine callW (i := 17) rfl (by kernel_rfl) rfl (by rfl) ?_ ((HK4.out _ HO22.out)) ?_
  · go_simp
  rintro x w23 ⟨rfl, ho23⟩
  have HO23 := Lib.hid (HO22.out.trans ho23 (by simp))
  have hS23 := HSZ10.out _ HO23.out
  clear ho23 hS22
  refine ⟨_, rfl, hS23, ?_⟩
  simp only [List.setIfInBounds_toArray, List.set_cons_zero, List.set_cons_succ]
  refine takeW (i := 18) rfl (by kernel_rfl) (by kernel_rfl) (by kernel_rfl) (fun _ _ _ h => h) rfl (by rfl) (v := .bool true) (fun Y hY => by obtain ⟨y0, y1, y2, y3, y4, y5, y6, y7, y8, y9, y10, y11, y12, y13, y14, y15, y16, y17, y18, y19, y20, y21, y22, y23, y24, y25⟩ := hY; go_simp) hS23 ?_
  simp only [List.setIfInBounds_toArray, List.set_cons_zero, List.set_cons_succ]
  refine takeW (i := 19) rfl (by kernel_rfl) (by kernel_rfl) (by kernel_rfl) (fun _ _ _ h => h) rfl (by rfl) (v := .bool true) (fun Y hY => by obtain ⟨y0, y1, y2, y3, y4, y5, y6, y7, y8, y9, y10, y11, y12, y13, y14, y15, y16, y17, y18, y19, y20, y21, y22, y23, y24, y25⟩ := hY; go_simp) hS23 ?_
  simp only [List.setIfInBounds_toArray, List.set_cons_zero, List.set_cons_succ]
  refine takeW (i := 20) rfl (by kernel_rfl) (by kernel_rfl) (by kernel_rfl) (fun _ _ _ h => h) rfl (by rfl) (v := .bool true) (fun Y hY => by obtain ⟨y0, y1, y2, y3, y4, y5, y6, y7, y8, y9, y10, y11, y12, y13, y14, y15, y16, y17, y18, y19, y20, y21, y22, y23, y24, y25⟩ := hY; go_simp) hS23 ?_
  simp only [List.setIfInBounds_toArray, List.set_cons_zero, List.set_cons_succ]
  refine takeW (i := 21) rfl (by kernel_rfl) (by kernel_rfl) (by kernel_rfl) (fun _ _ _ h => h) rfl (by rfl) (v := .agg #[.int .i64 6, .int .i64 0, .string ⟨#[]⟩, .string ⟨#[]⟩, .slice (some ⟨w10.heap.size, 0, none⟩) 1 1]) (fun Y hY => by obtain ⟨y0, y1, y2, y3, y4, y5, y6, y7, y8, y9, y10, y11, y12, y13, y14, y15, y16, y17, y18, y19, y20, y21, y22, y23, y24, y25⟩ := hY; go_simp) hS23 ?_
  simp only [List.setIfInBounds_toArray, List.set_cons_zero, List.set_cons_succ]
  refine takeW (i := 22) rfl (by kernel_rfl) (by kernel_rfl) (by kernel_rfl) (fun _ _ _ h => h) rfl (by rfl) (v := .agg #[.int .i64 6, .int .i64 0, .string ⟨#[]⟩, .string ⟨#[]⟩, .slice (some ⟨w12.heap.size, 0, none⟩) 1 1]) (fun Y hY => by obtain ⟨y0, y1, y2, y3, y4, y5, y6, y7, y8, y9, y10, y11, y12, y13, y14, y15, y16, y17, y18, y19, y20, y21, y22, y23, y24, y25⟩ := hY; go_simp) hS23 ?_
  simp only [List.setIfInBounds_toArray, List.set_cons_zero, List.set_cons_succ]
  refine callW (i := 23) rfl (by kernel_rfl) rfl (by rfl) ?_ ((HK5.out _ HO23.out)) ?_
  · go_simp
  rintro x w24 ⟨rfl, ho24⟩
  have HO24 := Lib.hid (HO23.out.trans ho24 (by simp))
  have hS24 := HSZ10.out _ HO24.out
  clear ho24 hS23
  refine ⟨_, rfl, hS24, ?_⟩
  simp only [List.setIfInBounds_toArray, List.set_cons_zero, List.set_cons_succ]
  refine takeW (i := 24) rfl (by kernel_rfl) (by kernel_rfl) (by kernel_rfl) (fun _ _ _ h => h) rfl (by rfl) (v := .bool true) (fun Y hY => by obtain ⟨y0, y1, y2, y3, y4, y5, y6, y7, y8, y9, y10, y11, y12, y13, y14, y15, y16, y17, y18, y19, y20, y21, y22, y23, y24, y25⟩ := hY; go_simp) hS24 ?_
  simp only [List.setIfInBounds_toArray, List.set_cons_zero, List.set_cons_succ]
  refine takeW (i := 25) rfl (by kernel_rfl) (by kernel_rfl) (by kernel_rfl) (fun _ _ _ h => h) rfl (by rfl) (v := .bool true) (fun Y hY => by obtain ⟨y0, y1, y2, y3, y4, y5, y6, y7, y8, y9, y10, y11, y12, y13, y14, y15, y16, y17, y18, y19, y20, y21, y22, y23, y24, y25⟩ := hY; go_simp) hS24 ?_
  simp only [List.setIfInBounds_toArray, List.set_cons_zero, List.set_cons_succ]
  refine takeW (i := 26) rfl (by kernel_rfl) (by kernel_rfl) (by kernel_rfl) (fun _ _ _ h => h) rfl (by rfl) (v := .bool true) (fun Y hY => by obtain ⟨y0, y1, y2, y3, y4, y5, y6, y7, y8, y9, y10, y11, y12, y13, y14, y15, y16, y17, y18, y19, y20, y21, y22, y23, y24, y25⟩ := hY; go_simp) hS24 ?_
  simp only [List.setIfInBounds_toArray, List.set_cons_zero, List.set_cons_succ]
  refine takeW (i := 27) rfl (by kernel_rfl) (by kernel_rfl) (by kernel_rfl) (fun _ _ _ h => h) rfl (by rfl) (v := .agg #[.string a.name, .slice a.iA a.imps.length a.ic, .slice a.fA a.fs.length a.fc]) (fun Y hY => by obtain ⟨y0, y1, y2, y3, y4, y5, y6, y7, y8, y9, y10, y11, y12, y13, y14, y15, y16, y17, y18, y19, y20, y21, y22, y23, y24, y25⟩ := hY; go_simp) hS24 ?_
  simp only [List.setIfInBounds_toArray, List.set_cons_zero, List.set_cons_succ]
  refine takeW (i := 28) rfl (by kernel_rfl) (by kernel_rfl) (by kernel_rfl) (fun _ _ _ h => h) rfl (by rfl) (v := .agg #[.string a.name, .slice a.iA a.imps.length a.ic, .slice cA fs2.length cc]) (fun Y hY => by obtain ⟨y0, y1, y2, y3, y4, y5, y6, y7, y8, y9, y10, y11, y12, y13, y14, y15, y16, y17, y18, y19, y20, y21, y22, y23, y24, y25⟩ := hY; go_simp) hS24 ?_
  simp only [List.setIfInBounds_toArray, List.set_cons_zero, List.set_cons_succ]
  refine callW (i := 29) rfl (by kernel_rfl) rfl (by rfl) ?_ ((HK6.out _ HO24.out)) ?_
  · go_simp
  rintro x w25 ⟨rfl, ho25⟩
  have HO25 := Lib.hid (HO24.out.trans ho25 (by simp))
  have hS25 := HSZ10.out _ HO25.out
  clear ho25 hS24
  refine ⟨_, rfl, hS25, ?_⟩
  simp only [List.setIfInBounds_toArray, List.set_cons_zero, List.set_cons_succ]
  refine takeW (i := 30) rfl (by kernel_rfl) (by kernel_rfl) (by kernel_rfl) (fun _ _ _ h => h) rfl (by rfl) (v := .bool true) (fun Y hY => by obtain ⟨y0, y1, y2, y3, y4, y5, y6, y7, y8, y9, y10, y11, y12, y13, y14, y15, y16, y17, y18, y19, y20, y21, y22, y23, y24, y25⟩ := hY; go_simp) hS25 ?_
  simp only [List.setIfInBounds_toArray, List.set_cons_zero, List.set_cons_succ]
  refine takeW (i := 31) rfl (by kernel_rfl) (by kernel_rfl) (by kernel_rfl) (fun _ _ _ h => h) rfl (by rfl) (v := .bool true) (fun Y hY => by obtain ⟨y0, y1, y2, y3, y4, y5, y6, y7, y8, y9, y10, y11, y12, y13, y14, y15, y16, y17, y18, y19, y20, y21, y22, y23, y24, y25⟩ := hY; go_simp) hS25 ?_
  simp only [List.setIfInBounds_toArray, List.set_cons_zero, List.set_cons_succ]
  refine takeW (i := 32) rfl (by kernel_rfl) (by kernel_rfl) (by kernel_rfl) (fun _ _ _ h => h) rfl (by rfl) (v := .bool true) (fun Y hY => by obtain ⟨y0, y1, y2, y3, y4, y5, y6, y7, y8, y9, y10, y11, y12, y13, y14, y15, y16, y17, y18, y19, y20, y21, y22, y23, y24, y25⟩ := hY; go_simp) hS25 ?_
  simp only [List.setIfInBounds_toArray, List.set_cons_zero, List.set_cons_succ]
  refine takeW (i := 33) rfl (by kernel_rfl) (by kernel_rfl) (by kernel_rfl) (fun _ _ _ h => h) rfl (by rfl) (v := .agg #[.string a.name, .slice a.iA a.imps.length a.ic, .slice cA fs2.length cc]) (fun Y hY => by obtain ⟨y0, y1, y2, y3, y4, y5, y6, y7, y8, y9, y10, y11, y12, y13, y14, y15, y16, y17, y18, y19, y20, y21, y22, y23, y24, y25⟩ := hY; go_simp) hS25 ?_
  simp only [List.setIfInBounds_toArray, List.set_cons_zero, List.set_cons_succ]
  refine takeW (i := 34) rfl (by kernel_rfl) (by kernel_rfl) (by kernel_rfl) (fun _ _ _ h => h) rfl (by rfl) (v := .agg #[.string a.name, .slice a.iA a.imps.length a.ic, .slice cA fs2.length cc]) (fun Y hY => by obtain ⟨y0, y1, y2, y3, y4, y5, y6, y7, y8, y9, y10, y11, y12, y13, y14, y15, y16, y17, y18, y19, y20, y21, y22, y23, y24, y25⟩ := hY; go_simp) hS25 ?_
  simp only [List.setIfInBounds_toArray, List.set_cons_zero, List.set_cons_succ]
  refine callW (i := 35) rfl (by kernel_rfl) rfl (by rfl) ?_ ((HK7.out _ HO25.out)) ?_
  · go_simp
  rintro x w26 ⟨rfl, ho26⟩
  have HO26 := Lib.hid (HO25.out.trans ho26 (by simp))
  have hS26 := HSZ10.out _ HO26.out
  clear ho26 hS25
  refine ⟨_, rfl, hS26, ?_⟩
  simp only [List.setIfInBounds_toArray, List.set_cons_zero, List.set_cons_succ]
  refine takeW (i := 36) rfl (by kernel_rfl) (by kernel_rfl) (by kernel_rfl) (fun _ _ _ h => h) rfl (by rfl) (v := .bool true) (fun Y hY => by obtain ⟨y0, y1, y2, y3, y4, y5, y6, y7, y8, y9, y10, y11, y12, y13, y14, y15, y16, y17, y18, y19, y20, y21, y22, y23, y24, y25⟩ := hY; go_simp) hS26 ?_
  simp only [List.setIfInBounds_toArray, List.set_cons_zero, List.set_cons_succ]
  refine takeW (i := 37) rfl (by kernel_rfl) (by kernel_rfl) (by kernel_rfl) (fun _ _ _ h => h) rfl (by rfl) (v := .bool true) (fun Y hY => by obtain ⟨y0, y1, y2, y3, y4, y5, y6, y7, y8, y9, y10, y11, y12, y13, y14, y15, y16, y17, y18, y19, y20, y21, y22, y23, y24, y25⟩ := hY; go_simp) hS26 ?_
  simp only [List.setIfInBounds_toArray, List.set_cons_zero, List.set_cons_succ]
  refine takeW (i := 38) rfl (by kernel_rfl) (by kernel_rfl) (by kernel_rfl) (fun _ _ _ h => h) rfl (by rfl) (v := .agg #[.string a.name, .slice a.iA a.imps.length a.ic, .slice a.fA a.fs.length a.fc]) (fun Y hY => by obtain ⟨y0, y1, y2, y3, y4, y5, y6, y7, y8, y9, y10, y11, y12, y13, y14, y15, y16, y17, y18, y19, y20, y21, y22, y23, y24, y25⟩ := hY; go_simp) hS26 ?_
  simp only [List.setIfInBounds_toArray, List.set_cons_zero, List.set_cons_succ]
  refine takeW (i := 40) rfl (by kernel_rfl) (by kernel_rfl) (by kernel_rfl) (fun _ _ _ h => h) rfl (by rfl) (v := .agg #[.string a.name, .slice a.iA a.imps.length a.ic, .slice cA fs2.length cc]) (fun Y hY => by obtain ⟨y0, y1, y2, y3, y4, y5, y6, y7, y8, y9, y10, y11, y12, y13, y14, y15, y16, y17, y18, y19, y20, y21, y22, y23, y24, y25⟩ := hY; go_simp) hS26 ?_
  simp only [List.setIfInBounds_toArray, List.set_cons_zero, List.set_cons_succ]
  refine callW (i := 39) rfl (by kernel_rfl) rfl (by rfl) ?_ ((HK8.out _ HO26.out)) ?_
  · go_simp
  rintro x w27 ⟨rfl, ho27⟩
  have HO27 := Lib.hid (HO26.out.trans ho27 (by simp))
  have hS27 := HSZ10.out _ HO27.out
  clear ho27 hS26
  refine ⟨_, rfl, hS27, ?_⟩
  simp only [List.setIfInBounds_toArray, List.set_cons_zero, List.set_cons_succ]
  refine callW (i := 41) rfl (by kernel_rfl) rfl (by rfl) ?_ ((HK9.out _ HO27.out)) ?_
  · go_simp
  rintro x w28 ⟨rfl, ho28⟩
  have HO28 := Lib.hid (HO27.out.trans ho28 (by simp))
  have hS28 := HSZ10.out _ HO28.out
  clear ho28 hS27
  refine ⟨_, rfl, hS28, ?_⟩
  simp only [List.setIfInBounds_toArray, List.set_cons_zero, List.set_cons_succ]
  refine takeW (i := 42) rfl (by kernel_rfl) (by kernel_rfl) (by kernel_rfl) (fun _ _ _ h => h) rfl (by rfl) (v := .bool true) (fun Y hY => by obtain ⟨y0, y1, y2, y3, y4, y5, y6, y7, y8, y9, y10, y11, y12, y13, y14, y15, y16, y17, y18, y19, y20, y21, y22, y23, y24, y25⟩ := hY; go_simp; exact HLTC.out) hS28 ?_
  simp only [List.setIfInBounds_toArray, List.set_cons_zero, List.set_cons_succ]
  refine takeW (i := 43) rfl (by kernel_rfl) (by kernel_rfl) (by kernel_rfl) (fun _ _ _ h => h) rfl (by rfl) (v := .bool true) (fun Y hY => by obtain ⟨y0, y1, y2, y3, y4, y5, y6, y7, y8, y9, y10, y11, y12, y13, y14, y15, y16, y17, y18, y19, y20, y21, y22, y23, y24, y25⟩ := hY; go_simp) hS28 ?_
  simp only [List.setIfInBounds_toArray, List.set_cons_zero, List.set_cons_succ]
  refine takeW (i := 44) rfl (by kernel_rfl) (by kernel_rfl) (by kernel_rfl) (fun _ _ _ h => h) rfl (by rfl) (v := .bool true) (fun Y hY => by obtain ⟨y0, y1, y2, y3, y4, y5, y6, y7, y8, y9, y10, y11, y12, y13, y14, y15, y16, y17, y18, y19, y20, y21, y22, y23, y24, y25⟩ := hY; go_simp) hS28 ?_
  simp only [List.setIfInBounds_toArray, List.set_cons_zero, List.set_cons_succ]
  refine wpAnyH_done (by kernel_rfl) ?_ _
  go_wp2_with fail
  go_ret
  exact ⟨rfl, HOW8.out.trans (HO819.out.trans HO28.out (by simp)) (by simp)⟩
end Go.Proofs.Ytmjkohlhbboapaa.Tree
