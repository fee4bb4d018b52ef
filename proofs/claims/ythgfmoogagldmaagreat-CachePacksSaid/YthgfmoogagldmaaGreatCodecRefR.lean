/- The walks of the reference's Reader. -/
import Derived.Test.YthgfmoogagldmaaGreatCodecRef
import Derived.Deep.RegionHeld3
namespace Go.Proofs.YthgfmoogagldmaaGreat.Codec
open Go.RowKit
set_option linter.unusedVariables false
set_option maxRecDepth 100000

theorem two_cells (A : Option Addr) (n c : Nat) (b : Bool) : ∀ (i : Nat) (z : Int), (#[Value.slice A n c, Value.bool b] : Array Value)[i]? ≠ some (Value.int .u8 z) := by
  intro i z h
  match i with
  | 0 => cases h
  | 1 => cases h
  | i + 2 => cases h
/-- the reference's Reader behind pointer p -/
def RRd (w : World) (p : Nat) (st : Option (List UInt8)) : Prop :=
  ∃ A n c, Blk w p 148 #[.slice A n c, .bool st.isNone] ∧ n ≤ c ∧ c ≤ maxLen ∧ Bytes w p A n (st.getD [])
theorem RRd.later {w w' : World} {p : Nat} {st : Option (List UInt8)} {S : List Nat} (h : RRd w p st) (ho : Only S w w') (hS : ∀ g ∈ S, p < g) : RRd w' p st := by
  obtain ⟨A, n, c, hb, hc, hm, hr⟩ := h
  refine ⟨A, n, c, hb.only ho (fun hp => by have := hS p hp; omega), hc, hm, hr.only_pos ho (fun hn g hg hgS => ?_)⟩
  have h1 := hr.blk_lt hn g hg
  have h2 := hS g hgS
  omega
theorem RRd.other {w w' : World} {p q : Nat} {st st' : Option (List UInt8)} (h : RRd w p st) (hq : Rd w q st') (ho : Only [q] w w') (hne : p ≠ q) : RRd w' p st := by
  obtain ⟨A, n, c, hb, hc, hm, hr⟩ := h
  obtain ⟨A', n', c', hb', _⟩ := hq
  exact ⟨A, n, c, hb.only ho (by simpa using hne), hc, hm, hr.only_pos ho (fun hn g hg => by simpa using hr.ne_blk hn hb' (two_cells _ _ _ _) g hg)⟩
theorem Rd.other {w w' : World} {p q : Nat} {st st' : Option (List UInt8)} (h : Rd w p st) (hq : RRd w q st') (ho : Only [q] w w') (hne : p ≠ q) : Rd w' p st := by
  obtain ⟨A, n, c, hb, hc, hm, hr, hp⟩ := h
  obtain ⟨A', n', c', hb', _⟩ := hq
  exact ⟨A, n, c, hb.only ho (by simpa using hne), hc, hm, hr.only_pos ho (fun hn g hg => by simpa using hr.ne_blk hn hb' (two_cells _ _ _ _) g hg), hp⟩
theorem RRd.drew {w : World} {p : Nat} {st : Option (List UInt8)} (h : RRd w p st) : RRd w.drew p st := h
theorem Rd.drew {w : World} {p : Nat} {st : Option (List UInt8)} (h : Rd w p st) : Rd w.drew p st := h
theorem only_drew {S : List Nat} {w w' : World} (h : Only S w.drew w') : Only S w w' := ((Only.refl S w).drew).trans h (fun g hg => .inl hg)

theorem rref_get (p k : Nat) (st : Option (List UInt8)) (w : World) (h : RRd w p st) (hk : k ≤ 9223372036854775807) :
    Calls Tryz.prog 127 #[.pointer (some ⟨p, 0, none⟩), .int .i64 (k : Int)] w fun e w' => ∃ A n c, e = .returned (.slice A n c) ∧ n ≤ c ∧ c ≤ maxLen ∧ Bytes w' w'.heap.size A n (rget k st) ∧ RRd w' p (rgot k st) ∧ Only [p] w w' := by
  obtain ⟨A, n, c, hb, hc, hm, hr⟩ := h
  unfold maxLen at hm
  have c0 : w.cell? ⟨p, 0, none⟩ = some (.slice A n c) := hb.cell 0
  have f0 := hb.frozen 0
  have f1 := hb.frozen 1
  have HL := Lib.hid hr.len
  have hbad : ∀ V : Value, RRd ((w.setCell ⟨p, 1, none⟩ (.bool true)).setCell ⟨p, 0, none⟩ (.slice none 0 0)) p none ∧ Only [p] w ((w.setCell ⟨p, 1, none⟩ (.bool true)).setCell ⟨p, 0, none⟩ (.slice none 0 0)) :=
    fun _ => ⟨⟨none, 0, 0, (hb.set_ 1 (.bool true)).set_ 0 (.slice none 0 0), Nat.le_refl _, by simp [maxLen], Bytes.nil_⟩, ((Only.refl [p] w).setCell (p := ⟨p, 1, none⟩) (.inl (by simp)) _).setCell (p := ⟨p, 0, none⟩) (.inl (by simp)) _⟩
  have HBAD := Lib.hid (hbad undef)
  clear hbad
  cases st with
  | none =>
    have d1 : w.cell? ⟨p, 1, none⟩ = some (.bool true) := hb.cell 1
    go_enter Tryz.func127, Tryz.ntmps127
    go_wp2_with fail
    go_ret
    exact ⟨none, 0, 0, rfl, Nat.le_refl _, by simp [maxLen], Bytes.nil_, HBAD.out.1, HBAD.out.2⟩
  | some l =>
    have d1 : w.cell? ⟨p, 1, none⟩ = some (.bool false) := hb.cell 1
    have hl : Hid (l.length = n) := HL.out
    by_cases hlt : n < k
    · have hg : rget k (some l) = [] := rget_bad (by rw [hl.out]; exact hlt)
      have hg2 : rgot k (some l) = none := rgot_bad (by rw [hl.out]; exact hlt)
      rw [hg, hg2]
      clear hg hg2
      go_enter Tryz.func127, Tryz.ntmps127
      go_wp2_with fail
      go_ret
      exact ⟨none, 0, 0, rfl, Nat.le_refl _, by simp [maxLen], Bytes.nil_, HBAD.out.1, HBAD.out.2⟩
    · have hg : rget k (some l) = l.take k := rget_ok (by rw [hl.out]; exact hlt)
      have hg2 : rgot k (some l) = some (l.drop k) := rgot_ok (by rw [hl.out]; exact hlt)
      rw [hg, hg2]
      clear hg hg2
      have hr' : Bytes w p A n l := hr
      have hpA : 0 < n → ∀ g ∈ blkOf A, g ∉ [p] := fun hn g hg => by simpa using hr'.ne_blk hn hb (two_cells _ _ _ _) g hg
      have HP := Lib.hid hpA
      clear hpA hr
      by_cases hck : c = k
      · have hnk : n = k := by omega
        subst hck
        obtain rfl : n = c := hnk
        go_enter Tryz.func127, Tryz.ntmps127
        go_wp2_with fail
        go_ret
        have hS := (Only.refl [p] w).setCell (p := ⟨p, 0, none⟩) (.inl (by simp)) (.slice A 0 0)
        refine ⟨A, n, n, rfl, Nat.le_refl _, by simp only [maxLen]; omega, ?_, ⟨A, 0, 0, hb.set_ 0 _, Nat.le_refl _, by simp [maxLen], ?_⟩, hS⟩
        · have := hr'.head (k := n) (Nat.le_refl _)
          exact (this.only_pos hS HP.out).more (by have := hb.lt; simp [World.setCell]; omega)
        · have : List.drop n l = [] := List.drop_eq_nil_of_le (by rw [hl.out]; exact Nat.le_refl _)
          show Bytes _ _ _ _ (List.drop n l)
          rw [this]
          exact ⟨rfl, rfl, fun h => absurd h (by omega)⟩
      · go_enter Tryz.func127, Tryz.ntmps127
        go_wp2_with fail
        go_ret
        have hS := (Only.refl [p] w).setCell (p := ⟨p, 0, none⟩) (.inl (by simp)) (.slice (Option.map (fun x => x.add k) A) (n - k) (c - k))
        refine ⟨A, k, c, rfl, by omega, by simp only [maxLen]; omega, ?_, ⟨_, n - k, c - k, hb.set_ 0 _, by omega, by simp only [maxLen]; omega, ?_⟩, hS⟩
        · have := hr'.head (k := k) (by omega)
          exact (this.only_pos hS (fun hk0 => HP.out (by omega))).more (by have := hb.lt; simp [World.setCell]; omega)
        · have := hr'.rest (k := k) (by omega)
          exact this.only_pos hS (fun hk0 => by rw [blkOf_map]; exact HP.out (by omega))
set_option maxHeartbeats 1000000 in
theorem rref_num (p : Nat) (st : Option (List UInt8)) (w : World) (h : RRd w p st) :
    Calls Tryz.prog 91 #[.pointer (some ⟨p, 0, none⟩)] w fun e w' => e = .returned (.int .i64 (s64 (vle (rget 8 st)))) ∧ RRd w' p (rgot 8 st) ∧ Only [p] w w' := by
  have hg := rref_get p 8 st w h (by omega)
  rw [show ((8 : Nat) : Int) = 8 from rfl] at hg
  have HG := Lib.hid hg
  clear hg
  have hlen := rget_len 8 st
  go_enter Tryz.func91, Tryz.ntmps91
  go_wp2_with fail
  refine Calls.mono HG.out ?_
  rintro e w1 ⟨A, n, c, rfl, hnc, hm, hr, hR, hO⟩
  have hn : n ≤ 8 := by have := hr.len; omega
  have HL := Lib.hid hr.len
  generalize hll : rget 8 st = l at *
  have HLL := Lib.hid hll
  clear hll hlen
  go_wp2_with fail
  go_loop [4, 5] (fun v i => ∃ k : Nat, k ≤ n ∧ i = .int .i64 k ∧ v = .int .u64 (vle (l.take k) : Nat)) (fun _ i => n - (intOf i).toNat)
  case atStart => exact ⟨0, by omega, rfl, rfl⟩
  case round =>
    obtain ⟨k, hk, rfl, rfl⟩ := hrel
    by_cases hlt : k < n
    · obtain ⟨b, off, rfl, hB, hc⟩ := hr.at_ hlt
      have hkl : k < l.length := by rw [HL.out]; exact hlt
      have HS := Lib.hid (vle_take_succ l k hkl)
      have hx := vle_lt (l.take k)
      rw [List.length_take, Nat.min_eq_left (by omega)] at hx
      have hy := vle_lt (l.take (k + 1))
      rw [HS.out, List.length_take, Nat.min_eq_left (by omega)] at hy
      have hc8 := (l.getD k 0).toNat_lt
      generalize vle (l.take k) = x at *
      generalize (l.getD k 0).toNat = d at *
      have e1 : IntKind.i64.wrap (8 * (k : Int)) = 8 * (k : Int) := IntWalk.i64_in _ (by omega)
      have e2 : (0 : Int) ≤ 8 * (k : Int) := by omega
      have e3 : (8 * (k : Int)).toNat = 8 * k := by omega
      have e4 : min (8 * k) 64 = 8 * k := Nat.min_eq_left (by omega)
      have hp64 : 2 ^ (8 * (k + 1)) ≤ 18446744073709551616 := Nat.le_trans (Nat.pow_le_pow_right (by decide) (show 8 * (k + 1) ≤ 64 by omega)) (by decide)
      have hor := or_low x d (8 * k) hx
      have hb := u64_or_nat x (d * 2 ^ (8 * k)) (by omega) (by omega)
      rw [hor] at hb
      have hw : Hid (bits .or .u64 (x : Int) (IntKind.u64.wrap ((d : Int) * 2 ^ (8 * k))) = ((x + d * 2 ^ (8 * k) : Nat) : Int)) := by
        have e : ((2 ^ (8 * k) : Nat) : Int) = (2 : Int) ^ (8 * k) := by norm_cast
        unfold Hid
        rw [← hb, ← e, ← Int.natCast_mul, IntKind.wrap_u64]
        congr 1
        omega
      clear hb hor hp64 hy hx
      go_wp2_with fail
      go_round
      case rel => exact ⟨k + 1, by omega, by go_num, by rw [HS.out, hw.out]⟩
      case measure => simp [intOf]; omega
    · obtain rfl : k = n := by omega
      have HX := Lib.hid (congrArg vle (List.take_of_length_le (show l.length ≤ k by rw [HL.out]; exact Nat.le_refl _)))
      have hx := vle_lt (l.take k)
      rw [List.length_take, Nat.min_eq_left (by rw [HL.out]; exact Nat.le_refl _)] at hx
      generalize hxx : vle (l.take k) = x at *
      have HXX := Lib.hid hxx
      clear hxx hx
      go_wp2_with fail
      go_ret
      exact ⟨by rw [HLL.out, ← HX.out]; rfl, hR, hO⟩
theorem rc_none {m : Int} {st : Option (List UInt8)} (h : rgot 2 st = none) : rcount m st = 0 ∧ rcounted m st = none := by
  unfold rcount rcounted
  rw [rgot_none h, h]
  exact ⟨by split <;> rfl, by split <;> rfl⟩
theorem st_cases (st : Option (List UInt8)) : rgot 2 st = none ∨ ∃ a b t, st = some (a :: b :: t) := by
  match st with
  | none => exact .inl rfl
  | some [] => exact .inl rfl
  | some [a] => exact .inl rfl
  | some (a :: b :: t) => exact .inr ⟨a, b, t, rfl⟩
set_option maxHeartbeats 1000000 in
theorem rref_count (p : Nat) (m : Int) (st : Option (List UInt8)) (w : World) (h : RRd w p st) :
    Calls Tryz.prog 117 #[.pointer (some ⟨p, 0, none⟩), .int .i64 m] w fun e w' => e = .returned (.int .i64 (rcount m st : Nat)) ∧ RRd w' p (rcounted m st) ∧ Only [p] w w' := by
  have hg := rref_get p 2 st w h (by omega)
  rw [show ((2 : Nat) : Int) = 2 from rfl] at hg
  have HG := Lib.hid hg
  clear hg h
  rcases st_cases st with hn | ⟨a, b, t, rfl⟩
  · rw [(rc_none hn).1, (rc_none hn).2]
    have HN := Lib.hid hn
    clear hn
    go_enter Tryz.func117, Tryz.ntmps117
    go_wp2_with fail
    refine Calls.mono HG.out ?_
    rintro e w1 ⟨A, n, c, rfl, hnc, hm, hr, hR, hO⟩
    rw [HN.out] at hR
    obtain ⟨A1, n1, c1, hb1, hrest⟩ := hR
    have d1 : w1.cell? ⟨p, 1, none⟩ = some (.bool true) := hb1.cell 1
    go_wp2_with fail
    go_ret
    exact ⟨rfl, ⟨A1, n1, c1, hb1, hrest⟩, hO⟩
  · have hv : vle (rget 2 (some (a :: b :: t))) = a.toNat + 256 * b.toNat := by
      rw [rget_ok (by simp)]
      simp [vle]
    have hrg : rgot 2 (some (a :: b :: t)) = some t := by rw [rgot_ok (by simp)]; rfl
    have hrt : rget 2 (some (a :: b :: t)) = [a, b] := by rw [rget_ok (by simp)]; rfl
    have ha := a.toNat_lt
    have hb8 := b.toNat_lt
    have HRG := Lib.hid hrg
    have HRT := Lib.hid hrt
    have HV := Lib.hid hv
    have hif : Hid ((rcount m (some (a :: b :: t)) = if ((a.toNat + 256 * b.toNat : Nat) : Int) ≤ m then a.toNat + 256 * b.toNat else 0) ∧ rcounted m (some (a :: b :: t)) = if ((a.toNat + 256 * b.toNat : Nat) : Int) ≤ m then some t else none) := by
      unfold Hid rcount rcounted
      rw [hv, hrg]
      exact ⟨rfl, rfl⟩
    clear hv hrg hrt
    rw [hif.out.1, hif.out.2]
    clear hif
    by_cases hm : ((a.toNat + 256 * b.toNat : Nat) : Int) ≤ m
    · rw [if_pos hm, if_pos hm]
      go_enter Tryz.func117, Tryz.ntmps117
      go_wp2_with fail
      refine Calls.mono HG.out ?_
      rintro e w1 ⟨A, n, c, rfl, hnc, hmm, hr, hR, hO⟩
      rw [HRG.out] at hR
      rw [HRT.out] at hr
      have hR' := hR
      obtain ⟨A1, n1, c1, hb1, _⟩ := hR
      have d1 : w1.cell? ⟨p, 1, none⟩ = some (.bool false) := hb1.cell 1
      obtain rfl : 2 = n := hr.len
      obtain ⟨bk, off, rfl, _, hc0⟩ := hr.at_ (k := 0) (by omega)
      obtain ⟨bk', off', hA, _, hc1⟩ := hr.at_ (k := 1) (by omega)
      injection hA with hA
      injection hA with hA1 hA2
      subst hA1; subst hA2
      have hc0' : w1.cell? ⟨bk, off, none⟩ = some (.int .u8 (a.toNat : Int)) := hc0
      have hc1' : w1.cell? ⟨bk, off + 1, none⟩ = some (.int .u8 (b.toNat : Int)) := hc1
      clear hc0 hc1 hr HG HRG HRT HV
      have d0 : w1.cell? ⟨p, 0, none⟩ = some (.slice A1 n1 c1) := hb1.cell 0
      generalize hax : a.toNat = x at *
      generalize hby : b.toNat = y at *
      have HAX := Lib.hid hax
      have HBY := Lib.hid hby
      clear hax hby
      go_wp2_with fail
      go_quiet (fail)
      go_wp2_with fail
      go_ret
      exact ⟨by rw [HAX.out, HBY.out]; simp, hR', Only.drewN hO _⟩
    · rw [if_neg hm, if_neg hm]
      go_enter Tryz.func117, Tryz.ntmps117
      go_wp2_with fail
      refine Calls.mono HG.out ?_
      rintro e w1 ⟨A, n, c, rfl, hnc, hmm, hr, hR, hO⟩
      rw [HRG.out] at hR
      rw [HRT.out] at hr
      have hR' := hR
      obtain ⟨A1, n1, c1, hb1, _⟩ := hR
      have f0 := hb1.frozen 0
      have f1 := hb1.frozen 1
      have HB1 := Lib.hid hb1
      have d1 : w1.cell? ⟨p, 1, none⟩ = some (.bool false) := hb1.cell 1
      obtain rfl : 2 = n := hr.len
      obtain ⟨bk, off, rfl, _, hc0⟩ := hr.at_ (k := 0) (by omega)
      obtain ⟨bk', off', hA, _, hc1⟩ := hr.at_ (k := 1) (by omega)
      injection hA with hA
      injection hA with hA1 hA2
      subst hA1; subst hA2
      have hc0' : w1.cell? ⟨bk, off, none⟩ = some (.int .u8 (a.toNat : Int)) := hc0
      have hc1' : w1.cell? ⟨bk, off + 1, none⟩ = some (.int .u8 (b.toNat : Int)) := hc1
      clear hc0 hc1 hr HG HRG HRT HV
      have d0 : w1.cell? ⟨p, 0, none⟩ = some (.slice A1 n1 c1) := hb1.cell 0
      generalize hax : a.toNat = x at *
      generalize hby : b.toNat = y at *
      have HAX := Lib.hid hax
      have HBY := Lib.hid hby
      clear hax hby
      go_wp2_with fail
      go_quiet (fail)
      go_wp2_with fail
      go_ret
      refine ⟨rfl, ⟨none, 0, 0, ?_, Nat.le_refl _, by simp [maxLen], Bytes.nil_⟩, ?_⟩
      · exact (Blk.set_ (Blk.drewN HB1.out _) 1 (.bool true)).set_ 0 (.slice none 0 0)
      · exact ((Only.drewN hO _).setCell (p := ⟨p, 1, none⟩) (.inl (by simp)) _).setCell (p := ⟨p, 0, none⟩) (.inl (by simp)) _
end Go.Proofs.YthgfmoogagldmaaGreat.Codec
