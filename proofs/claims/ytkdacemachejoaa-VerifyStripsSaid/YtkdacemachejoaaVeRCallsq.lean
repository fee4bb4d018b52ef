/- The document's Calls. -/
import Derived.Test.YtkdacemachejoaaVeRPartq
import Derived.Test.YtkdacemachejoaaObjRRightq
namespace Go.Proofs.Ytkdacemachejoaa.Vm
open Go.RowKit Go.Shelf Go.Maps Object
set_option linter.unusedVariables false
set_option maxRecDepth 100000
/-- what the instructions ahead of i call -/
structure CI (cs : List Cd) (f i : Nat) (L : List Nat) : Prop where
  asc : Asc L
  mem : ∀ t, t ∈ L ↔ ∃ j c, j < i ∧ Rp cs f j ∧ cs[j]? = some c ∧ c.op = 18 ∧ c.n = (t : Int)
section
variable {cs : List Cd} {f i : Nat} {L : List Nat} {c : Cd}
theorem ci_start : CI cs f 0 [] := ⟨by unfold Asc; simp, fun t => ⟨fun h => absurd h (by simp), fun ⟨j, c, h, _⟩ => absurd h (by omega)⟩⟩
theorem ci_skip (h : CI cs f i L) (hc : cs[i]? = some c) (hn : ¬ (Rp cs f i ∧ c.op = 18)) : CI cs f (i + 1) L := by
  refine ⟨h.asc, fun t => ?_⟩
  rw [h.mem]
  constructor
  · rintro ⟨j, c', h1, h2⟩
    exact ⟨j, c', by omega, h2⟩
  · rintro ⟨j, c', h1, h2, h3, h4, h5⟩
    refine ⟨j, c', ?_, h2, h3, h4, h5⟩
    rcases Nat.lt_or_ge j i with h6 | h6
    · exact h6
    · obtain rfl : j = i := by omega
      rw [hc] at h3
      obtain rfl := Option.some.inj h3
      exact absurd ⟨h2, h4⟩ hn
theorem ci_put {k : Nat} (h : CI cs f i L) (hc : cs[i]? = some c) (hr : Rp cs f i) (ho : c.op = 18) (hk : c.n = (k : Int)) : CI cs f (i + 1) (putL L k) := by
  refine ⟨h.asc.put, fun t => ?_⟩
  rw [mem_put, h.mem]
  constructor
  · rintro (rfl | ⟨j, c', h1, h2⟩)
    · exact ⟨i, c, by omega, hr, hc, ho, hk⟩
    · exact ⟨j, c', by omega, h2⟩
  · rintro ⟨j, c', h1, h2, h3, h4, h5⟩
    rcases Nat.lt_or_ge j i with h6 | h6
    · exact .inr ⟨j, c', h6, h2, h3, h4, h5⟩
    · obtain rfl : j = i := by omega
      rw [hc] at h3
      obtain rfl := Option.some.inj h3
      left
      omega
theorem ci_sub (hR : vmRight cs = true) (h : CI cs f i L) : ∀ t ∈ L, t < cs.length := fun t ht => by
  obtain ⟨j, c', h1, h2, h3, h4, h5⟩ := (h.mem t).1 ht
  exact call_lt hR ⟨j, c', h2, h3, h4, h5⟩
theorem ci_len (hR : vmRight cs = true) (h : CI cs f i L) : L.length ≤ cs.length := nodup_bound (h.asc.imp (fun h => Nat.ne_of_lt h)) (ci_sub hR h)
theorem ci_end (hR : vmRight cs = true) (hf : f < cs.length) (h : CI cs f cs.length L) : L = callsL cs f := by
  refine asc_uniq h.asc callsL_asc (fun t => ?_)
  rw [h.mem, mem_callsL hR]
  constructor
  · rintro ⟨j, c', h1, h2⟩
    exact ⟨j, c', h2⟩
  · rintro ⟨j, c', h2, h3⟩
    exact ⟨j, c', rp_lt hR hf h2, h2, h3⟩
end
def OwnO (L : List Nat) (w : World) (y : Ending) (w' : World) : Prop := ∃ v, y = .returned v ∧ OwnR 3 1 w' w.heap.size v L.length (intsR L) ∧ Only [] w w'
set_option maxHeartbeats 8000000 in
theorem rcalls_any (A : Option Addr) (n cc f : Nat) (cs : List Cd) (w : World) (hr : Recs w w.heap.size 5 A n (cs.map Cd.row)) (hR : vmRight cs = true) (hf : f < n) :
    Calls Try.prog 21 #[.slice A n cc, .int .i64 (f : Int)] w (OwnO (callsL cs f) w) := by
  have hl : cs.length = n := by have := hr.1; simpa using this
  have hlen := (right_len hR).2.1
  have HRI := Lib.hid (rvmright_any A n cc cs w hr (by omega))
  rw [hR] at HRI
  have HR := Lib.hid (And.intro hr hR)
  have HL := Lib.hid (And.intro hl (And.intro hlen hf))
  have d1 : decide ((n : Int) ≤ (f : Int)) = false := decide_eq_false (by omega)
  have d2 : decide (n ≤ f) = false := decide_eq_false (by omega)
  have d3 : decide ((f : Int) < 0) = false := decide_eq_false (by omega)
  clear hr hR hl hlen hf
  go_enter Try.func21, Try.ntmps21
  go_wp2_with (first
    | (go_at_call 33; refine HPA.out.mono ?_; rintro y w2 ⟨g, rfl, har, hgw, ho2⟩; have HA := Lib.hid (And.intro har (And.intro hgw (HO1.out.trans ho2 (by simp)))); clear har hgw ho2)
    | (go_at_call 5; refine HRI.out.mono ?_; rintro y w1 ⟨rfl, ho1⟩; have HO1 := Lib.hid ho1; have HPA := Lib.hid (rpart_any A n cc f cs w1 ((HR.out.1.only ho1 (by simp)).more ho1.size) HR.out.2 HL.out.2.2); clear ho1))
  clear d1 d2 d3
  go_loopw [6, 7] (fun v iv wr => ∃ (i : Nat) (L : List Nat), iv = .int .i64 (i : Int) ∧ i ≤ n ∧ OwnR 3 1 wr w.heap.size v L.length (intsR L) ∧ CI cs f i L ∧ Only [] w2 wr) (fun _ iv _ => n - (intOf iv).toNat)
  case atStart => exact ⟨0, [], rfl, by omega, OwnR.nil_ _ _ _ _, ci_start, Only.refl _ _⟩
  case round =>
    rename_i v _
    obtain ⟨i, L, rfl, hi, hown, hci, ho⟩ := hrel
    obtain ⟨A2, c2, rfl, hs1, hs2, hs3, hs4⟩ := hown.shape (by decide)
    have hL := ci_len HR.out.2 hci
    by_cases hlt : i < n
    · have d1 : decide ((i : Int) < (n : Int)) = true := decide_eq_true (by omega)
      have d1' : decide (i < n) = true := decide_eq_true hlt
      have hor : Only [] w wr := HA.out.2.2.trans ho (by simp)
      obtain ⟨bb, off, rfl, hbB, c, _, hc, q0, q1, q2, q3, q4⟩ := cd_at (HR.out.1.only hor (by simp)) i hlt
      obtain ⟨b, r1, r2, r3⟩ := (HA.out.1.only ho (by simp)).cell (i := i) (by have := HL.out; omega)
      have hw : wrap64 ((i : Int) + 1) = ((i + 1 : Nat) : Int) := by have := HL.out; rw [wrap_le (by omega) (by omega)]; omega
      have HW := Lib.hid hw
      have HQ := Lib.hid (And.intro hown (And.intro hci (And.intro ho (And.intro hor (And.intro hL hc)))))
      obtain ⟨op, a, b3, c3, z⟩ := c
      simp only at q0 q4
      by_cases hyes : b = true ∧ op = 18
      · obtain ⟨rfl, rfl⟩ := hyes
        obtain ⟨k, hk, hk2⟩ := right_n HR.out.2 hc (by simp)
        simp only at hk
        subst hk
        have HP := Lib.hid (rput_any (base := w.heap.size) k wr hown hor.size (by have := HL.out; omega))
        have HRP := Lib.hid (r2.1 rfl)
        clear hown hci ho hs1 hs2 hs3 hs4 hL hor hbB hc q1 q2 q3 r2 r3 hw hk2 hi
        go_wp2_with (go_at_call 32; refine HP.out.mono ?_; rintro y w6 ⟨v6, rfl, hown6, ho6, hf6⟩; obtain ⟨A6, c6, rfl, ht1, ht2, ht3, ht4⟩ := hown6.shape (by decide); have HX := Lib.hid (And.intro hown6 ho6); clear hown6 ho6 hf6 ht1 ht2 ht3 ht4)
        go_roundw
        case measure => rw [HW.out]; simp [intOf]; omega
        case rel => exact ⟨i + 1, _, by rw [HW.out], by omega, HX.out.1, ci_put HQ.out.2.1 HQ.out.2.2.2.2.2 HRP.out rfl rfl, HQ.out.2.2.1.trans HX.out.2 (by simp)⟩
      · have hsk : CI cs f (i + 1) L := ci_skip hci hc (fun h => hyes ⟨r2.2 h.1, h.2⟩)
        have HSK := Lib.hid hsk
        have hcase : b = false ∨ (b = true ∧ op ≠ 18) := by
          cases b with
          | false => exact .inl rfl
          | true => exact .inr ⟨rfl, fun h => hyes ⟨rfl, h⟩⟩
        clear hown hci ho hs1 hs2 hs3 hs4 hL hor hbB hc q1 q2 q3 r2 r3 hw hi hsk hyes
        rcases hcase with rfl | ⟨rfl, hop⟩
        · go_wp2_with fail
          go_roundw
          case measure => rw [HW.out]; simp [intOf]; omega
          case rel => exact ⟨i + 1, L, by rw [HW.out], by omega, HQ.out.1, HSK.out, HQ.out.2.2.1⟩
        · have e1 : (op == 18) = false := by simpa using hop
          have e2 : decide (op = 18) = false := decide_eq_false hop
          go_wp2_with fail
          go_roundw
          case measure => rw [HW.out]; simp [intOf]; omega
          case rel => exact ⟨i + 1, L, by rw [HW.out], by omega, HQ.out.1, HSK.out, HQ.out.2.2.1⟩
    · obtain rfl : i = n := by omega
      have d1 : decide ((i : Int) < (i : Int)) = false := decide_eq_false (by omega)
      have he : L = callsL cs f := ci_end HR.out.2 (by have := HL.out; omega) (by rw [HL.out.1]; exact hci)
      subst he
      have HF := Lib.hid (And.intro hown (HA.out.2.2.trans ho (by simp)))
      clear hown hci ho hs1 hs2 hs3 hs4 hL hlt hi
      go_wp2_with fail
      go_ret
      exact ⟨_, rfl, HF.out.1, HF.out.2⟩
end Go.Proofs.Ytkdacemachejoaa.Vm
