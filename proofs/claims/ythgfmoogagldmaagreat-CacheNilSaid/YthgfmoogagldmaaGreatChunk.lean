/- slices.Chunk(b, 64): the sectors of b, one behind the other, for every loop body that keeps what Chunk reads. -/
import Derived.Test.YthgfmoogagldmaaGreatFenced
import Derived.Test.YthgfmoogagldmaaGreatFramePack
import Derived.Stop.RegionWithIn
namespace Go.Proofs.YthgfmoogagldmaaGreat.Frame
open Go.RowKit Go.Shelf
set_option linter.unusedVariables false
set_option maxRecDepth 100000
attribute [local go_sem] Oper.semAt_some
/-- the number of a sector of n bytes -/
abbrev SecNo (n : Nat) : Type := { k : Nat // 64 * k < n }
def cut (n k : Nat) : Nat := min 64 (n - 64 * k)
def secArg (b off n : Nat) (x : SecNo n) : Array Value := #[.slice (some ⟨b, off + 64 * x.1, none⟩) (cut n x.1) (cut n x.1)]
def upto (n k : Nat) (pre : List (SecNo n)) : Prop := pre.map (·.1) = List.range k
theorem upto.len {n k : Nat} {pre : List (SecNo n)} (h : upto n k pre) : pre.length = k := by
  have := congrArg List.length h
  simpa using this
theorem upto.snoc {n k : Nat} {pre : List (SecNo n)} (h : upto n k pre) (x : SecNo n) (hx : x.1 = k) : upto n (k + 1) (pre ++ [x]) := by
  unfold upto at h ⊢
  rw [List.map_append, h, List.range_succ]
  simp [hx]
set_option maxHeartbeats 2000000 in
theorem chunk1_in (F : Fence) (d : Nat) (h7 : F.fn 156) (hro : F.round = none) (hd : 1 ≤ d) (l Bs Bn n₁ B n b off c : Nat) (hn : n ≤ c ∧ c ≤ maxLen ∧ n ≤ 2000) (hBs : Bs < n₁ ∧ Bs ≠ B) (hBn : Bn < n₁ ∧ Bn ≠ B) (J Jx : List (SecNo n) → World → Prop)
    (hJ : ∀ (s : List (SecNo n)) (X : World), J s X → J s X.drew)
    (hY : ∀ pre x W, J pre W → pre.length < (n + 63) / 64 → YieldAt F (d - 1) Tryz.prog l (secArg b off n x) W fun e W' =>
      (e = .returned (.bool true) ∧ J (pre ++ [x]) W' ∧ KeepsBut n₁ B W W') ∨ (e = .returned (.bool false) ∧ Jx (pre ++ [x]) W'))
    (W : World) (hcs : W.cell? ⟨Bs, 0, none⟩ = some (.slice (some ⟨b, off, none⟩) n c)) (hcn : W.cell? ⟨Bn, 0, none⟩ = some (.int .i64 64)) (h0 : J [] W) :
    CallsIn F d Tryz.prog 156 #[.func (.yield l) #[] #[], .pointer (some ⟨Bs, 0, none⟩), .pointer (some ⟨Bn, 0, none⟩)] W fun e W' => (∃ v, e = .returned v) ∧
      ((∃ ys, upto n ((n + 63) / 64) ys ∧ J ys W') ∨ (∃ pre, True ∧ Jx pre W')) := by
  have hkeep : ∀ X Y : World, KeepsBut n₁ B X Y → ∀ g, g < n₁ ∧ g ≠ B → ∀ v, X.cell? ⟨g, 0, none⟩ = some v → Y.cell? ⟨g, 0, none⟩ = some v := by
    intro X Y hk g hg v hv
    unfold World.cell? at hv ⊢
    simp only [hk.2 g hg.1 hg.2]
    exact hv
  have HK := Lib.hid hkeep
  have hmx : c ≤ maxLen := hn.2.1
  clear hkeep
  have HC := Lib.hid hcn
  refine callsIn_of_wp Tryz.func156 rfl h7 ?_ hro
  simp only [Tryz.ntmps156, List.size_toArray, List.length_cons, List.length_nil, Nat.reduceAdd, Nat.reduceSub, Array.replicate_succ, Array.replicate_zero, List.push_toArray, List.append_toArray, List.nil_append, List.cons_append]
  gi_wp2
  gi_loopw [4] (fun i wr => ∃ (k : Nat) (pre : List (SecNo n)), (64 * k < n + 64) ∧ i = .int .i64 (64 * (k : Int)) ∧ upto n k pre ∧ J pre wr ∧ KeepsBut n₁ B W wr)
    (fun i _ => n + 64 - (intOf i).toNat)
  case atStart => exact ⟨0, [], by omega, rfl, rfl, h0, KeepsBut.refl _ _ _⟩
  case round =>
    obtain ⟨k, pre, hk, rfl, hup, hJs, hkp⟩ := hrel
    have hc1 := HK.out _ _ hkp _ hBs _ hcs
    have hc2 := HK.out _ _ hkp _ hBn _ hcn
    have HKP := Lib.hid hkp
    have HUP := Lib.hid hup
    clear hkp hup
    by_cases hlt : 64 * k < n
    · obtain ⟨e, he⟩ : ∃ e, cut n k = e := ⟨_, rfl⟩
      obtain ⟨fn, tmps, assign, body, hy, hR⟩ := hY pre ⟨k, hlt⟩ wr.drew (hJ _ _ hJs) (by rw [HUP.out.len]; omega)
      unfold secArg at hy
      dsimp only at hy
      rw [he] at hy
      have hmin : (if ((n - 64 * k : Nat) : Int) < 64 then ((n - 64 * k : Nat) : Int) else 64) = (e : Int) := by unfold cut at he; split <;> omega
      have hb : 0 < e ∧ 64 * k + e ≤ n := by unfold cut at he; omega
      have dlt : decide (64 * (k : Int) < (n : Int)) = true := decide_eq_true (by omega)
      have HM := Lib.hid hmin
      clear hmin he
      gi_wp2
      gi_region
      all_goals rw [HM.out]
      all_goals gi_wp2
      all_goals (refine hR.mono ?_; rintro x W3 (⟨rfl, hJ3, hk3⟩ | ⟨rfl, hJx3⟩))
      all_goals first
        | (have hkx := keepsBut_t HKP.out (show KeepsBut n₁ B wr W3 from hk3)
           have hn2 := HK.out _ _ hkx _ hBn _ HC.out
           have HKX := Lib.hid hkx
           have HU := Lib.hid (HUP.out.snoc ⟨k, hlt⟩ rfl)
           clear hk3 hkx hJs hy
           gi_wp2
           go_roundw
           case rel => exact ⟨k + 1, _, by omega, by go_num, HU.out, hJ3, HKX.out⟩
           case measure => simp [intOf]; omega)
        | (gi_wp2
           refine bodyPost_ret (results_none rfl _ _ _) rfl ?_
           exact ⟨⟨_, rfl⟩, .inr ⟨_, trivial, hJx3⟩⟩)
    · have dlt : decide (64 * (k : Int) < (n : Int)) = false := decide_eq_false (by omega)
      gi_wp2
      go_end0
      exact ⟨⟨_, rfl⟩, .inl ⟨_, by rw [show (n + 63) / 64 = k by omega]; exact HUP.out, hJs⟩⟩
end Go.Proofs.YthgfmoogagldmaaGreat.Frame
