/- The law's same: two lists of sectors. -/
import Derived.Test.YtbeenfkmnchhbaaFramePack2
namespace Go.Proofs.Ytbeenfkmnchhbaa.Frame
open Go.RowKit
set_option linter.unusedVariables false
set_option maxRecDepth 100000
theorem Reads.sl {w : World} {B m : Nat} {A : Option Addr} {ss : List Sl} (hr : Reads w B 1 A m (ss.map Sl.val)) (k : Nat) (hk : k < m) : ∃ b off, A = some ⟨b, off, none⟩ ∧ b < B ∧ ∃ s ∈ ss, ss[k]? = some s ∧ w.cell? ⟨b, off + k, none⟩ = some (.slice s.A s.n s.c) := by
  obtain ⟨b, off, e, hb, hc⟩ := Reads.at1 hr hk
  have hl : ss.length = m := by simpa using hr.1
  rw [List.getElem?_map, List.getElem?_eq_getElem (by omega)] at hc
  exact ⟨b, off, e, hb, _, List.getElem_mem (by omega), List.getElem?_eq_getElem (by omega), hc⟩
set_option maxHeartbeats 2000000 in
theorem same_any (A1 A2 : Option Addr) (n c1 c2 B1 B2 : Nat) (ss ts : List Sl) (w : World) (h1 : Reads w B1 1 A1 n (ss.map Sl.val)) (h2 : Reads w B2 1 A2 n (ts.map Sl.val)) (hl1 : ss.length = n) (hl2 : ts.length = n)
    (hk1 : ∀ s ∈ ss, Bytes w w.heap.size s.A s.n s.l) (hk2 : ∀ s ∈ ts, Bytes w w.heap.size s.A s.n s.l) (he : ss.map (·.l) = ts.map (·.l)) (hn : n ≤ 100000) :
    Calls Try.prog 20 #[.slice A1 n c1, .slice A2 n c2] w fun x w' => x = .returned (.bool true) ∧ Only [] w w' := by
  have HE := Lib.hid he
  clear he
  go_enter Try.func20, Try.ntmps20
  go_wp2_with fail
  go_loopw [5] (fun i wr => ∃ k : Nat, k ≤ n ∧ i = .int .i64 k ∧ Only [] w wr) (fun i _ => n - (intOf i).toNat)
  case atStart => exact ⟨0, by omega, rfl, Only.refl _ _⟩
  case round =>
    obtain ⟨k, hk, rfl, ho⟩ := hrel
    by_cases hlt : k < n
    · have d1 : decide ((k : Int) < (n : Int)) = true := decide_eq_true (by omega)
      obtain ⟨b1, o1, rfl, _, s, hs, hs2, hc1⟩ := Reads.sl h1 k hlt
      obtain ⟨b2, o2, rfl, _, t, ht, ht2, hc2⟩ := Reads.sl h2 k hlt
      have hs3 := run_str ((hk1 s hs).only (ho.drew) (by simp)) s.c
      have ht3 := run_str ((hk2 t ht).only (ho.drew) (by simp)) t.c
      have hst : s.l = t.l := by
        have h3 := congrArg (fun x => x[k]?) HE.out
        simp only [List.getElem?_map, hs2, ht2, Option.map_some] at h3
        exact Option.some.inj h3
      rw [← hst] at ht3
      have hc3 := ho.drew.cell hc1 (by simp)
      have hc4 := ho.drew.cell hc2 (by simp)
      have HO := Lib.hid ho
      clear ho hc1 hc2 hst hs2 ht2 h1 h2 hk1 hk2 hs ht
      generalize str s.l = S at *
      generalize hSA : s.A = SA at *
      generalize s.n = sn at *
      generalize s.c = sc at *
      generalize t.A = TA at *
      generalize t.n = tn at *
      generalize t.c = tc at *
      go_wp2_with fail
      go_region
      all_goals (go_wp2_with fail; go_roundw)
      all_goals first
        | exact ⟨k + 1, by omega, by go_num, HO.out.drew⟩
        | (simp [intOf]; omega)
    · obtain rfl : k = n := by omega
      have d1 : decide ((k : Int) < (k : Int)) = false := decide_eq_false (by omega)
      go_wp2_with fail
      go_ret
      exact ⟨rfl, ho⟩
end Go.Proofs.Ytbeenfkmnchhbaa.Frame
