/- The document's Same of two trees; the law's sample. -/
import Derived.Test.YtphpgbnpmplkhaaEditsLaw
import Derived.RegionTactic
import Derived.Laws.StructEq
namespace Go.Proofs.Ytphpgbnpmplkhaa.Edits
open Go.RowKit Go.Maps
set_option linter.unusedVariables false
set_option maxRecDepth 100000
theorem toList_eq {a b : ByteArray} : (a.toList = b.toList) ↔ a = b := by
  rw [Lib.toList_data, Lib.toList_data, Array.toList_inj]
  exact ⟨fun h => ByteArray.ext h, fun h => by rw [h]⟩
theorem guard_src : Try.prog.eqGuardType Try.prog.depth 30 = false := by kernel_rfl
theorem neq_src (x y : Src) (w : World) : (binOp .neq 30 (.agg #[.string x.path, .string x.text]) (.agg #[.string y.path, .string y.text])).run Try.prog w = .ok (.bool (!decide (x = y))) w := by
  have u_string := Try.underlying9
  have a_string : ∀ w, (isAgg 9).run Try.prog w = .ok false w := fun _ => by kernel_rfl
  have z_string : ∀ w, (Go.sizeOf 9).run Try.prog w = .ok 1 w := fun _ => by kernel_rfl
  have hS : Try.prog.underlying 30 = some (.struct (Try.prog.fieldsOf 30)) := by kernel_rfl
  have hp : Try.prog.stoodInHeld 30 = false := by kernel_rfl
  obtain ⟨a, b⟩ := x
  obtain ⟨a', b'⟩ := y
  simp only
  rw [run_neq_struct, show (10000 : Nat) = 9999 + 1 from rfl, run_equalIn_agg w 9999 _ _ _ hS hp]
  simp only [Program.fieldsOf, Try.underlying30]
  go_simp
  by_cases h1 : a = a' <;> by_cases h2 : b = b' <;> simp [h1, h2, toList_eq]
set_option maxHeartbeats 1000000 in
theorem same_any (A1 A2 : Option Addr) (n m c1 c2 : Nat) (xs ys : List Src) (w : World) (h1 : Recs w w.heap.size 2 A1 n (xs.map Src.row)) (h2 : Recs w w.heap.size 2 A2 m (ys.map Src.row)) (hn : n ≤ 9000000000000000) (hm : m ≤ 9000000000000000) (heq : xs = ys) :
    Calls Try.prog 8 #[.slice A1 n c1, .slice A2 m c2] w fun x w' => x = .returned (.bool true) ∧ Only [] w w' := by
  have hl1 : xs.length = n := by simpa using h1.1
  have hl2 : ys.length = m := by simpa using h2.1
  subst heq
  obtain rfl : n = m := by omega
  have H1 := Lib.hid h1
  have H2 := Lib.hid h2
  have HL := Lib.hid hl1
  have e0 : ((n : Int) != (n : Int)) = false := by simp
  clear h1 h2 hl1 hl2
  go_enter Try.func8, Try.ntmps8
  go_wp2_with fail
  go_loopw [5] (fun i wr => ∃ k : Nat, k ≤ n ∧ i = .int .i64 k ∧ Only [] w wr) (fun i _ => n - (intOf i).toNat)
  case atStart => exact ⟨0, by omega, rfl, Only.refl _ _⟩
  case round =>
    obtain ⟨k, hk, rfl, ho⟩ := hrel
    have HO := Lib.hid ho
    by_cases hlt : k < n
    · have e4 : decide ((k : Int) < (n : Int)) = true := decide_eq_true (by omega)
      obtain ⟨b1, o1, ha1, _, x, _, hx, x0, x1⟩ := src_at H1.out k hlt
      obtain ⟨b2, o2, ha2, _, y, _, hy, y0, y1⟩ := src_at H2.out k hlt
      have hxy : x = y := by rw [hx] at hy; injection hy
      subst hxy
      subst ha1
      subst ha2
      have px0 := ho.cell x0 (by simp)
      have px1 := ho.cell x1 (by simp)
      have py0 := ho.cell y0 (by simp)
      have py1 := ho.cell y1 (by simp)
      have hb1 : (0 : Int) ≤ (k : Int) := by omega
      have hq : ∀ w, (binOp .neq 30 (.agg #[.string x.path, .string x.text]) (.agg #[.string x.path, .string x.text])).run Try.prog w = .ok (.bool false) w := fun w => by rw [neq_src]; simp
      have hgd := guard_src
      clear hx hy x0 x1 y0 y1 ho
      go_wp2_with fail
      go_quiet (fail)
      go_wp2_with fail
      go_roundw
      case rel => exact ⟨k + 1, by omega, by go_num, HO.out.drewN _⟩
      case measure => simp [intOf]; omega
    · obtain rfl : n = k := by omega
      have e4 : decide ((n : Int) < (n : Int)) = false := decide_eq_false (by omega)
      clear ho
      go_wp2_with fail
      go_ret
      exact ⟨rfl, HO.out⟩
theorem sample_recs (w : World) (p1 t1 p2 t2 : ByteArray) : Recs (w.alloc (.cells #[.string p1, .string t1, .string p2, .string t2] 30)) (w.alloc (.cells #[.string p1, .string t1, .string p2, .string t2] 30)).heap.size 2 (some ⟨w.heap.size, 0, none⟩) 2 ([(⟨p1, t1⟩ : Src), ⟨p2, t2⟩].map Src.row) := by
  refine ⟨rfl, fun _ => ⟨_, _, rfl, by simp <;> omega, fun i hi j hj => ?_⟩⟩
  rw [(Blk.new w _ _).cell]
  have hi : i < 2 := hi
  obtain rfl | rfl : i = 0 ∨ i = 1 := by omega
  all_goals
    obtain rfl | rfl : j = 0 ∨ j = 1 := by omega
  all_goals exact ⟨rfl, rfl⟩
def pMain : ByteArray := ⟨#[109, 97, 105, 110]⟩
def pQ : ByteArray := ⟨#[113]⟩
theorem sample_any : ∃ t1 t2 : ByteArray, (∀ w, Calls Try.prog 9 #[] w fun x w' => ∃ (A : Addr), x = .returned (.slice (some A) 2 2) ∧ Recs w' w'.heap.size 2 (some A) 2 ([(⟨pMain, t1⟩ : Src), ⟨pQ, t2⟩].map Src.row) ∧ Only [] w w') ∧ t1.size ≤ 1000 ∧ t2.size ≤ 1000 := by
  apply Exists.intro
  apply Exists.intro
  apply And.intro
  · intro w
    go_enter Try.func9, Try.ntmps9
    go_wp2_with fail
    go_ret
    exact ⟨⟨w.heap.size, 0, none⟩, rfl, sample_recs w _ _ _ _, (Only.refl [] w).alloc _⟩
  · exact ⟨by decide, by decide⟩
end Go.Proofs.Ytphpgbnpmplkhaa.Edits
