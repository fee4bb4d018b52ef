/- The reference's Cycles walks. -/
import Derived.Test.YthaifmfioabmkaaMovesRef
import Derived.Test.YthaifmfioabmkaaMovesMath3
namespace Go.Proofs.Ythaifmfioabmkaa.Moves
open Go.RowKit Go.Maps
set_option linter.unusedVariables false
set_option maxRecDepth 100000
def rcyc (l : List Mv) : Nat := if Uniq l then l.countP (isL l) else 0
theorem isL_of {l : List Mv} {x : Mv} {p : Int} {ok : Bool} {least : Int} {steps : Nat} (h : rw_ l x.dst (l.length + 1) x.src true x.dst 1 = (p, ok, least, steps)) : isL l x = (ok && (p == x.dst) && (least == x.dst) && decide (1 < steps)) := by unfold isL; rw [h]
theorem count_take {l : List Mv} {p : Mv → Bool} {k : Nat} {x : Mv} (h : l[k]? = some x) : (l.take (k + 1)).countP p = (l.take k).countP p + (if p x = true then 1 else 0) := by
  rw [take_snoc h, List.countP_append, List.countP_cons, List.countP_nil]
  simp
set_option maxHeartbeats 4000000 in
theorem rcycles_any (A : Option Addr) (m c : Nat) (l : List Mv) (w : World) (hr : Recs w w.heap.size 2 A m (l.map Mv.row)) (hm : m ≤ 100) :
    Calls Try.prog 11 #[.slice A m c] w fun x w' => x = .returned (.int .i64 (rcyc l)) ∧ Only [] w w' := by
  have hl : l.length = m := by simpa using hr.1
  have HL := Lib.hid hl
  have HR := Lib.hid hr
  have HU := Lib.hid (show ¬ Uniq l → rcyc l = 0 from fun h => if_neg h)
  have HT := Lib.hid (show Uniq l → rcyc l = l.countP (isL l) from fun h => if_pos h)
  have HS := Lib.hid (fun (p : Int) w2 (h : Only [] w w2) => source_any A m c w.heap.size l p w2 (hr.only h (by simp)) hm)
  obtain ⟨res, hres⟩ : ∃ b, rcyc l = b := ⟨_, rfl⟩
  rw [hres] at HU HT ⊢
  clear hr hl hres
  go_enter Try.func11, Try.ntmps11
  go_wp2_with fail
  go_loopw [4] (fun i wr => ∃ k : Nat, k ≤ m ∧ i = .int .i64 k ∧ Only [] w wr ∧ Uniq (l.take k)) (fun i _ => m - (intOf i).toNat)
  case atStart => exact ⟨0, by omega, rfl, Only.refl _ _, by unfold Uniq; simp⟩
  case round =>
    obtain ⟨k, hk, rfl, ho, hu⟩ := hrel
    have HO := Lib.hid ho
    have HUU := Lib.hid hu
    clear hu
    by_cases hlt : k < m
    · have e1 : decide ((k : Int) < (m : Int)) = true := decide_eq_true (by omega)
      obtain ⟨b, off, hA, hb, x, hmem, hsk, c0, c1⟩ := mv_at HR.out k hlt
      subst hA
      have HC0 := Lib.hid c0
      have HSK := Lib.hid hsk
      clear hsk ho hmem c0 c1
      obtain ⟨xd, xs⟩ := x
      simp only at HC0
      go_wp2_with fail
      go_loopw [5] (fun i wr => ∃ j : Nat, j ≤ k ∧ i = .int .i64 j ∧ Only [] w wr ∧ ∀ y ∈ l.take j, y.dst ≠ xd) (fun i _ => k - (intOf i).toNat)
      case atStart => exact ⟨0, by omega, rfl, HO.out, by simp⟩
      case round =>
        obtain ⟨j, hj, rfl, ho, hn⟩ := hrel
        have HO2 := Lib.hid ho
        have HN := Lib.hid hn
        clear hn
        by_cases hlt2 : j < k
        · have e4 : decide ((j : Int) < (k : Int)) = true := decide_eq_true (by omega)
          obtain ⟨b', off', hA, hb', z, hmz, hsz, d0, d1⟩ := mv_at HR.out j (by omega)
          simp only [Option.some.injEq, Addr.mk.injEq, and_true] at hA
          obtain ⟨rfl, rfl⟩ := hA
          have q0 := ho.drew.cell HC0.out (by simp)
          have q1 := ho.drew.cell d0 (by simp)
          have HSZ := Lib.hid hsz
          have HTZ := Lib.hid (take_snoc hsz)
          obtain ⟨zd, zs⟩ := z
          simp only at q0 q1
          clear ho hmz hsz d0 d1
          by_cases h3 : zd = xd
          · subst h3
            have e5 : (zd == zd) = true := by simp
            go_wp2_with fail
            go_region_held (fun w' => w'.cell? ⟨b, off + j * 2, none⟩ = some (.int .i64 zd) ∧ w'.cell? ⟨b, off + k * 2, none⟩ = some (.int .i64 zd)) (exact ⟨q1, q0⟩) (fail)
            go_wp2_with fail
            go_ret
            exact ⟨by rw [HU.out (dup_not HSK.out HSZ.out hlt2 rfl)]; rfl, HO2.out.drew⟩
          · have e5 : (zd == xd) = false := by simp [h3]
            have HNE := Lib.hid h3
            clear h3
            go_wp2_with fail
            go_region_held (fun w' => w'.cell? ⟨b, off + j * 2, none⟩ = some (.int .i64 zd) ∧ w'.cell? ⟨b, off + k * 2, none⟩ = some (.int .i64 xd)) (exact ⟨q1, q0⟩) (fail)
            go_wp2_with fail
            go_roundw
            case measure => simp [intOf]; omega
            case rel =>
              refine ⟨j + 1, by omega, by go_num, HO2.out.drew, ?_⟩
              rw [HTZ.out]
              intro y hy
              rcases List.mem_append.1 hy with h | h
              · exact HN.out y h
              · rw [List.mem_singleton.1 h]; exact HNE.out
        · obtain rfl : j = k := by omega
          have e4 : decide ((j : Int) < (j : Int)) = false := decide_eq_false (by omega)
          go_wp2_with fail
          go_roundw
          case measure => simp [intOf]; omega
          case rel => exact ⟨j + 1, by omega, by go_num, HO2.out, uniq_take_new HSK.out HUU.out HN.out⟩
    · obtain rfl : k = m := by omega
      have e1 : decide ((k : Int) < (k : Int)) = false := decide_eq_false (by omega)
      have hu := HUU.out
      rw [← HL.out, List.take_length] at hu
      have HRS := Lib.hid (HT.out hu)
      clear hu ho HU HT HUU hk hlt
      go_wp2_with fail
      clear e1
      go_loopw [3, 6] (fun nv i wr => ∃ j : Nat, j ≤ k ∧ i = .int .i64 j ∧ nv = .int .i64 ((l.take j).countP (isL l) : Nat) ∧ Only [] w wr) (fun _ i _ => k - (intOf i).toNat)
      case atStart => exact ⟨0, by omega, rfl, by simp, HO.out⟩
      case round =>
        clear HO
        obtain ⟨j, hj, rfl, rfl, ho⟩ := hrel
        have HO := Lib.hid ho
        have hcnt : (l.take j).countP (isL l) ≤ 100 := Nat.le_trans List.countP_le_length (by have := List.length_take_le j l; omega)
        by_cases hlt : j < k
        · have e1 : decide ((j : Int) < (k : Int)) = true := decide_eq_true (by omega)
          obtain ⟨b, off, hA, hb, x, hmem, hsk, c0, c1⟩ := mv_at HR.out j hlt
          subst hA
          have y0 := ho.cell c0 (by simp)
          have y1 := ho.cell c1 (by simp)
          have HC0 := Lib.hid c0
          have HSK := Lib.hid hsk
          have HCT := Lib.hid (count_take (p := isL l) hsk)
          obtain ⟨R, hRR⟩ : ∃ R, rw_ l x.dst (l.length + 1) x.src true x.dst 1 = R := ⟨_, rfl⟩
          have HLL := Lib.hid (show ∀ (p : Int) (ok : Bool) (least : Int) (steps : Nat), rw_ l x.dst (l.length + 1) x.src true x.dst 1 = (p, ok, least, steps) → isL l x = (ok && (p == x.dst) && (least == x.dst) && decide (1 < steps)) from fun _ _ _ _ h => isL_of h)
          rw [hRR] at HLL
          rw [HL.out] at hRR
          have HRR := Lib.hid hRR
          obtain ⟨il, hil⟩ : ∃ b, isL l x = b := ⟨_, rfl⟩
          rw [hil] at HCT HLL
          clear hsk ho hmem c0 c1 hRR hil
          obtain ⟨xd, xs⟩ := x
          simp only at HC0 y0 y1 HRR HLL
          go_wp2_with fail
          go_loopg [7, 8, 9, 10] (k + 1) (fun gk pv okv lv sv wr => ∃ (p : Int) (ok : Bool) (least : Int) (steps : Nat), pv = .int .i64 p ∧ okv = .bool ok ∧ lv = .int .i64 least ∧ sv = .int .i64 steps ∧ rw_ l xd gk p ok least steps = R ∧ steps + gk = k + 2 ∧ Only [] w wr)
          case atStart => exact ⟨xs, true, xd, 1, rfl, rfl, rfl, rfl, HRR.out, by omega, HO.out⟩
          case round =>
            clear HO HRR
            obtain ⟨p, ok, least, steps, rfl, rfl, rfl, rfl, hrw, hst, ho⟩ := hrel
            have HO := Lib.hid ho
            have q0 := ho.cell HC0.out (by simp)
            have HSC := Lib.hid (HS.out p wr ho)
            clear ho
            cases ok with
            | false =>
              rw [rw_stop _ _ _ _ _ _ _ (by simp)] at hrw
              have hil := HLL.out _ _ _ _ hrw.symm
              simp only [Bool.false_and] at hil
              subst hil
              have HRW := Lib.hid hrw
              clear hrw
              go_wp2_with fail
              go_roundw
              case measure => simp [intOf]; omega
              case rel => exact ⟨j + 1, by omega, by go_num, by rw [HCT.out]; simp, HO.out⟩
            | true =>
              by_cases h1 : p = xd
              · subst h1
                rw [rw_stop _ _ _ _ _ _ _ (by simp)] at hrw
                have hil := HLL.out _ _ _ _ hrw.symm
                simp only [Bool.true_and, beq_self_eq_true] at hil
                have e2 : (p != p) = false := by simp
                have e3 : (p == p) = true := by simp
                have HRW := Lib.hid hrw
                clear hrw
                by_cases h2 : least = p
                · subst h2
                  simp only [Bool.true_and, beq_self_eq_true] at hil
                  by_cases h3 : 1 < steps
                  · have e4 : decide ((1 : Int) < (steps : Int)) = true := decide_eq_true (by omega)
                    rw [decide_eq_true h3] at hil
                    subst hil
                    go_wp2_with fail
                    go_roundw
                    case measure => simp [intOf]; omega
                    case rel => exact ⟨j + 1, by omega, by go_num, by rw [HCT.out]; simp, HO.out⟩
                  · have e4 : decide ((1 : Int) < (steps : Int)) = false := decide_eq_false (by omega)
                    rw [decide_eq_false h3] at hil
                    subst hil
                    go_wp2_with fail
                    go_roundw
                    case measure => simp [intOf]; omega
                    case rel => exact ⟨j + 1, by omega, by go_num, by rw [HCT.out]; simp, HO.out⟩
                · have e4 : (least == p) = false := by simp [h2]
                  rw [e4, Bool.false_and] at hil
                  subst hil
                  clear h2
                  go_wp2_with fail
                  go_roundw
                  case measure => simp [intOf]; omega
                  case rel => exact ⟨j + 1, by omega, by go_num, by rw [HCT.out]; simp, HO.out⟩
              · have e2 : (p != xd) = true := by simp [h1]
                have e3 : (p == xd) = false := by simp [h1]
                by_cases h2 : steps ≤ k
                · have e4 : decide ((steps : Int) ≤ (k : Int)) = true := decide_eq_true (by omega)
                  obtain ⟨g', rfl⟩ : ∃ g', gk = g' + 1 := ⟨gk - 1, by omega⟩
                  rw [rw_, if_pos ⟨rfl, h1, by rw [HL.out]; exact h2⟩] at hrw
                  have HRW := Lib.hid hrw
                  clear hrw h1
                  go_wp2_with (go_at_call 21; refine HSC.out.mono ?_; rintro x w2 ⟨rfl, rfl⟩)
                  · have hmin : min least p = p := by omega
                    rw [hmin] at HRW
                    go_roundg g'
                    case measure => omega
                    case rel => exact ⟨_, _, _, steps + 1, rfl, rfl, rfl, by go_num, HRW.out, by omega, HO.out⟩
                  · have hmin : min least p = least := by omega
                    rw [hmin] at HRW
                    go_roundg g'
                    case measure => omega
                    case rel => exact ⟨_, _, _, steps + 1, rfl, rfl, rfl, by go_num, HRW.out, by omega, HO.out⟩
                · have e4 : decide ((steps : Int) ≤ (k : Int)) = false := decide_eq_false (by omega)
                  rw [rw_stop _ _ _ _ _ _ _ (by rw [HL.out]; exact fun h => h2 h.2.2)] at hrw
                  have hil := HLL.out _ _ _ _ hrw.symm
                  rw [e3] at hil
                  simp only [Bool.and_false, Bool.false_and] at hil
                  subst hil
                  have HRW := Lib.hid hrw
                  clear hrw h1
                  go_wp2_with fail
                  go_roundw
                  case measure => simp [intOf]; omega
                  case rel => exact ⟨j + 1, by omega, by go_num, by rw [HCT.out]; simp, HO.out⟩
        · obtain rfl : j = k := by omega
          have e1 : decide ((j : Int) < (j : Int)) = false := decide_eq_false (by omega)
          rw [← HL.out, List.take_length, ← HRS.out]
          go_wp2_with fail
          go_ret
          exact ⟨rfl, HO.out⟩
end Go.Proofs.Ythaifmfioabmkaa.Moves
