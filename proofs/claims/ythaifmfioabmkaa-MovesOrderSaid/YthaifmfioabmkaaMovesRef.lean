/- The reference's Right and source walk. -/
import Derived.Test.YthaifmfioabmkaaMovesRight
namespace Go.Proofs.Ythaifmfioabmkaa.Moves
open Go.RowKit Go.Maps
set_option linter.unusedVariables false
set_option maxRecDepth 100000
theorem uniq_take_new {l : List Mv} {k : Nat} {x : Mv} (hx : l[k]? = some x) (h : Uniq (l.take k)) (hf : ∀ y ∈ l.take k, y.dst ≠ x.dst) : Uniq (l.take (k + 1)) := by
  rw [take_snoc hx]
  unfold Uniq at *
  rw [List.map_append, List.nodup_append]
  refine ⟨h, by simp, ?_⟩
  intro a ha b hb
  obtain ⟨y, hy, rfl⟩ := List.mem_map.1 ha
  simp at hb
  subst hb
  exact hf y hy
theorem dup_not {l : List Mv} {k j : Nat} {x y : Mv} (hx : l[k]? = some x) (hy : l[j]? = some y) (hj : j < k) (e : y.dst = x.dst) : ¬ Uniq l := by
  intro h
  refine uniq_new h hx y ?_ e
  rw [List.mem_take_iff_getElem]
  obtain ⟨h1, h2⟩ := List.getElem?_eq_some_iff.1 hy
  exact ⟨j, by have := (List.getElem?_eq_some_iff.1 hx).1; omega, h2⟩
set_option maxHeartbeats 2000000 in
theorem rright_any (A : Option Addr) (m c : Nat) (l : List Mv) (sp : Int) (w : World) (hr : Recs w w.heap.size 2 A m (l.map Mv.row)) (hm : m ≤ 100) :
    Calls Try.prog 9 #[.slice A m c, .int .i64 sp] w fun x w' => x = .returned (.bool (rightB l sp)) ∧ Only [] w w' := by
  have hl : l.length = m := by simpa using hr.1
  have HL := Lib.hid hl
  have HR := Lib.hid hr
  have HB := Lib.hid (show ∀ k x, l[k]? = some x → spa sp x = true → rightB l sp = false from fun k x hx hs => by
    unfold rightB
    rw [show l.any (spa sp) = true from List.any_eq_true.2 ⟨x, List.mem_of_getElem? hx, hs⟩]
    simp)
  have HU := Lib.hid (show ¬ Uniq l → rightB l sp = false from fun h => by
    unfold rightB
    rw [decide_eq_false h]
    simp)
  have HT := Lib.hid (show Uniq l → (∀ x ∈ l, spa sp x = false) → rightB l sp = true from fun h h2 => by
    unfold rightB
    rw [decide_eq_true h, show l.any (spa sp) = false from List.any_eq_false.2 (fun x hx => by rw [h2 x hx]; simp)]
    simp)
  obtain ⟨res, hres⟩ : ∃ b, rightB l sp = b := ⟨_, rfl⟩
  rw [hres] at HB HU HT ⊢
  clear hr hl hres
  go_enter Try.func9, Try.ntmps9
  go_wp2_with fail
  go_loopw [5] (fun i wr => ∃ k : Nat, k ≤ m ∧ i = .int .i64 k ∧ Only [] w wr ∧ Uniq (l.take k) ∧ ∀ y ∈ l.take k, spa sp y = false) (fun i _ => m - (intOf i).toNat)
  case atStart => exact ⟨0, by omega, rfl, Only.refl _ _, by unfold Uniq; simp, by simp⟩
  case round =>
    obtain ⟨k, hk, rfl, ho, hu, hno⟩ := hrel
    have HO := Lib.hid ho
    have HUU := Lib.hid hu
    have HNO := Lib.hid hno
    clear hu hno
    by_cases hlt : k < m
    · have e1 : decide ((k : Int) < (m : Int)) = true := decide_eq_true (by omega)
      obtain ⟨b, off, hA, hb, x, hmem, hsk, c0, c1⟩ := mv_at HR.out k hlt
      subst hA
      have y0 := ho.cell c0 (by simp)
      have y1 := ho.cell c1 (by simp)
      have HC0 := Lib.hid c0
      have HSK := Lib.hid hsk
      have HTS := Lib.hid (take_snoc hsk)
      clear hsk ho hmem c0 c1
      obtain ⟨xd, xs⟩ := x
      simp only at y0 y1
      by_cases h1 : xd = sp
      · subst h1
        have e2 : (xd == xd) = true := by simp
        go_wp2_with fail
        go_ret
        exact ⟨by rw [HB.out k _ HSK.out (by simp [spa])]; rfl, HO.out⟩
      · have e2 : (xd == sp) = false := by simp [h1]
        by_cases h2 : xs = sp
        · subst h2
          have e3 : (xs == xs) = true := by simp
          go_wp2_with fail
          go_ret
          exact ⟨by rw [HB.out k _ HSK.out (by simp [spa])]; rfl, HO.out⟩
        · have e3 : (xs == sp) = false := by simp [h2]
          have HSP : Hid (spa sp ⟨xd, xs⟩ = false) := Lib.hid (by unfold spa; simp only; rw [e2, e3]; rfl)
          clear h1 h2
          go_wp2_with fail
          go_loopw [6] (fun i wr => ∃ j : Nat, j ≤ k ∧ i = .int .i64 j ∧ Only [] w wr ∧ ∀ y ∈ l.take j, y.dst ≠ xd) (fun i _ => k - (intOf i).toNat)
          case atStart => exact ⟨0, by omega, rfl, HO.out, by simp⟩
          case round =>
            obtain ⟨j, hj, rfl, ho, hn⟩ := hrel
            have HO2 := Lib.hid ho
            have HN := Lib.hid hn
            clear hn
            by_cases hlt2 : j < k
            · have e4 : decide ((j : Int) < (k : Int)) = true := decide_eq_true (by omega)
              obtain ⟨b', off', hA, hb', z, hmz, hsz, d0, d1⟩ := mv_at HR.out j (by omega)
              simp only [Option.some.injEq, Addr.mk.injEq, and_true] at hA
              obtain ⟨rfl, rfl⟩ := hA
              have q0 := ho.drew.cell HC0.out (by simp)
              have q1 := ho.drew.cell d0 (by simp)
              have HSZ := Lib.hid hsz
              have HTZ := Lib.hid (take_snoc hsz)
              obtain ⟨zd, zs⟩ := z
              simp only at q0 q1
              clear ho hmz hsz d0 d1
              by_cases h3 : zd = xd
              · subst h3
                have e5 : (zd == zd) = true := by simp
                go_wp2_with fail
                go_region_held (fun w' => w'.cell? ⟨b, off + j * 2, none⟩ = some (.int .i64 zd) ∧ w'.cell? ⟨b, off + k * 2, none⟩ = some (.int .i64 zd)) (exact ⟨q1, q0⟩) (fail)
                go_wp2_with fail
                go_ret
                exact ⟨by rw [HU.out (dup_not HSK.out HSZ.out hlt2 rfl)]; rfl, HO2.out.drew⟩
              · have e5 : (zd == xd) = false := by simp [h3]
                have HNE := Lib.hid h3
                clear h3
                go_wp2_with fail
                go_region_held (fun w' => w'.cell? ⟨b, off + j * 2, none⟩ = some (.int .i64 zd) ∧ w'.cell? ⟨b, off + k * 2, none⟩ = some (.int .i64 xd)) (exact ⟨q1, q0⟩) (fail)
                go_wp2_with fail
                go_roundw
                case measure => simp [intOf]; omega
                case rel =>
                  refine ⟨j + 1, by omega, by go_num, HO2.out.drew, ?_⟩
                  rw [HTZ.out]
                  intro y hy
                  rcases List.mem_append.1 hy with h | h
                  · exact HN.out y h
                  · rw [List.mem_singleton.1 h]; exact HNE.out
            · obtain rfl : j = k := by omega
              have e4 : decide ((j : Int) < (j : Int)) = false := decide_eq_false (by omega)
              go_wp2_with fail
              go_roundw
              case measure => simp [intOf]; omega
              case rel =>
                refine ⟨j + 1, by omega, by go_num, HO2.out, uniq_take_new HSK.out HUU.out HN.out, ?_⟩
                rw [HTS.out]
                intro y hy
                rcases List.mem_append.1 hy with h | h
                · exact HNO.out y h
                · rw [List.mem_singleton.1 h]; exact HSP.out
    · obtain rfl : k = m := by omega
      have e1 : decide ((k : Int) < (k : Int)) = false := decide_eq_false (by omega)
      have hu := HUU.out
      have hno := HNO.out
      rw [← HL.out, List.take_length] at hu hno
      have HF := Lib.hid (HT.out hu hno)
      clear hu hno ho
      go_wp2_with fail
      go_ret
      exact ⟨by rw [HF.out]; rfl, HO.out⟩
set_option maxHeartbeats 1000000 in
theorem source_any (A : Option Addr) (m c B : Nat) (l : List Mv) (p : Int) (w : World) (hr : Recs w B 2 A m (l.map Mv.row)) (hm : m ≤ 100) :
    Calls Try.prog 21 #[.slice A m c, .int .i64 p] w fun x w' => x = .returned (.tuple #[.int .i64 ((fro l p).getD 0), .bool (fro l p).isSome]) ∧ w' = w := by
  have hl : l.length = m := by simpa using hr.1
  have HL := Lib.hid hl
  have HR := Lib.hid hr
  obtain ⟨fr, hfr⟩ : ∃ fr, fro l p = fr := ⟨_, rfl⟩
  rw [hfr]
  have HF := Lib.hid hfr
  clear hr hl hfr
  go_enter Try.func21, Try.ntmps21
  go_wp2_with fail
  go_loop [6] (fun i => ∃ k : Nat, k ≤ m ∧ i = .int .i64 k ∧ ∀ y ∈ l.take k, y.dst ≠ p) (fun i => m - (intOf i).toNat)
  case atStart => exact ⟨0, by omega, rfl, by simp⟩
  case round =>
    obtain ⟨k, hk, rfl, hno⟩ := hrel
    have HNO := Lib.hid hno
    clear hno
    by_cases hlt : k < m
    · have e1 : decide ((k : Int) < (m : Int)) = true := decide_eq_true (by omega)
      obtain ⟨b, off, hA, hb, x, hmem, hsk, y0, y1⟩ := mv_at HR.out k hlt
      subst hA
      have HSK := Lib.hid hsk
      have HTS := Lib.hid (take_snoc hsk)
      clear hsk hmem
      obtain ⟨xd, xs⟩ := x
      simp only at y0 y1
      by_cases h1 : xd = p
      · subst h1
        have e2 : (xd == xd) = true := by simp
        have hfv : fr = some xs := by
          rw [← HF.out]
          unfold fro
          obtain ⟨hkl, hkx⟩ := List.getElem?_eq_some_iff.1 HSK.out
          have : l.find? (fun x => x.dst == xd) = some ⟨xd, xs⟩ := by
            rw [List.find?_eq_some_iff_append]
            refine ⟨by simp, l.take k, l.drop (k + 1), ?_, ?_⟩
            · rw [← hkx, ← List.drop_eq_getElem_cons hkl, List.take_append_drop]
            · intro y hy
              simp [HNO.out y hy]
          rw [this]
          rfl
        subst hfv
        go_wp2_with fail
        refine bodyPost_ret (v := .tuple #[.int .i64 xs, .bool true]) (by simp [results, Try.results21, go_sem]) rfl ?_
        exact ⟨rfl, rfl⟩
      · have e2 : (xd == p) = false := by simp [h1]
        have HNE := Lib.hid h1
        clear h1
        go_wp2_with fail
        go_round
        case measure => simp [intOf]; omega
        case rel =>
          refine ⟨k + 1, by omega, by go_num, ?_⟩
          rw [HTS.out]
          intro y hy
          rcases List.mem_append.1 hy with h | h
          · exact HNO.out y h
          · rw [List.mem_singleton.1 h]; exact HNE.out
    · obtain rfl : k = m := by omega
      have e1 : decide ((k : Int) < (k : Int)) = false := decide_eq_false (by omega)
      have hno := HNO.out
      rw [← HL.out, List.take_length] at hno
      have hfv : fr = none := by
        rw [← HF.out]
        unfold fro
        rw [Option.map_eq_none_iff, List.find?_eq_none]
        intro y hy
        simp [hno y hy]
      subst hfv
      clear hno
      go_wp2_with fail
      refine bodyPost_ret (v := .tuple #[.int .i64 0, .bool false]) (by simp [results, Try.results21, go_sem]) rfl ?_
      exact ⟨rfl, rfl⟩
end Go.Proofs.Ythaifmfioabmkaa.Moves
