/- The document's Order. PRINTED by wip/gen_grord.py. -/
import Derived.Test.YtdfiibnpckahnaaGRTake
namespace Go.Proofs.Ytdfiibnpckahnaa.Graph
open Go.RowKit Go.Shelf Go.Maps
set_option linter.unusedVariables false
set_option maxRecDepth 100000
theorem sizeNd (w : World) : (Go.sizeOf 32).run Try.prog w = .ok 2 w := by kernel_rfl
theorem headN_run (A : Option Addr) (n c k : Nat) (hk : k ≤ c) (Y : World) : (Instr.slice 22 (.slice A n c) none (some (.int .i64 (k : Int))) none).run Try.prog Y = .ok (.slice A k c) Y := by
  have ht : Try.prog.underlying 22 = some (.slice (Try.prog.elem 22)) := by simp [Program.elem, Try.underlying22]
  have he : Try.prog.elem 22 = 32 := by simp [Program.elem, Try.underlying22]
  rw [run_slice_h Y 22 _ _ _ ht .i64 _ (by omega) (by omega), he, sizeNd]
  cases A with
  | none => simp [Result.andThen, sliced]
  | some a => by_cases e : c = 0 <;> simp [Result.andThen, sliced, Addr.add, e]
theorem recs_take {w : World} {B size n k : Nat} {A : Option Addr} {rows : List (List Value)} (h : Recs w B size A n rows) (hk : k ≤ n) : Recs w B size A k (rows.take k) := by
  refine ⟨by rw [List.length_take, h.1]; omega, fun hk0 => ?_⟩
  obtain ⟨b, off, e, hb, hc⟩ := h.2 (by omega)
  refine ⟨b, off, e, hb, fun i hi j hj => ?_⟩
  have := hc i (by omega) j hj
  rwa [show (rows.take k).getD i [] = rows.getD i [] from by rw [List.getD_eq_getElem?_getD, List.getD_eq_getElem?_getD, List.getElem?_take_of_lt hi]]
section
variable {l : List ND} {k : Nat} {x : ND}
theorem uniq_at {α : Type} {l : List α} (h : l.Nodup) {i j : Nat} {s : α} (hi : l[i]? = some s) (hj : l[j]? = some s) : i = j := by
  obtain ⟨h1, h2⟩ := List.getElem?_eq_some_iff.1 hi
  obtain ⟨h3, h4⟩ := List.getElem?_eq_some_iff.1 hj
  exact (List.getElem_inj h).1 (h2.trans h4.symm)
theorem dup_no (hn : ((l.map (·.path)).take k).Nodup) (hk : l[k]? = some x) (h : x.path ∉ (l.take k).map (·.path)) : ((l.map (·.path)).take (k + 1)).Nodup := by
  rw [take_snoc (map_at hk), List.nodup_append]
  refine ⟨hn, by simp, fun a ha b hb e => h ?_⟩
  rw [List.mem_singleton] at hb
  rw [List.map_take, ← hb, ← e]
  exact ha
theorem dup_yes (hk : l[k]? = some x) (h : x.path ∈ (l.take k).map (·.path)) : ¬ (l.map (·.path)).Nodup := by
  intro hn
  rw [List.map_take] at h
  obtain ⟨j, hj⟩ := List.getElem?_of_mem h
  have hjk : j < k := by
    rcases Nat.lt_or_ge j k with h1 | h1
    · exact h1
    · rw [List.getElem?_take_eq_none h1] at hj; cases hj
  rw [List.getElem?_take_of_lt hjk] at hj
  have := uniq_at hn hj (map_at hk)
  omega
def NoMiss (l : List ND) (k : Nat) : Prop := ∀ y ∈ l.take k, ∀ i ∈ y.imps, i ∈ l.map (·.path)
theorem NoMiss.next (h : NoMiss l k) (hk : l[k]? = some x) (hx : ∀ i ∈ x.imps, i ∈ l.map (·.path)) : NoMiss l (k + 1) := by
  unfold NoMiss at h ⊢
  rw [take_snoc hk]
  intro y hy
  rcases List.mem_append.1 hy with h1 | h1
  · exact h y h1
  · rw [List.mem_singleton.1 h1]; exact hx
theorem NoMiss.all (h : NoMiss l l.length) : ¬ missing (l.map ND.nd) := by
  rintro ⟨x, hx, i, hi, hn⟩
  obtain ⟨y, hy, rfl⟩ := List.mem_map.1 hx
  rw [nd_paths] at hn
  exact hn (h y (by rw [List.take_length]; exact hy) i hi)
theorem miss_yes {i : Path} (hx : x ∈ l) (hi : i ∈ x.imps) (h : i ∉ l.map (·.path)) : missing (l.map ND.nd) := ⟨x.nd, List.mem_map.2 ⟨x, hx, rfl⟩, i, hi, by rw [nd_paths]; exact h⟩
end
section
variable {w w' : World}
theorem order_out {w w' : World} {l : List Nd} {v : Value} {o : List Path} {e : Int} (h : orderL l = (o, e)) (hv : OwnR 9 1 w' w.heap.size v o.length (svs o)) (ho : Only [] w w') : OrderO w l (.returned (.tuple #[v, .int .i64 e])) w' := by
  unfold OrderO
  rw [h]
  exact ⟨v, rfl, hv, ho⟩
set_option maxHeartbeats 16000000 in
theorem rorder_any (A : Option Addr) (m c : Nat) (l : List ND) (w : World) (hr : Recs w w.heap.size 2 A m (l.map ND.row)) (hin : ∀ x ∈ l, x.in_ w w.heap.size) (hm : m ≤ 60) (hmc : m ≤ c) :
    Calls Try.prog 12 #[.slice A m c] w fun y w' => OrderO w (l.map ND.nd) y w' := by
  have HR := Lib.hid hr
  have HIN := Lib.hid hin
  have HL := Lib.hid (show l.length = m by have := hr.1; rwa [List.length_map] at this)
  have HV0 := Lib.hid (fun wx => OwnR.nil_ 9 1 wx w.heap.size)
  clear hr hin
  go_enter Try.func12, Try.ntmps12
  go_wp2_with fail
  go_loopw [4] (fun iv wr => ∃ k : Nat, iv = .int .i64 k ∧ k ≤ m ∧ ((l.map (·.path)).take k).Nodup ∧ Only [] w wr) (fun iv _ => m - (intOf iv).toNat)
  case atStart => exact ⟨0, rfl, by omega, by simp, Only.refl _ _⟩
  case round =>
    obtain ⟨k, rfl, hk, hnd, ho⟩ := hrel
    have HND := Lib.hid hnd
    have HO := Lib.hid ho
    clear hnd
    by_cases hlt : k < m
    · have d1 : decide ((k : Int) < (m : Int)) = true := decide_eq_true (by omega)
      have HR2 := Lib.hid HR.out
      obtain ⟨bb, off, rfl, _, x, hx, hxk, h0, h1⟩ := nd_at HR.out k hlt
      have q0 := ho.cell h0 (by simp)
      unfold sv at q0
      have hsl := headN_run (some ⟨bb, off, none⟩) m c k (by omega)
      have hrk := recs_take (HR.out.only ho (by simp)) hk
      rw [← List.map_take] at hrk
      have HHC := rhas_any (some ⟨bb, off, none⟩) w.heap.size k c (l.take k) x.path wr.drew hrk (by omega)
      obtain ⟨bi, hbi⟩ : ∃ bi, decide (x.path ∈ (l.take k).map (·.path)) = bi := ⟨_, rfl⟩
      rw [hbi] at HHC
      have HHCH := Lib.hid HHC
      have hS : wr.drew.cell? ⟨bb, off + k * 2, none⟩ = some (.string (str x.path)) := q0
      have HXK := Lib.hid hxk
      have HBI := Lib.hid hbi
      clear h0 h1 hx hxk hrk HHC hbi ho HR2
      cases bi
      · have HNX := Lib.hid (dup_no HND.out HXK.out (of_decide_eq_false HBI.out))
        go_upto_region 4 with fail
        refine wp_region_hand (S := (fun Y => Y.cell? ⟨bb, off + k * 2, none⟩ = some (.string (str x.path)))) (by kernel_rfl) ?_
        refine takeW (i := 0) rfl (by kernel_rfl) (by kernel_rfl) (by kernel_rfl) (fun _ _ _ h => h) rfl (by rfl) (v := .slice (some ⟨bb, off, none⟩) m c) (fun Y hY => by have y0 := hY; go_simp) hS ?_
        simp only [List.setIfInBounds_toArray, List.set_cons_zero, List.set_cons_succ]
        refine takeW (i := 1) rfl (by kernel_rfl) (by kernel_rfl) (by kernel_rfl) (fun _ _ _ h => h) rfl (by rfl) (v := .int .i64 (k : Int)) (fun Y hY => by have y0 := hY; go_simp) hS ?_
        simp only [List.setIfInBounds_toArray, List.set_cons_zero, List.set_cons_succ]
        refine takeW (i := 2) rfl (by kernel_rfl) (by kernel_rfl) (by kernel_rfl) (fun _ _ _ h => h) rfl (by rfl) (v := .slice (some ⟨bb, off, none⟩) k c) (fun Y hY => by have y0 := hY; go_simp) hS ?_
        simp only [List.setIfInBounds_toArray, List.set_cons_zero, List.set_cons_succ]
        refine takeW (i := 3) rfl (by kernel_rfl) (by kernel_rfl) (by kernel_rfl) (fun _ _ _ h => h) rfl (by rfl) (v := .slice (some ⟨bb, off, none⟩) m c) (fun Y hY => by have y0 := hY; go_simp) hS ?_
        simp only [List.setIfInBounds_toArray, List.set_cons_zero, List.set_cons_succ]
        refine takeW (i := 4) rfl (by kernel_rfl) (by kernel_rfl) (by kernel_rfl) (fun _ _ _ h => h) rfl (by rfl) (v := .int .i64 (k : Int)) (fun Y hY => by have y0 := hY; go_simp) hS ?_
        simp only [List.setIfInBounds_toArray, List.set_cons_zero, List.set_cons_succ]
        refine takeW (i := 5) rfl (by kernel_rfl) (by kernel_rfl) (by kernel_rfl) (fun _ _ _ h => h) rfl (by rfl) (v := .pointer (some ⟨bb, off + k * 2, none⟩)) (fun Y hY => by have y0 := hY; go_simp) hS ?_
        simp only [List.setIfInBounds_toArray, List.set_cons_zero, List.set_cons_succ]
        refine takeW (i := 6) rfl (by kernel_rfl) (by kernel_rfl) (by kernel_rfl) (fun _ _ _ h => h) rfl (by rfl) (v := .pointer (some ⟨bb, off + k * 2, none⟩)) (fun Y hY => by have y0 := hY; go_simp) hS ?_
        simp only [List.setIfInBounds_toArray, List.set_cons_zero, List.set_cons_succ]
        refine takeW (i := 7) rfl (by kernel_rfl) (by kernel_rfl) (by kernel_rfl) (fun _ _ _ h => h) rfl (by rfl) (v := .string (str x.path)) (fun Y hY => by have y0 := hY; go_simp) hS ?_
        simp only [List.setIfInBounds_toArray, List.set_cons_zero, List.set_cons_succ]
        refine callW (i := 8) rfl (by kernel_rfl) rfl (by rfl) ?_ (HHCH.out) ?_
        · go_simp
        rintro x wn ⟨rfl, rfl⟩
        refine ⟨_, rfl, hS, ?_⟩
        simp only [List.setIfInBounds_toArray, List.set_cons_zero, List.set_cons_succ]
        refine wpAnyH_done (by kernel_rfl) ?_ _
        go_wp2_with fail
        go_roundw
        case measure => simp [intOf]; omega
        case rel => exact ⟨k + 1, by go_num, by omega, HNX.out, HO.out.drew⟩
      · have HNX := Lib.hid (order_dup (dup_yes HXK.out (of_decide_eq_true HBI.out)))
        go_upto_region 4 with fail
        refine wp_region_hand (S := (fun Y => Y.cell? ⟨bb, off + k * 2, none⟩ = some (.string (str x.path)))) (by kernel_rfl) ?_
        refine takeW (i := 0) rfl (by kernel_rfl) (by kernel_rfl) (by kernel_rfl) (fun _ _ _ h => h) rfl (by rfl) (v := .slice (some ⟨bb, off, none⟩) m c) (fun Y hY => by have y0 := hY; go_simp) hS ?_
        simp only [List.setIfInBounds_toArray, List.set_cons_zero, List.set_cons_succ]
        refine takeW (i := 1) rfl (by kernel_rfl) (by kernel_rfl) (by kernel_rfl) (fun _ _ _ h => h) rfl (by rfl) (v := .int .i64 (k : Int)) (fun Y hY => by have y0 := hY; go_simp) hS ?_
        simp only [List.setIfInBounds_toArray, List.set_cons_zero, List.set_cons_succ]
        refine takeW (i := 2) rfl (by kernel_rfl) (by kernel_rfl) (by kernel_rfl) (fun _ _ _ h => h) rfl (by rfl) (v := .slice (some ⟨bb, off, none⟩) k c) (fun Y hY => by have y0 := hY; go_simp) hS ?_
        simp only [List.setIfInBounds_toArray, List.set_cons_zero, List.set_cons_succ]
        refine takeW (i := 3) rfl (by kernel_rfl) (by kernel_rfl) (by kernel_rfl) (fun _ _ _ h => h) rfl (by rfl) (v := .slice (some ⟨bb, off, none⟩) m c) (fun Y hY => by have y0 := hY; go_simp) hS ?_
        simp only [List.setIfInBounds_toArray, List.set_cons_zero, List.set_cons_succ]
        refine takeW (i := 4) rfl (by kernel_rfl) (by kernel_rfl) (by kernel_rfl) (fun _ _ _ h => h) rfl (by rfl) (v := .int .i64 (k : Int)) (fun Y hY => by have y0 := hY; go_simp) hS ?_
        simp only [List.setIfInBounds_toArray, List.set_cons_zero, List.set_cons_succ]
        refine takeW (i := 5) rfl (by kernel_rfl) (by kernel_rfl) (by kernel_rfl) (fun _ _ _ h => h) rfl (by rfl) (v := .pointer (some ⟨bb, off + k * 2, none⟩)) (fun Y hY => by have y0 := hY; go_simp) hS ?_
        simp only [List.setIfInBounds_toArray, List.set_cons_zero, List.set_cons_succ]
        refine takeW (i := 6) rfl (by kernel_rfl) (by kernel_rfl) (by kernel_rfl) (fun _ _ _ h => h) rfl (by rfl) (v := .pointer (some ⟨bb, off + k * 2, none⟩)) (fun Y hY => by have y0 := hY; go_simp) hS ?_
        simp only [List.setIfInBounds_toArray, List.set_cons_zero, List.set_cons_succ]
        refine takeW (i := 7) rfl (by kernel_rfl) (by kernel_rfl) (by kernel_rfl) (fun _ _ _ h => h) rfl (by rfl) (v := .string (str x.path)) (fun Y hY => by have y0 := hY; go_simp) hS ?_
        simp only [List.setIfInBounds_toArray, List.set_cons_zero, List.set_cons_succ]
        refine callW (i := 8) rfl (by kernel_rfl) rfl (by rfl) ?_ (HHCH.out) ?_
        · go_simp
        rintro x wn ⟨rfl, rfl⟩
        refine ⟨_, rfl, hS, ?_⟩
        simp only [List.setIfInBounds_toArray, List.set_cons_zero, List.set_cons_succ]
        refine wpAnyH_done (by kernel_rfl) ?_ _
        go_wp2_with fail
        go_ret2
        exact order_out HNX.out (HV0.out _) HO.out.drew
    · obtain rfl : k = m := by omega
      have d1 : decide ((k : Int) < (k : Int)) = false := decide_eq_false (by omega)
      have hnd := HND.out
      rw [List.take_of_length_le (by rw [List.length_map, HL.out]; exact Nat.le_refl _)] at hnd
      have HND2 := Lib.hid hnd
      clear hnd
      obtain ⟨w1, rfl⟩ : ∃ w1, w1 = wr := ⟨_, rfl⟩
      go_wp2_with fail
      go_loopw [5] (fun iv w2 => ∃ j : Nat, iv = .int .i64 j ∧ j ≤ k ∧ NoMiss l j ∧ w2 = w1) (fun iv _ => k - (intOf iv).toNat)
      case atStart => exact ⟨0, rfl, by omega, by simp [NoMiss], rfl⟩
      case round =>
        obtain ⟨j, rfl, hj, hnm, hwr⟩ := hrel
        subst hwr
        have HNM := Lib.hid hnm
        clear hnm d1
        by_cases hlt : j < k
        · have d1 : decide ((j : Int) < (k : Int)) = true := decide_eq_true (by omega)
          have HR2 := Lib.hid (HR.out.only ho (by simp))
          have HH := Lib.hid (fun s => rhas_any A w.heap.size k c l s wr (HR.out.only ho (by simp)) (by omega))
          obtain ⟨bb, off, rfl, _, x, hx, hxk, h0, h1⟩ := nd_at HR.out j hlt
          have q1 := ho.cell h1 (by simp)
          have hxi := HIN.out x hx
          have HXR := Lib.hid ((nd_rd hxi.r).only ho (by simp))
          have hx40 := hxi.c.1
          have HXK := Lib.hid hxk
          have HX := Lib.hid hx
          clear h0 h1 hx hxk hxi
          go_wp2_with fail
          go_loopw [6] (fun iv w3 => ∃ i : Nat, iv = .int .i64 i ∧ i ≤ x.imps.length ∧ (∀ p ∈ x.imps.take i, p ∈ l.map (·.path)) ∧ w3 = wr) (fun iv _ => x.imps.length - (intOf iv).toNat)
          case atStart => exact ⟨0, rfl, by omega, by simp, rfl⟩
          case round =>
            obtain ⟨i, rfl, hi, hmi, hwr⟩ := hrel
            have hwr := hwr.symm
            subst hwr
            have HMI := Lib.hid hmi
            clear hmi
            by_cases hlt2 : i < x.imps.length
            · have d2 : decide ((i : Int) < (x.imps.length : Int)) = true := decide_eq_true (by omega)
              obtain ⟨b2, o2, hA2, _, hc⟩ := HXR.out.at_ [] hlt2
              have q := hc 0 (by decide)
              simp only [Nat.mul_one, Nat.add_zero, sv] at q
              obtain ⟨t, ht⟩ : ∃ s, x.imps.getD i [] = s := ⟨_, rfl⟩
              rw [ht] at q
              have g : x.imps[i]? = some t := by rw [← ht, List.getD_eq_getElem?_getD, List.getElem?_eq_getElem hlt2]; rfl
              rw [hA2] at q1
              have G := Lib.hid g
              have HHT := HH.out t
              obtain ⟨bi, hbi⟩ : ∃ bi, decide (t ∈ l.map (·.path)) = bi := ⟨_, rfl⟩
              rw [hbi] at HHT
              have HHTH := Lib.hid HHT
              have HBI := Lib.hid hbi
              clear hc ht g hA2 HHT hbi
              cases bi
              · have HF := Lib.hid (order_miss HND2.out (miss_yes HX.out (some_mem G.out) (of_decide_eq_false HBI.out)))
                go_wp2_with (go_at_call 26; refine HHTH.out.mono ?_; rintro y wn ⟨rfl, hwn⟩; have hwn := hwn.symm; subst hwn)
                go_ret2
                exact order_out HF.out (HV0.out _) HO.out
              · have HNX := Lib.hid (all_snoc HMI.out G.out (of_decide_eq_true HBI.out))
                go_wp2_with (go_at_call 26; refine HHTH.out.mono ?_; rintro y wn ⟨rfl, hwn⟩; have hwn := hwn.symm; subst hwn)
                go_roundw
                case measure => simp [intOf]; omega
                case rel => exact ⟨i + 1, by go_num, by omega, HNX.out, trivial⟩
            · obtain rfl : i = x.imps.length := by omega
              have d2 : decide ((x.imps.length : Int) < (x.imps.length : Int)) = false := decide_eq_false (by omega)
              have hmi := HMI.out
              rw [List.take_length] at hmi
              have HNX : Hid (NoMiss l (j + 1)) := Lib.hid (HNM.out.next HXK.out hmi)
              clear hmi
              go_wp2_with fail
              go_roundw
              case measure => simp [intOf]; omega
              case rel => exact ⟨j + 1, by go_num, by omega, HNX.out, trivial⟩
        · obtain rfl : j = k := by omega
          have d1 : decide ((j : Int) < (j : Int)) = false := decide_eq_false (by omega)
          have hnm := HNM.out
          have HNO := Lib.hid (NoMiss.all (by rw [HL.out]; exact hnm))
          have HEL := Lib.hid (order_else HND2.out HNO.out)
          have HTK := Lib.hid (rtaken_any A j c l wr ((HR.out.only ho (by simp)).more ho.size) (fun x hx => (HIN.out x hx).only ho ho.size) hm)
          obtain ⟨tk, htk⟩ : ∃ tk, taken (l.map ND.nd) = tk := ⟨_, rfl⟩
          rw [htk] at HTK HEL
          rw [HL.out] at HEL
          have HTKE := Lib.hid htk
          have hs := ho.size
          clear hnm htk
          go_upto_region 14 with fail
          go_wp2_with (go_at_call 27; refine HTK.out.mono ?_; rintro y w5 ⟨v5, rfl, hv5, ho5⟩; obtain ⟨A5, c5, e5, _⟩ := hv5.shape (by decide); subst e5; have HV5 := Lib.hid (hv5.mono hs); have HO5 := Lib.hid (HO.out.trans ho5 (by simp)); clear hv5 ho5; by_cases hlt5 : tk.length < j)
          · have d5 : decide ((tk.length : Int) < (j : Int)) = true := decide_eq_true (by omega)
            have HE2 := Lib.hid (HEL.out.trans (if_pos hlt5))
            go_wp2_with fail
            go_ret2
            exact order_out HE2.out (HV0.out _) HO5.out
          · have d5 : decide ((tk.length : Int) < (j : Int)) = false := decide_eq_false (by omega)
            have HE2 := Lib.hid (HEL.out.trans (if_neg hlt5))
            go_wp2_with fail
            go_ret2
            exact order_out HE2.out HV5.out HO5.out
end
end Go.Proofs.Ytdfiibnpckahnaa.Graph
