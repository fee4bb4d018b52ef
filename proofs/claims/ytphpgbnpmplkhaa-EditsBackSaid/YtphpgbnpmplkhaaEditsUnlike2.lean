/- edits.Unlike walks. -/
import Derived.Test.YtphpgbnpmplkhaaEditsUnlike
namespace Go.Proofs.Ytphpgbnpmplkhaa.Edits
open Go.RowKit Go.Maps
set_option linter.unusedVariables false
set_option maxRecDepth 100000
theorem pk_key (s : ByteArray) : WideAt.IsKeyLit (pk s) := trivial
set_option maxHeartbeats 4000000 in
theorem unlike_any (A1 : Option Addr) (m1 c1 : Nat) (l1 : List Src) (A2 : Option Addr) (m2 c2 : Nat) (l2 : List Src) (w : World) (hr1 : Recs w w.heap.size 2 A1 m1 (l1.map Src.row)) (hr2 : Recs w w.heap.size 2 A2 m2 (l2.map Src.row))
    (hs1 : Short l1) (hs2 : Short l2) (hm1 : m1 ≤ 1000000) (hm2 : m2 ≤ 1000000) :
    Calls Try.prog 10 #[.slice A1 m1 c1, .slice A2 m2 c2] w fun x w' => ∃ v ss, x = .returned v ∧ KeysL (oddf (kf l1) (kf l2)) ss ∧ ss.length ≤ 2000000 ∧ (∀ x ∈ ss, x.length ≤ maxLen) ∧ OwnR 9 1 w' w.heap.size v ss.length (ss.map fun x => [Go.Proofs.encStr x]) ∧ Only [] w w' := by
  have hK1 := kept_any A1 m1 c1 l1 w hr1 hs1 hm1
  have hK2 := fun w' (ho : Only [] w w') => kept_any A2 m2 c2 l2 w' ((hr2.only ho (by simp)).more ho.size) hs2 hm2
  have hT1 := kf_text l1
  have hT2 := kf_text l2
  generalize kf l1 = f1 at *
  generalize kf l2 = f2 at *
  have HK1 := Lib.hid hK1
  have HK2 := Lib.hid hK2
  have HT1 := Lib.hid hT1
  have HT2 := Lib.hid hT2
  have hmm := @run_makeMap Try.prog
  clear hK1 hK2 hT1 hT2 hr1 hr2 hs1 hs2
  go_enter Try.func10, Try.ntmps10
  go_wp2_with fail
  refine HK1.out.mono ?_
  rintro x w1 ⟨bx, rfl, hbx, hvx, ho1⟩
  have HVX1 := Lib.hid hvx
  have HO1 := Lib.hid ho1
  have hbx1 := hvx.lt
  clear hvx ho1 HK1
  go_wp2_with fail
  refine (HK2.out w1 HO1.out).mono ?_
  rintro x w2 ⟨bY, rfl, hby, hvy, ho2⟩
  have hsz1 := HO1.out.size
  have hby1 := hvy.lt
  have hsz2 := ho2.size
  have hvx3 := (HVX1.out.only ho2 (by simp)).alloc (.map #[] 0)
  have hvy3 := hvy.alloc (.map #[] 0)
  have hvo3 := VM.made w2 Try.prog 9
  have ho3 : Only [] w (w2.alloc (.map #[] 0)) := (HO1.out.trans ho2 (by simp)).alloc _
  obtain ⟨bo, hbo⟩ : ∃ bo, w2.heap.size = bo := ⟨_, rfl⟩
  rw [hbo] at hvo3
  have hbo3 := hvo3.lt
  have HBO := Lib.hid hbo
  have hbo2 : bY < bo := by omega
  have hbo1 : bx < bY := by omega
  have HVX := Lib.hid hvx3
  have HVY := Lib.hid hvy3
  have HVO := Lib.hid hvo3
  have HO3 := Lib.hid ho3
  clear hvx3 hvy3 hvo3 ho3 hvy ho2 HVX1 HK2 hbo hby1 hsz2 hbx1 hby
  have HARM := Lib.hid (fun (r : Nat) (e : (w2.alloc (.map #[] 0)).heap.size = r) => e)
  go_wp2_with (at_range; refine wpList_rangeV rfl (.tmp 20) 37 rfl 9 9 lawS Try.underlying37 rfl HVX.out ?_; intro w4 cnt4 hrg4 hcn4 ho4 hs4)
  go_frame
  rw [HBO.out]
  obtain ⟨r1, hr1⟩ : ∃ r1, (w2.alloc (.map #[] 0)).heap.size = r1 := ⟨_, rfl⟩
  rw [hr1] at hrg4 hs4 hbo3
  rw [hr1]
  have hwr : w.heap.size ≤ r1 := by omega
  have hwb : w.heap.size ≤ bo := by omega
  have hvy4 := HVY.out.only ho4 (by simp)
  have hvo4 := HVO.out.only ho4 (by simp)
  have hO4 := HO3.out.trans ho4 (by simp)
  have HST := Lib.hid (And.intro hrg4 (And.intro hvy4 (And.intro hvo4 hO4)))
  clear hrg4 hvy4 hvo4 hO4 ho4 hs4 hr1 HVX HVY HVO HO3 HO1 HBO HARM hsz1
  go_loopw [8] (fun _ wr => ∃ (left : Lit → Bool) (cnt nb : Nat), VR Try.prog 9 wr bx r1 m1 f1 left cnt ∧ VM Try.prog 9 wr bY m2 f2 ∧ VM Try.prog 9 wr bo nb (odd1 f1 f2 left) ∧ nb + cnt ≤ m1 ∧ Only [] w wr) (fun _ wr => wr.rangeLeft bx r1)
  case atStart => exact ⟨_, cnt4, 0, HST.out.1, HST.out.2.1, by rw [odd1_start]; exact HST.out.2.2.1, by omega, HST.out.2.2.2⟩
  case round =>
    obtain ⟨left, cnt, nb, hrg, hvy, hvo, hnb, ho⟩ := hrel
    have HRG := Lib.hid hrg
    have HVY := Lib.hid hvy
    have HVO := Lib.hid hvo
    have HO := Lib.hid ho
    clear hrg hvy hvo ho HST
    go_wp2_with (at_next; refine wpList_nextS rfl (.tmp 21) rfl 9 Try.underlying9 Value.string rfl HRG.out HT1.out ?_ ?_)
    · intro hl0
      have hrr := HRG.out.lt
      have hvx5 := HRG.out.owns
      have HVX5 := Lib.hid hvx5
      have HL0 := Lib.hid hl0
      clear hvx5 hl0
      go_wp2_with (at_range; refine wpList_rangeV rfl (.tmp 42) 37 rfl 9 9 lawS Try.underlying37 rfl HVY.out ?_; intro w6 cnt6 hrg6 hcn6 ho6 hs6)
      go_frame
      obtain ⟨r2, hr2⟩ : ∃ r2, wr.heap.size = r2 := ⟨_, rfl⟩
      rw [hr2] at hrg6 hs6 hrr
      rw [hr2]
      have hvx6 := HVX5.out.only ho6 (by simp)
      have hvo6 := HVO.out.only ho6 (by simp)
      have hO6 := HO.out.trans ho6 (by simp)
      have hwr2 : w.heap.size ≤ r2 := by omega
      have HST := Lib.hid (And.intro hrg6 (And.intro hvx6 (And.intro hvo6 hO6)))
      clear hrg6 hvx6 hvo6 hO6 ho6 hs6 hr2 HVX5 HVY HVO HO HRG
      go_loopw [12] (fun _ wz => ∃ (lf : Lit → Bool) (ct n2 : Nat), VR Try.prog 9 wz bY r2 m2 f2 lf ct ∧ VM Try.prog 9 wz bx m1 f1 ∧ VM Try.prog 9 wz bo n2 (odd2 f1 f2 lf) ∧ n2 + ct ≤ m1 + m2 ∧ Only [] w wz) (fun _ wz => wz.rangeLeft bY r2)
      case atStart => exact ⟨_, cnt6, nb, HST.out.1, HST.out.2.1, by rw [odd2_start HL0.out]; exact HST.out.2.2.1, by omega, HST.out.2.2.2⟩
      case round =>
        obtain ⟨lf, ct, n2, hrg, hvx, hvo, hnb2, ho⟩ := hrel
        have HRG := Lib.hid hrg
        have HVX := Lib.hid hvx
        have HVO := Lib.hid hvo
        have HO := Lib.hid ho
        clear hrg hvx hvo ho HST
        go_wp2_with (at_next; refine wpList_nextS rfl (.tmp 43) rfl 9 Try.underlying9 Value.string rfl HRG.out HT2.out ?_ ?_)
        · intro hl0
          have hvf : VM Try.prog 9 wr bo n2 (oddf f1 f2) := by rw [← odd2_end hl0]; exact HVO.out
          have HS := Lib.hid (sorted_bool bo n2 _ wr hvf (by omega))
          clear hvf hl0
          go_wp2_with (first
            | (go_at_call 14; refine (keysB bo _).mono ?_; rintro x wk ⟨rfl, rfl⟩)
            | (go_at_call 12; refine HS.out.mono ?_; rintro x w7 ⟨v, ss, rfl, hkl, hsl, hbd, hown, ho7⟩))
          go_ret
          exact ⟨v, ss, rfl, hkl, by omega, hbd, hown.mono HO.out.size, HO.out.trans ho7 (by simp)⟩
        · intro s c w5 cnt5 hs hl hf hrg5 hlt ho5 hsz5 hen
          have hvx5 := HVX.out.only ho5 (by simp; omega)
          have hvo5 := HVO.out.only ho5 (by simp; omega)
          have hO5 := HO.out.trans ho5 (by intro g hg; rw [List.mem_singleton.1 hg]; exact .inr hwr2)
          have hlk := VM.run_look hvx5 lawS Try.underlying37 (zeroS w5) (keyS hs)
          have hfs : (f2 (pk s)).isSome = true := by show (f2 (.string s.data.toList)).isSome = true; rw [hf]; rfl
          have HRG5 := Lib.hid hrg5
          have HVX5 := Lib.hid hvx5
          have HVO5 := Lib.hid hvo5
          have HO5 := Lib.hid hO5
          have HLT := Lib.hid hlt
          cases hy : f1 (pk s) with
          | none =>
            rw [hy] at hlk
            simp only [Option.getD_none, Option.isSome_none] at hlk
            have HP := Lib.hid (odd2_put (left := lf) (pk_key s) hfs hy)
            clear hf hrg5 hvx5 hvo5 hO5 ho5 hy hfs hl hlt
            go_wp2_with (at_mapUpdate; refine wpList_put rfl (.tmp 56) (.tmp 57) (.const (.bool true)) 44 rfl 9 4 lawS Try.underlying44 rfl HVO5.out (by unfold maxLen; omega) rfl rfl (keyS hs) ?_; intro w8 hv8 ho8; go_frame)
            have hrg8 := HRG5.out.only ho8 (by simp; omega) (by simp; omega)
            go_roundw
            case rel => exact ⟨_, cnt5, n2 + 1, hrg8, HVX5.out.only ho8 (by simp; omega), by have := HP.out; rw [show (fun z => lf z && !z.sameKey (.string s.data.toList)) = (fun z => lf z && !z.sameKey (pk s)) from rfl, this]; exact hv8, by have := HLT.out; omega, HO5.out.trans ho8 (by intro g hg; rw [List.mem_singleton.1 hg]; exact .inr hwb)⟩
            case measure => rw [hrg8.left_eq, HRG.out.left_eq]; exact HLT.out
          | some t0 =>
            obtain ⟨t, rfl⟩ := HT1.out _ _ hy
            rw [hy] at hlk
            simp only [Option.getD_some, Option.isSome_some] at hlk
            have HP := Lib.hid (odd2_skip (f2 := f2) (left := lf) (pk_key s) (by rw [hy]; simp : f1 (pk s) ≠ none))
            clear hf hrg5 hvx5 hvo5 hO5 ho5 hy hfs hl hlt
            go_wp2_with fail
            go_roundw
            case rel => exact ⟨_, cnt5, n2, HRG5.out, HVX5.out, by have := HP.out; rw [show (fun z => lf z && !z.sameKey (.string s.data.toList)) = (fun z => lf z && !z.sameKey (pk s)) from rfl, this]; exact HVO5.out, by have := HLT.out; omega, HO5.out⟩
            case measure => rw [HRG5.out.left_eq, HRG.out.left_eq]; exact HLT.out
    · intro s c w5 cnt5 hs hl hf hrg5 hlt ho5 hsz5 hen
      have hvy5 := HVY.out.only ho5 (by simp; omega)
      have hvo5 := HVO.out.only ho5 (by simp; omega)
      have hO5 := HO.out.trans ho5 (by intro g hg; rw [List.mem_singleton.1 hg]; exact .inr hwr)
      have hlk := VM.run_look hvy5 lawS Try.underlying37 (zeroS w5) (keyS hs)
      have hf' : f1 (pk s) = some (.string c) := hf
      have hfs : (f1 (pk s)).isSome = true := by rw [hf']; rfl
      have HRG5 := Lib.hid hrg5
      have HVY5 := Lib.hid hvy5
      have HVO5 := Lib.hid hvo5
      have HO5 := Lib.hid hO5
      have HLT := Lib.hid hlt
      have hput : f1 (pk s) ≠ f2 (pk s) → Hid (odd1 f1 f2 (fun z => left z && !z.sameKey (.string s.data.toList)) = upd (odd1 f1 f2 left) (pk s) (some (.bool true))) := fun h => odd1_put (pk_key s) hfs h
      have hskip : f1 (pk s) = f2 (pk s) → Hid (odd1 f1 f2 (fun z => left z && !z.sameKey (.string s.data.toList)) = odd1 f1 f2 left) := fun h => odd1_skip (pk_key s) h
      cases hy : f2 (pk s) with
      | none =>
        rw [hy] at hlk
        simp only [Option.getD_none, Option.isSome_none] at hlk
        have HP := hput (by rw [hf', hy]; simp)
        clear hf hf' hrg5 hvy5 hvo5 hO5 ho5 hy hfs hl hlt hput hskip
        go_wp2_with (at_mapUpdate; refine wpList_put rfl (.tmp 40) (.tmp 41) (.const (.bool true)) 44 rfl 9 4 lawS Try.underlying44 rfl HVO5.out (by unfold maxLen; omega) rfl rfl (keyS hs) ?_; intro w8 hv8 ho8; go_frame)
        have hrg8 := HRG5.out.only ho8 (by simp; omega) (by simp; omega)
        go_roundw
        case rel => exact ⟨_, cnt5, nb + 1, hrg8, HVY5.out.only ho8 (by simp; omega), by rw [HP.out]; exact hv8, by have := HLT.out; omega, HO5.out.trans ho8 (by intro g hg; rw [List.mem_singleton.1 hg]; exact .inr hwb)⟩
        case measure => rw [hrg8.left_eq, HRG.out.left_eq]; exact HLT.out
      | some t0 =>
        obtain ⟨t, rfl⟩ := HT2.out _ _ hy
        rw [hy] at hlk
        simp only [Option.getD_some, Option.isSome_some] at hlk
        by_cases hct : c = t
        · subst hct
          have HP := hskip (by rw [hf', hy])
          clear hf hf' hrg5 hvy5 hvo5 hO5 ho5 hy hfs hl hlt hput hskip
          go_wp2_with fail
          go_roundw
          case rel => exact ⟨_, cnt5, nb, HRG5.out, HVY5.out, by rw [HP.out]; exact HVO5.out, by have := HLT.out; omega, HO5.out⟩
          case measure => rw [HRG5.out.left_eq, HRG.out.left_eq]; exact HLT.out
        · have HP := hput (by rw [hf', hy]; intro h; injection h with h; injection h with h; exact hct h)
          have hne : (c.toList == t.toList) = false := by
            rw [Lib.toList_data, Lib.toList_data]
            refine beq_eq_false_iff_ne.2 (fun h => hct ?_)
            exact ByteArray.ext (Array.toList_inj.1 h)
          clear hf hf' hrg5 hvy5 hvo5 hO5 ho5 hy hfs hl hlt hput hskip hct
          go_wp2_with (at_mapUpdate; refine wpList_put rfl (.tmp 40) (.tmp 41) (.const (.bool true)) 44 rfl 9 4 lawS Try.underlying44 rfl HVO5.out (by unfold maxLen; omega) rfl rfl (keyS hs) ?_; intro w8 hv8 ho8; go_frame)
          have hrg8 := HRG5.out.only ho8 (by simp; omega) (by simp; omega)
          go_roundw
          case rel => exact ⟨_, cnt5, nb + 1, hrg8, HVY5.out.only ho8 (by simp; omega), by rw [HP.out]; exact hv8, by have := HLT.out; omega, HO5.out.trans ho8 (by intro g hg; rw [List.mem_singleton.1 hg]; exact .inr hwb)⟩
          case measure => rw [hrg8.left_eq, HRG.out.left_eq]; exact HLT.out
end Go.Proofs.Ytphpgbnpmplkhaa.Edits
