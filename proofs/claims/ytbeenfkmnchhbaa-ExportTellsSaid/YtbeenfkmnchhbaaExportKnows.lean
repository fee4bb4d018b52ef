/- What the law's knows answers. -/
import Derived.Test.YtbeenfkmnchhbaaExportMath
namespace Go.Proofs.Ytbeenfkmnchhbaa.Export
open Go.RowKit Codec
set_option linter.unusedVariables false
set_option maxRecDepth 100000
def sF : Sg := ⟨⟨#[70]⟩, none, 0, 0, [], 1⟩
theorem right_nil : rightL [] = true := by decide +kernel
theorem right_F : rightL [sF] = true := by decide +kernel
theorem lay_nil : layL [] = [0, 0] := by decide +kernel
theorem dec_F : dec (layL [sF]) = some [sF.data] := by
  have h1 := layL_data [sF] (by intro s hs; rw [List.mem_singleton.1 hs]; rfl) right_F
  have h2 := right_data [sF] (by intro s hs; rw [List.mem_singleton.1 hs]; rfl)
  rw [right_F] at h2
  rw [h1]
  exact dec_back _ h2.symm
theorem sF_sgs (w : World) : Sgs (w.alloc (.cells #[.string ⟨#[70]⟩, .slice none 0 0, .int .u8 1] 96)) (some ⟨w.heap.size, 0, none⟩) 1 [sF] :=
  ⟨rfl, (Recs.const1 w sF.row #[.string ⟨#[70]⟩, .slice none 0 0, .int .u8 1] 96 3 (0, 0) rfl rfl).more (by simp), fun s hs => by rw [List.mem_singleton.1 hs]; exact ⟨Bytes.nil_, Nat.le_refl _, by simp [sF, maxLen]⟩⟩
theorem one_of {ss : List Sg} {d : SD} (h : ss.map Sg.data = (some [d]).getD []) : ∃ s, ss = [s] ∧ s.data = d := by
  match ss, h with
  | [s], h => exact ⟨s, rfl, by injection h⟩
  | [], h => cases h
  | _ :: _ :: _, h => injection h with _ h; cases h
set_option maxHeartbeats 400000 in
theorem knows_any (w : World) : Calls Try.prog 25 #[] w fun x w' => x = .returned (.bool true) ∧ Only [] w w' := by
  have HN := Lib.hid num_is
  have hE1 := fun w => encode_any none 0 0 [] w (Sgs.nil_ w) (by omega) (by simp)
  have hE2 := fun w : World => encode_any (some ⟨w.heap.size, 0, none⟩) 1 1 [sF] _ (sF_sgs w) (by omega) (by intro s hs; rw [List.mem_singleton.1 hs]; simp [sF])
  unfold encOut at hE1 hE2
  simp only [right_nil, right_F, lay_nil, if_true] at hE1 hE2
  have HE1 := Lib.hid hE1
  have HE2 := Lib.hid hE2
  have hst : ((str [0, 0]).toList == [0, 0]) = true := by rw [Lib.toList_data]; rfl
  clear hE1 hE2
  go_enter Try.func25, Try.ntmps25
  go_wp2_with (first
    | (go_at_call 26; refine (HE2.out w1).mono ?_; rintro x w2 ⟨A2, n2, c2, rfl, hb2, _, _, hn2, ho2⟩; have ho2' := ((Only.refl [] w1).alloc (.cells #[.string ⟨#[70]⟩, .slice none 0 0, .int .u8 1] 96)).trans ho2 (by simp))
    | (go_at_call 26; refine (HE1.out w).mono ?_; rintro x w1 ⟨A1, n1, c1, rfl, hb1, _, _, _, ho1⟩)
    | (go_at_call 28; refine (decode_any A2 n2 c2 _ w2 hb2 (by omega)).mono ?_; rintro x w3 hx3; unfold decOut at hx3; rw [dec_F] at hx3; obtain ⟨A3, n3, c3, ss, rfl, hs3, _, _, hd3, ho3⟩ := hx3; obtain ⟨s, rfl, hsd⟩ := one_of hd3; obtain rfl : n3 = 1 := hs3.len.symm; obtain ⟨b, off, rfl, _, s', hm, _, x0, _, x2⟩ := recs_at hs3.recs 0 (by omega); obtain rfl := List.mem_singleton.1 hm; have hnm : s'.name = ⟨#[70]⟩ := congrArg (·.1) hsd; have hrs : s'.res.toNat = 1 := congrArg (·.2.2) hsd; rw [hnm] at x0; rw [hrs] at x2; have hsA := run_str (hb1.only (ho2'.trans ho3 (by simp)) (by simp)) c1; have hoF := (ho1.trans ho2' (by simp)).trans ho3 (by simp); rw [Nat.zero_mul, Nat.add_zero] at x0 x2)
    | (go_at_call 30; refine (HN.out _ _).mono ?_; rintro x wn ⟨rfl, rfl⟩))
  go_ret
  exact ⟨by simp, hoF⟩
end Go.Proofs.Ytbeenfkmnchhbaa.Export
