/- edits.Diff walks. -/
import Derived.Test.YtphpgbnpmplkhaaEditsUnlike2
import Derived.Test.YtphpgbnpmplkhaaRowOff
namespace Go.Proofs.Ytphpgbnpmplkhaa.Edits
open Go.RowKit Go.Maps
set_option linter.unusedVariables false
set_option maxRecDepth 100000
structure Stp where
  op : Int
  path : ByteArray
  text : ByteArray
def Stp.row (s : Stp) : List Value := [.int .i64 s.op, .string s.path, .string s.text, .int .i64 0, .slice none 0 0]
def stp0 : Stp := ⟨0, ⟨#[]⟩, ⟨#[]⟩⟩
def ba (x : List UInt8) : ByteArray := ⟨x.toArray⟩
theorem ba_size (x : List UInt8) : (ba x).size = x.length := by simp [ba, ByteArray.size]
theorem pk_ba (x : List UInt8) : pk (ba x) = .string x := rfl
theorem enc_ba (x : List UInt8) : Go.Proofs.encStr x = .string (ba x) := rfl
/-- the text that a value is -/
def txt : Option Value → ByteArray
  | some (.string t) => t
  | _ => ⟨#[]⟩
/-- the step that a path's text wants -/
def dstep (f : Lit → Option Value) (x : List UInt8) : Stp := if (f (.string x)).isSome = true then ⟨0, ba x, txt (f (.string x))⟩ else ⟨1, ba x, ⟨#[]⟩⟩
theorem step_info : (Try.prog.info? 34).map (fun i => (i.zero, i.size, i.bytes)) = some (some (.agg #[.int .i64 0, .string ⟨#[]⟩, .string ⟨#[]⟩, .int .i64 0, .slice none 0 0]), 5, 72) := by kernel_rfl
theorem src_info : (Try.prog.info? 30).map (fun i => (i.zero, i.size, i.bytes)) = some (some (.agg #[.string ⟨#[]⟩, .string ⟨#[]⟩]), 2, 32) := by kernel_rfl
theorem key_at {w : World} {base : Nat} {A : Option Addr} {c : Nat} {ss : List (List UInt8)} (h : OwnR 9 1 w base (.slice A ss.length c) ss.length (ss.map fun x => [Go.Proofs.encStr x])) (k : Nat) (hk : k < ss.length) : ∃ b off x, A = some ⟨b, off, none⟩ ∧ ss[k]? = some x ∧ x ∈ ss ∧ w.cell? ⟨b, off + k, none⟩ = some (.string (ba x)) := by
  obtain ⟨A', cap', he, _, _, hr, _⟩ := h.shape (by decide)
  injection he with he _ _
  subst he
  obtain ⟨b, off, e, hb, hc⟩ := hr.at_ ([] : List UInt8) hk
  have hg : ss.getD k [] = ss[k] := by rw [List.getD_eq_getElem?_getD, List.getElem?_eq_getElem hk]; rfl
  refine ⟨b, off, ss[k], e, List.getElem?_eq_getElem hk, List.getElem_mem hk, ?_⟩
  rw [hg] at hc
  have := hc 0 (by omega)
  simp only [Nat.mul_one, Nat.add_zero] at this
  exact this
set_option maxHeartbeats 2000000 in
theorem diff_any (A1 : Option Addr) (m1 c1 : Nat) (l1 : List Src) (A2 : Option Addr) (m2 c2 : Nat) (l2 : List Src) (w : World) (hr1 : Recs w w.heap.size 2 A1 m1 (l1.map Src.row)) (hr2 : Recs w w.heap.size 2 A2 m2 (l2.map Src.row))
    (hs1 : Short l1) (hs2 : Short l2) (hm1 : m1 ≤ 1000000) (hm2 : m2 ≤ 1000000) :
    Calls Try.prog 6 #[.slice A1 m1 c1, .slice A2 m2 c2] w fun x w' => ∃ v ss, x = .returned v ∧ KeysL (oddf (kf l1) (kf l2)) ss ∧ ss.length ≤ 2000000 ∧ (∀ x ∈ ss, x.length ≤ maxLen) ∧ OwnR 34 5 w' w.heap.size v ss.length ((ss.map (dstep (kf l2))).map Stp.row) ∧ Only [] w w' := by
  have hK := kept_any A2 m2 c2 l2 w hr2 hs2 hm2
  have hU := fun w' (ho : Only [] w w') => unlike_any A1 m1 c1 l1 A2 m2 c2 l2 w' ((hr1.only ho (by simp)).more ho.size) ((hr2.only ho (by simp)).more ho.size) hs1 hs2 hm1 hm2
  have hT2 := kf_text l2
  generalize kf l1 = f1 at *
  generalize kf l2 = f2 at *
  have HK := Lib.hid hK
  have HU := Lib.hid hU
  have HT2 := Lib.hid hT2
  clear hK hU hT2 hr1 hr2 hs1 hs2
  go_enter Try.func6, Try.ntmps6
  go_wp2_with fail
  refine HK.out.mono ?_
  rintro x w1 ⟨bY, rfl, hby, hvy, ho1⟩
  have HVY1 := Lib.hid hvy
  have HO1 := Lib.hid ho1
  have hs1 := ho1.size
  clear hvy ho1 HK
  go_wp2_with fail
  refine (HU.out w1 HO1.out).mono ?_
  rintro x w2 ⟨v0, ss, rfl, hkl, hsl, hbd, hown, ho2⟩
  obtain ⟨Ak, ck, rfl, hck, hcm, hrk, _⟩ := hown.shape (by decide)
  have hs2 := ho2.size
  have HVY := Lib.hid (HVY1.out.only ho2 (by simp))
  have HO := Lib.hid (HO1.out.trans ho2 (by simp))
  have HKL := Lib.hid hkl
  have HBD := Lib.hid hbd
  have HOWN := Lib.hid (hown.mono hs1)
  clear hkl hbd hown hrk ho2 HVY1 HO1 HU
  go_wp2_with fail
  go_loopw [6, 17] (fun v i wr => ∃ k : Nat, k ≤ ss.length ∧ i = .int .i64 k ∧ OwnR 34 5 wr w.heap.size v k (((ss.take k).map (dstep f2)).map Stp.row) ∧ VM Try.prog 9 wr bY m2 f2 ∧ OwnR 9 1 wr w.heap.size (.slice Ak ss.length ck) ss.length (ss.map fun x => [Go.Proofs.encStr x]) ∧ Only [] w wr) (fun _ i _ => ss.length - (intOf i).toNat)
  case atStart => exact ⟨0, by omega, rfl, OwnR.nil_ _ _ _ _, HVY.out, HOWN.out, HO.out⟩
  case round =>
    obtain ⟨k, hk, rfl, hv, hvy, hkeys, ho⟩ := hrel
    have hszr := ho.size
    by_cases hlt : k < ss.length
    · have e1 : decide ((k : Int) < (ss.length : Int)) = true := decide_eq_true (by omega)
      obtain ⟨b, off, x, rfl, hsk, hmem, c0⟩ := key_at hkeys k hlt
      have hbx := HBD.out x hmem
      have hkey := keyS (s := ba x) (by rw [ba_size]; exact hbx)
      have hlk := VM.run_look hvy lawS Try.underlying37 (zeroS wr) hkey
      have htk : ((ss.take (k + 1)).map (dstep f2)).map Stp.row = (((ss.take k).map (dstep f2)).map Stp.row) ++ [(dstep f2 x).row] := by
        obtain ⟨hk', he⟩ := List.getElem?_eq_some_iff.1 hsk
        rw [List.take_succ_eq_append_getElem hk', he]
        simp
      have hds : dstep f2 x = if (f2 (pk (ba x))).isSome = true then ⟨0, ba x, txt (f2 (pk (ba x)))⟩ else ⟨1, ba x, ⟨#[]⟩⟩ := rfl
      have HTK := Lib.hid htk
      have HV := Lib.hid hv
      have HVYr := Lib.hid hvy
      have HKY := Lib.hid hkeys
      have HOr := Lib.hid ho
      have hfin : ∀ (v' : Value) (w' : World) (row : List Value), ExtR 34 5 wr w' w.heap.size v' v' 0 [] → True := fun _ _ _ _ => trivial
      clear htk hv hkeys ho hfin
      cases hy : f2 (pk (ba x)) with
      | none =>
        rw [hy] at hlk hds
        simp only [Option.getD_none, Option.isSome_none] at hlk
        have HDS : Hid (dstep f2 x = ⟨1, ba x, ⟨#[]⟩⟩) := by unfold Hid; rw [hds]; rfl
        clear hds hy hvy hsk hmem
        go_wp2_with (at_builtin; refine wpList_append1 rfl (.tmp 34) (.tmp 37) 25 rfl Try.underlying25 step_info rfl (by decide) rfl HV.out rfl rfl (row := [.int .i64 1, .string (ba x), .string ⟨#[]⟩, .int .i64 0, .slice none 0 0]) rfl rfl (by intro u hu; simp at hu; rcases hu with rfl | rfl | rfl | rfl | rfl <;> rfl) (by omega) (by unfold maxLen; omega) (by omega) ?_; intro v' w5 hE)
        go_roundw
        case rel =>
          refine ⟨k + 1, by omega, by go_num, ?_, HVYr.out.only hE.only (off_map HV.out HVYr.out), HKY.out.only hE.only (off_rows HKY.out HV.out (by decide)), HOr.out.trans hE.only (fun g hg => .inr (HV.out.lt g hg).1)⟩
          rw [HTK.out, HDS.out]
          exact hE.own
        case measure => simp [intOf]; omega
      | some t0 =>
        obtain ⟨t, rfl⟩ := HT2.out _ _ hy
        rw [hy] at hlk hds
        simp only [Option.getD_some, Option.isSome_some] at hlk
        have HDS : Hid (dstep f2 x = ⟨0, ba x, t⟩) := by unfold Hid; rw [hds]; rfl
        clear hds hy hvy hsk hmem
        go_wp2_with (at_builtin; refine wpList_append1 rfl (.tmp 28) (.tmp 32) 25 rfl Try.underlying25 step_info rfl (by decide) rfl HV.out rfl rfl (row := [.int .i64 0, .string (ba x), .string t, .int .i64 0, .slice none 0 0]) rfl rfl (by intro u hu; simp at hu; rcases hu with rfl | rfl | rfl | rfl | rfl <;> rfl) (by omega) (by unfold maxLen; omega) (by omega) ?_; intro v' w5 hE)
        go_roundw
        case rel =>
          refine ⟨k + 1, by omega, by go_num, ?_, HVYr.out.only hE.only (off_map HV.out HVYr.out), HKY.out.only hE.only (off_rows HKY.out HV.out (by decide)), HOr.out.trans hE.only (fun g hg => .inr (HV.out.lt g hg).1)⟩
          rw [HTK.out, HDS.out]
          exact hE.own
        case measure => simp [intOf]; omega
    · obtain rfl : ss.length = k := by omega
      have e1 : decide ((ss.length : Int) < (ss.length : Int)) = false := decide_eq_false (by omega)
      rw [List.take_of_length_le (Nat.le_refl _)] at hv
      have HV := Lib.hid hv
      have HOr := Lib.hid ho
      clear hv ho hvy hkeys
      go_wp2_with fail
      go_ret
      exact ⟨_, ss, rfl, HKL.out, hsl, HBD.out, HV.out, HOr.out⟩
end Go.Proofs.Ytphpgbnpmplkhaa.Edits
