/- A list of functions as bytes: export.Encode. -/
import Derived.Test.YtbeenfkmnchhbaaExportRight2
import Derived.Test.YtbeenfkmnchhbaaWriterKeep
namespace Go.Proofs.Ytbeenfkmnchhbaa.Export
open Go.RowKit Codec
set_option linter.unusedVariables false
set_option maxRecDepth 100000
def layP (ps : List UInt8) : List UInt8 := ps.flatMap fun c => smalls [(c.toNat : Int)]
def laySg (s : Sg) : List UInt8 := texts [s.name] ++ smalls [(s.n : Int)] ++ layP s.ps ++ smalls [(s.res.toNat : Int)]
def layL (ss : List Sg) : List UInt8 := smalls [(ss.length : Int)] ++ ss.flatMap laySg
theorem sgOk_parts {a : List UInt8} {s : Sg} (h : sgOk a s = true) : nameOk s.name = true ∧ Op.bytesLess a s.name.toList = true ∧ s.n ≤ 4 ∧ okT s.ps ∧ s.res.toNat ≤ 2 := by
  unfold sgOk at h
  simp only [Bool.and_eq_true, decide_eq_true_eq] at h
  exact ⟨h.1.1.1.1, h.1.1.1.2, h.1.1.2, h.1.2, h.2⟩
theorem nameOk_size {s : ByteArray} (h : nameOk s = true) : 1 ≤ s.size ∧ s.size ≤ 16 := by
  unfold nameOk at h
  simp only [Bool.and_eq_true, decide_eq_true_eq] at h
  exact ⟨h.1.1, h.1.2.1⟩
theorem chk_each : ∀ (ss : List Sg) (a : List UInt8), chk a ss = true → ∀ s ∈ ss, ∃ b, sgOk b s = true
  | [], _, _, _, hs => by cases hs
  | t :: r, a, h, s, hs => by
    unfold chk at h
    simp only [Bool.and_eq_true] at h
    rcases List.mem_cons.1 hs with rfl | hs
    · exact ⟨a, h.1⟩
    · exact chk_each r _ h.2 s hs
/-- what Encode hands back -/
def encOut (ss : List Sg) (w : World) (x : Ending) (w' : World) : Prop :=
  ∃ A n c, x = .returned (.tuple #[.slice A n c, .int .i64 (if rightL ss = true then 0 else 1)]) ∧ Bytes w' w'.heap.size A n (if rightL ss = true then layL ss else []) ∧ n ≤ c ∧ c ≤ maxLen ∧ n ≤ 3000000 ∧ Only [] w w'
set_option maxHeartbeats 400000 in
theorem encode_any (A : Option Addr) (m c : Nat) (ss : List Sg) (w : World) (hs : Sgs w A m ss) (hm : m ≤ 1000000) (hn : ∀ s ∈ ss, s.n ≤ 1048576) :
    Calls Try.prog 26 #[.slice A m c] w fun x w' => encOut ss w x w' := by
  have hR := right_any A m c ss w hs hm hn
  unfold encOut
  cases hr : rightL ss
  · rw [hr] at hR
    have HR := Lib.hid hR
    clear hR hs hn hr
    go_enter Try.func26, Try.ntmps26
    go_wp2_with (go_at_call 32; refine HR.out.mono ?_; rintro x w2 ⟨rfl, ho⟩)
    exact bodyPost_ret (v := .tuple #[.slice none 0 0, .int .i64 1]) (by simp [results, Try.results26, go_sem]) rfl ⟨none, 0, 0, rfl, Bytes.nil_, Nat.le_refl _, by simp [maxLen], by omega, ho⟩
  · rw [hr] at hR
    have h32 : m ≤ 32 := by
      unfold rightL at hr
      simp only [Bool.and_eq_true, decide_eq_true_eq] at hr
      rw [hs.len] at hr
      exact hr.1
    have hall : ∀ s ∈ ss, s.name.size ≤ 16 ∧ s.n ≤ 4 := by
      unfold rightL at hr
      simp only [Bool.and_eq_true, decide_eq_true_eq] at hr
      intro s h
      obtain ⟨b, hb⟩ := chk_each ss [] hr.2 s h
      have := sgOk_parts hb
      exact ⟨(nameOk_size this.1).2, this.2.2.1⟩
    have HR := Lib.hid hR
    have HS := Lib.hid hs
    have HALL := Lib.hid hall
    clear hR hs hn hr hall
    go_enter Try.func26, Try.ntmps26
    go_wp2_with (first
      | (go_at_call 32; refine HR.out.mono ?_; rintro x w2 ⟨rfl, ho⟩; have hW := WI.new w2)
      | (go_at_call 65; refine (small_in hW [(m : Int)] _ _ _ 1 1 _ (by rfl) (by simp) (by rfl) (by decide)).mono ?_; rintro x w3 ⟨rfl, hW3⟩))
    have hsz2 := ho.size
    have hpw := Nat.le_refl w2.heap.size
    obtain ⟨p, hp⟩ : ∃ p, w2.heap.size = p := ⟨_, rfl⟩
    rw [hp] at hW3 hsz2
    rw [hp]
    have HP := Lib.hid hp
    have HO := Lib.hid ho
    clear hp ho hW HR hpw
    go_loopw [21] (fun i wr => ∃ k : Nat, k ≤ m ∧ i = .int .i64 k ∧ WI w2 wr p (2 + k * 65600) (smalls [(m : Int)] ++ (ss.take k).flatMap laySg)) (fun i _ => m - (intOf i).toNat)
    case atStart => exact ⟨0, by omega, rfl, by simpa using hW3⟩
    case round =>
      obtain ⟨k, hk, rfl, hWk⟩ := hrel
      have hoW := HO.out.trans hWk.only0 (by simp)
      by_cases hlt : k < m
      · have e1 : decide ((k : Int) < (m : Int)) = true := decide_eq_true (by omega)
        obtain ⟨b, off, rfl, hb, s, hmem, hsk, c0, c1, c2⟩ := recs_at HS.out.recs k hlt
        have x0 := hoW.cell c0 (by simp)
        have x1 := hoW.cell c1 (by simp)
        have x2 := hoW.cell c2 (by simp)
        have hal := HALL.out s hmem
        have hbs := ((HS.out.each s hmem).1.only hoW (by simp)).more hoW.size
        have HBS := Lib.hid hbs
        have HSK := Lib.hid hsk
        clear c0 c1 c2 hbs hsk
        obtain ⟨name, sA, sn, sc, ps, res⟩ := s
        simp only at x0 x1 x2 hal
        have hbox := Blk.new wr 96 #[.string name, .slice sA sn sc, .int .u8 (res.toNat : Int)]
        have hWb := hWk.alloc (.cells #[.string name, .slice sA sn sc, .int .u8 (res.toNat : Int)] 96)
        generalize hrz : (res.toNat : Int) = rz at *
        have HRZ := Lib.hid hrz
        clear hrz
        obtain ⟨G, hG⟩ : ∃ G, wr.heap.size = G := ⟨_, rfl⟩
        rw [hG] at hbox
        have HG := Lib.hid hG
        go_wp2_with fail
        clear hG
        refine (text_in_k hWb [name] _ _ _ 1 1 _ (by rfl) (by rw [World.size_alloc, HG.out]) (by rfl) (by intro s hs; rw [List.mem_singleton.1 hs]; unfold maxLen; omega) (by omega)).mono ?_
        rintro x w4 ⟨rfl, hW4, hk4⟩
        have hb4 := hk4 _ _ _ (hbox.alloc _) (by decide) (by decide)
        have y0 : w4.cell? ⟨G, 1, none⟩ = some (.slice sA sn sc) := hb4.cell 1
        clear hWb hbox
        go_wp2_with (go_at_call 65; refine (small_in_k hW4 [(sn : Int)] _ _ _ 1 1 _ (by rfl) (by rfl) (by rfl) (by omega)).mono ?_; rintro x w5 ⟨rfl, hW5, hk5⟩; have hb5 := hk5 _ _ _ (hb4.alloc _) (by decide) (by decide); have y1 : w5.cell? ⟨G, 1, none⟩ = some (.slice sA sn sc) := hb5.cell 1)
        have HW5 := Lib.hid hW5
        clear hW5 hW4 hb4 y0 hk4 hk5
        go_loopw [39] (fun i wx => ∃ j : Nat, j ≤ sn ∧ i = .int .i64 j ∧ WI w2 wx p (2 + k * 65600 + 65537 * 1 + 2 * 1 + 2 * j) (smalls [(m : Int)] ++ (ss.take k).flatMap laySg ++ texts [name] ++ smalls [(sn : Int)] ++ layP (ps.take j)) ∧ Blk wx G 96 #[.string name, .slice sA sn sc, .int .u8 rz]) (fun i _ => sn - (intOf i).toNat)
        case atStart => exact ⟨0, by omega, rfl, by simpa [layP] using HW5.out, hb5⟩
        case round =>
          obtain ⟨j, hj, rfl, hWj, hbj⟩ := hrel
          have hoj := HO.out.trans hWj.only0 (by simp)
          by_cases hlj : j < sn
          · have e2 : decide ((j : Int) < (sn : Int)) = true := decide_eq_true (by omega)
            obtain ⟨bp, op, rfl, _, hcp⟩ := (((HS.out.each _ hmem).1.only hoj (by simp)).at_ (k := j) hlj)
            have hz := UInt8.toNat_lt (ps.getD j 0)
            have hstep : layP (ps.take (j + 1)) = layP (ps.take j) ++ smalls [((ps.getD j 0).toNat : Int)] := by
              have hl := (HS.out.each _ hmem).1.len
              simp only at hl
              unfold layP
              rw [List.take_succ_eq_append_getElem (by omega), List.flatMap_append, List.getD_eq_getElem?_getD, List.getElem?_eq_getElem (by omega)]
              simp
            have HST := Lib.hid hstep
            clear hstep
            have e3 : IntKind.i64.wrap ((ps.getD j 0).toNat : Int) = ((ps.getD j 0).toNat : Int) := IntWalk.i64_in _ (by omega)
            generalize ((ps.getD j 0).toNat : Int) = z at *
            go_wp2_with (go_at_call 65; refine (small_in_k hWj [z] _ _ _ 1 1 _ (by rfl) (by rfl) (by rfl) (by omega)).mono ?_; rintro x w6 ⟨rfl, hW6, hk6⟩; have hb6 := hk6 _ _ _ (hbj.alloc _) (by decide) (by decide))
            go_roundw
            case rel => exact ⟨j + 1, by omega, by go_num, by rw [HST.out, ← List.append_assoc]; exact hW6, hb6⟩
            case measure => simp [intOf]; omega
          · obtain rfl : j = sn := by omega
            have e2 : decide ((j : Int) < (j : Int)) = false := decide_eq_false (by omega)
            have y2 : wr.cell? ⟨G, 2, none⟩ = some (.int .u8 rz) := hbj.cell 2
            have hz := UInt8.toNat_lt res
            have e3 : IntKind.i64.wrap rz = rz := by rw [← HRZ.out]; exact IntWalk.i64_in _ (by omega)
            have HJ := Lib.hid hWj
            have hfull : ps.take j = ps := List.take_of_length_le (by have := (HS.out.each _ hmem).1.len; simp only at this; omega)
            have HF := Lib.hid hfull
            clear hfull hoj hoW
            go_wp2_with (go_at_call 65; refine (small_in_k hWj [rz] _ _ _ 1 1 _ (by rfl) (by rfl) (by rfl) (by omega)).mono ?_; rintro x w6 ⟨rfl, hW6, hk6⟩)
            go_roundw
            case rel =>
              refine ⟨k + 1, by omega, by go_num, ?_⟩
              have hst : (ss.take (k + 1)).flatMap laySg = (ss.take k).flatMap laySg ++ laySg ⟨name, sA, j, sc, ps, res⟩ := by
                obtain ⟨hk', he⟩ := List.getElem?_eq_some_iff.1 HSK.out
                rw [List.take_succ_eq_append_getElem hk', List.flatMap_append, he]
                simp
              rw [HF.out] at hW6
              rw [hst]
              unfold laySg
              simp only [HRZ.out]
              have hgoal := WI.mono (N' := 2 + (k + 1) * 65600) hW6 (by omega)
              rw [← List.append_assoc, ← List.append_assoc, ← List.append_assoc, ← List.append_assoc]
              exact hgoal
            case measure => simp [intOf]; omega
      · obtain rfl : k = m := by omega
        have e1 : decide ((k : Int) < (k : Int)) = false := decide_eq_false (by omega)
        have hfull : ss.take k = ss := List.take_of_length_le (by rw [HS.out.len]; exact Nat.le_refl _)
        rw [hfull] at hWk
        have hlay : smalls [(k : Int)] ++ ss.flatMap laySg = layL ss := by unfold layL; rw [HS.out.len]
        rw [hlay] at hWk
        obtain ⟨v, n, hnN, hwr, hw0, _, _⟩ := hWk
        have hbl := bytes_any p n v _ wr hwr (by omega)
        have HBL := Lib.hid hbl
        have hn2 : n ≤ 3000000 := by omega
        clear hfull hlay hbl hwr hw0 hnN
        go_wp2_with (go_at_call 67; refine HBL.out.mono ?_; rintro x w7 ⟨v7, rfl, hv7, ho7⟩; obtain ⟨A7, cap7, rfl, h71, h72, hr7, _⟩ := hv7.shape)
        have ho8 := hoW.trans ho7 (by simp)
        exact bodyPost_ret (v := .tuple #[.slice A7 n cap7, .int .i64 0]) (by simp [results, Try.results26, go_sem]) rfl ⟨A7, n, cap7, rfl, hr7, h71, h72, hn2, ho8⟩
end Go.Proofs.Ytbeenfkmnchhbaa.Export
