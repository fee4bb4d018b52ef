/- moves.Order walks. -/
import Derived.Test.YthaifmfioabmkaaMovesRight
import Derived.Test.YthaifmfioabmkaaMovesCycle
namespace Go.Proofs.Ythaifmfioabmkaa.Moves
open Go.RowKit Go.Maps
set_option linter.unusedVariables false
set_option maxRecDepth 100000
def frees (l : List Mv) (r : List Mv × List Mv) : List Mv × List Mv := l.foldl (fun r x => fre r.1 r.2 x.dst) r
def cycs (sp : Int) : List Mv → List Mv × List Mv → Option (List Mv × List Mv)
  | [], r => some r
  | x :: t, r => if (fro r.1 x.dst).isSome then (cyc x.dst sp (r.1.length + 1) r.1 (r.2 ++ [⟨sp, x.dst⟩]) x.dst).bind (cycs sp t) else cycs sp t r
theorem dropD_len (S : List Mv) (p : Int) : (dropD S p).length ≤ S.length := List.length_filter_le _ _
theorem free_inv : ∀ (n : Nat) (S O : List Mv) (p : Int), Uniq S → (∀ x ∈ (free n S O p).1, x ∈ S) ∧ (free n S O p).1.length + (free n S O p).2.length = S.length + O.length
  | 0, S, O, p, _ => ⟨fun _ h => h, rfl⟩
  | n + 1, S, O, p, hu => by
    rw [free]
    cases hf : fro S p with
    | none => exact ⟨fun _ h => h, rfl⟩
    | some s =>
      simp only
      by_cases hk : 0 < ask S p
      · rw [if_pos hk]; exact ⟨fun _ h => h, rfl⟩
      · rw [if_neg hk]
        obtain ⟨h1, h2⟩ := free_inv n (dropD S p) (O ++ [⟨p, s⟩]) s (hu.dropD p)
        refine ⟨fun x hx => (mem_dropD.1 (h1 x hx)).1, ?_⟩
        have := len_dropD hu hf
        rw [h2]
        simp
        omega
theorem cyc_inv {first sp : Int} : ∀ (n : Nat) (S O : List Mv) (p : Int) (r : List Mv × List Mv), Uniq S → cyc first sp n S O p = some r → (∀ x ∈ r.1, x ∈ S) ∧ r.1.length + r.2.length = S.length + O.length
  | 0, S, O, p, r, _, h => by cases h
  | n + 1, S, O, p, r, hu, h => by
    rw [cyc] at h
    cases hf : fro S p with
    | none => rw [hf] at h; cases h
    | some s =>
      rw [hf] at h
      simp only at h
      have hl := len_dropD hu hf
      by_cases hk : s = first
      · rw [if_pos hk] at h
        injection h with h
        subst h
        refine ⟨fun x hx => (mem_dropD.1 hx).1, ?_⟩
        simp
        omega
      · rw [if_neg hk] at h
        obtain ⟨h1, h2⟩ := cyc_inv n _ _ _ r (hu.dropD p) h
        refine ⟨fun x hx => (mem_dropD.1 (h1 x hx)).1, ?_⟩
        rw [h2]
        simp
        omega
def Fresh0 (B p b1 b2 : Nat) (v : Value) : Prop := ∀ g ∈ mvBlocks p b1 b2 v, B ≤ g
theorem Turn.fresh0 {w wr w2 : World} {p b1 b2 : Nat} {v v' : Value} (h : Turn wr w2 p b1 b2 v v') (ho : Only [] w wr) (hf : Fresh0 w.heap.size p b1 b2 v) : Only [] w w2 ∧ Fresh0 w.heap.size p b1 b2 v' := by
  refine ⟨ho.trans h.1 (fun g hg => .inr (hf g hg)), ?_⟩
  intro g hg
  simp only [mvBlocks, List.mem_cons] at hg
  rcases hg with rfl | rfl | rfl | hg
  · exact hf _ (by simp [mvBlocks])
  · exact hf _ (by simp [mvBlocks])
  · exact hf _ (by simp [mvBlocks])
  · rcases h.2 g hg with h1 | h1
    · exact hf _ (by simp [mvBlocks, h1])
    · exact Nat.le_trans ho.size h1
theorem drop_cons {α : Type} {l : List α} {k : Nat} {x : α} (h : l[k]? = some x) : l.drop k = x :: l.drop (k + 1) := by
  obtain ⟨hk, rfl⟩ := List.getElem?_eq_some_iff.1 h
  exact List.drop_eq_getElem_cons hk
theorem MW.drew {w : World} {p b1 b2 base N : Nat} {v : Value} {S G O : List Mv} (h : MW w p b1 b2 v base N S G O) : MW w.drew p b1 b2 v base N S G O := h.only ((Only.refl [] w).drew) (by simp)
set_option maxHeartbeats 2000000 in
theorem order_any (A : Option Addr) (m c : Nat) (l : List Mv) (sp : Int) (r : List Mv × List Mv) (w : World) (hr : Recs w w.heap.size 2 A m (l.map Mv.row)) (hok : AllOk l) (hsp : in64 sp) (hm : m ≤ 100)
    (hR : rightB l sp = true) (hcy : cycs sp l (frees l (beg l, [])) = some r) :
    Calls Try.prog 12 #[.slice A m c, .int .i64 sp] w fun x w' => ∃ v, x = .returned (.tuple #[v, .bool true]) ∧ OwnR 33 2 w' w.heap.size v r.2.length (r.2.map Mv.row) ∧ Only [] w w' := by
  have hl : l.length = m := by simpa using hr.1
  have hu : Uniq l := by unfold rightB at hR; rw [Bool.and_eq_true] at hR; exact of_decide_eq_true hR.1
  have hri := right_any A m c l sp w hr hok hm
  rw [hR] at hri
  have HRI := Lib.hid hri
  have HBE := Lib.hid (fun w2 (h : Only [] w w2) => begin_any A m c l w2 ((hr.only h (by simp)).more h.size) hok hu hm)
  have HL := Lib.hid hl
  have HR := Lib.hid hr
  have HOK := Lib.hid hok
  have HCY := Lib.hid hcy
  have HSP := Lib.hid hsp
  have HBO := Lib.hid (fun x (hx : x ∈ beg l) => hok x (mem_beg.1 hx).1)
  have HBL := Lib.hid (beg_len l)
  clear hri hr hok hl hcy hR hu hsp
  go_enter Try.func12, Try.ntmps12
  go_wp2_with (first
    | (go_at_call 7; refine HRI.out.mono ?_; rintro x w2 ⟨rfl, ho2⟩; have HB2 := Lib.hid (HBE.out w2 ho2))
    | (go_at_call 17; refine HB2.out.mono ?_; rintro x w3 ⟨p, b1, b2, v, rfl, hfr, hmw, ho3⟩; have HM0 := Lib.hid hmw; have HF0 := Lib.hid hfr; have HO0 := Lib.hid (ho2.trans ho3 (by simp)); clear hmw hfr))
  obtain ⟨B, hB⟩ : ∃ B, w2.heap.size = B := ⟨_, rfl⟩
  rw [hB] at HM0 HF0
  have hwB : w.heap.size ≤ B := hB ▸ ho2.size
  have hB3 : B ≤ w3.heap.size := hB ▸ ho3.size
  have HWB := Lib.hid hwB
  clear hB ho2 ho3 HB2 HBE HRI hwB
  obtain ⟨R, hRR⟩ : ∃ R, frees l (beg l, []) = R := ⟨_, rfl⟩
  rw [hRR] at HCY
  have HRR := Lib.hid hRR
  clear hRR
  go_loopw [21] (fun i wr => ∃ (k : Nat) (v1 : Value) (S1 O1 : List Mv), k ≤ m ∧ i = .int .i64 k ∧ MW wr p b1 b2 v1 B 1000 S1 [] O1 ∧ Only [] w wr ∧ Fresh0 w.heap.size p b1 b2 v1 ∧ AllOk S1 ∧ frees (l.drop k) (S1, O1) = R ∧ S1.length + O1.length ≤ m ∧ B ≤ wr.heap.size) (fun i _ => m - (intOf i).toNat)
  case atStart => exact ⟨0, v, beg l, [], by omega, rfl, HM0.out.mono (by omega), HO0.out, fun g hg => Nat.le_trans HWB.out (HF0.out g hg), HBO.out, HRR.out, by have := HBL.out; have := HL.out; simp; omega, hB3⟩
  case round =>
    clear HM0 HO0 HF0 HBO hB3
    obtain ⟨k, v1, S1, O1, hk, rfl, h, ho, hfr0, hao, hfs, hsum, hBr⟩ := hrel
    have HO := Lib.hid ho
    by_cases hlt : k < m
    · have e1 : decide ((k : Int) < (m : Int)) = true := decide_eq_true (by omega)
      obtain ⟨b, off, hA, hb, x, hmem, hsk, c0, c1⟩ := mv_at HR.out k hlt
      subst hA
      have y0 := ho.cell c0 (by simp)
      have y1 := ho.cell c1 (by simp)
      obtain ⟨hxd, hxs⟩ := HOK.out x hmem
      rw [drop_cons hsk] at hfs
      have HF := Lib.hid (free_any p b1 b2 v1 B 1000 S1 O1 x.dst (wr.alloc (.cells #[.int .i64 x.dst, .int .i64 x.src] 33)) (h.alloc _) hao hxd (by omega) (by rw [World.size_alloc]; omega))
      have HFI := Lib.hid (free_inv (S1.length + 1) S1 O1 x.dst h.uniq)
      have HFS := Lib.hid hfs
      have HFR := Lib.hid hfr0
      have HAO := Lib.hid hao
      obtain ⟨xd, xs⟩ := x
      simp only at y0 y1 HF HFI
      clear c0 c1 hmem hsk ho h hao hfs hfr0
      go_wp2_with (go_at_call 18; refine HF.out.mono ?_; rintro x w4 ⟨v4, rfl, hm4, ht4⟩)
      go_roundw
      case measure => simp [intOf]; omega
      case rel =>
        obtain ⟨hoo, hff⟩ := ht4.fresh0 (HO.out.alloc _) HFR.out
        obtain ⟨hi1, hi2⟩ := HFI.out
        have hlen := ht4.1.size
        rw [World.size_alloc] at hlen
        refine ⟨k + 1, v4, _, _, by omega, by go_num, hm4, hoo, hff, fun x hx => HAO.out x (hi1 x hx), HFS.out, ?_, by omega⟩
        show (free (S1.length + 1) S1 O1 xd).1.length + (free (S1.length + 1) S1 O1 xd).2.length ≤ m
        omega
    · obtain rfl : k = m := by omega
      have e1 : decide ((k : Int) < (k : Int)) = false := decide_eq_false (by omega)
      rw [List.drop_eq_nil_of_le (by rw [HL.out]; exact Nat.le_refl _)] at hfs
      obtain rfl : (S1, O1) = R := hfs
      have HM1 := Lib.hid h
      have HF1 := Lib.hid hfr0
      have HA1 := Lib.hid hao
      clear h hfr0 hao ho HRR
      obtain ⟨b3, hb3⟩ : ∃ z, wr.heap.size = z := ⟨_, rfl⟩
      go_wp2_with fail
      go_loopw [32] (fun i wr => ∃ (j : Nat) (v1 : Value) (S1 G1 O1 : List Mv), j ≤ k ∧ i = .int .i64 j ∧ MW wr p b1 b2 v1 B 1000 S1 G1 O1 ∧ Only [] w wr ∧ Fresh0 w.heap.size p b1 b2 v1 ∧ AllOk S1 ∧ cycs sp (l.drop j) (S1, O1) = some r ∧ S1.length + O1.length ≤ k + j ∧ B ≤ wr.heap.size) (fun i _ => k - (intOf i).toNat)
      case atStart => exact ⟨0, v1, S1, [], O1, by omega, rfl, HM1.out, HO.out, HF1.out, HA1.out, HCY.out, by omega, hBr⟩
      case round =>
        clear HM1 HF1 HA1 HCY hsum hBr HO hk
        obtain ⟨j, v1, S1, G1, O1, hj, rfl, h, ho, hfr0, hao, hcs, hsum, hBr⟩ := hrel
        have HO := Lib.hid ho
        by_cases hlt : j < k
        · have e1 : decide ((j : Int) < (k : Int)) = true := decide_eq_true (by omega)
          obtain ⟨b, off, hA, hb, x, hmem, hsk, c0, c1⟩ := mv_at HR.out j hlt
          subst hA
          have y0 := ho.cell c0 (by simp)
          have y1 := ho.cell c1 (by simp)
          obtain ⟨hxd, hxs⟩ := HOK.out x hmem
          rw [drop_cons hsk, cycs] at hcs
          have hal := h.alloc (.cells #[.int .i64 x.dst, .int .i64 x.src] 33)
          have hoa := HO.out.alloc (.cells #[.int .i64 x.dst, .int .i64 x.src] 33)
          obtain ⟨⟨a0, a1, a2⟩, hpv, hp1, hp2⟩ := blk_step hal
          obtain ⟨n1, hn1, hvm1⟩ := hal.frm
          have hlk := VM.run_look hvm1.drew lawI Try.underlying38 (zeroI _) (keyI hxd)
          rw [fromF_ik] at hlk
          have hbx := Blk.new wr 33 #[.int .i64 x.dst, .int .i64 x.src]
          have z0 := hbx.drew.cell 0
          have z1 := hbx.cell 0
          have q0 : ((wr.alloc (.cells #[.int .i64 x.dst, .int .i64 x.src] 33)).drew).cell? ⟨p, 0, none⟩ = some (.map (some b1)) := hal.blk.drew.cell 0
          have HCS := Lib.hid hcs
          have HFR := Lib.hid hfr0
          have HAO := Lib.hid hao
          have HAL := Lib.hid hal
          have HOA := Lib.hid hoa
          have HXD := Lib.hid hxd
          have hgo : Only [] w (wr.alloc (.cells #[.int .i64 x.dst, .int .i64 x.src] 33)).drew := HOA.out.drew
          have HGO := Lib.hid hgo
          have hsz : B ≤ ((wr.alloc (.cells #[.int .i64 x.dst, .int .i64 x.src] 33)).drew).heap.size := by show B ≤ (wr.alloc _).heap.size; rw [World.size_alloc]; omega
          obtain ⟨xd, xs⟩ := x
          simp only at y0 y1 hlk z0 z1 q0 HCS HAL HOA HXD HGO hsz
          clear c0 c1 hmem hsk ho h hao hcs hfr0 hal hoa hxd hbx hvm1 hgo
          obtain ⟨fr, hfr⟩ : ∃ fr, fro S1 xd = fr := ⟨_, rfl⟩
          rw [hfr] at hlk HCS
          have HFX := Lib.hid hfr
          clear hfr
          cases fr with
          | none =>
            simp only [Option.map_none, Option.getD_none, Option.isSome_none] at hlk HCS
            have HC2 : Hid (cycs sp (l.drop (j + 1)) (S1, O1) = some r) := Lib.hid (by have := HCS.out; rwa [if_neg (by simp)] at this)
            clear HCS
            go_wp2_with fail
            go_region_held (fun w' => w'.cell? ⟨p, 0, none⟩ = some (.map (some b1)) ∧ w'.cell? ⟨wr.heap.size, 0, none⟩ = some (.int .i64 xd) ∧ (Instr.lookup 38 (.map (some b1)) (.int .i64 xd) true).run Try.prog w' = .ok (.tuple #[.int .i64 0, .bool false]) w') (exact ⟨q0, z0, hlk⟩) (fail)
            go_wp2_with fail
            go_roundw
            case measure => simp [intOf]; omega
            case rel => exact ⟨j + 1, v1, S1, G1, O1, by omega, by go_num, HAL.out.drew, HGO.out, HFR.out, HAO.out, HC2.out, by omega, hsz⟩
          | some s =>
            simp only [Option.map_some, Option.getD_some, Option.isSome_some] at hlk HCS
            obtain ⟨r1, hr1, hr2⟩ : ∃ r1, cyc xd sp (S1.length + 1) S1 (O1 ++ [⟨sp, xd⟩]) xd = some r1 ∧ cycs sp (l.drop (j + 1)) r1 = some r := by
              have := HCS.out
              rw [if_pos trivial] at this
              cases hq : cyc xd sp (S1.length + 1) S1 (O1 ++ [⟨sp, xd⟩]) xd with
              | none => rw [hq] at this; cases this
              | some r1 => rw [hq] at this; exact ⟨r1, rfl, this⟩
            have HR2 := Lib.hid hr2
            have HCI := Lib.hid (cyc_inv _ _ _ _ _ HAL.out.uniq hr1)
            have HC := Lib.hid (cycle_any p b1 b2 v1 B 1000 S1 G1 O1 xd sp _ r1 _ HAL.out.drew HAO.out HXD.out HSP.out (by omega) hsz (by omega) hr1)
            clear HCS hr1 hr2
            have w0 := HAL.out.blk.drew.cell 0
            go_wp2_with fail
            go_region_held (fun w' => w'.cell? ⟨p, 0, none⟩ = some (.map (some b1)) ∧ w'.cell? ⟨wr.heap.size, 0, none⟩ = some (.int .i64 xd) ∧ (Instr.lookup 38 (.map (some b1)) (.int .i64 xd) true).run Try.prog w' = .ok (.tuple #[.int .i64 s, .bool true]) w') (exact ⟨q0, z0, hlk⟩) (fail)
            go_wp2_with (go_at_call 22; refine HC.out.mono ?_; rintro x w4 ⟨v4, G4, rfl, hm4, ht4⟩)
            go_roundw
            case measure => simp [intOf]; omega
            case rel =>
              obtain ⟨hoo, hff⟩ := ht4.fresh0 HGO.out HFR.out
              obtain ⟨hi1, hi2⟩ := HCI.out
              have hlen := ht4.1.size
              simp at hi2
              exact ⟨j + 1, v4, r1.1, G4, r1.2, by omega, by go_num, hm4, hoo, hff, fun x hx => HAO.out x (hi1 x hx), HR2.out, by omega, by omega⟩
        · obtain rfl : j = k := by omega
          have e1 : decide ((j : Int) < (j : Int)) = false := decide_eq_false (by omega)
          rw [List.drop_eq_nil_of_le (by rw [HL.out]; exact Nat.le_refl _)] at hcs
          obtain rfl : (S1, O1) = r := by injection hcs
          have HM2 := Lib.hid h
          have HF2 := Lib.hid hfr0
          obtain ⟨⟨a0, a1, a2⟩, hpv, hp1, hp2⟩ := blk_step h
          clear h hfr0 hao ho hcs
          go_wp2_with fail
          refine bodyPost_ret (v := .tuple #[v1, .bool true]) (by simp [results, Try.results12, go_sem]) rfl ?_
          exact ⟨v1, rfl, HM2.out.out.mono HWB.out, HO.out⟩
/-- moves that may not be -/
theorem order_no (A : Option Addr) (m c : Nat) (l : List Mv) (sp : Int) (w : World) (hr : Recs w w.heap.size 2 A m (l.map Mv.row)) (hok : AllOk l) (hm : m ≤ 100)
    (hR : rightB l sp = false) :
    Calls Try.prog 12 #[.slice A m c, .int .i64 sp] w fun x w' => x = .returned (.tuple #[.slice none 0 0, .bool false]) ∧ Only [] w w' := by
  have hri := right_any A m c l sp w hr hok hm
  rw [hR] at hri
  have HRI := Lib.hid hri
  clear hri hr hok hR
  go_enter Try.func12, Try.ntmps12
  go_wp2_with (go_at_call 7; refine HRI.out.mono ?_; rintro x w2 ⟨rfl, ho2⟩)
  refine bodyPost_ret (v := .tuple #[.slice none 0 0, .bool false]) (by simp [results, Try.results12, go_sem]) rfl ?_
  exact ⟨rfl, ho2⟩
end Go.Proofs.Ythaifmfioabmkaa.Moves
