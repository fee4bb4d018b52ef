/- moves.begin and moves.sources walk. -/
import Derived.Test.YthaifmfioabmkaaMovesFree
import Derived.Deep.RegionHeld
namespace Go.Proofs.Ythaifmfioabmkaa.Moves
open Go.RowKit Go.Maps
set_option linter.unusedVariables false
set_option maxRecDepth 100000
/-- what is to be done -/
def beg (l : List Mv) : List Mv := l.filter (fun x => !(x.dst == x.src))
theorem beg_snoc (l : List Mv) (x : Mv) : beg (l ++ [x]) = if x.dst = x.src then beg l else beg l ++ [x] := by
  unfold beg
  rw [List.filter_append]
  by_cases h : x.dst = x.src <;> simp [h]
theorem mem_beg {l : List Mv} {x : Mv} : x ∈ beg l ↔ x ∈ l ∧ x.dst ≠ x.src := by unfold beg; simp
theorem Uniq.beg {l : List Mv} (h : Uniq l) : Uniq (beg l) := List.Nodup.sublist ((List.filter_sublist).map _) h
theorem beg_len (l : List Mv) : (beg l).length ≤ l.length := List.length_filter_le _ _
theorem mv_at {w : World} {B m : Nat} {A : Option Addr} {l : List Mv} (hr : Recs w B 2 A m (l.map Mv.row)) (k : Nat) (hk : k < m) : ∃ b off, A = some ⟨b, off, none⟩ ∧ b < B ∧ ∃ x ∈ l, l[k]? = some x ∧
    w.cell? ⟨b, off + k * 2, none⟩ = some (.int .i64 x.dst) ∧ w.cell? ⟨b, off + k * 2 + 1, none⟩ = some (.int .i64 x.src) := by
  have hl : l.length = m := by simpa using hr.1
  obtain ⟨b, off, e, hb, hc⟩ := hr.at_ mv0 hk
  have hg : l.getD k mv0 = l[k] := by rw [List.getD_eq_getElem?_getD, List.getElem?_eq_getElem (by omega)]; rfl
  refine ⟨b, off, e, hb, l[k], List.getElem_mem (by omega), List.getElem?_eq_getElem (by omega), ?_⟩
  rw [hg] at hc
  exact ⟨hc 0 (by omega), hc 1 (by omega)⟩
theorem take_snoc {α : Type} {l : List α} {k : Nat} {x : α} (h : l[k]? = some x) : l.take (k + 1) = l.take k ++ [x] := by
  obtain ⟨hk, rfl⟩ := List.getElem?_eq_some_iff.1 h
  exact List.take_succ_eq_append_getElem hk
theorem uniq_new {l : List Mv} (h : Uniq l) {k : Nat} {x : Mv} (hx : l[k]? = some x) : ∀ y ∈ l.take k, y.dst ≠ x.dst := by
  intro y hy he
  have h2 : Uniq (l.take k ++ [x]) := by rw [← take_snoc hx]; exact List.Nodup.sublist ((List.take_sublist _ _).map _) h
  unfold Uniq at h2
  rw [List.map_append, List.nodup_append] at h2
  exact h2.2.2 _ (List.mem_map.2 ⟨y, hy, rfl⟩) _ (by simp) he
theorem Uniq.take {l : List Mv} (h : Uniq l) (k : Nat) : Uniq (l.take k) := List.Nodup.sublist ((List.take_sublist _ _).map _) h
theorem MW.mono {w : World} {p b1 b2 base N N' : Nat} {v : Value} {S G O : List Mv} (h : MW w p b1 b2 v base N S G O) (hN : N ≤ N') : MW w p b1 b2 v base N' S G O := by
  obtain ⟨n1, a1, a2⟩ := h.frm
  obtain ⟨n2, f, c1, c2, c3⟩ := h.asked
  exact ⟨h.blk, ⟨n1, by omega, a2⟩, ⟨n2, f, by omega, c2, c3⟩, h.out, h.ne, h.uniq, by have := h.len; omega, by have := h.glen; omega⟩
theorem MW.only {w w' : World} {p b1 b2 base N : Nat} {v : Value} {S G O : List Mv} {L : List Nat} (h : MW w p b1 b2 v base N S G O) (ho : Only L w w') (hL : ∀ g ∈ mvBlocks p b1 b2 v, g ∉ L) : MW w' p b1 b2 v base N S G O := by
  obtain ⟨n1, a1, a2⟩ := h.frm
  obtain ⟨n2, f, c1, c2, c3⟩ := h.asked
  exact ⟨h.blk.only ho (hL p (by simp [mvBlocks])), ⟨n1, a1, a2.only ho (hL b1 (by simp [mvBlocks]))⟩, ⟨n2, f, c1, c2.only ho (hL b2 (by simp [mvBlocks])), c3⟩, h.out.only ho (fun g hg => hL g (by simp [mvBlocks, hg])), h.ne, h.uniq, h.len, h.glen⟩
theorem MW.alloc {w : World} {p b1 b2 base N : Nat} {v : Value} {S G O : List Mv} (h : MW w p b1 b2 v base N S G O) (o : Obj) : MW (w.alloc o) p b1 b2 v base N S G O := h.only ((Only.refl [] w).alloc o) (by simp)
set_option maxHeartbeats 1000000 in
theorem begin_any (A : Option Addr) (m c : Nat) (l : List Mv) (w : World) (hr : Recs w w.heap.size 2 A m (l.map Mv.row)) (hok : AllOk l) (hu : Uniq l) (hm : m ≤ 100) :
    Calls Try.prog 17 #[.slice A m c] w fun x w' => ∃ p b1 b2 v, x = .returned (.pointer (some ⟨p, 0, none⟩)) ∧ (∀ g ∈ mvBlocks p b1 b2 v, w.heap.size ≤ g) ∧ MW w' p b1 b2 v w.heap.size (2 * m) (beg l) [] [] ∧ Only [] w w' := by
  have hl : l.length = m := by simpa using hr.1
  have HL := Lib.hid hl
  have HR := Lib.hid hr
  have HOK := Lib.hid hok
  have HU := Lib.hid hu
  have hmm := @run_makeMap Try.prog
  have hsz2 : ((w.alloc (.map #[] 0)).alloc (.map #[] 0)).heap.size = w.heap.size + 1 + 1 := by rw [World.size_alloc, World.size_alloc]
  have hsz1 : (w.alloc (.map #[] 0)).heap.size = w.heap.size + 1 := World.size_alloc ..
  have hmw : MW (((w.alloc (.map #[] 0)).alloc (.map #[] 0)).alloc (.cells #[.map (some w.heap.size), .map (some (w.heap.size + 1)), .slice none 0 0] 47)) (w.heap.size + 1 + 1) w.heap.size (w.heap.size + 1) (.slice none 0 0) w.heap.size 0 [] [] [] := by
    have h1 := ((VM.made w Try.prog 3).alloc (.map #[] 0)).alloc (.cells #[.map (some w.heap.size), .map (some (w.heap.size + 1)), .slice none 0 0] 47)
    have h2 := (VM.made (w.alloc (.map #[] 0)) Try.prog 3).alloc (.cells #[.map (some w.heap.size), .map (some (w.heap.size + 1)), .slice none 0 0] 47)
    have h3 := Blk.new ((w.alloc (.map #[] 0)).alloc (.map #[] 0)) 47 #[.map (some w.heap.size), .map (some (w.heap.size + 1)), .slice none 0 0]
    rw [hsz2] at h3
    rw [hsz1] at h2
    exact ⟨h3, ⟨0, Nat.le_refl _, by rw [fromF_nil]; exact h1⟩, ⟨0, _, Nat.le_refl _, h2, AskF.nil_⟩, OwnR.nil_ _ _ _ _, by omega, List.nodup_nil, Nat.le_refl _, Nat.le_refl _⟩
  have ho0 : Only [] w (((w.alloc (.map #[] 0)).alloc (.map #[] 0)).alloc (.cells #[.map (some w.heap.size), .map (some (w.heap.size + 1)), .slice none 0 0] 47)) := (((Only.refl [] w).alloc _).alloc _).alloc _
  have HM0 := Lib.hid hmw
  have HO0 := Lib.hid ho0
  clear hr hok hu hl hsz1 hsz2 hmw ho0
  go_enter Try.func17, Try.ntmps17
  go_wp2_with fail
  obtain ⟨p, hp⟩ : ∃ p, w.heap.size + 1 + 1 = p := ⟨_, rfl⟩
  rw [hp] at HM0 ⊢
  obtain ⟨b2, hb2⟩ : ∃ b2, w.heap.size + 1 = b2 := ⟨_, rfl⟩
  rw [hb2] at HM0 HO0 ⊢
  obtain ⟨b1, hb1⟩ : ∃ b1, w.heap.size = b1 := ⟨_, rfl⟩
  rw [hb1] at HM0 HO0 ⊢
  have HP := Lib.hid hp
  have HB2 := Lib.hid hb2
  have HB1 := Lib.hid hb1
  clear hp hb2 hb1
  go_loopw [12] (fun i wr => ∃ k : Nat, k ≤ m ∧ i = .int .i64 k ∧ MW wr p b1 b2 (.slice none 0 0) b1 (2 * k) (beg (l.take k)) [] [] ∧ Only [] w wr) (fun i _ => m - (intOf i).toNat)
  case atStart => exact ⟨0, by omega, rfl, HM0.out, HO0.out⟩
  case round =>
    clear HM0 HO0
    obtain ⟨k, hk, rfl, h, ho⟩ := hrel
    have HO := Lib.hid ho
    by_cases hlt : k < m
    · have e1 : decide ((k : Int) < (m : Int)) = true := decide_eq_true (by omega)
      obtain ⟨b, off, hA, hb, x, hmem, hsk, c0, c1⟩ := mv_at HR.out k hlt
      subst hA
      have y0 := ho.cell c0 (by simp)
      have y1 := ho.cell c1 (by simp)
      have HTS := Lib.hid (take_snoc hsk)
      have HSN := Lib.hid (beg_snoc (l.take k) x)
      have HNEW := Lib.hid (uniq_new HU.out hsk)
      obtain ⟨hxd, hxs⟩ := HOK.out x hmem
      have HKD := Lib.hid (keyI hxd)
      have HKS := Lib.hid (keyI hxs)
      obtain ⟨xd, xs⟩ := x
      simp only at y0 y1 HKD HKS
      have H := Lib.hid (h.alloc (.cells #[.int .i64 xd, .int .i64 xs] 33))
      have hx1 : wr.heap.size ≠ b1 := by obtain ⟨_, _, hv⟩ := h.frm; exact (Nat.ne_of_lt hv.lt).symm
      have hx2 : wr.heap.size ≠ b2 := by obtain ⟨_, _, _, hv, _⟩ := h.asked; exact (Nat.ne_of_lt hv.lt).symm
      clear c0 c1 hmem hsk ho h
      by_cases hds : xd = xs
      · subst hds
        have e2 : (xd != xd) = false := by simp
        go_wp2_with fail
        go_roundw
        case rel =>
          refine ⟨k + 1, by omega, by go_num, ?_, HO.out.alloc _⟩
          rw [HTS.out, HSN.out, if_pos rfl]
          exact H.out.mono (N := 2 * k) (by omega)
        case measure => simp [intOf]; omega
      · have e2 : (xd != xs) = true := by simp [hds]
        obtain ⟨n1, hn1, hvm1⟩ := H.out.frm
        obtain ⟨n2, f, hn2, hvm2, haf⟩ := H.out.asked
        obtain ⟨⟨x0, x1, x2⟩, hpv, hp1, hp2⟩ := blk_step H.out
        have z0 : (wr.alloc (.cells #[.int .i64 xd, .int .i64 xs] 33)).cell? ⟨wr.heap.size, 0, none⟩ = some (.int .i64 xd) := (Blk.new wr _ _).cell 0
        have z1 : (wr.alloc (.cells #[.int .i64 xd, .int .i64 xs] 33)).cell? ⟨wr.heap.size, 1, none⟩ = some (.int .i64 xs) := (Blk.new wr _ _).cell 1
        have HV1 := Lib.hid hvm1
        have HV2 := Lib.hid hvm2
        have HAF := Lib.hid haf
        have hask := haf xs
        rw [List.append_nil] at hask
        have hsn1 : H.out.blk.cell 0 = H.out.blk.cell 0 := rfl
        clear hsn1
        obtain ⟨w2, hrun1, hv2, ho2⟩ := VM.run_put (P := Try.prog) 38 lawI Try.underlying38 hvm1.drew (by unfold maxLen; omega) (.int .i64 xs) HKD.out
        have hwrap : IntKind.i64.wrap ((ask (beg (l.take k)) xs : Int) + 1) = (ask (beg (l.take k)) xs : Int) + 1 := by
          have h1 := ask_le (beg (l.take k)) xs
          have h2 := beg_len (l.take k)
          have h3 : (l.take k).length ≤ k := List.length_take_le _ _
          simp [IntKind.wrap, IntKind.bits, IntKind.signed]
          omega
        have hB := (Blk.new wr 33 #[.int .i64 xd, .int .i64 xs]).drew
        have hBp := H.out.blk.drew
        have s0 := hB.cell 0
        have s1 := hB.cell 1
        have s2 := hBp.cell 0
        have hB2 := hB.only ho2 (by simpa using hx1)
        have hBp2 := hBp.only ho2 (by simpa using hp1)
        have t0 := hB2.cell 0
        have t1 := hB2.cell 1
        have t2 := hBp2.cell 0
        have t3 := hBp2.cell 1
        have hvm2' := (hvm2.drew).only ho2 (by simpa using fun h => H.out.ne h.symm)
        have hlk := VM.run_look1 hvm2'.drew lawI Try.underlying38 (zeroI w2.drew) HKS.out
        rw [hask] at hlk
        obtain ⟨w3, hrun2, hv3, ho3⟩ := VM.run_put (P := Try.prog) 38 lawI Try.underlying38 hvm2'.drew (by unfold maxLen; omega) (.int .i64 (IntKind.i64.wrap ((ask (beg (l.take k)) xs : Int) + 1))) HKS.out
        have hB3 := hB2.drew.only ho3 (by simpa using hx2)
        have hBp3 := hBp2.drew.only ho3 (by simpa using hp2)
        have t4 := hB3.cell 1
        have t5 := hBp3.cell 1
        have HW := Lib.hid hwrap
        clear hvm1 hvm2 haf hwrap
        go_wp2_with fail
        go_region_held (fun w' => w'.cell? ⟨p, 0, none⟩ = some (.map (some b1)) ∧ w'.cell? ⟨wr.heap.size, 0, none⟩ = some (.int .i64 xd) ∧ w'.cell? ⟨wr.heap.size, 1, none⟩ = some (.int .i64 xs)) (first | exact ⟨s2, s0, s1⟩ | exact ⟨t2, t0, t1⟩) (fail)
        go_wp2_with fail
        go_region_held (fun w' => w'.cell? ⟨p, 1, none⟩ = some (.map (some b2)) ∧ w'.cell? ⟨wr.heap.size, 1, none⟩ = some (.int .i64 xs)) (first | exact ⟨t3, t1⟩ | exact ⟨t5, t4⟩) (fail)
        go_wp2_with fail
        have hoA : Only [b1] wr w2 := (((Only.refl [b1] wr).alloc (.cells #[.int .i64 xd, .int .i64 xs] 33)).drew).trans ho2 (fun g hg => .inl hg)
        have hoB : Only [b2] w2 w3 := ((Only.refl [b2] w2).drew).trans ho3 (fun g hg => .inl hg)
        have hne := H.out.ne
        have hl1 := H.out.len
        have hgl := H.out.glen
        have hbl : (beg (l.take (k + 1))) = beg (l.take k) ++ [⟨xd, xs⟩] := by rw [HTS.out, HSN.out]; exact if_neg hds
        have hnewb : ∀ y ∈ beg (l.take k), y.dst ≠ xd := fun y hy => HNEW.out y (mem_beg.1 hy).1
        go_roundw
        case measure => simp [intOf]; omega
        case rel =>
          refine ⟨k + 1, by omega, by go_num, ⟨hBp3, ⟨n1 + 1, by omega, ?_⟩, ⟨n2 + 1, _, ?_, hv3, ?_⟩, OwnR.nil_ _ _ _ _, hne, ?_, ?_, ?_⟩, ?_⟩
          · rw [hbl, ← fromF_snoc (x := ⟨xd, xs⟩) hnewb]
            exact hv2.only hoB (by simpa using hne)
          · rw [hbl]; simp; omega
          · rw [hbl]
            have := HAF.out.snoc ⟨xd, xs⟩ (IntKind.i64.wrap ((ask (beg (l.take k)) xs : Int) + 1)) (by rw [HW.out, List.append_nil])
            rw [List.append_nil] at this ⊢
            exact this
          · exact (HU.out.take (k + 1)).beg
          · have := beg_len (l.take (k + 1)); have h3 : (l.take (k + 1)).length ≤ k + 1 := List.length_take_le _ _; simp; omega
          · have := beg_len (l.take (k + 1)); have h3 : (l.take (k + 1)).length ≤ k + 1 := List.length_take_le _ _; simp; omega
          · have hb1 := HB1.out
            have hb2 := HB2.out
            exact (HO.out.trans hoA (fun g hg => .inr (by simp at hg; omega))).trans hoB (fun g hg => .inr (by simp at hg; omega))
    · go_wp2_with fail
      go_ret
      have hkm : k = m := by omega
      subst hkm
      refine ⟨p, b1, b2, .slice none 0 0, rfl, ?_, ?_, HO.out⟩
      · rw [HB1.out]
        have h1 := HP.out
        have h2 := HB2.out
        have h3 := HB1.out
        intro g hg
        have hg2 : g = p ∨ g = b1 ∨ g = b2 := by simpa [mvBlocks, ownL, Value.ownBlock] using hg
        clear hg
        omega
      · rw [← HL.out, List.take_length] at h
        rw [HB1.out, ← HL.out]
        exact h
end Go.Proofs.Ythaifmfioabmkaa.Moves
