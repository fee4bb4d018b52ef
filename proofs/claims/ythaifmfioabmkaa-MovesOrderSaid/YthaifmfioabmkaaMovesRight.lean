/- moves.sources, IndexFunc, ContainsFunc and moves.Right walk. PRINTED by wip/gen_movesright.py. -/
import Derived.Test.YthaifmfioabmkaaMovesBegin
namespace Go.Proofs.Ythaifmfioabmkaa.Moves
open Go.RowKit Go.Maps
set_option linter.unusedVariables false
set_option maxRecDepth 100000
instance (l : List Mv) : Decidable (Uniq l) := by unfold Uniq; infer_instance
theorem uniq_take_snoc {l : List Mv} {k : Nat} {x : Mv} (hx : l[k]? = some x) (h : Uniq (l.take k)) (hf : fro (l.take k) x.dst = none) : Uniq (l.take (k + 1)) := by
  rw [take_snoc hx]
  unfold Uniq at *
  rw [List.map_append, List.nodup_append]
  refine ⟨h, by simp, ?_⟩
  intro a ha b hb
  obtain ⟨y, hy, rfl⟩ := List.mem_map.1 ha
  simp at hb
  subst hb
  exact fro_none hf y hy
theorem not_uniq {l : List Mv} {k : Nat} {x : Mv} {s : Int} (hx : l[k]? = some x) (hf : fro (l.take k) x.dst = some s) : ¬ Uniq l := fun h => uniq_new h hx _ (fro_mem hf) rfl
def srcOut (l : List Mv) (w : World) (x : Ending) (w' : World) : Prop := Only [] w w' ∧ if Uniq l then ∃ b, x = .returned (.tuple #[.map (some b), .bool true]) else x = .returned (.tuple #[.map none, .bool false])
set_option maxHeartbeats 1000000 in
theorem sources_any (A : Option Addr) (m c : Nat) (l : List Mv) (w : World) (hr : Recs w w.heap.size 2 A m (l.map Mv.row)) (hok : AllOk l) (hm : m ≤ 100) :
    Calls Try.prog 14 #[.slice A m c] w (srcOut l w) := by
  have hl : l.length = m := by simpa using hr.1
  have HL := Lib.hid hl
  have HR := Lib.hid hr
  have HOK := Lib.hid hok
  have hmm := @run_makeMap Try.prog
  have HM0 := Lib.hid (VM.made w Try.prog 3)
  have HO0 := Lib.hid ((Only.refl [] w).alloc (.map #[] 0))
  clear hr hok hl
  go_enter Try.func14, Try.ntmps14
  go_wp2_with fail
  go_loopw [12] (fun i wr => ∃ k : Nat, k ≤ m ∧ i = .int .i64 k ∧ Uniq (l.take k) ∧ VM Try.prog 3 wr w.heap.size k (fromF (l.take k)) ∧ Only [] w wr) (fun i _ => m - (intOf i).toNat)
  case atStart => exact ⟨0, by omega, rfl, by unfold Uniq; simp, by rw [List.take_zero, fromF_nil]; exact HM0.out, HO0.out⟩
  case round =>
    clear HM0 HO0
    obtain ⟨k, hk, rfl, hu, hvm, ho⟩ := hrel
    have HO := Lib.hid ho
    have HU := Lib.hid hu
    have HV := Lib.hid hvm
    clear hu
    by_cases hlt : k < m
    · have e1 : decide ((k : Int) < (m : Int)) = true := decide_eq_true (by omega)
      obtain ⟨b, off, hA, hb, x, hmem, hsk, c0, c1⟩ := mv_at HR.out k hlt
      subst hA
      have y0 := ho.cell c0 (by simp)
      have y1 := ho.cell c1 (by simp)
      have HTS := Lib.hid (take_snoc hsk)
      have HSK := Lib.hid hsk
      obtain ⟨hxd, hxs⟩ := HOK.out x hmem
      have HKD := Lib.hid (keyI hxd)
      have hlk := VM.run_look (hvm.alloc (.cells #[.int .i64 x.dst, .int .i64 x.src] 33)) lawI Try.underlying38 (zeroI _) (keyI hxd)
      rw [fromF_ik] at hlk
      have HUS := Lib.hid (fun h => uniq_take_snoc hsk HU.out h)
      have HNU := Lib.hid (fun s h => not_uniq (s := s) hsk h)
      have HSN := Lib.hid (fun h => fromF_snoc (x := x) (fro_none (l := l.take k) (p := x.dst) h))
      have HOA := Lib.hid (HO.out.alloc (.cells #[.int .i64 x.dst, .int .i64 x.src] 33))
      have HVA := Lib.hid (HV.out.alloc (.cells #[.int .i64 x.dst, .int .i64 x.src] 33))
      obtain ⟨xd, xs⟩ := x
      simp only at y0 y1 HKD hlk HUS HNU HSN HOA HVA
      clear c0 c1 hmem hsk ho hvm
      obtain ⟨fr, hfr⟩ : ∃ fr, fro (l.take k) xd = fr := ⟨_, rfl⟩
      rw [hfr] at hlk HUS HNU HSN
      clear hfr
      cases fr with
      | some s =>
        simp only [Option.map_some, Option.getD_some, Option.isSome_some] at hlk
        go_wp2_with fail
        refine bodyPost_ret (v := .tuple #[.map none, .bool false]) (by simp [results, Try.results14, go_sem]) rfl ?_
        refine ⟨HOA.out, ?_⟩
        rw [if_neg (HNU.out s rfl)]
      | none =>
        simp only [Option.map_none, Option.getD_none, Option.isSome_none] at hlk
        have hB := Blk.new wr 33 #[.int .i64 xd, .int .i64 xs]
        have z0 := hB.cell 0
        have z1 := hB.cell 1
        go_wp2_with (at_mapUpdate; refine wpList_put rfl (.tmp 24) (.tmp 26) (.tmp 28) 38 rfl 3 3 lawI Try.underlying38 rfl HVA.out (by unfold maxLen; omega) rfl rfl HKD.out ?_; intro w8 hv8 ho8; go_frame)
        go_roundw
        case rel =>
          refine ⟨k + 1, by omega, by go_num, HUS.out rfl, ?_, HOA.out.trans ho8 (by simp)⟩
          have := HSN.out rfl
          rw [HTS.out, ← this]
          exact hv8
        case measure => simp [intOf]; omega
    · obtain rfl : k = m := by omega
      have e1 : decide ((k : Int) < (k : Int)) = false := decide_eq_false (by omega)
      have hu := HU.out
      rw [← HL.out, List.take_length] at hu
      have HUU := Lib.hid hu
      clear hu hvm ho
      go_wp2_with fail
      refine bodyPost_ret (v := .tuple #[.map (some w.heap.size), .bool true]) (by simp [results, Try.results14, go_sem]) rfl ?_
      refine ⟨HO.out, ?_⟩
      rw [if_pos HUU.out]
      exact ⟨_, rfl⟩
/-- what IndexFunc answers -/
def idxZ (l : List Mv) (pr : Mv → Bool) (z : Int) : Prop := (z = -1 ∧ ∀ x ∈ l, pr x = false) ∨ ∃ k x, z = (k : Nat) ∧ l[k]? = some x ∧ pr x = true ∧ ∀ y ∈ l.take k, pr y = false
theorem index_right (A : Option Addr) (m c B g : Nat) (l : List Mv) (pr : Mv → Bool) (w : World) (hr : Recs w B 2 A m (l.map Mv.row)) (hm : m ≤ 1000) (hB : B ≤ w.heap.size)
    (hF : ∀ x ∈ l, ∀ w', Only [] w w' → Calls Try.prog 16 #[.agg #[.int .i64 x.dst, .int .i64 x.src], .pointer (some ⟨g, 0, none⟩)] w' fun e w'' => e = .returned (.bool (pr x)) ∧ Only [] w' w'') :
    Calls Try.prog 19 #[.slice A m c, .func (.func 16) #[] #[.pointer (some ⟨g, 0, none⟩)]] w fun x w' => ∃ z : Int, x = .returned (.int .i64 z) ∧ idxZ l pr z ∧ Only [] w w' := by
  have hl : l.length = m := by simpa using hr.1
  have HL := Lib.hid hl
  have HR := Lib.hid hr
  have HF := Lib.hid hF
  clear hr hF hl
  go_enter Try.func19, Try.ntmps19
  go_wp2_with fail
  go_loopw [8] (fun i wr => ∃ k : Nat, k ≤ m ∧ i = .int .i64 k ∧ Only [] w wr ∧ ∀ y ∈ l.take k, pr y = false) (fun i _ => m - (intOf i).toNat)
  case atStart => exact ⟨0, by omega, rfl, Only.refl _ _, by simp⟩
  case round =>
    obtain ⟨k, hk, rfl, ho, hno⟩ := hrel
    have HO := Lib.hid ho
    have HNO := Lib.hid hno
    clear hno
    by_cases hlt : k < m
    · have e1 : decide ((k : Int) < (m : Int)) = true := decide_eq_true (by omega)
      obtain ⟨b, off, hA, hb, x, hmem, hsk, c0, c1⟩ := mv_at HR.out k hlt
      subst hA
      have y0 := ho.cell c0 (by simp)
      have y1 := ho.cell c1 (by simp)
      have HTS := Lib.hid (take_snoc hsk)
      have HSK := Lib.hid hsk
      have HC := Lib.hid (HF.out x hmem wr ho)
      clear c0 c1 hmem hsk ho
      obtain ⟨q, hq⟩ : ∃ q, pr x = q := ⟨_, rfl⟩
      have HQ := Lib.hid hq
      rw [hq] at HC
      clear hq
      obtain ⟨xd, xs⟩ := x
      simp only at y0 y1 HC
      cases q
      · go_wp2_with (go_at_call 16; refine HC.out.mono ?_; rintro x w2 ⟨rfl, ho2⟩; have HO2 := Lib.hid (HO.out.trans ho2 (by simp)))
        go_roundw
        case rel =>
          refine ⟨k + 1, by omega, by go_num, HO2.out, ?_⟩
          rw [HTS.out]
          intro y hy
          rcases List.mem_append.1 hy with h | h
          · exact HNO.out y h
          · rw [List.mem_singleton.1 h]; exact HQ.out
        case measure => simp [intOf]; omega
      · go_wp2_with (go_at_call 16; refine HC.out.mono ?_; rintro x w2 ⟨rfl, ho2⟩; have HO2 := Lib.hid (HO.out.trans ho2 (by simp)))
        go_ret
        exact ⟨k, rfl, .inr ⟨k, ⟨xd, xs⟩, rfl, HSK.out, HQ.out, HNO.out⟩, HO2.out⟩
    · obtain rfl : k = m := by omega
      have e1 : decide ((k : Int) < (k : Int)) = false := decide_eq_false (by omega)
      have hno := HNO.out
      rw [← HL.out, List.take_length] at hno
      have HNN := Lib.hid hno
      clear hno
      go_wp2_with fail
      go_ret
      exact ⟨-1, rfl, .inl ⟨rfl, HNN.out⟩, HO.out⟩
def spa (sp : Int) (x : Mv) : Bool := x.dst == sp || x.src == sp
theorem right1_any (g : Nat) (d s sp : Int) (w : World) (hc : w.cell? ⟨g, 0, none⟩ = some (.int .i64 sp)) :
    Calls Try.prog 16 #[.agg #[.int .i64 d, .int .i64 s], .pointer (some ⟨g, 0, none⟩)] w fun e w' => e = .returned (.bool (d == sp || s == sp)) ∧ Only [] w w' := by
  have ho := (Only.refl [] w).alloc (.cells #[.int .i64 d, .int .i64 s] 33)
  have HO := Lib.hid ho
  have z := ho.cell hc (by simp)
  clear ho
  by_cases h1 : d = sp
  · subst h1
    have e1 : (d == d) = true := by simp
    go_enter Try.func16, Try.ntmps16
    go_wp2_with fail
    go_ret
    exact ⟨by simp, HO.out⟩
  · have e1 : (d == sp) = false := by simp [h1]
    clear h1
    rw [e1]
    obtain ⟨q, hq⟩ : ∃ q, (s == sp) = q := ⟨_, rfl⟩
    rw [hq]
    go_enter Try.func16, Try.ntmps16
    go_wp2_with fail
    go_ret
    exact ⟨by simp, HO.out⟩
theorem contains_right (A : Option Addr) (m c B g : Nat) (l : List Mv) (sp : Int) (w : World) (hr : Recs w B 2 A m (l.map Mv.row)) (hm : m ≤ 1000) (hB : B ≤ w.heap.size) (hc : w.cell? ⟨g, 0, none⟩ = some (.int .i64 sp)) :
    Calls Try.prog 15 #[.slice A m c, .func (.func 16) #[] #[.pointer (some ⟨g, 0, none⟩)]] w fun x w' => x = .returned (.bool (l.any (spa sp))) ∧ Only [] w w' := by
  have hi := index_right A m c B g l (spa sp) w hr hm hB (fun x hx w' ho => right1_any g x.dst x.src sp w' (ho.cell hc (by simp)))
  obtain ⟨q, hq⟩ : ∃ q, l.any (spa sp) = q := ⟨_, rfl⟩
  rw [hq]
  go_enter Try.func15, Try.ntmps15
  go_wp2_with fail
  refine hi.mono ?_
  rintro _ wx ⟨z, rfl, hz, ho⟩
  have hd : decide ((0 : Int) ≤ z) = q := by
    rw [← hq]
    rcases hz with ⟨rfl, hn⟩ | ⟨k, x, rfl, hx, hp, _⟩
    · rw [decide_eq_false (by decide), eq_comm, List.any_eq_false]
      intro x hx
      rw [hn x hx]
      simp
    · rw [decide_eq_true (by omega), eq_comm, List.any_eq_true]
      exact ⟨x, List.mem_of_getElem? hx, hp⟩
  clear hz hi hq
  go_wp2_with fail
  go_ret
  exact ⟨rfl, ho⟩
def rightB (l : List Mv) (sp : Int) : Bool := decide (Uniq l) && !(l.any (spa sp))
set_option maxHeartbeats 1000000 in
theorem right_any (A : Option Addr) (m c : Nat) (l : List Mv) (sp : Int) (w : World) (hr : Recs w w.heap.size 2 A m (l.map Mv.row)) (hok : AllOk l) (hm : m ≤ 100) :
    Calls Try.prog 7 #[.slice A m c, .int .i64 sp] w fun x w' => x = .returned (.bool (rightB l sp)) ∧ Only [] w w' := by
  have ho := (Only.refl [] w).alloc (.cells #[.int .i64 sp] 3)
  have hB := Blk.new w 3 #[.int .i64 sp]
  have hS := sources_any A m c l _ ((hr.only ho (by simp)).more (Nat.le_of_lt (by rw [World.size_alloc]; omega))) hok hm
  have HS := Lib.hid hS
  have HO := Lib.hid ho
  have HR := Lib.hid hr
  have hmf : ∀ fn first cap w, (Instr.makeFunc fn first cap).run Try.prog w = .ok (.func fn first cap) w := fun _ _ _ _ => rfl
  clear hS ho hr
  unfold rightB
  by_cases hu : Uniq l
  · rw [decide_eq_true hu]
    have HC := Lib.hid (fun w2 (h : Only [] (w.alloc (.cells #[.int .i64 sp] 3)) w2) => contains_right A m c w.heap.size w.heap.size l sp w2 ((HR.out.only HO.out (by simp)).only h (by simp)) (by omega) (Nat.le_trans HO.out.size h.size) (h.cell (hB.cell 0) (by simp)))
    have HU := Lib.hid hu
    clear hu hB
    go_enter Try.func7, Try.ntmps7
    go_wp2_with (first
      | (go_at_call 14; refine HS.out.mono ?_; rintro x w2 ⟨ho2, hx⟩; rw [if_pos HU.out] at hx; obtain ⟨b, rfl⟩ := hx)
      | (go_at_call 15; refine (HC.out w2 ho2).mono ?_; rintro x w3 ⟨rfl, ho3⟩))
    go_ret
    exact ⟨by simp, (HO.out.trans ho2 (by simp)).trans ho3 (by simp)⟩
  · rw [decide_eq_false hu]
    have HU := Lib.hid hu
    clear hu hB
    go_enter Try.func7, Try.ntmps7
    go_wp2_with (go_at_call 14; refine HS.out.mono ?_; rintro x w2 ⟨ho2, hx⟩; rw [if_neg HU.out] at hx; subst hx)
    go_ret
    exact ⟨by simp, HO.out.trans ho2 (by simp)⟩
end Go.Proofs.Ythaifmfioabmkaa.Moves
