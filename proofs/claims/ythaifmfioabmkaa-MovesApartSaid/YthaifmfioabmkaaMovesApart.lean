/- MovesApart walks. -/
import Derived.Test.YthaifmfioabmkaaMovesLaws
import Derived.Test.YthaifmfioabmkaaMovesOpen
import Derived.Test.YthaifmfioabmkaaOpenOne
import Derived.Deep.RegionLaw
namespace Go.Proofs.Ythaifmfioabmkaa.Moves
open Go.RowKit Go.Maps
set_option linter.unusedVariables false
set_option maxRecDepth 100000
/-- each by itself -/
def apart (src : List Int) : List Mv := src.zipIdx.map fun x => ⟨1000 + (x.2 : Int), x.1⟩
theorem apart_len (src : List Int) : (apart src).length = src.length := by simp [apart]
theorem apart_take (src : List Int) (k : Nat) (z : Int) (h : src[k]? = some z) : apart (src.take (k + 1)) = apart (src.take k) ++ [⟨1000 + (k : Int), z⟩] := by
  obtain ⟨hk, rfl⟩ := List.getElem?_eq_some_iff.1 h
  unfold apart
  rw [List.take_succ_eq_append_getElem hk, List.zipIdx_append, List.map_append]
  simp [Nat.min_eq_left (Nat.le_of_lt hk)]
theorem apart_mem {src : List Int} {x : Mv} : x ∈ apart src ↔ ∃ k : Nat, src[k]? = some x.src ∧ x.dst = 1000 + (k : Int) := by
  unfold apart
  rw [List.mem_map]
  constructor
  · rintro ⟨⟨z, k⟩, h, rfl⟩
    exact ⟨k, List.mem_zipIdx_iff_getElem?.1 h, rfl⟩
  · rintro ⟨k, h, e⟩
    refine ⟨(x.src, k), List.mem_zipIdx_iff_getElem?.2 h, ?_⟩
    obtain ⟨d, s⟩ := x
    simp only at e ⊢
    rw [e]
theorem apart_uniq (src : List Int) : Uniq (apart src) := by
  unfold Uniq apart
  rw [List.map_map]
  have : (src.zipIdx.map ((fun x : Mv => x.dst) ∘ fun x : Int × Nat => (⟨1000 + (x.2 : Int), x.1⟩ : Mv))) = (List.range src.length).map (fun k : Nat => 1000 + (k : Int)) := by
    rw [show ((fun x : Mv => x.dst) ∘ fun x : Int × Nat => (⟨1000 + (x.2 : Int), x.1⟩ : Mv)) = (fun k : Nat => 1000 + (k : Int)) ∘ Prod.snd from rfl, ← List.map_map, List.zipIdx_map_snd, List.range_eq_range']
  rw [this]
  refine List.Pairwise.map _ (fun a b h => ?_) List.nodup_range
  intro e
  exact h (by omega)
def okS (sp z : Int) : Prop := z ≠ sp ∧ ¬ (1000 ≤ z ∧ z < 1100)
theorem apart_right {src : List Int} {sp : Int} (hsp : ¬ (1000 ≤ sp ∧ sp < 1100)) (hl : src.length ≤ 60) (h : ∀ z ∈ src, okS sp z) : rightB (apart src) sp = true := by
  unfold rightB
  rw [decide_eq_true (apart_uniq src), show (apart src).any (spa sp) = false from ?_]
  · rfl
  · rw [List.any_eq_false]
    intro x hx
    obtain ⟨k, hk, e⟩ := apart_mem.1 hx
    have hkl := (List.getElem?_eq_some_iff.1 hk).1
    have := h _ (List.mem_of_getElem? hk)
    unfold spa
    simp only [Bool.or_eq_true, beq_iff_eq, not_or]
    exact ⟨by omega, this.1⟩
theorem apart_order {src : List Int} {sp : Int} (hsp : ¬ (1000 ≤ sp ∧ sp < 1100)) (hl : src.length ≤ 60) (h : ∀ z ∈ src, okS sp z) : ∃ o, cycs sp (apart src) (frees (apart src) (beg (apart src), [])) = some ([], o) ∧ o.Perm (apart src) := by
  obtain ⟨o, h1, _, _, _, _, _, h7⟩ := order_sum (apart_right hsp hl h)
  refine ⟨o, h1, h7 ?_⟩
  intro x hx y hy e
  obtain ⟨k, hk, e1⟩ := apart_mem.1 hx
  obtain ⟨j, hj, e2⟩ := apart_mem.1 hy
  have := (h _ (List.mem_of_getElem? hk)).2
  have hjl := (List.getElem?_eq_some_iff.1 hj).1
  omega
theorem apart_ok {src : List Int} (hl : src.length ≤ 60) (h : ∀ z ∈ src, in64 z) : AllOk (apart src) := by
  intro x hx
  obtain ⟨k, hk, e1⟩ := apart_mem.1 hx
  have hkl := (List.getElem?_eq_some_iff.1 hk).1
  exact ⟨by rw [e1]; unfold in64; omega, h _ (List.mem_of_getElem? hk)⟩
def iv (z : Int) : Value := .int .i64 z
theorem int_at {w : World} {B m : Nat} {A : Option Addr} {l : List Int} (hr : Reads w B 1 A m (l.map iv)) (hl : l.length = m) (k : Nat) (hk : k < m) : ∃ b off, A = some ⟨b, off, none⟩ ∧ b < B ∧ ∃ z ∈ l, l[k]? = some z ∧ w.cell? ⟨b, off + k, none⟩ = some (.int .i64 z) := by
  obtain ⟨b, off, e, hb, hc⟩ := hr.at1 hk
  have hk2 : k < l.length := by omega
  refine ⟨b, off, e, hb, l[k], List.getElem_mem _, List.getElem?_eq_getElem _, ?_⟩
  rw [hc, List.getElem?_map, List.getElem?_eq_getElem hk2]
  rfl
set_option maxHeartbeats 2000000 in
theorem apart_law (A : Option Addr) (m c : Nat) (src : List Int) (sp : Int) (w : World) (hr : Reads w w.heap.size 1 A m (src.map iv)) (hl : src.length = m) (hok : ∀ z ∈ src, in64 z) (hsp : in64 sp) (hm : m ≤ maxLen) :
    Calls Try.prog 5 #[.slice A m c, .int .i64 sp] w fun x w' => x = .returned (.bool true) ∧ Only [] w w' := by
  have HK := Lib.hid knows_any
  unfold maxLen at hm
  by_cases h60 : 60 < m
  · have e1 : decide ((60 : Int) < (m : Int)) = true := decide_eq_true (by omega)
    clear hr hl
    go_enter Try.func5, Try.ntmps5
    go_wp2_with (go_at_call 6; refine (HK.out _).mono ?_; rintro x wk ⟨rfl, hok⟩)
    go_ret
    exact ⟨rfl, hok⟩
  have e1 : decide ((60 : Int) < (m : Int)) = false := decide_eq_false (by omega)
  by_cases hs : 1000 ≤ sp ∧ sp < 1100
  · have e2 : decide ((1000 : Int) ≤ sp) = true := decide_eq_true hs.1
    have e3 : decide (sp < (1100 : Int)) = true := decide_eq_true hs.2
    clear hr hl hs
    go_enter Try.func5, Try.ntmps5
    go_wp2_with (go_at_call 6; refine (HK.out _).mono ?_; rintro x wk ⟨rfl, hok⟩)
    go_ret
    exact ⟨rfl, hok⟩
  have HR := Lib.hid hr
  have HL := Lib.hid hl
  have HOK := Lib.hid hok
  have HSP := Lib.hid hsp
  have HS := Lib.hid hs
  obtain ⟨q1, hq1⟩ : ∃ q, decide ((1000 : Int) ≤ sp) = q := ⟨_, rfl⟩
  obtain ⟨q2, hq2⟩ : ∃ q, decide (sp < (1100 : Int)) = q := ⟨_, rfl⟩
  have hqq : (q1 && q2) = false := by
    rw [← hq1, ← hq2, ← Bool.decide_and]
    exact decide_eq_false hs
  clear hr hl hok hsp hs
  go_enter Try.func5, Try.ntmps5
  have HQ : q1 = false ∨ (q1 = true ∧ q2 = false) := by cases q1 <;> cases q2 <;> simp at hqq ⊢
  clear hqq
  rcases HQ with rfl | ⟨rfl, rfl⟩
  all_goals
    go_wp2_with (go_at_call 6; refine (HK.out _).mono ?_; rintro x wk ⟨rfl, hok⟩)
    go_loopw [5, 6] (fun vv i wr => ∃ (k : Nat), k ≤ m ∧ i = .int .i64 k ∧ OwnR 35 2 wr w.heap.size vv k ((apart (src.take k)).map Mv.row) ∧ Only [] w wr ∧ ∀ z ∈ src.take k, okS sp z) (fun _ i _ => m - (intOf i).toNat)
    case atStart => exact ⟨0, by omega, rfl, OwnR.nil_ _ _ _ _, hok, by simp⟩
    case round =>
      clear hok
      obtain ⟨k, hk, rfl, hown, ho, hz⟩ := hrel
      have HO := Lib.hid ho
      have HZ := Lib.hid hz
      have HOW := Lib.hid hown
      obtain ⟨A', cap', rfl, _⟩ := hown.shape (by decide)
      have hsz := ho.size
      clear hz hown
      by_cases hlt : k < m
      · have e4 : decide ((k : Int) < (m : Int)) = true := decide_eq_true (by omega)
        obtain ⟨b, off, hA, hb, z, hmem, hsk, c0⟩ := int_at HR.out HL.out k hlt
        subst hA
        have y0 := ho.cell c0 (by simp)
        have HSK := Lib.hid hsk
        clear hsk ho hmem c0
        by_cases h1 : z = sp
        · subst h1
          have e5 : (z == z) = true := by simp
          go_wp2_with fail
          go_ret
          exact ⟨rfl, HO.out⟩
        · have e5 : (z == sp) = false := by simp [h1]
          by_cases h2 : 1000 ≤ z ∧ z < 1100
          · have e6 : decide ((1000 : Int) ≤ z) = true := decide_eq_true h2.1
            have e7 : decide (z < (1100 : Int)) = true := decide_eq_true h2.2
            clear h1 h2
            go_wp2_with fail
            go_ret
            exact ⟨rfl, HO.out⟩
          · have HN : Hid (okS sp z) := Lib.hid ⟨h1, h2⟩
            obtain ⟨r1, hr1⟩ : ∃ q, decide ((1000 : Int) ≤ z) = q := ⟨_, rfl⟩
            obtain ⟨r2, hr2⟩ : ∃ q, decide (z < (1100 : Int)) = q := ⟨_, rfl⟩
            have hrr : (r1 && r2) = false := by
              rw [← hr1, ← hr2, ← Bool.decide_and]
              exact decide_eq_false h2
            have HR2 : r1 = false ∨ (r1 = true ∧ r2 = false) := by cases r1 <;> cases r2 <;> simp at hrr ⊢
            clear h1 h2 hrr
            rcases HR2 with rfl | ⟨rfl, rfl⟩
            all_goals
              go_wp2_with (at_builtin; refine wpList_append1 rfl (.tmp 53) (.tmp 61) 22 rfl Try.underlying22 rmv_info rfl (by decide) rfl HOW.out rfl rfl (row := [.int .i64 (1000 + (k : Int)), .int .i64 z]) rfl rfl (by intro u hu; simp at hu; rcases hu with rfl | rfl <;> rfl) (by omega) (by unfold maxLen; omega) (by omega) ?_; intro v' w5 hE)
              go_roundw
              case measure => simp [intOf]; omega
              case rel =>
                refine ⟨k + 1, by omega, by go_num, ?_, HO.out.trans hE.only (fun g hg => .inr (HOW.out.lt g hg).1), ?_⟩
                · rw [apart_take src k z HSK.out, List.map_append]
                  exact hE.own
                · obtain ⟨hk2, hz2⟩ := List.getElem?_eq_some_iff.1 HSK.out
                  rw [List.take_succ_eq_append_getElem hk2, hz2]
                  intro y hy
                  rcases List.mem_append.1 hy with h | h
                  · exact HZ.out y h
                  · rw [List.mem_singleton.1 h]; exact HN.out
      · obtain rfl : k = m := by omega
        have e4 : decide ((k : Int) < (k : Int)) = false := decide_eq_false (by omega)
        have hown := HOW.out
        have hz := HZ.out
        rw [← HL.out, List.take_length] at hown hz
        rw [HL.out] at hown
        obtain ⟨o, hcy, hperm⟩ := apart_order HS.out (by rw [HL.out]; omega) hz
        have HRB := Lib.hid (apart_right HS.out (by rw [HL.out]; omega) hz)
        have HAO := Lib.hid (apart_ok (by rw [HL.out]; omega) HOK.out)
        have HCY := Lib.hid hcy
        have HPM := Lib.hid hperm
        have hol : o.length = k := by rw [hperm.length_eq, apart_len, HL.out]
        obtain ⟨A2, cap2, hA2, _, _, hrr, _⟩ := hown.shape (by decide)
        injection hA2 with hA2 _ hA3
        subst hA2 hA3
        have HOL := Lib.hid hol
        have HWN := Lib.hid (own_any A' k cap' (apart src) wr hrr (by omega))
        clear hcy hperm hown hz hrr ho hol HZ HOW
        go_wp2_with (first
          | (go_at_call 8; refine HWN.out.mono ?_; rintro x w2 ⟨v2, rfl, hown2, ho2⟩; obtain ⟨A2, cap2, rfl, _, _, hr2, _⟩ := hown2.shape (by decide); have HOR := Lib.hid (order_any A2 k cap2 (apart src) sp ([], o) w2 hr2 HAO.out HSP.out (by omega) HRB.out HCY.out))
          | (go_at_call 12; refine HOR.out.mono ?_; rintro x w3 ⟨v3, rfl, hown3, ho3⟩; have hown4 : OwnR 33 2 w3 w2.heap.size v3 o.length (o.map Mv.row) := hown3; rw [HOL.out] at hown4; obtain ⟨A3, cap3, rfl, _, _, hr3, _⟩ := hown4.shape (by decide)))
        have HO3 := Lib.hid ((HO.out.trans ho2 (by simp)).trans ho3 (by simp))
        have HR3 := Lib.hid hr3
        clear hr2 hown2 hr3 hown3 hown4 ho2 ho3 HOR HWN HO HAO HRB HCY e4
        go_loopw [9] (fun i wr => ∃ (j : Nat), j ≤ k ∧ i = .int .i64 j ∧ Only [] w3 wr) (fun i _ => k - (intOf i).toNat)
        case atStart => exact ⟨0, by omega, rfl, Only.refl _ _⟩
        case round =>
          obtain ⟨j, hj, rfl, ho⟩ := hrel
          have HO := Lib.hid ho
          by_cases hlt : j < k
          · have e4 : decide ((j : Int) < (k : Int)) = true := decide_eq_true (by omega)
            obtain ⟨b, off, hA, hb, x, hmem, hsk, c0, c1⟩ := mv_at HR3.out j hlt
            subst hA
            obtain ⟨kk, hkk, hxd⟩ := apart_mem.1 (HPM.out.mem_iff.1 hmem)
            obtain ⟨hkl, _⟩ := List.getElem?_eq_some_iff.1 hkk
            rw [HL.out] at hkl
            obtain ⟨b', off', hA', hb', z, hmz, hsz, d0⟩ := int_at HR.out HL.out kk hkl
            subst hA'
            have hzx : z = x.src := by
              rw [hsz] at hkk
              injection hkk
            rw [hzx] at d0
            have y0 := ho.cell c0 (by simp)
            have y1 := ho.drew.cell c1 (by simp)
            have y2 := (HO3.out.trans ho (by simp)).drew.cell d0 (by simp)
            rw [hxd] at y0
            obtain ⟨xd, xs⟩ := x
            simp only at y0 y1 y2
            clear ho hmem c0 c1 d0 hsk hkk hsz hmz hzx hxd
            have e5 : decide ((kk : Int) < 0) = false := decide_eq_false (by omega)
            have e6 : decide ((k : Int) ≤ (kk : Int)) = false := decide_eq_false (by omega)
            have e6' : decide (k ≤ kk) = false := decide_eq_false (by omega)
            have e7 : (xs != xs) = false := by simp
            have e8 : (1000 + (kk : Int) - 1000) = (kk : Int) := by omega
            go_wp2_with fail
            go_region_held (fun w' => w'.cell? ⟨b, off + j * 2 + 1, none⟩ = some (.int .i64 xs) ∧ w'.cell? ⟨b', off' + kk, none⟩ = some (.int .i64 xs)) (exact ⟨y1, y2⟩) (fail)
            go_wp2_with fail
            go_roundw
            case measure => simp [intOf]; omega
            case rel => exact ⟨j + 1, by omega, by go_num, HO.out.drew⟩
          · obtain rfl : j = k := by omega
            have e4 : decide ((j : Int) < (j : Int)) = false := decide_eq_false (by omega)
            go_wp2_with fail
            go_ret
            exact ⟨rfl, HO3.out.trans HO.out (by simp)⟩
end Go.Proofs.Ythaifmfioabmkaa.Moves
