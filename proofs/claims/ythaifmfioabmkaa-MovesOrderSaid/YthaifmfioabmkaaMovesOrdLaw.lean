/- MovesOrder walks. -/
import Derived.Test.YthaifmfioabmkaaMovesLaws
import Derived.Deep.RegionHeld3
import Derived.BigRegion
namespace Go.Proofs.Ythaifmfioabmkaa.Moves
open Go.RowKit Go.Maps
set_option linter.unusedVariables false
set_option maxRecDepth 100000
theorem laid_take {o : List Mv} {k : Nat} {x : Mv} (h : o[k]? = some x) : laid (o.take (k + 1)) = laid (o.take k) ++ [⟨x.dst, last (laid (o.take k)) x.src⟩] := by rw [take_snoc h, laid_snoc]
theorem beg_take {l : List Mv} {k : Nat} {x : Mv} (h : l[k]? = some x) : (beg (l.take (k + 1))).length = (beg (l.take k)).length + (if x.dst = x.src then 0 else 1) := by
  rw [take_snoc h, beg_snoc]
  split <;> simp
theorem any_take {l : List Mv} {p : Mv → Bool} {k : Nat} {x : Mv} (h : l[k]? = some x) : (l.take (k + 1)).any p = ((l.take k).any p || p x) := by rw [take_snoc h, List.any_append]; simp
structure Done (l : List Mv) (sp : Int) (o : List Mv) : Prop where
  val : ∀ x ∈ l, last (laid o) x.dst = x.src
  out : ∀ x ∈ l, l.any (fun y => y.dst == x.src) = false → last (laid o) x.src = x.src
  to : ∀ y ∈ o, (y.dst == sp) = false → l.any (fun x => x.dst == y.dst) = true
  used : o.countP (isSp sp) = rcyc l
  len : o.length = (beg l).length + o.countP (isSp sp)
theorem done_of {l : List Mv} {sp : Int} (hR : rightB l sp = true) : ∃ o, cycs sp l (frees l (beg l, [])) = some ([], o) ∧ Done l sp o := by
  obtain ⟨o, h1, h2, h3, h4, h5, h6, _⟩ := order_sum hR
  have hu : Uniq l := by unfold rightB at hR; rw [Bool.and_eq_true] at hR; exact of_decide_eq_true hR.1
  refine ⟨o, h1, ?_, ?_, ?_, ?_, h6⟩
  · intro x hx
    rw [last_laid]
    exact h2 x hx
  · intro x hx hn
    rw [last_laid]
    refine h3 x hx ?_
    intro y hy e
    rw [List.any_eq_false] at hn
    exact hn y hy (by simp [e])
  · intro y hy hn
    rcases h4 y hy with e | ⟨x, hx, e⟩
    · simp [e] at hn
    · exact List.any_eq_true.2 ⟨x, hx, by simp [e]⟩
  · rw [h5]
    unfold rcyc
    rw [if_pos hu]
theorem Done.small {l o : List Mv} {sp : Int} (h : Done l sp o) : o.length ≤ 2 * l.length := by
  have h1 := h.len
  have h2 := h.used
  have h3 := beg_len l
  have h4 : rcyc l ≤ l.length := by
    unfold rcyc
    split
    · exact List.countP_le_length
    · omega
  omega
set_option maxHeartbeats 4000000 in
theorem order_law (A : Option Addr) (m c : Nat) (l : List Mv) (sp : Int) (w : World) (hr : Recs w w.heap.size 2 A m (l.map Mv.row)) (hok : AllOk l) (hsp : in64 sp) (hm : m ≤ maxLen) :
    Calls Try.prog 4 #[.slice A m c, .int .i64 sp] w fun x w' => x = .returned (.bool true) ∧ Only [] w w' := by
  have hl : l.length = m := by simpa using hr.1
  have HK := Lib.hid knows_any
  unfold maxLen at hm
  by_cases h60 : 60 < m
  · have e1 : decide ((60 : Int) < (m : Int)) = true := decide_eq_true (by omega)
    clear hr hl
    go_enter Try.func4, Try.ntmps4
    go_wp2_with (go_at_call 6; refine (HK.out _).mono ?_; rintro x wk ⟨rfl, hok⟩)
    go_ret
    exact ⟨rfl, hok⟩
  have e1 : decide ((60 : Int) < (m : Int)) = false := decide_eq_false (by omega)
  have HWN := Lib.hid (fun w2 (h : Only [] w w2) => own_any A m c l w2 ((hr.only h (by simp)).more h.size) (by omega))
  have HRR := Lib.hid (fun w2 (h : Only [] w w2) => rright_any A m c l sp w2 ((hr.only h (by simp)).more h.size) (by omega))
  have HRC := Lib.hid (fun w2 (h : Only [] w w2) => rcycles_any A m c l w2 ((hr.only h (by simp)).more h.size) (by omega))
  have HR := Lib.hid hr
  have HL := Lib.hid hl
  have HOK := Lib.hid hok
  have HSP := Lib.hid hsp
  obtain ⟨q, hq⟩ : ∃ q, rightB l sp = q := ⟨_, rfl⟩
  rw [hq] at HRR
  cases q
  · have HNO := Lib.hid (fun A2 c2 w2 (h : Recs w2 w2.heap.size 2 A2 m (l.map Mv.row)) => order_no A2 m c2 l sp w2 h hok (by omega) hq)
    clear hr hl hok hsp hq
    go_enter Try.func4, Try.ntmps4
    go_wp2_with (first
      | (go_at_call 6; refine (HK.out _).mono ?_; rintro x wk ⟨rfl, hok⟩)
      | (go_at_call 8; refine (HWN.out wk hok).mono ?_; rintro x w1 ⟨v1, rfl, hown1, ho1⟩; obtain ⟨A1, c1, rfl, _, _, hr1, _⟩ := hown1.shape (by decide); have ho1' := hok.trans ho1 (by simp))
      | (go_at_call 12; refine (HNO.out A1 c1 w1 hr1).mono ?_; rintro x w2 ⟨rfl, ho2⟩; have ho2' := ho1'.trans ho2 (by simp))
      | (go_at_call 9; refine (HRR.out w2 ho2').mono ?_; rintro x w3 ⟨rfl, ho3⟩))
    go_ret
    exact ⟨rfl, ho2'.trans ho3 (by simp)⟩
  · obtain ⟨o, hcy, hdone⟩ := done_of hq
    have HYO := Lib.hid (fun A2 c2 w2 (h : Recs w2 w2.heap.size 2 A2 m (l.map Mv.row)) => order_any A2 m c2 l sp ([], o) w2 h hok hsp (by omega) hq hcy)
    have HD := Lib.hid hdone
    have hos := hdone.small
    rw [hl] at hos
    clear hr hl hok hsp hq hcy hdone
    go_enter Try.func4, Try.ntmps4
    go_wp2_with (first
      | (go_at_call 6; refine (HK.out _).mono ?_; rintro x wk ⟨rfl, hok⟩)
      | (go_at_call 8; refine (HWN.out wk hok).mono ?_; rintro x w1 ⟨v1, rfl, hown1, ho1⟩; obtain ⟨A1, c1, rfl, _, _, hr1, _⟩ := hown1.shape (by decide); have ho1' := hok.trans ho1 (by simp))
      | (go_at_call 12; refine (HYO.out A1 c1 w1 hr1).mono ?_; rintro x w2 ⟨v2, rfl, hown2, ho2⟩; have hown4 : OwnR 33 2 w2 w1.heap.size v2 o.length (o.map Mv.row) := hown2; obtain ⟨A2, c2, rfl, _, _, hr2, _⟩ := hown4.shape (by decide); have ho2' := ho1'.trans ho2 (by simp))
      | (go_at_call 9; refine (HRR.out w2 ho2').mono ?_; rintro x w3 ⟨rfl, ho3⟩))
    have HR3 := Lib.hid ((hr2.only ho3 (by simp)).more ho3.size)
    have HO3 := Lib.hid (ho2'.trans ho3 (by simp))
    obtain ⟨n, hn⟩ : ∃ n, o.length = n := ⟨_, rfl⟩
    rw [hn] at HR3 hos ⊢
    have HN := Lib.hid hn
    clear ho1 ho1' ho2 ho2' ho3 hown1 hown2 hown4 hr1 hr2 hok HYO HRR HWN HK hn
    go_loopw [7, 8, 9] (fun mv uv i wr => ∃ (k : Nat), k ≤ n ∧ i = .int .i64 k ∧ uv = .int .i64 ((o.take k).countP (isSp sp) : Nat) ∧ OwnR 35 2 wr w3.heap.size mv k ((laid (o.take k)).map Mv.row) ∧ Only [] w3 wr) (fun _ _ i _ => n - (intOf i).toNat)
    case atStart => exact ⟨0, by omega, rfl, by simp, OwnR.nil_ _ _ _ _, Only.refl _ _⟩
    case round =>
      obtain ⟨k, hk, rfl, rfl, hown, ho⟩ := hrel
      have HO := Lib.hid ho
      have HOW := Lib.hid hown
      obtain ⟨A', cap', rfl, _, _, hrm, _⟩ := hown.shape (by decide)
      have HRM := Lib.hid hrm
      have hsz := ho.size
      have hcnt : (o.take k).countP (isSp sp) ≤ 120 := Nat.le_trans List.countP_le_length (by have := List.length_take_le k o; omega)
      clear hown hrm
      by_cases hlt : k < n
      · have e4 : decide ((k : Int) < (n : Int)) = true := decide_eq_true (by omega)
        obtain ⟨b, off, hA, hb, x, hmem, hsk, c0, c1⟩ := mv_at HR3.out k hlt
        subst hA
        have y0 := ho.cell c0 (by simp)
        have y1 := ho.cell c1 (by simp)
        have z0 := ho.drew.cell c0 (by simp)
        have z1 := ho.drew.cell c1 (by simp)
        have HLT := Lib.hid (laid_take hsk)
        have HCT := Lib.hid (count_take (p := isSp sp) hsk)
        have HAT := Lib.hid (at_any A' k cap' wr.heap.size (laid (o.take k)) x.src wr.drew HRM.out (by omega))
        obtain ⟨xd, xs⟩ := x
        simp only at y0 y1 z0 z1 HLT HAT
        clear ho hmem hsk c0 c1
        obtain ⟨lv, hlv⟩ : ∃ z, last (laid (o.take k)) xs = z := ⟨_, rfl⟩
        rw [hlv] at HAT HLT
        clear hlv
        by_cases h1 : xd = sp
        · subst h1
          have e5 : (xd == xd) = true := by simp
          have hct : (o.take (k + 1)).countP (isSp xd) = (o.take k).countP (isSp xd) + 1 := by rw [HCT.out, if_pos (by simp [isSp])]
          have HCU := Lib.hid hct
          clear hct
          go_wp2_with fail
          go_region_held3 (fun w' => w'.cell? ⟨b, off + k * 2, none⟩ = some (.int .i64 xd) ∧ w'.cell? ⟨b, off + k * 2 + 1, none⟩ = some (.int .i64 xs)) (first | exact ⟨z0, z1⟩ | exact ⟨u0, u1⟩ | go_keep)
            (first
              | (go_at_call 13; refine HAT.out.mono ?_; rintro x wa ⟨rfl, rfl⟩)
              | (refine step_append1 (w := wr.drew) rfl (.tmp 58) (.tmp 72) 22 rfl Try.underlying22 rmv_info rfl (by decide) rfl HOW.out.drew rfl rfl (row := [.int .i64 xd, .int .i64 lv]) rfl rfl (by intro u hu; simp at hu; rcases hu with rfl | rfl <;> rfl) (by omega) (by unfold maxLen; omega) (by show _ ≤ wr.heap.size + 1; omega) ?_; intro v' w5 hE; have u0 := hE.only.cell z0 (fun h => by have := (HOW.out.lt b h).1; omega); have u1 := hE.only.cell z1 (fun h => by have := (HOW.out.lt b h).1; omega)))
          go_wp2_with fail
          go_roundw
          case measure => simp [intOf]; omega
          case rel =>
            refine ⟨k + 1, by omega, by go_num, by rw [HCU.out]; rfl, ?_, HO.out.drew.trans hE.only (fun g hg => .inr (HOW.out.lt g hg).1)⟩
            rw [HLT.out, List.map_append]
            exact hE.own
        · have e5 : (xd == sp) = false := by simp [h1]
          have hct : (o.take (k + 1)).countP (isSp sp) = (o.take k).countP (isSp sp) := by rw [HCT.out, if_neg (by simp [isSp, h1])]; rfl
          have HCU := Lib.hid hct
          clear hct h1
          go_wp2_with fail
          go_region_held3 (fun w' => w'.cell? ⟨b, off + k * 2, none⟩ = some (.int .i64 xd) ∧ w'.cell? ⟨b, off + k * 2 + 1, none⟩ = some (.int .i64 xs)) (first | exact ⟨z0, z1⟩ | exact ⟨u0, u1⟩ | go_keep)
            (first
              | (go_at_call 13; refine HAT.out.mono ?_; rintro x wa ⟨rfl, rfl⟩)
              | (refine step_append1 (w := wr.drew) rfl (.tmp 58) (.tmp 72) 22 rfl Try.underlying22 rmv_info rfl (by decide) rfl HOW.out.drew rfl rfl (row := [.int .i64 xd, .int .i64 lv]) rfl rfl (by intro u hu; simp at hu; rcases hu with rfl | rfl <;> rfl) (by omega) (by unfold maxLen; omega) (by show _ ≤ wr.heap.size + 1; omega) ?_; intro v' w5 hE; have u0 := hE.only.cell z0 (fun h => by have := (HOW.out.lt b h).1; omega); have u1 := hE.only.cell z1 (fun h => by have := (HOW.out.lt b h).1; omega)))
          go_wp2_with fail
          go_roundw
          case measure => simp [intOf]; omega
          case rel =>
            refine ⟨k + 1, by omega, by go_num, by rw [HCU.out], ?_, HO.out.drew.trans hE.only (fun g hg => .inr (HOW.out.lt g hg).1)⟩
            rw [HLT.out, List.map_append]
            exact hE.own
      · obtain rfl : k = n := by omega
        have e4 : decide ((k : Int) < (k : Int)) = false := decide_eq_false (by omega)
        have hrm := HRM.out
        rw [← HN.out, List.take_length] at hrm
        rw [HN.out] at hrm
        have HU := Lib.hid HD.out.used
        have hus : rcyc l ≤ 120 := by have h1 := HD.out.len; have h2 := HU.out; have h3 := HN.out; omega
        have HR4 := Lib.hid (HR3.out.only ho (by simp))
        have HO4 := Lib.hid (HO3.out.trans ho (by simp))
        have HRM4 := Lib.hid hrm
        rw [← HN.out, List.take_length, HU.out]
        rw [HN.out]
        clear hrm ho HRM HOW hcnt
        go_wp2_with fail
        clear e4
        obtain ⟨w4, hw4⟩ : ∃ w4, wr = w4 := ⟨_, rfl⟩
        rw [hw4] at HRM4 HR4 HO4 ⊢
        clear hw4 HO
        go_loopw [10, 11] (fun rv i wr => ∃ (j : Nat), j ≤ m ∧ i = .int .i64 j ∧ rv = .int .i64 ((beg (l.take j)).length : Nat) ∧ Only [] w4 wr) (fun _ i _ => m - (intOf i).toNat)
        case atStart => exact ⟨0, by omega, rfl, by simp [beg], Only.refl _ _⟩
        case round =>
          obtain ⟨j, hj, rfl, rfl, ho⟩ := hrel
          have HO := Lib.hid ho
          have hbl : (beg (l.take j)).length ≤ 60 := Nat.le_trans (beg_len _) (by have := List.length_take_le j l; omega)
          by_cases hlt2 : j < m
          · have e4 : decide ((j : Int) < (m : Int)) = true := decide_eq_true (by omega)
            obtain ⟨b, off, hA, hb, x, hmem, hsk, c0, c1⟩ := mv_at HR.out j hlt2
            subst hA
            have HC0 := Lib.hid (HO4.out.cell c0 (by simp))
            have HC1 := Lib.hid (HO4.out.cell c1 (by simp))
            have HBT := Lib.hid (beg_take hsk)
            have hat := fun w2 (h : Only [] w4 w2) => at_any A' k cap' w4.heap.size (laid o) x.dst w2 (HRM4.out.only h (by simp)) (by omega)
            have hat2 := fun w2 (h : Only [] w4 w2) => at_any A' k cap' w4.heap.size (laid o) x.src w2 (HRM4.out.only h (by simp)) (by omega)
            rw [HD.out.val x hmem] at hat
            have HAT := Lib.hid hat
            have HAT2 := Lib.hid hat2
            have HX := Lib.hid (HD.out.out x hmem)
            obtain ⟨xd, xs⟩ := x
            simp only at HC0 HC1 HBT HAT HAT2 HX
            clear hmem hsk c0 c1 hat hat2
            have z0 := ho.drew.cell HC0.out (by simp)
            have z1 := ho.drew.cell HC1.out (by simp)
            have e7 : (xs != xs) = false := by simp
            have q0 := ho.drew.drew.cell HC0.out (by simp)
            have q1 := ho.drew.drew.cell HC1.out (by simp)
            have HA1 := Lib.hid (HAT.out wr.drew.drew ho.drew.drew)
            obtain ⟨L2, hL2⟩ : ∃ L2, (beg (l.take (j + 1))).length = L2 := ⟨_, rfl⟩
            have HL2 := Lib.hid hL2
            rw [hL2] at HBT
            clear hL2 ho
            have HEX := Lib.hid (show xd = xs ∨ xd ≠ xs from Decidable.em _)
            rcases HEX.out with hds | hds
            case' inl =>
              have e5 : (xd != xs) = false := by simp [hds]
              have hb0 : (beg (l.take j)).length = L2 := by rw [HBT.out, if_pos hds]; rfl
              rw [hb0]
              clear hb0 hds
              go_wp2_with fail
              go_region
              go_wp2_with fail
            case' inr =>
              have e5 : (xd != xs) = true := by simp [hds]
              have hb0 : (((beg (l.take j)).length : Nat) : Int) + 1 = (L2 : Int) := by rw [HBT.out, if_neg hds]; rfl
              clear hds
              go_wp2_with fail
              go_region
              go_wp2_with fail
              clear hb0
            all_goals
              clear e5
              go_region_held3 (fun w' => w'.cell? ⟨b, off + j * 2, none⟩ = some (.int .i64 xd) ∧ w'.cell? ⟨b, off + j * 2 + 1, none⟩ = some (.int .i64 xs)) (first | exact ⟨q0, q1⟩ | assumption) ((go_at_call 13; refine HA1.out.mono ?_; rintro x wa ⟨rfl, rfl⟩))
              go_wp2_with fail
              have HO5 := Lib.hid HO.out.drew.drew
              obtain ⟨w5, hw5⟩ : ∃ w5, wr.drew.drew = w5 := ⟨_, rfl⟩
              rw [hw5] at HO5 ⊢
              clear hw5 HO z0 z1 q0 q1 HA1
              go_loopw [12, 13] (fun bv i wr => ∃ (jj : Nat), jj ≤ m ∧ i = .int .i64 jj ∧ bv = .bool ((l.take jj).any (fun y => y.dst == xs)) ∧ Only [] w4 wr) (fun _ i _ => m - (intOf i).toNat)
              case atStart => exact ⟨0, by omega, rfl, by simp, HO5.out⟩
              case round =>
                clear HO5
                obtain ⟨jj, hjj, rfl, rfl, ho⟩ := hrel
                have HO := Lib.hid ho
                by_cases hlt3 : jj < m
                · have e5 : decide ((jj : Int) < (m : Int)) = true := decide_eq_true (by omega)
                  obtain ⟨b', off', hA, hb', y, hmy, hsy, d0, d1⟩ := mv_at HR.out jj hlt3
                  simp only [Option.some.injEq, Addr.mk.injEq, and_true] at hA
                  obtain ⟨rfl, rfl⟩ := hA
                  have g0 := (HO4.out.trans ho (by simp)).drew.cell d0 (by simp)
                  have g1 := ho.drew.cell HC1.out (by simp)
                  have HAN := Lib.hid (any_take (p := fun y => y.dst == xs) hsy)
                  obtain ⟨yd, ys⟩ := y
                  simp only at g0 HAN
                  clear hmy hsy d0 d1 ho
                  obtain ⟨b1, hb1⟩ : ∃ q, (l.take jj).any (fun y => y.dst == xs) = q := ⟨_, rfl⟩
                  obtain ⟨b2, hb2⟩ : ∃ q, (yd == xs) = q := ⟨_, rfl⟩
                  rw [hb1, hb2] at HAN
                  rw [hb1]
                  clear hb1
                  cases b1
                  · go_wp2_with fail
                    go_region
                    go_wp2_with fail
                    go_roundw
                    case measure => simp [intOf]; omega
                    case rel => exact ⟨jj + 1, by omega, by go_num, by rw [HAN.out]; rfl, HO.out.drew⟩
                  · go_wp2_with fail
                    go_region
                    go_wp2_with fail
                    go_roundw
                    case measure => simp [intOf]; omega
                    case rel => exact ⟨jj + 1, by omega, by go_num, by rw [HAN.out]; rfl, HO.out.drew⟩
                · obtain rfl : jj = m := by omega
                  have e5 : decide ((jj : Int) < (jj : Int)) = false := decide_eq_false (by omega)
                  rw [← HL.out, List.take_length]
                  rw [HL.out]
                  have g1 := ho.drew.cell HC1.out (by simp)
                  have HA2 := Lib.hid (HAT2.out wr.drew ho.drew)
                  obtain ⟨b1, hb1⟩ : ∃ q, l.any (fun y => y.dst == xs) = q := ⟨_, rfl⟩
                  rw [hb1] at HX ⊢
                  clear hb1 ho
                  cases b1
                  · have hlx := HX.out rfl
                    rw [hlx] at HA2
                    clear hlx
                    go_wp2_with fail
                    go_region_held3 (fun w' => w'.cell? ⟨b, off + j * 2 + 1, none⟩ = some (.int .i64 xs)) (exact g1) ((go_at_call 13; refine HA2.out.mono ?_; rintro x wa ⟨rfl, rfl⟩))
                    go_wp2_with fail
                    go_roundw
                    case measure => simp [intOf]; omega
                    case rel => exact ⟨j + 1, by omega, by go_num, by rw [HL2.out], HO.out.drew⟩
                  · go_wp2_with fail
                    go_region
                    go_wp2_with fail
                    go_roundw
                    case measure => simp [intOf]; omega
                    case rel => exact ⟨j + 1, by omega, by go_num, by rw [HL2.out], HO.out.drew⟩
          · obtain rfl : j = m := by omega
            have e4 : decide ((j : Int) < (j : Int)) = false := decide_eq_false (by omega)
            have hbt : (beg (l.take j)).length = (beg l).length := by rw [← HL.out, List.take_length]
            rw [hbt] at hbl
            rw [hbt]
            have HLN := Lib.hid (show k = (beg l).length + rcyc l by have h1 := HD.out.len; rw [HU.out, HN.out] at h1; exact h1)
            obtain ⟨rl, hrl⟩ : ∃ rl, (beg l).length = rl := ⟨_, rfl⟩
            obtain ⟨rc, hrc⟩ : ∃ rc, rcyc l = rc := ⟨_, rfl⟩
            have HRC5 := Lib.hid (fun w2 (h : Only [] w4 w2) => HRC.out w2 (HO4.out.trans h (by simp)))
            rw [hrc] at HRC5 HLN hus ⊢
            rw [hrl] at HLN hbl ⊢
            clear hrl hrc hbt HU HRC ho hlt2
            go_wp2_with fail
            clear e4
            go_loopw [14] (fun i wr => ∃ (q : Nat), q ≤ k ∧ i = .int .i64 q ∧ Only [] w4 wr) (fun i _ => k - (intOf i).toNat)
            case atStart => exact ⟨0, by omega, rfl, HO.out⟩
            case round =>
              clear HO
              obtain ⟨q, hq, rfl, ho⟩ := hrel
              have HO := Lib.hid ho
              by_cases hlt2 : q < k
              · have e4 : decide ((q : Int) < (k : Int)) = true := decide_eq_true (by omega)
                obtain ⟨b, off, hA, hb, x, hmem, hsk, c0, c1⟩ := mv_at HR4.out q hlt2
                subst hA
                have HC0 := Lib.hid c0
                have y0 := ho.cell c0 (by simp)
                have HTO := Lib.hid (HD.out.to x hmem)
                obtain ⟨xd, xs⟩ := x
                simp only at HC0 y0 HTO
                clear hmem hsk c0 c1 ho
                obtain ⟨b0, hb0⟩ : ∃ z, (xd == sp) = z := ⟨_, rfl⟩
                rw [hb0] at HTO
                go_wp2_with fail
                clear hb0 y0 e4
                go_loopw [15, 16] (fun bv i wr => ∃ (jj : Nat), jj ≤ j ∧ i = .int .i64 jj ∧ bv = .bool (b0 || (l.take jj).any (fun y => y.dst == xd)) ∧ Only [] w4 wr) (fun _ i _ => j - (intOf i).toNat)
                case atStart => exact ⟨0, by omega, rfl, by simp, HO.out⟩
                case round =>
                  clear HO
                  obtain ⟨jj, hjj, rfl, rfl, ho⟩ := hrel
                  have HO := Lib.hid ho
                  by_cases hlt3 : jj < j
                  · have e5 : decide ((jj : Int) < (j : Int)) = true := decide_eq_true (by omega)
                    obtain ⟨b', off', hA, hb', y, hmy, hsy, d0, d1⟩ := mv_at HR.out jj hlt3
                    subst hA
                    have g0 := (HO4.out.trans ho (by simp)).drew.cell d0 (by simp)
                    have g1 := ho.drew.cell HC0.out (by simp)
                    have HAN := Lib.hid (any_take (p := fun y => y.dst == xd) hsy)
                    obtain ⟨yd, ys⟩ := y
                    simp only at g0 HAN
                    clear hmy hsy d0 d1 ho
                    obtain ⟨b1, hb1⟩ : ∃ q, (l.take jj).any (fun y => y.dst == xd) = q := ⟨_, rfl⟩
                    obtain ⟨b2, hb2⟩ : ∃ q, (yd == xd) = q := ⟨_, rfl⟩
                    rw [hb1, hb2] at HAN
                    rw [hb1]
                    clear hb1
                    obtain ⟨b3, hb3⟩ : ∃ q, (b0 || b1) = q := ⟨_, rfl⟩
                    have HAN2 : Hid ((b0 || (l.take (jj + 1)).any (fun y => y.dst == xd)) = (b3 || b2)) := Lib.hid (by rw [HAN.out, ← Bool.or_assoc, hb3])
                    rw [hb3]
                    clear hb3
                    cases b3
                    · go_wp2_with fail
                      go_region
                      go_wp2_with fail
                      go_roundw
                      case measure => simp [intOf]; omega
                      case rel => exact ⟨jj + 1, by omega, by go_num, by rw [HAN2.out]; rfl, HO.out.drew⟩
                    · go_wp2_with fail
                      go_region
                      go_wp2_with fail
                      go_roundw
                      case measure => simp [intOf]; omega
                      case rel => exact ⟨jj + 1, by omega, by go_num, by rw [HAN2.out]; rfl, HO.out.drew⟩
                  · obtain rfl : jj = j := by omega
                    have e5 : decide ((jj : Int) < (jj : Int)) = false := decide_eq_false (by omega)
                    rw [← HL.out, List.take_length]
                    rw [HL.out]
                    have hall : (b0 || l.any (fun y => y.dst == xd)) = true := by
                      cases b0
                      · rw [HTO.out rfl]; rfl
                      · rfl
                    rw [hall]
                    clear hall ho
                    go_wp2_with fail
                    go_roundw
                    case measure => simp [intOf]; omega
                    case rel => exact ⟨q + 1, by omega, by go_num, HO.out⟩
              · obtain rfl : q = k := by omega
                have e4 : decide ((q : Int) < (q : Int)) = false := decide_eq_false (by omega)
                have e5 : ((rc : Int) == (rc : Int)) = true := by simp
                have e6 : ((q : Int) == (rl : Int) + (rc : Int)) = true := by have := HLN.out; simp; omega
                have HC5 := Lib.hid (HRC5.out wr ho)
                clear ho
                go_wp2_with (go_at_call 11; refine HC5.out.mono ?_; rintro x w6 ⟨rfl, ho6⟩)
                go_ret
                exact ⟨rfl, (HO4.out.trans HO.out (by simp)).trans ho6 (by simp)⟩
end Go.Proofs.Ythaifmfioabmkaa.Moves
