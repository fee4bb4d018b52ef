/- Any entry as bytes, any bytes as an entry: CachePacks. PRINTED by wip/gen_cache14.py. -/
import Derived.Test.YthgfmoogagldmaaGreatCacheE
import Derived.Test.YthgfmoogagldmaaGreatJournalF
namespace Go.Proofs.YthgfmoogagldmaaGreat.Cache
open Go.RowKit Go.Maps Go.Shelf Journal Disk Codec
set_option linter.unusedVariables false
set_option maxRecDepth 100000
theorem str_back (s : ByteArray) : str s.data.toList = s := by
  apply ByteArray.ext
  simp [str]
theorem unp_pack (e o : ByteArray) (he : e.size ≤ 10000) : unp (packB e o) = some (e.data.toList, o.data.toList) := by
  have hb := back_num (e.size : Int) (e.data.toList ++ o.data.toList) (by omega) (by omega)
  have hl : (le (u64 (e.size : Int)) 8).length = 8 := le_len _ _
  have e1 : packB e o = le (u64 (e.size : Int)) 8 ++ (e.data.toList ++ o.data.toList) := by unfold packB; rw [List.append_assoc]
  have ht : (packB e o).take 8 = le (u64 (e.size : Int)) 8 := by rw [e1, List.take_left' hl]
  have hd : (packB e o).drop 8 = e.data.toList ++ o.data.toList := by rw [e1, List.drop_left' hl]
  have hn : s64 (vle ((packB e o).take 8)) = (e.size : Int) := by
    rw [ht]
    have := hb.1
    rwa [rget_app _ _ _ hl] at this
  have hlen : (packB e o).length = 8 + e.size + o.size := by rw [e1]; simp [hl]; omega
  unfold unp
  rw [if_neg (by rw [hn, hlen]; omega), hn, hd, Int.toNat_natCast, List.take_left' (data_len e), List.drop_left' (data_len e)]
theorem unpV_cases (u : Option (List UInt8 × List UInt8)) : ∃ (x y : ByteArray) (z : Bool), unpV u = .tuple #[.agg #[.string x, .string y], .bool z] := by
  match u with
  | none => exact ⟨_, _, _, rfl⟩
  | some (e, o) => exact ⟨_, _, _, rfl⟩
def big (e o : ByteArray) (n : Nat) : Prop := 1500 < e.size ∨ 1500 < o.size ∨ 1500 < n
set_option maxHeartbeats 1000000 in
theorem packs_big (e o : ByteArray) (A : Option Addr) (n c : Nat) (w : World) (h : big e o n) :
    Calls Tryz.prog 6 #[.agg #[.string e, .string o], .slice A n c] w fun x w' => x = .returned (.bool true) ∧ Only [] w w' := by
  unfold big at h
  have HK := Lib.hid knows7_any
  have hfin : ∀ w1, Only [] (w.alloc (.cells #[.string e, .string o] 68)) w1 → Only [] w w1 := fun w1 h1 => ((Only.refl [] w).alloc _).trans h1 (by simp)
  by_cases h1 : 1500 < e.size
  · have d1 : decide ((1500 : Int) < (e.size : Int)) = true := decide_eq_true (by omega)
    clear h h1
    go_enter Tryz.func6, Tryz.ntmps6
    go_wp2_with (go_at_call 36; refine (HK.out _).mono ?_; rintro x w1 ⟨rfl, ho1⟩)
    go_ret
    exact ⟨rfl, hfin _ ho1⟩
  · have d1 : decide ((1500 : Int) < (e.size : Int)) = false := decide_eq_false (by omega)
    by_cases h2 : 1500 < o.size
    · have d2 : decide ((1500 : Int) < (o.size : Int)) = true := decide_eq_true (by omega)
      clear h h1 h2
      go_enter Tryz.func6, Tryz.ntmps6
      go_wp2_with (go_at_call 36; refine (HK.out _).mono ?_; rintro x w1 ⟨rfl, ho1⟩)
      go_ret
      exact ⟨rfl, hfin _ ho1⟩
    · have d2 : decide ((1500 : Int) < (o.size : Int)) = false := decide_eq_false (by omega)
      have d3 : decide ((1500 : Int) < (n : Int)) = true := decide_eq_true (by omega)
      have d3' : decide (1500 < n) = true := decide_eq_true (by omega)
      clear h h1 h2
      go_enter Tryz.func6, Tryz.ntmps6
      go_wp2_with (go_at_call 36; refine (HK.out _).mono ?_; rintro x w1 ⟨rfl, ho1⟩)
      go_ret
      exact ⟨rfl, hfin _ ho1⟩
set_option maxHeartbeats 4000000 in
theorem packs_any (e o : ByteArray) (A : Option Addr) (n c : Nat) (l : List UInt8) (w : World) (hb : Bytes w w.heap.size A n l) (hnc : n ≤ c) (hcm : c ≤ maxLen) :
    Calls Tryz.prog 6 #[.agg #[.string e, .string o], .slice A n c] w fun x w' => x = .returned (.bool true) ∧ Only [] w w' := by
  by_cases h : big e o n
  · exact packs_big e o A n c w h
  · unfold big at h
    have HK := Lib.hid knows7_any
    have d1 : decide ((1500 : Int) < (e.size : Int)) = false := decide_eq_false (by omega)
    have d2 : decide ((1500 : Int) < (o.size : Int)) = false := decide_eq_false (by omega)
    have d3 : decide ((1500 : Int) < (n : Int)) = false := decide_eq_false (by omega)
    have d3' : decide (1500 < n) = false := decide_eq_false (by omega)
    have hU : ∀ w', Only [] w w' → Calls Tryz.prog 37 #[.slice A n c] w' fun x w2 => x = .returned (unpV (unp l)) ∧ Only [] w' w2 := fun w' ho => unpack7 A n c l w' ((hb.only ho (by simp)).more ho.size) (by omega) hnc hcm
    have hV : ∀ w', Only [] w w' → Calls Tryz.prog 38 #[.slice A n c] w' fun x w2 => x = .returned (unpV (unp l)) ∧ Only [] w' w2 := fun w' ho => runpack7 A n c l w' ((hb.only ho (by simp)).more ho.size) (by omega) hnc hcm
    have hP := fun w' => pack7 e o w' (by omega) (by omega)
    have hQ := fun w' => rpack7 e o w' (by omega) (by omega)
    have hpl : (packB e o).length = 8 + e.size + o.size := by unfold packB; simp [le_len]; omega
    have hX : ∀ w' A' n' c', Bytes w' w'.heap.size A' n' (packB e o) → n' ≤ c' → c' ≤ maxLen → Calls Tryz.prog 37 #[.slice A' n' c'] w' fun x w2 => x = .returned (.tuple #[.agg #[.string e, .string o], .bool true]) ∧ Only [] w' w2 := fun w' A' n' c' h1 h2 h3 => by
      have := unpack7 A' n' c' (packB e o) w' h1 (by rw [← h1.len, hpl]; omega) h2 h3
      rw [unp_pack _ _ (by omega)] at this
      have h4 : unpV (some (e.data.toList, o.data.toList)) = .tuple #[.agg #[.string e, .string o], .bool true] := by show Value.tuple #[.agg #[.string (str e.data.toList), .string (str o.data.toList)], .bool true] = _; rw [str_back, str_back]
      rw [h4] at this
      exact this
    obtain ⟨x, y, z, hu⟩ := unpV_cases (unp l)
    rw [hu] at hU hV
    have HU := Lib.hid hU
    have HV := Lib.hid hV
    have HP := Lib.hid hP
    have HQ := Lib.hid hQ
    have HX := Lib.hid hX
    clear h hu hb hnc hcm hU hV hP hQ hX hpl
    have hb0 : Blk (w.alloc (.cells #[.string e, .string o] 68)) w.heap.size 68 #[.string e, .string o] := Blk.new _ _ _
    have ho0 : Only [] w (w.alloc (.cells #[.string e, .string o] 68)) := (Only.refl _ _).alloc _
    go_enter Tryz.func6, Tryz.ntmps6
    go_wp2_with fail
    generalize w.alloc (.cells #[.string e, .string o] 68) = w0 at *
    refine (HU.out w0 ho0).mono ?_
    rintro _ w1 ⟨rfl, ho1⟩
    have hb1 := hb0.only ho1 (by simp)
    have ho01 := ho0.trans ho1 (by simp)
    go_wp2_with fail
    have hbx2 : Blk (w1.alloc (.cells #[.string x, .string y] 69)) w1.heap.size 69 #[.string x, .string y] := Blk.new _ _ _
    have hb2 := hb1.alloc (.cells #[.string x, .string y] 69)
    have ho2 := ho01.alloc (.cells #[.string x, .string y] 69)
    generalize w1.alloc (.cells #[.string x, .string y] 69) = w2 at *
    refine (HV.out w2 ho2).mono ?_
    rintro _ w3 ⟨rfl, ho3⟩
    have hb3 := hb2.only ho3 (by simp)
    have hbx3 := hbx2.only ho3 (by simp)
    have ho03 := ho2.trans ho3 (by simp)
    have hby4 : Blk (w3.alloc (.cells #[.string x, .string y] 68)) w3.heap.size 68 #[.string x, .string y] := Blk.new _ _ _
    have hb4 := hb3.alloc (.cells #[.string x, .string y] 68)
    have hbx4 := hbx3.alloc (.cells #[.string x, .string y] 68)
    have ho4 := ho03.alloc (.cells #[.string x, .string y] 68)
    have c40 := hb4.cell 0
    have c41 := hb4.cell 1
    clear hb0 hb1 hb2 hb3 hbx2 hbx3 ho0 ho1 ho01 ho2 ho3 ho03
    have HB4 := Lib.hid hb4
    have HX4 := Lib.hid hbx4
    have HY4 := Lib.hid hby4
    have HO4 := Lib.hid ho4
    clear hb4 hbx4 hby4 ho4
    go_wp2_with fail
    generalize w3.alloc (.cells #[.string x, .string y] 68) = w4 at *
    refine (HP.out w4).mono ?_
    rintro _ w5 ⟨v5, rfl, hown5, ho5⟩
    obtain ⟨A5, c5, rfl, hc5, hm5, hb5, _⟩ := hown5.shape
    have HO5 := Lib.hid (HO4.out.trans ho5 (by simp))
    have HB5 := Lib.hid (HB4.out.only ho5 (by simp))
    have HX5 := Lib.hid (HX4.out.only ho5 (by simp))
    have HY5 := Lib.hid (HY4.out.only ho5 (by simp))
    have HXX := Lib.hid (HX.out w5 A5 _ c5 hb5 hc5 hm5)
    clear hown5 ho5 hc5 hm5 hb5 c40 c41
    go_wp2_with fail
    refine HXX.out.mono ?_
    rintro _ w6 ⟨rfl, ho6⟩
    have HO6 := Lib.hid (HO5.out.trans ho6 (by simp))
    have HB6 := Lib.hid (HB5.out.only ho6 (by simp))
    have HX6 := Lib.hid (HX5.out.only ho6 (by simp))
    have HY6 := Lib.hid (HY5.out.only ho6 (by simp))
    clear ho6
    have hz7 : Blk (w6.alloc (.cells #[.string e, .string o] 69)) w6.heap.size 69 #[.string e, .string o] := Blk.new _ _ _
    have ho7 : Only [] w (w6.alloc (.cells #[.string e, .string o] 69)) := HO6.out.alloc _
    have hb7 := HB6.out.alloc (.cells #[.string e, .string o] 69)
    have hx7 := HX6.out.alloc (.cells #[.string e, .string o] 69)
    have hy7 := HY6.out.alloc (.cells #[.string e, .string o] 69)
    go_upto_region 6 with fail
    generalize w6.alloc (.cells #[.string e, .string o] 69) = w7 at *
    obtain ⟨eb, heb⟩ : ∃ eb, w.heap.size = eb := ⟨_, rfl⟩
    obtain ⟨xb, hxb⟩ : ∃ xb, w1.heap.size = xb := ⟨_, rfl⟩
    obtain ⟨yb, hyb⟩ : ∃ yb, w3.heap.size = yb := ⟨_, rfl⟩
    obtain ⟨zb, hzb⟩ : ∃ zb, w6.heap.size = zb := ⟨_, rfl⟩
    rw [heb] at hb7 ⊢
    rw [hxb] at hx7 ⊢
    rw [hyb] at hy7 ⊢
    rw [hzb] at hz7 ⊢
    clear heb hxb hyb hzb HB4 HB5 HB6 HX4 HX5 HX6 HY4 HY5 HY6 HXX HU HV
    have hS : w7.drew.cell? ⟨eb, 0, none⟩ = some (.string e) ∧ w7.drew.cell? ⟨eb, 1, none⟩ = some (.string o) ∧ w7.drew.cell? ⟨xb, 0, none⟩ = some (.string x) ∧ w7.drew.cell? ⟨xb, 1, none⟩ = some (.string y) ∧ w7.drew.cell? ⟨yb, 0, none⟩ = some (.string x) ∧ w7.drew.cell? ⟨yb, 1, none⟩ = some (.string y) ∧ w7.drew.cell? ⟨zb, 0, none⟩ = some (.string e) ∧ w7.drew.cell? ⟨zb, 1, none⟩ = some (.string o) := ⟨hb7.cell 0, hb7.cell 1, hx7.cell 0, hx7.cell 1, hy7.cell 0, hy7.cell 1, hz7.cell 0, hz7.cell 1⟩
    have HO7 := Lib.hid ho7
    clear hb7 hx7 hy7 hz7 ho7
    refine wp_region_hand (S := (fun Y => Y.cell? ⟨eb, 0, none⟩ = some (.string e) ∧ Y.cell? ⟨eb, 1, none⟩ = some (.string o) ∧ Y.cell? ⟨xb, 0, none⟩ = some (.string x) ∧ Y.cell? ⟨xb, 1, none⟩ = some (.string y) ∧ Y.cell? ⟨yb, 0, none⟩ = some (.string x) ∧ Y.cell? ⟨yb, 1, none⟩ = some (.string y) ∧ Y.cell? ⟨zb, 0, none⟩ = some (.string e) ∧ Y.cell? ⟨zb, 1, none⟩ = some (.string o))) (by kernel_rfl) ?_
    refine takeW (i := 0) rfl (by kernel_rfl) (by kernel_rfl) (by kernel_rfl) (fun _ _ _ h => h) rfl (by rfl) (v := .agg #[.string e, .string o]) (fun Y hY => by obtain ⟨y0, y1, y2, y3, y4, y5, y6, y7⟩ := hY; go_simp) hS ?_
    simp only [List.setIfInBounds_toArray, List.set_cons_zero, List.set_cons_succ]
    refine takeW (i := 3) rfl (by kernel_rfl) (by kernel_rfl) (by kernel_rfl) (fun _ _ _ h => h) rfl (by rfl) (v := .agg #[.string e, .string o]) (fun Y hY => by obtain ⟨y0, y1, y2, y3, y4, y5, y6, y7⟩ := hY; go_simp) hS ?_
    simp only [List.setIfInBounds_toArray, List.set_cons_zero, List.set_cons_succ]
    refine callW (i := 1) rfl (by kernel_rfl) rfl (by rfl) ?_ (HP.out _) ?_
    · go_simp
    rintro _ w8 ⟨v8, rfl, hown8, ho8⟩
    obtain ⟨A8, c8, rfl, _, _, hb8, _⟩ := hown8.shape
    have hS8 : w8.cell? ⟨eb, 0, none⟩ = some (.string e) ∧ w8.cell? ⟨eb, 1, none⟩ = some (.string o) ∧ w8.cell? ⟨xb, 0, none⟩ = some (.string x) ∧ w8.cell? ⟨xb, 1, none⟩ = some (.string y) ∧ w8.cell? ⟨yb, 0, none⟩ = some (.string x) ∧ w8.cell? ⟨yb, 1, none⟩ = some (.string y) ∧ w8.cell? ⟨zb, 0, none⟩ = some (.string e) ∧ w8.cell? ⟨zb, 1, none⟩ = some (.string o) := ⟨ho8.cell hS.1 (by simp), ho8.cell hS.2.1 (by simp), ho8.cell hS.2.2.1 (by simp), ho8.cell hS.2.2.2.1 (by simp), ho8.cell hS.2.2.2.2.1 (by simp), ho8.cell hS.2.2.2.2.2.1 (by simp), ho8.cell hS.2.2.2.2.2.2.1 (by simp), ho8.cell hS.2.2.2.2.2.2.2 (by simp)⟩
    have HO8 := Lib.hid (show Only [] w w8 from (HO7.out.drew).trans ho8 (by simp))
    have HB8 := Lib.hid hb8
    clear hown8 ho8 hb8 hS
    refine ⟨_, rfl, hS8, ?_⟩
    simp only [List.setIfInBounds_toArray, List.set_cons_zero, List.set_cons_succ]
    have hst0 := run_str HB8.out c8
    refine twoH (i := 2) (j := 4) rfl rfl (by kernel_rfl) rfl rfl ?_ ?_
    · refine val_if (v := .string (str (packB e o))) (w' := w8) rfl (by rfl) (by go_simp) ?_
      refine ⟨hS8, ?_⟩
      simp only [List.setIfInBounds_toArray, List.set_cons_zero, List.set_cons_succ]
      refine callW (i := 4) rfl (by kernel_rfl) rfl (by rfl) ?_ (HQ.out _) ?_
      · go_simp
      rintro _ w9 ⟨v9, rfl, hown9, ho9⟩
      obtain ⟨A9, c9, rfl, _, _, hb9, _⟩ := hown9.shape
      have hS9 : w9.cell? ⟨eb, 0, none⟩ = some (.string e) ∧ w9.cell? ⟨eb, 1, none⟩ = some (.string o) ∧ w9.cell? ⟨xb, 0, none⟩ = some (.string x) ∧ w9.cell? ⟨xb, 1, none⟩ = some (.string y) ∧ w9.cell? ⟨yb, 0, none⟩ = some (.string x) ∧ w9.cell? ⟨yb, 1, none⟩ = some (.string y) ∧ w9.cell? ⟨zb, 0, none⟩ = some (.string e) ∧ w9.cell? ⟨zb, 1, none⟩ = some (.string o) := ⟨ho9.cell hS8.1 (by simp), ho9.cell hS8.2.1 (by simp), ho9.cell hS8.2.2.1 (by simp), ho9.cell hS8.2.2.2.1 (by simp), ho9.cell hS8.2.2.2.2.1 (by simp), ho9.cell hS8.2.2.2.2.2.1 (by simp), ho9.cell hS8.2.2.2.2.2.2.1 (by simp), ho9.cell hS8.2.2.2.2.2.2.2 (by simp)⟩
      have HO9 := Lib.hid (HO8.out.trans ho9 (by simp))
      have hst1 := run_str (HB8.out.only ho9 (by simp)) c8
      have hst2 := run_str hb9 c9
      clear hown9 ho9 hb9 hS8
      refine ⟨_, rfl, hS9, ?_⟩
      simp only [List.setIfInBounds_toArray, List.set_cons_zero, List.set_cons_succ]
      refine oneW (i := 5) (v := .string (str (packB e o))) (w' := w9) rfl (by kernel_rfl) rfl (by rfl) (by go_simp) hS9 ?_
      simp only [List.setIfInBounds_toArray, List.set_cons_zero, List.set_cons_succ]
      clear hst1 hst2
      refine takeW (i := 6) rfl (by kernel_rfl) (by kernel_rfl) (by kernel_rfl) (fun _ _ _ h => h) rfl (by rfl) (v := .bool true) (fun Y hY => by obtain ⟨y0, y1, y2, y3, y4, y5, y6, y7⟩ := hY; go_simp) hS9 ?_
      simp only [List.setIfInBounds_toArray, List.set_cons_zero, List.set_cons_succ]
      refine takeW (i := 7) rfl (by kernel_rfl) (by kernel_rfl) (by kernel_rfl) (fun _ _ _ h => h) rfl (by rfl) (v := .bool true) (fun Y hY => by obtain ⟨y0, y1, y2, y3, y4, y5, y6, y7⟩ := hY; go_simp) hS9 ?_
      simp only [List.setIfInBounds_toArray, List.set_cons_zero, List.set_cons_succ]
      refine takeW (i := 8) rfl (by kernel_rfl) (by kernel_rfl) (by kernel_rfl) (fun _ _ _ h => h) rfl (by rfl) (v := .agg #[.string x, .string y]) (fun Y hY => by obtain ⟨y0, y1, y2, y3, y4, y5, y6, y7⟩ := hY; go_simp) hS9 ?_
      simp only [List.setIfInBounds_toArray, List.set_cons_zero, List.set_cons_succ]
      refine takeW (i := 9) rfl (by kernel_rfl) (by kernel_rfl) (by kernel_rfl) (fun _ _ _ h => h) rfl (by rfl) (v := .agg #[.string x, .string y]) (fun Y hY => by obtain ⟨y0, y1, y2, y3, y4, y5, y6, y7⟩ := hY; go_simp) hS9 ?_
      simp only [List.setIfInBounds_toArray, List.set_cons_zero, List.set_cons_succ]
      refine takeW (i := 10) rfl (by kernel_rfl) (by kernel_rfl) (by kernel_rfl) (fun _ _ _ h => h) rfl (by rfl) (v := .bool true) (fun Y hY => by obtain ⟨y0, y1, y2, y3, y4, y5, y6, y7⟩ := hY; go_simp) hS9 ?_
      simp only [List.setIfInBounds_toArray, List.set_cons_zero, List.set_cons_succ]
      refine takeW (i := 11) rfl (by kernel_rfl) (by kernel_rfl) (by kernel_rfl) (fun _ _ _ h => h) rfl (by rfl) (v := .bool true) (fun Y hY => by obtain ⟨y0, y1, y2, y3, y4, y5, y6, y7⟩ := hY; go_simp) hS9 ?_
      simp only [List.setIfInBounds_toArray, List.set_cons_zero, List.set_cons_succ]
      refine takeW (i := 12) rfl (by kernel_rfl) (by kernel_rfl) (by kernel_rfl) (fun _ _ _ h => h) rfl (by rfl) (v := .bool true) (fun Y hY => by obtain ⟨y0, y1, y2, y3, y4, y5, y6, y7⟩ := hY; go_simp) hS9 ?_
      simp only [List.setIfInBounds_toArray, List.set_cons_zero, List.set_cons_succ]
      refine takeW (i := 13) rfl (by kernel_rfl) (by kernel_rfl) (by kernel_rfl) (fun _ _ _ h => h) rfl (by rfl) (v := .bool z) (fun Y hY => by obtain ⟨y0, y1, y2, y3, y4, y5, y6, y7⟩ := hY; go_simp) hS9 ?_
      simp only [List.setIfInBounds_toArray, List.set_cons_zero, List.set_cons_succ]
      refine takeW (i := 14) rfl (by kernel_rfl) (by kernel_rfl) (by kernel_rfl) (fun _ _ _ h => h) rfl (by rfl) (v := .bool z) (fun Y hY => by obtain ⟨y0, y1, y2, y3, y4, y5, y6, y7⟩ := hY; go_simp) hS9 ?_
      simp only [List.setIfInBounds_toArray, List.set_cons_zero, List.set_cons_succ]
      refine takeW (i := 15) rfl (by kernel_rfl) (by kernel_rfl) (by kernel_rfl) (fun _ _ _ h => h) rfl (by rfl) (v := .bool true) (fun Y hY => by obtain ⟨y0, y1, y2, y3, y4, y5, y6, y7⟩ := hY; go_simp) hS9 ?_
      simp only [List.setIfInBounds_toArray, List.set_cons_zero, List.set_cons_succ]
      refine takeW (i := 16) rfl (by kernel_rfl) (by kernel_rfl) (by kernel_rfl) (fun _ _ _ h => h) rfl (by rfl) (v := .bool true) (fun Y hY => by obtain ⟨y0, y1, y2, y3, y4, y5, y6, y7⟩ := hY; go_simp) hS9 ?_
      simp only [List.setIfInBounds_toArray, List.set_cons_zero, List.set_cons_succ]
      refine takeW (i := 17) rfl (by kernel_rfl) (by kernel_rfl) (by kernel_rfl) (fun _ _ _ h => h) rfl (by rfl) (v := .bool true) (fun Y hY => by obtain ⟨y0, y1, y2, y3, y4, y5, y6, y7⟩ := hY; go_simp) hS9 ?_
      simp only [List.setIfInBounds_toArray, List.set_cons_zero, List.set_cons_succ]
      refine takeW (i := 18) rfl (by kernel_rfl) (by kernel_rfl) (by kernel_rfl) (fun _ _ _ h => h) rfl (by rfl) (v := .bool true) (fun Y hY => by obtain ⟨y0, y1, y2, y3, y4, y5, y6, y7⟩ := hY; go_simp) hS9 ?_
      simp only [List.setIfInBounds_toArray, List.set_cons_zero, List.set_cons_succ]
      refine takeW (i := 19) rfl (by kernel_rfl) (by kernel_rfl) (by kernel_rfl) (fun _ _ _ h => h) rfl (by rfl) (v := .bool true) (fun Y hY => by obtain ⟨y0, y1, y2, y3, y4, y5, y6, y7⟩ := hY; go_simp) hS9 ?_
      simp only [List.setIfInBounds_toArray, List.set_cons_zero, List.set_cons_succ]
      refine takeW (i := 20) rfl (by kernel_rfl) (by kernel_rfl) (by kernel_rfl) (fun _ _ _ h => h) rfl (by rfl) (v := .bool true) (fun Y hY => by obtain ⟨y0, y1, y2, y3, y4, y5, y6, y7⟩ := hY; go_simp) hS9 ?_
      simp only [List.setIfInBounds_toArray, List.set_cons_zero, List.set_cons_succ]
      refine takeW (i := 21) rfl (by kernel_rfl) (by kernel_rfl) (by kernel_rfl) (fun _ _ _ h => h) rfl (by rfl) (v := .agg #[.string e, .string o]) (fun Y hY => by obtain ⟨y0, y1, y2, y3, y4, y5, y6, y7⟩ := hY; go_simp) hS9 ?_
      simp only [List.setIfInBounds_toArray, List.set_cons_zero, List.set_cons_succ]
      refine takeW (i := 22) rfl (by kernel_rfl) (by kernel_rfl) (by kernel_rfl) (fun _ _ _ h => h) rfl (by rfl) (v := .agg #[.string e, .string o]) (fun Y hY => by obtain ⟨y0, y1, y2, y3, y4, y5, y6, y7⟩ := hY; go_simp) hS9 ?_
      simp only [List.setIfInBounds_toArray, List.set_cons_zero, List.set_cons_succ]
      refine takeW (i := 23) rfl (by kernel_rfl) (by kernel_rfl) (by kernel_rfl) (fun _ _ _ h => h) rfl (by rfl) (v := .bool true) (fun Y hY => by obtain ⟨y0, y1, y2, y3, y4, y5, y6, y7⟩ := hY; go_simp) hS9 ?_
      simp only [List.setIfInBounds_toArray, List.set_cons_zero, List.set_cons_succ]
      refine takeW (i := 24) rfl (by kernel_rfl) (by kernel_rfl) (by kernel_rfl) (fun _ _ _ h => h) rfl (by rfl) (v := .bool true) (fun Y hY => by obtain ⟨y0, y1, y2, y3, y4, y5, y6, y7⟩ := hY; go_simp) hS9 ?_
      simp only [List.setIfInBounds_toArray, List.set_cons_zero, List.set_cons_succ]
      refine takeW (i := 25) rfl (by kernel_rfl) (by kernel_rfl) (by kernel_rfl) (fun _ _ _ h => h) rfl (by rfl) (v := .bool true) (fun Y hY => by obtain ⟨y0, y1, y2, y3, y4, y5, y6, y7⟩ := hY; go_simp) hS9 ?_
      simp only [List.setIfInBounds_toArray, List.set_cons_zero, List.set_cons_succ]
      refine callW (i := 26) rfl (by kernel_rfl) rfl (by rfl) ?_ (HK.out _) ?_
      · go_simp
      rintro _ wa ⟨rfl, hoa⟩
      have hSa : wa.cell? ⟨eb, 0, none⟩ = some (.string e) ∧ wa.cell? ⟨eb, 1, none⟩ = some (.string o) ∧ wa.cell? ⟨xb, 0, none⟩ = some (.string x) ∧ wa.cell? ⟨xb, 1, none⟩ = some (.string y) ∧ wa.cell? ⟨yb, 0, none⟩ = some (.string x) ∧ wa.cell? ⟨yb, 1, none⟩ = some (.string y) ∧ wa.cell? ⟨zb, 0, none⟩ = some (.string e) ∧ wa.cell? ⟨zb, 1, none⟩ = some (.string o) := ⟨hoa.cell hS9.1 (by simp), hoa.cell hS9.2.1 (by simp), hoa.cell hS9.2.2.1 (by simp), hoa.cell hS9.2.2.2.1 (by simp), hoa.cell hS9.2.2.2.2.1 (by simp), hoa.cell hS9.2.2.2.2.2.1 (by simp), hoa.cell hS9.2.2.2.2.2.2.1 (by simp), hoa.cell hS9.2.2.2.2.2.2.2 (by simp)⟩
      have HOA := Lib.hid (HO9.out.trans hoa (by simp))
      clear hoa hS9
      refine ⟨_, rfl, hSa, ?_⟩
      simp only [List.setIfInBounds_toArray, List.set_cons_zero, List.set_cons_succ]
      refine takeW (i := 27) rfl (by kernel_rfl) (by kernel_rfl) (by kernel_rfl) (fun _ _ _ h => h) rfl (by rfl) (v := .bool true) (fun Y hY => by obtain ⟨y0, y1, y2, y3, y4, y5, y6, y7⟩ := hY; go_simp) hSa ?_
      simp only [List.setIfInBounds_toArray, List.set_cons_zero, List.set_cons_succ]
      refine takeW (i := 28) rfl (by kernel_rfl) (by kernel_rfl) (by kernel_rfl) (fun _ _ _ h => h) rfl (by rfl) (v := .bool true) (fun Y hY => by obtain ⟨y0, y1, y2, y3, y4, y5, y6, y7⟩ := hY; go_simp) hSa ?_
      simp only [List.setIfInBounds_toArray, List.set_cons_zero, List.set_cons_succ]
      refine wpAnyH_done (by kernel_rfl) ?_ _
      clear hSa
      go_wp2_with fail
      go_ret
      exact ⟨rfl, HOA.out⟩
    · refine call_if rfl (by rfl) ?_ (HQ.out _) ?_
      · go_simp
      rintro _ w9 ⟨v9, rfl, hown9, ho9⟩
      obtain ⟨A9, c9, rfl, _, _, hb9, _⟩ := hown9.shape
      have hS9 : w9.cell? ⟨eb, 0, none⟩ = some (.string e) ∧ w9.cell? ⟨eb, 1, none⟩ = some (.string o) ∧ w9.cell? ⟨xb, 0, none⟩ = some (.string x) ∧ w9.cell? ⟨xb, 1, none⟩ = some (.string y) ∧ w9.cell? ⟨yb, 0, none⟩ = some (.string x) ∧ w9.cell? ⟨yb, 1, none⟩ = some (.string y) ∧ w9.cell? ⟨zb, 0, none⟩ = some (.string e) ∧ w9.cell? ⟨zb, 1, none⟩ = some (.string o) := ⟨ho9.cell hS8.1 (by simp), ho9.cell hS8.2.1 (by simp), ho9.cell hS8.2.2.1 (by simp), ho9.cell hS8.2.2.2.1 (by simp), ho9.cell hS8.2.2.2.2.1 (by simp), ho9.cell hS8.2.2.2.2.2.1 (by simp), ho9.cell hS8.2.2.2.2.2.2.1 (by simp), ho9.cell hS8.2.2.2.2.2.2.2 (by simp)⟩
      have HO9 := Lib.hid (HO8.out.trans ho9 (by simp))
      have hst1 := run_str (HB8.out.only ho9 (by simp)) c8
      have hst2 := run_str hb9 c9
      clear hown9 ho9 hb9 hS8
      refine ⟨_, rfl, hS9, ?_⟩
      simp only [List.setIfInBounds_toArray, List.set_cons_zero, List.set_cons_succ]
      refine twoW (i := 2) (j := 5) (vi := .string (str (packB e o))) (vj := .string (str (packB e o))) (wi := w9) (wj := w9) rfl rfl (by kernel_rfl) rfl rfl (by rfl) (by rfl) (by go_simp) (by go_simp) hS9 hS9 ?_ ?_
      · simp only [List.setIfInBounds_toArray, List.set_cons_zero, List.set_cons_succ]
        refine oneW (i := 5) (v := .string (str (packB e o))) (w' := w9) rfl (by kernel_rfl) rfl (by rfl) (by go_simp) hS9 ?_
        simp only [List.setIfInBounds_toArray, List.set_cons_zero, List.set_cons_succ]
        clear hst1 hst2
        refine takeW (i := 6) rfl (by kernel_rfl) (by kernel_rfl) (by kernel_rfl) (fun _ _ _ h => h) rfl (by rfl) (v := .bool true) (fun Y hY => by obtain ⟨y0, y1, y2, y3, y4, y5, y6, y7⟩ := hY; go_simp) hS9 ?_
        simp only [List.setIfInBounds_toArray, List.set_cons_zero, List.set_cons_succ]
        refine takeW (i := 7) rfl (by kernel_rfl) (by kernel_rfl) (by kernel_rfl) (fun _ _ _ h => h) rfl (by rfl) (v := .bool true) (fun Y hY => by obtain ⟨y0, y1, y2, y3, y4, y5, y6, y7⟩ := hY; go_simp) hS9 ?_
        simp only [List.setIfInBounds_toArray, List.set_cons_zero, List.set_cons_succ]
        refine takeW (i := 8) rfl (by kernel_rfl) (by kernel_rfl) (by kernel_rfl) (fun _ _ _ h => h) rfl (by rfl) (v := .agg #[.string x, .string y]) (fun Y hY => by obtain ⟨y0, y1, y2, y3, y4, y5, y6, y7⟩ := hY; go_simp) hS9 ?_
        simp only [List.setIfInBounds_toArray, List.set_cons_zero, List.set_cons_succ]
        refine takeW (i := 9) rfl (by kernel_rfl) (by kernel_rfl) (by kernel_rfl) (fun _ _ _ h => h) rfl (by rfl) (v := .agg #[.string x, .string y]) (fun Y hY => by obtain ⟨y0, y1, y2, y3, y4, y5, y6, y7⟩ := hY; go_simp) hS9 ?_
        simp only [List.setIfInBounds_toArray, List.set_cons_zero, List.set_cons_succ]
        refine takeW (i := 10) rfl (by kernel_rfl) (by kernel_rfl) (by kernel_rfl) (fun _ _ _ h => h) rfl (by rfl) (v := .bool true) (fun Y hY => by obtain ⟨y0, y1, y2, y3, y4, y5, y6, y7⟩ := hY; go_simp) hS9 ?_
        simp only [List.setIfInBounds_toArray, List.set_cons_zero, List.set_cons_succ]
        refine takeW (i := 11) rfl (by kernel_rfl) (by kernel_rfl) (by kernel_rfl) (fun _ _ _ h => h) rfl (by rfl) (v := .bool true) (fun Y hY => by obtain ⟨y0, y1, y2, y3, y4, y5, y6, y7⟩ := hY; go_simp) hS9 ?_
        simp only [List.setIfInBounds_toArray, List.set_cons_zero, List.set_cons_succ]
        refine takeW (i := 12) rfl (by kernel_rfl) (by kernel_rfl) (by kernel_rfl) (fun _ _ _ h => h) rfl (by rfl) (v := .bool true) (fun Y hY => by obtain ⟨y0, y1, y2, y3, y4, y5, y6, y7⟩ := hY; go_simp) hS9 ?_
        simp only [List.setIfInBounds_toArray, List.set_cons_zero, List.set_cons_succ]
        refine takeW (i := 13) rfl (by kernel_rfl) (by kernel_rfl) (by kernel_rfl) (fun _ _ _ h => h) rfl (by rfl) (v := .bool z) (fun Y hY => by obtain ⟨y0, y1, y2, y3, y4, y5, y6, y7⟩ := hY; go_simp) hS9 ?_
        simp only [List.setIfInBounds_toArray, List.set_cons_zero, List.set_cons_succ]
        refine takeW (i := 14) rfl (by kernel_rfl) (by kernel_rfl) (by kernel_rfl) (fun _ _ _ h => h) rfl (by rfl) (v := .bool z) (fun Y hY => by obtain ⟨y0, y1, y2, y3, y4, y5, y6, y7⟩ := hY; go_simp) hS9 ?_
        simp only [List.setIfInBounds_toArray, List.set_cons_zero, List.set_cons_succ]
        refine takeW (i := 15) rfl (by kernel_rfl) (by kernel_rfl) (by kernel_rfl) (fun _ _ _ h => h) rfl (by rfl) (v := .bool true) (fun Y hY => by obtain ⟨y0, y1, y2, y3, y4, y5, y6, y7⟩ := hY; go_simp) hS9 ?_
        simp only [List.setIfInBounds_toArray, List.set_cons_zero, List.set_cons_succ]
        refine takeW (i := 16) rfl (by kernel_rfl) (by kernel_rfl) (by kernel_rfl) (fun _ _ _ h => h) rfl (by rfl) (v := .bool true) (fun Y hY => by obtain ⟨y0, y1, y2, y3, y4, y5, y6, y7⟩ := hY; go_simp) hS9 ?_
        simp only [List.setIfInBounds_toArray, List.set_cons_zero, List.set_cons_succ]
        refine takeW (i := 17) rfl (by kernel_rfl) (by kernel_rfl) (by kernel_rfl) (fun _ _ _ h => h) rfl (by rfl) (v := .bool true) (fun Y hY => by obtain ⟨y0, y1, y2, y3, y4, y5, y6, y7⟩ := hY; go_simp) hS9 ?_
        simp only [List.setIfInBounds_toArray, List.set_cons_zero, List.set_cons_succ]
        refine takeW (i := 18) rfl (by kernel_rfl) (by kernel_rfl) (by kernel_rfl) (fun _ _ _ h => h) rfl (by rfl) (v := .bool true) (fun Y hY => by obtain ⟨y0, y1, y2, y3, y4, y5, y6, y7⟩ := hY; go_simp) hS9 ?_
        simp only [List.setIfInBounds_toArray, List.set_cons_zero, List.set_cons_succ]
        refine takeW (i := 19) rfl (by kernel_rfl) (by kernel_rfl) (by kernel_rfl) (fun _ _ _ h => h) rfl (by rfl) (v := .bool true) (fun Y hY => by obtain ⟨y0, y1, y2, y3, y4, y5, y6, y7⟩ := hY; go_simp) hS9 ?_
        simp only [List.setIfInBounds_toArray, List.set_cons_zero, List.set_cons_succ]
        refine takeW (i := 20) rfl (by kernel_rfl) (by kernel_rfl) (by kernel_rfl) (fun _ _ _ h => h) rfl (by rfl) (v := .bool true) (fun Y hY => by obtain ⟨y0, y1, y2, y3, y4, y5, y6, y7⟩ := hY; go_simp) hS9 ?_
        simp only [List.setIfInBounds_toArray, List.set_cons_zero, List.set_cons_succ]
        refine takeW (i := 21) rfl (by kernel_rfl) (by kernel_rfl) (by kernel_rfl) (fun _ _ _ h => h) rfl (by rfl) (v := .agg #[.string e, .string o]) (fun Y hY => by obtain ⟨y0, y1, y2, y3, y4, y5, y6, y7⟩ := hY; go_simp) hS9 ?_
        simp only [List.setIfInBounds_toArray, List.set_cons_zero, List.set_cons_succ]
        refine takeW (i := 22) rfl (by kernel_rfl) (by kernel_rfl) (by kernel_rfl) (fun _ _ _ h => h) rfl (by rfl) (v := .agg #[.string e, .string o]) (fun Y hY => by obtain ⟨y0, y1, y2, y3, y4, y5, y6, y7⟩ := hY; go_simp) hS9 ?_
        simp only [List.setIfInBounds_toArray, List.set_cons_zero, List.set_cons_succ]
        refine takeW (i := 23) rfl (by kernel_rfl) (by kernel_rfl) (by kernel_rfl) (fun _ _ _ h => h) rfl (by rfl) (v := .bool true) (fun Y hY => by obtain ⟨y0, y1, y2, y3, y4, y5, y6, y7⟩ := hY; go_simp) hS9 ?_
        simp only [List.setIfInBounds_toArray, List.set_cons_zero, List.set_cons_succ]
        refine takeW (i := 24) rfl (by kernel_rfl) (by kernel_rfl) (by kernel_rfl) (fun _ _ _ h => h) rfl (by rfl) (v := .bool true) (fun Y hY => by obtain ⟨y0, y1, y2, y3, y4, y5, y6, y7⟩ := hY; go_simp) hS9 ?_
        simp only [List.setIfInBounds_toArray, List.set_cons_zero, List.set_cons_succ]
        refine takeW (i := 25) rfl (by kernel_rfl) (by kernel_rfl) (by kernel_rfl) (fun _ _ _ h => h) rfl (by rfl) (v := .bool true) (fun Y hY => by obtain ⟨y0, y1, y2, y3, y4, y5, y6, y7⟩ := hY; go_simp) hS9 ?_
        simp only [List.setIfInBounds_toArray, List.set_cons_zero, List.set_cons_succ]
        refine callW (i := 26) rfl (by kernel_rfl) rfl (by rfl) ?_ (HK.out _) ?_
        · go_simp
        rintro _ wa ⟨rfl, hoa⟩
        have hSa : wa.cell? ⟨eb, 0, none⟩ = some (.string e) ∧ wa.cell? ⟨eb, 1, none⟩ = some (.string o) ∧ wa.cell? ⟨xb, 0, none⟩ = some (.string x) ∧ wa.cell? ⟨xb, 1, none⟩ = some (.string y) ∧ wa.cell? ⟨yb, 0, none⟩ = some (.string x) ∧ wa.cell? ⟨yb, 1, none⟩ = some (.string y) ∧ wa.cell? ⟨zb, 0, none⟩ = some (.string e) ∧ wa.cell? ⟨zb, 1, none⟩ = some (.string o) := ⟨hoa.cell hS9.1 (by simp), hoa.cell hS9.2.1 (by simp), hoa.cell hS9.2.2.1 (by simp), hoa.cell hS9.2.2.2.1 (by simp), hoa.cell hS9.2.2.2.2.1 (by simp), hoa.cell hS9.2.2.2.2.2.1 (by simp), hoa.cell hS9.2.2.2.2.2.2.1 (by simp), hoa.cell hS9.2.2.2.2.2.2.2 (by simp)⟩
        have HOA := Lib.hid (HO9.out.trans hoa (by simp))
        clear hoa hS9
        refine ⟨_, rfl, hSa, ?_⟩
        simp only [List.setIfInBounds_toArray, List.set_cons_zero, List.set_cons_succ]
        refine takeW (i := 27) rfl (by kernel_rfl) (by kernel_rfl) (by kernel_rfl) (fun _ _ _ h => h) rfl (by rfl) (v := .bool true) (fun Y hY => by obtain ⟨y0, y1, y2, y3, y4, y5, y6, y7⟩ := hY; go_simp) hSa ?_
        simp only [List.setIfInBounds_toArray, List.set_cons_zero, List.set_cons_succ]
        refine takeW (i := 28) rfl (by kernel_rfl) (by kernel_rfl) (by kernel_rfl) (fun _ _ _ h => h) rfl (by rfl) (v := .bool true) (fun Y hY => by obtain ⟨y0, y1, y2, y3, y4, y5, y6, y7⟩ := hY; go_simp) hSa ?_
        simp only [List.setIfInBounds_toArray, List.set_cons_zero, List.set_cons_succ]
        refine wpAnyH_done (by kernel_rfl) ?_ _
        clear hSa
        go_wp2_with fail
        go_ret
        exact ⟨rfl, HOA.out⟩
      · simp only [List.setIfInBounds_toArray, List.set_cons_zero, List.set_cons_succ]
        refine oneW (i := 2) (v := .string (str (packB e o))) (w' := w9) rfl (by kernel_rfl) rfl (by rfl) (by go_simp) hS9 ?_
        simp only [List.setIfInBounds_toArray, List.set_cons_zero, List.set_cons_succ]
        clear hst1 hst2
        refine takeW (i := 6) rfl (by kernel_rfl) (by kernel_rfl) (by kernel_rfl) (fun _ _ _ h => h) rfl (by rfl) (v := .bool true) (fun Y hY => by obtain ⟨y0, y1, y2, y3, y4, y5, y6, y7⟩ := hY; go_simp) hS9 ?_
        simp only [List.setIfInBounds_toArray, List.set_cons_zero, List.set_cons_succ]
        refine takeW (i := 7) rfl (by kernel_rfl) (by kernel_rfl) (by kernel_rfl) (fun _ _ _ h => h) rfl (by rfl) (v := .bool true) (fun Y hY => by obtain ⟨y0, y1, y2, y3, y4, y5, y6, y7⟩ := hY; go_simp) hS9 ?_
        simp only [List.setIfInBounds_toArray, List.set_cons_zero, List.set_cons_succ]
        refine takeW (i := 8) rfl (by kernel_rfl) (by kernel_rfl) (by kernel_rfl) (fun _ _ _ h => h) rfl (by rfl) (v := .agg #[.string x, .string y]) (fun Y hY => by obtain ⟨y0, y1, y2, y3, y4, y5, y6, y7⟩ := hY; go_simp) hS9 ?_
        simp only [List.setIfInBounds_toArray, List.set_cons_zero, List.set_cons_succ]
        refine takeW (i := 9) rfl (by kernel_rfl) (by kernel_rfl) (by kernel_rfl) (fun _ _ _ h => h) rfl (by rfl) (v := .agg #[.string x, .string y]) (fun Y hY => by obtain ⟨y0, y1, y2, y3, y4, y5, y6, y7⟩ := hY; go_simp) hS9 ?_
        simp only [List.setIfInBounds_toArray, List.set_cons_zero, List.set_cons_succ]
        refine takeW (i := 10) rfl (by kernel_rfl) (by kernel_rfl) (by kernel_rfl) (fun _ _ _ h => h) rfl (by rfl) (v := .bool true) (fun Y hY => by obtain ⟨y0, y1, y2, y3, y4, y5, y6, y7⟩ := hY; go_simp) hS9 ?_
        simp only [List.setIfInBounds_toArray, List.set_cons_zero, List.set_cons_succ]
        refine takeW (i := 11) rfl (by kernel_rfl) (by kernel_rfl) (by kernel_rfl) (fun _ _ _ h => h) rfl (by rfl) (v := .bool true) (fun Y hY => by obtain ⟨y0, y1, y2, y3, y4, y5, y6, y7⟩ := hY; go_simp) hS9 ?_
        simp only [List.setIfInBounds_toArray, List.set_cons_zero, List.set_cons_succ]
        refine takeW (i := 12) rfl (by kernel_rfl) (by kernel_rfl) (by kernel_rfl) (fun _ _ _ h => h) rfl (by rfl) (v := .bool true) (fun Y hY => by obtain ⟨y0, y1, y2, y3, y4, y5, y6, y7⟩ := hY; go_simp) hS9 ?_
        simp only [List.setIfInBounds_toArray, List.set_cons_zero, List.set_cons_succ]
        refine takeW (i := 13) rfl (by kernel_rfl) (by kernel_rfl) (by kernel_rfl) (fun _ _ _ h => h) rfl (by rfl) (v := .bool z) (fun Y hY => by obtain ⟨y0, y1, y2, y3, y4, y5, y6, y7⟩ := hY; go_simp) hS9 ?_
        simp only [List.setIfInBounds_toArray, List.set_cons_zero, List.set_cons_succ]
        refine takeW (i := 14) rfl (by kernel_rfl) (by kernel_rfl) (by kernel_rfl) (fun _ _ _ h => h) rfl (by rfl) (v := .bool z) (fun Y hY => by obtain ⟨y0, y1, y2, y3, y4, y5, y6, y7⟩ := hY; go_simp) hS9 ?_
        simp only [List.setIfInBounds_toArray, List.set_cons_zero, List.set_cons_succ]
        refine takeW (i := 15) rfl (by kernel_rfl) (by kernel_rfl) (by kernel_rfl) (fun _ _ _ h => h) rfl (by rfl) (v := .bool true) (fun Y hY => by obtain ⟨y0, y1, y2, y3, y4, y5, y6, y7⟩ := hY; go_simp) hS9 ?_
        simp only [List.setIfInBounds_toArray, List.set_cons_zero, List.set_cons_succ]
        refine takeW (i := 16) rfl (by kernel_rfl) (by kernel_rfl) (by kernel_rfl) (fun _ _ _ h => h) rfl (by rfl) (v := .bool true) (fun Y hY => by obtain ⟨y0, y1, y2, y3, y4, y5, y6, y7⟩ := hY; go_simp) hS9 ?_
        simp only [List.setIfInBounds_toArray, List.set_cons_zero, List.set_cons_succ]
        refine takeW (i := 17) rfl (by kernel_rfl) (by kernel_rfl) (by kernel_rfl) (fun _ _ _ h => h) rfl (by rfl) (v := .bool true) (fun Y hY => by obtain ⟨y0, y1, y2, y3, y4, y5, y6, y7⟩ := hY; go_simp) hS9 ?_
        simp only [List.setIfInBounds_toArray, List.set_cons_zero, List.set_cons_succ]
        refine takeW (i := 18) rfl (by kernel_rfl) (by kernel_rfl) (by kernel_rfl) (fun _ _ _ h => h) rfl (by rfl) (v := .bool true) (fun Y hY => by obtain ⟨y0, y1, y2, y3, y4, y5, y6, y7⟩ := hY; go_simp) hS9 ?_
        simp only [List.setIfInBounds_toArray, List.set_cons_zero, List.set_cons_succ]
        refine takeW (i := 19) rfl (by kernel_rfl) (by kernel_rfl) (by kernel_rfl) (fun _ _ _ h => h) rfl (by rfl) (v := .bool true) (fun Y hY => by obtain ⟨y0, y1, y2, y3, y4, y5, y6, y7⟩ := hY; go_simp) hS9 ?_
        simp only [List.setIfInBounds_toArray, List.set_cons_zero, List.set_cons_succ]
        refine takeW (i := 20) rfl (by kernel_rfl) (by kernel_rfl) (by kernel_rfl) (fun _ _ _ h => h) rfl (by rfl) (v := .bool true) (fun Y hY => by obtain ⟨y0, y1, y2, y3, y4, y5, y6, y7⟩ := hY; go_simp) hS9 ?_
        simp only [List.setIfInBounds_toArray, List.set_cons_zero, List.set_cons_succ]
        refine takeW (i := 21) rfl (by kernel_rfl) (by kernel_rfl) (by kernel_rfl) (fun _ _ _ h => h) rfl (by rfl) (v := .agg #[.string e, .string o]) (fun Y hY => by obtain ⟨y0, y1, y2, y3, y4, y5, y6, y7⟩ := hY; go_simp) hS9 ?_
        simp only [List.setIfInBounds_toArray, List.set_cons_zero, List.set_cons_succ]
        refine takeW (i := 22) rfl (by kernel_rfl) (by kernel_rfl) (by kernel_rfl) (fun _ _ _ h => h) rfl (by rfl) (v := .agg #[.string e, .string o]) (fun Y hY => by obtain ⟨y0, y1, y2, y3, y4, y5, y6, y7⟩ := hY; go_simp) hS9 ?_
        simp only [List.setIfInBounds_toArray, List.set_cons_zero, List.set_cons_succ]
        refine takeW (i := 23) rfl (by kernel_rfl) (by kernel_rfl) (by kernel_rfl) (fun _ _ _ h => h) rfl (by rfl) (v := .bool true) (fun Y hY => by obtain ⟨y0, y1, y2, y3, y4, y5, y6, y7⟩ := hY; go_simp) hS9 ?_
        simp only [List.setIfInBounds_toArray, List.set_cons_zero, List.set_cons_succ]
        refine takeW (i := 24) rfl (by kernel_rfl) (by kernel_rfl) (by kernel_rfl) (fun _ _ _ h => h) rfl (by rfl) (v := .bool true) (fun Y hY => by obtain ⟨y0, y1, y2, y3, y4, y5, y6, y7⟩ := hY; go_simp) hS9 ?_
        simp only [List.setIfInBounds_toArray, List.set_cons_zero, List.set_cons_succ]
        refine takeW (i := 25) rfl (by kernel_rfl) (by kernel_rfl) (by kernel_rfl) (fun _ _ _ h => h) rfl (by rfl) (v := .bool true) (fun Y hY => by obtain ⟨y0, y1, y2, y3, y4, y5, y6, y7⟩ := hY; go_simp) hS9 ?_
        simp only [List.setIfInBounds_toArray, List.set_cons_zero, List.set_cons_succ]
        refine callW (i := 26) rfl (by kernel_rfl) rfl (by rfl) ?_ (HK.out _) ?_
        · go_simp
        rintro _ wa ⟨rfl, hoa⟩
        have hSa : wa.cell? ⟨eb, 0, none⟩ = some (.string e) ∧ wa.cell? ⟨eb, 1, none⟩ = some (.string o) ∧ wa.cell? ⟨xb, 0, none⟩ = some (.string x) ∧ wa.cell? ⟨xb, 1, none⟩ = some (.string y) ∧ wa.cell? ⟨yb, 0, none⟩ = some (.string x) ∧ wa.cell? ⟨yb, 1, none⟩ = some (.string y) ∧ wa.cell? ⟨zb, 0, none⟩ = some (.string e) ∧ wa.cell? ⟨zb, 1, none⟩ = some (.string o) := ⟨hoa.cell hS9.1 (by simp), hoa.cell hS9.2.1 (by simp), hoa.cell hS9.2.2.1 (by simp), hoa.cell hS9.2.2.2.1 (by simp), hoa.cell hS9.2.2.2.2.1 (by simp), hoa.cell hS9.2.2.2.2.2.1 (by simp), hoa.cell hS9.2.2.2.2.2.2.1 (by simp), hoa.cell hS9.2.2.2.2.2.2.2 (by simp)⟩
        have HOA := Lib.hid (HO9.out.trans hoa (by simp))
        clear hoa hS9
        refine ⟨_, rfl, hSa, ?_⟩
        simp only [List.setIfInBounds_toArray, List.set_cons_zero, List.set_cons_succ]
        refine takeW (i := 27) rfl (by kernel_rfl) (by kernel_rfl) (by kernel_rfl) (fun _ _ _ h => h) rfl (by rfl) (v := .bool true) (fun Y hY => by obtain ⟨y0, y1, y2, y3, y4, y5, y6, y7⟩ := hY; go_simp) hSa ?_
        simp only [List.setIfInBounds_toArray, List.set_cons_zero, List.set_cons_succ]
        refine takeW (i := 28) rfl (by kernel_rfl) (by kernel_rfl) (by kernel_rfl) (fun _ _ _ h => h) rfl (by rfl) (v := .bool true) (fun Y hY => by obtain ⟨y0, y1, y2, y3, y4, y5, y6, y7⟩ := hY; go_simp) hSa ?_
        simp only [List.setIfInBounds_toArray, List.set_cons_zero, List.set_cons_succ]
        refine wpAnyH_done (by kernel_rfl) ?_ _
        clear hSa
        go_wp2_with fail
        go_ret
        exact ⟨rfl, HOA.out⟩
end Go.Proofs.YthgfmoogagldmaaGreat.Cache
