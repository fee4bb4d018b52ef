/- The law of units: what the program and the document say of any unit, and of any bytes. -/
import Derived.Test.YtfkakhlgcjjlcaaKeysKey
import Derived.Test.YtfkakhlgcjjlcaaKeysUnpack
namespace Go.Proofs.Ytfkakhlgcjjlcaa.Keys
open Go.RowKit Codec
set_option linter.unusedVariables false
set_option maxRecDepth 100000

theorem str_back (s : ByteArray) : str s.data.toList = s := by
  apply ByteArray.ext
  simp [str]
theorem unp_pack (e o : ByteArray) (he : e.size ≤ 10000) : unp (packB e o) = some (e.data.toList, o.data.toList) := by
  have hb := back_num (e.size : Int) (e.data.toList ++ o.data.toList) (by omega) (by omega)
  have hl : (le (u64 (e.size : Int)) 8).length = 8 := le_len _ _
  have e1 : packB e o = le (u64 (e.size : Int)) 8 ++ (e.data.toList ++ o.data.toList) := by unfold packB; rw [List.append_assoc]
  have ht : (packB e o).take 8 = le (u64 (e.size : Int)) 8 := by rw [e1, List.take_left' hl]
  have hd : (packB e o).drop 8 = e.data.toList ++ o.data.toList := by rw [e1, List.drop_left' hl]
  have hn : s64 (vle ((packB e o).take 8)) = (e.size : Int) := by
    rw [ht]
    have := hb.1
    rwa [rget_app _ _ _ hl] at this
  have hlen : (packB e o).length = 8 + e.size + o.size := by rw [e1]; simp [hl]; omega
  unfold unp
  rw [if_neg (by rw [hn, hlen]; omega), hn, hd, Int.toNat_natCast, List.take_left' (data_len e), List.drop_left' (data_len e)]
theorem packB_size (e o : ByteArray) : (str (packB e o)).size = 8 + e.size + o.size := by
  rw [str_size]
  unfold packB
  simp [le_len]
  omega
theorem str_list (l : List UInt8) : (str l).data.toList = l := by simp [str]

theorem num_any (z : Int) (w : World) : Calls Try.prog 11 #[.int .i64 z] w fun x w' => x = .returned (.int .i64 z) ∧ w = w' := by
  go_enter Try.func11, Try.ntmps11
  go_wp2_with fail
  go_ret
  exact ⟨rfl, rfl⟩
theorem knows_any (w : World) : Calls Try.prog 6 #[] w fun x w' => x = .returned (.bool true) ∧ Only [] w w' := by
  have hk : keyV 4 ⟨#[112]⟩ ⟨#[]⟩ [] = .tuple #[.string ⟨#[84, 77, 75, 49, 4, 0, 1, 0, 112, 0, 0, 0, 0]⟩, .int .i64 0] := by
    unfold keyV
    rw [if_neg (by unfold keyBad; simp [ByteArray.size]), if_neg (by simp), if_neg (by decide)]
    rfl
  have hK := key_any 4 ⟨#[112]⟩ ⟨#[]⟩ none 0 0 0 [] w rfl Recs.nil_ (Nat.zero_le _) (by simp)
  rw [hk] at hK
  have hP := fun w' => pack_any ⟨#[97]⟩ ⟨#[98, 99]⟩ w' (by decide) (by decide)
  have hU := fun w' => unpack_any (str (packB ⟨#[97]⟩ ⟨#[98, 99]⟩)) w' (by rw [packB_size]; decide)
  rw [str_list, unp_pack _ _ (by decide)] at hU
  have h1 : unpV (some ((⟨#[97]⟩ : ByteArray).data.toList, (⟨#[98, 99]⟩ : ByteArray).data.toList)) = .tuple #[.agg #[.string ⟨#[97]⟩, .string ⟨#[98, 99]⟩], .int .i64 0] := rfl
  rw [h1] at hU
  clear hk h1
  generalize str (packB ⟨#[97]⟩ ⟨#[98, 99]⟩) = S at *
  go_enter Try.func6, Try.ntmps6
  go_wp2_with fail
  refine hK.mono ?_
  rintro x w1 ⟨rfl, ho1⟩
  go_wp2_with fail
  refine (hP w1).mono ?_
  rintro x w2 ⟨rfl, ho2⟩
  go_wp2_with fail
  refine (hU w2).mono ?_
  rintro x w3 ⟨rfl, ho3⟩
  have ho : Only [] w w3 := (ho1.trans ho2 (by simp)).trans ho3 (by simp)
  clear hK hP hU ho1 ho2 ho3
  go_wp2_with (go_at_call 11; refine (num_any _ _).mono ?_; rintro x wx ⟨rfl, rfl⟩)
  go_ret
  exact ⟨by simp, ho.alloc _⟩

def big (e o b : ByteArray) : Prop := 3000 < e.size ∨ 3000 < o.size ∨ 3000 < b.size
set_option maxHeartbeats 1000000 in
theorem units_big (e o b : ByteArray) (w : World) (h : big e o b) :
    Calls Try.prog 3 #[.agg #[.string e, .string o], .string b] w fun x w' => x = .returned (.bool true) ∧ Only [] w w' := by
  unfold big at h
  have HK := Lib.hid knows_any
  have hfin : ∀ w1, Only [] (w.alloc (.cells #[.string e, .string o] 23)) w1 → Only [] w w1 := fun w1 h1 => ((Only.refl [] w).alloc _).trans h1 (by simp)
  by_cases h1 : 3000 < e.size
  · have d1 : decide ((3000 : Int) < (e.size : Int)) = true := decide_eq_true (by omega)
    clear h h1
    go_enter Try.func3, Try.ntmps3
    go_wp2_with (go_at_call 6; refine (HK.out _).mono ?_; rintro x w1 ⟨rfl, ho1⟩)
    go_ret
    exact ⟨rfl, hfin _ ho1⟩
  · have d1 : decide ((3000 : Int) < (e.size : Int)) = false := decide_eq_false (by omega)
    by_cases h2 : 3000 < o.size
    · have d2 : decide ((3000 : Int) < (o.size : Int)) = true := decide_eq_true (by omega)
      clear h h1 h2
      go_enter Try.func3, Try.ntmps3
      go_wp2_with (go_at_call 6; refine (HK.out _).mono ?_; rintro x w1 ⟨rfl, ho1⟩)
      go_ret
      exact ⟨rfl, hfin _ ho1⟩
    · have d2 : decide ((3000 : Int) < (o.size : Int)) = false := decide_eq_false (by omega)
      have d3 : decide ((3000 : Int) < (b.size : Int)) = true := decide_eq_true (by omega)
      clear h h1 h2
      go_enter Try.func3, Try.ntmps3
      go_wp2_with (go_at_call 6; refine (HK.out _).mono ?_; rintro x w1 ⟨rfl, ho1⟩)
      go_ret
      exact ⟨rfl, hfin _ ho1⟩
theorem unpV_cases (u : Option (List UInt8 × List UInt8)) : ∃ (x y : ByteArray) (z : Int), unpV u = .tuple #[.agg #[.string x, .string y], .int .i64 z] := by
  match u with
  | none => exact ⟨_, _, _, rfl⟩
  | some (e, o) => exact ⟨_, _, _, rfl⟩
set_option maxHeartbeats 1000000 in
theorem units_any (e o b : ByteArray) (w : World) :
    Calls Try.prog 3 #[.agg #[.string e, .string o], .string b] w fun x w' => x = .returned (.bool true) ∧ Only [] w w' := by
  by_cases h : big e o b
  · exact units_big e o b w h
  · unfold big at h
    have HK := Lib.hid knows_any
    have d1 : decide ((3000 : Int) < (e.size : Int)) = false := decide_eq_false (by omega)
    have d2 : decide ((3000 : Int) < (o.size : Int)) = false := decide_eq_false (by omega)
    have d3 : decide ((3000 : Int) < (b.size : Int)) = false := decide_eq_false (by omega)
    have hP := fun w' => pack_any e o w' (by omega) (by omega)
    have hQ := fun w' => ref_pack e o w' (by omega) (by omega)
    have hU := fun w' => unpack_any b w' (by omega)
    have hV := fun w' => ref_unpack b w' (by omega)
    have hX := fun w' => unpack_any (str (packB e o)) w' (by rw [packB_size]; omega)
    rw [str_list, unp_pack _ _ (by omega)] at hX
    have h1 : unpV (some (e.data.toList, o.data.toList)) = .tuple #[.agg #[.string e, .string o], .int .i64 0] := by show Value.tuple #[.agg #[.string (str e.data.toList), .string (str o.data.toList)], .int .i64 0] = _; rw [str_back, str_back]
    rw [h1] at hX
    obtain ⟨x, y, z, hu⟩ := unpV_cases (unp b.data.toList)
    rw [hu] at hU hV
    clear h h1 hu
    generalize str (packB e o) = S at *
    have hb0 : Blk (w.alloc (.cells #[.string e, .string o] 23)) w.heap.size 23 #[.string e, .string o] := Blk.new _ _ _
    have ho0 : Only [] w (w.alloc (.cells #[.string e, .string o] 23)) := (Only.refl _ _).alloc _
    go_enter Try.func3, Try.ntmps3
    go_wp2_with fail
    generalize w.alloc (.cells #[.string e, .string o] 23) = w0 at *
    refine (hP w0).mono ?_
    rintro _ w1 ⟨rfl, ho1⟩
    have hb1 := hb0.only ho1 (by simp)
    have c10 := hb1.cell 0
    have c11 := hb1.cell 1
    go_wp2_with fail
    refine (hQ w1).mono ?_
    rintro _ w2 ⟨rfl, ho2⟩
    have hb2 := hb1.only ho2 (by simp)
    go_wp2_with fail
    refine (hU w2).mono ?_
    rintro _ w3 ⟨rfl, ho3⟩
    have hb3 := hb2.only ho3 (by simp)
    go_wp2_with fail
    have hb9 : Blk (w3.alloc (.cells #[.string x, .string y] 28)) w3.heap.size 28 #[.string x, .string y] := Blk.new _ _ _
    have hoA : Only [] w (w3.alloc (.cells #[.string x, .string y] 28)) := (((ho0.trans ho1 (by simp)).trans ho2 (by simp)).trans ho3 (by simp)).alloc _
    have hbA := hb3.alloc (.cells #[.string x, .string y] 28)
    generalize w3.alloc (.cells #[.string x, .string y] 28) = w4 at *
    refine (hV w4).mono ?_
    rintro _ w5 ⟨rfl, ho5⟩
    have hb9' := hb9.only ho5 (by simp)
    have hbB := hbA.only ho5 (by simp)
    have hoB := hoA.trans ho5 (by simp)
    go_wp2_with fail
    have hb11 : Blk (w5.alloc (.cells #[.string x, .string y] 23)) w5.heap.size 23 #[.string x, .string y] := Blk.new _ _ _
    have hbC := hbB.alloc (.cells #[.string x, .string y] 23)
    have hb9C := hb9'.alloc (.cells #[.string x, .string y] 23)
    have hoC := hoB.alloc (.cells #[.string x, .string y] 23)
    generalize w5.alloc (.cells #[.string x, .string y] 23) = w6 at *
    refine (hX w6).mono ?_
    rintro _ w7 ⟨rfl, ho7⟩
    have hbD := (hbC.only ho7 (by simp)).alloc (.cells #[.string e, .string o] 28)
    have hb9D := (hb9C.only ho7 (by simp)).alloc (.cells #[.string e, .string o] 28)
    have hb11D := (hb11.only ho7 (by simp)).alloc (.cells #[.string e, .string o] 28)
    have hb13 : Blk (w7.alloc (.cells #[.string e, .string o] 28)) w7.heap.size 28 #[.string e, .string o] := Blk.new _ _ _
    have hoD := (hoC.trans ho7 (by simp)).alloc (.cells #[.string e, .string o] 28)
    have g1 : World.cell? _ _ = some (.string e) := hbD.cell 0
    have g2 : World.cell? _ _ = some (.string o) := hbD.cell 1
    have g3 : World.cell? _ _ = some (.string x) := hb9D.cell 0
    have g4 : World.cell? _ _ = some (.string y) := hb9D.cell 1
    have g5 : World.cell? _ _ = some (.string x) := hb11D.cell 0
    have g6 : World.cell? _ _ = some (.string y) := hb11D.cell 1
    have g7 : World.cell? _ _ = some (.string e) := hb13.cell 0
    have g8 : World.cell? _ _ = some (.string o) := hb13.cell 1
    clear hbD hb9D hb11D hb13 hbC hb9C hb11 hb9' hbB hb9 hbA hb3 hb2 hb1 hb0 c10 c11 hP hQ hU hV hX
    go_wp2_with fail
    generalize w7.alloc (.cells #[.string e, .string o] 28) = w8 at *
    refine (num_any _ w8).mono ?_
    rintro _ wx ⟨rfl, rfl⟩
    go_wp2_with (first
      | (go_at_call 11; refine (num_any _ _).mono ?_; rintro x wx ⟨rfl, rfl⟩)
      | (go_at_call 6; refine (HK.out _).mono ?_; rintro x w1 ⟨rfl, ho1⟩))
    go_ret
    exact ⟨rfl, hoD.trans ho1 (by simp)⟩
end Go.Proofs.Ytfkakhlgcjjlcaa.Keys
