/- The library contracts on sorted keys of maps, at this dump. PRINTED by tools of the kit. -/
import Derived.Shelf.SlIter.Nil
import Derived.Shelf.SortM.Plain
import Derived.Shelf.SortM.SortNone
import Derived.Ground.GgzProg
import Derived.Ground.SlgmProg
import Derived.Shelf.SlGeneric
import Derived.Test.YtphpgbnpmplkhaaProg
namespace Go.Proofs
open Go.RowKit Go.Maps Go.Sort Go.Shelf
def Try.keys13_ren : Go.Shelf.Ren := ⟨fun | 7 => 13 | 10 => 17 | n => n, fun | 23 => 37 | 26 => 9 | 3 => 9 | 28 => 42 | 0 => 0 | 27 => 41 | 33 => 47 | 4 => 4 | n => n, fun | n => n⟩
theorem Try.keys13 : Go.Proofs.SlLaysZ.n7 Try.prog Try.keys13_ren := {
  mixed := by kernel_rfl
  f7 := ⟨Try.f13.name, by decide, Try.func13.trans (congrArg some (by kernel_rfl))⟩
  f10 := ⟨Try.f17.name, by decide, Try.func17.trans (congrArg some (by kernel_rfl))⟩
  t0 := Try.underlying0
  a0 := Try.isAgg0
  z0 := Try.sizeOf0
  v0 := Try.zeroValue0
  t4 := Try.underlying4
  a4 := Try.isAgg4
  z4 := Try.sizeOf4
  v4 := Try.zeroValue4
  t23 := Try.underlying37
  a23 := Try.isAgg37
  z23 := Try.sizeOf37
  v23 := Try.zeroValue37
  t26 := Try.underlying9
  a26 := Try.isAgg9
  z26 := Try.sizeOf9
  v26 := Try.zeroValue9
  t27 := Try.underlying41
  a27 := Try.isAgg41
  z27 := Try.sizeOf41
  v27 := Try.zeroValue41
  t28 := Try.underlying42
  a28 := Try.isAgg42
  z28 := Try.sizeOf42
  v28 := Try.zeroValue42
  t33 := Try.underlying47
  a33 := Try.isAgg47
  z33 := Try.sizeOf47
  v33 := Try.zeroValue47 }
def Try.sorted12_ren : Go.Shelf.Ren := ⟨fun | 6 => 12 | 8 => 15 | 9 => 16 | 11 => 19 | 13 => 21 | 12 => 20 | 23 => 31 | 24 => 32 | 14 => 22 | 15 => 23 | 16 => 24 | 17 => 25 | 18 => 26 | 19 => 27 | 20 => 28 | 21 => 29 | 22 => 30 | 25 => 33 | 26 => 34 | 27 => 35 | 28 => 36 | 29 => 37 | 30 => 38 | 31 => 39 | n => n, fun | 26 => 9 | 28 => 42 | 24 => 35 | 0 => 0 | 3 => 3 | 37 => 51 | 48 => 62 | 50 => 64 | 4 => 4 | 40 => 54 | 39 => 53 | 45 => 59 | 5 => 5 | 9 => 9 | 51 => 65 | 55 => 69 | 57 => 71 | 58 => 72 | 33 => 47 | n => n, fun | n => n⟩
theorem Try.sorted12 : Go.Proofs.SlLaysZ.n6 Try.prog Try.sorted12_ren := {
  mixed := by kernel_rfl
  f6 := ⟨Try.f12.name, by decide, Try.func12.trans (congrArg some (by kernel_rfl))⟩
  f8 := ⟨Try.f15.name, by decide, Try.func15.trans (congrArg some (by kernel_rfl))⟩
  f11 := ⟨Try.f19.name, by decide, Try.func19.trans (congrArg some (by kernel_rfl))⟩
  t0 := Try.underlying0
  a0 := Try.isAgg0
  z0 := Try.sizeOf0
  v0 := Try.zeroValue0
  t24 := Try.underlying35
  a24 := Try.isAgg35
  z24 := Try.sizeOf35
  v24 := Try.zeroValue35
  t26 := Try.underlying9
  a26 := Try.isAgg9
  z26 := Try.sizeOf9
  v26 := Try.zeroValue9
  t28 := Try.underlying42
  a28 := Try.isAgg42
  z28 := Try.sizeOf42
  v28 := Try.zeroValue42
  i26 := by kernel_rfl }
def Try.sort16_ren : Go.Shelf.Ren := ⟨fun | 6 => 16 | 8 => 21 | 9 => 20 | 19 => 31 | 20 => 32 | 21 => 22 | 22 => 23 | 23 => 24 | 24 => 25 | 25 => 26 | 26 => 27 | 27 => 28 | 28 => 29 | 29 => 30 | 36 => 33 | 31 => 34 | 32 => 35 | 37 => 36 | 38 => 37 | 39 => 38 | 41 => 39 | n => n, fun | 27 => 35 | 29 => 9 | 3 => 3 | 32 => 51 | 26 => 35 | 0 => 0 | 44 => 62 | 46 => 64 | 4 => 4 | 36 => 54 | 35 => 53 | 41 => 59 | 5 => 5 | 9 => 9 | 53 => 65 | 57 => 69 | 63 => 71 | 64 => 72 | n => n, fun | n => n⟩
theorem Try.sort16 : Go.Proofs.SlLaysM.n6 Try.prog Try.sort16_ren := {
  mixed := by kernel_rfl
  f6 := ⟨Try.f16.name, by decide, Try.func16.trans (congrArg some (by kernel_rfl))⟩
  f8 := Try.func21.trans (congrArg some (by kernel_rfl))
  f9 := ⟨Try.f20.name, by decide, Try.func20.trans (congrArg some (by kernel_rfl))⟩
  f19 := Try.func31.trans (congrArg some (by kernel_rfl))
  f20 := Try.func32.trans (congrArg some (by kernel_rfl))
  f21 := ⟨Try.f22.name, by decide, Try.func22.trans (congrArg some (by kernel_rfl))⟩
  f22 := ⟨Try.f23.name, by decide, Try.func23.trans (congrArg some (by kernel_rfl))⟩
  f23 := ⟨Try.f24.name, by decide, Try.func24.trans (congrArg some (by kernel_rfl))⟩
  f24 := ⟨Try.f25.name, by decide, Try.func25.trans (congrArg some (by kernel_rfl))⟩
  f25 := ⟨Try.f26.name, by decide, Try.func26.trans (congrArg some (by kernel_rfl))⟩
  f26 := ⟨Try.f27.name, by decide, Try.func27.trans (congrArg some (by kernel_rfl))⟩
  f27 := ⟨Try.f28.name, by decide, Try.func28.trans (congrArg some (by kernel_rfl))⟩
  f28 := ⟨Try.f29.name, by decide, Try.func29.trans (congrArg some (by kernel_rfl))⟩
  f29 := ⟨Try.f30.name, by decide, Try.func30.trans (congrArg some (by kernel_rfl))⟩
  f31 := Try.func34.trans (congrArg some (by kernel_rfl))
  f32 := Try.func35.trans (congrArg some (by kernel_rfl))
  f36 := ⟨Try.f33.name, by decide, Try.func33.trans (congrArg some (by kernel_rfl))⟩
  f37 := ⟨Try.f36.name, by decide, Try.func36.trans (congrArg some (by kernel_rfl))⟩
  f38 := ⟨Try.f37.name, by decide, Try.func37.trans (congrArg some (by kernel_rfl))⟩
  f39 := ⟨Try.f38.name, by decide, Try.func38.trans (congrArg some (by kernel_rfl))⟩
  f41 := ⟨Try.f39.name, by decide, Try.func39.trans (congrArg some (by kernel_rfl))⟩
  t0 := Try.underlying0
  a0 := Try.isAgg0
  z0 := Try.sizeOf0
  v0 := Try.zeroValue0
  t3 := Try.underlying3
  a3 := Try.isAgg3
  z3 := Try.sizeOf3
  v3 := Try.zeroValue3
  t4 := Try.underlying4
  a4 := Try.isAgg4
  z4 := Try.sizeOf4
  v4 := Try.zeroValue4
  t5 := Try.underlying5
  a5 := Try.isAgg5
  z5 := Try.sizeOf5
  v5 := Try.zeroValue5
  t9 := Try.underlying9
  a9 := Try.isAgg9
  z9 := Try.sizeOf9
  v9 := Try.zeroValue9
  t26 := Try.underlying35
  a26 := Try.isAgg35
  z26 := Try.sizeOf35
  v26 := Try.zeroValue35
  t27 := Try.underlying35
  a27 := Try.isAgg35
  z27 := Try.sizeOf35
  v27 := Try.zeroValue35
  t29 := Try.underlying9
  a29 := Try.isAgg9
  z29 := Try.sizeOf9
  v29 := Try.zeroValue9
  t32 := Try.underlying51
  a32 := Try.isAgg51
  z32 := Try.sizeOf51
  v32 := Try.zeroValue51
  t35 := Try.underlying53
  a35 := Try.isAgg53
  z35 := Try.sizeOf53
  v35 := Try.zeroValue53
  t36 := Try.underlying54
  a36 := Try.isAgg54
  z36 := Try.sizeOf54
  v36 := Try.zeroValue54
  t41 := Try.underlying59
  a41 := Try.isAgg59
  z41 := Try.sizeOf59
  v41 := Try.zeroValue59
  t44 := Try.underlying62
  a44 := Try.isAgg62
  z44 := Try.sizeOf62
  v44 := Try.zeroValue62
  t46 := Try.underlying64
  a46 := Try.isAgg64
  z46 := Try.sizeOf64
  v46 := Try.zeroValue64
  t53 := Try.underlying65
  a53 := Try.isAgg65
  z53 := Try.sizeOf65
  v53 := Try.zeroValue65
  t57 := Try.underlying69
  a57 := Try.isAgg69
  z57 := Try.sizeOf69
  v57 := Try.zeroValue69
  t63 := Try.underlying71
  a63 := Try.isAgg71
  z63 := Try.sizeOf71
  v63 := Try.zeroValue71
  t64 := Try.underlying72
  a64 := Try.isAgg72
  z64 := Try.sizeOf72
  v64 := Try.zeroValue72 }
def Try.keys14_ren : Go.Shelf.Ren := ⟨fun | 7 => 14 | 10 => 18 | n => n, fun | 23 => 44 | 26 => 9 | 3 => 4 | 28 => 42 | 0 => 0 | 27 => 41 | 33 => 47 | 4 => 4 | n => n, fun | n => n⟩
theorem Try.keys14 : Go.Proofs.SlLaysZ.n7 Try.prog Try.keys14_ren := {
  mixed := by kernel_rfl
  f7 := ⟨Try.f14.name, by decide, Try.func14.trans (congrArg some (by kernel_rfl))⟩
  f10 := ⟨Try.f18.name, by decide, Try.func18.trans (congrArg some (by kernel_rfl))⟩
  t0 := Try.underlying0
  a0 := Try.isAgg0
  z0 := Try.sizeOf0
  v0 := Try.zeroValue0
  t4 := Try.underlying4
  a4 := Try.isAgg4
  z4 := Try.sizeOf4
  v4 := Try.zeroValue4
  t23 := Try.underlying44
  a23 := Try.isAgg44
  z23 := Try.sizeOf44
  v23 := Try.zeroValue44
  t26 := Try.underlying9
  a26 := Try.isAgg9
  z26 := Try.sizeOf9
  v26 := Try.zeroValue9
  t27 := Try.underlying41
  a27 := Try.isAgg41
  z27 := Try.sizeOf41
  v27 := Try.zeroValue41
  t28 := Try.underlying42
  a28 := Try.isAgg42
  z28 := Try.sizeOf42
  v28 := Try.zeroValue42
  t33 := Try.underlying47
  a33 := Try.isAgg47
  z33 := Try.sizeOf47
  v33 := Try.zeroValue47 }
theorem Try.sorts12 (m : Nat) : AnyZ.SortsIn Try.prog Try.sorted12_ren Fence.wide m :=
  ⟨fun blk off cap ss W hH hblk hsz => callsIn_wide.2 (AnyM.slices_Sort_string Try.sort16 blk off cap ss W hH hblk hsz),
   fun p cap W => callsIn_wide.2 (AnyM.slices_Sort_string_none Try.sort16 p cap W)⟩

theorem Try.maps_Keys_13 (mb : Option Nat) (W : World) : CallsIn Fence.wide 5 Try.prog 13 #[.map mb] W fun e w' => e = .returned (.func (.func 17) #[] #[.pointer (some ⟨W.heap.size, 0, none⟩)]) ∧ w' = W.alloc (.cells #[.map mb] 37) :=
  AnyZ.keys_in Try.keys13 Fence.wide 5 trivial rfl mb W

theorem Try.slices_Sorted_keys_12_13 {H : Type} (b nn : Nat) (D0 : DataW H) (R : Value → Option (DataW H × List MemPlace)) (w : World) (hown : w.ownsMap Try.prog 9 R b nn D0) (hmax : Maps.size D0 ≤ maxLen) (hbytes : Maps.size D0 * 16 ≤ 140737488355328) :
    CallsIn Fence.wide 5 Try.prog 12 #[.func (.func 17) #[] #[.pointer (some ⟨w.heap.size, 0, none⟩)]] (w.alloc (.cells #[.map (some b)] 37)) fun e w' => ∃ (v : Value) (ss : List (List UInt8)), e = .returned v ∧ ss.Perm (strKeys D0) ∧
      w'.ownsRow (w.alloc (.cells #[.map (some b)] 37)).heap.size 9 1 v ss.length ((ss.mergeSort (fun x y => decide (x ≤ y))).map encStr) ∧ (v = .slice none 0 0 ↔ ss = []) ∧ Below (w.alloc (.cells #[.map (some b)] 37)).heap.size (w.alloc (.cells #[.map (some b)] 37)) w' := by
  have hbl := hown.lt
  have hseq : SeqGives Fence.wide 2 Try.prog 17 #[.pointer (some ⟨w.heap.size, 0, none⟩)] encStr (fun ss => ss.Perm (strKeys D0)) (Maps.size D0) (w.alloc (.cells #[.map (some b)] 37)) :=
    AnyZ.keys_gives (ρ := Try.keys13_ren) { Try.keys13 with } Fence.wide _ trivial rfl (by omega) w.heap.size b nn D0 _ (by simp) (by simp) (by
      obtain ⟨es, clock, hb, Ft, hs, hD⟩ := hown
      exact ⟨es, clock, (Below.heap_alloc _ _ b hbl).trans hb, Ft, hs, hD⟩)
  exact AnyZ.sorted_in Try.sorted12 Fence.wide 5 trivial trivial trivial trivial rfl (by omega) (Try.sorts12 _) (enters_of Try.func16 (by kernel_rfl) rfl) 17 #[.pointer (some ⟨w.heap.size, 0, none⟩)] trivial (enters_of Try.func17 (by kernel_rfl) rfl) _ _ hmax hbytes _ hseq

theorem Try.slices_Sorted_keys_nil_12_13 (w : World) :
    CallsIn Fence.wide 5 Try.prog 12 #[.func (.func 17) #[] #[.pointer (some ⟨w.heap.size, 0, none⟩)]] (w.alloc (.cells #[.map none] 37)) fun e w' => ∃ (v : Value) (ss : List (List UInt8)), e = .returned v ∧ ss = [] ∧
      w'.ownsRow (w.alloc (.cells #[.map none] 37)).heap.size 9 1 v ss.length ((ss.mergeSort (fun x y => decide (x ≤ y))).map encStr) ∧ (v = .slice none 0 0 ↔ ss = []) ∧ Below (w.alloc (.cells #[.map none] 37)).heap.size (w.alloc (.cells #[.map none] 37)) w' := by
  have hseq : SeqGives Fence.wide 2 Try.prog 17 #[.pointer (some ⟨w.heap.size, 0, none⟩)] encStr (fun ss : List (List UInt8) => ss = []) 0 (w.alloc (.cells #[.map none] 37)) :=
    AnyZ.keys_gives_nil (ρ := Try.keys13_ren) { Try.keys13 with } Fence.wide _ trivial rfl w.heap.size _ (by simp) (by simp)
  exact AnyZ.sorted_in Try.sorted12 Fence.wide 5 trivial trivial trivial trivial rfl (by omega) (Try.sorts12 _) (enters_of Try.func16 (by kernel_rfl) rfl) 17 #[.pointer (some ⟨w.heap.size, 0, none⟩)] trivial (enters_of Try.func17 (by kernel_rfl) rfl) _ 0 (Nat.zero_le _) (by omega) _ hseq

theorem Try.maps_Keys_14 (mb : Option Nat) (W : World) : CallsIn Fence.wide 5 Try.prog 14 #[.map mb] W fun e w' => e = .returned (.func (.func 18) #[] #[.pointer (some ⟨W.heap.size, 0, none⟩)]) ∧ w' = W.alloc (.cells #[.map mb] 44) :=
  AnyZ.keys_in Try.keys14 Fence.wide 5 trivial rfl mb W

theorem Try.slices_Sorted_keys_12_14 {H : Type} (b nn : Nat) (D0 : DataW H) (R : Value → Option (DataW H × List MemPlace)) (w : World) (hown : w.ownsMap Try.prog 9 R b nn D0) (hmax : Maps.size D0 ≤ maxLen) (hbytes : Maps.size D0 * 16 ≤ 140737488355328) :
    CallsIn Fence.wide 5 Try.prog 12 #[.func (.func 18) #[] #[.pointer (some ⟨w.heap.size, 0, none⟩)]] (w.alloc (.cells #[.map (some b)] 44)) fun e w' => ∃ (v : Value) (ss : List (List UInt8)), e = .returned v ∧ ss.Perm (strKeys D0) ∧
      w'.ownsRow (w.alloc (.cells #[.map (some b)] 44)).heap.size 9 1 v ss.length ((ss.mergeSort (fun x y => decide (x ≤ y))).map encStr) ∧ (v = .slice none 0 0 ↔ ss = []) ∧ Below (w.alloc (.cells #[.map (some b)] 44)).heap.size (w.alloc (.cells #[.map (some b)] 44)) w' := by
  have hbl := hown.lt
  have hseq : SeqGives Fence.wide 2 Try.prog 18 #[.pointer (some ⟨w.heap.size, 0, none⟩)] encStr (fun ss => ss.Perm (strKeys D0)) (Maps.size D0) (w.alloc (.cells #[.map (some b)] 44)) :=
    AnyZ.keys_gives (ρ := Try.keys14_ren) { Try.keys14 with } Fence.wide _ trivial rfl (by omega) w.heap.size b nn D0 _ (by simp) (by simp) (by
      obtain ⟨es, clock, hb, Ft, hs, hD⟩ := hown
      exact ⟨es, clock, (Below.heap_alloc _ _ b hbl).trans hb, Ft, hs, hD⟩)
  exact AnyZ.sorted_in Try.sorted12 Fence.wide 5 trivial trivial trivial trivial rfl (by omega) (Try.sorts12 _) (enters_of Try.func16 (by kernel_rfl) rfl) 18 #[.pointer (some ⟨w.heap.size, 0, none⟩)] trivial (enters_of Try.func18 (by kernel_rfl) rfl) _ _ hmax hbytes _ hseq

theorem Try.slices_Sorted_keys_nil_12_14 (w : World) :
    CallsIn Fence.wide 5 Try.prog 12 #[.func (.func 18) #[] #[.pointer (some ⟨w.heap.size, 0, none⟩)]] (w.alloc (.cells #[.map none] 44)) fun e w' => ∃ (v : Value) (ss : List (List UInt8)), e = .returned v ∧ ss = [] ∧
      w'.ownsRow (w.alloc (.cells #[.map none] 44)).heap.size 9 1 v ss.length ((ss.mergeSort (fun x y => decide (x ≤ y))).map encStr) ∧ (v = .slice none 0 0 ↔ ss = []) ∧ Below (w.alloc (.cells #[.map none] 44)).heap.size (w.alloc (.cells #[.map none] 44)) w' := by
  have hseq : SeqGives Fence.wide 2 Try.prog 18 #[.pointer (some ⟨w.heap.size, 0, none⟩)] encStr (fun ss : List (List UInt8) => ss = []) 0 (w.alloc (.cells #[.map none] 44)) :=
    AnyZ.keys_gives_nil (ρ := Try.keys14_ren) { Try.keys14 with } Fence.wide _ trivial rfl w.heap.size _ (by simp) (by simp)
  exact AnyZ.sorted_in Try.sorted12 Fence.wide 5 trivial trivial trivial trivial rfl (by omega) (Try.sorts12 _) (enters_of Try.func16 (by kernel_rfl) rfl) 18 #[.pointer (some ⟨w.heap.size, 0, none⟩)] trivial (enters_of Try.func18 (by kernel_rfl) rfl) _ 0 (Nat.zero_le _) (by omega) _ hseq
end Go.Proofs
