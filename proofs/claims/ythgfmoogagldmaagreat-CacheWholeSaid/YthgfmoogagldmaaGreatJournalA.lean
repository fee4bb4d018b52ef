/- JournalA: A journal on a disk, step for step, with no program in sight; The journal's small functions walk. -/
import Derived.Test.YthgfmoogagldmaaGreatDiskC
import Derived.Test.YthgfmoogagldmaaGreatFrameB
import Derived.Test.YthgfmoogagldmaaGreatFrameA
set_option linter.unusedVariables false
set_option maxRecDepth 100000
namespace Go.Proofs.YthgfmoogagldmaaGreat.Journal
open Disk Go.Proofs.YthgfmoogagldmaaGreat.Frame
deriving instance DecidableEq for Go.Proofs.YthgfmoogagldmaaGreat.Frame.Mark
def rdD (d : DS) (i : Int) : List UInt8 := if d.off = true then [] else if 0 ≤ i ∧ i < d.n then readD d i.toNat else []
def wrD (d : DS) (i : Int) (l : List UInt8) : DS × Bool :=
  if d.off = true ∨ d.left = 0 then ({ d with off := true }, false)
  else if 0 ≤ i ∧ i < d.n ∧ l.length = 64 then (stepD { d with wait := setW d.wait i.toNat l }, true)
  else (d, false)
def synD (d : DS) : DS × Bool := if d.off = true ∨ d.left = 0 then ({ d with off := true }, false) else (syncD d, true)
structure Half where
  gen : Int
  fr : Int
  room : Int
deriving DecidableEq
def roomD (d : DS) : Int := ((d.n : Int) - 2) / 2
def halfD (d : DS) (gen : Int) : Half := ⟨gen, 2 + (gen % 2) * roomD d, roomD d⟩
def zeros : List UInt8 := List.replicate 64 0
def zeroH (d : DS) (h : Half) (a : Int) : DS × Bool := if h.room ≤ a then (d, true) else wrD d (h.fr + a) zeros
def crcL (b : List UInt8) : Nat := Sums.crc (Sums.nats b)
def markH (h : Half) (seq : Int) (b : List UInt8) : Frame.Mark := ⟨2, h.gen, seq, (b.length : Int) * 4294967296 + (crcL b : Int)⟩
def takesB (b : List UInt8) : Int := 1 + needZ b.length
def takesL (l : List (List UInt8)) : Int := l.foldl (fun n b => n + takesB b) 0
def packsB (b : List UInt8) : List (List UInt8) := pack b (needZ b.length).toNat
def putsD (d : DS) : Int → List (List UInt8) → DS × Bool
  | _, [] => (d, true)
  | i, s :: ss => if (wrD d i s).2 = true then putsD (wrD d i s).1 (i + 1) ss else ((wrD d i s).1, false)
def packH (d : DS) (h : Half) (a : Int) (b : List UInt8) : DS × Bool := putsD d (h.fr + a + 1) (packsB b)
def unpL (ss : List (List UInt8)) (n : Int) : Option (List UInt8) :=
  if n < 0 ∨ 1048576 < n ∨ (ss.length : Int) ≠ needZ n then none
  else if ¬ (∀ s ∈ ss, s.length = 64) then none
  else if ¬ allZ (ss.flatten.drop n.toNat) then none
  else some (ss.flatten.take n.toNat)
def groupH (d : DS) (h : Half) (a seq : Int) : Option (List UInt8) :=
  let m := getR (rdD d (h.fr + a))
  let n := m.1.n / 4294967296
  if m.2 = false ∨ 1048576 < n ∨ h.room < a + 1 + needZ n then none
  else match unpL ((List.range (needZ n).toNat).map fun i : Nat => rdD d (h.fr + (a + 1 + (i : Int)))) n with
    | none => none
    | some b => if markH h seq b = m.1 then some b else none
def groupsH (d : DS) (h : Half) : Nat → Int → Int → List (List UInt8)
  | 0, _, _ => []
  | k + 1, a, seq => if a < h.room then (match groupH d h a seq with | none => [] | some b => b :: groupsH d h k (a + takesB b) (seq + 1)) else []
def allH (d : DS) (h : Half) : List (List UInt8) := groupsH d h h.room.toNat 0 0
def headOk (d : DS) (i : Int) : Option Int :=
  let m := getR (rdD d i)
  if m.2 = true ∧ 1 ≤ m.1.g ∧ m.1 = ⟨1, m.1.g, 0, 0⟩ ∧ m.1.g % 2 = i then some m.1.g else none
def newestD (d : DS) : Int := max (max 0 ((headOk d 0).getD 0)) ((headOk d 1).getD 0)
def leadH (d : DS) (h : Half) : DS × Bool :=
  if (wrD d (h.gen % 2) (putB ⟨1, h.gen, 0, 0⟩)).2 = true then synD (wrD d (h.gen % 2) (putB ⟨1, h.gen, 0, 0⟩)).1 else ((wrD d (h.gen % 2) (putB ⟨1, h.gen, 0, 0⟩)).1, false)
structure JS where
  half : Half
  l : List (List UInt8)
  off : Bool
def andThen (x : DS × Bool) (f : DS → DS × Bool) : DS × Bool := if x.2 = true then f x.1 else (x.1, false)
def openJ (d : DS) : DS × Option JS × Int :=
  if (d.n : Int) < 8 then (d, none, 1)
  else if d.off = true then (d, none, 3)
  else
    let g := newestD d
    let h := halfD d (max g 1)
    if g = 0 then
      let r := andThen (andThen (zeroH d h 0) synD) (fun x => leadH x h)
      if r.2 = true then (r.1, some ⟨h, allH r.1 h, false⟩, 0) else (r.1, none, 3)
    else (d, some ⟨h, allH d h, false⟩, 0)
def refuseJ (j : JS) (l : List (List UInt8)) (left : Int) : Int :=
  if j.off = true then 3 else if (∃ b ∈ l, 1048576 < b.length) then 1 else if left < takesL l then 2 else 0
instance (l : List (List UInt8)) : Decidable (∃ b ∈ l, 1048576 < b.length) := inferInstance
def usedJ (j : JS) : Int := takesL j.l
def appendJ (d : DS) (j : JS) (b : List UInt8) : DS × JS × Int :=
  if refuseJ j [b] (j.half.room - usedJ j) ≠ 0 then (d, j, refuseJ j [b] (j.half.room - usedJ j))
  else
    let a := usedJ j
    let r := andThen (andThen (packH d j.half a b) (fun x => zeroH x j.half (a + takesB b))) synD
    let r2 := andThen (andThen r (fun x => wrD x (j.half.fr + a) (putB (markH j.half j.l.length b)))) synD
    if r2.2 = true then (r2.1, { j with l := j.l ++ [b] }, 0) else (r2.1, { j with off := true }, 3)
def layG (d : DS) (h : Half) : Int → Int → List (List UInt8) → DS × Bool × Int
  | a, _, [] => (d, true, a)
  | a, i, b :: bs =>
    let r := andThen (wrD d (h.fr + a) (putB (markH h i b))) (fun x => packH x h a b)
    if r.2 = true then layG r.1 h (a + takesB b) (i + 1) bs else (r.1, false, a)
def layH (d : DS) (h : Half) (l : List (List UInt8)) : DS × Bool :=
  let r := layG d h 0 0 l
  if r.2.1 = true then andThen (zeroH r.1 h r.2.2) synD else (r.1, false)
def resetJ (d : DS) (j : JS) (l : List (List UInt8)) : DS × JS × Int :=
  if refuseJ j l j.half.room ≠ 0 then (d, j, refuseJ j l j.half.room)
  else
    let h := halfD d (j.half.gen + 1)
    let r := andThen (layH d h l) (fun x => leadH x h)
    if r.2 = true then (r.1, { j with half := h, l := l }, 0) else (r.1, { j with off := true }, 3)
end Go.Proofs.YthgfmoogagldmaaGreat.Journal
namespace Go.Proofs.YthgfmoogagldmaaGreat.Journal
open Go.RowKit Disk Go.Proofs.YthgfmoogagldmaaGreat.Frame
section
variable {w w' : World} {p g b cap : Nat} {W : List Nat} {d : DS}
def ReadJ (w : World) (d : DS) (i : Int) (x : Ending) (w' : World) : Prop := ∃ (A : Option Addr) (n c : Nat) (e : Int), x = .returned (.tuple #[.slice A n c, .int .i64 e]) ∧ Bytes w' w'.heap.size A n (rdD d i) ∧ n ≤ c ∧ c ≤ maxLen ∧ Only [] w w' ∧ ∀ k ∈ blkOf A, w.heap.size ≤ k
theorem read_j (h : IsD w p g b W cap d) (i : Int) : Calls Tryz.prog 86 #[.pointer (some ⟨p, 0, none⟩), .int .i64 i] w fun x w' => ReadJ w d i x w' :=
  (read_any h i).mono fun x w' hx => by
    unfold ReadO at hx
    unfold ReadJ rdD
    split at hx
    · rename_i ho
      obtain ⟨rfl, ho2⟩ := hx
      rw [if_pos ho]
      exact ⟨none, 0, 0, 3, rfl, Bytes.nil_, Nat.le_refl _, by simp [maxLen], ho2, fun k hk => (by cases hk)⟩
    · rename_i ho
      rw [if_neg ho]
      split at hx
      · rename_i hi
        obtain ⟨q, c, rfl, hq, hown, hc1, hc2, ho2⟩ := hx
        rw [if_pos hi]
        exact ⟨_, 64, c, 0, rfl, hown.reads, hc1, hc2, ho2, fun k hk => by simp [blkOf] at hk; omega⟩
      · rename_i hi
        obtain ⟨rfl, ho2⟩ := hx
        rw [if_neg hi]
        exact ⟨none, 0, 0, 1, rfl, Bytes.nil_, Nat.le_refl _, by simp [maxLen], ho2, fun k hk => (by cases hk)⟩
def DeedJ (w : World) (p g b : Nat) (W : List Nat) (cap : Nat) (r : DS × Bool) (x : Ending) (w' : World) : Prop := ∃ e : Int, x = .returned (.int .i64 e) ∧ (e == 0) = r.2 ∧ Did w p g b W cap r.1 w'
theorem write_j (h : IsD w p g b W cap d) (i : Int) {A : Option Addr} {n c B : Nat} {l : List UInt8} (hr : Bytes w B A n l) (hB : B ≤ w.heap.size) (hd : d.done ≤ 4611686018427387904) (hn : n ≤ 1000000000) :
    Calls Tryz.prog 106 #[.pointer (some ⟨p, 0, none⟩), .int .i64 i, .slice A n c] w fun x w' => DeedJ w p g b W cap (wrD d i l) x w' :=
  (write_any h i hr hB hd hn).mono fun x w' hx => by
    unfold WriteO at hx
    unfold DeedJ wrD
    split at hx
    · rename_i ho
      rw [if_pos ho]
      exact ⟨3, hx.1, rfl, hx.2⟩
    · rename_i ho
      rw [if_neg ho]
      split at hx
      · rename_i hi
        rw [if_pos hi]
        exact ⟨0, hx.1, rfl, hx.2⟩
      · rename_i hi
        rw [if_neg hi]
        exact ⟨1, hx.1, rfl, hx.2⟩
end
def Half.val (h : Half) (p : Nat) : Value := .agg #[.pointer (some ⟨p, 0, none⟩), .int .i64 h.gen, .int .i64 h.fr, .int .i64 h.room]
def Half.small (h : Half) : Prop := (0 ≤ h.gen ∧ h.gen ≤ 4611686018427387904) ∧ (0 ≤ h.fr ∧ h.fr ≤ 200000) ∧ (0 ≤ h.room ∧ h.room ≤ 100000)
def BoolJ (w : World) (p g b : Nat) (W : List Nat) (cap : Nat) (r : DS × Bool) (x : Ending) (w' : World) : Prop := x = .returned (.bool r.2) ∧ Did w p g b W cap r.1 w'
section
variable {w w' : World} {p g b cap : Nat} {W : List Nat} {d : DS}
theorem put_any (hd : IsD w p g b W cap d) (h : Half) (hs : h.small) (a : Int) (ha : 0 ≤ a ∧ a ≤ 200000) {A : Option Addr} {n c B : Nat} {l : List UInt8} (hr : Bytes w B A n l) (hB : B ≤ w.heap.size) (hdn : d.done ≤ 4611686018427387904) (hn : n ≤ 1000000000) :
    Calls Tryz.prog 66 #[h.val p, .int .i64 a, .slice A n c] w fun x w' => BoolJ w p g b W cap (wrD d (h.fr + a) l) x w' := by
  have ho := (Only.refl [] w).alloc (.cells #[.pointer (some ⟨p, 0, none⟩), .int .i64 h.gen, .int .i64 h.fr, .int .i64 h.room] 63)
  have HW := Lib.hid (write_j (hd.only0 ho) (h.fr + a) (c := c) (hr.only ho (by simp)) (Nat.le_trans hB ho.size) hdn hn)
  have HO := Lib.hid ho
  obtain ⟨_, ⟨f0, f1⟩, _⟩ := hs
  obtain ⟨a0, a1⟩ := ha
  obtain ⟨gen, fr, room⟩ := h
  unfold Half.val
  simp only at f0 f1 HW ⊢
  clear hd hr hB ho
  go_enter Tryz.func66, Tryz.ntmps66
  go_wp2_with (go_at_call 106; refine HW.out.mono ?_; rintro x w2 ⟨e, rfl, he, hdid⟩; have HE := Lib.hid he; have HDD := Lib.hid hdid; clear he hdid)
  go_ret
  exact ⟨by rw [← HE.out]; rfl, did_after HO.out HDD.out⟩
def GetJ (w : World) (l : List UInt8) (x : Ending) (w' : World) : Prop := ∃ (A : Option Addr) (n c : Nat), x = .returned (.slice A n c) ∧ Bytes w' w'.heap.size A n l ∧ n ≤ c ∧ c ≤ maxLen ∧ Only [] w w' ∧ ∀ k ∈ blkOf A, w.heap.size ≤ k
theorem get_any (hd : IsD w p g b W cap d) (h : Half) (hs : h.small) (a : Int) (ha : 0 ≤ a ∧ a ≤ 200000) :
    Calls Tryz.prog 137 #[h.val p, .int .i64 a] w fun x w' => GetJ w (rdD d (h.fr + a)) x w' := by
  have ho := (Only.refl [] w).alloc (.cells #[.pointer (some ⟨p, 0, none⟩), .int .i64 h.gen, .int .i64 h.fr, .int .i64 h.room] 63)
  have HW := Lib.hid (read_j (hd.only0 ho) (h.fr + a))
  have HO := Lib.hid ho
  obtain ⟨_, ⟨f0, f1⟩, _⟩ := hs
  obtain ⟨a0, a1⟩ := ha
  obtain ⟨gen, fr, room⟩ := h
  unfold Half.val
  simp only at f0 f1 HW ⊢
  clear hd ho
  go_enter Tryz.func137, Tryz.ntmps137
  go_wp2_with (go_at_call 86; refine HW.out.mono ?_; rintro x w2 ⟨A, n, c, e, rfl, hb, hc1, hc2, ho2, hf2⟩; have HB := Lib.hid hb; have HO2 := Lib.hid ho2; have HF2 := Lib.hid hf2; clear hb ho2 hf2)
  go_ret
  exact ⟨A, n, c, rfl, HB.out, hc1, hc2, HO.out.trans HO2.out (by simp), fun k hk => Nat.le_trans HO.out.size (HF2.out k hk)⟩
end
end Go.Proofs.YthgfmoogagldmaaGreat.Journal
