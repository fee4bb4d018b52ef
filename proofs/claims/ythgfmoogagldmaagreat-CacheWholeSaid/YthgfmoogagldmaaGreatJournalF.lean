/- JournalF: Append, whole; What the journal must know, reckoned; A journal on its disk, held together; what the journal must know; What the journal must know. -/
import Derived.Test.YthgfmoogagldmaaGreatJournalN
import Derived.Test.YthgfmoogagldmaaGreatJWalk16q
import Derived.Test.YthgfmoogagldmaaGreatJournalL
import Derived.Test.YthgfmoogagldmaaGreatJournalD
import Derived.Test.YthgfmoogagldmaaGreatJournalE
set_option linter.unusedVariables false
set_option maxRecDepth 100000
namespace Go.Proofs.YthgfmoogagldmaaGreat.Journal
open Go.RowKit Go.Shelf Disk Go.Proofs.YthgfmoogagldmaaGreat.Frame
section
variable {w w' w7 w8 w9 : World} {p g b cap q base : Nat} {W : List Nat} {d : DS} {js : JS} {v v' : Value} {ss : List Sl} {l : List UInt8}
theorem append_any (hd : IsD w p g b W cap d) (hn2 : 2 ≤ d.n) (hj : IsJ w p g b q base js v ss) (hWT : ∀ k ∈ W, k ∉ q :: ownL v) (A : Option Addr) (n c : Nat) (l : List UInt8) (hr : Bytes w w.heap.size A n l) (hn : n ≤ 2000) (hnc : n ≤ c) (hcm : c ≤ maxLen) (hfar : 0 < n → ∀ k ∈ blkOf A, k ∉ JT p g b q v) (hsl : ss.length ≤ 100000) (hdn : d.done ≤ 4611686018427000000) (hbase : base ≤ w.heap.size) :
    Calls Tryz.prog 15 #[.pointer (some ⟨q, 0, none⟩), .slice A n c] w fun x w' => AppO w p g b W cap q base v ss (appendJ d js l) x w' := by
  by_cases hre : refuseJ js [l] (js.half.room - usedJ js) = 0
  · obtain ⟨⟨D1, b1⟩, hP⟩ : ∃ r, packH d js.half (usedJ js) l = r := ⟨_, rfl⟩
    obtain ⟨⟨D2, b2⟩, hZ⟩ : ∃ r, zeroH D1 js.half (usedJ js + takesB l) = r := ⟨_, rfl⟩
    obtain ⟨⟨D3, b3⟩, hS⟩ : ∃ r, synD D2 = r := ⟨_, rfl⟩
    obtain ⟨⟨D4, b4⟩, hM⟩ : ∃ r, wrD D3 (js.half.fr + usedJ js) (putB (markH js.half js.l.length l)) = r := ⟨_, rfl⟩
    obtain ⟨⟨D5, b5⟩, hS2⟩ : ∃ r, synD D4 = r := ⟨_, rfl⟩
    cases e1 : b1 with
    | false => exact append_no0 hd hn2 hj hWT A n c l hr hn hnc hcm hfar hsl hdn hre hP hZ hS hM hS2 e1
    | true =>
      cases e2 : b2 with
      | false => exact append_no1 hd hn2 hj hWT A n c l hr hn hnc hcm hfar hsl hdn hre hP hZ hS hM hS2 ⟨e1, e2⟩
      | true =>
        cases e3 : b3 with
        | false => exact append_no2 hd hn2 hj hWT A n c l hr hn hnc hcm hfar hsl hdn hre hP hZ hS hM hS2 ⟨e1, e2, e3⟩
        | true =>
          cases e4 : b4 with
          | false => exact append_ok1 hd hn2 hj hWT A n c l hr hn hnc hcm hfar hsl hdn hre hP hZ hS hM hS2 hbase ⟨e1, e2, e3, e4⟩
          | true =>
            cases e5 : b5 with
            | false => exact append_ok2 hd hn2 hj hWT A n c l hr hn hnc hcm hfar hsl hdn hre hP hZ hS hM hS2 hbase ⟨e1, e2, e3, e4, e5⟩
            | true => exact append_ok3 hd hn2 hj hWT A n c l hr hn hnc hcm hfar hsl hdn hre hP hZ hS hM hS2 hbase ⟨e1, e2, e3, e4, e5⟩
  · exact append_refused hd hn2 hj hWT A n c l hr hn hnc hcm hfar hsl hdn hre
end
end Go.Proofs.YthgfmoogagldmaaGreat.Journal
namespace Go.Proofs.YthgfmoogagldmaaGreat.Journal
open Disk Go.Proofs.YthgfmoogagldmaaGreat.Frame
def k0 : DS × Option JS × Int := openJ (newD 20)
def kj0 : JS := ⟨halfN 20 1, [], false⟩
def k1 : DS × JS × Int := appendJ k0.1 kj0 [97, 98]
def k2 : DS × JS × Int := appendJ (stopD k1.1 3) k1.2.1 [99, 100]
def k3 : DS := crashD k2.1 [2, 2, 2] []
theorem k0_e : k0.2 = (some kj0, 0) := by kernel_rfl
theorem k0_n : k0.1.n = 20 ∧ k0.1.done = 4 ∧ newestD (newD 20) = 0 := ⟨by kernel_rfl, by kernel_rfl, by kernel_rfl⟩
end Go.Proofs.YthgfmoogagldmaaGreat.Journal
namespace Go.Proofs.YthgfmoogagldmaaGreat.Journal
open Go.RowKit Go.Shelf Disk Go.Proofs.YthgfmoogagldmaaGreat.Frame
def Abv (m : Nat) (w w' : World) : Prop := ∃ S, Only S w w' ∧ ∀ k ∈ S, m ≤ k
theorem Abv.trans {m : Nat} {w w' w'' : World} (h : Abv m w w') (k : Abv m w' w'') : Abv m w w'' := by
  obtain ⟨S, h1, h2⟩ := h
  obtain ⟨T, k1, k2⟩ := k
  exact ⟨S ++ T, (h1.mono (fun g hg => .inl (by simp [hg]))).trans k1 (fun g hg => .inl (by simp [hg])), fun g hg => by
    rcases List.mem_append.1 hg with hg | hg
    · exact h2 g hg
    · exact k2 g hg⟩
theorem Abv.only {m : Nat} {w w' : World} (h : Abv m w w') (hm : w.heap.size ≤ m) : Only [] w w' := by
  obtain ⟨S, h1, h2⟩ := h
  exact h1.mono (fun g hg => .inr (Nat.le_trans hm (h2 g hg)))
theorem Abv.size {m : Nat} {w w' : World} (h : Abv m w w') : w.heap.size ≤ w'.heap.size := h.choose_spec.1.size
def JW (w : World) (p g b q cap base : Nat) (d : DS) (js : JS) : Prop := ∃ W v ss, IsD w p g b W cap d ∧ IsJ w p g b q base js v ss ∧ (∀ k ∈ W, k ∉ q :: ownL v) ∧ base ≤ w.heap.size
section
variable {w ws w' : World} {p g b q cap base m : Nat} {d : DS} {js : JS}
theorem JW.only0 (h : JW w p g b q cap base d js) (ho : Only [] w w') : JW w' p g b q cap base d js := by
  obtain ⟨W, v, ss, h1, h2, h3, h4⟩ := h
  exact ⟨W, v, ss, h1.only0 ho, h2.only0 ho, h3, Nat.le_trans h4 ho.size⟩
theorem JW.did {W : List Nat} {v : Value} {ss : List Sl} {d' : DS} (hd : IsD w p g b W cap d) (hj : IsJ w p g b q base js v ss) (hWT : ∀ k ∈ W, k ∉ q :: ownL v) (hb : base ≤ w.heap.size) (hm : m ≤ p ∧ m ≤ g ∧ m ≤ b) (h : Did w p g b W cap d' w') : JW w' p g b q cap base d' js ∧ Abv m w w' := by
  obtain ⟨W', h1, h2, h3⟩ := h
  refine ⟨⟨W', v, ss, h1, hj.deed hd h3, fun k hk hm => ?_, Nat.le_trans hb h3.size⟩, [p, g, b], h3, by simp; omega⟩
  rcases h2 k hk with e | e
  · exact hWT k e hm
  · rcases List.mem_cons.1 hm with e2 | e2
    · have := hj.lt; omega
    · have := (hj.own.lt k e2).2; omega
theorem JW.append (h : JW ws p g b q cap base d js) (hm : m ≤ p ∧ m ≤ g ∧ m ≤ b ∧ m ≤ q ∧ m ≤ base) (ho : Only [] ws w) (hn2 : 2 ≤ d.n) (A : Option Addr) (n c : Nat) (l : List UInt8) (hr : Bytes w w.heap.size A n l) (hn : n ≤ 2000) (hnc : n ≤ c) (hcm : c ≤ maxLen) (hfar : 0 < n → ∀ k ∈ blkOf A, k < m ∨ ws.heap.size ≤ k) (hsl : js.l.length ≤ 100000) (hdn : d.done ≤ 4611686018427000000) :
    Calls Tryz.prog 15 #[.pointer (some ⟨q, 0, none⟩), .slice A n c] w fun x w' => x = .returned (.int .i64 (appendJ d js l).2.2) ∧ JW w' p g b q cap base (appendJ d js l).1 (appendJ d js l).2.1 ∧ Abv m w w' := by
  obtain ⟨W, v, ss, h1, h2, h3, h4⟩ := h
  have hpb : p < ws.heap.size ∧ g < ws.heap.size ∧ b < ws.heap.size := by
    have e2 := h1.blk.lt
    obtain ⟨C, c1, _⟩ := h1.safe
    have e3 := c1.lt
    have e4 := isD_map_lt h1
    omega
  have hq := h2.lt
  refine (append_any (h1.only0 ho) hn2 (h2.only0 ho) h3 A n c l hr hn hnc hcm (fun h k hk hm2 => ?_) (by rw [← h2.l, List.length_map] at hsl; exact hsl) hdn (Nat.le_trans h4 ho.size)).mono ?_
  · unfold JT at hm2
    simp only [List.mem_cons] at hm2
    have := hfar h k hk
    rcases hm2 with e | e | e | e | e
    · omega
    · omega
    · omega
    · omega
    · have := h2.own.lt k e; omega
  · rintro x w' ⟨rfl, W', v', ss', k1, k2, k3, k4, k5, k6, _⟩
    refine ⟨rfl, ⟨W', v', ss', k1, k3, k6, Nat.le_trans (Nat.le_trans h4 ho.size) k4.size⟩, _, k4, fun k hk => ?_⟩
    unfold JT at hk
    simp only [List.mem_cons] at hk
    rcases hk with e | e | e | e | e
    · omega
    · omega
    · omega
    · omega
    · have := (h2.own.lt k e).1; omega
end
end Go.Proofs.YthgfmoogagldmaaGreat.Journal
namespace Go.Proofs.YthgfmoogagldmaaGreat.Journal
open Go.RowKit Go.Shelf Disk Go.Proofs.YthgfmoogagldmaaGreat.Frame
def Old (w : World) (p g b q base : Nat) (js : JS) : Prop := ∃ v ss, IsJ w p g b q base js v ss
section
variable {w ws w' : World} {p g b q cap base m : Nat} {d : DS} {js : JS}
theorem JW.old (h : JW w p g b q cap base d js) : Old w p g b q base js := by
  obtain ⟨W, v, ss, h1, h2, _⟩ := h
  exact ⟨v, ss, h2⟩
theorem Old.only0 (h : Old w p g b q base js) (ho : Only [] w w') : Old w' p g b q base js := by
  obtain ⟨v, ss, h⟩ := h
  exact ⟨v, ss, h.only0 ho⟩
theorem JW.lt (h : JW w p g b q cap base d js) : p < w.heap.size ∧ g < w.heap.size ∧ b < w.heap.size ∧ q < w.heap.size ∧ base ≤ w.heap.size := by
  obtain ⟨W, v, ss, h1, h2, _, h4⟩ := h
  have e2 := h1.blk.lt
  obtain ⟨C, c1, _⟩ := h1.safe
  have e3 := c1.lt
  have e4 := isD_map_lt h1
  have := h2.lt
  omega
theorem JW.stop (h : JW w p g b q cap base d js) (a : Int) (ha : a ≤ 9223372036854775807) (hm : m ≤ p ∧ m ≤ g ∧ m ≤ b) : Calls Tryz.prog 18 #[.pointer (some ⟨p, 0, none⟩), .int .i64 a] w fun x w' => x = .returned (.tuple #[]) ∧ JW w' p g b q cap base (stopD d a) js ∧ Abv m w w' := by
  obtain ⟨W, v, ss, h1, h2, h3, h4⟩ := h
  exact (stop_any h1 a ha).mono fun x w' ⟨k1, k2⟩ => ⟨k1, JW.did h1 h2 h3 h4 hm k2⟩
theorem JW.crash (h : JW w p g b q cap base d js) (A : Option Addr) (n c : Nat) (fs : List Int) (hl : fs.length = n) (hr : Reads w w.heap.size 1 A n (fs.map (Value.int .i64))) (hn : n ≤ 1000000) (hgA : 0 < n → ∀ k ∈ blkOf A, k ≠ g) (hm : m ≤ p ∧ m ≤ g ∧ m ≤ b) :
    Calls Tryz.prog 21 #[.pointer (some ⟨p, 0, none⟩), .slice A n c] w fun x w' => ∃ ks, waitsD d ks ∧ (∀ i ∈ ks, i < d.n) ∧ x = .returned (.tuple #[]) ∧ JW w' p g b q cap base (crashD d fs ks) js ∧ Abv m w w' := by
  subst hl
  obtain ⟨W, v, ss, h1, h2, h3, h4⟩ := h
  refine (crash_any A c h1 fs hr hn hgA).mono ?_
  rintro x w' ⟨ks, k1, rfl, k2⟩
  exact ⟨ks, k1, fun i hi => by
    obtain ⟨l, hl⟩ := Option.isSome_iff_exists.1 ((k1.2 i).1 hi)
    exact (h1.wait_lt hl).1, rfl, JW.did h1 h2 h3 h4 hm k2⟩
theorem JW.groups (h : JW w p g b q cap base d js) (hn : js.l.length ≤ 1000000) : Calls Tryz.prog 23 #[.pointer (some ⟨q, 0, none⟩)] w fun x w' => GroupsO w js.l x w' := by
  obtain ⟨W, v, ss, h1, h2, h3, h4⟩ := h
  exact groups_is h2 (by rw [← h2.l, List.length_map] at hn; exact hn)
theorem Old.down (h : Old w p g b q base js) : Calls Tryz.prog 19 #[.pointer (some ⟨q, 0, none⟩)] w fun x w' => x = .returned (.bool js.off) ∧ w' = w := by
  obtain ⟨v, ss, h⟩ := h
  exact jdown_is h
theorem k0_s : openJ (newD 20) = (k0.1, some kj0, 0) := Prod.ext rfl k0_e
theorem tri {α β γ : Type} (x : α × β × γ) {r : γ} (h : x.2.2 = r) : x = (x.1, x.2.1, r) := by
  obtain ⟨a, b, c⟩ := x
  simp only at h
  rw [h]
end
end Go.Proofs.YthgfmoogagldmaaGreat.Journal
