/- JournalF: Append, whole; What the journal must know, reckoned; A journal on its disk, held together; what the journal must know; What the journal must know. -/
import Derived.Test.YthgfmoogagldmaaGreatJournalN
import Derived.Test.YthgfmoogagldmaaGreatJWalk16q
import Derived.Test.YthgfmoogagldmaaGreatJournalL
import Derived.Test.YthgfmoogagldmaaGreatJournalD
import Derived.Test.YthgfmoogagldmaaGreatJournalE
set_option linter.unusedVariables false
set_option maxRecDepth 100000
namespace Go.Proofs.YthgfmoogagldmaaGreat.Journal
open Go.RowKit Go.Shelf Disk Go.Proofs.YthgfmoogagldmaaGreat.Frame
section
variable {w w' w7 w8 w9 : World} {p g b cap q base : Nat} {W : List Nat} {d : DS} {js : JS} {v v' : Value} {ss : List Sl} {l : List UInt8}
theorem append_any (hd : IsD w p g b W cap d) (hn2 : 2 ≤ d.n) (hj : IsJ w p g b q base js v ss) (hWT : ∀ k ∈ W, k ∉ q :: ownL v) (A : Option Addr) (n c : Nat) (l : List UInt8) (hr : Bytes w w.heap.size A n l) (hn : n ≤ 2000) (hnc : n ≤ c) (hcm : c ≤ maxLen) (hfar : 0 < n → ∀ k ∈ blkOf A, k ∉ JT p g b q v) (hsl : ss.length ≤ 100000) (hdn : d.done ≤ 4611686018427000000) (hbase : base ≤ w.heap.size) :
    Calls Tryz.prog 15 #[.pointer (some ⟨q, 0, none⟩), .slice A n c] w fun x w' => AppO w p g b W cap q base v ss (appendJ d js l) x w' := by
  by_cases hre : refuseJ js [l] (js.half.room - usedJ js) = 0
  · obtain ⟨⟨D1, b1⟩, hP⟩ : ∃ r, packH d js.half (usedJ js) l = r := ⟨_, rfl⟩
    obtain ⟨⟨D2, b2⟩, hZ⟩ : ∃ r, zeroH D1 js.half (usedJ js + takesB l) = r := ⟨_, rfl⟩
    obtain ⟨⟨D3, b3⟩, hS⟩ : ∃ r, synD D2 = r := ⟨_, rfl⟩
    obtain ⟨⟨D4, b4⟩, hM⟩ : ∃ r, wrD D3 (js.half.fr + usedJ js) (putB (markH js.half js.l.length l)) = r := ⟨_, rfl⟩
    obtain ⟨⟨D5, b5⟩, hS2⟩ : ∃ r, synD D4 = r := ⟨_, rfl⟩
    cases e1 : b1 with
    | false => exact append_no0 hd hn2 hj hWT A n c l hr hn hnc hcm hfar hsl hdn hre hP hZ hS hM hS2 e1
    | true =>
      cases e2 : b2 with
      | false => exact append_no1 hd hn2 hj hWT A n c l hr hn hnc hcm hfar hsl hdn hre hP hZ hS hM hS2 ⟨e1, e2⟩
      | true =>
        cases e3 : b3 with
        | false => exact append_no2 hd hn2 hj hWT A n c l hr hn hnc hcm hfar hsl hdn hre hP hZ hS hM hS2 ⟨e1, e2, e3⟩
        | true =>
          cases e4 : b4 with
          | false => exact append_ok1 hd hn2 hj hWT A n c l hr hn hnc hcm hfar hsl hdn hre hP hZ hS hM hS2 hbase ⟨e1, e2, e3, e4⟩
          | true =>
            cases e5 : b5 with
            | false => exact append_ok2 hd hn2 hj hWT A n c l hr hn hnc hcm hfar hsl hdn hre hP hZ hS hM hS2 hbase ⟨e1, e2, e3, e4, e5⟩
            | true => exact append_ok3 hd hn2 hj hWT A n c l hr hn hnc hcm hfar hsl hdn hre hP hZ hS hM hS2 hbase ⟨e1, e2, e3, e4, e5⟩
  · exact append_refused hd hn2 hj hWT A n c l hr hn hnc hcm hfar hsl hdn hre
end
end Go.Proofs.YthgfmoogagldmaaGreat.Journal
namespace Go.Proofs.YthgfmoogagldmaaGreat.Journal
open Disk Go.Proofs.YthgfmoogagldmaaGreat.Frame
def k0 : DS × Option JS × Int := openJ (newD 20)
def kj0 : JS := ⟨halfN 20 1, [], false⟩
def k1 : DS × JS × Int := appendJ k0.1 kj0 [97, 98]
def k2 : DS × JS × Int := appendJ (stopD k1.1 3) k1.2.1 [99, 100]
def k3 : DS := crashD k2.1 [2, 2, 2] []
theorem k0_e : k0.2 = (some kj0, 0) := by kernel_rfl
theorem k0_n : k0.1.n = 20 ∧ k0.1.done = 4 ∧ newestD (newD 20) = 0 := ⟨by kernel_rfl, by kernel_rfl, by kernel_rfl⟩
theorem k1_e : k1.2.2 = 0 := by kernel_rfl
theorem k1_n : (stopD k1.1 3).n = 20 ∧ (stopD k1.1 3).done = 9 := ⟨by kernel_rfl, by kernel_rfl⟩
theorem k1_l : k1.2.1 = ⟨halfN 20 1, [[97, 98]], false⟩ := by kernel_rfl
theorem k2_e : k2.2.2 = 3 := by kernel_rfl
theorem k2_j : k2.2.1 = ⟨halfN 20 1, [[97, 98]], true⟩ := by kernel_rfl
theorem k2_w : (List.range 20).map k2.1.wait = List.replicate 20 none := by kernel_rfl
theorem k3_n : k3.n = 20 ∧ k3.done = 12 ∧ newestD k3 = 1 := ⟨by kernel_rfl, by kernel_rfl, by kernel_rfl⟩
theorem k3_e : (openJ k3).2 = (some ⟨halfN 20 1, [[97, 98]], false⟩, 0) := by kernel_rfl
end Go.Proofs.YthgfmoogagldmaaGreat.Journal
namespace Go.Proofs.YthgfmoogagldmaaGreat.Journal
open Go.RowKit Go.Shelf Disk Go.Proofs.YthgfmoogagldmaaGreat.Frame
def Abv (m : Nat) (w w' : World) : Prop := ∃ S, Only S w w' ∧ ∀ k ∈ S, m ≤ k
theorem Abv.of0 {m : Nat} {w w' : World} (h : Only [] w w') : Abv m w w' := ⟨[], h, by simp⟩
theorem Abv.trans {m : Nat} {w w' w'' : World} (h : Abv m w w') (k : Abv m w' w'') : Abv m w w'' := by
  obtain ⟨S, h1, h2⟩ := h
  obtain ⟨T, k1, k2⟩ := k
  exact ⟨S ++ T, (h1.mono (fun g hg => .inl (by simp [hg]))).trans k1 (fun g hg => .inl (by simp [hg])), fun g hg => by
    rcases List.mem_append.1 hg with hg | hg
    · exact h2 g hg
    · exact k2 g hg⟩
theorem Abv.only {m : Nat} {w w' : World} (h : Abv m w w') (hm : w.heap.size ≤ m) : Only [] w w' := by
  obtain ⟨S, h1, h2⟩ := h
  exact h1.mono (fun g hg => .inr (Nat.le_trans hm (h2 g hg)))
theorem Abv.size {m : Nat} {w w' : World} (h : Abv m w w') : w.heap.size ≤ w'.heap.size := h.choose_spec.1.size
def JW (w : World) (p g b q cap base : Nat) (d : DS) (js : JS) : Prop := ∃ W v ss, IsD w p g b W cap d ∧ IsJ w p g b q base js v ss ∧ (∀ k ∈ W, k ∉ q :: ownL v) ∧ base ≤ w.heap.size
section
variable {w ws w' : World} {p g b q cap base m : Nat} {d : DS} {js : JS}
theorem JW.only0 (h : JW w p g b q cap base d js) (ho : Only [] w w') : JW w' p g b q cap base d js := by
  obtain ⟨W, v, ss, h1, h2, h3, h4⟩ := h
  exact ⟨W, v, ss, h1.only0 ho, h2.only0 ho, h3, Nat.le_trans h4 ho.size⟩
theorem JW.did {W : List Nat} {v : Value} {ss : List Sl} {d' : DS} (hd : IsD w p g b W cap d) (hj : IsJ w p g b q base js v ss) (hWT : ∀ k ∈ W, k ∉ q :: ownL v) (hb : base ≤ w.heap.size) (hm : m ≤ p ∧ m ≤ g ∧ m ≤ b) (h : Did w p g b W cap d' w') : JW w' p g b q cap base d' js ∧ Abv m w w' := by
  obtain ⟨W', h1, h2, h3⟩ := h
  refine ⟨⟨W', v, ss, h1, hj.deed hd h3, fun k hk hm => ?_, Nat.le_trans hb h3.size⟩, [p, g, b], h3, by simp; omega⟩
  rcases h2 k hk with e | e
  · exact hWT k e hm
  · rcases List.mem_cons.1 hm with e2 | e2
    · have := hj.lt; omega
    · have := (hj.own.lt k e2).2; omega
theorem JW.append (h : JW ws p g b q cap base d js) (hm : m ≤ p ∧ m ≤ g ∧ m ≤ b ∧ m ≤ q ∧ m ≤ base) (ho : Only [] ws w) (hn2 : 2 ≤ d.n) (A : Option Addr) (n c : Nat) (l : List UInt8) (hr : Bytes w w.heap.size A n l) (hn : n ≤ 2000) (hnc : n ≤ c) (hcm : c ≤ maxLen) (hfar : 0 < n → ∀ k ∈ blkOf A, k < m ∨ ws.heap.size ≤ k) (hsl : js.l.length ≤ 100000) (hdn : d.done ≤ 4611686018427000000) :
    Calls Tryz.prog 15 #[.pointer (some ⟨q, 0, none⟩), .slice A n c] w fun x w' => x = .returned (.int .i64 (appendJ d js l).2.2) ∧ JW w' p g b q cap base (appendJ d js l).1 (appendJ d js l).2.1 ∧ Abv m w w' := by
  obtain ⟨W, v, ss, h1, h2, h3, h4⟩ := h
  have hpb : p < ws.heap.size ∧ g < ws.heap.size ∧ b < ws.heap.size := by
    have e2 := h1.blk.lt
    obtain ⟨C, c1, _⟩ := h1.safe
    have e3 := c1.lt
    have e4 := isD_map_lt h1
    omega
  have hq := h2.lt
  refine (append_any (h1.only0 ho) hn2 (h2.only0 ho) h3 A n c l hr hn hnc hcm (fun h k hk hm2 => ?_) (by rw [← h2.l, List.length_map] at hsl; exact hsl) hdn (Nat.le_trans h4 ho.size)).mono ?_
  · unfold JT at hm2
    simp only [List.mem_cons] at hm2
    have := hfar h k hk
    rcases hm2 with e | e | e | e | e
    · omega
    · omega
    · omega
    · omega
    · have := h2.own.lt k e; omega
  · rintro x w' ⟨rfl, W', v', ss', k1, k2, k3, k4, k5, k6, _⟩
    refine ⟨rfl, ⟨W', v', ss', k1, k3, k6, Nat.le_trans (Nat.le_trans h4 ho.size) k4.size⟩, _, k4, fun k hk => ?_⟩
    unfold JT at hk
    simp only [List.mem_cons] at hk
    rcases hk with e | e | e | e | e
    · omega
    · omega
    · omega
    · omega
    · have := (h2.own.lt k e).1; omega
theorem open_some {W : List Nat} (hd : IsD w p g b W cap d) (hn2 : d.n ≤ 200000) (hg : newestD d ≤ 4611686018427387000) (hdn : d.done ≤ 4611686018427000000) {D : DS} (hs : openJ d = (D, some js, 0)) (hm : m ≤ p ∧ m ≤ g ∧ m ≤ b) :
    Calls Tryz.prog 13 #[.pointer (some ⟨p, 0, none⟩)] w fun x w' => ∃ q, x = .returned (.tuple #[.pointer (some ⟨q, 0, none⟩), .int .i64 0]) ∧ w.heap.size ≤ q ∧ JW w' p g b q cap w.heap.size D js ∧ Abv m w w' ∧ Only [p, g, b] w w' := by
  refine (open_any hd hn2 hg hdn).mono ?_
  intro x w' hx
  rw [hs] at hx
  rcases hx with ⟨h1, _⟩ | ⟨js', q, v, ss, W', h1, rfl, h2, h3, h4, h5, h6, h7, h8⟩
  · cases h1
  · cases h1
    exact ⟨q, rfl, h2, ⟨W', v, ss, h3, h6, h8, h5.size⟩, ⟨_, h5, by simp; omega⟩, h5⟩
theorem num6_any (z : Int) (w : World) : Calls Tryz.prog 14 #[.int .i64 z] w fun x w' => x = .returned (.int .i64 z) ∧ w' = w := by
  go_enter Tryz.func14, Tryz.ntmps14
  go_wp2_with fail
  go_ret
  exact ⟨rfl, rfl⟩
end
end Go.Proofs.YthgfmoogagldmaaGreat.Journal
namespace Go.Proofs.YthgfmoogagldmaaGreat.Journal
open Go.RowKit Go.Shelf Disk Go.Proofs.YthgfmoogagldmaaGreat.Frame
def Old (w : World) (p g b q base : Nat) (js : JS) : Prop := ∃ v ss, IsJ w p g b q base js v ss
section
variable {w ws w' : World} {p g b q cap base m : Nat} {d : DS} {js : JS}
theorem JW.old (h : JW w p g b q cap base d js) : Old w p g b q base js := by
  obtain ⟨W, v, ss, h1, h2, _⟩ := h
  exact ⟨v, ss, h2⟩
theorem Old.only0 (h : Old w p g b q base js) (ho : Only [] w w') : Old w' p g b q base js := by
  obtain ⟨v, ss, h⟩ := h
  exact ⟨v, ss, h.only0 ho⟩
theorem JW.lt (h : JW w p g b q cap base d js) : p < w.heap.size ∧ g < w.heap.size ∧ b < w.heap.size ∧ q < w.heap.size ∧ base ≤ w.heap.size := by
  obtain ⟨W, v, ss, h1, h2, _, h4⟩ := h
  have e2 := h1.blk.lt
  obtain ⟨C, c1, _⟩ := h1.safe
  have e3 := c1.lt
  have e4 := isD_map_lt h1
  have := h2.lt
  omega
theorem JW.app2 (h : JW ws p g b q cap base d js) (hm : m ≤ p ∧ m ≤ g ∧ m ≤ b ∧ m ≤ q ∧ m ≤ base) (hn2 : 2 ≤ d.n) (x y : UInt8) {zx zy : Int} (hx : (x.toNat : Int) = zx) (hy : (y.toNat : Int) = zy) (hsl : js.l.length ≤ 100000) (hdn : d.done ≤ 4611686018427000000) {D : DS} {js' : JS} {r : Int} (hr : appendJ d js [x, y] = (D, js', r)) {e : TypeId} {fr : Nat × Nat} :
    Calls Tryz.prog 15 #[.pointer (some ⟨q, 0, none⟩), .slice (some ⟨ws.heap.size, 0, none⟩) 2 2] (ws.alloc (.cells #[.int .u8 zx, .int .u8 zy] e fr)) fun x w' => x = .returned (.int .i64 r) ∧ JW w' p g b q cap base D js' ∧ Abv m ws w' := by
  subst hx
  subst hy
  have ho : Only [] ws (ws.alloc (.cells #[.int .u8 (x.toNat : Int), .int .u8 (y.toNat : Int)] e fr)) := (Only.refl [] ws).alloc _
  have hb : Bytes (ws.alloc (.cells #[.int .u8 (x.toNat : Int), .int .u8 (y.toNat : Int)] e fr)) (ws.heap.size + 1) (some ⟨ws.heap.size, 0, none⟩) 2 [x, y] := Bytes.const ws [x, y] _ e fr rfl
  have := h.append hm ho hn2 (some ⟨ws.heap.size, 0, none⟩) 2 2 [x, y] (hb.more (by rw [World.size_alloc]; exact Nat.le_refl _)) (by decide) (by decide) (by decide) (fun _ k hk => by simp [blkOf] at hk; omega) hsl hdn
  rw [hr] at this
  exact this.mono fun x w' ⟨h1, h2, h3⟩ => ⟨h1, h2, (Abv.of0 ho).trans h3⟩
theorem JW.stop (h : JW w p g b q cap base d js) (a : Int) (ha : a ≤ 9223372036854775807) (hm : m ≤ p ∧ m ≤ g ∧ m ≤ b) : Calls Tryz.prog 18 #[.pointer (some ⟨p, 0, none⟩), .int .i64 a] w fun x w' => x = .returned (.tuple #[]) ∧ JW w' p g b q cap base (stopD d a) js ∧ Abv m w w' := by
  obtain ⟨W, v, ss, h1, h2, h3, h4⟩ := h
  exact (stop_any h1 a ha).mono fun x w' ⟨k1, k2⟩ => ⟨k1, JW.did h1 h2 h3 h4 hm k2⟩
theorem JW.crash (h : JW w p g b q cap base d js) (A : Option Addr) (n c : Nat) (fs : List Int) (hl : fs.length = n) (hr : Reads w w.heap.size 1 A n (fs.map (Value.int .i64))) (hn : n ≤ 1000000) (hgA : 0 < n → ∀ k ∈ blkOf A, k ≠ g) (hm : m ≤ p ∧ m ≤ g ∧ m ≤ b) :
    Calls Tryz.prog 21 #[.pointer (some ⟨p, 0, none⟩), .slice A n c] w fun x w' => ∃ ks, waitsD d ks ∧ (∀ i ∈ ks, i < d.n) ∧ x = .returned (.tuple #[]) ∧ JW w' p g b q cap base (crashD d fs ks) js ∧ Abv m w w' := by
  subst hl
  obtain ⟨W, v, ss, h1, h2, h3, h4⟩ := h
  refine (crash_any A c h1 fs hr hn hgA).mono ?_
  rintro x w' ⟨ks, k1, rfl, k2⟩
  exact ⟨ks, k1, fun i hi => by
    obtain ⟨l, hl⟩ := Option.isSome_iff_exists.1 ((k1.2 i).1 hi)
    exact (h1.wait_lt hl).1, rfl, JW.did h1 h2 h3 h4 hm k2⟩
theorem JW.open_some (h : JW w p g b q cap base d js) (hn2 : d.n ≤ 200000) (hg : newestD d ≤ 4611686018427387000) (hdn : d.done ≤ 4611686018427000000) {D : DS} {js' : JS} (hs : openJ d = (D, some js', 0)) (hm : m ≤ p ∧ m ≤ g ∧ m ≤ b) :
    Calls Tryz.prog 13 #[.pointer (some ⟨p, 0, none⟩)] w fun x w' => ∃ q', x = .returned (.tuple #[.pointer (some ⟨q', 0, none⟩), .int .i64 0]) ∧ w.heap.size ≤ q' ∧ JW w' p g b q' cap w.heap.size D js' ∧ Abv m w w' ∧ Old w' p g b q base js := by
  obtain ⟨W, v, ss, h1, h2, h3, h4⟩ := h
  refine (Journal.open_some h1 hn2 hg hdn hs hm).mono ?_
  rintro x w' ⟨q', rfl, k1, k2, k3, k4⟩
  exact ⟨q', rfl, k1, k2, k3, v, ss, h2.deed h1 k4⟩
theorem JW.groups (h : JW w p g b q cap base d js) (hn : js.l.length ≤ 1000000) : Calls Tryz.prog 23 #[.pointer (some ⟨q, 0, none⟩)] w fun x w' => GroupsO w js.l x w' := by
  obtain ⟨W, v, ss, h1, h2, h3, h4⟩ := h
  exact groups_is h2 (by rw [← h2.l, List.length_map] at hn; exact hn)
theorem Old.down (h : Old w p g b q base js) : Calls Tryz.prog 19 #[.pointer (some ⟨q, 0, none⟩)] w fun x w' => x = .returned (.bool js.off) ∧ w' = w := by
  obtain ⟨v, ss, h⟩ := h
  exact jdown_is h
theorem one_of {ts : List Sl} {l : List UInt8} (h : ts.map (·.l) = [l]) : ∃ t, ts = [t] := by
  cases ts with
  | nil => cases h
  | cons t r =>
    cases r with
    | nil => exact ⟨t, rfl⟩
    | cons _ _ => simp at h
theorem one_group {w w' : World} {v : Value} {ts : List Sl} {l : List UInt8} (hown : OwnR 35 1 w' w.heap.size v ts.length (ts.map fun s => [s.val])) (hmap : ts.map (·.l) = [l])
    (hts : ∀ t ∈ ts, Bytes w' w'.heap.size t.A t.n t.l ∧ t.n ≤ t.c ∧ t.c ≤ maxLen ∧ t.n ≤ 1048576 ∧ ∀ k ∈ blkOf t.A, w.heap.size ≤ k) :
    ∃ (t : Sl) (A : Option Addr) (c : Nat), v = .slice A 1 c ∧ Bytes w' w'.heap.size t.A l.length l ∧ ∃ b off, A = some ⟨b, off, none⟩ ∧ w'.cell? ⟨b, off, none⟩ = some (.slice t.A l.length t.c) := by
  obtain ⟨t, rfl⟩ := one_of hmap
  obtain ⟨A, c, rfl, _, _, _, _⟩ := hown.shape (by decide)
  obtain ⟨hb, _⟩ := hts t (by simp)
  have hl : t.l = l := by simpa using hmap
  have hn : t.n = l.length := by rw [← hb.len, hl]
  have hr := reads_own hown rfl
  obtain ⟨b, off, hA, _, s, hs, _, hc⟩ := Reads.sl hr 0 (by simp)
  have : s = t := by simpa using hs
  subst this
  rw [hl, hn] at hb
  rw [hn] at hc
  exact ⟨s, A, c, rfl, hb, b, off, hA, hc⟩
theorem takes2 (w : World) (e e2 : TypeId) (fr fr2 : Nat × Nat) : Calls Tryz.prog 54 #[.slice (some ⟨w.heap.size + 1, 0, none⟩) 2 2] ((w.alloc (.cells #[.int .u8 97, .int .u8 98] e fr)).alloc (.cells #[.slice (some ⟨w.heap.size, 0, none⟩) 2 2, .slice none 0 0] e2 fr2)) fun x w' => x = .returned (.int .i64 3) ∧ w' = (w.alloc (.cells #[.int .u8 97, .int .u8 98] e fr)).alloc (.cells #[.slice (some ⟨w.heap.size, 0, none⟩) 2 2, .slice none 0 0] e2 fr2) := by
  have hs1 : (w.alloc (.cells #[.int .u8 97, .int .u8 98] e fr)).heap.size = w.heap.size + 1 := World.size_alloc _ _
  have hb : Bytes (w.alloc (.cells #[.int .u8 97, .int .u8 98] e fr)) (w.heap.size + 1) (some ⟨w.heap.size, 0, none⟩) 2 [97, 98] := Bytes.const w [97, 98] _ e fr rfl
  have hr := Reads.const (w.alloc (.cells #[.int .u8 97, .int .u8 98] e fr)) [.slice (some ⟨w.heap.size, 0, none⟩) 2 2, .slice none 0 0] _ e2 fr2 rfl
  rw [hs1] at hr
  have hb2 := hb.alloc (by rw [hs1]; exact Nat.le_refl _) (.cells #[.slice (some ⟨w.heap.size, 0, none⟩) 2 2, .slice none 0 0] e2 fr2)
  exact takesG_any (some ⟨w.heap.size + 1, 0, none⟩) 2 2 _ [[97, 98], []] _ ⟨[⟨some ⟨w.heap.size, 0, none⟩, 2, 2, [97, 98]⟩, ⟨none, 0, 0, []⟩], rfl, hr, rfl, fun s hs => by
    simp at hs
    rcases hs with rfl | rfl
    · exact ⟨hb2.more (by rw [World.size_alloc, hs1]; omega), show 2 ≤ 2 from Nat.le_refl _, show 2 ≤ maxLen by decide, show 2 ≤ 1048576 by decide⟩
    · exact ⟨Bytes.nil_, by decide, by decide, by decide⟩⟩ (by decide)
theorem k0_s : openJ (newD 20) = (k0.1, some kj0, 0) := Prod.ext rfl k0_e
theorem tri {α β γ : Type} (x : α × β × γ) {r : γ} (h : x.2.2 = r) : x = (x.1, x.2.1, r) := by
  obtain ⟨a, b, c⟩ := x
  simp only at h
  rw [h]
theorem k1_s : appendJ k0.1 kj0 [97, 98] = (k1.1, k1.2.1, 0) := show k1 = _ from tri k1 k1_e
theorem k2_s : appendJ (stopD k1.1 3) k1.2.1 [99, 100] = (k2.1, k2.2.1, 3) := show k2 = _ from tri k2 k2_e
theorem k3_s : openJ k3 = ((openJ k3).1, some ⟨halfN 20 1, [[97, 98]], false⟩, 0) := Prod.ext rfl k3_e
theorem k2_nn : k2.1.n = 20 := by kernel_rfl
theorem ks_nil {ks : List Nat} (hk : waitsD k2.1 ks) (hn : ∀ i ∈ ks, i < k2.1.n) : ks = [] := by
  cases ks with
  | nil => rfl
  | cons i t =>
    have h1 := (hk.2 i).1 (by simp)
    have h2 := hn i (by simp)
    rw [k2_nn] at h2
    have h3 : ((List.range 20).map k2.1.wait)[i]? = (List.replicate 20 none)[i]? := by rw [k2_w]
    rw [List.getElem?_map, List.getElem?_range h2, List.getElem?_replicate, if_pos h2] at h3
    have h4 : k2.1.wait i = none := by simpa using h3
    rw [h4] at h1
    cases h1
set_option maxHeartbeats 1000000 in
theorem knows6_any (w : World) : Calls Tryz.prog 11 #[] w fun x w' => x = .returned (.bool true) ∧ Only [] w w' := by
  have HN := Lib.hid (show Calls Tryz.prog 12 #[.int .i64 20] w fun x w' => NewO w 20 x w' from new_any 20 (by decide) (by decide) w)
  have HM := Lib.hid (fun z w => num6_any z w)
  have HW := Lib.hid (Only.refl [] w)
  have kc := fun (w : World) (C : Array Value) (n c : Nat) => Lib.run_convert_bytes_const (P := Tryz.prog) w 35 5 C n c Tryz.underlying35 Tryz.underlying5
  go_enter Tryz.func11, Tryz.ntmps11
  go_wp2_with (first
    | (go_at_call 12; refine HN.out.mono ?_; rintro x w1 ⟨p, g, b, cap, rfl, hd1, hp, hg, hb, ho1⟩; have HP := Lib.hid (show w.heap.size ≤ p ∧ w.heap.size ≤ g ∧ w.heap.size ≤ b from ⟨hp, hg, hb⟩); have HA1 := Lib.hid (Abv.of0 (m := w.heap.size) ho1); have HOP1 := Lib.hid (Journal.open_some (m := w.heap.size) hd1 (by decide) (by rw [k0_n.2.2]; decide) (by decide) k0_s ⟨hp, hg, hb⟩); clear hd1 hp hg hb ho1)
    | (go_at_call 13; refine HOP1.out.mono ?_; rintro x w2 ⟨q, rfl, hq, hj2, ha2, _⟩; have HQ := Lib.hid (show w.heap.size ≤ q ∧ w.heap.size ≤ w1.heap.size from ⟨Nat.le_trans HA1.out.size hq, HA1.out.size⟩); have HA2 := Lib.hid (HA1.out.trans ha2); have HAP1 := Lib.hid (fun e fr => hj2.app2 (m := w.heap.size) ⟨HP.out.1, HP.out.2.1, HP.out.2.2, HQ.out.1, HQ.out.2⟩ (by rw [k0_n.1]; decide) 97 98 (zx := 97) (zy := 98) rfl rfl (by decide) (by rw [k0_n.2.1]; decide) k1_s (e := e) (fr := fr)); clear hq hj2 ha2 HOP1)
    | (go_at_call 15; refine (HAP1.out _ _).mono ?_; rintro x w4 ⟨rfl, hj4, ha4⟩; have HA4 := Lib.hid (HA2.out.trans ha4); have HST := Lib.hid (hj4.stop (m := w.heap.size) 3 (by decide) HP.out); clear hj4 ha4 HAP1)
    | (go_at_call 18; refine HST.out.mono ?_; rintro x w5 ⟨rfl, hj5, ha5⟩; have HA5 := Lib.hid (HA4.out.trans ha5); have HAP2 := Lib.hid (fun e fr => hj5.app2 (m := w.heap.size) ⟨HP.out.1, HP.out.2.1, HP.out.2.2, HQ.out.1, HQ.out.2⟩ (by rw [k1_n.1]; decide) 99 100 (zx := 99) (zy := 100) rfl rfl (by rw [k1_l]; decide) (by rw [k1_n.2]; decide) k2_s (e := e) (fr := fr)); clear hj5 ha5 HST)
    | (go_at_call 15; refine (HAP2.out _ _).mono ?_; rintro x w7 ⟨rfl, hj7, ha7⟩; have HA7 := Lib.hid (HA5.out.trans ha7); have HJ7 := Lib.hid hj7; have ho8 := (Only.refl [] w7).alloc (.cells #[.int .i64 2, .int .i64 2, .int .i64 2] 3); have HCR := Lib.hid ((hj7.only0 ho8).crash (m := w.heap.size) (some ⟨w7.heap.size, 0, none⟩) 3 3 [2, 2, 2] rfl ((Reads.const w7 ([2, 2, 2].map (Value.int .i64)) _ _ _ rfl).more (by rw [World.size_alloc]; exact Nat.le_refl _)) (by decide) (fun _ k hk => by simp [blkOf] at hk; have := hj7.lt; omega) HP.out); have HO8 := Lib.hid ho8; clear hj7 ha7 HAP2 ho8)
    | (go_at_call 21; refine HCR.out.mono ?_; rintro x w9 ⟨ks, hk1, hk2, rfl, hj9, ha9⟩; obtain rfl := ks_nil hk1 hk2; have HA9 := Lib.hid ((HA7.out.trans (Abv.of0 HO8.out)).trans ha9); have HOP2 := Lib.hid (JW.open_some (m := w.heap.size) (d := k3) hj9 (by rw [k3_n.1]; decide) (by rw [k3_n.2.2]; decide) (by rw [k3_n.2.1]; decide) k3_s HP.out); clear hk1 hk2 hj9 ha9 HCR)
    | (go_at_call 13; refine HOP2.out.mono ?_; rintro x w10 ⟨q2, rfl, hq2, hj10, ha10, hold⟩; rw [k2_j] at hold; have HA10 := Lib.hid (HA9.out.trans ha10); have HG := Lib.hid (hj10.groups (by decide)); have HOLD := Lib.hid hold; clear hq2 hj10 ha10 hold HOP2)
    | (go_at_call 23; refine HG.out.mono ?_; rintro x w11 ⟨v2, ts, rfl, hown, hmap, hts, ho11⟩; obtain ⟨t, A2, c2, rfl, hb2, ⟨b2, off2, rfl, hc2⟩⟩ := one_group hown hmap hts; have hst : (convert 35 9 (.slice t.A 2 t.c)).run Tryz.prog w11 = .ok (.string ⟨#[97, 98]⟩) w11 := run_str hb2 t.c; have HTK := Lib.hid (takes2 w11); have HA11 := Lib.hid (HA10.out.trans (Abv.of0 ho11)); have HOLD11 := Lib.hid (HOLD.out.only0 ho11); clear hts ho11 hown hmap HG)
    | (go_at_call 19; refine HOLD11.out.down.mono ?_; rintro x wd ⟨rfl, hwd⟩; have hwd := hwd.symm; subst hwd)
    | (go_at_call 54; refine (HTK.out _ _ _ _).mono ?_; rintro x wt ⟨rfl, hwt⟩; have hwt := hwt.symm; subst hwt)
    | (go_at_call 14; refine (HM.out _ _).mono ?_; rintro x wn ⟨rfl, hwn⟩; have hwn := hwn.symm; subst hwn))
  go_ret
  exact ⟨rfl, ((HA11.out.only (Nat.le_refl _)).alloc _).alloc _⟩
end
end Go.Proofs.YthgfmoogagldmaaGreat.Journal
