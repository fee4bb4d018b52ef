/- JournalD: Open; Open, where no head tells. -/
import Derived.Test.YthgfmoogagldmaaGreatRanges
import Derived.Test.YthgfmoogagldmaaGreatJournalC
import Derived.Test.YthgfmoogagldmaaGreatJournalO
import Derived.Test.YthgfmoogagldmaaGreatJournalB
set_option linter.unusedVariables false
set_option maxRecDepth 100000
namespace Go.Proofs.YthgfmoogagldmaaGreat.Journal
open Go.RowKit Go.Shelf Disk Go.Proofs.YthgfmoogagldmaaGreat.Frame
attribute [local go_sem] Oper.semAt_some
def OpenO (w : World) (p g b : Nat) (W : List Nat) (cap : Nat) (r : DS × Option JS × Int) (x : Ending) (w' : World) : Prop :=
  (r.2.1 = none ∧ x = .returned (.tuple #[.pointer none, .int .i64 r.2.2]) ∧ Did w p g b W cap r.1 w') ∨
  ∃ js q v ss W', r.2.1 = some js ∧ x = .returned (.tuple #[.pointer (some ⟨q, 0, none⟩), .int .i64 0]) ∧ w.heap.size ≤ q ∧ IsD w' p g b W' cap r.1 ∧ Newer w W W' ∧ Only [p, g, b] w w' ∧ IsJ w' p g b q w.heap.size js v ss ∧ (∀ s ∈ ss, ∀ k ∈ blkOf s.A, w.heap.size ≤ k) ∧ ∀ k ∈ W', k ∉ q :: ownL v
def InvO (p q : Nat) (gen fr room : Int) (w7 : World) (pre : List Sl) (X : World) : Prop :=
  Only [q] w7 X ∧ ∃ v, Blk X q 65 #[.pointer (some ⟨p, 0, none⟩), .int .i64 gen, .int .i64 fr, .int .i64 room, v, .bool false] ∧ OwnR 35 1 X w7.heap.size v pre.length (pre.map fun s => [s.val]) ∧
    ∀ s ∈ pre, FreshSl w7.heap.size s X ∧ (0 < s.n → ∀ k ∈ blkOf s.A, k ∉ ownL v)
theorem bytes_cells {w : World} {B n : Nat} {A : Option Addr} {l : List UInt8} (h : Bytes w B A n l) (hn : 0 < n) {k : Nat} (hk : k ∈ blkOf A) {o : Obj} (ho : w.heap[k]? = some o) : o.isCells = true := by
  obtain ⟨b, off, rfl, hb, hc⟩ := h.at_ (k := 0) hn
  simp [blkOf] at hk
  subst hk
  unfold World.cell? at hc
  simp only [ho] at hc
  cases o with
  | cells => rfl
  | _ => cases hc
theorem bytes_grown {w w' : World} {B n : Nat} {A : Option Addr} {l : List UInt8} {row : Option Nat} (h : Bytes w B A n l) (hg : w.grownBy w' row) (hr : ∀ r, row = some r → ∃ o : Obj, w.heap[r]? = some o ∧ o.isCells = false) : Bytes w' B A n l :=
  h.only_pos (Only.of_grown hg) fun hn k hk hm => by
    obtain ⟨o, h1, h2⟩ := hr k (by simpa using hm)
    rw [bytes_cells h hn hk h1] at h2
    cases h2
theorem blk_grown {w w' : World} {g : Nat} {t : TypeId} {cs : Array Value} {row : Option Nat} (h : Blk w g t cs) (hg : w.grownBy w' row) (hr : ∀ r, row = some r → ∃ o : Obj, w.heap[r]? = some o ∧ o.isCells = false) : Blk w' g t cs :=
  h.only (Only.of_grown hg) fun hm => by
    obtain ⟨o, h1, h2⟩ := hr g (by simpa using hm)
    unfold Blk at h
    rw [h] at h1
    cases h1
    cases h2
theorem freshSl_own (B : Nat) : OwnFrom B (FreshSl B) := fun s X Y row ⟨h1, h2, h3, h4, h5⟩ hg hr =>
  ⟨(bytes_grown h1 hg (fun r e => (hr r e).2)).more hg.size, h2, h3, h4, fun k hk => ⟨(h5 k hk).1, (h5 k hk).2.imp fun cs h => blk_grown h hg (fun r e => (hr r e).2)⟩⟩
theorem own_grown {w w' : World} {e size base n : Nat} {v : Value} {rows : List (List Value)} {row : Option Nat} (h : OwnR e size w base v n rows) (hg : w.grownBy w' row) (hr : ∀ r, row = some r → ∃ o : Obj, w.heap[r]? = some o ∧ o.isCells = false) : OwnR e size w' base v n rows :=
  h.only (Only.of_grown hg) fun g hgm hm => by
    obtain ⟨_, t, cs, hb⟩ := row_blks h g hgm
    obtain ⟨o, h1, h2⟩ := hr g (by simpa using hm)
    unfold Blk at hb
    rw [hb] at h1
    cases h1
    cases h2
theorem InvO.own (p q : Nat) (gen fr room : Int) (w7 : World) (hq : q < w7.heap.size) {cs : Array Value} {t : TypeId} (hb : Blk w7 q t cs) : OwnFrom w7.heap.size (InvO p q gen fr room w7) := fun s X Y row ⟨h1, v, h2, h3, h4⟩ hg hr =>
  ⟨h1.trans (Only.of_grown hg) (fun k hk => .inr (hr k (by simpa using hk)).1), v, blk_grown h2 hg (fun r e => (hr r e).2), own_grown h3 hg (fun r e => (hr r e).2), fun t ht => ⟨freshSl_own _ t X Y row (h4 t ht).1 hg hr, (h4 t ht).2⟩⟩
theorem InvO.only0 (p q : Nat) (gen fr room : Int) (w7 : World) (s : List Sl) (X Y : World) (h : InvO p q gen fr room w7 s X) (ho : Only [] X Y) : InvO p q gen fr room w7 s Y := by
  obtain ⟨h1, v, h2, h3, h4⟩ := h
  refine ⟨h1.trans ho (by simp), v, h2.only ho (by simp), h3.only ho (by simp), fun t ht => ?_⟩
  obtain ⟨⟨a1, a2, a3, a4, a5⟩, a6⟩ := h4 t ht
  exact ⟨⟨(a1.only ho (by simp)).more ho.size, a2, a3, a4, fun k hk => ⟨(a5 k hk).1, (a5 k hk).2.imp fun cs h => h.only ho (by simp)⟩⟩, a6⟩
theorem InvO.next (p q : Nat) (gen fr room : Int) (w7 : World) {X w8 : World} {v v' : Value} {pre : List Sl} {x : Sl} (hq : q < w7.heap.size)
    (bJ : Blk X q 65 #[.pointer (some ⟨p, 0, none⟩), .int .i64 gen, .int .i64 fr, .int .i64 room, v, .bool false]) (hown : OwnR 35 1 X w7.heap.size v pre.length (pre.map fun s => [s.val]))
    (hts : ∀ s ∈ pre, FreshSl w7.heap.size s X ∧ (0 < s.n → ∀ k ∈ blkOf s.A, k ∉ ownL v)) (ho : Only [q] w7 X) (hV : FreshSl w7.heap.size x X)
    (hE : ExtR 35 1 X.drew w8 w7.heap.size v v' (pre.length + 1) ((pre.map fun s => [s.val]) ++ [[x.val]])) (hqv : q ∉ ownL v) :
    KeepsFrom w7.heap.size X (w8.setCell ⟨q, 4, none⟩ v') ∧ InvO p q gen fr room w7 (pre ++ [x]) (w8.setCell ⟨q, 4, none⟩ v') := by
  have h4 : Only (ownL v) X w8 := ((Only.refl (ownL v) X).drew).trans hE.only (fun g hg => .inl hg)
  have h5 : Only (q :: ownL v) X (w8.setCell ⟨q, 4, none⟩ v') := (h4.mono (fun g hg => .inl (List.mem_cons_of_mem _ hg))).setCell (p := ⟨q, 4, none⟩) (.inl (by simp)) _
  have hcells : ∀ g ∈ q :: ownL v, ∃ t cs, Blk X g t cs := by
    intro g hg
    rcases List.mem_cons.1 hg with rfl | hg
    · exact ⟨_, _, bJ⟩
    · exact (row_blks hown g hg).2
  have bJ8 := bJ.drew.only hE.only hqv
  have hqn : q ∉ ownL v' := row_ne hE.own q bJ8 (by decide)
  have each : ∀ t : Sl, FreshSl w7.heap.size t X → FreshSl w7.heap.size t (w8.setCell ⟨q, 4, none⟩ v') ∧ (0 < t.n → ∀ k ∈ blkOf t.A, k ∉ ownL v') := fun t ⟨a1, a2, a3, a4, a5⟩ => by
    have hnv : ∀ k ∈ blkOf t.A, k ∉ q :: ownL v := fun k hk hm => by
      obtain ⟨b1, cs, b2⟩ := a5 k hk
      rcases List.mem_cons.1 hm with e | e
      · omega
      · exact row_ne hown k b2 (by decide) e
    refine ⟨⟨(a1.only h5 hnv).more h5.size, a2, a3, a4, fun k hk => ⟨(a5 k hk).1, (a5 k hk).2.imp fun cs h => h.only h5 (hnv k hk)⟩⟩, fun hn k hk hm => ?_⟩
    rcases hE.fresh k hm with e | e
    · exact hnv k hk (List.mem_cons_of_mem _ e)
    · have := bytes_lt a1 hn k hk
      have e2 : X.heap.size ≤ k := e
      omega
  refine ⟨(h5.others hcells).from _, ho.trans h5 (fun g hg => ?_), v', bJ8.set_ 4 v', ?_, fun t ht => ?_⟩
  · rcases List.mem_cons.1 hg with e | e
    · exact .inl (by simp [e])
    · exact .inr (hown.lt g e).1
  · rw [List.length_append, List.map_append]
    exact hE.own.only ((Only.refl [q] w8).setCell (p := ⟨q, 4, none⟩) (.inl (by simp)) _) (fun g hg hm => by
      rw [List.mem_singleton.1 hm] at hg
      exact hqn hg)
  · rcases List.mem_append.1 ht with ht | ht
    · exact each t (hts t ht).1
    · rw [List.mem_singleton.1 ht]
      exact each x hV
theorem two_new (w5 : World) (J : Array Value) (wx : World) (T : List Nat) (h : Only T ((w5.alloc (.cells J 65)).alloc (.cells #[.pointer (some ⟨w5.heap.size, 0, none⟩)] 30)) wx) (hT : ∀ k ∈ T, k < w5.heap.size) :
    Blk wx w5.heap.size 65 J ∧ Blk wx (w5.heap.size + 1) 30 #[.pointer (some ⟨w5.heap.size, 0, none⟩)] := by
  have h1 := Blk.new (w5.alloc (.cells J 65)) 30 #[.pointer (some ⟨w5.heap.size, 0, none⟩)]
  rw [World.size_alloc] at h1
  exact ⟨((Blk.new w5 _ _).alloc _).only h (fun hm => by have := hT _ hm; omega), h1.only h (fun hm => by have := hT _ hm; omega)⟩
section
variable {w w' : World} {p g b cap : Nat} {W : List Nat} {d : DS}
theorem open_few (hd : IsD w p g b W cap d) (hn : (d.n : Int) < 8) : Calls Tryz.prog 13 #[.pointer (some ⟨p, 0, none⟩)] w fun x w' => OpenO w p g b W cap (openJ d) x w' := by
  have ho : openJ d = (d, none, 1) := by unfold openJ; rw [if_pos hn]
  rw [ho]
  have HS := Lib.hid (sectors_any hd)
  have HD := Lib.hid hd
  have e1 : decide ((d.n : Int) < 8) = true := decide_eq_true hn
  have e1' : decide (d.n < 8) = true := decide_eq_true (by omega)
  clear hd ho
  go_enter Tryz.func13, Tryz.ntmps13
  go_wp2_with (go_at_call 55; refine HS.out.mono ?_; rintro x w2 ⟨rfl, hw2⟩; subst hw2)
  exact bodyPost_ret (v := .tuple #[.pointer none, .int .i64 1]) (by simp [results, Tryz.results13, go_sem]) rfl (.inl ⟨rfl, rfl, did_of (Only.refl [] _) HD.out⟩)
theorem open_off (hd : IsD w p g b W cap d) (hn : ¬ (d.n : Int) < 8) (hoff : d.off = true) : Calls Tryz.prog 13 #[.pointer (some ⟨p, 0, none⟩)] w fun x w' => OpenO w p g b W cap (openJ d) x w' := by
  have ho : openJ d = (d, none, 3) := by unfold openJ; rw [if_neg hn, if_pos hoff]
  rw [ho]
  have HS := Lib.hid (sectors_any hd)
  have hdn := down_any hd
  rw [hoff] at hdn
  have HDN := Lib.hid hdn
  have HD := Lib.hid hd
  have e1 : decide ((d.n : Int) < 8) = false := decide_eq_false hn
  have e1' : decide (d.n < 8) = false := decide_eq_false (by omega)
  clear hd ho hdn hoff
  go_enter Tryz.func13, Tryz.ntmps13
  go_wp2_with (first
    | (go_at_call 55; refine HS.out.mono ?_; rintro x w2 ⟨rfl, hw2⟩; subst hw2)
    | (go_at_call 20; refine HDN.out.mono ?_; rintro x w3 ⟨rfl, hw3⟩; subst hw3))
  exact bodyPost_ret (v := .tuple #[.pointer none, .int .i64 3]) (by simp [results, Tryz.results13, go_sem]) rfl (.inl ⟨rfl, rfl, did_of (Only.refl [] _) HD.out⟩)
set_option maxHeartbeats 2000000 in
theorem open_old (hd : IsD w p g b W cap d) (hn : 8 ≤ d.n) (hn2 : d.n ≤ 200000) (hoff : d.off = false) (hg : newestD d ≤ 4611686018427387000) (hg0 : 1 ≤ newestD d) : Calls Tryz.prog 13 #[.pointer (some ⟨p, 0, none⟩)] w fun x w' => OpenO w p g b W cap (openJ d) x w' := by
  refine (callsIn_wide (n := 6)).1 ?_
  have hoj : openJ d = (d, some ⟨halfD d (newestD d), allH d (halfD d (newestD d)), false⟩, 0) := by
    unfold openJ
    rw [if_neg (by omega), if_neg (by rw [hoff]; decide)]
    simp only
    rw [if_neg (by omega), show max (newestD d) 1 = newestD d by omega]
  rw [hoj]
  have HS := Lib.hid ((callsIn_wide (n := 5)).2 (sectors_any hd))
  have hdn := (callsIn_wide (n := 5)).2 (down_any hd)
  rw [hoff] at hdn
  have HDN := Lib.hid hdn
  have HN := Lib.hid ((callsIn_wide (n := 5)).2 (newest_any hd))
  have HD := Lib.hid hd
  have e1 : decide ((d.n : Int) < 8) = false := decide_eq_false (by omega)
  have e1' : decide (d.n < 8) = false := decide_eq_false (by omega)
  obtain ⟨G, hG⟩ : ∃ G, newestD d = G := ⟨_, rfl⟩
  rw [hG] at hg hg0 HN ⊢
  have HH := Lib.hid (fun (wx : World) (ho : Only [] w wx) => (callsIn_wide (n := 5)).2 (halfOf_any (hd.only0 ho) G (by omega) (by omega)))
  have hG1 : max G 1 = G := by omega
  have e2 : (G == 0) = false := by simp; omega
  have hsm : (halfD d G).small := by
    unfold halfD roomD Half.small
    simp only
    have h2 : G % 2 = 0 ∨ G % 2 = 1 := by omega
    rcases h2 with e | e
    all_goals
      rw [e]
      refine ⟨⟨?_, ?_⟩, ⟨?_, ?_⟩, ?_, ?_⟩ <;> omega
  have HSM := Lib.hid hsm
  obtain ⟨h, hh⟩ : ∃ h, halfD d G = h := ⟨_, rfl⟩
  rw [hh] at HH HSM ⊢
  clear hd hoj hdn hoff hG hh hsm
  obtain ⟨gen, fr, room⟩ := h
  unfold Half.val at HH
  simp only at HH
  refine callsIn_of_wp_marks Tryz.func13 rfl trivial ?_ rfl
  simp only [Tryz.ntmps13, List.size_toArray, List.length_cons, List.length_nil, Nat.reduceAdd, Nat.reduceSub, Array.replicate_succ, Array.replicate_zero, List.push_toArray, List.append_toArray, List.nil_append, List.cons_append]
  gi_wp2_with (first
    | (refine ⟨trivial, ?_⟩; gi_at_call 55; refine HS.out.mono ?_; rintro x w2 ⟨rfl, hw2⟩; have hw2 := hw2.symm; subst hw2)
    | (refine ⟨trivial, ?_⟩; gi_at_call 20; refine HDN.out.mono ?_; rintro x w3 ⟨rfl, hw3⟩; have hw3 := hw3.symm; subst hw3)
    | (refine ⟨trivial, ?_⟩; gi_at_call 56; refine HN.out.mono ?_; rintro x w4 ⟨rfl, ho4⟩; have HO4 := Lib.hid ho4; clear ho4)
    | (refine ⟨trivial, ?_⟩; gi_at_call 57; refine (HH.out w4 HO4.out).mono ?_; rintro x w5 ⟨rfl, ho5⟩; have HO5 := Lib.hid (HO4.out.trans ho5 (by simp)); clear ho5))
  refine ⟨trivial, ?_⟩
  gi_wp2
  all_goals try exact absurd ‹some undef = some (Value.bool _)› (by simp [undef])
  refine ⟨trivial, ?_⟩
  gi_wp2
  all_goals try exact absurd ‹some undef = some (Value.bool _)› (by simp [undef])
  refine ⟨trivial, ?_⟩
  gi_wp2
  all_goals try exact absurd ‹some undef = some (Value.bool _)› (by simp [undef])
  obtain ⟨w6, hw6⟩ : ∃ w6, (w5.alloc (.cells #[.pointer (some ⟨p, 0, none⟩), .int .i64 gen, .int .i64 fr, .int .i64 room, .slice none 0 0, .bool false] 65)).alloc (.cells #[.pointer (some ⟨w5.heap.size, 0, none⟩)] 30) = w6 := ⟨_, rfl⟩
  rw [hw6]
  have h35 := HO5.out.size
  have hpq : p < w5.heap.size ∧ g < w5.heap.size ∧ b < w5.heap.size := by
    have h2 := HD.out.blk.lt
    obtain ⟨C, c1, _⟩ := HD.out.safe
    have h3 := c1.lt
    have h4 := isD_map_lt HD.out
    omega
  have hWq : ∀ k ∈ W, k ≠ w5.heap.size := fun k hk => by have := HD.out.low k hk; omega
  obtain ⟨bJ6, bB6⟩ := two_new w5 #[.pointer (some ⟨p, 0, none⟩), .int .i64 gen, .int .i64 fr, .int .i64 room, .slice none 0 0, .bool false] w6 [] (by rw [hw6]; exact Only.refl _ _) (by simp)
  have ho6 : Only [] w w6 := by rw [← hw6]; exact (HO5.out.alloc _).alloc _
  have hq6 : w5.heap.size + 1 < w6.heap.size := by rw [← hw6, World.size_alloc, World.size_alloc]; omega
  have hD6 := HD.out.only0 ho6
  have HO36 := Lib.hid (ho6.mono (S' := [p, g, b]) (by simp))
  have HN6 := Lib.hid (Newer.refl w W)
  obtain ⟨q, hq⟩ : ∃ q, w5.heap.size = q := ⟨_, rfl⟩
  rw [hq] at bJ6 bB6 hq6 hpq hWq h35 ⊢
  clear hw6 ho6
  refine ⟨trivial, ?_⟩
  gi_at_call 61
  refine (groups_in Fence.wide 5 trivial rfl p ⟨gen, fr, room⟩ w6).mono ?_
  rintro x w7 ⟨rfl, hw7⟩
  have ho67 : Only [] w6 w7 := by rw [hw7]; exact (Only.refl [] w6).alloc _
  have bH7 : Blk w7 w6.heap.size 63 (halfC p ⟨gen, fr, room⟩) := by rw [hw7]; exact Blk.new w6 _ _
  have bJ7 := bJ6.only ho67 (by simp)
  have bB7 := bB6.only ho67 (by simp)
  have hs7 : w7.heap.size = w6.heap.size + 1 := by rw [hw7, World.size_alloc]
  have hD7 := hD6.only0 ho67
  have ho7 : Only [p, g, b] w w7 := HO36.out.trans ho67 (by simp)
  obtain ⟨hb, hhb⟩ : ∃ hb, w6.heap.size = hb := ⟨_, rfl⟩
  rw [hhb] at bH7 hs7 hq6 ⊢
  have HS7 := Lib.hid (show q + 1 < hb ∧ p < q ∧ g < q ∧ b < q ∧ hb < w7.heap.size ∧ w.heap.size ≤ q from by omega)
  have HWQ := Lib.hid hWq
  clear hw7 hs7 bJ6 bB6 ho67 hhb hq6 hpq hWq
  gi_wp2
  refine wpIn_rangeV rfl (by omega) (gf := 107) (lb := #[.pointer (some ⟨hb, 0, none⟩)]) rfl trivial (enters_of Tryz.func107 (by kernel_rfl) rfl)
    (groups1_seq (p := p) (g := g) (b := b) (cap := cap) (W := W) (d := d) 5 (by omega) ⟨gen, fr, room⟩ HSM.out hb w7.heap.size) (fun _ => rfl)
    (InvO p q gen fr room w7) (InvO.own p q gen fr room w7 (by have hz := HS7.out; omega) bJ7) (InvO.only0 p q gen fr room w7) (fun s X h => ⟨hD7.only h.1 (by have hz := HS7.out; simp; omega) (fun k hk => by have := HWQ.out k hk; simp; omega), bH7.only h.1 (by have hz := HS7.out; simp; omega), h.1.size⟩) (freshSl_own w7.heap.size)
    ⟨Only.refl _ _, _, bJ7, OwnR.nil_ _ _ _ _, fun s hs => by cases hs⟩ ?act1 ?assign ?body ?done
  case assign =>
    intro l x W K hK
    gi_wp2
    exact hK
  case body =>
    intro l pre x X hI hV hN
    obtain ⟨ho, v, bJ, hown, hts⟩ := hI
    have bB := bB7.only ho (by simp)
    have hS : X.drew.cell? ⟨q + 1, 0, none⟩ = some (.pointer (some ⟨q, 0, none⟩)) := bB.cell 0
    have hl : X.cell? ⟨q, 4, none⟩ = some v := bJ.cell 4
    gi_wp2
    refine wpIn_region_held (S := fun Y => Y.cell? ⟨q + 1, 0, none⟩ = some (.pointer (some ⟨q, 0, none⟩))) (by kernel_rfl) (noDefer_all (by kernel_rfl)) (by rintro ⟨a, w, h⟩; exact h) ?_
    refine takeH (i := 0) rfl (by kernel_rfl) (by kernel_rfl) (by kernel_rfl) (fun _ _ _ h => h) rfl rfl (v := .pointer (some ⟨q, 0, none⟩)) (fun Y hY => by go_simp) hS ?_; simp only [s0A, s0B, s0C]
    refine takeH (i := 1) rfl (by kernel_rfl) (by kernel_rfl) (by kernel_rfl) (fun _ _ _ h => h) rfl rfl (v := .pointer (some ⟨q, 0, none⟩)) (fun Y hY => by go_simp) hS ?_; simp only [s0A, s0B, s0C]
    refine takeH (i := 2) rfl (by kernel_rfl) (by kernel_rfl) (by kernel_rfl) (fun _ _ _ h => h) rfl rfl (v := .pointer (some ⟨q, 0, none⟩)) (fun Y hY => by go_simp) hS ?_; simp only [s0A, s0B, s0C]
    refine takeH (i := 3) rfl (by kernel_rfl) (by kernel_rfl) (by kernel_rfl) (fun _ _ _ h => h) rfl rfl (v := .pointer (some ⟨q, 4, none⟩)) (fun Y hY => by go_simp) hS ?_; simp only [s0A, s0B, s0C]
    refine takeH (i := 5) rfl (by kernel_rfl) (by kernel_rfl) (by kernel_rfl) (fun _ _ _ h => h) rfl rfl (v := .slice x.A x.n x.c) (fun Y hY => by go_simp) hS ?_; simp only [s0A, s0B, s0C]
    refine twoH (i := 4) (j := 6) rfl rfl (by kernel_rfl) rfl rfl ?_ ?_
    · go_simp
      refine oneH (i := 6) rfl (by kernel_rfl) rfl ?_
      go_simp
      refine ⟨(bB.alloc _).cell 0, ?_⟩
      rw [show (X.alloc (.cells #[.slice x.A x.n x.c] 35)).drew = X.drew.alloc (.cells #[.slice x.A x.n x.c] 35) from rfl]
      refine oneH (i := 7) rfl (by kernel_rfl) rfl ?_
      refine step_append1 (w := X.drew) rfl (.tmp 59) (.tmp 61) 34 rfl Tryz.underlying34 sl_info rfl (by decide) rfl hown.drew rfl rfl (row := [x.val]) rfl rfl (by intro u hu; rw [List.mem_singleton.1 hu]; rfl) (by omega) (by unfold maxLen; omega) (by have h1 := ho.size; have h2 : X.drew.heap.size = X.heap.size := rfl; omega) ?_
      intro v' w8 hE
      obtain ⟨g', cap', rfl⟩ := ownsRow_succ hE.own.own
      have hqv : q ∉ ownL v := row_ne hown q bJ (by decide)
      have hqv1 : q + 1 ∉ ownL v := row_ne hown (q + 1) bB (by decide)
      have bB8 := bB.drew.only hE.only hqv1
      have bJ8 := bJ.drew.only hE.only hqv
      have hS8 : w8.cell? ⟨q + 1, 0, none⟩ = some (.pointer (some ⟨q, 0, none⟩)) := bB8.cell 0
      have c8 := bJ8.cell 4
      have f8 := bJ8.frozen 4
      refine ⟨hS8, ?_⟩
      go_simp
      refine takeH (i := 8) rfl (by kernel_rfl) (by kernel_rfl) (by kernel_rfl) (fun _ _ _ h => h) rfl rfl (v := .pointer (some ⟨q, 0, none⟩)) (fun Y hY => by go_simp) hS8 ?_; simp only [s0A, s0B, s0C]
      refine takeH (i := 9) rfl (by kernel_rfl) (by kernel_rfl) (by kernel_rfl) (fun _ _ _ h => h) rfl rfl (v := .pointer (some ⟨q, 4, none⟩)) (fun Y hY => by go_simp) hS8 ?_; simp only [s0A, s0B, s0C]
      refine oneH (i := 10) rfl (by kernel_rfl) rfl ?_
      go_simp
      refine ⟨by kernel_rfl, ?_⟩
      exact InvO.next p q gen fr room w7 (by have hz := HS7.out; omega) bJ hown hts ho hV hE hqv
    · go_simp
      refine ⟨(bB.alloc _).cell 0, ?_⟩
      have hl2 := (bJ.alloc (.cells #[.slice x.A x.n x.c] 35)).cell 4
      have hS2 := (bB.alloc (.cells #[.slice x.A x.n x.c] 35)).cell 0
      refine oneH (i := 4) rfl (by kernel_rfl) rfl ?_
      go_simp
      rw [show (X.alloc (.cells #[.slice x.A x.n x.c] 35)).drew = X.drew.alloc (.cells #[.slice x.A x.n x.c] 35) from rfl]
      refine oneH (i := 7) rfl (by kernel_rfl) rfl ?_
      refine step_append1 (w := X.drew) rfl (.tmp 59) (.tmp 61) 34 rfl Tryz.underlying34 sl_info rfl (by decide) rfl hown.drew rfl rfl (row := [x.val]) rfl rfl (by intro u hu; rw [List.mem_singleton.1 hu]; rfl) (by omega) (by unfold maxLen; omega) (by have h1 := ho.size; have h2 : X.drew.heap.size = X.heap.size := rfl; omega) ?_
      intro v' w8 hE
      obtain ⟨g', cap', rfl⟩ := ownsRow_succ hE.own.own
      have hqv : q ∉ ownL v := row_ne hown q bJ (by decide)
      have hqv1 : q + 1 ∉ ownL v := row_ne hown (q + 1) bB (by decide)
      have bB8 := bB.drew.only hE.only hqv1
      have bJ8 := bJ.drew.only hE.only hqv
      have hS8 : w8.cell? ⟨q + 1, 0, none⟩ = some (.pointer (some ⟨q, 0, none⟩)) := bB8.cell 0
      have c8 := bJ8.cell 4
      have f8 := bJ8.frozen 4
      refine ⟨hS8, ?_⟩
      go_simp
      refine takeH (i := 8) rfl (by kernel_rfl) (by kernel_rfl) (by kernel_rfl) (fun _ _ _ h => h) rfl rfl (v := .pointer (some ⟨q, 0, none⟩)) (fun Y hY => by go_simp) hS8 ?_; simp only [s0A, s0B, s0C]
      refine takeH (i := 9) rfl (by kernel_rfl) (by kernel_rfl) (by kernel_rfl) (fun _ _ _ h => h) rfl rfl (v := .pointer (some ⟨q, 4, none⟩)) (fun Y hY => by go_simp) hS8 ?_; simp only [s0A, s0B, s0C]
      refine oneH (i := 10) rfl (by kernel_rfl) rfl ?_
      go_simp
      refine ⟨by kernel_rfl, ?_⟩
      exact InvO.next p q gen fr room w7 (by have hz := HS7.out; omega) bJ hown hts ho hV hE hqv
  case done =>
    rintro D ys X hD hys hI hK
    have hI2 := (InvO.own p q gen fr room w7 (by have hz := HS7.out; omega) bJ7).putObj (.deferred none) hI hD hK rfl
    obtain ⟨hoX, v0, bJX, _⟩ := hI
    have c0 := (bB7.only hoX (by simp)).cell 0
    gi_wp2
    refine ⟨by simp, .inl ⟨_, _, rfl, run_takeDeferred hK, ?_⟩⟩
    obtain ⟨h1, v, h2, h3, h4⟩ := hI2
    have hz := HS7.out
    refine ⟨.tuple #[.pointer (some ⟨q, 0, none⟩), .int .i64 0], by simp [results, Tryz.results13, go_sem], .inr ⟨⟨⟨gen, fr, room⟩, allH d ⟨gen, fr, room⟩, false⟩, q, v, ys, W, rfl, rfl, by omega, hD7.only h1 (by simp; omega) (fun k hk => by have := HWQ.out k hk; simp; omega), HN6.out, ho7.trans h1 (fun k hk => .inr (by simp at hk; omega)), ⟨h2, h3.mono (by omega), fun s hs => ?_, hys, HSM.out⟩, fun s hs k hk => by have := ((h4 s hs).1.2.2.2.2 k hk).1; omega, fun k hk hm => by
      rcases List.mem_cons.1 hm with e | e
      · exact HWQ.out k hk e
      · have h5 := (h3.lt k e).1
        have h6 := hD7.low k hk
        omega⟩⟩
    obtain ⟨⟨a1, a2, a3, a4, a5⟩, a6⟩ := h4 s hs
    refine ⟨a1, a2, a3, a4, fun hn k hk hm => ?_⟩
    have := (a5 k hk).1
    unfold JT at hm
    simp only [List.mem_cons] at hm
    rcases hm with e | e | e | e | e
    · omega
    · omega
    · omega
    · omega
    · exact a6 hn k hk e
end
end Go.Proofs.YthgfmoogagldmaaGreat.Journal
namespace Go.Proofs.YthgfmoogagldmaaGreat.Journal
open Go.RowKit Go.Shelf Disk Go.Proofs.YthgfmoogagldmaaGreat.Frame
attribute [local go_sem] Oper.semAt_some
theorem lead_done (d : DS) (h : Half) : (leadH d h).1.done ≤ d.done + 2 ∧ d.done ≤ (leadH d h).1.done := by
  have h1 := wr_done d (h.gen % 2) (putB ⟨1, h.gen, 0, 0⟩)
  have h2 := syn_done (wrD d (h.gen % 2) (putB ⟨1, h.gen, 0, 0⟩)).1
  unfold leadH
  split
  · omega
  · show (wrD d (h.gen % 2) (putB ⟨1, h.gen, 0, 0⟩)).1.done ≤ _ ∧ _ ≤ (wrD d (h.gen % 2) (putB ⟨1, h.gen, 0, 0⟩)).1.done
    omega
theorem openJ_fresh {d : DS} (hn : 8 ≤ d.n) (hoff : d.off = false) (hg0 : newestD d = 0) : openJ d = (let r := andThen (andThen (zeroH d (halfD d 1) 0) synD) (fun x => leadH x (halfD d 1)); if r.2 = true then (r.1, some ⟨halfD d 1, allH r.1 (halfD d 1), false⟩, 0) else (r.1, none, 3)) := by
  unfold openJ
  rw [if_neg (by omega), if_neg (by rw [hoff]; decide)]
  simp only
  rw [if_pos hg0, hg0]
  rfl
section
variable {w w' : World} {p g b cap : Nat} {W : List Nat} {d : DS}
set_option maxHeartbeats 2000000 in
theorem open_fresh_no0 (hd : IsD w p g b W cap d) (hn : 8 ≤ d.n) (hn2 : d.n ≤ 200000) (hoff : d.off = false) (hg0 : newestD d = 0) (hdn2 : d.done ≤ 4611686018427000000) {D1 : DS} {b1 : Bool} (hz : zeroH d (halfD d 1) 0 = (D1, b1)) (hcase : b1 = false ∧ zeroH d (halfD d 1) 0 = (D1, b1)) :
    Calls Tryz.prog 13 #[.pointer (some ⟨p, 0, none⟩)] w fun x w' => OpenO w p g b W cap (D1, none, 3) x w' := by
  have HS := Lib.hid ((sectors_any hd))
  have hdn := (down_any hd)
  rw [hoff] at hdn
  have HDN := Lib.hid hdn
  have hnw := (newest_any hd)
  rw [hg0] at hnw
  have HN := Lib.hid hnw
  have HD := Lib.hid hd
  have e1 : decide ((d.n : Int) < 8) = false := decide_eq_false (by omega)
  have e1' : decide (d.n < 8) = false := decide_eq_false (by omega)
  have HH := Lib.hid (fun (wx : World) (ho : Only [] w wx) => (halfOf_any (hd.only0 ho) 1 (by omega) (by omega)))
  have hsm : (halfD d 1).small := by
    unfold halfD roomD Half.small
    simp only
    refine ⟨⟨?_, ?_⟩, ⟨?_, ?_⟩, ?_, ?_⟩ <;> omega
  have HSM := Lib.hid hsm
  obtain ⟨h, hh⟩ : ∃ h, halfD d 1 = h := ⟨_, rfl⟩
  rw [hh] at HH HSM hz hcase
  have hpb : p < w.heap.size ∧ g < w.heap.size ∧ b < w.heap.size := by
    have h2 := hd.blk.lt
    obtain ⟨C, c1, _⟩ := hd.safe
    have h3 := c1.lt
    have h4 := isD_map_lt hd
    omega
  have hzd := zero_done d h 0
  rw [hz] at hzd
  simp only at hzd
  have HZ := Lib.hid (fun (wx : World) (ho : Only [] w wx) => (show Calls Tryz.prog 58 #[h.val p, .int .i64 0] wx fun x w' => BoolJ wx p g b W cap (D1, b1) x w' from by
    have := zero_any (hd.only0 ho) h HSM.out 0 (by omega) (by omega)
    rw [hz] at this
    exact this))
  obtain ⟨rfl, _⟩ := hcase
  clear hd hdn hoff hh hsm hz hnw hg0
  obtain ⟨gen, fr, room⟩ := h
  unfold Half.val at HH HZ
  simp only at HH HZ
  go_enter Tryz.func13, Tryz.ntmps13
  go_wp2_with (first
    | (go_at_call 55; refine HS.out.mono ?_; rintro x w2 ⟨rfl, hw2⟩; have hw2 := hw2.symm; subst hw2)
    | (go_at_call 20; refine HDN.out.mono ?_; rintro x w3 ⟨rfl, hw3⟩; have hw3 := hw3.symm; subst hw3)
    | (go_at_call 56; refine HN.out.mono ?_; rintro x w4 ⟨rfl, ho4⟩; have HO4 := Lib.hid ho4; clear ho4)
    | (go_at_call 57; refine (HH.out w4 HO4.out).mono ?_; rintro x w5 ⟨rfl, ho5⟩; have HO5 := Lib.hid (HO4.out.trans ho5 (by simp)); clear ho5)
    | (go_at_call 58; refine (HZ.out _ ((HO5.out.alloc _).alloc _)).mono ?_; rintro x w7 ⟨rfl, hdid⟩))
  exact bodyPost_ret (v := .tuple #[.pointer none, .int .i64 3]) (by simp [results, Tryz.results13, go_sem]) rfl (.inl ⟨rfl, rfl, did_after ((HO5.out.alloc _).alloc _) hdid⟩)
set_option maxHeartbeats 2000000 in
theorem open_fresh_no1 (hd : IsD w p g b W cap d) (hn : 8 ≤ d.n) (hn2 : d.n ≤ 200000) (hoff : d.off = false) (hg0 : newestD d = 0) (hdn2 : d.done ≤ 4611686018427000000) {D1 D2 : DS} {b1 : Bool} (hz : zeroH d (halfD d 1) 0 = (D1, b1)) (hcase : (b1 = true ∧ synD D1 = (D2, false)) ∧ zeroH d (halfD d 1) 0 = (D1, b1)) :
    Calls Tryz.prog 13 #[.pointer (some ⟨p, 0, none⟩)] w fun x w' => OpenO w p g b W cap (D2, none, 3) x w' := by
  have HS := Lib.hid ((sectors_any hd))
  have hdn := (down_any hd)
  rw [hoff] at hdn
  have HDN := Lib.hid hdn
  have hnw := (newest_any hd)
  rw [hg0] at hnw
  have HN := Lib.hid hnw
  have HD := Lib.hid hd
  have e1 : decide ((d.n : Int) < 8) = false := decide_eq_false (by omega)
  have e1' : decide (d.n < 8) = false := decide_eq_false (by omega)
  have HH := Lib.hid (fun (wx : World) (ho : Only [] w wx) => (halfOf_any (hd.only0 ho) 1 (by omega) (by omega)))
  have hsm : (halfD d 1).small := by
    unfold halfD roomD Half.small
    simp only
    refine ⟨⟨?_, ?_⟩, ⟨?_, ?_⟩, ?_, ?_⟩ <;> omega
  have HSM := Lib.hid hsm
  obtain ⟨h, hh⟩ : ∃ h, halfD d 1 = h := ⟨_, rfl⟩
  rw [hh] at HH HSM hz hcase
  have hpb : p < w.heap.size ∧ g < w.heap.size ∧ b < w.heap.size := by
    have h2 := hd.blk.lt
    obtain ⟨C, c1, _⟩ := hd.safe
    have h3 := c1.lt
    have h4 := isD_map_lt hd
    omega
  have hzd := zero_done d h 0
  rw [hz] at hzd
  simp only at hzd
  have HZ := Lib.hid (fun (wx : World) (ho : Only [] w wx) => (show Calls Tryz.prog 58 #[h.val p, .int .i64 0] wx fun x w' => BoolJ wx p g b W cap (D1, b1) x w' from by
    have := zero_any (hd.only0 ho) h HSM.out 0 (by omega) (by omega)
    rw [hz] at this
    exact this))
  obtain ⟨⟨rfl, hsy⟩, _⟩ := hcase
  have he : errS D1 = 3 := by
    rcases errS_is D1 with h | h
    · rw [hsy] at h; cases h.2
    · exact h.1
  have HSY := Lib.hid (fun (wx : World) (W6 : List Nat) (hd : IsD wx p g b W6 cap D1) => sync_0 hd he (show (synD D1).1 = D2 by rw [hsy]) (by omega))
  clear hd hdn hoff hh hsm hz hnw hg0 he hsy
  obtain ⟨gen, fr, room⟩ := h
  unfold Half.val at HH HZ
  simp only at HH HZ
  go_enter Tryz.func13, Tryz.ntmps13
  go_wp2_with (first
    | (go_at_call 55; refine HS.out.mono ?_; rintro x w2 ⟨rfl, hw2⟩; have hw2 := hw2.symm; subst hw2)
    | (go_at_call 20; refine HDN.out.mono ?_; rintro x w3 ⟨rfl, hw3⟩; have hw3 := hw3.symm; subst hw3)
    | (go_at_call 56; refine HN.out.mono ?_; rintro x w4 ⟨rfl, ho4⟩; have HO4 := Lib.hid ho4; clear ho4)
    | (go_at_call 57; refine (HH.out w4 HO4.out).mono ?_; rintro x w5 ⟨rfl, ho5⟩; have HO5 := Lib.hid (HO4.out.trans ho5 (by simp)); clear ho5)
    | (go_at_call 58; refine (HZ.out _ ((HO5.out.alloc _).alloc _)).mono ?_; rintro x w7 ⟨rfl, hdid⟩; obtain ⟨W7, hd7, hn7, ho7⟩ := hdid; have hsz := HO5.out.size; obtain ⟨bJ7, bB7⟩ := two_new w5 _ w7 _ ho7 (fun k hk => by simp at hk; omega); have y0 := bJ7.cell 0; have y1 := bJ7.cell 1; have y2 := bJ7.cell 2; have y3 := bJ7.cell 3; have v0 := bB7.cell 0; have HSY7 := Lib.hid (HSY.out w7 W7 hd7); have HN7 := Lib.hid hn7; have HO7 := Lib.hid ho7; clear hd7 hn7 ho7 bJ7 bB7)
    | (go_at_call 59; refine HSY7.out.mono ?_; rintro x w8 ⟨rfl, hdid⟩))
  exact bodyPost_ret (v := .tuple #[.pointer none, .int .i64 3]) (by simp [results, Tryz.results13, go_sem]) rfl (.inl ⟨rfl, rfl, did_after ((HO5.out.alloc _).alloc _) (Did.trans HN7.out HO7.out hdid)⟩)
set_option maxHeartbeats 2000000 in
theorem open_fresh_no2 (hd : IsD w p g b W cap d) (hn : 8 ≤ d.n) (hn2 : d.n ≤ 200000) (hoff : d.off = false) (hg0 : newestD d = 0) (hdn2 : d.done ≤ 4611686018427000000) {D1 D2 D3 : DS} {b1 : Bool} (hz : zeroH d (halfD d 1) 0 = (D1, b1)) (hcase : (b1 = true ∧ synD D1 = (D2, true) ∧ leadH D2 (halfD d 1) = (D3, false)) ∧ zeroH d (halfD d 1) 0 = (D1, b1)) :
    Calls Tryz.prog 13 #[.pointer (some ⟨p, 0, none⟩)] w fun x w' => OpenO w p g b W cap (D3, none, 3) x w' := by
  have HS := Lib.hid ((sectors_any hd))
  have hdn := (down_any hd)
  rw [hoff] at hdn
  have HDN := Lib.hid hdn
  have hnw := (newest_any hd)
  rw [hg0] at hnw
  have HN := Lib.hid hnw
  have HD := Lib.hid hd
  have e1 : decide ((d.n : Int) < 8) = false := decide_eq_false (by omega)
  have e1' : decide (d.n < 8) = false := decide_eq_false (by omega)
  have HH := Lib.hid (fun (wx : World) (ho : Only [] w wx) => (halfOf_any (hd.only0 ho) 1 (by omega) (by omega)))
  have hsm : (halfD d 1).small := by
    unfold halfD roomD Half.small
    simp only
    refine ⟨⟨?_, ?_⟩, ⟨?_, ?_⟩, ?_, ?_⟩ <;> omega
  have HSM := Lib.hid hsm
  obtain ⟨h, hh⟩ : ∃ h, halfD d 1 = h := ⟨_, rfl⟩
  rw [hh] at HH HSM hz hcase
  have hpb : p < w.heap.size ∧ g < w.heap.size ∧ b < w.heap.size := by
    have h2 := hd.blk.lt
    obtain ⟨C, c1, _⟩ := hd.safe
    have h3 := c1.lt
    have h4 := isD_map_lt hd
    omega
  have hzd := zero_done d h 0
  rw [hz] at hzd
  simp only at hzd
  have HZ := Lib.hid (fun (wx : World) (ho : Only [] w wx) => (show Calls Tryz.prog 58 #[h.val p, .int .i64 0] wx fun x w' => BoolJ wx p g b W cap (D1, b1) x w' from by
    have := zero_any (hd.only0 ho) h HSM.out 0 (by omega) (by omega)
    rw [hz] at this
    exact this))
  obtain ⟨⟨rfl, hsy, hld⟩, _⟩ := hcase
  have he : errS D1 = 0 := by
    rcases errS_is D1 with h | h
    · exact h.1
    · rw [hsy] at h; cases h.2
  have hsd := syn_done D1
  rw [hsy] at hsd
  simp only at hsd
  have HSY := Lib.hid (fun (wx : World) (W6 : List Nat) (hd : IsD wx p g b W6 cap D1) => sync_0 hd he (show (synD D1).1 = D2 by rw [hsy]) (by omega))
  have HLD := Lib.hid (fun (wx : World) (W6 : List Nat) (hd : IsD wx p g b W6 cap D2) => (show Calls Tryz.prog 60 #[h.val p] wx fun x w' => BoolJ wx p g b W6 cap (D3, false) x w' from by
    have := lead_any hd h HSM.out (by omega)
    rw [hld] at this
    exact this))
  clear hd hdn hoff hh hsm hz hnw hg0 he hsy hld
  obtain ⟨gen, fr, room⟩ := h
  unfold Half.val at HH HZ HLD
  simp only at HH HZ HLD
  go_enter Tryz.func13, Tryz.ntmps13
  go_wp2_with (first
    | (go_at_call 55; refine HS.out.mono ?_; rintro x w2 ⟨rfl, hw2⟩; have hw2 := hw2.symm; subst hw2)
    | (go_at_call 20; refine HDN.out.mono ?_; rintro x w3 ⟨rfl, hw3⟩; have hw3 := hw3.symm; subst hw3)
    | (go_at_call 56; refine HN.out.mono ?_; rintro x w4 ⟨rfl, ho4⟩; have HO4 := Lib.hid ho4; clear ho4)
    | (go_at_call 57; refine (HH.out w4 HO4.out).mono ?_; rintro x w5 ⟨rfl, ho5⟩; have HO5 := Lib.hid (HO4.out.trans ho5 (by simp)); clear ho5)
    | (go_at_call 58; refine (HZ.out _ ((HO5.out.alloc _).alloc _)).mono ?_; rintro x w7 ⟨rfl, hdid⟩; obtain ⟨W7, hd7, hn7, ho7⟩ := hdid; have hsz := HO5.out.size; obtain ⟨bJ7, bB7⟩ := two_new w5 _ w7 _ ho7 (fun k hk => by simp at hk; omega); have y0 := bJ7.cell 0; have y1 := bJ7.cell 1; have y2 := bJ7.cell 2; have y3 := bJ7.cell 3; have v0 := bB7.cell 0; have HSY7 := Lib.hid (HSY.out w7 W7 hd7); have HN7 := Lib.hid hn7; have HO7 := Lib.hid ho7; clear hd7 hn7 ho7 bJ7 bB7)
    | (go_at_call 59; refine HSY7.out.mono ?_; rintro x w8 ⟨rfl, hdid⟩; have HDID8 := Lib.hid (Did.trans HN7.out HO7.out hdid); obtain ⟨W8, hd8, hn8, ho8⟩ := HDID8.out; have hsz := HO5.out.size; obtain ⟨bJ8, bB8⟩ := two_new w5 _ w8 _ ho8 (fun k hk => by simp at hk; omega); have z0 := bJ8.cell 0; have z1 := bJ8.cell 1; have z2 := bJ8.cell 2; have z3 := bJ8.cell 3; have u0 := bB8.cell 0; have HLD8 := Lib.hid (HLD.out w8 W8 hd8); have HN8 := Lib.hid hn8; have HO8 := Lib.hid ho8; clear hdid hd8 hn8 ho8 bJ8 bB8)
    | (go_at_call 60; refine HLD8.out.mono ?_; rintro x w9 ⟨rfl, hdid⟩))
  exact bodyPost_ret (v := .tuple #[.pointer none, .int .i64 3]) (by simp [results, Tryz.results13, go_sem]) rfl (.inl ⟨rfl, rfl, did_after ((HO5.out.alloc _).alloc _) (Did.trans HN8.out HO8.out hdid)⟩)
set_option maxHeartbeats 2000000 in
theorem open_fresh_ok (hd : IsD w p g b W cap d) (hn : 8 ≤ d.n) (hn2 : d.n ≤ 200000) (hoff : d.off = false) (hg0 : newestD d = 0) (hdn2 : d.done ≤ 4611686018427000000) {D1 D2 D3 : DS} {b1 : Bool} (hz : zeroH d (halfD d 1) 0 = (D1, b1)) (hcase : (b1 = true ∧ synD D1 = (D2, true) ∧ leadH D2 (halfD d 1) = (D3, true)) ∧ zeroH d (halfD d 1) 0 = (D1, b1)) :
    Calls Tryz.prog 13 #[.pointer (some ⟨p, 0, none⟩)] w fun x w' => OpenO w p g b W cap (D3, some ⟨halfD d 1, allH D3 (halfD d 1), false⟩, 0) x w' := by
  refine (callsIn_wide (n := 6)).1 ?_
  have HS := Lib.hid ((callsIn_wide (n := 5)).2 (sectors_any hd))
  have hdn := (callsIn_wide (n := 5)).2 (down_any hd)
  rw [hoff] at hdn
  have HDN := Lib.hid hdn
  have hnw := (callsIn_wide (n := 5)).2 (newest_any hd)
  rw [hg0] at hnw
  have HN := Lib.hid hnw
  have HD := Lib.hid hd
  have e1 : decide ((d.n : Int) < 8) = false := decide_eq_false (by omega)
  have e1' : decide (d.n < 8) = false := decide_eq_false (by omega)
  have HH := Lib.hid (fun (wx : World) (ho : Only [] w wx) => (callsIn_wide (n := 5)).2 (halfOf_any (hd.only0 ho) 1 (by omega) (by omega)))
  have hsm : (halfD d 1).small := by
    unfold halfD roomD Half.small
    simp only
    refine ⟨⟨?_, ?_⟩, ⟨?_, ?_⟩, ?_, ?_⟩ <;> omega
  have HSM := Lib.hid hsm
  obtain ⟨h, hh⟩ : ∃ h, halfD d 1 = h := ⟨_, rfl⟩
  rw [hh] at HH HSM hz hcase ⊢
  have hpb : p < w.heap.size ∧ g < w.heap.size ∧ b < w.heap.size := by
    have h2 := hd.blk.lt
    obtain ⟨C, c1, _⟩ := hd.safe
    have h3 := c1.lt
    have h4 := isD_map_lt hd
    omega
  have hzd := zero_done d h 0
  rw [hz] at hzd
  simp only at hzd
  have HZ := Lib.hid (fun (wx : World) (ho : Only [] w wx) => (show Calls Tryz.prog 58 #[h.val p, .int .i64 0] wx fun x w' => BoolJ wx p g b W cap (D1, b1) x w' from by
    have := zero_any (hd.only0 ho) h HSM.out 0 (by omega) (by omega)
    rw [hz] at this
    exact this))
  obtain ⟨⟨rfl, hsy, hld⟩, _⟩ := hcase
  have he : errS D1 = 0 := by
    rcases errS_is D1 with h | h
    · exact h.1
    · rw [hsy] at h; cases h.2
  have hsd := syn_done D1
  rw [hsy] at hsd
  simp only at hsd
  have HSY := Lib.hid (fun (wx : World) (W6 : List Nat) (hd : IsD wx p g b W6 cap D1) => sync_0 hd he (show (synD D1).1 = D2 by rw [hsy]) (by omega))
  have HLD := Lib.hid (fun (wx : World) (W6 : List Nat) (hd : IsD wx p g b W6 cap D2) => (show Calls Tryz.prog 60 #[h.val p] wx fun x w' => BoolJ wx p g b W6 cap (D3, true) x w' from by
    have := lead_any hd h HSM.out (by omega)
    rw [hld] at this
    exact this))
  clear hd hdn hoff hh hsm hz hnw hg0 he hsy hld
  obtain ⟨gen, fr, room⟩ := h
  unfold Half.val at HH HZ HLD
  simp only at HH HZ HLD
  refine callsIn_of_wp_marks Tryz.func13 rfl trivial ?_ rfl
  simp only [Tryz.ntmps13, List.size_toArray, List.length_cons, List.length_nil, Nat.reduceAdd, Nat.reduceSub, Array.replicate_succ, Array.replicate_zero, List.push_toArray, List.append_toArray, List.nil_append, List.cons_append]
  gi_wp2_with (first
    | (refine ⟨trivial, ?_⟩; gi_at_call 55; refine HS.out.mono ?_; rintro x w2 ⟨rfl, hw2⟩; have hw2 := hw2.symm; subst hw2)
    | (refine ⟨trivial, ?_⟩; gi_at_call 20; refine HDN.out.mono ?_; rintro x w3 ⟨rfl, hw3⟩; have hw3 := hw3.symm; subst hw3)
    | (refine ⟨trivial, ?_⟩; gi_at_call 56; refine HN.out.mono ?_; rintro x w4 ⟨rfl, ho4⟩; have HO4 := Lib.hid ho4; clear ho4)
    | (refine ⟨trivial, ?_⟩; gi_at_call 57; refine (HH.out w4 HO4.out).mono ?_; rintro x w5 ⟨rfl, ho5⟩; have HO5 := Lib.hid (HO4.out.trans ho5 (by simp)); clear ho5)
    | (refine ⟨trivial, ?_⟩; gi_at_call 58; refine ((callsIn_wide (n := 5)).2 (HZ.out _ ((HO5.out.alloc _).alloc _))).mono ?_; rintro x w7 ⟨rfl, hdid⟩; obtain ⟨W7, hd7, hn7, ho7⟩ := hdid; have hsz := HO5.out.size; obtain ⟨bJ7, bB7⟩ := two_new w5 _ w7 _ ho7 (fun k hk => by simp at hk; omega); have y0 := bJ7.cell 0; have y1 := bJ7.cell 1; have y2 := bJ7.cell 2; have y3 := bJ7.cell 3; have v0 := bB7.cell 0; have HSY7 := Lib.hid ((callsIn_wide (n := 5)).2 (HSY.out w7 W7 hd7)); have HN7 := Lib.hid hn7; have HO7 := Lib.hid ho7; clear hd7 hn7 ho7 bJ7 bB7)
    | (refine ⟨trivial, ?_⟩; gi_at_call 59; refine HSY7.out.mono ?_; rintro x w8 ⟨rfl, hdid⟩; have HDID8 := Lib.hid (Did.trans HN7.out HO7.out hdid); obtain ⟨W8, hd8, hn8, ho8⟩ := HDID8.out; have hsz := HO5.out.size; obtain ⟨bJ8, bB8⟩ := two_new w5 _ w8 _ ho8 (fun k hk => by simp at hk; omega); have z0 := bJ8.cell 0; have z1 := bJ8.cell 1; have z2 := bJ8.cell 2; have z3 := bJ8.cell 3; have u0 := bB8.cell 0; have HLD8 := Lib.hid ((callsIn_wide (n := 5)).2 (HLD.out w8 W8 hd8)); have HN8 := Lib.hid hn8; have HO8 := Lib.hid ho8; clear hdid hd8 hn8 ho8 bJ8 bB8)
    | (refine ⟨trivial, ?_⟩; gi_at_call 60; refine HLD8.out.mono ?_; rintro x w6 ⟨rfl, hdid⟩; have HDID := Lib.hid (Did.trans HN8.out HO8.out hdid); obtain ⟨_, _, _, ho9⟩ := HDID.out; have hsz := HO5.out.size; obtain ⟨bJ9, bB9⟩ := two_new w5 _ w6 _ ho9 (fun k hk => by simp at hk; omega); have r0 := bJ9.cell 0; have r1 := bJ9.cell 1; have r2 := bJ9.cell 2; have r3 := bJ9.cell 3; have s0 := bB9.cell 0; clear hdid ho9 bJ9 bB9))
  obtain ⟨W9, hD6, hn9, ho9⟩ := HDID.out
  have h35 := HO5.out.size
  have hpq : p < w5.heap.size ∧ g < w5.heap.size ∧ b < w5.heap.size := by omega
  have ho2 : Only [] w ((w5.alloc (.cells #[.pointer (some ⟨p, 0, none⟩), .int .i64 gen, .int .i64 fr, .int .i64 room, .slice none 0 0, .bool false] 65)).alloc (.cells #[.pointer (some ⟨w5.heap.size, 0, none⟩)] 30)) := (HO5.out.alloc _).alloc _
  have hs2 : ((w5.alloc (.cells #[.pointer (some ⟨p, 0, none⟩), .int .i64 gen, .int .i64 fr, .int .i64 room, .slice none 0 0, .bool false] 65)).alloc (.cells #[.pointer (some ⟨w5.heap.size, 0, none⟩)] 30)).heap.size = w5.heap.size + 2 := by rw [World.size_alloc, World.size_alloc]
  have hWq : ∀ k ∈ W9, k ≠ w5.heap.size := fun k hk => by
    rcases hn9 k hk with h1 | h1
    · have := HD.out.low k h1; omega
    · omega
  obtain ⟨bJ6, bB6⟩ := two_new w5 _ w6 _ ho9 (fun k hk => by simp at hk; omega)
  have hq6 : w5.heap.size + 1 < w6.heap.size := by have := ho9.size; omega
  have HO36 := Lib.hid ((ho2.mono (S' := [p, g, b]) (by simp)).trans ho9 (fun k hk => .inl hk))
  have HN6 := Lib.hid (show Newer w W W9 from fun k hk => by
    rcases hn9 k hk with h1 | h1
    · exact .inl h1
    · exact .inr (by omega))
  obtain ⟨q, hq⟩ : ∃ q, w5.heap.size = q := ⟨_, rfl⟩
  rw [hq] at bJ6 bB6 hq6 hpq hWq h35 r0 r1 r2 r3 s0 ⊢
  clear ho2 hs2 ho9 hn9
  refine ⟨trivial, ?_⟩
  gi_at_call 61
  refine (groups_in Fence.wide 5 trivial rfl p ⟨gen, fr, room⟩ w6).mono ?_
  rintro x w7 ⟨rfl, hw7⟩
  have ho67 : Only [] w6 w7 := by rw [hw7]; exact (Only.refl [] w6).alloc _
  have bH7 : Blk w7 w6.heap.size 63 (halfC p ⟨gen, fr, room⟩) := by rw [hw7]; exact Blk.new w6 _ _
  have bJ7 := bJ6.only ho67 (by simp)
  have bB7 := bB6.only ho67 (by simp)
  have hs7 : w7.heap.size = w6.heap.size + 1 := by rw [hw7, World.size_alloc]
  have hD7 := hD6.only0 ho67
  have ho7 : Only [p, g, b] w w7 := HO36.out.trans ho67 (by simp)
  obtain ⟨hb, hhb⟩ : ∃ hb, w6.heap.size = hb := ⟨_, rfl⟩
  rw [hhb] at bH7 hs7 hq6 ⊢
  have HS7 := Lib.hid (show q + 1 < hb ∧ p < q ∧ g < q ∧ b < q ∧ hb < w7.heap.size ∧ w.heap.size ≤ q from by omega)
  have HWQ := Lib.hid hWq
  clear hw7 hs7 bJ6 bB6 ho67 hhb hq6 hpq hWq
  gi_wp2
  refine wpIn_rangeV rfl (by omega) (gf := 107) (lb := #[.pointer (some ⟨hb, 0, none⟩)]) rfl trivial (enters_of Tryz.func107 (by kernel_rfl) rfl)
    (groups1_seq (p := p) (g := g) (b := b) (cap := cap) (W := W9) (d := D3) 5 (by omega) ⟨gen, fr, room⟩ HSM.out hb w7.heap.size) (fun _ => rfl)
    (InvO p q gen fr room w7) (InvO.own p q gen fr room w7 (by have hz := HS7.out; omega) bJ7) (InvO.only0 p q gen fr room w7) (fun s X h => ⟨hD7.only h.1 (by have hz := HS7.out; simp; omega) (fun k hk => by have := HWQ.out k hk; simp; omega), bH7.only h.1 (by have hz := HS7.out; simp; omega), h.1.size⟩) (freshSl_own w7.heap.size)
    ⟨Only.refl _ _, _, bJ7, OwnR.nil_ _ _ _ _, fun s hs => by cases hs⟩ ?act1 ?assign ?body ?done
  case assign =>
    intro l x W K hK
    gi_wp2
    exact hK
  case body =>
    intro l pre x X hI hV hN
    obtain ⟨ho, v, bJ, hown, hts⟩ := hI
    have bB := bB7.only ho (by simp)
    have hS : X.drew.cell? ⟨q + 1, 0, none⟩ = some (.pointer (some ⟨q, 0, none⟩)) := bB.cell 0
    have hl : X.cell? ⟨q, 4, none⟩ = some v := bJ.cell 4
    gi_wp2
    refine wpIn_region_held (S := fun Y => Y.cell? ⟨q + 1, 0, none⟩ = some (.pointer (some ⟨q, 0, none⟩))) (by kernel_rfl) (noDefer_all (by kernel_rfl)) (by rintro ⟨a, w, h⟩; exact h) ?_
    refine takeH (i := 0) rfl (by kernel_rfl) (by kernel_rfl) (by kernel_rfl) (fun _ _ _ h => h) rfl rfl (v := .pointer (some ⟨q, 0, none⟩)) (fun Y hY => by go_simp) hS ?_; simp only [s0A, s0B, s0C]
    refine takeH (i := 1) rfl (by kernel_rfl) (by kernel_rfl) (by kernel_rfl) (fun _ _ _ h => h) rfl rfl (v := .pointer (some ⟨q, 0, none⟩)) (fun Y hY => by go_simp) hS ?_; simp only [s0A, s0B, s0C]
    refine takeH (i := 2) rfl (by kernel_rfl) (by kernel_rfl) (by kernel_rfl) (fun _ _ _ h => h) rfl rfl (v := .pointer (some ⟨q, 0, none⟩)) (fun Y hY => by go_simp) hS ?_; simp only [s0A, s0B, s0C]
    refine takeH (i := 3) rfl (by kernel_rfl) (by kernel_rfl) (by kernel_rfl) (fun _ _ _ h => h) rfl rfl (v := .pointer (some ⟨q, 4, none⟩)) (fun Y hY => by go_simp) hS ?_; simp only [s0A, s0B, s0C]
    refine takeH (i := 5) rfl (by kernel_rfl) (by kernel_rfl) (by kernel_rfl) (fun _ _ _ h => h) rfl rfl (v := .slice x.A x.n x.c) (fun Y hY => by go_simp) hS ?_; simp only [s0A, s0B, s0C]
    refine twoH (i := 4) (j := 6) rfl rfl (by kernel_rfl) rfl rfl ?_ ?_
    · go_simp
      refine oneH (i := 6) rfl (by kernel_rfl) rfl ?_
      go_simp
      refine ⟨(bB.alloc _).cell 0, ?_⟩
      rw [show (X.alloc (.cells #[.slice x.A x.n x.c] 35)).drew = X.drew.alloc (.cells #[.slice x.A x.n x.c] 35) from rfl]
      refine oneH (i := 7) rfl (by kernel_rfl) rfl ?_
      refine step_append1 (w := X.drew) rfl (.tmp 59) (.tmp 61) 34 rfl Tryz.underlying34 sl_info rfl (by decide) rfl hown.drew rfl rfl (row := [x.val]) rfl rfl (by intro u hu; rw [List.mem_singleton.1 hu]; rfl) (by omega) (by unfold maxLen; omega) (by have h1 := ho.size; have h2 : X.drew.heap.size = X.heap.size := rfl; omega) ?_
      intro v' w8 hE
      obtain ⟨g', cap', rfl⟩ := ownsRow_succ hE.own.own
      have hqv : q ∉ ownL v := row_ne hown q bJ (by decide)
      have hqv1 : q + 1 ∉ ownL v := row_ne hown (q + 1) bB (by decide)
      have bB8 := bB.drew.only hE.only hqv1
      have bJ8 := bJ.drew.only hE.only hqv
      have hS8 : w8.cell? ⟨q + 1, 0, none⟩ = some (.pointer (some ⟨q, 0, none⟩)) := bB8.cell 0
      have c8 := bJ8.cell 4
      have f8 := bJ8.frozen 4
      refine ⟨hS8, ?_⟩
      go_simp
      refine takeH (i := 8) rfl (by kernel_rfl) (by kernel_rfl) (by kernel_rfl) (fun _ _ _ h => h) rfl rfl (v := .pointer (some ⟨q, 0, none⟩)) (fun Y hY => by go_simp) hS8 ?_; simp only [s0A, s0B, s0C]
      refine takeH (i := 9) rfl (by kernel_rfl) (by kernel_rfl) (by kernel_rfl) (fun _ _ _ h => h) rfl rfl (v := .pointer (some ⟨q, 4, none⟩)) (fun Y hY => by go_simp) hS8 ?_; simp only [s0A, s0B, s0C]
      refine oneH (i := 10) rfl (by kernel_rfl) rfl ?_
      go_simp
      refine ⟨by kernel_rfl, ?_⟩
      exact InvO.next p q gen fr room w7 (by have hz := HS7.out; omega) bJ hown hts ho hV hE hqv
    · go_simp
      refine ⟨(bB.alloc _).cell 0, ?_⟩
      have hl2 := (bJ.alloc (.cells #[.slice x.A x.n x.c] 35)).cell 4
      have hS2 := (bB.alloc (.cells #[.slice x.A x.n x.c] 35)).cell 0
      refine oneH (i := 4) rfl (by kernel_rfl) rfl ?_
      go_simp
      rw [show (X.alloc (.cells #[.slice x.A x.n x.c] 35)).drew = X.drew.alloc (.cells #[.slice x.A x.n x.c] 35) from rfl]
      refine oneH (i := 7) rfl (by kernel_rfl) rfl ?_
      refine step_append1 (w := X.drew) rfl (.tmp 59) (.tmp 61) 34 rfl Tryz.underlying34 sl_info rfl (by decide) rfl hown.drew rfl rfl (row := [x.val]) rfl rfl (by intro u hu; rw [List.mem_singleton.1 hu]; rfl) (by omega) (by unfold maxLen; omega) (by have h1 := ho.size; have h2 : X.drew.heap.size = X.heap.size := rfl; omega) ?_
      intro v' w8 hE
      obtain ⟨g', cap', rfl⟩ := ownsRow_succ hE.own.own
      have hqv : q ∉ ownL v := row_ne hown q bJ (by decide)
      have hqv1 : q + 1 ∉ ownL v := row_ne hown (q + 1) bB (by decide)
      have bB8 := bB.drew.only hE.only hqv1
      have bJ8 := bJ.drew.only hE.only hqv
      have hS8 : w8.cell? ⟨q + 1, 0, none⟩ = some (.pointer (some ⟨q, 0, none⟩)) := bB8.cell 0
      have c8 := bJ8.cell 4
      have f8 := bJ8.frozen 4
      refine ⟨hS8, ?_⟩
      go_simp
      refine takeH (i := 8) rfl (by kernel_rfl) (by kernel_rfl) (by kernel_rfl) (fun _ _ _ h => h) rfl rfl (v := .pointer (some ⟨q, 0, none⟩)) (fun Y hY => by go_simp) hS8 ?_; simp only [s0A, s0B, s0C]
      refine takeH (i := 9) rfl (by kernel_rfl) (by kernel_rfl) (by kernel_rfl) (fun _ _ _ h => h) rfl rfl (v := .pointer (some ⟨q, 4, none⟩)) (fun Y hY => by go_simp) hS8 ?_; simp only [s0A, s0B, s0C]
      refine oneH (i := 10) rfl (by kernel_rfl) rfl ?_
      go_simp
      refine ⟨by kernel_rfl, ?_⟩
      exact InvO.next p q gen fr room w7 (by have hz := HS7.out; omega) bJ hown hts ho hV hE hqv
  case done =>
    rintro D ys X hD hys hI hK
    have hI2 := (InvO.own p q gen fr room w7 (by have hz := HS7.out; omega) bJ7).putObj (.deferred none) hI hD hK rfl
    obtain ⟨hoX, v0, bJX, _⟩ := hI
    have c0 := (bB7.only hoX (by simp)).cell 0
    gi_wp2
    refine ⟨by simp, .inl ⟨_, _, rfl, run_takeDeferred hK, ?_⟩⟩
    obtain ⟨h1, v, h2, h3, h4⟩ := hI2
    have hz := HS7.out
    refine ⟨.tuple #[.pointer (some ⟨q, 0, none⟩), .int .i64 0], by simp [results, Tryz.results13, go_sem], .inr ⟨⟨⟨gen, fr, room⟩, allH D3 ⟨gen, fr, room⟩, false⟩, q, v, ys, W9, rfl, rfl, by omega, hD7.only h1 (by simp; omega) (fun k hk => by have := HWQ.out k hk; simp; omega), HN6.out, ho7.trans h1 (fun k hk => .inr (by simp at hk; omega)), ⟨h2, h3.mono (by omega), fun s hs => ?_, hys, HSM.out⟩, fun s hs k hk => by have := ((h4 s hs).1.2.2.2.2 k hk).1; omega, fun k hk hm => by
      rcases List.mem_cons.1 hm with e | e
      · exact HWQ.out k hk e
      · have h5 := (h3.lt k e).1
        have h6 := hD7.low k hk
        omega⟩⟩
    obtain ⟨⟨a1, a2, a3, a4, a5⟩, a6⟩ := h4 s hs
    refine ⟨a1, a2, a3, a4, fun hn k hk hm => ?_⟩
    have := (a5 k hk).1
    unfold JT at hm
    simp only [List.mem_cons] at hm
    rcases hm with e | e | e | e | e
    · omega
    · omega
    · omega
    · omega
    · exact a6 hn k hk e
theorem open_any (hd : IsD w p g b W cap d) (hn2 : d.n ≤ 200000) (hg : newestD d ≤ 4611686018427387000) (hdn : d.done ≤ 4611686018427000000) : Calls Tryz.prog 13 #[.pointer (some ⟨p, 0, none⟩)] w fun x w' => OpenO w p g b W cap (openJ d) x w' := by
  by_cases hn : (d.n : Int) < 8
  · exact open_few hd hn
  · cases hoff : d.off with
    | true => exact open_off hd hn hoff
    | false =>
      by_cases h1 : 1 ≤ newestD d
      · exact open_old hd (by omega) hn2 hoff hg h1
      · have h0 : newestD d = 0 := by
          have : 0 ≤ newestD d := newK_in d 2 (Nat.le_refl _)
          omega
        rw [openJ_fresh (by omega) hoff h0]
        obtain ⟨⟨D1, b1⟩, hz⟩ : ∃ r, zeroH d (halfD d 1) 0 = r := ⟨_, rfl⟩
        rw [hz]
        cases b1 with
        | false => exact open_fresh_no0 hd (by omega) hn2 hoff h0 hdn hz ⟨rfl, hz⟩
        | true =>
          rw [andThen_ok (x := (D1, true)) rfl]
          obtain ⟨⟨D2, b2⟩, hs⟩ : ∃ r, synD D1 = r := ⟨_, rfl⟩
          simp only
          rw [hs]
          cases b2 with
          | false => exact open_fresh_no1 hd (by omega) hn2 hoff h0 hdn hz ⟨⟨rfl, hs⟩, hz⟩
          | true =>
            rw [andThen_ok (x := (D2, true)) rfl]
            obtain ⟨⟨D3, b3⟩, hl⟩ : ∃ r, leadH D2 (halfD d 1) = r := ⟨_, rfl⟩
            simp only
            rw [hl]
            cases b3 with
            | false => exact open_fresh_no2 hd (by omega) hn2 hoff h0 hdn hz ⟨⟨rfl, hs, hl⟩, hz⟩
            | true => exact open_fresh_ok hd (by omega) hn2 hoff h0 hdn hz ⟨⟨rfl, hs, hl⟩, hz⟩
end
end Go.Proofs.YthgfmoogagldmaaGreat.Journal
