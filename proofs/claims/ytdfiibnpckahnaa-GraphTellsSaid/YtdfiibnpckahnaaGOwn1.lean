/- slices.Values of paths; AppendSeq over it. -/
import Derived.Test.YtdfiibnpckahnaaGH1
import Derived.Test.YtdfiibnpckahnaaRangeV
namespace Go.Proofs.Ytdfiibnpckahnaa.Graph
open Go.RowKit Go.Shelf
set_option linter.unusedVariables false
set_option maxRecDepth 100000
attribute [local go_sem] Oper.semAt_some
theorem str_inf : (Try.prog.info? 9).map (fun i => (i.zero, i.size, i.bytes)) = some (some (.string ⟨#[]⟩), 1, 16) := by kernel_rfl
theorem blk_grown {w w' : World} {g : Nat} {t : TypeId} {cs : Array Value} {row : Option Nat} (h : Blk w g t cs) (hg : w.grownBy w' row) (hr : ∀ r, row = some r → ∃ o : Obj, w.heap[r]? = some o ∧ o.isCells = false) : Blk w' g t cs :=
  h.only (Only.of_grown hg) fun hm => by
    obtain ⟨o, h1, h2⟩ := hr g (by simpa using hm)
    unfold Blk at h
    rw [h] at h1
    cases h1
    cases h2
theorem row_blks {w : World} {base e size n : Nat} {v : Value} {rows : List (List Value)} (h : OwnR e size w base v n rows) : ∀ g ∈ ownL v, base ≤ g ∧ ∃ t cs, Blk w g t cs := by
  intro g hg
  refine ⟨(h.lt g hg).1, ?_⟩
  obtain ⟨_, h0⟩ := h.own
  rcases h0 with ⟨rfl, _⟩ | ⟨g', cap, cur, rfl, _, hh, _⟩
  · simp [ownL, Value.ownBlock] at hg
  · simp [ownL, Value.ownBlock] at hg
    subst hg
    exact ⟨_, _, hh⟩
theorem own_grown {w w' : World} {e size base n : Nat} {v : Value} {rows : List (List Value)} {row : Option Nat} (h : OwnR e size w base v n rows) (hg : w.grownBy w' row) (hr : ∀ r, row = some r → ∃ o : Obj, w.heap[r]? = some o ∧ o.isCells = false) : OwnR e size w' base v n rows :=
  h.only (Only.of_grown hg) fun g hgm hm => by
    obtain ⟨_, t, cs, hb⟩ := row_blks h g hgm
    obtain ⟨o, h1, h2⟩ := hr g (by simpa using hm)
    unfold Blk at hb
    rw [hb] at h1
    cases h1
    cases h2
theorem values_any (A : Option Addr) (n c : Nat) (w : World) : Calls Try.prog 41 #[.slice A n c] w fun e w' => e = .returned (.func (.func 53) #[] #[.pointer (some ⟨w.heap.size, 0, none⟩)]) ∧ w' = w.alloc (.cells #[.slice A n c] 25) := by
  go_enter Try.func41, Try.ntmps41
  go_wp2_with fail
  go_ret
  exact ⟨rfl, rfl⟩
section
variable {w w' : World}
/-- paths that are read one after the other -/
def RdP (X : World) (hb : Nat) (A : Option Addr) (n c B : Nat) (l : List Path) : Prop := Blk X hb 25 #[.slice A n c] ∧ Reads X B 1 A n (l.map sv)
theorem RdP.at_ {X : World} {hb B n c : Nat} {A : Option Addr} {l : List Path} (h : RdP X hb A n c B l) {j : Nat} (hj : j < n) : ∃ b off s, A = some ⟨b, off, none⟩ ∧ l[j]? = some s ∧ X.cell? ⟨b, off + j, none⟩ = some (sv s) := by
  obtain ⟨b, off, hA, _, hc⟩ := Reads.at1 h.2 hj
  have hl : j < l.length := by have := h.2.1; rw [List.length_map, Nat.mul_one] at this; omega
  rw [List.getElem?_map, List.getElem?_eq_getElem hl] at hc
  exact ⟨b, off, l[j], hA, List.getElem?_eq_getElem hl, hc⟩
set_option maxHeartbeats 2000000 in
theorem values1_seq (m : Nat) (hm : 1 ≤ m) (hb : Nat) (A : Option Addr) (n c B : Nat) (l : List Path) (hl : l.length = n) (hn : n ≤ 100000) :
    SeqV Fence.wide m Try.prog 53 #[.pointer (some ⟨hb, 0, none⟩)] (fun s : Path => #[sv s]) (fun X => RdP X hb A n c B l) (fun _ _ => True) (fun ys => ys = l) 100001 := by
  intro lp J W0 hJo hJK hY h0
  have HJK := Lib.hid hJK
  have HJO := Lib.hid hJo
  have HY := Lib.hid hY
  have HL := Lib.hid hl
  have hr0 := HJK.out _ _ h0
  have x0 : W0.cell? ⟨hb, 0, none⟩ = some (.slice A n c) := hr0.1.cell 0
  clear hJK hJo hY hl hr0
  refine callsIn_of_wp Try.func53 rfl trivial ?_ rfl
  simp only [Try.ntmps53, List.size_toArray, List.length_cons, List.length_nil, Nat.reduceAdd, Nat.reduceSub, Array.replicate_succ, Array.replicate_zero, List.push_toArray, List.append_toArray, List.nil_append, List.cons_append]
  gi_wp2
  gi_loopw [7] (fun i wr => ∃ j : Nat, i = .int .i64 j ∧ j ≤ n ∧ J (l.take j) wr) (fun i _ => n - (intOf i).toNat)
  case atStart => exact ⟨0, rfl, by omega, by simpa using h0⟩
  case round =>
    obtain ⟨j, rfl, hj, hJ⟩ := hrel
    have HJ := Lib.hid hJ
    clear h0 x0
    by_cases hlt : j < n
    · have d1 : decide ((j : Int) < (n : Int)) = true := decide_eq_true (by omega)
      have d1' : decide (j < n) = true := decide_eq_true hlt
      obtain ⟨b, off, s, rfl, hs, hc⟩ := (HJK.out _ _ hJ).at_ hlt
      unfold sv at hc
      have hlen : (l.take j).length = j := by rw [List.length_take, HL.out]; omega
      obtain ⟨fn, tmps, assign, body, hy, hR⟩ := HY.out (l.take j) s wr hJ trivial (by omega)
      unfold sv at hy
      have HRR := Lib.hid hR
      have HS := Lib.hid hs
      clear hJ hR hs hlen
      gi_wp2
      refine HRR.out.mono ?_
      rintro x W3 ⟨rfl, hJ3⟩
      have HJ3 := Lib.hid hJ3
      clear hJ3 hy HRR
      gi_wp2
      go_roundw
      case measure => simp [intOf]; omega
      case rel =>
        refine ⟨j + 1, by go_num, by omega, ?_⟩
        obtain ⟨h1, h2⟩ := List.getElem?_eq_some_iff.1 HS.out
        rw [List.take_succ_eq_append_getElem h1, h2]
        exact HJ3.out
    · obtain rfl : j = n := by omega
      have d1 : decide ((j : Int) < (j : Int)) = false := decide_eq_false (by omega)
      clear hJ
      gi_wp2
      go_end0
      refine ⟨⟨_, rfl⟩, l, rfl, ?_⟩
      have h1 := HJ.out
      rw [List.take_of_length_le (by rw [HL.out]; exact Nat.le_refl _)] at h1
      exact h1
/-- what is appended, in its box -/
def InvS (q : Nat) (w7 : World) (pre : List Path) (X : World) : Prop := Only [q] w7 X ∧ ∃ v, Blk X q 25 #[v] ∧ OwnR 9 1 X w7.heap.size v pre.length (svs pre) ∧ q ∉ ownL v
theorem InvS.own (q : Nat) (w7 : World) : OwnFrom w7.heap.size (InvS q w7) := fun s X Y row ⟨h1, v, h2, h3, h4⟩ hg hr =>
  ⟨h1.trans (Only.of_grown hg) (fun k hk => .inr (hr k (by simpa using hk)).1), v, blk_grown h2 hg (fun r e => (hr r e).2), own_grown h3 hg (fun r e => (hr r e).2), h4⟩
theorem InvS.only0 (q : Nat) (w7 : World) (s : List Path) (X Y : World) (h : InvS q w7 s X) (ho : Only [] X Y) : InvS q w7 s Y := by
  obtain ⟨h1, v, h2, h3, h4⟩ := h
  exact ⟨h1.trans ho (by simp), v, h2.only ho (by simp), h3.only ho (by simp), h4⟩
theorem InvS.next {q : Nat} {w7 X w8 : World} {v v' : Value} {pre : List Path} {s : Path} (hq : q < w7.heap.size) (ho : Only [q] w7 X) (hb : Blk X q 25 #[v]) (hown : OwnR 9 1 X w7.heap.size v pre.length (svs pre)) (hqv : q ∉ ownL v)
    (hE : ExtR 9 1 X w8 w7.heap.size v v' (pre.length + 1) (svs pre ++ [[sv s]])) : KeepsFrom w7.heap.size X (w8.setCell ⟨q, 0, none⟩ v') ∧ InvS q w7 (pre ++ [s]) (w8.setCell ⟨q, 0, none⟩ v') := by
  have h5 : Only (q :: ownL v) X (w8.setCell ⟨q, 0, none⟩ v') := (hE.only.mono (fun g hg => .inl (List.mem_cons_of_mem _ hg))).setCell (p := ⟨q, 0, none⟩) (.inl (by simp)) _
  have hcells : ∀ g ∈ q :: ownL v, ∃ t cs, Blk X g t cs := by
    intro g hg
    rcases List.mem_cons.1 hg with rfl | hg
    · exact ⟨_, _, hb⟩
    · exact (row_blks hown g hg).2
  have hb8 := hb.only hE.only hqv
  have hql : q < X.heap.size := hb.lt
  have hqn : q ∉ ownL v' := fun hm => (hE.fresh q hm).elim hqv (fun h => by omega)
  refine ⟨(h5.others hcells).from _, ho.trans h5 (fun g hg => ?_), v', hb8.set_ 0 v', ?_, hqn⟩
  · rcases List.mem_cons.1 hg with e | e
    · exact .inl (by simp [e])
    · exact .inr (hown.lt g e).1
  · have e : svs pre ++ [[sv s]] = svs (pre ++ [s]) := by unfold svs; simp
    have hE1 := hE.own
    rw [e] at hE1
    rw [List.length_append]
    exact hE1.only ((Only.refl [q] w8).setCell (p := ⟨q, 0, none⟩) (.inl (by simp)) _) (fun g hg hm => by
      rw [List.mem_singleton.1 hm] at hg
      exact hqn hg)
theorem reads_low {S : List Nat} {B size n : Nat} {A : Option Addr} {xs : List Value} (hr : Reads w B size A n xs) (h : Only S w w') (hn : ∀ g ∈ S, B ≤ g) : Reads w' B size A n xs :=
  ⟨hr.1, fun hp => by
    obtain ⟨ad, rfl, hb, hc⟩ := hr.2 hp
    exact ⟨ad, rfl, hb, fun j u hu => h.cell (hc j u hu) (by rw [block_of_add]; exact fun hm => by have := hn _ hm; omega)⟩⟩
set_option maxHeartbeats 4000000 in
theorem appendSeq_in (hb : Nat) (A : Option Addr) (n c B : Nat) (l : List Path) (w : World) (hr : RdP w hb A n c B l) (hl : l.length = n) (hn : n ≤ 100000) (hB : B ≤ w.heap.size) :
    CallsIn Fence.wide 7 Try.prog 56 #[.slice none 0 0, .func (.func 53) #[] #[.pointer (some ⟨hb, 0, none⟩)]] w fun e w' => ∃ v, e = .returned v ∧ OwnR 9 1 w' w.heap.size v n (svs l) ∧ Only [] w w' := by
  have hbl := hr.1.lt
  have ho7 : Only [] w (w.alloc (.cells #[.slice none 0 0] 25)) := (Only.refl [] w).alloc _
  have bq7 := Blk.new w 25 #[.slice none 0 0]
  have hs7 := World.size_alloc w (.cells #[.slice none 0 0] 25)
  refine callsIn_of_wp_marks Try.func56 rfl trivial ?_ rfl
  simp only [Try.ntmps56, List.size_toArray, List.length_cons, List.length_nil, Nat.reduceAdd, Nat.reduceSub, Array.replicate_succ, Array.replicate_zero, List.push_toArray, List.append_toArray, List.nil_append, List.cons_append]
  gi_wp2
  generalize w.alloc (.cells #[.slice none 0 0] 25) = w7 at *
  have hq7 : w.heap.size < w7.heap.size := by omega
  have HL := Lib.hid hl
  have HS7 := Lib.hid hs7
  have HR := Lib.hid hr
  have HO7 := Lib.hid ho7
  have HPR : Hid (∀ (s : List Path) (X : World), InvS w.heap.size w7 s X → RdP X hb A n c B l) := Lib.hid (fun s X h => by
    have h0 := h.1
    refine ⟨(hr.1.only ho7 (by simp)).only h0 (by simp; omega), ?_⟩
    exact reads_low (hr.2.only ho7 (by simp)) h0 (fun g hg => by rw [List.mem_singleton.1 hg]; exact hB))
  clear hs7 hr ho7 hl
  refine wpIn_rangeV rfl (by omega) (gf := 53) (lb := #[.pointer (some ⟨hb, 0, none⟩)]) rfl trivial (enters_of Try.func53 (by kernel_rfl) rfl)
    (values1_seq 6 (by omega) hb A n c B l HL.out hn) (fun _ => rfl)
    (InvS w.heap.size w7) (InvS.own w.heap.size w7) (InvS.only0 w.heap.size w7) HPR.out (fun _ _ _ _ _ _ _ => trivial)
    ⟨Only.refl _ _, _, bq7, OwnR.nil_ _ _ _ _, by simp [ownL, Value.ownBlock]⟩ ?act1 ?assign ?body ?done
  case assign =>
    intro l x W K hK
    gi_wp2
    exact hK
  case body =>
    intro l pre x X hI hV hN
    obtain ⟨ho, v, bX, hown, hqv⟩ := hI
    have c0 : X.cell? ⟨w.heap.size, 0, none⟩ = some v := bX.cell 0
    have hz := ho.size
    have HI := Lib.hid (And.intro ho (And.intro bX (And.intro hown hqv)))
    clear ho bX hown hqv hV
    unfold sv
    gi_wp2_with (gi_at_builtin; refine wpListIn_append1 (w := X) rfl _ _ 25 rfl Try.underlying25 str_inf rfl (by decide) rfl HI.out.2.2.1 rfl rfl (row := [sv x]) rfl rfl (by intro u hu; rw [List.mem_singleton.1 hu]; rfl) (by omega) (by unfold maxLen; omega) (by omega) ?_; intro v' w8 hE; obtain ⟨g', cap', e'⟩ := ownsRow_succ hE.own.own; subst e'; have q8 := (HI.out.2.1.only hE.only HI.out.2.2.2).cell 0; have f8 := (HI.out.2.1.only hE.only HI.out.2.2.2).frozen 0; have HE := Lib.hid hE; clear hE)
    obtain ⟨r1, r2⟩ := InvS.next hq7 HI.out.1 HI.out.2.1 HI.out.2.2.1 HI.out.2.2.2 HE.out
    exact ⟨r1, r2⟩
  case done =>
    rintro D ys X hD hys hI hK
    subst hys
    have hI2 := (InvS.own w.heap.size w7).putObj (.deferred none) hI hD hK rfl
    obtain ⟨hoX, v0, bX, _⟩ := hI
    have c0 : X.cell? ⟨w.heap.size, 0, none⟩ = some v0 := bX.cell 0
    gi_wp2
    refine ⟨by simp, .inl ⟨_, _, rfl, run_takeDeferred hK, ?_⟩⟩
    obtain ⟨h1, v, h2, h3, _⟩ := hI2
    have e : v = v0 := by
      have x1 : (X.putObj D (.deferred none)).cell? ⟨w.heap.size, 0, none⟩ = some v := h2.cell 0
      have x2 : (X.putObj D (.deferred none)).cell? ⟨w.heap.size, 0, none⟩ = X.cell? ⟨w.heap.size, 0, none⟩ := by
        unfold World.cell?
        rw [World.putObj_heap_other (by show w.heap.size ≠ D; omega)]
      rw [x2, c0] at x1
      injection x1 with x1
      exact x1.symm
    subst e
    have hz := HS7.out
    rw [HL.out] at h3
    exact ⟨v, by simp [results, Try.results56, go_sem], v, rfl, h3.mono (by omega), HO7.out.trans h1 (fun k hk => .inr (by rw [List.mem_singleton.1 hk]; exact Nat.le_refl _))⟩
end
end Go.Proofs.Ytdfiibnpckahnaa.Graph
