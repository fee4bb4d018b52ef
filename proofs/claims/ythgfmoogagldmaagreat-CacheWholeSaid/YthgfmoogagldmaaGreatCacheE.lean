/- CacheE: Put, when the journal takes it; What the cache must know, reckoned; What the cache must know. -/
import Derived.Test.YthgfmoogagldmaaGreatRanges
import Derived.Test.YthgfmoogagldmaaGreatCacheD
import Derived.Test.YthgfmoogagldmaaGreatJournalF
set_option linter.unusedVariables false
set_option maxRecDepth 100000
namespace Go.Proofs.YthgfmoogagldmaaGreat.Cache
open Go.RowKit Go.Maps Go.Shelf Journal Disk Codec
def packC (e : Ent) : List UInt8 := packB (str e.1) (str e.2)
theorem packC_len (e : Ent) : (packC e).length = 8 + e.1.length + e.2.length := by
  unfold packC packB
  rw [List.length_append, List.length_append, le_len]
  rfl
theorem put_sizes {a b : Nat} (ha : a ≤ 500) (hb : b ≤ 1000) : decide ((65536 : Int) < (a : Int)) = false ∧ decide (65536 < a) = false ∧ decide ((1048576 : Int) < 8 + (a : Int) + (b : Int)) = false ∧ wrap64 (8 + (a : Int)) = 8 + (a : Int) ∧ wrap64 (8 + (a : Int) + (b : Int)) = 8 + (a : Int) + (b : Int) :=
  ⟨decide_eq_false (by omega), decide_eq_false (by omega), decide_eq_false (by omega), by unfold wrap64; omega, by unfold wrap64; omega⟩
def Sep (U : List Nat) (p g b q : Nat) (v : Value) (W : List Nat) (ss : List Sl) : Prop := ∀ k ∈ U, k ∉ JT p g b q v ∧ k ∉ W ∧ ∀ s ∈ ss, 0 < s.n → k ∉ blkOf s.A
theorem Sep.app {U : List Nat} {p g b q : Nat} {v v' : Value} {W W' : List Nat} {ss ss' : List Sl} {w : World} (h : Sep U p g b q v W ss) (hlt : ∀ k ∈ U, k < w.heap.size) (hW : Newer w W W') (hv : FreshV w v v') (hs : NewS w ss ss') : Sep U p g b q v' W' ss' := fun k hk => by
  obtain ⟨h1, h2, h3⟩ := h k hk
  have hl := hlt k hk
  refine ⟨fun hm => h1 ?_, fun hm => ?_, fun s hs' hn hm => ?_⟩
  · unfold JT at hm ⊢
    simp only [List.mem_cons] at hm ⊢
    rcases hm with e | e | e | e | e
    · exact .inl e
    · exact .inr (.inl e)
    · exact .inr (.inr (.inl e))
    · exact .inr (.inr (.inr (.inl e)))
    · rcases hv k e with h | h
      · exact .inr (.inr (.inr (.inr h)))
      · omega
  · rcases hW k hm with h | h
    · exact h2 h
    · omega
  · rcases hs s hs' with h | h
    · exact h3 s h hn hm
    · have := h k hm; omega
theorem Sep.grow {U U' : List Nat} {p g b cap q base : Nat} {v : Value} {W : List Nat} {ss : List Sl} {w : World} {d : DS} {js : JS} (h : Sep U p g b q v W ss) (hd : IsD w p g b W cap d) (hj : IsJ w p g b q base js v ss) (hU : ∀ k ∈ U', k ∈ U ∨ w.heap.size ≤ k) : Sep U' p g b q v W ss := fun k hk => by
  rcases hU k hk with h1 | h1
  · exact h k h1
  · exact open_sep hd hj (S := [k]) (fun j hj => by rw [List.mem_singleton.1 hj]; exact h1) k (by simp)
theorem isJ_apart {S : List Nat} {p g b q base : Nat} {v : Value} {W : List Nat} {ss : List Sl} {w w' : World} {js : JS} (h : IsJ w p g b q base js v ss) (ho : Only S w w') (hs : Sep S p g b q v W ss) : IsJ w' p g b q base js v ss :=
  ⟨h.blk.only ho (fun hq => (hs _ hq).1 (by simp [JT])), h.own.only ho (fun k hk hm => (hs k hm).1 (by simp [JT, hk])), fun s hs1 => by
    obtain ⟨h1, h2, h3, h4, h5⟩ := h.held s hs1
    exact ⟨(h1.only_pos ho (fun hn k hk hm => (hs k hm).2.2 s hs1 hn hk)).more ho.size, h2, h3, h4, h5⟩, h.l, h.sm⟩
def PutO (w : World) (p g b cap q base cq m bb ba : Nat) (W T : List Nat) (v : Value) (ss : List Sl) (D : DS) (js : JS) (x : XS) (ev : Nat) (w' : World) : Prop :=
  ∃ W' T', IsD w' p g b W' cap D ∧ IsC w' cq (.pointer (some ⟨q, 0, none⟩)) T' m bb ba x ev ∧ Only (JT p g b q v ++ cq :: T) w w' ∧ ∃ v' ss', IsJ w' p g b q base js v' ss' ∧ (∀ k ∈ W', k ∉ q :: ownL v') ∧ Sep (cq :: T') p g b q v' W' ss' ∧ (∀ k ∈ T', k ∈ T ∨ w.heap.size ≤ k) ∧ FreshV w v v' ∧ Newer w W W'
section
variable {w : World} {cq m bb ba ev p g b q base cap : Nat} {v : Value} {T W : List Nat} {x : XS} {d : DS} {js : JS} {ss : List Sl}

set_option maxHeartbeats 8000000 in
theorem cput_ok (hd : IsD w p g b W cap d) (hn2 : 2 ≤ d.n) (hj : IsJ w p g b q base js v ss) (hW : ∀ k ∈ W, k ∉ q :: ownL v) (hC : IsC w cq (.pointer (some ⟨q, 0, none⟩)) T m bb ba x ev) (hsep : Sep (cq :: T) p g b q v W ss) (hoff : js.off = false) (k val : List UInt8) (hk : k.length ≤ 500) (hval : val.length ≤ 1000)
    (hget : ∀ a, findX x k = some a → a.2.2 ≠ val) (hsl : ss.length ≤ 100000) (hdn : d.done ≤ 4611686018427000000) (hbase : base ≤ w.heap.size) (hm : m ≤ w.heap.size) (hnx : x.nx < 1000000) {D : DS} {js' : JS} (hap : appendJ d js (packC (k, val)) = (D, js', 0)) :
    Calls Tryz.prog 43 #[.pointer (some ⟨cq, 0, none⟩), .string (str k), .string (str val)] w fun y w' => y = .returned (.int .i64 0) ∧ PutO w p g b cap q base cq m bb ba W T v ss D js' (addX x (k, val)) ev w' := by
  have hb1 := Blk.new w 69 #[.string (str k), .string (str val)]
  have ho1 : Only [] w (w.alloc (.cells #[.string (str k), .string (str val)] 69)) := (Only.refl [] w).alloc _
  have hs1 := World.size_alloc w (.cells #[.string (str k), .string (str val)] 69)
  have hnb := Blk.new w 69 #[.string ⟨#[]⟩, .string ⟨#[]⟩]
  have n0 := hnb.cell 0
  have n1 := hnb.cell 1
  have f0 := hnb.frozen 0
  have f1 := hnb.frozen 1
  have hcl := hC.blk.lt
  have htl := hC.idx.lo
  have hpgb := hd.lt
  have hql := hj.lt
  have hov := hj.own.lt
  have hjt : ∀ kk ∈ JT p g b q v, kk < w.heap.size := fun kk h => by
    unfold JT at h
    simp only [List.mem_cons] at h
    rcases h with h | h | h | h | h
    · omega
    · omega
    · omega
    · omega
    · exact (hov kk h).2
  have hwl := hd.low
  have HSEP := Lib.hid hsep
  have HTL := Lib.hid htl
  have HJT := Lib.hid hjt
  have HWL := Lib.hid hwl
  have hC1 := hC.only0 ho1
  have c0 : (w.alloc (.cells #[.string (str k), .string (str val)] 69)).cell? ⟨cq, 0, none⟩ = some (.pointer (some ⟨q, 0, none⟩)) := hC1.blk.cell 0
  have HCN := Lib.hid (cnone_any (hC1.blk.cell 2))
  have HJD := Lib.hid (jdown_is (hj.only0 ho1))
  rw [hoff] at HJD
  have HGET := Lib.hid (cget_any hC1 k (by omega))
  have HPK := Lib.hid (fun wx => pack7 (str k) (str val) wx (by rw [str_size]; omega) (by rw [str_size]; omega))
  have HAP := Lib.hid (fun wx (ho : Only [] w wx) A n c hr hn hnc hcm hfar => append_any (hd.only0 ho) hn2 (hj.only0 ho) hW A n c (packC (k, val)) hr hn hnc hcm hfar hsl hdn (Nat.le_trans hbase ho.size))
  rw [hap] at HAP
  have HC := Lib.hid hC
  have HB1 := Lib.hid hb1
  have HO1 := Lib.hid ho1
  have HK := Lib.hid hk
  have hks : (str k).size ≤ 500 := by rw [str_size]; exact hk
  have hvs : (str val).size ≤ 1000 := by rw [str_size]; exact hval
  have HPL := Lib.hid (packC_len (k, val))
  have HKS := Lib.hid (str_size k)
  have HVS := Lib.hid (str_size val)
  obtain ⟨z, hz⟩ : ∃ z, findX x k = z := ⟨_, rfl⟩
  rw [hz] at HGET hget
  have HVL := Lib.hid hval
  clear hd hj hW hC hsep hap hb1 ho1 hC1 hnb htl hwl hjt hov hoff hz hval
  obtain ⟨e1, e1', e2, e3, e4⟩ := put_sizes hks hvs
  have HA := Lib.hid (And.intro hm (And.intro hnx (And.intro hcl hpgb)))
  clear hm hnx hcl hpgb hql hsl hdn hbase hks hvs hk hn2 hs1
  generalize hw1 : w.alloc (.cells #[.string (str k), .string (str val)] 69) = w1 at *
  cases z with
  | none =>
    have HG2 : Hid (Calls Tryz.prog 41 #[.pointer (some ⟨cq, 0, none⟩), .string (str k)] w1 fun y w' => y = .returned (.tuple #[.string ⟨#[]⟩, .bool false]) ∧ Only [] w1 w') := Lib.hid HGET.out
    clear HGET hget
    go_enter Tryz.func43, Tryz.ntmps43
    go_upto_region 2 with fail
    try rw [hw1]
    clear n0 n1 f0 f1 hw1
    go_upto_region 11 with (first | (go_at_call 95; refine HCN.out.mono ?_; rintro y wn ⟨rfl, hwn⟩; have hwn := hwn.symm; subst hwn) | (go_at_call 19; refine HJD.out.mono ?_; rintro y wn ⟨rfl, hwn⟩; have hwn := hwn.symm; subst hwn) | (go_at_call 41; refine HG2.out.mono ?_; rintro y w2 ⟨rfl, ho2⟩; have HO2 := Lib.hid (HO1.out.trans ho2 (by simp)); have HB2 := Lib.hid (HB1.out.only ho2 (by simp)); clear ho2))
    have hcl := HA.out.2.2.1
    have hbe : w2.cell? ⟨w.heap.size, 0, none⟩ = some (.string (str k)) ∧ w2.cell? ⟨w.heap.size, 1, none⟩ = some (.string (str val)) := ⟨HB2.out.cell 0, HB2.out.cell 1⟩
    have hS : w2.drew.cell? ⟨cq, 0, none⟩ = some (.pointer (some ⟨q, 0, none⟩)) ∧ w2.drew.cell? ⟨w.heap.size, 0, none⟩ = some (.string (str k)) ∧ w2.drew.cell? ⟨w.heap.size, 1, none⟩ = some (.string (str val)) := ⟨(HC.out.only0 HO2.out).blk.cell 0, hbe.1, hbe.2⟩
    refine wp_region_hand (S := (fun Y => Y.cell? ⟨cq, 0, none⟩ = some (.pointer (some ⟨q, 0, none⟩)) ∧ Y.cell? ⟨w.heap.size, 0, none⟩ = some (.string (str k)) ∧ Y.cell? ⟨w.heap.size, 1, none⟩ = some (.string (str val)))) (by kernel_rfl) ?_
    refine takeV 0 (.pointer (some ⟨cq, 0, none⟩)) rfl rfl (by kernel_rfl) (fun Y hY => by obtain ⟨y0, y1, y2⟩ := hY; go_simp) hS ?_; simp only [s0A, s0B, s0C]
    refine takeV 1 (.pointer (some ⟨cq, 0, none⟩)) rfl rfl (by kernel_rfl) (fun Y hY => by obtain ⟨y0, y1, y2⟩ := hY; go_simp) hS ?_; simp only [s0A, s0B, s0C]
    refine takeV 2 (.pointer (some ⟨cq, 0, none⟩)) rfl rfl (by kernel_rfl) (fun Y hY => by obtain ⟨y0, y1, y2⟩ := hY; go_simp) hS ?_; simp only [s0A, s0B, s0C]
    refine takeV 3 (.pointer (some ⟨q, 0, none⟩)) rfl rfl (by kernel_rfl) (fun Y hY => by obtain ⟨y0, y1, y2⟩ := hY; go_simp) hS ?_; simp only [s0A, s0B, s0C]
    refine takeV 4 (.agg #[.string (str k), .string (str val)]) rfl rfl (by kernel_rfl) (fun Y hY => by obtain ⟨y0, y1, y2⟩ := hY; go_simp) hS ?_; simp only [s0A, s0B, s0C]
    refine callW (i := 5) rfl (by kernel_rfl) rfl (by rfl) ?_ (HPK.out _) ?_
    · go_simp
    rintro y w3 ⟨v3, rfl, hown3, ho3⟩
    obtain ⟨A3, c3, rfl, hnc3, hcm3, hb3, hA3⟩ := hown3.shape
    have HO3 := Lib.hid (show Only [] w w3 from (HO2.out.drew).trans ho3 (by simp))
    have HB3 := Lib.hid (HB2.out.drew.only ho3 (by simp))
    have hS3 : w3.cell? ⟨cq, 0, none⟩ = some (.pointer (some ⟨q, 0, none⟩)) ∧ w3.cell? ⟨w.heap.size, 0, none⟩ = some (.string (str k)) ∧ w3.cell? ⟨w.heap.size, 1, none⟩ = some (.string (str val)) := ⟨(HC.out.only0 HO3.out).blk.cell 0, HB3.out.cell 0, HB3.out.cell 1⟩
    have h23 : w.heap.size ≤ w2.heap.size := HO2.out.size
    have HAP3 := Lib.hid (HAP.out w3 HO3.out A3 _ c3 hb3 (by rw [HKS.out, HVS.out]; have := HK.out; have := HVL.out; omega) hnc3 hcm3 (fun _ kk hkk hmm => by
      have h1 := HJT.out kk hmm
      rcases hA3 with ⟨rfl, _⟩ | ⟨g3, rfl, h2, _⟩
      · cases hkk
      · simp [blkOf] at hkk
        have h3 : w2.heap.size ≤ g3 := h2
        omega))
    clear hown3 ho3 hb3 hA3 hS
    refine ⟨_, rfl, hS3, ?_⟩
    simp only [s0A, s0B, s0C]
    refine callW (i := 6) rfl (by kernel_rfl) rfl (by rfl) ?_ HAP3.out ?_
    · go_simp
    rintro y w4 ⟨rfl, W', v', ss', hd4, hnw4, hj4, ho4, hfv, hW4, hns4⟩
    have h34 := HO3.out.size
    have HO4 := Lib.hid (show Only (JT p g b q v) w w4 from (HO3.out.mono (by simp)).trans ho4 (fun kk h => .inl h))
    have hfar : ∀ kk ∈ cq :: T, kk ∉ JT p g b q v := fun kk h => (HSEP.out kk h).1
    have hult : ∀ kk ∈ cq :: T, kk < w3.heap.size := fun kk h => by
      rcases List.mem_cons.1 h with h | h
      · omega
      · have := (HTL.out kk h).2; omega
    have HS4 := Lib.hid (HSEP.out.app hult hnw4 hfv hns4)
    have HJ4 := Lib.hid hj4
    have HW4 := Lib.hid hW4
    have HNWW := Lib.hid (show Newer w W W' from fun kk h => (hnw4 kk h).elim .inl (fun h2 => .inr (by have := HO3.out.size; omega)))
    have HFV := Lib.hid (show FreshV w v v' from fun kk h => (hfv kk h).elim .inl (fun h2 => .inr (by have := HO3.out.size; omega)))
    have HC4 := Lib.hid (HC.out.only HO4.out hfar)
    have HB4 := Lib.hid (HB3.out.only ho4 (fun h => by have := HJT.out _ h; omega))
    have HD4 := Lib.hid hd4
    have HNW := Lib.hid hnw4
    have hS4 : w4.cell? ⟨cq, 0, none⟩ = some (.pointer (some ⟨q, 0, none⟩)) ∧ w4.cell? ⟨w.heap.size, 0, none⟩ = some (.string (str k)) ∧ w4.cell? ⟨w.heap.size, 1, none⟩ = some (.string (str val)) := ⟨HC4.out.blk.cell 0, HB4.out.cell 0, HB4.out.cell 1⟩
    clear hd4 hnw4 hj4 ho4 hfv hW4 hns4 HAP3 hS3
    refine ⟨_, rfl, hS4, ?_⟩
    simp only [s0A, s0B, s0C]
    refine takeV 7 (.int .i64 0) rfl rfl (by kernel_rfl) (fun Y hY => by obtain ⟨y0, y1, y2⟩ := hY; go_simp) hS4 ?_; simp only [s0A, s0B, s0C]
    refine wpAnyH_done (by kernel_rfl) ?_ _
    clear hS4 hbe
    go_upto_region 15 with fail
    have hS5 : w4.drew.cell? ⟨cq, 0, none⟩ = some (.pointer (some ⟨q, 0, none⟩)) ∧ w4.drew.cell? ⟨w.heap.size, 0, none⟩ = some (.string (str k)) ∧ w4.drew.cell? ⟨w.heap.size, 1, none⟩ = some (.string (str val)) := ⟨HC4.out.blk.cell 0, HB4.out.cell 0, HB4.out.cell 1⟩
    have HC5 := Lib.hid (HC4.out.only0 ((Only.refl [] w4).drew))
    have HADD := Lib.hid (add_any HC5.out.idx HC5.out.far (Nat.le_trans HA.out.1 HO4.out.size) HC5.out.blk (k, val) (by show k.length ≤ 1000000; have := HK.out; omega) HA.out.2.1)
    have HOK := Lib.hid (HC.out.idx.ok.add (k, val))
    refine wp_region_hand (S := (fun Y => Y.cell? ⟨cq, 0, none⟩ = some (.pointer (some ⟨q, 0, none⟩)) ∧ Y.cell? ⟨w.heap.size, 0, none⟩ = some (.string (str k)) ∧ Y.cell? ⟨w.heap.size, 1, none⟩ = some (.string (str val)))) (by kernel_rfl) ?_
    refine takeV 0 (.pointer (some ⟨cq, 0, none⟩)) rfl rfl (by kernel_rfl) (fun Y hY => by obtain ⟨y0, y1, y2⟩ := hY; go_simp) hS5 ?_; simp only [s0A, s0B, s0C]
    refine takeV 1 (.pointer (some ⟨cq, 0, none⟩)) rfl rfl (by kernel_rfl) (fun Y hY => by obtain ⟨y0, y1, y2⟩ := hY; go_simp) hS5 ?_; simp only [s0A, s0B, s0C]
    refine takeV 2 (.pointer (some ⟨cq, 1, none⟩)) rfl rfl (by kernel_rfl) (fun Y hY => by obtain ⟨y0, y1, y2⟩ := hY; go_simp) hS5 ?_; simp only [s0A, s0B, s0C]
    refine takeV 3 (.agg #[.string (str k), .string (str val)]) rfl rfl (by kernel_rfl) (fun Y hY => by obtain ⟨y0, y1, y2⟩ := hY; go_simp) hS5 ?_; simp only [s0A, s0B, s0C]
    refine callW (i := 4) rfl (by kernel_rfl) rfl (by rfl) ?_ HADD.out ?_
    · go_simp
    rintro y w7 ⟨rfl, T', hx7, ho7, hT7, hb7⟩
    have hne : w.heap.size ∉ cq :: T := fun h => by
      rcases List.mem_cons.1 h with h | h
      · omega
      · have := (HTL.out _ h).2; omega
    have hb7c := hb7.cell 0
    have h44 := HO4.out.size
    have ho47 : Only (cq :: T) w4 w7 := ((Only.refl [] w4).drew.mono (by simp)).trans ho7 (fun kk h => .inl h)
    have HFIN : Hid (PutO w p g b cap q base cq m bb ba W T v ss D js' (addX x (k, val)) ev w7) := Lib.hid (by
      refine ⟨W', T', HD4.out.only ho47 ⟨fun h => (HSEP.out _ h).1 (by simp [JT]), fun h => (HSEP.out _ h).1 (by simp [JT]), fun h => (HSEP.out _ h).1 (by simp [JT])⟩ (fun kk hkk h => (HS4.out kk h).2.1 hkk), ⟨by rw [HOK.out.2.2]; exact hb7, hx7, fun h => ?_⟩, (HO4.out.mono (fun kk h => .inl (List.mem_append_left _ h))).trans ho47 (fun kk h => .inl (List.mem_append_right _ h)), v', ss', isJ_apart HJ4.out ho47 HS4.out, HW4.out, HS4.out.grow HD4.out HJ4.out (fun kk h => ?_), fun kk h => ?_, HFV.out, HNWW.out⟩
      · rcases hT7 cq h with h | h
        · exact HC.out.far h
        · have h2 : w4.heap.size ≤ cq := h
          omega
      · rcases List.mem_cons.1 h with h | h
        · exact .inl (by simp [h])
        · rcases hT7 kk h with h | h
          · exact .inl (by simp [h])
          · exact .inr h
      · rcases hT7 kk h with h | h
        · exact .inl h
        · have h2 : w4.heap.size ≤ kk := h
          exact .inr (by omega))
    refine ⟨_, rfl, ⟨hb7c, ho7.cell hS5.2.1 hne, ho7.cell hS5.2.2 hne⟩, ?_⟩
    clear hx7 hb7 hT7 ho7 hS5 HADD HC5 hb7c
    simp only [s0A, s0B, s0C]
    refine wpAnyH_done (by kernel_rfl) ?_ _
    go_wp2_with fail
    go_ret
    exact ⟨rfl, HFIN.out⟩
  | some a =>
    obtain ⟨an, ak, av⟩ := a
    have hav : av ≠ val := hget _ rfl
    have e5 : ((str av).toList == (str val).toList) = false := by rw [str_beq]; exact decide_eq_false hav
    have HG2 : Hid (Calls Tryz.prog 41 #[.pointer (some ⟨cq, 0, none⟩), .string (str k)] w1 fun y w' => y = .returned (.tuple #[.string (str av), .bool true]) ∧ Only [] w1 w') := Lib.hid HGET.out
    clear HGET hget hav
    go_enter Tryz.func43, Tryz.ntmps43
    go_upto_region 2 with fail
    try rw [hw1]
    clear n0 n1 f0 f1 hw1
    go_upto_region 11 with (first | (go_at_call 95; refine HCN.out.mono ?_; rintro y wn ⟨rfl, hwn⟩; have hwn := hwn.symm; subst hwn) | (go_at_call 19; refine HJD.out.mono ?_; rintro y wn ⟨rfl, hwn⟩; have hwn := hwn.symm; subst hwn) | (go_at_call 41; refine HG2.out.mono ?_; rintro y w2 ⟨rfl, ho2⟩; have HO2 := Lib.hid (HO1.out.trans ho2 (by simp)); have HB2 := Lib.hid (HB1.out.only ho2 (by simp)); clear ho2))
    have hcl := HA.out.2.2.1
    have hbe : w2.cell? ⟨w.heap.size, 0, none⟩ = some (.string (str k)) ∧ w2.cell? ⟨w.heap.size, 1, none⟩ = some (.string (str val)) := ⟨HB2.out.cell 0, HB2.out.cell 1⟩
    have hS : w2.drew.cell? ⟨cq, 0, none⟩ = some (.pointer (some ⟨q, 0, none⟩)) ∧ w2.drew.cell? ⟨w.heap.size, 0, none⟩ = some (.string (str k)) ∧ w2.drew.cell? ⟨w.heap.size, 1, none⟩ = some (.string (str val)) := ⟨(HC.out.only0 HO2.out).blk.cell 0, hbe.1, hbe.2⟩
    refine wp_region_hand (S := (fun Y => Y.cell? ⟨cq, 0, none⟩ = some (.pointer (some ⟨q, 0, none⟩)) ∧ Y.cell? ⟨w.heap.size, 0, none⟩ = some (.string (str k)) ∧ Y.cell? ⟨w.heap.size, 1, none⟩ = some (.string (str val)))) (by kernel_rfl) ?_
    refine takeV 0 (.pointer (some ⟨cq, 0, none⟩)) rfl rfl (by kernel_rfl) (fun Y hY => by obtain ⟨y0, y1, y2⟩ := hY; go_simp) hS ?_; simp only [s0A, s0B, s0C]
    refine takeV 1 (.pointer (some ⟨cq, 0, none⟩)) rfl rfl (by kernel_rfl) (fun Y hY => by obtain ⟨y0, y1, y2⟩ := hY; go_simp) hS ?_; simp only [s0A, s0B, s0C]
    refine takeV 2 (.pointer (some ⟨cq, 0, none⟩)) rfl rfl (by kernel_rfl) (fun Y hY => by obtain ⟨y0, y1, y2⟩ := hY; go_simp) hS ?_; simp only [s0A, s0B, s0C]
    refine takeV 3 (.pointer (some ⟨q, 0, none⟩)) rfl rfl (by kernel_rfl) (fun Y hY => by obtain ⟨y0, y1, y2⟩ := hY; go_simp) hS ?_; simp only [s0A, s0B, s0C]
    refine takeV 4 (.agg #[.string (str k), .string (str val)]) rfl rfl (by kernel_rfl) (fun Y hY => by obtain ⟨y0, y1, y2⟩ := hY; go_simp) hS ?_; simp only [s0A, s0B, s0C]
    refine callW (i := 5) rfl (by kernel_rfl) rfl (by rfl) ?_ (HPK.out _) ?_
    · go_simp
    rintro y w3 ⟨v3, rfl, hown3, ho3⟩
    obtain ⟨A3, c3, rfl, hnc3, hcm3, hb3, hA3⟩ := hown3.shape
    have HO3 := Lib.hid (show Only [] w w3 from (HO2.out.drew).trans ho3 (by simp))
    have HB3 := Lib.hid (HB2.out.drew.only ho3 (by simp))
    have hS3 : w3.cell? ⟨cq, 0, none⟩ = some (.pointer (some ⟨q, 0, none⟩)) ∧ w3.cell? ⟨w.heap.size, 0, none⟩ = some (.string (str k)) ∧ w3.cell? ⟨w.heap.size, 1, none⟩ = some (.string (str val)) := ⟨(HC.out.only0 HO3.out).blk.cell 0, HB3.out.cell 0, HB3.out.cell 1⟩
    have h23 : w.heap.size ≤ w2.heap.size := HO2.out.size
    have HAP3 := Lib.hid (HAP.out w3 HO3.out A3 _ c3 hb3 (by rw [HKS.out, HVS.out]; have := HK.out; have := HVL.out; omega) hnc3 hcm3 (fun _ kk hkk hmm => by
      have h1 := HJT.out kk hmm
      rcases hA3 with ⟨rfl, _⟩ | ⟨g3, rfl, h2, _⟩
      · cases hkk
      · simp [blkOf] at hkk
        have h3 : w2.heap.size ≤ g3 := h2
        omega))
    clear hown3 ho3 hb3 hA3 hS
    refine ⟨_, rfl, hS3, ?_⟩
    simp only [s0A, s0B, s0C]
    refine callW (i := 6) rfl (by kernel_rfl) rfl (by rfl) ?_ HAP3.out ?_
    · go_simp
    rintro y w4 ⟨rfl, W', v', ss', hd4, hnw4, hj4, ho4, hfv, hW4, hns4⟩
    have h34 := HO3.out.size
    have HO4 := Lib.hid (show Only (JT p g b q v) w w4 from (HO3.out.mono (by simp)).trans ho4 (fun kk h => .inl h))
    have hfar : ∀ kk ∈ cq :: T, kk ∉ JT p g b q v := fun kk h => (HSEP.out kk h).1
    have hult : ∀ kk ∈ cq :: T, kk < w3.heap.size := fun kk h => by
      rcases List.mem_cons.1 h with h | h
      · omega
      · have := (HTL.out kk h).2; omega
    have HS4 := Lib.hid (HSEP.out.app hult hnw4 hfv hns4)
    have HJ4 := Lib.hid hj4
    have HW4 := Lib.hid hW4
    have HNWW := Lib.hid (show Newer w W W' from fun kk h => (hnw4 kk h).elim .inl (fun h2 => .inr (by have := HO3.out.size; omega)))
    have HFV := Lib.hid (show FreshV w v v' from fun kk h => (hfv kk h).elim .inl (fun h2 => .inr (by have := HO3.out.size; omega)))
    have HC4 := Lib.hid (HC.out.only HO4.out hfar)
    have HB4 := Lib.hid (HB3.out.only ho4 (fun h => by have := HJT.out _ h; omega))
    have HD4 := Lib.hid hd4
    have HNW := Lib.hid hnw4
    have hS4 : w4.cell? ⟨cq, 0, none⟩ = some (.pointer (some ⟨q, 0, none⟩)) ∧ w4.cell? ⟨w.heap.size, 0, none⟩ = some (.string (str k)) ∧ w4.cell? ⟨w.heap.size, 1, none⟩ = some (.string (str val)) := ⟨HC4.out.blk.cell 0, HB4.out.cell 0, HB4.out.cell 1⟩
    clear hd4 hnw4 hj4 ho4 hfv hW4 hns4 HAP3 hS3
    refine ⟨_, rfl, hS4, ?_⟩
    simp only [s0A, s0B, s0C]
    refine takeV 7 (.int .i64 0) rfl rfl (by kernel_rfl) (fun Y hY => by obtain ⟨y0, y1, y2⟩ := hY; go_simp) hS4 ?_; simp only [s0A, s0B, s0C]
    refine wpAnyH_done (by kernel_rfl) ?_ _
    clear hS4 hbe
    go_upto_region 15 with fail
    have hS5 : w4.drew.cell? ⟨cq, 0, none⟩ = some (.pointer (some ⟨q, 0, none⟩)) ∧ w4.drew.cell? ⟨w.heap.size, 0, none⟩ = some (.string (str k)) ∧ w4.drew.cell? ⟨w.heap.size, 1, none⟩ = some (.string (str val)) := ⟨HC4.out.blk.cell 0, HB4.out.cell 0, HB4.out.cell 1⟩
    have HC5 := Lib.hid (HC4.out.only0 ((Only.refl [] w4).drew))
    have HADD := Lib.hid (add_any HC5.out.idx HC5.out.far (Nat.le_trans HA.out.1 HO4.out.size) HC5.out.blk (k, val) (by show k.length ≤ 1000000; have := HK.out; omega) HA.out.2.1)
    have HOK := Lib.hid (HC.out.idx.ok.add (k, val))
    refine wp_region_hand (S := (fun Y => Y.cell? ⟨cq, 0, none⟩ = some (.pointer (some ⟨q, 0, none⟩)) ∧ Y.cell? ⟨w.heap.size, 0, none⟩ = some (.string (str k)) ∧ Y.cell? ⟨w.heap.size, 1, none⟩ = some (.string (str val)))) (by kernel_rfl) ?_
    refine takeV 0 (.pointer (some ⟨cq, 0, none⟩)) rfl rfl (by kernel_rfl) (fun Y hY => by obtain ⟨y0, y1, y2⟩ := hY; go_simp) hS5 ?_; simp only [s0A, s0B, s0C]
    refine takeV 1 (.pointer (some ⟨cq, 0, none⟩)) rfl rfl (by kernel_rfl) (fun Y hY => by obtain ⟨y0, y1, y2⟩ := hY; go_simp) hS5 ?_; simp only [s0A, s0B, s0C]
    refine takeV 2 (.pointer (some ⟨cq, 1, none⟩)) rfl rfl (by kernel_rfl) (fun Y hY => by obtain ⟨y0, y1, y2⟩ := hY; go_simp) hS5 ?_; simp only [s0A, s0B, s0C]
    refine takeV 3 (.agg #[.string (str k), .string (str val)]) rfl rfl (by kernel_rfl) (fun Y hY => by obtain ⟨y0, y1, y2⟩ := hY; go_simp) hS5 ?_; simp only [s0A, s0B, s0C]
    refine callW (i := 4) rfl (by kernel_rfl) rfl (by rfl) ?_ HADD.out ?_
    · go_simp
    rintro y w7 ⟨rfl, T', hx7, ho7, hT7, hb7⟩
    have hne : w.heap.size ∉ cq :: T := fun h => by
      rcases List.mem_cons.1 h with h | h
      · omega
      · have := (HTL.out _ h).2; omega
    have hb7c := hb7.cell 0
    have h44 := HO4.out.size
    have ho47 : Only (cq :: T) w4 w7 := ((Only.refl [] w4).drew.mono (by simp)).trans ho7 (fun kk h => .inl h)
    have HFIN : Hid (PutO w p g b cap q base cq m bb ba W T v ss D js' (addX x (k, val)) ev w7) := Lib.hid (by
      refine ⟨W', T', HD4.out.only ho47 ⟨fun h => (HSEP.out _ h).1 (by simp [JT]), fun h => (HSEP.out _ h).1 (by simp [JT]), fun h => (HSEP.out _ h).1 (by simp [JT])⟩ (fun kk hkk h => (HS4.out kk h).2.1 hkk), ⟨by rw [HOK.out.2.2]; exact hb7, hx7, fun h => ?_⟩, (HO4.out.mono (fun kk h => .inl (List.mem_append_left _ h))).trans ho47 (fun kk h => .inl (List.mem_append_right _ h)), v', ss', isJ_apart HJ4.out ho47 HS4.out, HW4.out, HS4.out.grow HD4.out HJ4.out (fun kk h => ?_), fun kk h => ?_, HFV.out, HNWW.out⟩
      · rcases hT7 cq h with h | h
        · exact HC.out.far h
        · have h2 : w4.heap.size ≤ cq := h
          omega
      · rcases List.mem_cons.1 h with h | h
        · exact .inl (by simp [h])
        · rcases hT7 kk h with h | h
          · exact .inl (by simp [h])
          · exact .inr h
      · rcases hT7 kk h with h | h
        · exact .inl h
        · have h2 : w4.heap.size ≤ kk := h
          exact .inr (by omega))
    refine ⟨_, rfl, ⟨hb7c, ho7.cell hS5.2.1 hne, ho7.cell hS5.2.2 hne⟩, ?_⟩
    clear hx7 hb7 hT7 ho7 hS5 HADD HC5 hb7c
    simp only [s0A, s0B, s0C]
    refine wpAnyH_done (by kernel_rfl) ?_ _
    go_wp2_with fail
    go_ret
    exact ⟨rfl, HFIN.out⟩
set_option maxHeartbeats 8000000 in
theorem cput_no (hd : IsD w p g b W cap d) (hn2 : 2 ≤ d.n) (hj : IsJ w p g b q base js v ss) (hW : ∀ k ∈ W, k ∉ q :: ownL v) (hC : IsC w cq (.pointer (some ⟨q, 0, none⟩)) T m bb ba x ev) (hsep : Sep (cq :: T) p g b q v W ss) (hoff : js.off = false) (k val : List UInt8) (hk : k.length ≤ 500) (hval : val.length ≤ 1000)
    (hget : ∀ a, findX x k = some a → a.2.2 ≠ val) (hsl : ss.length ≤ 100000) (hdn : d.done ≤ 4611686018427000000) (hbase : base ≤ w.heap.size) (hm : m ≤ w.heap.size) (hnx : x.nx < 1000000) {D : DS} {js' : JS} (hap : appendJ d js (packC (k, val)) = (D, js', 3)) :
    Calls Tryz.prog 43 #[.pointer (some ⟨cq, 0, none⟩), .string (str k), .string (str val)] w fun y w' => y = .returned (.int .i64 3) ∧ PutO w p g b cap q base cq m bb ba W T v ss D js' x ev w' := by
  have hb1 := Blk.new w 69 #[.string (str k), .string (str val)]
  have ho1 : Only [] w (w.alloc (.cells #[.string (str k), .string (str val)] 69)) := (Only.refl [] w).alloc _
  have hs1 := World.size_alloc w (.cells #[.string (str k), .string (str val)] 69)
  have hnb := Blk.new w 69 #[.string ⟨#[]⟩, .string ⟨#[]⟩]
  have n0 := hnb.cell 0
  have n1 := hnb.cell 1
  have f0 := hnb.frozen 0
  have f1 := hnb.frozen 1
  have hcl := hC.blk.lt
  have htl := hC.idx.lo
  have hpgb := hd.lt
  have hql := hj.lt
  have hov := hj.own.lt
  have hjt : ∀ kk ∈ JT p g b q v, kk < w.heap.size := fun kk h => by
    unfold JT at h
    simp only [List.mem_cons] at h
    rcases h with h | h | h | h | h
    · omega
    · omega
    · omega
    · omega
    · exact (hov kk h).2
  have hwl := hd.low
  have HSEP := Lib.hid hsep
  have HTL := Lib.hid htl
  have HJT := Lib.hid hjt
  have HWL := Lib.hid hwl
  have hC1 := hC.only0 ho1
  have c0 : (w.alloc (.cells #[.string (str k), .string (str val)] 69)).cell? ⟨cq, 0, none⟩ = some (.pointer (some ⟨q, 0, none⟩)) := hC1.blk.cell 0
  have HCN := Lib.hid (cnone_any (hC1.blk.cell 2))
  have HJD := Lib.hid (jdown_is (hj.only0 ho1))
  rw [hoff] at HJD
  have HGET := Lib.hid (cget_any hC1 k (by omega))
  have HPK := Lib.hid (fun wx => pack7 (str k) (str val) wx (by rw [str_size]; omega) (by rw [str_size]; omega))
  have HAP := Lib.hid (fun wx (ho : Only [] w wx) A n c hr hn hnc hcm hfar => append_any (hd.only0 ho) hn2 (hj.only0 ho) hW A n c (packC (k, val)) hr hn hnc hcm hfar hsl hdn (Nat.le_trans hbase ho.size))
  rw [hap] at HAP
  have HC := Lib.hid hC
  have HB1 := Lib.hid hb1
  have HO1 := Lib.hid ho1
  have HK := Lib.hid hk
  have hks : (str k).size ≤ 500 := by rw [str_size]; exact hk
  have hvs : (str val).size ≤ 1000 := by rw [str_size]; exact hval
  have HPL := Lib.hid (packC_len (k, val))
  have HKS := Lib.hid (str_size k)
  have HVS := Lib.hid (str_size val)
  obtain ⟨z, hz⟩ : ∃ z, findX x k = z := ⟨_, rfl⟩
  rw [hz] at HGET hget
  have HVL := Lib.hid hval
  clear hd hj hW hC hsep hap hb1 ho1 hC1 hnb htl hwl hjt hov hoff hz hval
  obtain ⟨e1, e1', e2, e3, e4⟩ := put_sizes hks hvs
  have HA := Lib.hid (And.intro hm (And.intro hnx (And.intro hcl hpgb)))
  clear hm hnx hcl hpgb hql hsl hdn hbase hks hvs hk hn2 hs1
  generalize hw1 : w.alloc (.cells #[.string (str k), .string (str val)] 69) = w1 at *
  cases z with
  | none =>
    have HG2 : Hid (Calls Tryz.prog 41 #[.pointer (some ⟨cq, 0, none⟩), .string (str k)] w1 fun y w' => y = .returned (.tuple #[.string ⟨#[]⟩, .bool false]) ∧ Only [] w1 w') := Lib.hid HGET.out
    clear HGET hget
    go_enter Tryz.func43, Tryz.ntmps43
    go_upto_region 2 with fail
    try rw [hw1]
    clear n0 n1 f0 f1 hw1
    go_upto_region 11 with (first | (go_at_call 95; refine HCN.out.mono ?_; rintro y wn ⟨rfl, hwn⟩; have hwn := hwn.symm; subst hwn) | (go_at_call 19; refine HJD.out.mono ?_; rintro y wn ⟨rfl, hwn⟩; have hwn := hwn.symm; subst hwn) | (go_at_call 41; refine HG2.out.mono ?_; rintro y w2 ⟨rfl, ho2⟩; have HO2 := Lib.hid (HO1.out.trans ho2 (by simp)); have HB2 := Lib.hid (HB1.out.only ho2 (by simp)); clear ho2))
    have hcl := HA.out.2.2.1
    have hbe : w2.cell? ⟨w.heap.size, 0, none⟩ = some (.string (str k)) ∧ w2.cell? ⟨w.heap.size, 1, none⟩ = some (.string (str val)) := ⟨HB2.out.cell 0, HB2.out.cell 1⟩
    have hS : w2.drew.cell? ⟨cq, 0, none⟩ = some (.pointer (some ⟨q, 0, none⟩)) ∧ w2.drew.cell? ⟨w.heap.size, 0, none⟩ = some (.string (str k)) ∧ w2.drew.cell? ⟨w.heap.size, 1, none⟩ = some (.string (str val)) := ⟨(HC.out.only0 HO2.out).blk.cell 0, hbe.1, hbe.2⟩
    refine wp_region_hand (S := (fun Y => Y.cell? ⟨cq, 0, none⟩ = some (.pointer (some ⟨q, 0, none⟩)) ∧ Y.cell? ⟨w.heap.size, 0, none⟩ = some (.string (str k)) ∧ Y.cell? ⟨w.heap.size, 1, none⟩ = some (.string (str val)))) (by kernel_rfl) ?_
    refine takeV 0 (.pointer (some ⟨cq, 0, none⟩)) rfl rfl (by kernel_rfl) (fun Y hY => by obtain ⟨y0, y1, y2⟩ := hY; go_simp) hS ?_; simp only [s0A, s0B, s0C]
    refine takeV 1 (.pointer (some ⟨cq, 0, none⟩)) rfl rfl (by kernel_rfl) (fun Y hY => by obtain ⟨y0, y1, y2⟩ := hY; go_simp) hS ?_; simp only [s0A, s0B, s0C]
    refine takeV 2 (.pointer (some ⟨cq, 0, none⟩)) rfl rfl (by kernel_rfl) (fun Y hY => by obtain ⟨y0, y1, y2⟩ := hY; go_simp) hS ?_; simp only [s0A, s0B, s0C]
    refine takeV 3 (.pointer (some ⟨q, 0, none⟩)) rfl rfl (by kernel_rfl) (fun Y hY => by obtain ⟨y0, y1, y2⟩ := hY; go_simp) hS ?_; simp only [s0A, s0B, s0C]
    refine takeV 4 (.agg #[.string (str k), .string (str val)]) rfl rfl (by kernel_rfl) (fun Y hY => by obtain ⟨y0, y1, y2⟩ := hY; go_simp) hS ?_; simp only [s0A, s0B, s0C]
    refine callW (i := 5) rfl (by kernel_rfl) rfl (by rfl) ?_ (HPK.out _) ?_
    · go_simp
    rintro y w3 ⟨v3, rfl, hown3, ho3⟩
    obtain ⟨A3, c3, rfl, hnc3, hcm3, hb3, hA3⟩ := hown3.shape
    have HO3 := Lib.hid (show Only [] w w3 from (HO2.out.drew).trans ho3 (by simp))
    have HB3 := Lib.hid (HB2.out.drew.only ho3 (by simp))
    have hS3 : w3.cell? ⟨cq, 0, none⟩ = some (.pointer (some ⟨q, 0, none⟩)) ∧ w3.cell? ⟨w.heap.size, 0, none⟩ = some (.string (str k)) ∧ w3.cell? ⟨w.heap.size, 1, none⟩ = some (.string (str val)) := ⟨(HC.out.only0 HO3.out).blk.cell 0, HB3.out.cell 0, HB3.out.cell 1⟩
    have h23 : w.heap.size ≤ w2.heap.size := HO2.out.size
    have HAP3 := Lib.hid (HAP.out w3 HO3.out A3 _ c3 hb3 (by rw [HKS.out, HVS.out]; have := HK.out; have := HVL.out; omega) hnc3 hcm3 (fun _ kk hkk hmm => by
      have h1 := HJT.out kk hmm
      rcases hA3 with ⟨rfl, _⟩ | ⟨g3, rfl, h2, _⟩
      · cases hkk
      · simp [blkOf] at hkk
        have h3 : w2.heap.size ≤ g3 := h2
        omega))
    clear hown3 ho3 hb3 hA3 hS
    refine ⟨_, rfl, hS3, ?_⟩
    simp only [s0A, s0B, s0C]
    refine callW (i := 6) rfl (by kernel_rfl) rfl (by rfl) ?_ HAP3.out ?_
    · go_simp
    rintro y w4 ⟨rfl, W', v', ss', hd4, hnw4, hj4, ho4, hfv, hW4, hns4⟩
    have h34 := HO3.out.size
    have HO4 := Lib.hid (show Only (JT p g b q v) w w4 from (HO3.out.mono (by simp)).trans ho4 (fun kk h => .inl h))
    have hfar : ∀ kk ∈ cq :: T, kk ∉ JT p g b q v := fun kk h => (HSEP.out kk h).1
    have hult : ∀ kk ∈ cq :: T, kk < w3.heap.size := fun kk h => by
      rcases List.mem_cons.1 h with h | h
      · omega
      · have := (HTL.out kk h).2; omega
    have HS4 := Lib.hid (HSEP.out.app hult hnw4 hfv hns4)
    have HJ4 := Lib.hid hj4
    have HW4 := Lib.hid hW4
    have HNWW := Lib.hid (show Newer w W W' from fun kk h => (hnw4 kk h).elim .inl (fun h2 => .inr (by have := HO3.out.size; omega)))
    have HFV := Lib.hid (show FreshV w v v' from fun kk h => (hfv kk h).elim .inl (fun h2 => .inr (by have := HO3.out.size; omega)))
    have HC4 := Lib.hid (HC.out.only HO4.out hfar)
    have HB4 := Lib.hid (HB3.out.only ho4 (fun h => by have := HJT.out _ h; omega))
    have HD4 := Lib.hid hd4
    have HNW := Lib.hid hnw4
    have hS4 : w4.cell? ⟨cq, 0, none⟩ = some (.pointer (some ⟨q, 0, none⟩)) ∧ w4.cell? ⟨w.heap.size, 0, none⟩ = some (.string (str k)) ∧ w4.cell? ⟨w.heap.size, 1, none⟩ = some (.string (str val)) := ⟨HC4.out.blk.cell 0, HB4.out.cell 0, HB4.out.cell 1⟩
    clear hd4 hnw4 hj4 ho4 hfv hW4 hns4 HAP3 hS3
    refine ⟨_, rfl, hS4, ?_⟩
    simp only [s0A, s0B, s0C]
    refine takeV 7 (.int .i64 3) rfl rfl (by kernel_rfl) (fun Y hY => by obtain ⟨y0, y1, y2⟩ := hY; go_simp) hS4 ?_; simp only [s0A, s0B, s0C]
    refine wpAnyH_done (by kernel_rfl) ?_ _
    clear hS4 hbe
    have HFIN : Hid (PutO w p g b cap q base cq m bb ba W T v ss D js' x ev w4) := Lib.hid ⟨W', T, HD4.out, HC4.out, HO4.out.mono (fun kk h => .inl (List.mem_append_left _ h)), v', ss', HJ4.out, HW4.out, HS4.out, fun kk h => .inl h, HFV.out, HNWW.out⟩
    go_wp2_with fail
    go_ret
    exact ⟨rfl, HFIN.out⟩
  | some a =>
    obtain ⟨an, ak, av⟩ := a
    have hav : av ≠ val := hget _ rfl
    have e5 : ((str av).toList == (str val).toList) = false := by rw [str_beq]; exact decide_eq_false hav
    have HG2 : Hid (Calls Tryz.prog 41 #[.pointer (some ⟨cq, 0, none⟩), .string (str k)] w1 fun y w' => y = .returned (.tuple #[.string (str av), .bool true]) ∧ Only [] w1 w') := Lib.hid HGET.out
    clear HGET hget hav
    go_enter Tryz.func43, Tryz.ntmps43
    go_upto_region 2 with fail
    try rw [hw1]
    clear n0 n1 f0 f1 hw1
    go_upto_region 11 with (first | (go_at_call 95; refine HCN.out.mono ?_; rintro y wn ⟨rfl, hwn⟩; have hwn := hwn.symm; subst hwn) | (go_at_call 19; refine HJD.out.mono ?_; rintro y wn ⟨rfl, hwn⟩; have hwn := hwn.symm; subst hwn) | (go_at_call 41; refine HG2.out.mono ?_; rintro y w2 ⟨rfl, ho2⟩; have HO2 := Lib.hid (HO1.out.trans ho2 (by simp)); have HB2 := Lib.hid (HB1.out.only ho2 (by simp)); clear ho2))
    have hcl := HA.out.2.2.1
    have hbe : w2.cell? ⟨w.heap.size, 0, none⟩ = some (.string (str k)) ∧ w2.cell? ⟨w.heap.size, 1, none⟩ = some (.string (str val)) := ⟨HB2.out.cell 0, HB2.out.cell 1⟩
    have hS : w2.drew.cell? ⟨cq, 0, none⟩ = some (.pointer (some ⟨q, 0, none⟩)) ∧ w2.drew.cell? ⟨w.heap.size, 0, none⟩ = some (.string (str k)) ∧ w2.drew.cell? ⟨w.heap.size, 1, none⟩ = some (.string (str val)) := ⟨(HC.out.only0 HO2.out).blk.cell 0, hbe.1, hbe.2⟩
    refine wp_region_hand (S := (fun Y => Y.cell? ⟨cq, 0, none⟩ = some (.pointer (some ⟨q, 0, none⟩)) ∧ Y.cell? ⟨w.heap.size, 0, none⟩ = some (.string (str k)) ∧ Y.cell? ⟨w.heap.size, 1, none⟩ = some (.string (str val)))) (by kernel_rfl) ?_
    refine takeV 0 (.pointer (some ⟨cq, 0, none⟩)) rfl rfl (by kernel_rfl) (fun Y hY => by obtain ⟨y0, y1, y2⟩ := hY; go_simp) hS ?_; simp only [s0A, s0B, s0C]
    refine takeV 1 (.pointer (some ⟨cq, 0, none⟩)) rfl rfl (by kernel_rfl) (fun Y hY => by obtain ⟨y0, y1, y2⟩ := hY; go_simp) hS ?_; simp only [s0A, s0B, s0C]
    refine takeV 2 (.pointer (some ⟨cq, 0, none⟩)) rfl rfl (by kernel_rfl) (fun Y hY => by obtain ⟨y0, y1, y2⟩ := hY; go_simp) hS ?_; simp only [s0A, s0B, s0C]
    refine takeV 3 (.pointer (some ⟨q, 0, none⟩)) rfl rfl (by kernel_rfl) (fun Y hY => by obtain ⟨y0, y1, y2⟩ := hY; go_simp) hS ?_; simp only [s0A, s0B, s0C]
    refine takeV 4 (.agg #[.string (str k), .string (str val)]) rfl rfl (by kernel_rfl) (fun Y hY => by obtain ⟨y0, y1, y2⟩ := hY; go_simp) hS ?_; simp only [s0A, s0B, s0C]
    refine callW (i := 5) rfl (by kernel_rfl) rfl (by rfl) ?_ (HPK.out _) ?_
    · go_simp
    rintro y w3 ⟨v3, rfl, hown3, ho3⟩
    obtain ⟨A3, c3, rfl, hnc3, hcm3, hb3, hA3⟩ := hown3.shape
    have HO3 := Lib.hid (show Only [] w w3 from (HO2.out.drew).trans ho3 (by simp))
    have HB3 := Lib.hid (HB2.out.drew.only ho3 (by simp))
    have hS3 : w3.cell? ⟨cq, 0, none⟩ = some (.pointer (some ⟨q, 0, none⟩)) ∧ w3.cell? ⟨w.heap.size, 0, none⟩ = some (.string (str k)) ∧ w3.cell? ⟨w.heap.size, 1, none⟩ = some (.string (str val)) := ⟨(HC.out.only0 HO3.out).blk.cell 0, HB3.out.cell 0, HB3.out.cell 1⟩
    have h23 : w.heap.size ≤ w2.heap.size := HO2.out.size
    have HAP3 := Lib.hid (HAP.out w3 HO3.out A3 _ c3 hb3 (by rw [HKS.out, HVS.out]; have := HK.out; have := HVL.out; omega) hnc3 hcm3 (fun _ kk hkk hmm => by
      have h1 := HJT.out kk hmm
      rcases hA3 with ⟨rfl, _⟩ | ⟨g3, rfl, h2, _⟩
      · cases hkk
      · simp [blkOf] at hkk
        have h3 : w2.heap.size ≤ g3 := h2
        omega))
    clear hown3 ho3 hb3 hA3 hS
    refine ⟨_, rfl, hS3, ?_⟩
    simp only [s0A, s0B, s0C]
    refine callW (i := 6) rfl (by kernel_rfl) rfl (by rfl) ?_ HAP3.out ?_
    · go_simp
    rintro y w4 ⟨rfl, W', v', ss', hd4, hnw4, hj4, ho4, hfv, hW4, hns4⟩
    have h34 := HO3.out.size
    have HO4 := Lib.hid (show Only (JT p g b q v) w w4 from (HO3.out.mono (by simp)).trans ho4 (fun kk h => .inl h))
    have hfar : ∀ kk ∈ cq :: T, kk ∉ JT p g b q v := fun kk h => (HSEP.out kk h).1
    have hult : ∀ kk ∈ cq :: T, kk < w3.heap.size := fun kk h => by
      rcases List.mem_cons.1 h with h | h
      · omega
      · have := (HTL.out kk h).2; omega
    have HS4 := Lib.hid (HSEP.out.app hult hnw4 hfv hns4)
    have HJ4 := Lib.hid hj4
    have HW4 := Lib.hid hW4
    have HNWW := Lib.hid (show Newer w W W' from fun kk h => (hnw4 kk h).elim .inl (fun h2 => .inr (by have := HO3.out.size; omega)))
    have HFV := Lib.hid (show FreshV w v v' from fun kk h => (hfv kk h).elim .inl (fun h2 => .inr (by have := HO3.out.size; omega)))
    have HC4 := Lib.hid (HC.out.only HO4.out hfar)
    have HB4 := Lib.hid (HB3.out.only ho4 (fun h => by have := HJT.out _ h; omega))
    have HD4 := Lib.hid hd4
    have HNW := Lib.hid hnw4
    have hS4 : w4.cell? ⟨cq, 0, none⟩ = some (.pointer (some ⟨q, 0, none⟩)) ∧ w4.cell? ⟨w.heap.size, 0, none⟩ = some (.string (str k)) ∧ w4.cell? ⟨w.heap.size, 1, none⟩ = some (.string (str val)) := ⟨HC4.out.blk.cell 0, HB4.out.cell 0, HB4.out.cell 1⟩
    clear hd4 hnw4 hj4 ho4 hfv hW4 hns4 HAP3 hS3
    refine ⟨_, rfl, hS4, ?_⟩
    simp only [s0A, s0B, s0C]
    refine takeV 7 (.int .i64 3) rfl rfl (by kernel_rfl) (fun Y hY => by obtain ⟨y0, y1, y2⟩ := hY; go_simp) hS4 ?_; simp only [s0A, s0B, s0C]
    refine wpAnyH_done (by kernel_rfl) ?_ _
    clear hS4 hbe
    have HFIN : Hid (PutO w p g b cap q base cq m bb ba W T v ss D js' x ev w4) := Lib.hid ⟨W', T, HD4.out, HC4.out, HO4.out.mono (fun kk h => .inl (List.mem_append_left _ h)), v', ss', HJ4.out, HW4.out, HS4.out, fun kk h => .inl h, HFV.out, HNWW.out⟩
    go_wp2_with fail
    go_ret
    exact ⟨rfl, HFIN.out⟩
theorem cput_same (hC : IsC w cq (.pointer (some ⟨q, 0, none⟩)) T m bb ba x ev) (hj : IsJ w p g b q base js v ss) (hoff : js.off = false) (k val : List UInt8) (hk : k.length ≤ 500) (hval : val.length ≤ 1000) {a : Nat × Ent} (hz : findX x k = some a) (hav : a.2.2 = val) :
    Calls Tryz.prog 43 #[.pointer (some ⟨cq, 0, none⟩), .string (str k), .string (str val)] w fun y w' => y = .returned (.int .i64 0) ∧ Only [] w w' := by
  have ho1 : Only [] w (w.alloc (.cells #[.string (str k), .string (str val)] 69)) := (Only.refl [] w).alloc _
  have hnb := Blk.new w 69 #[.string ⟨#[]⟩, .string ⟨#[]⟩]
  have n0 := hnb.cell 0
  have n1 := hnb.cell 1
  have f0 := hnb.frozen 0
  have f1 := hnb.frozen 1
  have hC1 := hC.only0 ho1
  have c0 : (w.alloc (.cells #[.string (str k), .string (str val)] 69)).cell? ⟨cq, 0, none⟩ = some (.pointer (some ⟨q, 0, none⟩)) := hC1.blk.cell 0
  have HCN := Lib.hid (cnone_any (hC1.blk.cell 2))
  have HJD := Lib.hid (jdown_is (hj.only0 ho1))
  rw [hoff] at HJD
  have HGET := Lib.hid (cget_any hC1 k (by omega))
  have HO1 := Lib.hid ho1
  have hks : (str k).size ≤ 500 := by rw [str_size]; exact hk
  have hvs : (str val).size ≤ 1000 := by rw [str_size]; exact hval
  rw [hz] at HGET
  obtain ⟨an, ak, av⟩ := a
  simp only at hav
  subst hav
  have HG2 : Hid (Calls Tryz.prog 41 #[.pointer (some ⟨cq, 0, none⟩), .string (str k)] (w.alloc (.cells #[.string (str k), .string (str av)] 69)) fun y w' => y = .returned (.tuple #[.string (str av), .bool true]) ∧ Only [] (w.alloc (.cells #[.string (str k), .string (str av)] 69)) w') := Lib.hid HGET.out
  have e5 : ((str av).toList == (str av).toList) = true := by simp
  clear hj hC ho1 hC1 hnb hoff hz hval HGET
  obtain ⟨e1, e1', e2, e3, e4⟩ := put_sizes hks hvs
  clear hks hvs hk
  generalize hw1 : w.alloc (.cells #[.string (str k), .string (str av)] 69) = w1 at *
  go_enter Tryz.func43, Tryz.ntmps43
  go_upto_region 2 with fail
  try rw [hw1]
  clear n0 n1 f0 f1 hw1
  go_wp2_with (first | (go_at_call 95; refine HCN.out.mono ?_; rintro y wn ⟨rfl, hwn⟩; have hwn := hwn.symm; subst hwn) | (go_at_call 19; refine HJD.out.mono ?_; rintro y wn ⟨rfl, hwn⟩; have hwn := hwn.symm; subst hwn) | (go_at_call 41; refine HG2.out.mono ?_; rintro y w2 ⟨rfl, ho2⟩; have HO2 := Lib.hid (HO1.out.trans ho2 (by simp)); clear ho2))
  go_ret
  exact ⟨rfl, HO2.out⟩
end
end Go.Proofs.YthgfmoogagldmaaGreat.Cache
namespace Go.Proofs.YthgfmoogagldmaaGreat.Cache
open Journal Disk
def ce : Ent := ([97], [49])
def c1 : DS × JS × Int := appendJ k0.1 kj0 (packC ce)
def c2 : DS := crashD c1.1 [] []
def cj : JS := ⟨halfN 20 1, [packC ce], false⟩
def cx : XS := ⟨[(0, ce)], 1⟩
theorem c1_e : c1.2.2 = 0 := by kernel_rfl
theorem c1_n : c1.1.n = 20 := by kernel_rfl
theorem c1_w : (List.range 20).map c1.1.wait = List.replicate 20 none := by kernel_rfl
theorem c2_n : c2.n = 20 := by kernel_rfl
theorem c2_d : decide (c2.done ≤ 1000) = true := by kernel_rfl
theorem c2_g : newestD c2 = 1 := by kernel_rfl
theorem c2_e : (openJ c2).2 = (some cj, 0) := by kernel_rfl
theorem c_load : loadX cj.l emptyX = some cx := by kernel_rfl
theorem c_room : cj.half.room - usedJ cj = 7 := by kernel_rfl
theorem c_short : ∀ l ∈ cj.l, l.length ≤ 10000 := by
  intro l hl
  rw [List.mem_singleton.1 hl, packC_len]
  decide
end Go.Proofs.YthgfmoogagldmaaGreat.Cache
namespace Go.Proofs.YthgfmoogagldmaaGreat.Cache
open Go.RowKit Go.Maps Go.Shelf Journal Disk
theorem num7_any (z : Int) (w : World) : Calls Tryz.prog 42 #[.int .i64 z] w fun x w' => x = .returned (.int .i64 z) ∧ w' = w := by
  go_enter Tryz.func42, Tryz.ntmps42
  go_wp2_with fail
  go_ret
  exact ⟨rfl, rfl⟩
theorem c1_s : appendJ k0.1 kj0 (packC ([97], [49])) = (c1.1, c1.2.1, 0) := show c1 = _ from tri c1 c1_e
theorem c2_s : openJ c2 = ((openJ c2).1, some cj, 0) := Prod.ext rfl c2_e
theorem cs_nil {ks : List Nat} (hk : waitsD c1.1 ks) (hn : ∀ i ∈ ks, i < c1.1.n) : ks = [] := by
  cases ks with
  | nil => rfl
  | cons i t =>
    have h1 := (hk.2 i).1 (by simp)
    have h2 := hn i (by simp)
    rw [c1_n] at h2
    have h3 : ((List.range 20).map c1.1.wait)[i]? = (List.replicate 20 none)[i]? := by rw [c1_w]
    rw [List.getElem?_map, List.getElem?_range h2, List.getElem?_replicate, if_pos h2] at h3
    have h4 : c1.1.wait i = none := by simpa using h3
    rw [h4] at h1
    cases h1
theorem jt_lo {w : World} {p g b q base m : Nat} {js : JS} {v : Value} {ss : List Sl} (h : IsJ w p g b q base js v ss) (hm : m ≤ p ∧ m ≤ g ∧ m ≤ b ∧ m ≤ q ∧ m ≤ base) : ∀ k ∈ JT p g b q v, m ≤ k := by
  intro k hk
  unfold JT at hk
  simp only [List.mem_cons] at hk
  rcases hk with h1 | h1 | h1 | h1 | h1
  · omega
  · omega
  · omega
  · omega
  · have := (h.own.lt k h1).1; omega
theorem tl_lo {w : World} {cq m m0 bb ba ev : Nat} {J : Value} {T : List Nat} {x : XS} (h : IsC w cq J T m bb ba x ev) (hm : m0 ≤ m) (hc : m0 ≤ cq) : ∀ k ∈ cq :: T, m0 ≤ k := by
  intro k hk
  rcases List.mem_cons.1 hk with h1 | h1
  · omega
  · have := (h.idx.lo k h1).1; omega
theorem app_lo {A B : List Nat} {m0 : Nat} (h1 : ∀ k ∈ A, m0 ≤ k) (h2 : ∀ k ∈ B, m0 ≤ k) : ∀ k ∈ A ++ B, k ∈ ([] : List Nat) ∨ m0 ≤ k := by
  intro k hk
  rcases List.mem_append.1 hk with h | h
  · exact .inr (h1 k h)
  · exact .inr (h2 k h)
set_option maxHeartbeats 4000000 in
theorem knows7_any (w : World) : Calls Tryz.prog 36 #[] w fun x w' => x = .returned (.bool true) ∧ Only [] w w' := by
  have HN := Lib.hid (show Calls Tryz.prog 12 #[.int .i64 20] w fun x w' => NewO w 20 x w' from new_any 20 (by decide) (by decide) w)
  have HM := Lib.hid (fun z w => num7_any z w)
  go_enter Tryz.func36, Tryz.ntmps36
  go_wp2_with (first
    | (go_at_call 12; refine HN.out.mono ?_; rintro x w1 ⟨p, g, b, cap, rfl, hd1, hp, hg, hb, ho1⟩; have HP := Lib.hid (show w.heap.size ≤ p ∧ w.heap.size ≤ g ∧ w.heap.size ≤ b ∧ w.heap.size ≤ w1.heap.size from ⟨hp, hg, hb, ho1.size⟩); have HO1 := Lib.hid ho1; have HOP1 := Lib.hid (copen_any hd1 (by decide) (by rw [k0_n.2.2]; decide) (by decide) k0_s (by intro l hl; cases hl) (by decide) rfl); clear hd1 hp hg hb ho1)
    | (go_at_call 48; refine HOP2.out.mono ?_; rintro x w5 ⟨q2, v2, ss2, W5, cq2, T2, m2, bb2, ba2, rfl, hd5, _, hj5, _, hC5, ho5, _⟩; have HO5 := Lib.hid (HO4.out.trans ho5 (by have := HP.out; simp; omega)); have HJ5 := Lib.hid hj5; have HC5 := Lib.hid hC5; have HGET : Hid (Calls Tryz.prog 41 #[.pointer (some ⟨cq2, 0, none⟩), .string ⟨#[97]⟩] w5 fun y w' => y = .returned (.tuple #[.string ⟨#[49]⟩, .bool true]) ∧ Only [] w5 w') := Lib.hid (cget_any hC5 [97] (by decide)); have HSS : Hid (ss2.length ≤ 1000000) := Lib.hid (by have h2 := congrArg List.length hj5.l; rw [List.length_map] at h2; rw [h2]; decide); clear hd5 hj5 hC5 ho5 HOP2)
    | (go_at_call 48; refine HOP1.out.mono ?_; rintro x w2 ⟨q, v, ss, W2, cq, T, m, bb, ba, rfl, hd2, _, hj2, hW2, hC2, ho2, hq, hm, hcq, hsep⟩; have HO2 := Lib.hid (HO1.out.trans ho2 (by have := HP.out; simp; omega)); have HLO := Lib.hid (jt_lo (m := w.heap.size) hj2 (by have := HP.out; omega)); have HTL : Hid (∀ k ∈ cq :: T, w.heap.size ≤ k) := Lib.hid (tl_lo hC2 (by have := HP.out; omega) (by have := HP.out; omega)); have HPUT : Hid (Calls Tryz.prog 43 #[.pointer (some ⟨cq, 0, none⟩), .string ⟨#[97]⟩, .string ⟨#[49]⟩] w2 fun y w' => y = .returned (.int .i64 0) ∧ PutO w2 p g b cap q w1.heap.size cq m bb ba W2 T v ss c1.1 c1.2.1 (addX emptyX ([97], [49])) 0 w') := Lib.hid (cput_ok hd2 (by rw [k0_n.1]; decide) hj2 hW2 hC2 hsep rfl [97] [49] (by decide) (by decide) (by intro a ha; cases ha) (by have h2 := congrArg List.length hj2.l; rw [List.length_map] at h2; rw [h2]; decide) (by rw [k0_n.2.1]; decide) ho2.size (by have := (hC2.idx.lo bb hC2.idx.tt.1); omega) (by decide) c1_s); clear hd2 hj2 hW2 hC2 ho2 hq hm hcq hsep HOP1)
    | (go_at_call 43; refine HPUT.out.mono ?_; rintro x w3 ⟨rfl, W3, T3, hd3, _, ho3, _⟩; have HO3 := Lib.hid (HO2.out.trans ho3 (app_lo HLO.out HTL.out)); have HCR := Lib.hid (crash_any none 0 hd3 [] Reads.none_ (by decide) (by intro h; cases h)); have HN3 := Lib.hid (fun ks (hk : waitsD c1.1 ks) => cs_nil hk (fun i hi => by obtain ⟨l, hl⟩ := Option.isSome_iff_exists.1 ((hk.2 i).1 hi); exact (hd3.wait_lt hl).1)); clear hd3 ho3 HPUT)
    | (go_at_call 21; refine HCR.out.mono ?_; rintro x w4 ⟨ks, hk1, rfl, hdid⟩; obtain rfl := HN3.out ks hk1; obtain ⟨W4, hd4, _, ho4⟩ := hdid; have HO4 := Lib.hid (HO3.out.trans ho4 (by have := HP.out; simp; omega)); have HOP2 := Lib.hid (copen_any (d := c2) hd4 (by rw [c2_n]; decide) (by rw [c2_g]; decide) (Int.le_trans (of_decide_eq_true c2_d) (by decide)) c2_s c_short (by decide) c_load); clear hk1 hd4 ho4 HCR)
    | (go_at_call 41; refine HGET.out.mono ?_; rintro x w6 ⟨rfl, ho6⟩; have HO6 := Lib.hid (HO5.out.trans ho6 (by simp)); have HC6 := Lib.hid (HC5.out.only0 ho6); have HJ6 := Lib.hid (HJ5.out.only0 ho6); clear ho6)
    | (go_at_call 44; refine (centries_any HC6.out).mono ?_; rintro x w7 ⟨ve, rfl, hown, ho7⟩; have HO7 := Lib.hid (HO6.out.trans ho7 (by simp)); obtain ⟨A7, c7, rfl, _, _, _, _⟩ := hown.shape (by decide); have hle : (cx.L.length) = 1 := rfl; have HC7 := Lib.hid (HC6.out.only0 ho7); have HJ7 := Lib.hid (HJ6.out.only0 ho7); clear hown ho7)
    | (go_at_call 47; refine (cdown_any HC7.out HJ7.out).mono ?_; rintro x wd ⟨rfl, hwd⟩; have hwd := hwd.symm; subst hwd; have hcf : cj.off = false := rfl)
    | (go_at_call 46; refine (cfree_any HC7.out HJ7.out HSS.out c_room (by rw [IntKind.wrap_i64]; rfl)).mono ?_; rintro x w8 ⟨rfl, ho8⟩; have HO8 := Lib.hid (HO7.out.trans ho8 (by simp)); clear ho8)
    | (go_at_call 42; refine (HM.out _ _).mono ?_; rintro x wn ⟨rfl, hwn⟩; have hwn := hwn.symm; subst hwn))
  go_ret
  exact ⟨rfl, HO8.out⟩
end Go.Proofs.YthgfmoogagldmaaGreat.Cache
