/- GraphTells, walked. -/
import Derived.Test.YtdfiibnpckahnaaGROver
import Derived.Test.YtdfiibnpckahnaaGL2
namespace Go.Proofs.Ytdfiibnpckahnaa.Graph
open Go.RowKit Go.Shelf Go.Maps
set_option linter.unusedVariables false
set_option maxRecDepth 100000
theorem ND.in_of2 {w : World} {B : Nat} {x : ND} (h : x.rd w B) (hl : x.lit) : x.in_ w B := ⟨h, hl⟩
theorem ND.rd_only2 {w w' : World} {B B' : Nat} {x : ND} (h : x.rd w B) (ho : Only [] w w') (hB : B ≤ B') : x.rd w' B' := (Reads.only h ho (by simp)).more hB
theorem under_len (l : List Nd) (path : Path) : (underL l path).length ≤ (l.flatMap (·.imps)).length := by
  refine nodup_le (under_ris l path).nodup (fun t ht => ?_)
  unfold underL at ht
  split at ht
  · exact iterU_inv (fun t => t ∈ l.flatMap (·.imps)) (fun x hx _ i hi => List.mem_flatMap.2 ⟨x, hx, hi⟩) _ t ht
  · cases ht
theorem over_len (l : List Nd) (path : Path) : (overL l path).length ≤ l.length := by
  have h := nodup_le (over_ris l path).nodup (B := l.map (·.path)) (fun t ht => by
    unfold overL at ht
    split at ht
    · exact (over_iter l path).2.2 t ht
    · cases ht)
  rwa [List.length_map] at h
theorem cyc_len (l : List Nd) : (cycL l).length ≤ l.length := by
  unfold cycL
  split
  · have h := foldl_len ((l.filter (fun x => decide (x.path ∉ taken l))).map (·.path)) []
    rw [List.length_map] at h
    have := List.length_filter_le (fun x : Nd => decide (x.path ∉ taken l)) l
    simp only [List.length_nil] at h
    omega
  · simp
theorem order_len (l : List Nd) : (orderL l).1.length ≤ l.length := by
  unfold orderL
  split
  · simp
  · split
    · simp
    · split
      · simp
      · exact taken_len l
/-- a list of texts, to be read -/
def LO (w wx : World) (L : List Path) (y : Ending) (w' : World) : Prop := ∃ A c, y = .returned (.slice A L.length c) ∧ Recs w' w'.heap.size 1 A L.length (svs L) ∧ Only [] w w' ∧ Only [] wx w'
def NO (w wx : World) (m : Nat) (l : List ND) (y : Ending) (w' : World) : Prop := ∃ A c, y = .returned (.slice A m c) ∧ Recs w' w'.heap.size 2 A m (l.map ND.row) ∧ Only [] w w' ∧ Only [] wx w'
section
variable {w w' wx : World}
theorem SetO.lo {L : List Path} {y : Ending} (h : SetO wx L y w') (ho : Only [] w wx) : LO w wx L y w' := by
  obtain ⟨v, rfl, h1, h2⟩ := h
  obtain ⟨A, c, rfl, _, _, hr, _⟩ := h1.shape (by decide)
  exact ⟨A, c, rfl, hr, ho.trans h2 (by simp), h2⟩
def LTx (w : World) : Prop := ∀ (wx : World) (A1 A2 : Option Addr) (c1 c2 : Nat) (L : List Path), Only [] w wx → L.length ≤ 1000000 → Recs wx wx.heap.size 1 A1 L.length (svs L) → Recs wx wx.heap.size 1 A2 L.length (svs L) →
    Calls Try.prog 9 #[.slice A1 L.length c1, .slice A2 L.length c2] wx fun y w' => y = .returned (.bool true) ∧ Only [] w w'
theorem ltx (w : World) : LTx w := by
  intro wx A1 A2 c1 c2 L ho hl h1 h2
  refine (texts_any A1 A2 L.length L.length c1 c2 L L wx h1 h2 hl).mono fun y w' ⟨h3, h4⟩ => ⟨by rw [h3, decide_eq_true rfl], ho.trans h4 (by simp)⟩
def Keeps (wx : World) (A : Option Addr) (L : List Path) : Prop := ∀ wy, Only [] wx wy → Recs wy wy.heap.size 1 A L.length (svs L)
theorem keeps {A : Option Addr} {L : List Path} (h : Recs wx wx.heap.size 1 A L.length (svs L)) : Keeps wx A L := fun wy ho => (h.only ho (by simp)).more ho.size
set_option maxHeartbeats 16000000 in
theorem tells_law (A : Option Addr) (m c : Nat) (l : List ND) (path : Path) (w : World) (hr : Recs w w.heap.size 2 A m (l.map ND.row)) (hq : ∀ x ∈ l, x.rd w w.heap.size) (hmc : m ≤ c) :
    Calls Try.prog 4 #[.slice A m c, .string (str path)] w fun y w' => y = .returned (.bool true) ∧ Only [] w w' := by
  have HR := Lib.hid hr
  have HQ := Lib.hid hq
  have HL := Lib.hid (show l.length = m by have := hr.1; rwa [List.length_map] at this)
  have HLI := Lib.hid (light_any A m c l w hr hq)
  have HKN := Lib.hid (fun wx => knows_any wx)
  have hps := str_size path
  clear hr hq
  go_enter Try.func4, Try.ntmps4
  go_wp2_with fail
  refine HLI.out.mono ?_
  rintro y w1 ⟨⟨lb, rfl, hlb⟩, hw1⟩
  have hw1 := hw1.symm
  subst hw1
  have HLB := Lib.hid hlb
  clear hlb HLI
  cases lb
  · go_wp2_with (go_at_call 6; refine (HKN.out _).mono ?_; rintro y wn ⟨rfl, ho1⟩; have HO1 := Lib.hid ho1; clear ho1)
    go_ret
    exact ⟨rfl, HO1.out⟩
  · obtain ⟨hm40, hlit⟩ := HLB.out rfl
    have HLIT := Lib.hid hlit
    clear hlit HLB
    by_cases hp : 300 < (str path).size
    · have e1 : decide ((300 : Int) < ((str path).size : Int)) = true := decide_eq_true (by omega)
      have e1' : decide (300 < (str path).size) = true := decide_eq_true hp
      clear hps
      go_wp2_with (go_at_call 6; refine (HKN.out _).mono ?_; rintro y wn ⟨rfl, ho1⟩; have HO1 := Lib.hid ho1; clear ho1)
      go_ret
      exact ⟨rfl, HO1.out⟩
    · have e1 : decide ((300 : Int) < ((str path).size : Int)) = false := decide_eq_false (by omega)
      have e1' : decide (300 < (str path).size) = false := decide_eq_false hp
      have hp300 : path.length ≤ 300 := by omega
      clear hps
      obtain ⟨L, hL⟩ : ∃ L, l.map ND.nd = L := ⟨_, rfl⟩
      have hLl : L.length = m := by rw [← hL, List.length_map, HL.out]
      have HX : Hid (∀ wx, Only [] w wx → (∀ x ∈ l, x.in_ wx wx.heap.size) ∧ Recs wx wx.heap.size 2 A m (l.map ND.row)) := Lib.hid (fun wx ho => ⟨fun x hx => ND.in_of2 (ND.rd_only2 (HQ.out x hx) ho ho.size) (HLIT.out x hx), (HR.out.only ho (by simp)).more ho.size⟩)
      have HOWN : Hid (∀ wx, Only [] w wx → Calls Try.prog 8 #[.slice A m c] wx fun y w' => NO w wx m l y w') := Lib.hid (fun wx ho => (own_any A m c l wx (HX.out wx ho).2 (by omega)).mono fun y w' ⟨v, h1, h2, h3⟩ => by
        obtain ⟨A', c', rfl, _, _, hr', _⟩ := h2.shape (by decide)
        exact ⟨A', c', h1, hr', ho.trans h3 (by simp), h3⟩)
      have HOR1 : Hid (∀ wx A' c', Only [] w wx → Recs wx wx.heap.size 2 A' m (l.map ND.row) → Calls Try.prog 7 #[.slice A' m c'] wx fun y w' => OrderO wx L y w') := Lib.hid (fun wx A' c' ho hr' => by rw [← hL]; exact order_any A' m c' l wx hr' (HX.out wx ho).1 (by omega))
      have HOR2 : Hid (∀ wx, Only [] w wx → Calls Try.prog 12 #[.slice A m c] wx fun y w' => OrderO wx L y w') := Lib.hid (fun wx ho => by rw [← hL]; exact rorder_any A m c l wx (HX.out wx ho).2 (HX.out wx ho).1 (by omega) hmc)
      have HCY1 : Hid (∀ wx A' c', Only [] w wx → Recs wx wx.heap.size 2 A' m (l.map ND.row) → Calls Try.prog 13 #[.slice A' m c'] wx fun y w' => LO w wx (cycL L) y w') := Lib.hid (fun wx A' c' ho hr' => by rw [← hL]; exact (cycle_any A' m c' l wx hr' (HX.out wx ho).1 (by omega)).mono fun y w' h => h.lo ho)
      have HCY2 : Hid (∀ wx, Only [] w wx → Calls Try.prog 14 #[.slice A m c] wx fun y w' => LO w wx (cycL L) y w') := Lib.hid (fun wx ho => by rw [← hL]; exact (rcycle_any A m c l wx (HX.out wx ho).2 (HX.out wx ho).1 (by omega) hmc).mono fun y w' h => h.lo ho)
      have HUN1 : Hid (∀ wx A' c', Only [] w wx → Recs wx wx.heap.size 2 A' m (l.map ND.row) → Calls Try.prog 15 #[.slice A' m c', .string (str path)] wx fun y w' => LO w wx (underL L path) y w') := Lib.hid (fun wx A' c' ho hr' => by rw [← hL]; exact (under_any A' m c' l path wx hr' (HX.out wx ho).1 (by omega) hp300).mono fun y w' h => h.lo ho)
      have HUN2 : Hid (∀ wx, Only [] w wx → Calls Try.prog 16 #[.slice A m c, .string (str path)] wx fun y w' => LO w wx (underL L path) y w') := Lib.hid (fun wx ho => by rw [← hL]; exact (runder_any A m c l path wx (HX.out wx ho).2 (HX.out wx ho).1 (by omega)).mono fun y w' h => h.lo ho)
      have HOV1 : Hid (∀ wx A' c', Only [] w wx → Recs wx wx.heap.size 2 A' m (l.map ND.row) → Calls Try.prog 17 #[.slice A' m c', .string (str path)] wx fun y w' => LO w wx (overL L path) y w') := Lib.hid (fun wx A' c' ho hr' => by rw [← hL]; exact (over_any A' m c' l path wx hr' (HX.out wx ho).1 (by omega) hp300).mono fun y w' h => h.lo ho)
      have HOV2 : Hid (∀ wx, Only [] w wx → Calls Try.prog 18 #[.slice A m c, .string (str path)] wx fun y w' => LO w wx (overL L path) y w') := Lib.hid (fun wx ho => by rw [← hL]; exact (rover_any A m c l path wx (HX.out wx ho).2 (HX.out wx ho).1 (by omega)).mono fun y w' h => h.lo ho)
      have HTX := Lib.hid (ltx w)
      have HB : Hid ((orderL L).1.length ≤ 1000000 ∧ (cycL L).length ≤ 1000000 ∧ (underL L path).length ≤ 1000000 ∧ (overL L path).length ≤ 1000000) := Lib.hid (by
        have h1 := order_len L
        have h2 := cyc_len L
        have h3 := under_len L path
        have h4 := over_len L path
        have h5 := flat_len (l := L) (fun x hx => by rw [← hL] at hx; obtain ⟨y, hy, rfl⟩ := List.mem_map.1 hx; exact (HLIT.out y hy).1)
        refine ⟨by omega, by omega, by omega, by omega⟩)
      clear hL hLl
      obtain ⟨C, hC⟩ : ∃ C, cycL L = C := ⟨_, rfl⟩
      obtain ⟨U, hU⟩ : ∃ U, underL L path = U := ⟨_, rfl⟩
      obtain ⟨V, hV⟩ : ∃ V, overL L path = V := ⟨_, rfl⟩
      rw [hC] at HCY1 HCY2 HB
      rw [hU] at HUN1 HUN2 HB
      rw [hV] at HOV1 HOV2 HB
      have HNM := Lib.hid (fun e wx => num_any e wx)
      clear hC hU hV HX HLIT
      go_wp2_with fail
      refine (HKN.out _).mono ?_
      rintro y w2 ⟨rfl, ho2⟩
      have HO2 := Lib.hid ho2
      clear ho2
      go_upto_region 3 with fail
      go_wp2_with fail
      refine (HOWN.out _ HO2.out).mono ?_
      rintro y w3 ⟨A3, c3, rfl, hr3, ho3, _⟩
      have HC3 := Lib.hid (HOR1.out w3 A3 c3 ho3 hr3)
      have HO3 := Lib.hid ho3
      clear hr3 ho3
      go_wp2_with fail
      refine HC3.out.mono ?_
      rintro y w4 ⟨v4, rfl, hv4, ho4⟩
      obtain ⟨A4, c4, rfl, _, _, hr4, _⟩ := hv4.shape (by decide)
      have HO4 := Lib.hid (HO3.out.trans ho4 (by simp))
      have HK4 := Lib.hid (keeps hr4)
      clear hr4 hv4 ho4 HC3
      obtain ⟨oa, hoa⟩ : ∃ oa, (orderL L).1 = oa := ⟨_, rfl⟩
      obtain ⟨en, hen⟩ : ∃ en, (orderL L).2 = en := ⟨_, rfl⟩
      rw [hoa] at HK4 HB ⊢
      rw [hen]
      have HC4 := HOR2.out w4 HO4.out
      unfold OrderO at HC4
      rw [hoa, hen] at HC4
      have HC5 := Lib.hid HC4
      clear HC4 hoa hen
      go_wp2_with fail
      refine HC5.out.mono ?_
      rintro y w5 ⟨v5, rfl, hv5, ho5⟩
      obtain ⟨A5, c5, rfl, _, _, hr5, _⟩ := hv5.shape (by decide)
      have HO5 := Lib.hid (HO4.out.trans ho5 (by simp))
      have HC6 := Lib.hid (HTX.out w5 A4 A5 c4 c5 oa HO5.out HB.out.1 (HK4.out w5 ho5) hr5)
      have hnn : (en == en) = true := by simp
      clear hr5 hv5 ho5
      go_wp2_with fail
      refine HC6.out.mono ?_
      rintro y w6 ⟨rfl, ho6⟩
      have HO6 := Lib.hid ho6
      clear ho6
      go_wp2_with fail
      refine (HNM.out _ _).mono ?_
      rintro y w7 ⟨rfl, hwn⟩
      have hwn := hwn.symm
      subst hwn
      go_wp2_with fail
      refine (HNM.out _ _).mono ?_
      rintro y w7 ⟨rfl, hwn⟩
      have hwn := hwn.symm
      subst hwn
      clear hwn
      go_wp2_with fail
      refine (HOWN.out _ HO6.out).mono ?_
      rintro y w7 ⟨A7, c7, rfl, hr7, ho7, _⟩
      have HC7 := Lib.hid (HCY1.out w7 A7 c7 ho7 hr7)
      clear hr7 ho7
      go_wp2_with fail
      refine HC7.out.mono ?_
      rintro y w8 ⟨A8, c8, rfl, hr8, ho8, _⟩
      have HK8 := Lib.hid (keeps hr8)
      have HC8 := Lib.hid (HCY2.out w8 ho8)
      clear hr8 ho8
      go_wp2_with fail
      refine HC8.out.mono ?_
      rintro y w9 ⟨A9, c9, rfl, hr9, ho9, hoo9⟩
      have HC9 := Lib.hid (HTX.out w9 A8 A9 c8 c9 C ho9 HB.out.2.1 (HK8.out w9 hoo9) hr9)
      clear hr9 ho9 hoo9
      go_wp2_with fail
      refine HC9.out.mono ?_
      rintro y w10 ⟨rfl, ho10⟩
      have HO10 := Lib.hid ho10
      clear ho10
      go_wp2_with fail
      refine (HOWN.out _ HO10.out).mono ?_
      rintro y w11 ⟨A11, c11, rfl, hr11, ho11, _⟩
      have HC11 := Lib.hid (HUN1.out w11 A11 c11 ho11 hr11)
      clear hr11 ho11
      go_wp2_with fail
      refine HC11.out.mono ?_
      rintro y w12 ⟨A12, c12, rfl, hr12, ho12, _⟩
      have HK12 := Lib.hid (keeps hr12)
      have HC12 := Lib.hid (HUN2.out w12 ho12)
      clear hr12 ho12
      go_wp2_with fail
      refine HC12.out.mono ?_
      rintro y w13 ⟨A13, c13, rfl, hr13, ho13, hoo13⟩
      have HC13 := Lib.hid (HTX.out w13 A12 A13 c12 c13 U ho13 HB.out.2.2.1 (HK12.out w13 hoo13) hr13)
      clear hr13 ho13 hoo13
      go_wp2_with fail
      refine HC13.out.mono ?_
      rintro y w14 ⟨rfl, ho14⟩
      have HO14 := Lib.hid ho14
      clear ho14
      go_wp2_with fail
      refine (HOWN.out _ HO14.out).mono ?_
      rintro y w15 ⟨A15, c15, rfl, hr15, ho15, _⟩
      have HC15 := Lib.hid (HOV1.out w15 A15 c15 ho15 hr15)
      clear hr15 ho15
      go_wp2_with fail
      refine HC15.out.mono ?_
      rintro y w16 ⟨A16, c16, rfl, hr16, ho16, _⟩
      have HK16 := Lib.hid (keeps hr16)
      have HC16 := Lib.hid (HOV2.out w16 ho16)
      clear hr16 ho16
      go_wp2_with fail
      refine HC16.out.mono ?_
      rintro y w17 ⟨A17, c17, rfl, hr17, ho17, hoo17⟩
      have HC17 := Lib.hid (HTX.out w17 A16 A17 c16 c17 V ho17 HB.out.2.2.2 (HK16.out w17 hoo17) hr17)
      clear hr17 ho17 hoo17
      go_wp2_with fail
      refine HC17.out.mono ?_
      rintro y w18 ⟨rfl, ho18⟩
      have HO18 := Lib.hid ho18
      clear ho18
      go_wp2_with fail
      go_ret
      exact ⟨rfl, HO18.out⟩
end
end Go.Proofs.Ytdfiibnpckahnaa.Graph
