/- The document's taken. PRINTED by wip/gen_grtake.py. -/
import Derived.Test.YtdfiibnpckahnaaGRef
import Derived.Test.YtdfiibnpckahnaaGUnder2
namespace Go.Proofs.Ytdfiibnpckahnaa.Graph
open Go.RowKit Go.Shelf Go.Maps
set_option linter.unusedVariables false
set_option maxRecDepth 100000
section
variable {l : List Nd} {out : List Path}
theorem tk_le (h : Tk l out) : out.length ≤ l.length := by have := nodup_le h.nodup h.sub; rwa [List.length_map] at this
theorem tk_none (ht : takeN l (l.length - out.length) out = taken l) (hn : nextP l out = none) : taken l = out := by
  rw [← ht]
  cases l.length - out.length with
  | zero => rfl
  | succ n => unfold takeN; rw [hn]
theorem tk_some {s : Path} (hT : Tk l out) (ht : takeN l (l.length - out.length) out = taken l) (hn : nextP l out = some s) : Tk l (out ++ [s]) ∧ takeN l (l.length - (out ++ [s]).length) (out ++ [s]) = taken l ∧ out.length < l.length := by
  have h1 := hT.snoc hn
  have h2 := tk_le h1
  rw [List.length_append, List.length_singleton] at h2
  refine ⟨h1, ?_, by omega⟩
  rw [← ht, List.length_append, List.length_singleton]
  obtain ⟨n, hn2⟩ : ∃ n, l.length - out.length = n + 1 := ⟨l.length - out.length - 1, by omega⟩
  rw [hn2, show l.length - (out.length + 1) = n by omega]
  conv => rhs; unfold takeN
  rw [hn]
end
/-- the best of the first k -/
def Best (l : List ND) (out : List Path) (k : Nat) (b : Int) : Prop := (b = -1 ∧ ∀ y ∈ l.take k, may out y.nd = false) ∨ (∃ (j : Nat) (x : ND), b = (j : Int) ∧ j < k ∧ l[j]? = some x ∧ may out x.nd = true ∧ ∀ y ∈ l.take k, may out y.nd = true → x.path ≤ y.path)
section
variable {l : List ND} {out : List Path} {k j : Nat} {b : Int} {x y : ND}
theorem Best.zero : Best l out 0 (-1) := .inl ⟨rfl, by simp⟩
theorem Best.skip (h : Best l out k b) (hk : l[k]? = some x) (hm : may out x.nd = false) : Best l out (k + 1) b := by
  rcases h with ⟨h1, h2⟩ | ⟨j, z, h1, h2, h3, h4, h5⟩
  · exact .inl ⟨h1, take_all h2 hk hm⟩
  · exact .inr ⟨j, z, h1, by omega, h3, h4, take_all (P := fun y : ND => may out y.nd = true → z.path ≤ y.path) h5 hk (fun h => by rw [hm] at h; cases h)⟩
theorem Best.first (h : Best l out k (-1)) (hk : l[k]? = some x) (hm : may out x.nd = true) : Best l out (k + 1) (k : Int) := by
  rcases h with ⟨h1, h2⟩ | ⟨j, z, h1, h2, h3, h4, h5⟩
  · exact .inr ⟨k, x, rfl, by omega, hk, hm, take_all (P := fun y : ND => may out y.nd = true → x.path ≤ y.path) (fun y hy h => by rw [h2 y hy] at h; cases h) hk (fun _ => List.le_refl _)⟩
  · omega
theorem Best.less (h : Best l out k (j : Int)) (hj : l[j]? = some y) (hk : l[k]? = some x) (hm : may out x.nd = true) (hlt : x.path < y.path) : Best l out (k + 1) (k : Int) := by
  rcases h with ⟨h1, h2⟩ | ⟨j', z, h1, h2, h3, h4, h5⟩
  · omega
  · obtain rfl : j = j' := by omega
    rw [hj] at h3
    injection h3 with h3
    subst h3
    exact .inr ⟨k, x, rfl, by omega, hk, hm, take_all (P := fun z : ND => may out z.nd = true → x.path ≤ z.path) (fun z hz h => List.le_trans (List.le_of_lt hlt) (h5 z hz h)) hk (fun _ => List.le_refl _)⟩
theorem Best.not_ (h : Best l out k (j : Int)) (hj : l[j]? = some y) (hk : l[k]? = some x) (hlt : ¬ x.path < y.path) : Best l out (k + 1) (j : Int) := by
  rcases h with ⟨h1, h2⟩ | ⟨j', z, h1, h2, h3, h4, h5⟩
  · omega
  · obtain rfl : j = j' := by omega
    rw [hj] at h3
    injection h3 with h3
    subst h3
    exact .inr ⟨j, y, rfl, by omega, hj, h4, take_all (P := fun z : ND => may out z.nd = true → y.path ≤ z.path) h5 hk (fun _ => List.not_lt.1 hlt)⟩
theorem Best.node (h : Best l out k (j : Int)) : ∃ y, l[j]? = some y ∧ j < k ∧ may out y.nd = true := by
  rcases h with ⟨h1, h2⟩ | ⟨j', z, h1, h2, h3, h4, h5⟩
  · omega
  · obtain rfl : j = j' := by omega
    exact ⟨z, h3, h2, h4⟩
theorem Best.shape (h : Best l out k b) : b = -1 ∨ ∃ j : Nat, b = (j : Int) ∧ j < k := by
  rcases h with ⟨h1, _⟩ | ⟨j', z, h1, h2, _⟩
  · exact .inl h1
  · exact .inr ⟨j', h1, h2⟩
theorem Best.none_ (h : Best l out l.length (-1)) : nextP (l.map ND.nd) out = none := by
  rcases h with ⟨h1, h2⟩ | ⟨j', z, h1, h2, h3, h4, h5⟩
  · unfold nextP
    rw [least_none, List.map_eq_nil_iff, List.filter_eq_nil_iff]
    intro y hy
    obtain ⟨z, hz, rfl⟩ := List.mem_map.1 hy
    rw [List.take_length] at h2
    rw [h2 z hz]; simp
  · omega
theorem Best.some_ (h : Best l out l.length (j : Int)) (hj : l[j]? = some x) : nextP (l.map ND.nd) out = some x.path := by
  rcases h with ⟨h1, h2⟩ | ⟨j', z, h1, h2, h3, h4, h5⟩
  · omega
  · obtain rfl : j = j' := by omega
    rw [hj] at h3
    injection h3 with h3
    subst h3
    rw [List.take_length] at h5
    obtain ⟨hh1, hh2⟩ := List.getElem?_eq_some_iff.1 hj
    refine least_uniq (List.mem_map.2 ⟨x.nd, List.mem_filter.2 ⟨List.mem_map.2 ⟨x, by rw [← hh2]; exact List.getElem_mem hh1, rfl⟩, h4⟩, rfl⟩) (fun p hp => ?_)
    obtain ⟨n, hn, rfl⟩ := List.mem_map.1 hp
    obtain ⟨hn1, hn2⟩ := List.mem_filter.1 hn
    obtain ⟨z, hz, rfl⟩ := List.mem_map.1 hn1
    exact h5 z hz hn2
end
def lenV : Value → Nat
  | .slice _ n _ => n
  | _ => 0
theorem nd_rd {w : World} {B : Nat} {x : ND} (h : x.rd w B) : Recs w B 1 x.IA x.imps.length (svs x.imps) := reads_svs rfl h
section
variable {w w' : World}
set_option maxHeartbeats 16000000 in
theorem rtaken_any (A : Option Addr) (m c : Nat) (l : List ND) (w : World) (hr : Recs w w.heap.size 2 A m (l.map ND.row)) (hin : ∀ x ∈ l, x.in_ w w.heap.size) (hm : m ≤ 60) :
    Calls Try.prog 27 #[.slice A m c] w fun y w' => SetO w (taken (l.map ND.nd)) y w' := by
  have HR := Lib.hid hr
  have HIN := Lib.hid hin
  have HL := Lib.hid (show l.length = m by have := hr.1; rwa [List.length_map] at this)
  have HV0 := Lib.hid (OwnR.nil_ 9 1 w w.heap.size)
  clear hr hin
  go_enter Try.func27, Try.ntmps27
  go_wp2_with fail
  go_loopw [3] (fun v wr => ∃ out, OwnR 9 1 wr w.heap.size v out.length (svs out) ∧ Only [] w wr ∧ Tk (l.map ND.nd) out ∧ takeN (l.map ND.nd) ((l.map ND.nd).length - out.length) out = taken (l.map ND.nd)) (fun v _ => m - lenV v)
  case atStart => exact ⟨[], HV0.out, Only.refl _ _, Tk.nil _, rfl⟩
  case round =>
    obtain ⟨out, hv, ho, hT, htk⟩ := hrel
    clear HV0
    obtain ⟨w1, rfl⟩ : ∃ w1, w1 = wr := ⟨_, rfl⟩
    obtain ⟨AO, cO, e3, _, _, hro, _⟩ := hv.shape (by decide)
    subst e3
    have hol := tk_le hT
    rw [List.length_map, HL.out] at hol
    have HV := Lib.hid hv
    have HO := Lib.hid ho
    have HRO := Lib.hid hro
    have HT := Lib.hid (And.intro hT htk)
    clear hv ho hro hT htk
    go_wp2_with fail
    go_loopw [4, 5] (fun bv iv w2 => ∃ (k : Nat) (b : Int), bv = .int .i64 b ∧ iv = .int .i64 k ∧ k ≤ m ∧ Best l out k b ∧ Only [] w1 w2) (fun _ iv _ => m - (intOf iv).toNat)
    case atStart => exact ⟨0, -1, rfl, rfl, by omega, Best.zero, Only.refl _ _⟩
    case round =>
      obtain ⟨k, b, rfl, rfl, hk, hbest, ho2⟩ := hrel
      have hoo := HO.out.trans ho2 (by simp)
      have HOO := Lib.hid hoo
      have HRW := Lib.hid (HRO.out.only ho2 (by simp))
      have HB := Lib.hid hbest
      have HO2 := Lib.hid ho2
      clear hbest ho2
      by_cases hlt : k < m
      · have d1 : decide ((k : Int) < (m : Int)) = true := decide_eq_true (by omega)
        obtain ⟨bb, off, rfl, _, x, hx, hxk, h0, h1⟩ := nd_at HR.out k hlt
        have q0 := hoo.cell h0 (by simp)
        have q1 := hoo.cell h1 (by simp)
        unfold sv at q0
        have hxi := HIN.out x hx
        have HXK := Lib.hid hxk
        have hri := (nd_rd hxi.r).only hoo (by simp)
        have HIC := rin_any AO _ out.length cO out x.path wr.drew HRW.out (by omega)
        have HAC := rall_any x.IA _ x.imps.length x.Ic x.imps AO _ out.length cO out wr.drew hri HRW.out (by have := hxi.c.1; omega) (by omega)
        obtain ⟨bi, hbi⟩ : ∃ bi, decide (x.path ∈ out) = bi := ⟨_, rfl⟩
        obtain ⟨ba, hba⟩ : ∃ ba, x.imps.all (fun i => decide (i ∈ out)) = ba := ⟨_, rfl⟩
        have hmay : may out x.nd = (!bi && ba) := by
          unfold may ND.nd
          simp only [decide_not, hbi, hba]
        rw [hbi] at HIC
        rw [hba] at HAC
        have HICH := Lib.hid HIC
        have HACH := Lib.hid HAC
        have HM := Lib.hid hmay
        have hS : wr.drew.cell? ⟨bb, off + k * 2, none⟩ = some (.string (str x.path)) ∧ wr.drew.cell? ⟨bb, off + k * 2 + 1, none⟩ = some (.slice x.IA x.imps.length x.Ic) := ⟨q0, q1⟩
        clear h0 h1 hx hxk hxi hri HIC HAC hbi hba hmay hoo
        cases bi
        · cases ba
          · have HNX := Lib.hid (HB.out.skip HXK.out HM.out)
            go_upto_region 6 with fail
            refine wp_region_hand (S := (fun Y => Y.cell? ⟨bb, off + k * 2, none⟩ = some (.string (str x.path)) ∧ Y.cell? ⟨bb, off + k * 2 + 1, none⟩ = some (.slice x.IA x.imps.length x.Ic))) (by kernel_rfl) ?_
            refine takeW (i := 0) rfl (by kernel_rfl) (by kernel_rfl) (by kernel_rfl) (fun _ _ _ h => h) rfl (by rfl) (v := .slice AO out.length cO) (fun Y hY => by obtain ⟨y0, y1⟩ := hY; go_simp) hS ?_
            simp only [List.setIfInBounds_toArray, List.set_cons_zero, List.set_cons_succ]
            refine takeW (i := 1) rfl (by kernel_rfl) (by kernel_rfl) (by kernel_rfl) (fun _ _ _ h => h) rfl (by rfl) (v := .slice (some ⟨bb, off, none⟩) m c) (fun Y hY => by obtain ⟨y0, y1⟩ := hY; go_simp) hS ?_
            simp only [List.setIfInBounds_toArray, List.set_cons_zero, List.set_cons_succ]
            refine takeW (i := 2) rfl (by kernel_rfl) (by kernel_rfl) (by kernel_rfl) (fun _ _ _ h => h) rfl (by rfl) (v := .int .i64 (k : Int)) (fun Y hY => by obtain ⟨y0, y1⟩ := hY; go_simp) hS ?_
            simp only [List.setIfInBounds_toArray, List.set_cons_zero, List.set_cons_succ]
            refine takeW (i := 3) rfl (by kernel_rfl) (by kernel_rfl) (by kernel_rfl) (fun _ _ _ h => h) rfl (by rfl) (v := .pointer (some ⟨bb, off + k * 2, none⟩)) (fun Y hY => by obtain ⟨y0, y1⟩ := hY; go_simp) hS ?_
            simp only [List.setIfInBounds_toArray, List.set_cons_zero, List.set_cons_succ]
            refine takeW (i := 4) rfl (by kernel_rfl) (by kernel_rfl) (by kernel_rfl) (fun _ _ _ h => h) rfl (by rfl) (v := .pointer (some ⟨bb, off + k * 2, none⟩)) (fun Y hY => by obtain ⟨y0, y1⟩ := hY; go_simp) hS ?_
            simp only [List.setIfInBounds_toArray, List.set_cons_zero, List.set_cons_succ]
            refine takeW (i := 5) rfl (by kernel_rfl) (by kernel_rfl) (by kernel_rfl) (fun _ _ _ h => h) rfl (by rfl) (v := .string (str x.path)) (fun Y hY => by obtain ⟨y0, y1⟩ := hY; go_simp) hS ?_
            simp only [List.setIfInBounds_toArray, List.set_cons_zero, List.set_cons_succ]
            refine callW (i := 6) rfl (by kernel_rfl) rfl (by rfl) ?_ (HICH.out) ?_
            · go_simp
            rintro x wn ⟨rfl, rfl⟩
            refine ⟨_, rfl, hS, ?_⟩
            simp only [List.setIfInBounds_toArray, List.set_cons_zero, List.set_cons_succ]
            refine takeW (i := 7) rfl (by kernel_rfl) (by kernel_rfl) (by kernel_rfl) (fun _ _ _ h => h) rfl (by rfl) (v := .bool true) (fun Y hY => by obtain ⟨y0, y1⟩ := hY; go_simp) hS ?_
            simp only [List.setIfInBounds_toArray, List.set_cons_zero, List.set_cons_succ]
            refine takeW (i := 8) rfl (by kernel_rfl) (by kernel_rfl) (by kernel_rfl) (fun _ _ _ h => h) rfl (by rfl) (v := .bool true) (fun Y hY => by obtain ⟨y0, y1⟩ := hY; go_simp) hS ?_
            simp only [List.setIfInBounds_toArray, List.set_cons_zero, List.set_cons_succ]
            refine takeW (i := 9) rfl (by kernel_rfl) (by kernel_rfl) (by kernel_rfl) (fun _ _ _ h => h) rfl (by rfl) (v := .slice (some ⟨bb, off, none⟩) m c) (fun Y hY => by obtain ⟨y0, y1⟩ := hY; go_simp) hS ?_
            simp only [List.setIfInBounds_toArray, List.set_cons_zero, List.set_cons_succ]
            refine takeW (i := 10) rfl (by kernel_rfl) (by kernel_rfl) (by kernel_rfl) (fun _ _ _ h => h) rfl (by rfl) (v := .int .i64 (k : Int)) (fun Y hY => by obtain ⟨y0, y1⟩ := hY; go_simp) hS ?_
            simp only [List.setIfInBounds_toArray, List.set_cons_zero, List.set_cons_succ]
            refine takeW (i := 11) rfl (by kernel_rfl) (by kernel_rfl) (by kernel_rfl) (fun _ _ _ h => h) rfl (by rfl) (v := .pointer (some ⟨bb, off + k * 2, none⟩)) (fun Y hY => by obtain ⟨y0, y1⟩ := hY; go_simp) hS ?_
            simp only [List.setIfInBounds_toArray, List.set_cons_zero, List.set_cons_succ]
            refine takeW (i := 12) rfl (by kernel_rfl) (by kernel_rfl) (by kernel_rfl) (fun _ _ _ h => h) rfl (by rfl) (v := .pointer (some ⟨bb, off + k * 2 + 1, none⟩)) (fun Y hY => by obtain ⟨y0, y1⟩ := hY; go_simp) hS ?_
            simp only [List.setIfInBounds_toArray, List.set_cons_zero, List.set_cons_succ]
            refine takeW (i := 13) rfl (by kernel_rfl) (by kernel_rfl) (by kernel_rfl) (fun _ _ _ h => h) rfl (by rfl) (v := .slice x.IA x.imps.length x.Ic) (fun Y hY => by obtain ⟨y0, y1⟩ := hY; go_simp) hS ?_
            simp only [List.setIfInBounds_toArray, List.set_cons_zero, List.set_cons_succ]
            refine takeW (i := 14) rfl (by kernel_rfl) (by kernel_rfl) (by kernel_rfl) (fun _ _ _ h => h) rfl (by rfl) (v := .slice AO out.length cO) (fun Y hY => by obtain ⟨y0, y1⟩ := hY; go_simp) hS ?_
            simp only [List.setIfInBounds_toArray, List.set_cons_zero, List.set_cons_succ]
            refine callW (i := 15) rfl (by kernel_rfl) rfl (by rfl) ?_ (HACH.out) ?_
            · go_simp
            rintro x wn ⟨rfl, rfl⟩
            refine ⟨_, rfl, hS, ?_⟩
            simp only [List.setIfInBounds_toArray, List.set_cons_zero, List.set_cons_succ]
            refine takeW (i := 16) rfl (by kernel_rfl) (by kernel_rfl) (by kernel_rfl) (fun _ _ _ h => h) rfl (by rfl) (v := .bool false) (fun Y hY => by obtain ⟨y0, y1⟩ := hY; go_simp) hS ?_
            simp only [List.setIfInBounds_toArray, List.set_cons_zero, List.set_cons_succ]
            refine takeW (i := 17) rfl (by kernel_rfl) (by kernel_rfl) (by kernel_rfl) (fun _ _ _ h => h) rfl (by rfl) (v := .bool false) (fun Y hY => by obtain ⟨y0, y1⟩ := hY; go_simp) hS ?_
            simp only [List.setIfInBounds_toArray, List.set_cons_zero, List.set_cons_succ]
            refine passW (i := 18) rfl (by kernel_rfl) (by kernel_rfl) (by kernel_rfl) (fun _ _ _ h => h) rfl (by rfl) hS ?_
            simp only [List.setIfInBounds_toArray, List.set_cons_zero, List.set_cons_succ]
            refine passW (i := 19) rfl (by kernel_rfl) (by kernel_rfl) (by kernel_rfl) (fun _ _ _ h => h) rfl (by rfl) hS ?_
            simp only [List.setIfInBounds_toArray, List.set_cons_zero, List.set_cons_succ]
            refine passW (i := 20) rfl (by kernel_rfl) (by kernel_rfl) (by kernel_rfl) (fun _ _ _ h => h) rfl (by rfl) hS ?_
            simp only [List.setIfInBounds_toArray, List.set_cons_zero, List.set_cons_succ]
            refine passW (i := 21) rfl (by kernel_rfl) (by kernel_rfl) (by kernel_rfl) (fun _ _ _ h => h) rfl (by rfl) hS ?_
            simp only [List.setIfInBounds_toArray, List.set_cons_zero, List.set_cons_succ]
            refine passW (i := 22) rfl (by kernel_rfl) (by kernel_rfl) (by kernel_rfl) (fun _ _ _ h => h) rfl (by rfl) hS ?_
            simp only [List.setIfInBounds_toArray, List.set_cons_zero, List.set_cons_succ]
            refine passW (i := 23) rfl (by kernel_rfl) (by kernel_rfl) (by kernel_rfl) (fun _ _ _ h => h) rfl (by rfl) hS ?_
            simp only [List.setIfInBounds_toArray, List.set_cons_zero, List.set_cons_succ]
            refine passW (i := 24) rfl (by kernel_rfl) (by kernel_rfl) (by kernel_rfl) (fun _ _ _ h => h) rfl (by rfl) hS ?_
            simp only [List.setIfInBounds_toArray, List.set_cons_zero, List.set_cons_succ]
            refine passW (i := 25) rfl (by kernel_rfl) (by kernel_rfl) (by kernel_rfl) (fun _ _ _ h => h) rfl (by rfl) hS ?_
            simp only [List.setIfInBounds_toArray, List.set_cons_zero, List.set_cons_succ]
            refine passW (i := 26) rfl (by kernel_rfl) (by kernel_rfl) (by kernel_rfl) (fun _ _ _ h => h) rfl (by rfl) hS ?_
            simp only [List.setIfInBounds_toArray, List.set_cons_zero, List.set_cons_succ]
            refine passW (i := 27) rfl (by kernel_rfl) (by kernel_rfl) (by kernel_rfl) (fun _ _ _ h => h) rfl (by rfl) hS ?_
            simp only [List.setIfInBounds_toArray, List.set_cons_zero, List.set_cons_succ]
            refine passW (i := 28) rfl (by kernel_rfl) (by kernel_rfl) (by kernel_rfl) (fun _ _ _ h => h) rfl (by rfl) hS ?_
            simp only [List.setIfInBounds_toArray, List.set_cons_zero, List.set_cons_succ]
            refine passW (i := 29) rfl (by kernel_rfl) (by kernel_rfl) (by kernel_rfl) (fun _ _ _ h => h) rfl (by rfl) hS ?_
            simp only [List.setIfInBounds_toArray, List.set_cons_zero, List.set_cons_succ]
            refine passW (i := 30) rfl (by kernel_rfl) (by kernel_rfl) (by kernel_rfl) (fun _ _ _ h => h) rfl (by rfl) hS ?_
            simp only [List.setIfInBounds_toArray, List.set_cons_zero, List.set_cons_succ]
            refine passW (i := 31) rfl (by kernel_rfl) (by kernel_rfl) (by kernel_rfl) (fun _ _ _ h => h) rfl (by rfl) hS ?_
            simp only [List.setIfInBounds_toArray, List.set_cons_zero, List.set_cons_succ]
            refine passW (i := 32) rfl (by kernel_rfl) (by kernel_rfl) (by kernel_rfl) (fun _ _ _ h => h) rfl (by rfl) hS ?_
            simp only [List.setIfInBounds_toArray, List.set_cons_zero, List.set_cons_succ]
            refine takeW (i := 33) rfl (by kernel_rfl) (by kernel_rfl) (by kernel_rfl) (fun _ _ _ h => h) rfl (by rfl) (v := .bool false) (fun Y hY => by obtain ⟨y0, y1⟩ := hY; go_simp) hS ?_
            simp only [List.setIfInBounds_toArray, List.set_cons_zero, List.set_cons_succ]
            refine wpAnyH_done (by kernel_rfl) ?_ _
            go_wp2_with fail
            go_roundw
            case measure => simp [intOf]; omega
            case rel => exact ⟨k + 1, b, rfl, by go_num, by omega, HNX.out, HO2.out.drew⟩
          · rcases HB.out.shape with rfl | ⟨j, rfl, hj⟩
            · have HNX := Lib.hid (HB.out.first HXK.out HM.out)
              go_upto_region 6 with fail
              refine wp_region_hand (S := (fun Y => Y.cell? ⟨bb, off + k * 2, none⟩ = some (.string (str x.path)) ∧ Y.cell? ⟨bb, off + k * 2 + 1, none⟩ = some (.slice x.IA x.imps.length x.Ic))) (by kernel_rfl) ?_
              refine takeW (i := 0) rfl (by kernel_rfl) (by kernel_rfl) (by kernel_rfl) (fun _ _ _ h => h) rfl (by rfl) (v := .slice AO out.length cO) (fun Y hY => by obtain ⟨y0, y1⟩ := hY; go_simp) hS ?_
              simp only [List.setIfInBounds_toArray, List.set_cons_zero, List.set_cons_succ]
              refine takeW (i := 1) rfl (by kernel_rfl) (by kernel_rfl) (by kernel_rfl) (fun _ _ _ h => h) rfl (by rfl) (v := .slice (some ⟨bb, off, none⟩) m c) (fun Y hY => by obtain ⟨y0, y1⟩ := hY; go_simp) hS ?_
              simp only [List.setIfInBounds_toArray, List.set_cons_zero, List.set_cons_succ]
              refine takeW (i := 2) rfl (by kernel_rfl) (by kernel_rfl) (by kernel_rfl) (fun _ _ _ h => h) rfl (by rfl) (v := .int .i64 (k : Int)) (fun Y hY => by obtain ⟨y0, y1⟩ := hY; go_simp) hS ?_
              simp only [List.setIfInBounds_toArray, List.set_cons_zero, List.set_cons_succ]
              refine takeW (i := 3) rfl (by kernel_rfl) (by kernel_rfl) (by kernel_rfl) (fun _ _ _ h => h) rfl (by rfl) (v := .pointer (some ⟨bb, off + k * 2, none⟩)) (fun Y hY => by obtain ⟨y0, y1⟩ := hY; go_simp) hS ?_
              simp only [List.setIfInBounds_toArray, List.set_cons_zero, List.set_cons_succ]
              refine takeW (i := 4) rfl (by kernel_rfl) (by kernel_rfl) (by kernel_rfl) (fun _ _ _ h => h) rfl (by rfl) (v := .pointer (some ⟨bb, off + k * 2, none⟩)) (fun Y hY => by obtain ⟨y0, y1⟩ := hY; go_simp) hS ?_
              simp only [List.setIfInBounds_toArray, List.set_cons_zero, List.set_cons_succ]
              refine takeW (i := 5) rfl (by kernel_rfl) (by kernel_rfl) (by kernel_rfl) (fun _ _ _ h => h) rfl (by rfl) (v := .string (str x.path)) (fun Y hY => by obtain ⟨y0, y1⟩ := hY; go_simp) hS ?_
              simp only [List.setIfInBounds_toArray, List.set_cons_zero, List.set_cons_succ]
              refine callW (i := 6) rfl (by kernel_rfl) rfl (by rfl) ?_ (HICH.out) ?_
              · go_simp
              rintro x wn ⟨rfl, rfl⟩
              refine ⟨_, rfl, hS, ?_⟩
              simp only [List.setIfInBounds_toArray, List.set_cons_zero, List.set_cons_succ]
              refine takeW (i := 7) rfl (by kernel_rfl) (by kernel_rfl) (by kernel_rfl) (fun _ _ _ h => h) rfl (by rfl) (v := .bool true) (fun Y hY => by obtain ⟨y0, y1⟩ := hY; go_simp) hS ?_
              simp only [List.setIfInBounds_toArray, List.set_cons_zero, List.set_cons_succ]
              refine takeW (i := 8) rfl (by kernel_rfl) (by kernel_rfl) (by kernel_rfl) (fun _ _ _ h => h) rfl (by rfl) (v := .bool true) (fun Y hY => by obtain ⟨y0, y1⟩ := hY; go_simp) hS ?_
              simp only [List.setIfInBounds_toArray, List.set_cons_zero, List.set_cons_succ]
              refine takeW (i := 9) rfl (by kernel_rfl) (by kernel_rfl) (by kernel_rfl) (fun _ _ _ h => h) rfl (by rfl) (v := .slice (some ⟨bb, off, none⟩) m c) (fun Y hY => by obtain ⟨y0, y1⟩ := hY; go_simp) hS ?_
              simp only [List.setIfInBounds_toArray, List.set_cons_zero, List.set_cons_succ]
              refine takeW (i := 10) rfl (by kernel_rfl) (by kernel_rfl) (by kernel_rfl) (fun _ _ _ h => h) rfl (by rfl) (v := .int .i64 (k : Int)) (fun Y hY => by obtain ⟨y0, y1⟩ := hY; go_simp) hS ?_
              simp only [List.setIfInBounds_toArray, List.set_cons_zero, List.set_cons_succ]
              refine takeW (i := 11) rfl (by kernel_rfl) (by kernel_rfl) (by kernel_rfl) (fun _ _ _ h => h) rfl (by rfl) (v := .pointer (some ⟨bb, off + k * 2, none⟩)) (fun Y hY => by obtain ⟨y0, y1⟩ := hY; go_simp) hS ?_
              simp only [List.setIfInBounds_toArray, List.set_cons_zero, List.set_cons_succ]
              refine takeW (i := 12) rfl (by kernel_rfl) (by kernel_rfl) (by kernel_rfl) (fun _ _ _ h => h) rfl (by rfl) (v := .pointer (some ⟨bb, off + k * 2 + 1, none⟩)) (fun Y hY => by obtain ⟨y0, y1⟩ := hY; go_simp) hS ?_
              simp only [List.setIfInBounds_toArray, List.set_cons_zero, List.set_cons_succ]
              refine takeW (i := 13) rfl (by kernel_rfl) (by kernel_rfl) (by kernel_rfl) (fun _ _ _ h => h) rfl (by rfl) (v := .slice x.IA x.imps.length x.Ic) (fun Y hY => by obtain ⟨y0, y1⟩ := hY; go_simp) hS ?_
              simp only [List.setIfInBounds_toArray, List.set_cons_zero, List.set_cons_succ]
              refine takeW (i := 14) rfl (by kernel_rfl) (by kernel_rfl) (by kernel_rfl) (fun _ _ _ h => h) rfl (by rfl) (v := .slice AO out.length cO) (fun Y hY => by obtain ⟨y0, y1⟩ := hY; go_simp) hS ?_
              simp only [List.setIfInBounds_toArray, List.set_cons_zero, List.set_cons_succ]
              refine callW (i := 15) rfl (by kernel_rfl) rfl (by rfl) ?_ (HACH.out) ?_
              · go_simp
              rintro x wn ⟨rfl, rfl⟩
              refine ⟨_, rfl, hS, ?_⟩
              simp only [List.setIfInBounds_toArray, List.set_cons_zero, List.set_cons_succ]
              refine takeW (i := 16) rfl (by kernel_rfl) (by kernel_rfl) (by kernel_rfl) (fun _ _ _ h => h) rfl (by rfl) (v := .bool true) (fun Y hY => by obtain ⟨y0, y1⟩ := hY; go_simp) hS ?_
              simp only [List.setIfInBounds_toArray, List.set_cons_zero, List.set_cons_succ]
              refine takeW (i := 17) rfl (by kernel_rfl) (by kernel_rfl) (by kernel_rfl) (fun _ _ _ h => h) rfl (by rfl) (v := .bool true) (fun Y hY => by obtain ⟨y0, y1⟩ := hY; go_simp) hS ?_
              simp only [List.setIfInBounds_toArray, List.set_cons_zero, List.set_cons_succ]
              refine takeW (i := 18) rfl (by kernel_rfl) (by kernel_rfl) (by kernel_rfl) (fun _ _ _ h => h) rfl (by rfl) (v := .int .i64 (-1)) (fun Y hY => by obtain ⟨y0, y1⟩ := hY; go_simp) hS ?_
              simp only [List.setIfInBounds_toArray, List.set_cons_zero, List.set_cons_succ]
              refine takeW (i := 19) rfl (by kernel_rfl) (by kernel_rfl) (by kernel_rfl) (fun _ _ _ h => h) rfl (by rfl) (v := .bool true) (fun Y hY => by obtain ⟨y0, y1⟩ := hY; go_simp) hS ?_
              simp only [List.setIfInBounds_toArray, List.set_cons_zero, List.set_cons_succ]
              refine takeW (i := 20) rfl (by kernel_rfl) (by kernel_rfl) (by kernel_rfl) (fun _ _ _ h => h) rfl (by rfl) (v := .bool true) (fun Y hY => by obtain ⟨y0, y1⟩ := hY; go_simp) hS ?_
              simp only [List.setIfInBounds_toArray, List.set_cons_zero, List.set_cons_succ]
              refine passW (i := 21) rfl (by kernel_rfl) (by kernel_rfl) (by kernel_rfl) (fun _ _ _ h => h) rfl (by rfl) hS ?_
              simp only [List.setIfInBounds_toArray, List.set_cons_zero, List.set_cons_succ]
              refine passW (i := 22) rfl (by kernel_rfl) (by kernel_rfl) (by kernel_rfl) (fun _ _ _ h => h) rfl (by rfl) hS ?_
              simp only [List.setIfInBounds_toArray, List.set_cons_zero, List.set_cons_succ]
              refine passW (i := 23) rfl (by kernel_rfl) (by kernel_rfl) (by kernel_rfl) (fun _ _ _ h => h) rfl (by rfl) hS ?_
              simp only [List.setIfInBounds_toArray, List.set_cons_zero, List.set_cons_succ]
              refine passW (i := 24) rfl (by kernel_rfl) (by kernel_rfl) (by kernel_rfl) (fun _ _ _ h => h) rfl (by rfl) hS ?_
              simp only [List.setIfInBounds_toArray, List.set_cons_zero, List.set_cons_succ]
              refine passW (i := 25) rfl (by kernel_rfl) (by kernel_rfl) (by kernel_rfl) (fun _ _ _ h => h) rfl (by rfl) hS ?_
              simp only [List.setIfInBounds_toArray, List.set_cons_zero, List.set_cons_succ]
              refine passW (i := 26) rfl (by kernel_rfl) (by kernel_rfl) (by kernel_rfl) (fun _ _ _ h => h) rfl (by rfl) hS ?_
              simp only [List.setIfInBounds_toArray, List.set_cons_zero, List.set_cons_succ]
              refine passW (i := 27) rfl (by kernel_rfl) (by kernel_rfl) (by kernel_rfl) (fun _ _ _ h => h) rfl (by rfl) hS ?_
              simp only [List.setIfInBounds_toArray, List.set_cons_zero, List.set_cons_succ]
              refine passW (i := 28) rfl (by kernel_rfl) (by kernel_rfl) (by kernel_rfl) (fun _ _ _ h => h) rfl (by rfl) hS ?_
              simp only [List.setIfInBounds_toArray, List.set_cons_zero, List.set_cons_succ]
              refine passW (i := 29) rfl (by kernel_rfl) (by kernel_rfl) (by kernel_rfl) (fun _ _ _ h => h) rfl (by rfl) hS ?_
              simp only [List.setIfInBounds_toArray, List.set_cons_zero, List.set_cons_succ]
              refine passW (i := 30) rfl (by kernel_rfl) (by kernel_rfl) (by kernel_rfl) (fun _ _ _ h => h) rfl (by rfl) hS ?_
              simp only [List.setIfInBounds_toArray, List.set_cons_zero, List.set_cons_succ]
              refine passW (i := 31) rfl (by kernel_rfl) (by kernel_rfl) (by kernel_rfl) (fun _ _ _ h => h) rfl (by rfl) hS ?_
              simp only [List.setIfInBounds_toArray, List.set_cons_zero, List.set_cons_succ]
              refine takeW (i := 32) rfl (by kernel_rfl) (by kernel_rfl) (by kernel_rfl) (fun _ _ _ h => h) rfl (by rfl) (v := .bool true) (fun Y hY => by obtain ⟨y0, y1⟩ := hY; go_simp) hS ?_
              simp only [List.setIfInBounds_toArray, List.set_cons_zero, List.set_cons_succ]
              refine takeW (i := 33) rfl (by kernel_rfl) (by kernel_rfl) (by kernel_rfl) (fun _ _ _ h => h) rfl (by rfl) (v := .bool true) (fun Y hY => by obtain ⟨y0, y1⟩ := hY; go_simp) hS ?_
              simp only [List.setIfInBounds_toArray, List.set_cons_zero, List.set_cons_succ]
              refine wpAnyH_done (by kernel_rfl) ?_ _
              go_wp2_with fail
              go_roundw
              case measure => simp [intOf]; omega
              case rel => exact ⟨k + 1, (k : Int), by go_num, by go_num, by omega, HNX.out, HO2.out.drew⟩
            · obtain ⟨b2, o2, hA2, _, y, _, hyj, g0, _⟩ := nd_at HR.out j (by omega)
              obtain ⟨rfl, rfl⟩ : bb = b2 ∧ off = o2 := by simpa using hA2
              have q2 := HOO.out.cell g0 (by simp)
              unfold sv at q2
              have hjm : j < m := by omega
              have d2 : decide ((j : Int) < 0) = false := decide_eq_false (by omega)
              have hS : wr.drew.cell? ⟨bb, off + k * 2, none⟩ = some (.string (str x.path)) ∧ wr.drew.cell? ⟨bb, off + k * 2 + 1, none⟩ = some (.slice x.IA x.imps.length x.Ic) ∧ wr.drew.cell? ⟨bb, off + j * 2, none⟩ = some (.string (str y.path)) := ⟨q0, q1, q2⟩
              have HNX : Hid (Best l out (k + 1) (if x.path < y.path then (k : Int) else (j : Int))) := Lib.hid (by
                split
                · exact HB.out.less hyj HXK.out HM.out (by assumption)
                · exact HB.out.not_ hyj HXK.out (by assumption))
              have e5 := str_lss x.path y.path
              obtain ⟨lt, hlt2⟩ : ∃ lt, decide (x.path < y.path) = lt := ⟨_, rfl⟩
              rw [hlt2] at e5
              have HLT := Lib.hid hlt2
              clear g0 hA2 hyj hlt2
              go_upto_region 6 with fail
              refine wp_region_hand (S := (fun Y => Y.cell? ⟨bb, off + k * 2, none⟩ = some (.string (str x.path)) ∧ Y.cell? ⟨bb, off + k * 2 + 1, none⟩ = some (.slice x.IA x.imps.length x.Ic) ∧ Y.cell? ⟨bb, off + j * 2, none⟩ = some (.string (str y.path)))) (by kernel_rfl) ?_
              refine takeW (i := 0) rfl (by kernel_rfl) (by kernel_rfl) (by kernel_rfl) (fun _ _ _ h => h) rfl (by rfl) (v := .slice AO out.length cO) (fun Y hY => by obtain ⟨y0, y1, y2⟩ := hY; go_simp) hS ?_
              simp only [List.setIfInBounds_toArray, List.set_cons_zero, List.set_cons_succ]
              refine takeW (i := 1) rfl (by kernel_rfl) (by kernel_rfl) (by kernel_rfl) (fun _ _ _ h => h) rfl (by rfl) (v := .slice (some ⟨bb, off, none⟩) m c) (fun Y hY => by obtain ⟨y0, y1, y2⟩ := hY; go_simp) hS ?_
              simp only [List.setIfInBounds_toArray, List.set_cons_zero, List.set_cons_succ]
              refine takeW (i := 2) rfl (by kernel_rfl) (by kernel_rfl) (by kernel_rfl) (fun _ _ _ h => h) rfl (by rfl) (v := .int .i64 (k : Int)) (fun Y hY => by obtain ⟨y0, y1, y2⟩ := hY; go_simp) hS ?_
              simp only [List.setIfInBounds_toArray, List.set_cons_zero, List.set_cons_succ]
              refine takeW (i := 3) rfl (by kernel_rfl) (by kernel_rfl) (by kernel_rfl) (fun _ _ _ h => h) rfl (by rfl) (v := .pointer (some ⟨bb, off + k * 2, none⟩)) (fun Y hY => by obtain ⟨y0, y1, y2⟩ := hY; go_simp) hS ?_
              simp only [List.setIfInBounds_toArray, List.set_cons_zero, List.set_cons_succ]
              refine takeW (i := 4) rfl (by kernel_rfl) (by kernel_rfl) (by kernel_rfl) (fun _ _ _ h => h) rfl (by rfl) (v := .pointer (some ⟨bb, off + k * 2, none⟩)) (fun Y hY => by obtain ⟨y0, y1, y2⟩ := hY; go_simp) hS ?_
              simp only [List.setIfInBounds_toArray, List.set_cons_zero, List.set_cons_succ]
              refine takeW (i := 5) rfl (by kernel_rfl) (by kernel_rfl) (by kernel_rfl) (fun _ _ _ h => h) rfl (by rfl) (v := .string (str x.path)) (fun Y hY => by obtain ⟨y0, y1, y2⟩ := hY; go_simp) hS ?_
              simp only [List.setIfInBounds_toArray, List.set_cons_zero, List.set_cons_succ]
              refine callW (i := 6) rfl (by kernel_rfl) rfl (by rfl) ?_ (HICH.out) ?_
              · go_simp
              rintro x wn ⟨rfl, rfl⟩
              refine ⟨_, rfl, hS, ?_⟩
              simp only [List.setIfInBounds_toArray, List.set_cons_zero, List.set_cons_succ]
              refine takeW (i := 7) rfl (by kernel_rfl) (by kernel_rfl) (by kernel_rfl) (fun _ _ _ h => h) rfl (by rfl) (v := .bool true) (fun Y hY => by obtain ⟨y0, y1, y2⟩ := hY; go_simp) hS ?_
              simp only [List.setIfInBounds_toArray, List.set_cons_zero, List.set_cons_succ]
              refine takeW (i := 8) rfl (by kernel_rfl) (by kernel_rfl) (by kernel_rfl) (fun _ _ _ h => h) rfl (by rfl) (v := .bool true) (fun Y hY => by obtain ⟨y0, y1, y2⟩ := hY; go_simp) hS ?_
              simp only [List.setIfInBounds_toArray, List.set_cons_zero, List.set_cons_succ]
              refine takeW (i := 9) rfl (by kernel_rfl) (by kernel_rfl) (by kernel_rfl) (fun _ _ _ h => h) rfl (by rfl) (v := .slice (some ⟨bb, off, none⟩) m c) (fun Y hY => by obtain ⟨y0, y1, y2⟩ := hY; go_simp) hS ?_
              simp only [List.setIfInBounds_toArray, List.set_cons_zero, List.set_cons_succ]
              refine takeW (i := 10) rfl (by kernel_rfl) (by kernel_rfl) (by kernel_rfl) (fun _ _ _ h => h) rfl (by rfl) (v := .int .i64 (k : Int)) (fun Y hY => by obtain ⟨y0, y1, y2⟩ := hY; go_simp) hS ?_
              simp only [List.setIfInBounds_toArray, List.set_cons_zero, List.set_cons_succ]
              refine takeW (i := 11) rfl (by kernel_rfl) (by kernel_rfl) (by kernel_rfl) (fun _ _ _ h => h) rfl (by rfl) (v := .pointer (some ⟨bb, off + k * 2, none⟩)) (fun Y hY => by obtain ⟨y0, y1, y2⟩ := hY; go_simp) hS ?_
              simp only [List.setIfInBounds_toArray, List.set_cons_zero, List.set_cons_succ]
              refine takeW (i := 12) rfl (by kernel_rfl) (by kernel_rfl) (by kernel_rfl) (fun _ _ _ h => h) rfl (by rfl) (v := .pointer (some ⟨bb, off + k * 2 + 1, none⟩)) (fun Y hY => by obtain ⟨y0, y1, y2⟩ := hY; go_simp) hS ?_
              simp only [List.setIfInBounds_toArray, List.set_cons_zero, List.set_cons_succ]
              refine takeW (i := 13) rfl (by kernel_rfl) (by kernel_rfl) (by kernel_rfl) (fun _ _ _ h => h) rfl (by rfl) (v := .slice x.IA x.imps.length x.Ic) (fun Y hY => by obtain ⟨y0, y1, y2⟩ := hY; go_simp) hS ?_
              simp only [List.setIfInBounds_toArray, List.set_cons_zero, List.set_cons_succ]
              refine takeW (i := 14) rfl (by kernel_rfl) (by kernel_rfl) (by kernel_rfl) (fun _ _ _ h => h) rfl (by rfl) (v := .slice AO out.length cO) (fun Y hY => by obtain ⟨y0, y1, y2⟩ := hY; go_simp) hS ?_
              simp only [List.setIfInBounds_toArray, List.set_cons_zero, List.set_cons_succ]
              refine callW (i := 15) rfl (by kernel_rfl) rfl (by rfl) ?_ (HACH.out) ?_
              · go_simp
              rintro x wn ⟨rfl, rfl⟩
              refine ⟨_, rfl, hS, ?_⟩
              simp only [List.setIfInBounds_toArray, List.set_cons_zero, List.set_cons_succ]
              refine takeW (i := 16) rfl (by kernel_rfl) (by kernel_rfl) (by kernel_rfl) (fun _ _ _ h => h) rfl (by rfl) (v := .bool true) (fun Y hY => by obtain ⟨y0, y1, y2⟩ := hY; go_simp) hS ?_
              simp only [List.setIfInBounds_toArray, List.set_cons_zero, List.set_cons_succ]
              refine takeW (i := 17) rfl (by kernel_rfl) (by kernel_rfl) (by kernel_rfl) (fun _ _ _ h => h) rfl (by rfl) (v := .bool true) (fun Y hY => by obtain ⟨y0, y1, y2⟩ := hY; go_simp) hS ?_
              simp only [List.setIfInBounds_toArray, List.set_cons_zero, List.set_cons_succ]
              refine takeW (i := 18) rfl (by kernel_rfl) (by kernel_rfl) (by kernel_rfl) (fun _ _ _ h => h) rfl (by rfl) (v := .int .i64 (j : Int)) (fun Y hY => by obtain ⟨y0, y1, y2⟩ := hY; go_simp) hS ?_
              simp only [List.setIfInBounds_toArray, List.set_cons_zero, List.set_cons_succ]
              refine takeW (i := 19) rfl (by kernel_rfl) (by kernel_rfl) (by kernel_rfl) (fun _ _ _ h => h) rfl (by rfl) (v := .bool false) (fun Y hY => by obtain ⟨y0, y1, y2⟩ := hY; go_simp) hS ?_
              simp only [List.setIfInBounds_toArray, List.set_cons_zero, List.set_cons_succ]
              refine takeW (i := 20) rfl (by kernel_rfl) (by kernel_rfl) (by kernel_rfl) (fun _ _ _ h => h) rfl (by rfl) (v := .bool false) (fun Y hY => by obtain ⟨y0, y1, y2⟩ := hY; go_simp) hS ?_
              simp only [List.setIfInBounds_toArray, List.set_cons_zero, List.set_cons_succ]
              refine takeW (i := 21) rfl (by kernel_rfl) (by kernel_rfl) (by kernel_rfl) (fun _ _ _ h => h) rfl (by rfl) (v := .slice (some ⟨bb, off, none⟩) m c) (fun Y hY => by obtain ⟨y0, y1, y2⟩ := hY; go_simp) hS ?_
              simp only [List.setIfInBounds_toArray, List.set_cons_zero, List.set_cons_succ]
              refine takeW (i := 22) rfl (by kernel_rfl) (by kernel_rfl) (by kernel_rfl) (fun _ _ _ h => h) rfl (by rfl) (v := .int .i64 (k : Int)) (fun Y hY => by obtain ⟨y0, y1, y2⟩ := hY; go_simp) hS ?_
              simp only [List.setIfInBounds_toArray, List.set_cons_zero, List.set_cons_succ]
              refine takeW (i := 23) rfl (by kernel_rfl) (by kernel_rfl) (by kernel_rfl) (fun _ _ _ h => h) rfl (by rfl) (v := .pointer (some ⟨bb, off + k * 2, none⟩)) (fun Y hY => by obtain ⟨y0, y1, y2⟩ := hY; go_simp) hS ?_
              simp only [List.setIfInBounds_toArray, List.set_cons_zero, List.set_cons_succ]
              refine takeW (i := 24) rfl (by kernel_rfl) (by kernel_rfl) (by kernel_rfl) (fun _ _ _ h => h) rfl (by rfl) (v := .pointer (some ⟨bb, off + k * 2, none⟩)) (fun Y hY => by obtain ⟨y0, y1, y2⟩ := hY; go_simp) hS ?_
              simp only [List.setIfInBounds_toArray, List.set_cons_zero, List.set_cons_succ]
              refine takeW (i := 25) rfl (by kernel_rfl) (by kernel_rfl) (by kernel_rfl) (fun _ _ _ h => h) rfl (by rfl) (v := .string (str x.path)) (fun Y hY => by obtain ⟨y0, y1, y2⟩ := hY; go_simp) hS ?_
              simp only [List.setIfInBounds_toArray, List.set_cons_zero, List.set_cons_succ]
              refine takeW (i := 26) rfl (by kernel_rfl) (by kernel_rfl) (by kernel_rfl) (fun _ _ _ h => h) rfl (by rfl) (v := .slice (some ⟨bb, off, none⟩) m c) (fun Y hY => by obtain ⟨y0, y1, y2⟩ := hY; go_simp) hS ?_
              simp only [List.setIfInBounds_toArray, List.set_cons_zero, List.set_cons_succ]
              refine takeW (i := 27) rfl (by kernel_rfl) (by kernel_rfl) (by kernel_rfl) (fun _ _ _ h => h) rfl (by rfl) (v := .int .i64 (j : Int)) (fun Y hY => by obtain ⟨y0, y1, y2⟩ := hY; go_simp) hS ?_
              simp only [List.setIfInBounds_toArray, List.set_cons_zero, List.set_cons_succ]
              refine takeW (i := 28) rfl (by kernel_rfl) (by kernel_rfl) (by kernel_rfl) (fun _ _ _ h => h) rfl (by rfl) (v := .pointer (some ⟨bb, off + j * 2, none⟩)) (fun Y hY => by obtain ⟨y0, y1, y2⟩ := hY; go_simp) hS ?_
              simp only [List.setIfInBounds_toArray, List.set_cons_zero, List.set_cons_succ]
              refine takeW (i := 29) rfl (by kernel_rfl) (by kernel_rfl) (by kernel_rfl) (fun _ _ _ h => h) rfl (by rfl) (v := .pointer (some ⟨bb, off + j * 2, none⟩)) (fun Y hY => by obtain ⟨y0, y1, y2⟩ := hY; go_simp) hS ?_
              simp only [List.setIfInBounds_toArray, List.set_cons_zero, List.set_cons_succ]
              refine takeW (i := 30) rfl (by kernel_rfl) (by kernel_rfl) (by kernel_rfl) (fun _ _ _ h => h) rfl (by rfl) (v := .string (str y.path)) (fun Y hY => by obtain ⟨y0, y1, y2⟩ := hY; go_simp) hS ?_
              simp only [List.setIfInBounds_toArray, List.set_cons_zero, List.set_cons_succ]
              refine takeW (i := 31) rfl (by kernel_rfl) (by kernel_rfl) (by kernel_rfl) (fun _ _ _ h => h) rfl (by rfl) (v := .bool lt) (fun Y hY => by obtain ⟨y0, y1, y2⟩ := hY; go_simp) hS ?_
              simp only [List.setIfInBounds_toArray, List.set_cons_zero, List.set_cons_succ]
              refine takeW (i := 32) rfl (by kernel_rfl) (by kernel_rfl) (by kernel_rfl) (fun _ _ _ h => h) rfl (by rfl) (v := .bool lt) (fun Y hY => by obtain ⟨y0, y1, y2⟩ := hY; go_simp) hS ?_
              simp only [List.setIfInBounds_toArray, List.set_cons_zero, List.set_cons_succ]
              refine takeW (i := 33) rfl (by kernel_rfl) (by kernel_rfl) (by kernel_rfl) (fun _ _ _ h => h) rfl (by rfl) (v := .bool lt) (fun Y hY => by obtain ⟨y0, y1, y2⟩ := hY; go_simp) hS ?_
              simp only [List.setIfInBounds_toArray, List.set_cons_zero, List.set_cons_succ]
              refine wpAnyH_done (by kernel_rfl) ?_ _
              cases lt
              · go_wp2_with fail
                go_roundw
                case measure => simp [intOf]; omega
                case rel => exact ⟨k + 1, (j : Int), rfl, by go_num, by omega, by have := HNX.out; rwa [if_neg (of_decide_eq_false HLT.out)] at this, HO2.out.drew⟩
              · go_wp2_with fail
                go_roundw
                case measure => simp [intOf]; omega
                case rel => exact ⟨k + 1, (k : Int), by go_num, by go_num, by omega, by have := HNX.out; rwa [if_pos (of_decide_eq_true HLT.out)] at this, HO2.out.drew⟩
        · have HNX := Lib.hid (HB.out.skip HXK.out HM.out)
          go_upto_region 6 with fail
          refine wp_region_hand (S := (fun Y => Y.cell? ⟨bb, off + k * 2, none⟩ = some (.string (str x.path)) ∧ Y.cell? ⟨bb, off + k * 2 + 1, none⟩ = some (.slice x.IA x.imps.length x.Ic))) (by kernel_rfl) ?_
          refine takeW (i := 0) rfl (by kernel_rfl) (by kernel_rfl) (by kernel_rfl) (fun _ _ _ h => h) rfl (by rfl) (v := .slice AO out.length cO) (fun Y hY => by obtain ⟨y0, y1⟩ := hY; go_simp) hS ?_
          simp only [List.setIfInBounds_toArray, List.set_cons_zero, List.set_cons_succ]
          refine takeW (i := 1) rfl (by kernel_rfl) (by kernel_rfl) (by kernel_rfl) (fun _ _ _ h => h) rfl (by rfl) (v := .slice (some ⟨bb, off, none⟩) m c) (fun Y hY => by obtain ⟨y0, y1⟩ := hY; go_simp) hS ?_
          simp only [List.setIfInBounds_toArray, List.set_cons_zero, List.set_cons_succ]
          refine takeW (i := 2) rfl (by kernel_rfl) (by kernel_rfl) (by kernel_rfl) (fun _ _ _ h => h) rfl (by rfl) (v := .int .i64 (k : Int)) (fun Y hY => by obtain ⟨y0, y1⟩ := hY; go_simp) hS ?_
          simp only [List.setIfInBounds_toArray, List.set_cons_zero, List.set_cons_succ]
          refine takeW (i := 3) rfl (by kernel_rfl) (by kernel_rfl) (by kernel_rfl) (fun _ _ _ h => h) rfl (by rfl) (v := .pointer (some ⟨bb, off + k * 2, none⟩)) (fun Y hY => by obtain ⟨y0, y1⟩ := hY; go_simp) hS ?_
          simp only [List.setIfInBounds_toArray, List.set_cons_zero, List.set_cons_succ]
          refine takeW (i := 4) rfl (by kernel_rfl) (by kernel_rfl) (by kernel_rfl) (fun _ _ _ h => h) rfl (by rfl) (v := .pointer (some ⟨bb, off + k * 2, none⟩)) (fun Y hY => by obtain ⟨y0, y1⟩ := hY; go_simp) hS ?_
          simp only [List.setIfInBounds_toArray, List.set_cons_zero, List.set_cons_succ]
          refine takeW (i := 5) rfl (by kernel_rfl) (by kernel_rfl) (by kernel_rfl) (fun _ _ _ h => h) rfl (by rfl) (v := .string (str x.path)) (fun Y hY => by obtain ⟨y0, y1⟩ := hY; go_simp) hS ?_
          simp only [List.setIfInBounds_toArray, List.set_cons_zero, List.set_cons_succ]
          refine callW (i := 6) rfl (by kernel_rfl) rfl (by rfl) ?_ (HICH.out) ?_
          · go_simp
          rintro x wn ⟨rfl, rfl⟩
          refine ⟨_, rfl, hS, ?_⟩
          simp only [List.setIfInBounds_toArray, List.set_cons_zero, List.set_cons_succ]
          refine takeW (i := 7) rfl (by kernel_rfl) (by kernel_rfl) (by kernel_rfl) (fun _ _ _ h => h) rfl (by rfl) (v := .bool false) (fun Y hY => by obtain ⟨y0, y1⟩ := hY; go_simp) hS ?_
          simp only [List.setIfInBounds_toArray, List.set_cons_zero, List.set_cons_succ]
          refine takeW (i := 8) rfl (by kernel_rfl) (by kernel_rfl) (by kernel_rfl) (fun _ _ _ h => h) rfl (by rfl) (v := .bool false) (fun Y hY => by obtain ⟨y0, y1⟩ := hY; go_simp) hS ?_
          simp only [List.setIfInBounds_toArray, List.set_cons_zero, List.set_cons_succ]
          refine passW (i := 9) rfl (by kernel_rfl) (by kernel_rfl) (by kernel_rfl) (fun _ _ _ h => h) rfl (by rfl) hS ?_
          simp only [List.setIfInBounds_toArray, List.set_cons_zero, List.set_cons_succ]
          refine passW (i := 10) rfl (by kernel_rfl) (by kernel_rfl) (by kernel_rfl) (fun _ _ _ h => h) rfl (by rfl) hS ?_
          simp only [List.setIfInBounds_toArray, List.set_cons_zero, List.set_cons_succ]
          refine passW (i := 11) rfl (by kernel_rfl) (by kernel_rfl) (by kernel_rfl) (fun _ _ _ h => h) rfl (by rfl) hS ?_
          simp only [List.setIfInBounds_toArray, List.set_cons_zero, List.set_cons_succ]
          refine passW (i := 12) rfl (by kernel_rfl) (by kernel_rfl) (by kernel_rfl) (fun _ _ _ h => h) rfl (by rfl) hS ?_
          simp only [List.setIfInBounds_toArray, List.set_cons_zero, List.set_cons_succ]
          refine passW (i := 13) rfl (by kernel_rfl) (by kernel_rfl) (by kernel_rfl) (fun _ _ _ h => h) rfl (by rfl) hS ?_
          simp only [List.setIfInBounds_toArray, List.set_cons_zero, List.set_cons_succ]
          refine passW (i := 14) rfl (by kernel_rfl) (by kernel_rfl) (by kernel_rfl) (fun _ _ _ h => h) rfl (by rfl) hS ?_
          simp only [List.setIfInBounds_toArray, List.set_cons_zero, List.set_cons_succ]
          refine passW (i := 15) rfl (by kernel_rfl) (by kernel_rfl) (by kernel_rfl) (fun _ _ _ h => h) rfl (by rfl) hS ?_
          simp only [List.setIfInBounds_toArray, List.set_cons_zero, List.set_cons_succ]
          refine takeW (i := 16) rfl (by kernel_rfl) (by kernel_rfl) (by kernel_rfl) (fun _ _ _ h => h) rfl (by rfl) (v := .bool false) (fun Y hY => by obtain ⟨y0, y1⟩ := hY; go_simp) hS ?_
          simp only [List.setIfInBounds_toArray, List.set_cons_zero, List.set_cons_succ]
          refine takeW (i := 17) rfl (by kernel_rfl) (by kernel_rfl) (by kernel_rfl) (fun _ _ _ h => h) rfl (by rfl) (v := .bool false) (fun Y hY => by obtain ⟨y0, y1⟩ := hY; go_simp) hS ?_
          simp only [List.setIfInBounds_toArray, List.set_cons_zero, List.set_cons_succ]
          refine passW (i := 18) rfl (by kernel_rfl) (by kernel_rfl) (by kernel_rfl) (fun _ _ _ h => h) rfl (by rfl) hS ?_
          simp only [List.setIfInBounds_toArray, List.set_cons_zero, List.set_cons_succ]
          refine passW (i := 19) rfl (by kernel_rfl) (by kernel_rfl) (by kernel_rfl) (fun _ _ _ h => h) rfl (by rfl) hS ?_
          simp only [List.setIfInBounds_toArray, List.set_cons_zero, List.set_cons_succ]
          refine passW (i := 20) rfl (by kernel_rfl) (by kernel_rfl) (by kernel_rfl) (fun _ _ _ h => h) rfl (by rfl) hS ?_
          simp only [List.setIfInBounds_toArray, List.set_cons_zero, List.set_cons_succ]
          refine passW (i := 21) rfl (by kernel_rfl) (by kernel_rfl) (by kernel_rfl) (fun _ _ _ h => h) rfl (by rfl) hS ?_
          simp only [List.setIfInBounds_toArray, List.set_cons_zero, List.set_cons_succ]
          refine passW (i := 22) rfl (by kernel_rfl) (by kernel_rfl) (by kernel_rfl) (fun _ _ _ h => h) rfl (by rfl) hS ?_
          simp only [List.setIfInBounds_toArray, List.set_cons_zero, List.set_cons_succ]
          refine passW (i := 23) rfl (by kernel_rfl) (by kernel_rfl) (by kernel_rfl) (fun _ _ _ h => h) rfl (by rfl) hS ?_
          simp only [List.setIfInBounds_toArray, List.set_cons_zero, List.set_cons_succ]
          refine passW (i := 24) rfl (by kernel_rfl) (by kernel_rfl) (by kernel_rfl) (fun _ _ _ h => h) rfl (by rfl) hS ?_
          simp only [List.setIfInBounds_toArray, List.set_cons_zero, List.set_cons_succ]
          refine passW (i := 25) rfl (by kernel_rfl) (by kernel_rfl) (by kernel_rfl) (fun _ _ _ h => h) rfl (by rfl) hS ?_
          simp only [List.setIfInBounds_toArray, List.set_cons_zero, List.set_cons_succ]
          refine passW (i := 26) rfl (by kernel_rfl) (by kernel_rfl) (by kernel_rfl) (fun _ _ _ h => h) rfl (by rfl) hS ?_
          simp only [List.setIfInBounds_toArray, List.set_cons_zero, List.set_cons_succ]
          refine passW (i := 27) rfl (by kernel_rfl) (by kernel_rfl) (by kernel_rfl) (fun _ _ _ h => h) rfl (by rfl) hS ?_
          simp only [List.setIfInBounds_toArray, List.set_cons_zero, List.set_cons_succ]
          refine passW (i := 28) rfl (by kernel_rfl) (by kernel_rfl) (by kernel_rfl) (fun _ _ _ h => h) rfl (by rfl) hS ?_
          simp only [List.setIfInBounds_toArray, List.set_cons_zero, List.set_cons_succ]
          refine passW (i := 29) rfl (by kernel_rfl) (by kernel_rfl) (by kernel_rfl) (fun _ _ _ h => h) rfl (by rfl) hS ?_
          simp only [List.setIfInBounds_toArray, List.set_cons_zero, List.set_cons_succ]
          refine passW (i := 30) rfl (by kernel_rfl) (by kernel_rfl) (by kernel_rfl) (fun _ _ _ h => h) rfl (by rfl) hS ?_
          simp only [List.setIfInBounds_toArray, List.set_cons_zero, List.set_cons_succ]
          refine passW (i := 31) rfl (by kernel_rfl) (by kernel_rfl) (by kernel_rfl) (fun _ _ _ h => h) rfl (by rfl) hS ?_
          simp only [List.setIfInBounds_toArray, List.set_cons_zero, List.set_cons_succ]
          refine passW (i := 32) rfl (by kernel_rfl) (by kernel_rfl) (by kernel_rfl) (fun _ _ _ h => h) rfl (by rfl) hS ?_
          simp only [List.setIfInBounds_toArray, List.set_cons_zero, List.set_cons_succ]
          refine takeW (i := 33) rfl (by kernel_rfl) (by kernel_rfl) (by kernel_rfl) (fun _ _ _ h => h) rfl (by rfl) (v := .bool false) (fun Y hY => by obtain ⟨y0, y1⟩ := hY; go_simp) hS ?_
          simp only [List.setIfInBounds_toArray, List.set_cons_zero, List.set_cons_succ]
          refine wpAnyH_done (by kernel_rfl) ?_ _
          go_wp2_with fail
          go_roundw
          case measure => simp [intOf]; omega
          case rel => exact ⟨k + 1, b, rfl, by go_num, by omega, HNX.out, HO2.out.drew⟩
      · obtain rfl : k = m := by omega
        have d1 : decide ((k : Int) < (k : Int)) = false := decide_eq_false (by omega)
        have hb := HB.out
        rcases hb.shape with rfl | ⟨j, rfl, hj⟩
        · have hn := Best.none_ (by rw [HL.out]; exact hb)
          have HF := Lib.hid (tk_none HT.out.2 hn)
          clear hn hb hoo
          go_wp2_with fail
          go_ret
          refine ⟨_, rfl, ?_, HOO.out⟩
          rw [HF.out]
          exact HV.out.only HO2.out (by simp)
        · obtain ⟨bb, off, rfl, _, y, _, hyj, g0, _⟩ := nd_at HR.out j hj
          have hn := Best.some_ (by rw [HL.out]; exact hb) hyj
          have HN := Lib.hid (tk_some HT.out.1 HT.out.2 hn)
          have q2 := hoo.cell g0 (by simp)
          unfold sv at q2
          have d2 : decide ((j : Int) < 0) = false := decide_eq_false (by omega)
          have HV2 := Lib.hid (HV.out.only HO2.out (by simp))
          have hol2 := HN.out.2.2
          rw [List.length_map, HL.out] at hol2
          have hsz := hoo.size
          clear hn hb hoo hyj g0
          go_wp2_with (at_builtin; refine wpList_append1 (w := wr) rfl (.tmp 50) (.tmp 56) 25 rfl Try.underlying25 str_inf rfl (by decide) rfl HV2.out rfl rfl (row := [sv y.path]) rfl rfl (by intro u hu; rw [List.mem_singleton.1 hu]; rfl) (by omega) (by unfold maxLen; omega) (by omega) ?_; intro v' w5 hE; obtain ⟨A5, c5, e5, _⟩ := hE.own.shape (by decide); subst e5; have HE := Lib.hid hE; clear hE)
          have HO5 := Lib.hid (HOO.out.trans HE.out.only (fun q hq => .inr (HV2.out.lt q hq).1))
          go_roundw
          case measure => simp [lenV]; omega
          case rel =>
            refine ⟨out ++ [y.path], ?_, HO5.out, HN.out.1, HN.out.2.1⟩
            have h := HE.out.own
            rw [List.length_append, List.length_singleton]
            simpa [svs] using h
end
end Go.Proofs.Ytdfiibnpckahnaa.Graph
