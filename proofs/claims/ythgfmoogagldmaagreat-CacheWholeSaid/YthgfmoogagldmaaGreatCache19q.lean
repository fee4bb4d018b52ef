/- CacheWhole, walked. PRINTED by wip/gen_cache19.py. -/
import Derived.Test.YthgfmoogagldmaaGreatRanges
import Derived.Test.YthgfmoogagldmaaGreatCacheG
import Derived.Deep.DeepCutAuto
import Derived.Deep.LoopGhost
import Derived.Deep.CutBlock
set_option linter.unusedVariables false
set_option maxRecDepth 100000
namespace Go.Proofs.YthgfmoogagldmaaGreat.Cache
open Go.RowKit Go.Maps Go.Shelf Journal Disk Codec
theorem i64_and (x y : Int) : bits .and .i64 x y ≤ 9223372036854775807 := by
  show IntKind.i64.wrap ((BitVec.ofInt 64 x &&& BitVec.ofInt 64 y).toNat : Nat) ≤ 9223372036854775807
  rw [IntKind.wrap_i64]
  omega
def CAt (w wr : World) (p g b cap k hb : Nat) (cv : Value) : Prop := ∃ q cq, cv = .pointer (some ⟨cq, 0, none⟩) ∧ CLoop w wr p g b q cap cq k hb
def CSw (w wx : World) (p g b q cap cq k hb : Nat) (e : Ent) (kv wv : Value) : Prop := ∃ way kk d js, kv = .string (str kk) ∧ wv = .bool way ∧ (way = true → kk = e.1) ∧ kk.length ≤ 500 ∧ CMid w wx p g b q cap cq k hb way e d js
theorem ent_at {w : World} {A : Option Addr} {B n : Nat} {L : List Ent} (hr : Recs w B 2 A n (L.map entRow)) (j : Nat) (hj : j < n) : ∃ b off a, A = some ⟨b, off, none⟩ ∧ a ∈ L ∧ w.cell? ⟨b, off + j * 2, none⟩ = some (.string (str a.1)) ∧ w.cell? ⟨b, off + j * 2 + 1, none⟩ = some (.string (str a.2)) := by
  obtain ⟨b, off, hA, hb, hc⟩ := hr.at_ (f := entRow) (([], []) : Ent) hj
  have hl : j < L.length := by have := hr.1; rw [List.length_map] at this; omega
  refine ⟨b, off, L.getD j ([], []), hA, ?_, ?_, ?_⟩
  · rw [List.getD_eq_getElem?_getD, List.getElem?_eq_getElem hl]; exact List.getElem_mem hl
  · have := hc 0 (by decide); rw [Nat.add_zero] at this; exact this
  · exact hc 1 (by decide)
theorem CLoop.drew {w wr : World} {p g b q cap cq k hb : Nat} (h : CLoop w wr p g b q cap cq k hb) : CLoop w wr.drew p g b q cap cq k hb := by
  obtain ⟨d, gs, x, U, W, f, n, hC, hR, hoff, hG, hdn, hn, hM, ho⟩ := h
  have h0 : Only [] wr wr.drew := (Only.refl [] wr).drew
  exact ⟨d, gs, x, U, W, f, n, hC.only0 h0, hR, hoff, hG, hdn, hn, hM.only0 h0, ho.drew⟩
def GetR (x : XS) (k : List UInt8) (v o : Value) : Prop := ∃ vv ok, v = .string (str vv) ∧ o = .bool ok ∧ (ok = true → ∃ a, findX x k = some a ∧ a.2.2 = vv) ∧ (ok = false → findX x k = none)
section
variable {w w' : World}
set_option maxHeartbeats 16000000 in
theorem whole7_any (A : Option Addr) (m c : Nat) (as_ : List CA) (w : World) (hr : Recs w w.heap.size 5 A m (as_.map CA.row)) (hin : ∀ a ∈ as_, a.in_ w) :
    Calls Tryz.prog 9 #[.slice A m c] w fun x w' => x = .returned (.bool true) ∧ Only [] w w' := by
  have HLI := Lib.hid (light7_any A m c as_ w hr)
  have HIN := Lib.hid hin
  have HR := Lib.hid hr
  have HK := Lib.hid (fun w => knows7_any w)
  have HM := Lib.hid (fun z w => num7_any z w)
  have HN := Lib.hid (fun w => (show Calls Tryz.prog 12 #[.int .i64 4000] w fun x w' => NewO w 4000 x w' from new_any 4000 (by decide) (by decide) w))
  have hmm := @run_makeMap Tryz.prog
  clear hr hin
  go_enter Tryz.func9, Tryz.ntmps9
  go_wp2_with fail
  refine HLI.out.mono ?_
  rintro x w1 ⟨⟨bl, rfl, hlit⟩, hw1⟩
  have hw1 := hw1.symm
  subst hw1
  cases bl
  · clear hlit
    go_wp2_with (go_at_call 36; refine (HK.out _).mono ?_; rintro x w2 ⟨rfl, ho2⟩)
    go_ret
    exact ⟨rfl, ho2⟩
  have HLIT := Lib.hid (hlit rfl)
  clear hlit HLI
  go_wp2_with (first
    | (go_at_call 36; refine (HK.out w).mono ?_; rintro x w2 ⟨rfl, ho2⟩; have HO2 := Lib.hid ho2; clear ho2)
    | (go_at_call 12; refine (HN.out w2).mono ?_; rintro x w3 ⟨p, g, b, cap, rfl, hd3, hp, hg, hb, ho3⟩; have hsz2 := HO2.out.size; have HOP := Lib.hid (cloop_start (w := w) hd3 (by omega) (HO2.out.trans ho3 (by simp))); clear hd3 hp hg hb ho3 hsz2)
    | (go_at_call 48; refine HOP.out.mono ?_; rintro x w4 ⟨q0, cq0, rfl, hL⟩; have HL := Lib.hid hL; clear hL)
    | (go_at_call 42; refine (HM.out _ _).mono ?_; rintro x wn ⟨rfl, hwn⟩; have hwn := hwn.symm; subst hwn))
  clear HOP
  generalize hhb : w4.heap.size = hb at *
  go_loopg [5, 8] m (fun gk cv i wr => ∃ k : Nat, k + gk = m ∧ i = .int .i64 k ∧ CAt w wr p g b cap k hb cv)
  case atStart => exact ⟨0, by omega, rfl, q0, cq0, rfl, HL.out⟩
  case round =>
    obtain ⟨k, hk, rfl, q, cq, rfl, hL⟩ := hrel
    clear HL
    by_cases hlt : k < m
    · have d1 : decide ((k : Int) < (m : Int)) = true := decide_eq_true (by omega)
      obtain ⟨bb, off, hA, hbb, x, hx, _, c0, c1', c2, c3, c4⟩ := ca_at HR.out k hlt
      subst hA
      have HIX := Lib.hid (HIN.out x hx)
      have HLX := Lib.hid (HLIT.out.2 x hx)
      have hm50 := HLIT.out.1
      have hk50 : k < 50 := by omega
      have HC := Lib.hid (And.intro c0 (And.intro c1' (And.intro c2 (And.intro c3 c4))))
      have hO := hL.out
      have y0 := hO.cell c0 (by simp)
      have y1 := hO.cell c1' (by simp)
      have y2 := hO.cell c2 (by simp)
      have y3 := hO.cell c3 (by simp)
      have y4 := hO.cell c4 (by simp)
      have HO := Lib.hid hO
      have HL := Lib.hid hL
      clear c0 c1' c2 c3 c4 hO hL hx
      obtain ⟨kind, an, ek, evl, FA, Fc, fts⟩ := x
      simp only at y0 y1 y2 y3 y4 HC
      have hek : ek.length ≤ 500 := HLX.out.1
      have hev : evl.length ≤ 1000 := HLX.out.2.1
      obtain ⟨nf, hnf⟩ : ∃ nf, fts.length = nf := ⟨_, rfl⟩
      have HNF := Lib.hid hnf
      rw [hnf] at y4 HC
      clear hnf
      go_upto_block 2 with fail
      go_cut [9, 10] (fun kv wv wx => CSw w wx p g b q cap cq k hb (ek, evl) kv wv)
      case first =>
        go_upto_if 52 with fail
        go_cut [52] (fun s wx => s = .bool (kind == 0 || kind == 1) ∧ wx = wr)
        case first =>
          by_cases k0 : kind = 0
          · subst k0
            go_wp2_with fail
            go_meet
            exact ⟨rfl, rfl⟩
          · have e0 : (kind == 0) = false := beq_eq_false_iff_ne.2 k0
            go_wp2_with fail
            go_meet
            exact ⟨by rw [e0]; rfl, rfl⟩
        case rest =>
          obtain ⟨rfl, hw⟩ := hcut
          subst hw
          by_cases k01 : kind = 0 ∨ kind = 1
          · have e01 : (kind == 0 || kind == 1) = true := by rcases k01 with rfl | rfl <;> rfl
            rw [e01]
            clear k01
            have HPUT := Lib.hid (HL.out.drew.put hk50 (ek, evl) hek hev)
            go_upto_region 15 with fail
            have hS : wc.drew.cell? ⟨bb, off + k * 5 + 2, none⟩ = some (.string (str ek)) ∧ wc.drew.cell? ⟨bb, off + k * 5 + 3, none⟩ = some (.string (str evl)) := ⟨y2, y3⟩
            refine wp_region_hand (S := (fun Y => Y.cell? ⟨bb, off + k * 5 + 2, none⟩ = some (.string (str ek)) ∧ Y.cell? ⟨bb, off + k * 5 + 3, none⟩ = some (.string (str evl)))) (by kernel_rfl) ?_
            refine takeV 0 (.pointer (some ⟨cq, 0, none⟩)) rfl rfl (by kernel_rfl) (fun Y hY => by obtain ⟨y0, y1⟩ := hY; go_simp) hS ?_; simp only [s0A, s0B, s0C]
            refine takeV 1 (.slice (some ⟨bb, off, none⟩) m c) rfl rfl (by kernel_rfl) (fun Y hY => by obtain ⟨y0, y1⟩ := hY; go_simp) hS ?_; simp only [s0A, s0B, s0C]
            refine takeV 2 (.int .i64 (k : Int)) rfl rfl (by kernel_rfl) (fun Y hY => by obtain ⟨y0, y1⟩ := hY; go_simp) hS ?_; simp only [s0A, s0B, s0C]
            refine takeV 3 (.pointer (some ⟨bb, off + k * 5, none⟩)) rfl rfl (by kernel_rfl) (fun Y hY => by obtain ⟨y0, y1⟩ := hY; go_simp) hS ?_; simp only [s0A, s0B, s0C]
            refine takeV 4 (.pointer (some ⟨bb, off + k * 5 + 2, none⟩)) rfl rfl (by kernel_rfl) (fun Y hY => by obtain ⟨y0, y1⟩ := hY; go_simp) hS ?_; simp only [s0A, s0B, s0C]
            refine takeV 5 (.string (str ek)) rfl rfl (by kernel_rfl) (fun Y hY => by obtain ⟨y0, y1⟩ := hY; go_simp) hS ?_; simp only [s0A, s0B, s0C]
            refine takeV 6 (.slice (some ⟨bb, off, none⟩) m c) rfl rfl (by kernel_rfl) (fun Y hY => by obtain ⟨y0, y1⟩ := hY; go_simp) hS ?_; simp only [s0A, s0B, s0C]
            refine takeV 7 (.int .i64 (k : Int)) rfl rfl (by kernel_rfl) (fun Y hY => by obtain ⟨y0, y1⟩ := hY; go_simp) hS ?_; simp only [s0A, s0B, s0C]
            refine takeV 8 (.pointer (some ⟨bb, off + k * 5, none⟩)) rfl rfl (by kernel_rfl) (fun Y hY => by obtain ⟨y0, y1⟩ := hY; go_simp) hS ?_; simp only [s0A, s0B, s0C]
            refine takeV 9 (.pointer (some ⟨bb, off + k * 5 + 3, none⟩)) rfl rfl (by kernel_rfl) (fun Y hY => by obtain ⟨y0, y1⟩ := hY; go_simp) hS ?_; simp only [s0A, s0B, s0C]
            refine takeV 10 (.string (str evl)) rfl rfl (by kernel_rfl) (fun Y hY => by obtain ⟨y0, y1⟩ := hY; go_simp) hS ?_; simp only [s0A, s0B, s0C]
            refine callW (i := 11) rfl (by kernel_rfl) rfl (by rfl) ?_ (HPUT.out) ?_
            · go_simp
            rintro y w5 ⟨r, rfl, ho5, hres⟩
            have HRES := Lib.hid hres
            have hS5 : w5.cell? ⟨bb, off + k * 5 + 2, none⟩ = some (.string (str ek)) ∧ w5.cell? ⟨bb, off + k * 5 + 3, none⟩ = some (.string (str evl)) := ⟨ho5.cell HC.out.2.2.1 (by simp), ho5.cell HC.out.2.2.2.1 (by simp)⟩
            clear hres hS HPUT
            refine ⟨_, rfl, hS5, ?_⟩
            simp only [s0A, s0B, s0C]
            refine callW (i := 12) rfl (by kernel_rfl) rfl (by rfl) ?_ (HM.out r w5) ?_
            · go_simp
            rintro y wn ⟨rfl, hwn⟩
            have hwn := hwn.symm
            subst hwn
            refine ⟨_, rfl, hS5, ?_⟩
            simp only [s0A, s0B, s0C]
            refine takeV 13 (.int .i64 r) rfl rfl (by kernel_rfl) (fun Y hY => by obtain ⟨y0, y1⟩ := hY; go_simp) hS5 ?_; simp only [s0A, s0B, s0C]
            refine wpAnyH_done (by kernel_rfl) ?_ _
            clear hS5 y0 y1 y2 y3 y4 HL HO
            have z2 := ho5.cell HC.out.2.2.1 (by simp)
            have z3 := ho5.cell HC.out.2.2.2.1 (by simp)
            rcases HRES.out with ⟨rfl, hP⟩ | ⟨rfl, d5, js5, hM5⟩
            · as_aux_lemma =>
                obtain ⟨mn, mf, hvm, hmn, _, hnx⟩ := hP
                have HVM := Lib.hid hvm
                have HNX := Lib.hid hnx
                clear hvm hnx HRES
                go_upto_region 19 with (go_at_call 42; refine (HM.out _ _).mono ?_; rintro x wn ⟨rfl, hwn⟩; have hwn := hwn.symm; subst hwn)
                have hS7 : w5.drew.cell? ⟨bb, off + k * 5 + 2, none⟩ = some (.string (str ek)) ∧ w5.drew.cell? ⟨bb, off + k * 5 + 3, none⟩ = some (.string (str evl)) := ⟨z2, z3⟩
                refine wp_region_hand (S := (fun Y => Y.cell? ⟨bb, off + k * 5 + 2, none⟩ = some (.string (str ek)) ∧ Y.cell? ⟨bb, off + k * 5 + 3, none⟩ = some (.string (str evl)))) (by kernel_rfl) ?_
                refine takeV 0 (.map (some hb)) rfl rfl (by kernel_rfl) (fun Y hY => by obtain ⟨y0, y1⟩ := hY; go_simp) hS7 ?_; simp only [s0A, s0B, s0C]
                refine takeV 1 (.slice (some ⟨bb, off, none⟩) m c) rfl rfl (by kernel_rfl) (fun Y hY => by obtain ⟨y0, y1⟩ := hY; go_simp) hS7 ?_; simp only [s0A, s0B, s0C]
                refine takeV 2 (.int .i64 (k : Int)) rfl rfl (by kernel_rfl) (fun Y hY => by obtain ⟨y0, y1⟩ := hY; go_simp) hS7 ?_; simp only [s0A, s0B, s0C]
                refine takeV 3 (.pointer (some ⟨bb, off + k * 5, none⟩)) rfl rfl (by kernel_rfl) (fun Y hY => by obtain ⟨y0, y1⟩ := hY; go_simp) hS7 ?_; simp only [s0A, s0B, s0C]
                refine takeV 4 (.pointer (some ⟨bb, off + k * 5 + 2, none⟩)) rfl rfl (by kernel_rfl) (fun Y hY => by obtain ⟨y0, y1⟩ := hY; go_simp) hS7 ?_; simp only [s0A, s0B, s0C]
                refine takeV 5 (.string (str ek)) rfl rfl (by kernel_rfl) (fun Y hY => by obtain ⟨y0, y1⟩ := hY; go_simp) hS7 ?_; simp only [s0A, s0B, s0C]
                refine takeV 6 (.slice (some ⟨bb, off, none⟩) m c) rfl rfl (by kernel_rfl) (fun Y hY => by obtain ⟨y0, y1⟩ := hY; go_simp) hS7 ?_; simp only [s0A, s0B, s0C]
                refine takeV 7 (.int .i64 (k : Int)) rfl rfl (by kernel_rfl) (fun Y hY => by obtain ⟨y0, y1⟩ := hY; go_simp) hS7 ?_; simp only [s0A, s0B, s0C]
                refine takeV 8 (.pointer (some ⟨bb, off + k * 5, none⟩)) rfl rfl (by kernel_rfl) (fun Y hY => by obtain ⟨y0, y1⟩ := hY; go_simp) hS7 ?_; simp only [s0A, s0B, s0C]
                refine takeV 9 (.pointer (some ⟨bb, off + k * 5 + 3, none⟩)) rfl rfl (by kernel_rfl) (fun Y hY => by obtain ⟨y0, y1⟩ := hY; go_simp) hS7 ?_; simp only [s0A, s0B, s0C]
                refine takeV 10 (.string (str evl)) rfl rfl (by kernel_rfl) (fun Y hY => by obtain ⟨y0, y1⟩ := hY; go_simp) hS7 ?_; simp only [s0A, s0B, s0C]
                refine oneN (i := 11) rfl (by kernel_rfl) rfl rfl (fun K hK => ?_)
                refine step_put (f := mf) (n := mn) rfl (.tmp 78) (.tmp 83) (.tmp 88) 104 rfl 9 9 lawS7 Tryz.underlying104 rfl HVM.out.drew (by unfold maxLen; omega) rfl rfl (keyS7 (k := ek) (by unfold maxLen; omega)) ?_
                intro w6 hv6 ho6
                obtain ⟨d6, js6, hm6⟩ := HNX.out w6 hv6 ((Only.refl [hb] w5).drew.trans ho6 (fun _ h => .inl h))
                have HM6 := Lib.hid hm6
                refine hK _ _ ⟨hm6.out.cell HC.out.2.2.1 (by simp), hm6.out.cell HC.out.2.2.2.1 (by simp)⟩ ?_
                clear hK K hS7 hv6 ho6 hm6
                try simp only [s0A, s0B, s0C]
                refine wpAnyH_done (by kernel_rfl) ?_ _
                go_wp2_with fail
                go_meet
                exact ⟨false, [], d6, js6, rfl, rfl, (fun h => by cases h), by decide, HM6.out⟩
            · as_aux_lemma =>
                have HM5 := Lib.hid hM5
                clear hM5 HRES
                go_wp2_with (go_at_call 42; refine (HM.out _ _).mono ?_; rintro x wn ⟨rfl, hwn⟩; have hwn := hwn.symm; subst hwn)
                go_meet
                exact ⟨true, ek, d5, js5, rfl, rfl, fun _ => rfl, hek, HM5.out⟩
          · have e01 : (kind == 0 || kind == 1) = false := by
              by_cases k0 : kind = 0
              · exact absurd (.inl k0) k01
              · by_cases k1 : kind = 1
                · exact absurd (.inr k1) k01
                · rw [beq_eq_false_iff_ne.2 k0, beq_eq_false_iff_ne.2 k1]; rfl
            rw [e01]
            clear k01
            by_cases k3 : kind = 3
            · as_aux_lemma =>
                subst k3
                have HST := Lib.hid (HL.out.stop (bits .and .i64 an 15) (i64_and _ _) (ek, evl))
                go_wp2_with fail
                refine HST.out.mono ?_
                rintro x w5 ⟨rfl, d5, js5, hM5⟩
                have HM5 := Lib.hid hM5
                clear hM5
                go_wp2_with fail
                go_meet
                exact ⟨false, [], d5, js5, rfl, rfl, (fun h => by cases h), by decide, HM5.out⟩
            · as_aux_lemma =>
                have e3 : (kind == 3) = false := beq_eq_false_iff_ne.2 k3
                obtain ⟨d5, js5, hM5⟩ := HL.out.mid (ek, evl)
                have HM5 := Lib.hid hM5
                clear hM5
                go_wp2_with fail
                go_meet
                exact ⟨false, [], d5, js5, rfl, rfl, (fun h => by cases h), by decide, HM5.out⟩
      case rest =>
        clear HL HO y0 y1 y2 y3 y4
        obtain ⟨way, kk, d, js, rfl, rfl, hwk, hkk, hM⟩ := hcut
        have HMD := Lib.hid hM
        have HWK := Lib.hid hwk
        have hO := hM.out
        have z0 := hO.cell HC.out.1 (by simp)
        have z3 := hO.cell HC.out.2.2.2.1 (by simp)
        have z4 := hO.cell HC.out.2.2.2.2 (by simp)
        have HJ := Lib.hid hM.jdown
        have HD := Lib.hid hM.ddown
        obtain ⟨jo, hjo⟩ : ∃ jo, js.off = jo := ⟨_, rfl⟩
        obtain ⟨dd, hdd⟩ : ∃ dd, d.off = dd := ⟨_, rfl⟩
        rw [hjo] at HJ
        rw [hdd] at HD
        have HJO := Lib.hid hjo
        have HDO := Lib.hid hdd
        clear hM hO hjo hdd hwk
        go_upto_region 23 with fail
        go_cut [114] (fun s wx => wx = wc ∧ ∃ BB, s = .bool BB ∧ (BB = true → jo = false ∧ dd = false))
        case first =>
          as_aux_lemma =>
            cases jo
            · cases dd
              · go_upto_if 114 with (first
                  | (go_at_call 47; refine HJ.out.mono ?_; rintro x wn ⟨rfl, hwn⟩; have hwn := hwn.symm; subst hwn)
                  | (go_at_call 20; refine HD.out.mono ?_; rintro x wn ⟨rfl, hwn⟩; have hwn := hwn.symm; subst hwn))
                go_meet
                exact ⟨by first | rfl | trivial, _, rfl, fun _ => ⟨by first | rfl | trivial, by first | rfl | trivial⟩⟩
              · go_upto_if 114 with (first
                  | (go_at_call 47; refine HJ.out.mono ?_; rintro x wn ⟨rfl, hwn⟩; have hwn := hwn.symm; subst hwn)
                  | (go_at_call 20; refine HD.out.mono ?_; rintro x wn ⟨rfl, hwn⟩; have hwn := hwn.symm; subst hwn))
                go_meet
                exact ⟨rfl, false, rfl, fun h => by cases h⟩
            · go_upto_if 114 with (go_at_call 47; refine HJ.out.mono ?_; rintro x wn ⟨rfl, hwn⟩; have hwn := hwn.symm; subst hwn)
              go_meet
              exact ⟨rfl, false, rfl, fun h => by cases h⟩
        case rest =>
          obtain ⟨hw, BB, rfl, hB⟩ := hcut
          subst hw
          cases BB
          · clear HJ HD hB
            have HCR := Lib.hid (HMD.out.crash hek hev FA Fc fts HIX.out (by have := HLX.out.2.2; simp only at this; omega))
            rw [HNF.out] at HCR
            clear HMD
            go_wp2_with fail
            refine HCR.out.mono ?_
            rintro x w5 ⟨rfl, hC5⟩
            have HOP := Lib.hid (hC5.open_ hk50)
            clear hC5 HCR
            go_wp2_with fail
            refine HOP.out.mono ?_
            rintro x w6 ⟨q2, cq2, x2, rfl, hP6⟩
            have HP6 := Lib.hid hP6
            have u3 := hP6.out.cell HC.out.2.2.2.1 (by simp)
            clear hP6 HOP z0 z3 z4
            go_upto_region 29 with (go_at_call 42; refine (HM.out _ _).mono ?_; rintro x wn ⟨rfl, hwn⟩; have hwn := hwn.symm; subst hwn)
            go_cut [14, 15] (fun v o wx => COp w wx p g b q2 cap cq2 k hb way (ek, evl) x2 ∧ GetR x2 kk v o)
            case first =>
              as_aux_lemma =>
                have HG := Lib.hid (HP6.out.get kk hkk)
                obtain ⟨z, hz⟩ : ∃ z, findX x2 kk = z := ⟨_, rfl⟩
                rw [hz] at HG
                have HZ := Lib.hid hz
                clear hz
                cases z with
                | none =>
                  have HG2 : Hid (Calls Tryz.prog 41 #[.pointer (some ⟨cq2, 0, none⟩), .string (str kk)] w6 fun y w' => y = .returned (.tuple #[.string ⟨#[]⟩, .bool false]) ∧ COp w w' p g b q2 cap cq2 k hb way (ek, evl) x2) := Lib.hid HG.out
                  clear HG
                  have HGR : Hid (GetR x2 kk (.string ⟨#[]⟩) (.bool false)) := Lib.hid ⟨[], false, rfl, rfl, (fun h => by cases h), fun _ => HZ.out⟩
                  go_wp2_with (go_at_call 41; refine HG2.out.mono ?_; rintro x w7 ⟨rfl, hP7⟩; have HP7 := Lib.hid hP7; clear hP7)
                  go_meet
                  exact ⟨HP7.out, HGR.out⟩
                | some a =>
                  obtain ⟨an2, ak, av⟩ := a
                  have HG2 : Hid (Calls Tryz.prog 41 #[.pointer (some ⟨cq2, 0, none⟩), .string (str kk)] w6 fun y w' => y = .returned (.tuple #[.string (str av), .bool true]) ∧ COp w w' p g b q2 cap cq2 k hb way (ek, evl) x2) := Lib.hid HG.out
                  clear HG
                  have HGR : Hid (GetR x2 kk (.string (str av)) (.bool true)) := Lib.hid ⟨av, true, rfl, rfl, (fun _ => ⟨_, HZ.out, rfl⟩), fun h => by cases h⟩
                  go_wp2_with (go_at_call 41; refine HG2.out.mono ?_; rintro x w7 ⟨rfl, hP7⟩; have HP7 := Lib.hid hP7; clear hP7)
                  go_meet
                  exact ⟨HP7.out, HGR.out⟩
            case rest =>
              obtain ⟨hP7, vv, ok, rfl, rfl, hok1, hok2⟩ := hcut
              have HP7 := Lib.hid hP7
              have HOK1 := Lib.hid hok1
              have HOK2 := Lib.hid hok2
              have u7 := hP7.out.cell HC.out.2.2.2.1 (by simp)
              clear hP7 hok1 hok2 HP6 u3
              go_upto_region 30 with fail
              go_cut [149] (fun s wx => wx = wc ∧ ∃ B, s = .bool B ∧ (B = true → way = true ∧ ok = true ∧ vv = evl) ∧ (B = false → ¬ (way = true ∧ ok = true ∧ vv = evl)))
              case first =>
                as_aux_lemma =>
                  clear HWK
                  cases way
                  · go_wp2_with fail
                    go_meet
                    exact ⟨by first | rfl | trivial, false, rfl, (fun h => by cases h), fun _ h => by cases h.1⟩
                  · cases ok
                    · go_wp2_with fail
                      go_meet
                      exact ⟨by first | rfl | trivial, false, rfl, (fun h => by cases h), fun _ h => by cases h.2.1⟩
                    · by_cases hav : vv = evl
                      · have e5 : ((str vv).toList == (str evl).toList) = true := by rw [str_beq]; exact decide_eq_true hav
                        have HAV := Lib.hid hav
                        clear hav
                        go_wp2_with fail
                        go_meet
                        exact ⟨by first | rfl | trivial, true, rfl, (fun _ => ⟨by first | rfl | trivial, by first | rfl | trivial, HAV.out⟩), fun h => by cases h⟩
                      · have e5 : ((str vv).toList == (str evl).toList) = false := by rw [str_beq]; exact decide_eq_false hav
                        have HAV := Lib.hid hav
                        clear hav
                        go_wp2_with fail
                        go_meet
                        exact ⟨by first | rfl | trivial, false, rfl, (fun h => by cases h), fun _ h => HAV.out h.2.2⟩
              case rest =>
                obtain ⟨hw, B, rfl, hB1, hB2⟩ := hcut
                subst hw
                have HB1 := Lib.hid hB1
                have HB2 := Lib.hid hB2
                clear hB1 hB2 u7
                go_upto_if 149 with fail
                go_cut [15] (fun s wx => CFin w wx p g b q2 cap cq2 k hb x2)
                case first =>
                  as_aux_lemma =>
                    cases B
                    · have HF7 := Lib.hid (HP7.out.keep (fun ⟨a, h1, h2, h3⟩ => by
                        have hke : kk = ek := HWK.out h1
                        cases ok
                        · have := HOK2.out rfl
                          rw [← hke] at h2
                          rw [this] at h2
                          cases h2
                        · obtain ⟨a2, h4, h5⟩ := HOK1.out rfl
                          have h2' : findX x2 kk = some a := by rw [hke]; exact h2
                          rw [h4] at h2'
                          injection h2' with h2'
                          subst h2'
                          exact HB2.out rfl ⟨h1, rfl, by rw [← h5]; exact h3⟩))
                      go_wp2_with fail
                      go_meet
                      exact HF7.out
                    · obtain ⟨h1, h2, h3⟩ := HB1.out rfl
                      have hke : kk = ek := HWK.out h1
                      obtain ⟨a2, h4, h5⟩ := HOK1.out h2
                      obtain ⟨mn, mf, hvm, hmn, hnx⟩ := HP7.out.put ⟨a2, h1, by rw [← hke]; exact h4, by rw [h5]; exact h3⟩
                      have HVM := Lib.hid hvm
                      have HNX := Lib.hid hnx
                      subst hke
                      subst h3
                      clear h1 h2 h4 h5 hvm hnx
                      go_wp2_with (at_mapUpdate; refine wpList_put rfl (.tmp 150) (.tmp 151) (.tmp 152) 104 rfl 9 9 lawS7 Tryz.underlying104 rfl HVM.out (by unfold maxLen; omega) rfl rfl (keyS7 (k := kk) (by unfold maxLen; omega)) ?_; intro w8 hv8 ho8; have HF8 := Lib.hid (HNX.out w8 hv8 ho8); clear hv8 ho8)
                      go_meet
                      exact HF8.out
                case rest =>
                  as_aux_lemma =>
                    have HF := Lib.hid hcut
                    clear hcut HP7
                    go_wp2_with fail
                    refine (HF.out.entries).mono ?_
                    rintro x w8 ⟨A8, c8, rfl, hr8, hF8⟩
                    have HR8 := Lib.hid hr8
                    have HF8 := Lib.hid hF8
                    have hfew := hF8.few
                    obtain ⟨nL, hnL⟩ : ∃ nL, x2.L.length = nL := ⟨_, rfl⟩
                    have HNL := Lib.hid hnL
                    rw [hnL] at HR8 hfew ⊢
                    clear hr8 hF8 HF hnL
                    go_wp2_with fail
                    go_loopw [17] (fun i wr2 => ∃ t : Nat, t ≤ nL ∧ i = .int .i64 t ∧ wr2 = w8) (fun i _ => nL - (intOf i).toNat)
                    case atStart => exact ⟨0, by omega, rfl, rfl⟩
                    case round =>
                      obtain ⟨t, ht, rfl, hw8⟩ := hrel
                      subst hw8
                      by_cases hb2 : t < nL
                      · as_aux_lemma =>
                          have f1 : decide ((t : Int) < (nL : Int)) = true := decide_eq_true (by omega)
                          have f1' : decide (t < nL) = true := decide_eq_true hb2
                          obtain ⟨b2, o2, a, rfl, haL, x0, x1⟩ := ent_at HR8.out t hb2
                          obtain ⟨ak, av⟩ := a
                          have hlk := HF8.out.look haL (HF8.out.key haL)
                          have e5 : ((str av).toList == (str av).toList) = true := by simp
                          go_wp2_with fail
                          go_roundw
                          case measure => simp [intOf]; omega
                          case rel => exact ⟨t + 1, by omega, by go_num, trivial⟩
                      · as_aux_lemma =>
                          obtain rfl : t = nL := by omega
                          have f1 : decide ((t : Int) < (t : Int)) = false := decide_eq_false (by omega)
                          have hln := fun ty => HF8.out.len ty
                          rw [HNL.out] at hln
                          have HLP := Lib.hid HF8.out.loop
                          go_wp2_with (at_len; refine wpList_lenX rfl (.tmp 184) 104 rfl rfl (hln _) ?_)
                          go_roundg (gk - 1)
                          case measure => omega
                          case rel => exact ⟨k + 1, by omega, by go_num, q2, cq2, rfl, HLP.out⟩
          · as_aux_lemma =>
              obtain ⟨rfl, rfl⟩ := hB rfl
              have HLN := Lib.hid (HMD.out.on HJO.out HDO.out)
              clear hB HMD HJ HD
              go_wp2_with fail
              go_roundg (gk - 1)
              case measure => omega
              case rel => exact ⟨k + 1, by omega, by go_num, q, cq, rfl, HLN.out⟩
    · obtain rfl : k = m := by omega
      have d1 : decide ((k : Int) < (k : Int)) = false := decide_eq_false (by omega)
      have HO := Lib.hid hL.out
      have HE := Lib.hid hL.evicted
      clear hL
      go_wp2_with (go_at_call 45; refine HE.out.mono ?_; rintro x wn ⟨rfl, hwn⟩; have hwn := hwn.symm; subst hwn)
      go_ret
      exact ⟨rfl, HO.out⟩
end
end Go.Proofs.YthgfmoogagldmaaGreat.Cache
