/- The document's put. PRINTED by wip/gen_gput.py. -/
import Derived.Test.YtdfiibnpckahnaaGNext
import Derived.Test.YtdfiibnpckahnaaRegHand
import Derived.Test.YtdfiibnpckahnaaRegOne
namespace Go.Proofs.Ytdfiibnpckahnaa.Graph
open Go.RowKit Go.Shelf Go.Maps
set_option linter.unusedVariables false
set_option maxRecDepth 100000
theorem sizeStr (w : World) : (Go.sizeOf 9).run Try.prog w = .ok 1 w := by kernel_rfl
theorem tail_run (A : Option Addr) (n c k : Nat) (hk : k ≤ n) (Y : World) : (Instr.slice 25 (.slice A n c) (some (.int .i64 (k : Int))) none none).run Try.prog Y = .ok (.slice (if c = k then A else A.map (·.add (k * 1))) (n - k) (c - k)) Y := by
  have ht : Try.prog.underlying 25 = some (.slice (Try.prog.elem 25)) := by simp [Program.elem, Try.underlying25]
  have he : Try.prog.elem 25 = 9 := by simp [Program.elem, Try.underlying25]
  rw [run_slice_l Y 25 _ _ _ ht .i64 _ (by omega) (by omega), he, sizeStr]
  simp [Result.andThen, sliced]
theorem head_run (A : Option Addr) (n c k : Nat) (hk : k ≤ c) (Y : World) : (Instr.slice 25 (.slice A n c) none (some (.int .i64 (k : Int))) none).run Try.prog Y = .ok (.slice A k c) Y := by
  have ht : Try.prog.underlying 25 = some (.slice (Try.prog.elem 25)) := by simp [Program.elem, Try.underlying25]
  have he : Try.prog.elem 25 = 9 := by simp [Program.elem, Try.underlying25]
  rw [run_slice_h Y 25 _ _ _ ht .i64 _ (by omega) (by omega), he, sizeStr]
  cases A with
  | none => simp [Result.andThen, sliced]
  | some a => by_cases e : c = 0 <;> simp [Result.andThen, sliced, Addr.add, e]
theorem recs_reads {w : World} {B n : Nat} {A : Option Addr} {l : List Path} (h : Recs w B 1 A n (svs l)) : Reads w B 1 A n (l.map sv) := by
  have := h.reads (by decide) (by intro r hr; unfold svs at hr; obtain ⟨x, _, rfl⟩ := List.mem_map.1 hr; rfl)
  rwa [svs_flat] at this
theorem recs_len {w : World} {B n : Nat} {A : Option Addr} {l : List Path} (h : Recs w B 1 A n (svs l)) : l.length = n := by have := h.1; simpa [svs] using this
theorem recs_tail {w : World} {B n : Nat} {A : Option Addr} {l : List Path} (h : Recs w B 1 A n (svs l)) {k c : Nat} (hk : k ≤ n) (hc : n ≤ c) : Recs w B 1 (if c = k then A else A.map (·.add (k * 1))) (n - k) (svs (l.drop k)) := by
  have h1 := (recs_reads h).cut hk hc
  refine reads_svs (by rw [List.length_drop, recs_len h]) ?_
  rw [List.map_drop]
  simpa using h1
theorem recs_head {w : World} {B n : Nat} {A : Option Addr} {l : List Path} (h : Recs w B 1 A n (svs l)) {k : Nat} (hk : k ≤ n) : Recs w B 1 A k (svs (l.take k)) := by
  have h1 := (recs_reads h).head hk
  refine reads_svs (by rw [List.length_take, recs_len h]; omega) ?_
  rw [List.map_take]
  simpa using h1
theorem row_empty {e size : Nat} (w : World) : OwnR e size (w.alloc (.cells #[] e)) w.heap.size (.slice (some ⟨w.heap.size, 0, none⟩) 0 0) 0 [] := by
  refine ⟨rfl, by simp, ⟨by simp, .inr ⟨w.heap.size, 0, #[], rfl, Nat.le_refl _, ?_, Nat.le_refl _, by simp [maxLen], by simp, by simp⟩⟩⟩
  exact heap_alloc_new w _
/-- a list that grows, made since w5 -/
def MSt (w5 w1 : World) (v : Value) (n : Nat) (rows : List (List Value)) : Prop := Only [] w5 w1 ∧ OwnR 9 1 w1 w5.heap.size v n rows
section
variable {w5 w1 w2 : World} {v v' : Value} {n n' : Nat} {rows rows' : List (List Value)}
theorem MSt.ext (h : MSt w5 w1 v n rows) (hE : ExtR 9 1 w1 w2 w5.heap.size v v' n' rows') : MSt w5 w2 v' n' rows' := ⟨h.1.trans hE.only (fun g hg => .inr (h.2.lt g hg).1), hE.own⟩
theorem MSt.alloc (h : MSt w5 w1 v n rows) (o : Obj) : MSt w5 (w1.alloc o) v n rows := ⟨h.1.alloc o, h.2.alloc o⟩
theorem MSt.start {w5 wd : World} (h : Only [] w5 wd) : MSt w5 (wd.alloc (.cells #[] 9)) (.slice (some ⟨wd.heap.size, 0, none⟩) 0 0) 0 [] := ⟨h.alloc _, (row_empty wd).mono h.size⟩
end
section
variable {w w' : World}
/-- what put leaves -/
def PutO (w : World) (base : Nat) (l : List Path) (s : Path) (y : Ending) (w' : World) : Prop := ∃ v, y = .returned v ∧ OwnR 9 1 w' base v (putL l s).length (svs (putL l s)) ∧ Only [] w w'
theorem put_fin {n k nt base : Nat} {l : List Path} {s : Path} {w : World} (hF : putL l s = l.take k ++ [s] ++ l.drop k) (hl : l.length = n) (hk : k ≤ n) (hnt : n - k = nt) (hb : base ≤ w.heap.size) :
    ∀ v8 w8, OwnR 9 1 w8 w.heap.size v8 (0 + k + 1 + nt) ([] ++ svs (l.take k) ++ [[.string (str s)]] ++ svs (l.drop k)) → Only [] w w8 → PutO w base l s (.returned v8) w8 := by
  intro v8 w8 h ho
  refine ⟨v8, rfl, ?_, ho⟩
  have e1 : (putL l s).length = 0 + k + 1 + nt := by
    rw [hF]
    simp only [List.length_append, List.length_take, List.length_drop, List.length_cons, List.length_nil]
    omega
  have e2 : svs (putL l s) = [] ++ svs (l.take k) ++ [[.string (str s)]] ++ svs (l.drop k) := by
    rw [hF]
    simp [svs, sv]
  rw [e1, e2]
  exact h.mono hb
set_option maxHeartbeats 8000000 in
theorem rput_any {A : Option Addr} {n c base : Nat} {l : List Path} (s : Path) (w : World) (hown : OwnR 9 1 w base (.slice A n c) n (svs l)) (hb : base ≤ w.heap.size) (hn : n ≤ 100000) (hs : s.length ≤ 300) :
    Calls Try.prog 31 #[.slice A n c, .string (str s)] w fun y w' => PutO w base l s y w' := by
  obtain ⟨A', c', e, hc, hmx, hr, _⟩ := hown.shape (by decide)
  injection e with e1 e2 e3
  subst e1
  subst e3
  have HL := Lib.hid (recs_len hr)
  have HR := Lib.hid hr
  have HOWN := Lib.hid hown
  obtain ⟨ti, hti, htz, hi2, hi3⟩ := info_parts str_inf
  have HTI := Lib.hid (And.intro hti (And.intro htz (And.intro hi2 hi3)))
  clear hr hown e2 hti htz hi2 hi3
  go_enter Try.func31, Try.ntmps31
  go_wp2_with fail
  go_loopw [5] (fun kv wr => ∃ k : Nat, kv = .int .i64 k ∧ k ≤ n ∧ (∀ i, i < k → ∃ a, l[i]? = some a ∧ a < s) ∧ wr = w) (fun kv _ => n - (intOf kv).toNat)
  case atStart => exact ⟨0, rfl, by omega, fun i hi => by omega, rfl⟩
  case round =>
    obtain ⟨k, rfl, hk, hlow, hwr⟩ := hrel
    have hwr := hwr.symm
    subst hwr
    have HLOW := Lib.hid hlow
    clear hlow
    by_cases hlt : k < n
    · have d1 : decide ((k : Int) < (n : Int)) = true := decide_eq_true (by omega)
      obtain ⟨b, o, hA, _, hcl⟩ := HR.out.at_ [] hlt
      subst hA
      have q := hcl 0 (by decide)
      simp only [Nat.mul_one, Nat.add_zero, sv] at q
      obtain ⟨t, ht⟩ : ∃ t, l.getD k [] = t := ⟨_, rfl⟩
      rw [ht] at q
      have g : l[k]? = some t := by rw [← ht, List.getD_eq_getElem?_getD, List.getElem?_eq_getElem (by rw [HL.out]; exact hlt)]; rfl
      have G := Lib.hid g
      clear hcl ht g
      by_cases hts : t < s
      · have e5 : Op.bytesLess (str t).toList (str s).toList = true := by rw [str_lss]; exact decide_eq_true hts
        have HNX : Hid (∀ i, i < k + 1 → ∃ a, l[i]? = some a ∧ a < s) := Lib.hid (fun i hi => by
          rcases Nat.lt_or_ge i k with h | h
          · exact HLOW.out i h
          · obtain rfl : i = k := by omega
            exact ⟨t, G.out, hts⟩)
        clear hts
        go_wp2_with fail
        go_roundw
        case measure => simp [intOf]; omega
        case rel => exact ⟨k + 1, by go_num, by omega, HNX.out, trivial⟩
      · have e5 : Op.bytesLess (str t).toList (str s).toList = false := by rw [str_lss]; exact decide_eq_false hts
        have HPL := Lib.hid (putL_at (l := l) (s := s) (k := k) HLOW.out (fun a ha => by rw [G.out] at ha; injection ha with ha; rw [← ha]; exact hts) (by rw [HL.out]; exact hk))
        clear hts
        by_cases he : t = s
        · have e6 : ((str t).toList == (str s).toList) = true := by rw [str_eqb]; exact decide_eq_true he
          have HF : Hid (putL l s = l) := Lib.hid (by rw [HPL.out, if_pos (by rw [G.out, he])])
          clear he
          go_wp2_with fail
          go_ret
          refine ⟨_, rfl, ?_, Only.refl _ _⟩
          rw [HF.out, HL.out]
          exact HOWN.out
        · have e6 : ((str t).toList == (str s).toList) = false := by rw [str_eqb]; exact decide_eq_false he
          have HF : Hid (putL l s = l.take k ++ [s] ++ l.drop k) := Lib.hid (by rw [HPL.out, if_neg (by rw [G.out]; intro e; injection e with e; exact he e)])
          clear he
          go_wp2_with fail
          clear q e5 e6
          obtain ⟨nt, hnt⟩ : ∃ nt, n - k = nt := ⟨_, rfl⟩
          obtain ⟨At, ct, hT1, hT2⟩ : ∃ At ct, (∀ Y, (Instr.slice 25 (.slice (some ⟨b, o, none⟩) n c) (some (.int .i64 (k : Int))) none none).run Try.prog Y = .ok (.slice At nt ct) Y) ∧ Recs w w.heap.size 1 At nt (svs (l.drop k)) := by
            rw [← hnt]
            exact ⟨_, _, tail_run (some ⟨b, o, none⟩) n c k hk, recs_tail HR.out hk hc⟩
          have HSL := Lib.hid (head_run (some ⟨b, o, none⟩) n c k (by omega))
          have HST := Lib.hid hT1
          have HTR := Lib.hid hT2
          have HHR := Lib.hid (recs_head HR.out hk)
          have HFIN : Hid (∀ v8 w8, OwnR 9 1 w8 w.heap.size v8 (0 + k + 1 + nt) ([] ++ svs (l.take k) ++ [[.string (str s)]] ++ svs (l.drop k)) → Only [] w w8 → PutO w base l s (.returned v8) w8) := Lib.hid (put_fin HF.out HL.out hk hnt hb)
          have hnl : nt ≤ 100000 := by omega
          clear hT1 hT2 hnt d1
          refine wp_region_hand (S := (fun _ => True)) (by kernel_rfl) ?_
          have hS : True := trivial
          refine takeW (i := 1) rfl (by kernel_rfl) (by kernel_rfl) (by kernel_rfl) (fun _ _ _ h => h) rfl (by rfl) (v := .slice (some ⟨b, o, none⟩) n c) (fun Y hY => by go_simp) hS ?_
          simp only [List.setIfInBounds_toArray, List.set_cons_zero, List.set_cons_succ]
          refine takeW (i := 2) rfl (by kernel_rfl) (by kernel_rfl) (by kernel_rfl) (fun _ _ _ h => h) rfl (by rfl) (v := .int .i64 (k : Int)) (fun Y hY => by go_simp) hS ?_
          simp only [List.setIfInBounds_toArray, List.set_cons_zero, List.set_cons_succ]
          refine takeW (i := 3) rfl (by kernel_rfl) (by kernel_rfl) (by kernel_rfl) (fun _ _ _ h => h) rfl (by rfl) (v := .slice (some ⟨b, o, none⟩) k c) (fun Y hY => by have h := HSL.out Y; go_simp) hS ?_
          simp only [List.setIfInBounds_toArray, List.set_cons_zero, List.set_cons_succ]
          refine takeW (i := 5) rfl (by kernel_rfl) (by kernel_rfl) (by kernel_rfl) (fun _ _ _ h => h) rfl (by rfl) (v := .string (str s)) (fun Y hY => by go_simp) hS ?_
          simp only [List.setIfInBounds_toArray, List.set_cons_zero, List.set_cons_succ]
          refine takeW (i := 8) rfl (by kernel_rfl) (by kernel_rfl) (by kernel_rfl) (fun _ _ _ h => h) rfl (by rfl) (v := .slice (some ⟨b, o, none⟩) n c) (fun Y hY => by go_simp) hS ?_
          simp only [List.setIfInBounds_toArray, List.set_cons_zero, List.set_cons_succ]
          refine takeW (i := 9) rfl (by kernel_rfl) (by kernel_rfl) (by kernel_rfl) (fun _ _ _ h => h) rfl (by rfl) (v := .int .i64 (k : Int)) (fun Y hY => by go_simp) hS ?_
          simp only [List.setIfInBounds_toArray, List.set_cons_zero, List.set_cons_succ]
          refine takeW (i := 10) rfl (by kernel_rfl) (by kernel_rfl) (by kernel_rfl) (fun _ _ _ h => h) rfl (by rfl) (v := .slice At nt ct) (fun Y hY => by have h := HST.out Y; go_simp) hS ?_
          simp only [List.setIfInBounds_toArray, List.set_cons_zero, List.set_cons_succ]
          have hd5 : Only [] w w.drew := (Only.refl [] w).drew
          have hA0 := MSt.start hd5
          have hAC := hA0.alloc (.cells #[.string (str s)] 9)
          have hC0 : Only [] w (w.drew.alloc (.cells #[.string (str s)] 9)) := hd5.alloc _
          have hC1 : MSt w ((w.drew.alloc (.cells #[.string (str s)] 9)).alloc (.cells #[] 9)) (.slice (some ⟨w.heap.size + 1, 0, none⟩) 0 0) 0 [] := by
            have h := MSt.start hC0
            rw [World.size_alloc] at h
            exact h
          refine twoW (i := 0) (j := 6) (vi := .slice (some ⟨w.heap.size, 0, none⟩) 0 0) (vj := .slice (some ⟨w.heap.size, 0, none⟩) 1 1) (wi := w.drew.alloc (.cells #[] 9)) (wj := w.drew.alloc (.cells #[.string (str s)] 9)) rfl rfl (by kernel_rfl) rfl rfl (by rfl) (by rfl) (by go_simp) (by go_simp) trivial trivial ?_ ?_
          · simp only [List.setIfInBounds_toArray, List.set_cons_zero, List.set_cons_succ]
            refine twoH (i := 4) (j := 6) rfl rfl (by kernel_rfl) rfl rfl ?_ ?_
            · refine law_if (i := 4) rfl (fun K hK => ?_)
              refine step_append_rec (w := w.drew.alloc (.cells #[] 9)) rfl (.tmp 33) (.tmp 36) 25 rfl Try.underlying25 HTI.out.1 HTI.out.2.1 HTI.out.2.2.1 HTI.out.2.2.2 (by decide) (by decide) rfl hA0.2 rfl (HHR.out.only hA0.1 (by simp)) (by intro r hr; unfold svs at hr; obtain ⟨y, _, rfl⟩ := List.mem_map.1 hr; rfl) (by intro r hr u hu; unfold svs at hr; obtain ⟨y, _, rfl⟩ := List.mem_map.1 hr; rw [List.mem_singleton.1 hu]; rfl) (by omega) (by unfold maxLen; omega) hA0.1.size ?_
              intro v4 w6 hE4
              have hm4 := hA0.ext hE4
              refine hK _ _ trivial ?_
              clear hK K
              try simp only [List.setIfInBounds_toArray, List.set_cons_zero, List.set_cons_succ]
              have hm5 := hm4.alloc (.cells #[.string (str s)] 9)
              refine oneW (i := 6) (v := .slice (some ⟨w6.heap.size, 0, none⟩) 1 1) (w' := w6.alloc (.cells #[.string (str s)] 9)) rfl (by kernel_rfl) rfl (by rfl) (by go_simp) trivial ?_
              simp only [List.setIfInBounds_toArray, List.set_cons_zero, List.set_cons_succ]
              refine oneA (i := 7) rfl (by kernel_rfl) rfl rfl (fun K hK => ?_)
              refine step_append_rec (w := w6.alloc (.cells #[.string (str s)] 9)) rfl (.tmp 37) (.tmp 39) 25 rfl Try.underlying25 HTI.out.1 HTI.out.2.1 HTI.out.2.2.1 HTI.out.2.2.2 (by decide) (by decide) rfl hm5.2 rfl (Recs.const1 w6 [.string (str s)] #[.string (str s)] 9 1 _ rfl rfl) (by intro r hr; rw [List.mem_singleton.1 hr]; rfl) (by intro r hr u hu; rw [List.mem_singleton.1 hr] at hu; rw [List.mem_singleton.1 hu]; rfl) (by omega) (by unfold maxLen; omega) hm5.1.size ?_
              intro v7 w7 hE7
              have hm7 := hm5.ext hE7
              refine hK _ _ trivial ?_
              clear hK K
              try simp only [List.setIfInBounds_toArray, List.set_cons_zero, List.set_cons_succ]
              refine oneA (i := 11) rfl (by kernel_rfl) rfl rfl (fun K hK => ?_)
              refine step_append_rec (w := w7) rfl (.tmp 40) (.tmp 43) 25 rfl Try.underlying25 HTI.out.1 HTI.out.2.1 HTI.out.2.2.1 HTI.out.2.2.2 (by decide) (by decide) rfl hm7.2 rfl (HTR.out.only hm7.1 (by simp)) (by intro r hr; unfold svs at hr; obtain ⟨y, _, rfl⟩ := List.mem_map.1 hr; rfl) (by intro r hr u hu; unfold svs at hr; obtain ⟨y, _, rfl⟩ := List.mem_map.1 hr; rw [List.mem_singleton.1 hu]; rfl) (by omega) (by unfold maxLen; omega) hm7.1.size ?_
              intro v8 w8 hE8
              have hm8 := hm7.ext hE8
              refine hK _ _ trivial ?_
              clear hK K
              try simp only [List.setIfInBounds_toArray, List.set_cons_zero, List.set_cons_succ]
              refine takeW (i := 12) rfl (by kernel_rfl) (by kernel_rfl) (by kernel_rfl) (fun _ _ _ h => h) rfl (by rfl) (v := v8) (fun Y hY => by go_simp) hS ?_
              simp only [List.setIfInBounds_toArray, List.set_cons_zero, List.set_cons_succ]
              refine wpAnyH_done (by kernel_rfl) ?_ _
              have HM8 := Lib.hid hm8
              clear hm8 hm7
              go_wp2_with fail
              go_ret
              exact HFIN.out _ _ HM8.out.2 HM8.out.1
            · refine val_if (v := .slice (some ⟨w.heap.size + 1, 0, none⟩) 1 1) (w' := (w.drew.alloc (.cells #[] 9)).alloc (.cells #[.string (str s)] 9)) rfl (by rfl) (by go_simp) ?_
              refine ⟨trivial, ?_⟩
              simp only [List.setIfInBounds_toArray, List.set_cons_zero, List.set_cons_succ]
              refine oneA (i := 4) rfl (by kernel_rfl) rfl rfl (fun K hK => ?_)
              refine step_append_rec (w := (w.drew.alloc (.cells #[] 9)).alloc (.cells #[.string (str s)] 9)) rfl (.tmp 33) (.tmp 36) 25 rfl Try.underlying25 HTI.out.1 HTI.out.2.1 HTI.out.2.2.1 HTI.out.2.2.2 (by decide) (by decide) rfl hAC.2 rfl (HHR.out.only hAC.1 (by simp)) (by intro r hr; unfold svs at hr; obtain ⟨y, _, rfl⟩ := List.mem_map.1 hr; rfl) (by intro r hr u hu; unfold svs at hr; obtain ⟨y, _, rfl⟩ := List.mem_map.1 hr; rw [List.mem_singleton.1 hu]; rfl) (by omega) (by unfold maxLen; omega) hAC.1.size ?_
              intro v4 w6 hE4
              have hm4 := hAC.ext hE4
              refine hK _ _ trivial ?_
              clear hK K
              try simp only [List.setIfInBounds_toArray, List.set_cons_zero, List.set_cons_succ]
              have hrc : Recs w6 (w.heap.size + 1 + 1) 1 (some ⟨w.heap.size + 1, 0, none⟩) 1 [[.string (str s)]] := by
                have h0 := Recs.const1 (w.drew.alloc (.cells #[] 9)) [.string (str s)] #[.string (str s)] 9 1 (0, 0) rfl rfl
                rw [World.size_alloc] at h0
                refine h0.only hE4.only (fun g hg hm => ?_)
                have e1 : g = w.heap.size + 1 := by simpa [blkOf] using hg
                have hm2 : g ∈ ownL (.slice (some ⟨w.heap.size, 0, none⟩) 0 0) := hm
                have e2 : g = w.heap.size := by simpa [ownL, Value.ownBlock] using hm2
                omega
              refine oneA (i := 7) rfl (by kernel_rfl) rfl rfl (fun K hK => ?_)
              refine step_append_rec (w := w6) rfl (.tmp 37) (.tmp 39) 25 rfl Try.underlying25 HTI.out.1 HTI.out.2.1 HTI.out.2.2.1 HTI.out.2.2.2 (by decide) (by decide) rfl hm4.2 rfl hrc (by intro r hr; rw [List.mem_singleton.1 hr]; rfl) (by intro r hr u hu; rw [List.mem_singleton.1 hr] at hu; rw [List.mem_singleton.1 hu]; rfl) (by omega) (by unfold maxLen; omega) hm4.1.size ?_
              intro v7 w7 hE7
              have hm7 := hm4.ext hE7
              refine hK _ _ trivial ?_
              clear hK K
              try simp only [List.setIfInBounds_toArray, List.set_cons_zero, List.set_cons_succ]
              refine oneA (i := 11) rfl (by kernel_rfl) rfl rfl (fun K hK => ?_)
              refine step_append_rec (w := w7) rfl (.tmp 40) (.tmp 43) 25 rfl Try.underlying25 HTI.out.1 HTI.out.2.1 HTI.out.2.2.1 HTI.out.2.2.2 (by decide) (by decide) rfl hm7.2 rfl (HTR.out.only hm7.1 (by simp)) (by intro r hr; unfold svs at hr; obtain ⟨y, _, rfl⟩ := List.mem_map.1 hr; rfl) (by intro r hr u hu; unfold svs at hr; obtain ⟨y, _, rfl⟩ := List.mem_map.1 hr; rw [List.mem_singleton.1 hu]; rfl) (by omega) (by unfold maxLen; omega) hm7.1.size ?_
              intro v8 w8 hE8
              have hm8 := hm7.ext hE8
              refine hK _ _ trivial ?_
              clear hK K
              try simp only [List.setIfInBounds_toArray, List.set_cons_zero, List.set_cons_succ]
              refine takeW (i := 12) rfl (by kernel_rfl) (by kernel_rfl) (by kernel_rfl) (fun _ _ _ h => h) rfl (by rfl) (v := v8) (fun Y hY => by go_simp) hS ?_
              simp only [List.setIfInBounds_toArray, List.set_cons_zero, List.set_cons_succ]
              refine wpAnyH_done (by kernel_rfl) ?_ _
              have HM8 := Lib.hid hm8
              clear hm8 hm7
              go_wp2_with fail
              go_ret
              exact HFIN.out _ _ HM8.out.2 HM8.out.1
          · simp only [List.setIfInBounds_toArray, List.set_cons_zero, List.set_cons_succ]
            refine oneW (i := 0) (v := .slice (some ⟨w.heap.size + 1, 0, none⟩) 0 0) (w' := (w.drew.alloc (.cells #[.string (str s)] 9)).alloc (.cells #[] 9)) rfl (by kernel_rfl) rfl (by rfl) (by go_simp) trivial ?_
            simp only [List.setIfInBounds_toArray, List.set_cons_zero, List.set_cons_succ]
            refine oneA (i := 4) rfl (by kernel_rfl) rfl rfl (fun K hK => ?_)
            refine step_append_rec (w := (w.drew.alloc (.cells #[.string (str s)] 9)).alloc (.cells #[] 9)) rfl (.tmp 33) (.tmp 36) 25 rfl Try.underlying25 HTI.out.1 HTI.out.2.1 HTI.out.2.2.1 HTI.out.2.2.2 (by decide) (by decide) rfl hC1.2 rfl (HHR.out.only hC1.1 (by simp)) (by intro r hr; unfold svs at hr; obtain ⟨y, _, rfl⟩ := List.mem_map.1 hr; rfl) (by intro r hr u hu; unfold svs at hr; obtain ⟨y, _, rfl⟩ := List.mem_map.1 hr; rw [List.mem_singleton.1 hu]; rfl) (by omega) (by unfold maxLen; omega) hC1.1.size ?_
            intro v4 w6 hE4
            have hm4 := hC1.ext hE4
            refine hK _ _ trivial ?_
            clear hK K
            try simp only [List.setIfInBounds_toArray, List.set_cons_zero, List.set_cons_succ]
            have hrc : Recs w6 (w.heap.size + 1) 1 (some ⟨w.heap.size, 0, none⟩) 1 [[.string (str s)]] := by
              have h0 := (Recs.const1 w.drew [.string (str s)] #[.string (str s)] 9 1 (0, 0) rfl rfl).only ((Only.refl [] _).alloc (.cells #[] 9)) (by simp)
              refine h0.only hE4.only (fun g hg hm => ?_)
              have e1 : g = w.heap.size := by simpa [blkOf] using hg
              have hm2 : g ∈ ownL (.slice (some ⟨w.heap.size + 1, 0, none⟩) 0 0) := hm
              have e2 : g = w.heap.size + 1 := by simpa [ownL, Value.ownBlock] using hm2
              omega
            refine oneA (i := 7) rfl (by kernel_rfl) rfl rfl (fun K hK => ?_)
            refine step_append_rec (w := w6) rfl (.tmp 37) (.tmp 39) 25 rfl Try.underlying25 HTI.out.1 HTI.out.2.1 HTI.out.2.2.1 HTI.out.2.2.2 (by decide) (by decide) rfl hm4.2 rfl hrc (by intro r hr; rw [List.mem_singleton.1 hr]; rfl) (by intro r hr u hu; rw [List.mem_singleton.1 hr] at hu; rw [List.mem_singleton.1 hu]; rfl) (by omega) (by unfold maxLen; omega) hm4.1.size ?_
            intro v7 w7 hE7
            have hm7 := hm4.ext hE7
            refine hK _ _ trivial ?_
            clear hK K
            try simp only [List.setIfInBounds_toArray, List.set_cons_zero, List.set_cons_succ]
            refine oneA (i := 11) rfl (by kernel_rfl) rfl rfl (fun K hK => ?_)
            refine step_append_rec (w := w7) rfl (.tmp 40) (.tmp 43) 25 rfl Try.underlying25 HTI.out.1 HTI.out.2.1 HTI.out.2.2.1 HTI.out.2.2.2 (by decide) (by decide) rfl hm7.2 rfl (HTR.out.only hm7.1 (by simp)) (by intro r hr; unfold svs at hr; obtain ⟨y, _, rfl⟩ := List.mem_map.1 hr; rfl) (by intro r hr u hu; unfold svs at hr; obtain ⟨y, _, rfl⟩ := List.mem_map.1 hr; rw [List.mem_singleton.1 hu]; rfl) (by omega) (by unfold maxLen; omega) hm7.1.size ?_
            intro v8 w8 hE8
            have hm8 := hm7.ext hE8
            refine hK _ _ trivial ?_
            clear hK K
            try simp only [List.setIfInBounds_toArray, List.set_cons_zero, List.set_cons_succ]
            refine takeW (i := 12) rfl (by kernel_rfl) (by kernel_rfl) (by kernel_rfl) (fun _ _ _ h => h) rfl (by rfl) (v := v8) (fun Y hY => by go_simp) hS ?_
            simp only [List.setIfInBounds_toArray, List.set_cons_zero, List.set_cons_succ]
            refine wpAnyH_done (by kernel_rfl) ?_ _
            have HM8 := Lib.hid hm8
            clear hm8 hm7
            go_wp2_with fail
            go_ret
            exact HFIN.out _ _ HM8.out.2 HM8.out.1
    · have hkn : k = n := by omega
      have d1 : decide ((k : Int) < (n : Int)) = false := decide_eq_false (by omega)
      have hnone : l[k]? = none := List.getElem?_eq_none (by rw [HL.out]; omega)
      have HF : Hid (putL l s = l.take k ++ [s] ++ l.drop k) := Lib.hid (by rw [putL_at (k := k) HLOW.out (fun a ha => by rw [hnone] at ha; cases ha) (by rw [HL.out]; exact hk), if_neg (by rw [hnone]; simp)])
      clear hnone hkn
      go_wp2_with fail
      obtain ⟨nt, hnt⟩ : ∃ nt, n - k = nt := ⟨_, rfl⟩
      obtain ⟨At, ct, hT1, hT2⟩ : ∃ At ct, (∀ Y, (Instr.slice 25 (.slice A n c) (some (.int .i64 (k : Int))) none none).run Try.prog Y = .ok (.slice At nt ct) Y) ∧ Recs w w.heap.size 1 At nt (svs (l.drop k)) := by
        rw [← hnt]
        exact ⟨_, _, tail_run A n c k hk, recs_tail HR.out hk hc⟩
      have HSL := Lib.hid (head_run A n c k (by omega))
      have HST := Lib.hid hT1
      have HTR := Lib.hid hT2
      have HHR := Lib.hid (recs_head HR.out hk)
      have HFIN : Hid (∀ v8 w8, OwnR 9 1 w8 w.heap.size v8 (0 + k + 1 + nt) ([] ++ svs (l.take k) ++ [[.string (str s)]] ++ svs (l.drop k)) → Only [] w w8 → PutO w base l s (.returned v8) w8) := Lib.hid (put_fin HF.out HL.out hk hnt hb)
      have hnl : nt ≤ 100000 := by omega
      clear hT1 hT2 hnt d1
      refine wp_region_hand (S := (fun _ => True)) (by kernel_rfl) ?_
      have hS : True := trivial
      refine takeW (i := 1) rfl (by kernel_rfl) (by kernel_rfl) (by kernel_rfl) (fun _ _ _ h => h) rfl (by rfl) (v := .slice A n c) (fun Y hY => by go_simp) hS ?_
      simp only [List.setIfInBounds_toArray, List.set_cons_zero, List.set_cons_succ]
      refine takeW (i := 2) rfl (by kernel_rfl) (by kernel_rfl) (by kernel_rfl) (fun _ _ _ h => h) rfl (by rfl) (v := .int .i64 (k : Int)) (fun Y hY => by go_simp) hS ?_
      simp only [List.setIfInBounds_toArray, List.set_cons_zero, List.set_cons_succ]
      refine takeW (i := 3) rfl (by kernel_rfl) (by kernel_rfl) (by kernel_rfl) (fun _ _ _ h => h) rfl (by rfl) (v := .slice A k c) (fun Y hY => by have h := HSL.out Y; go_simp) hS ?_
      simp only [List.setIfInBounds_toArray, List.set_cons_zero, List.set_cons_succ]
      refine takeW (i := 5) rfl (by kernel_rfl) (by kernel_rfl) (by kernel_rfl) (fun _ _ _ h => h) rfl (by rfl) (v := .string (str s)) (fun Y hY => by go_simp) hS ?_
      simp only [List.setIfInBounds_toArray, List.set_cons_zero, List.set_cons_succ]
      refine takeW (i := 8) rfl (by kernel_rfl) (by kernel_rfl) (by kernel_rfl) (fun _ _ _ h => h) rfl (by rfl) (v := .slice A n c) (fun Y hY => by go_simp) hS ?_
      simp only [List.setIfInBounds_toArray, List.set_cons_zero, List.set_cons_succ]
      refine takeW (i := 9) rfl (by kernel_rfl) (by kernel_rfl) (by kernel_rfl) (fun _ _ _ h => h) rfl (by rfl) (v := .int .i64 (k : Int)) (fun Y hY => by go_simp) hS ?_
      simp only [List.setIfInBounds_toArray, List.set_cons_zero, List.set_cons_succ]
      refine takeW (i := 10) rfl (by kernel_rfl) (by kernel_rfl) (by kernel_rfl) (fun _ _ _ h => h) rfl (by rfl) (v := .slice At nt ct) (fun Y hY => by have h := HST.out Y; go_simp) hS ?_
      simp only [List.setIfInBounds_toArray, List.set_cons_zero, List.set_cons_succ]
      have hd5 : Only [] w w.drew := (Only.refl [] w).drew
      have hA0 := MSt.start hd5
      have hAC := hA0.alloc (.cells #[.string (str s)] 9)
      have hC0 : Only [] w (w.drew.alloc (.cells #[.string (str s)] 9)) := hd5.alloc _
      have hC1 : MSt w ((w.drew.alloc (.cells #[.string (str s)] 9)).alloc (.cells #[] 9)) (.slice (some ⟨w.heap.size + 1, 0, none⟩) 0 0) 0 [] := by
        have h := MSt.start hC0
        rw [World.size_alloc] at h
        exact h
      refine twoW (i := 0) (j := 6) (vi := .slice (some ⟨w.heap.size, 0, none⟩) 0 0) (vj := .slice (some ⟨w.heap.size, 0, none⟩) 1 1) (wi := w.drew.alloc (.cells #[] 9)) (wj := w.drew.alloc (.cells #[.string (str s)] 9)) rfl rfl (by kernel_rfl) rfl rfl (by rfl) (by rfl) (by go_simp) (by go_simp) trivial trivial ?_ ?_
      · simp only [List.setIfInBounds_toArray, List.set_cons_zero, List.set_cons_succ]
        refine twoH (i := 4) (j := 6) rfl rfl (by kernel_rfl) rfl rfl ?_ ?_
        · refine law_if (i := 4) rfl (fun K hK => ?_)
          refine step_append_rec (w := w.drew.alloc (.cells #[] 9)) rfl (.tmp 33) (.tmp 36) 25 rfl Try.underlying25 HTI.out.1 HTI.out.2.1 HTI.out.2.2.1 HTI.out.2.2.2 (by decide) (by decide) rfl hA0.2 rfl (HHR.out.only hA0.1 (by simp)) (by intro r hr; unfold svs at hr; obtain ⟨y, _, rfl⟩ := List.mem_map.1 hr; rfl) (by intro r hr u hu; unfold svs at hr; obtain ⟨y, _, rfl⟩ := List.mem_map.1 hr; rw [List.mem_singleton.1 hu]; rfl) (by omega) (by unfold maxLen; omega) hA0.1.size ?_
          intro v4 w6 hE4
          have hm4 := hA0.ext hE4
          refine hK _ _ trivial ?_
          clear hK K
          try simp only [List.setIfInBounds_toArray, List.set_cons_zero, List.set_cons_succ]
          have hm5 := hm4.alloc (.cells #[.string (str s)] 9)
          refine oneW (i := 6) (v := .slice (some ⟨w6.heap.size, 0, none⟩) 1 1) (w' := w6.alloc (.cells #[.string (str s)] 9)) rfl (by kernel_rfl) rfl (by rfl) (by go_simp) trivial ?_
          simp only [List.setIfInBounds_toArray, List.set_cons_zero, List.set_cons_succ]
          refine oneA (i := 7) rfl (by kernel_rfl) rfl rfl (fun K hK => ?_)
          refine step_append_rec (w := w6.alloc (.cells #[.string (str s)] 9)) rfl (.tmp 37) (.tmp 39) 25 rfl Try.underlying25 HTI.out.1 HTI.out.2.1 HTI.out.2.2.1 HTI.out.2.2.2 (by decide) (by decide) rfl hm5.2 rfl (Recs.const1 w6 [.string (str s)] #[.string (str s)] 9 1 _ rfl rfl) (by intro r hr; rw [List.mem_singleton.1 hr]; rfl) (by intro r hr u hu; rw [List.mem_singleton.1 hr] at hu; rw [List.mem_singleton.1 hu]; rfl) (by omega) (by unfold maxLen; omega) hm5.1.size ?_
          intro v7 w7 hE7
          have hm7 := hm5.ext hE7
          refine hK _ _ trivial ?_
          clear hK K
          try simp only [List.setIfInBounds_toArray, List.set_cons_zero, List.set_cons_succ]
          refine oneA (i := 11) rfl (by kernel_rfl) rfl rfl (fun K hK => ?_)
          refine step_append_rec (w := w7) rfl (.tmp 40) (.tmp 43) 25 rfl Try.underlying25 HTI.out.1 HTI.out.2.1 HTI.out.2.2.1 HTI.out.2.2.2 (by decide) (by decide) rfl hm7.2 rfl (HTR.out.only hm7.1 (by simp)) (by intro r hr; unfold svs at hr; obtain ⟨y, _, rfl⟩ := List.mem_map.1 hr; rfl) (by intro r hr u hu; unfold svs at hr; obtain ⟨y, _, rfl⟩ := List.mem_map.1 hr; rw [List.mem_singleton.1 hu]; rfl) (by omega) (by unfold maxLen; omega) hm7.1.size ?_
          intro v8 w8 hE8
          have hm8 := hm7.ext hE8
          refine hK _ _ trivial ?_
          clear hK K
          try simp only [List.setIfInBounds_toArray, List.set_cons_zero, List.set_cons_succ]
          refine takeW (i := 12) rfl (by kernel_rfl) (by kernel_rfl) (by kernel_rfl) (fun _ _ _ h => h) rfl (by rfl) (v := v8) (fun Y hY => by go_simp) hS ?_
          simp only [List.setIfInBounds_toArray, List.set_cons_zero, List.set_cons_succ]
          refine wpAnyH_done (by kernel_rfl) ?_ _
          have HM8 := Lib.hid hm8
          clear hm8 hm7
          go_wp2_with fail
          go_ret
          exact HFIN.out _ _ HM8.out.2 HM8.out.1
        · refine val_if (v := .slice (some ⟨w.heap.size + 1, 0, none⟩) 1 1) (w' := (w.drew.alloc (.cells #[] 9)).alloc (.cells #[.string (str s)] 9)) rfl (by rfl) (by go_simp) ?_
          refine ⟨trivial, ?_⟩
          simp only [List.setIfInBounds_toArray, List.set_cons_zero, List.set_cons_succ]
          refine oneA (i := 4) rfl (by kernel_rfl) rfl rfl (fun K hK => ?_)
          refine step_append_rec (w := (w.drew.alloc (.cells #[] 9)).alloc (.cells #[.string (str s)] 9)) rfl (.tmp 33) (.tmp 36) 25 rfl Try.underlying25 HTI.out.1 HTI.out.2.1 HTI.out.2.2.1 HTI.out.2.2.2 (by decide) (by decide) rfl hAC.2 rfl (HHR.out.only hAC.1 (by simp)) (by intro r hr; unfold svs at hr; obtain ⟨y, _, rfl⟩ := List.mem_map.1 hr; rfl) (by intro r hr u hu; unfold svs at hr; obtain ⟨y, _, rfl⟩ := List.mem_map.1 hr; rw [List.mem_singleton.1 hu]; rfl) (by omega) (by unfold maxLen; omega) hAC.1.size ?_
          intro v4 w6 hE4
          have hm4 := hAC.ext hE4
          refine hK _ _ trivial ?_
          clear hK K
          try simp only [List.setIfInBounds_toArray, List.set_cons_zero, List.set_cons_succ]
          have hrc : Recs w6 (w.heap.size + 1 + 1) 1 (some ⟨w.heap.size + 1, 0, none⟩) 1 [[.string (str s)]] := by
            have h0 := Recs.const1 (w.drew.alloc (.cells #[] 9)) [.string (str s)] #[.string (str s)] 9 1 (0, 0) rfl rfl
            rw [World.size_alloc] at h0
            refine h0.only hE4.only (fun g hg hm => ?_)
            have e1 : g = w.heap.size + 1 := by simpa [blkOf] using hg
            have hm2 : g ∈ ownL (.slice (some ⟨w.heap.size, 0, none⟩) 0 0) := hm
            have e2 : g = w.heap.size := by simpa [ownL, Value.ownBlock] using hm2
            omega
          refine oneA (i := 7) rfl (by kernel_rfl) rfl rfl (fun K hK => ?_)
          refine step_append_rec (w := w6) rfl (.tmp 37) (.tmp 39) 25 rfl Try.underlying25 HTI.out.1 HTI.out.2.1 HTI.out.2.2.1 HTI.out.2.2.2 (by decide) (by decide) rfl hm4.2 rfl hrc (by intro r hr; rw [List.mem_singleton.1 hr]; rfl) (by intro r hr u hu; rw [List.mem_singleton.1 hr] at hu; rw [List.mem_singleton.1 hu]; rfl) (by omega) (by unfold maxLen; omega) hm4.1.size ?_
          intro v7 w7 hE7
          have hm7 := hm4.ext hE7
          refine hK _ _ trivial ?_
          clear hK K
          try simp only [List.setIfInBounds_toArray, List.set_cons_zero, List.set_cons_succ]
          refine oneA (i := 11) rfl (by kernel_rfl) rfl rfl (fun K hK => ?_)
          refine step_append_rec (w := w7) rfl (.tmp 40) (.tmp 43) 25 rfl Try.underlying25 HTI.out.1 HTI.out.2.1 HTI.out.2.2.1 HTI.out.2.2.2 (by decide) (by decide) rfl hm7.2 rfl (HTR.out.only hm7.1 (by simp)) (by intro r hr; unfold svs at hr; obtain ⟨y, _, rfl⟩ := List.mem_map.1 hr; rfl) (by intro r hr u hu; unfold svs at hr; obtain ⟨y, _, rfl⟩ := List.mem_map.1 hr; rw [List.mem_singleton.1 hu]; rfl) (by omega) (by unfold maxLen; omega) hm7.1.size ?_
          intro v8 w8 hE8
          have hm8 := hm7.ext hE8
          refine hK _ _ trivial ?_
          clear hK K
          try simp only [List.setIfInBounds_toArray, List.set_cons_zero, List.set_cons_succ]
          refine takeW (i := 12) rfl (by kernel_rfl) (by kernel_rfl) (by kernel_rfl) (fun _ _ _ h => h) rfl (by rfl) (v := v8) (fun Y hY => by go_simp) hS ?_
          simp only [List.setIfInBounds_toArray, List.set_cons_zero, List.set_cons_succ]
          refine wpAnyH_done (by kernel_rfl) ?_ _
          have HM8 := Lib.hid hm8
          clear hm8 hm7
          go_wp2_with fail
          go_ret
          exact HFIN.out _ _ HM8.out.2 HM8.out.1
      · simp only [List.setIfInBounds_toArray, List.set_cons_zero, List.set_cons_succ]
        refine oneW (i := 0) (v := .slice (some ⟨w.heap.size + 1, 0, none⟩) 0 0) (w' := (w.drew.alloc (.cells #[.string (str s)] 9)).alloc (.cells #[] 9)) rfl (by kernel_rfl) rfl (by rfl) (by go_simp) trivial ?_
        simp only [List.setIfInBounds_toArray, List.set_cons_zero, List.set_cons_succ]
        refine oneA (i := 4) rfl (by kernel_rfl) rfl rfl (fun K hK => ?_)
        refine step_append_rec (w := (w.drew.alloc (.cells #[.string (str s)] 9)).alloc (.cells #[] 9)) rfl (.tmp 33) (.tmp 36) 25 rfl Try.underlying25 HTI.out.1 HTI.out.2.1 HTI.out.2.2.1 HTI.out.2.2.2 (by decide) (by decide) rfl hC1.2 rfl (HHR.out.only hC1.1 (by simp)) (by intro r hr; unfold svs at hr; obtain ⟨y, _, rfl⟩ := List.mem_map.1 hr; rfl) (by intro r hr u hu; unfold svs at hr; obtain ⟨y, _, rfl⟩ := List.mem_map.1 hr; rw [List.mem_singleton.1 hu]; rfl) (by omega) (by unfold maxLen; omega) hC1.1.size ?_
        intro v4 w6 hE4
        have hm4 := hC1.ext hE4
        refine hK _ _ trivial ?_
        clear hK K
        try simp only [List.setIfInBounds_toArray, List.set_cons_zero, List.set_cons_succ]
        have hrc : Recs w6 (w.heap.size + 1) 1 (some ⟨w.heap.size, 0, none⟩) 1 [[.string (str s)]] := by
          have h0 := (Recs.const1 w.drew [.string (str s)] #[.string (str s)] 9 1 (0, 0) rfl rfl).only ((Only.refl [] _).alloc (.cells #[] 9)) (by simp)
          refine h0.only hE4.only (fun g hg hm => ?_)
          have e1 : g = w.heap.size := by simpa [blkOf] using hg
          have hm2 : g ∈ ownL (.slice (some ⟨w.heap.size + 1, 0, none⟩) 0 0) := hm
          have e2 : g = w.heap.size + 1 := by simpa [ownL, Value.ownBlock] using hm2
          omega
        refine oneA (i := 7) rfl (by kernel_rfl) rfl rfl (fun K hK => ?_)
        refine step_append_rec (w := w6) rfl (.tmp 37) (.tmp 39) 25 rfl Try.underlying25 HTI.out.1 HTI.out.2.1 HTI.out.2.2.1 HTI.out.2.2.2 (by decide) (by decide) rfl hm4.2 rfl hrc (by intro r hr; rw [List.mem_singleton.1 hr]; rfl) (by intro r hr u hu; rw [List.mem_singleton.1 hr] at hu; rw [List.mem_singleton.1 hu]; rfl) (by omega) (by unfold maxLen; omega) hm4.1.size ?_
        intro v7 w7 hE7
        have hm7 := hm4.ext hE7
        refine hK _ _ trivial ?_
        clear hK K
        try simp only [List.setIfInBounds_toArray, List.set_cons_zero, List.set_cons_succ]
        refine oneA (i := 11) rfl (by kernel_rfl) rfl rfl (fun K hK => ?_)
        refine step_append_rec (w := w7) rfl (.tmp 40) (.tmp 43) 25 rfl Try.underlying25 HTI.out.1 HTI.out.2.1 HTI.out.2.2.1 HTI.out.2.2.2 (by decide) (by decide) rfl hm7.2 rfl (HTR.out.only hm7.1 (by simp)) (by intro r hr; unfold svs at hr; obtain ⟨y, _, rfl⟩ := List.mem_map.1 hr; rfl) (by intro r hr u hu; unfold svs at hr; obtain ⟨y, _, rfl⟩ := List.mem_map.1 hr; rw [List.mem_singleton.1 hu]; rfl) (by omega) (by unfold maxLen; omega) hm7.1.size ?_
        intro v8 w8 hE8
        have hm8 := hm7.ext hE8
        refine hK _ _ trivial ?_
        clear hK K
        try simp only [List.setIfInBounds_toArray, List.set_cons_zero, List.set_cons_succ]
        refine takeW (i := 12) rfl (by kernel_rfl) (by kernel_rfl) (by kernel_rfl) (fun _ _ _ h => h) rfl (by rfl) (v := v8) (fun Y hY => by go_simp) hS ?_
        simp only [List.setIfInBounds_toArray, List.set_cons_zero, List.set_cons_succ]
        refine wpAnyH_done (by kernel_rfl) ?_ _
        have HM8 := Lib.hid hm8
        clear hm8 hm7
        go_wp2_with fail
        go_ret
        exact HFIN.out _ _ HM8.out.2 HM8.out.1
end
end Go.Proofs.Ytdfiibnpckahnaa.Graph
