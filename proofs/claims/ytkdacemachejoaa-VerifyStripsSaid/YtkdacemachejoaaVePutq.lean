/- Chapter 41's put of the document. PRINTED by wip/gen_veput.py. -/
import Derived.Test.YtkdacemachejoaaKnowsA
import Derived.Test.YtkdacemachejoaaRanges
namespace Go.Proofs.Ytkdacemachejoaa.Vm
open Go.RowKit Go.Shelf Go.Maps Object
set_option linter.unusedVariables false
set_option maxRecDepth 100000
/-- a number into a list that rises, once -/
def putL : List Nat → Nat → List Nat
  | [], s => [s]
  | a :: t, s => if a < s then a :: putL t s else if a = s then a :: t else s :: a :: t
theorem mem_put : ∀ {l : List Nat} {s x : Nat}, x ∈ putL l s ↔ x = s ∨ x ∈ l
  | [], s, x => by simp [putL]
  | a :: t, s, x => by
    unfold putL
    split
    · rw [List.mem_cons, mem_put, List.mem_cons]
      constructor
      · rintro (h | h | h)
        · exact .inr (.inl h)
        · exact .inl h
        · exact .inr (.inr h)
      · rintro (h | h | h)
        · exact .inr (.inl h)
        · exact .inl h
        · exact .inr (.inr h)
    · split
      · rename_i h
        subst h
        simp
      · simp
theorem Asc.put : ∀ {l : List Nat} {s : Nat}, Asc l → Asc (putL l s)
  | [], s, _ => by unfold putL Asc; simp
  | a :: t, s, h => by
    unfold Asc at h
    obtain ⟨h1, h2⟩ := List.pairwise_cons.1 h
    unfold putL
    split
    · rename_i hs
      refine List.pairwise_cons.2 ⟨fun x hx => ?_, Asc.put h2⟩
      rcases mem_put.1 hx with rfl | hx
      · exact hs
      · exact h1 x hx
    · rename_i hs
      split
      · exact h
      · rename_i hn
        refine List.pairwise_cons.2 ⟨fun x hx => ?_, h⟩
        rcases List.mem_cons.1 hx with rfl | hx
        · omega
        · have := h1 x hx; omega
/-- where a number goes -/
theorem putL_at : ∀ {l : List Nat} {s : Nat} {k : Nat}, (∀ i, i < k → ∃ a, l[i]? = some a ∧ a < s) → (∀ a, l[k]? = some a → ¬ a < s) → k ≤ l.length → putL l s = if l[k]? = some s then l else l.take k ++ [s] ++ l.drop k
  | [], s, k, _, _, hk => by
    have : k = 0 := by simpa using hk
    subst this
    rfl
  | a :: t, s, 0, _, h2, _ => by
    have := h2 a rfl
    unfold putL
    rw [if_neg this]
    by_cases e : a = s
    · subst e; simp
    · rw [if_neg e, if_neg (by simpa using e)]; rfl
  | a :: t, s, k + 1, h1, h2, hk => by
    obtain ⟨b, hb, hlt⟩ := h1 0 (by omega)
    injection hb with hb
    subst hb
    have ih := putL_at (l := t) (s := s) (k := k) (fun i hi => by have := h1 (i + 1) (by omega); simpa using this) (fun x hx => h2 x (by simpa using hx)) (by simp at hk; omega)
    unfold putL
    rw [if_pos hlt, ih]
    by_cases e : t[k]? = some s
    · rw [if_pos e, if_pos (by simpa using e)]
    · rw [if_neg e, if_neg (by simpa using e)]; simp
theorem reads_intsR {w : World} {B n : Nat} {A : Option Addr} {l : List Nat} (hl : l.length = n) (h : Reads w B 1 A n (l.map nv)) : Recs w B 1 A n (intsR l) :=
  Reads.recs (by decide) (by rw [intsR_len]; exact hl) (by intro r hr; unfold intsR at hr; obtain ⟨x, _, rfl⟩ := List.mem_map.1 hr; rfl) (by rw [intsR_flat2]; exact h)
theorem sizeInt (w : World) : (Go.sizeOf 3).run Try.prog w = .ok 1 w := by kernel_rfl
theorem tail_run (A : Option Addr) (n c k : Nat) (hk : k ≤ n) (Y : World) : (Instr.slice 41 (.slice A n c) (some (.int .i64 (k : Int))) none none).run Try.prog Y = .ok (.slice (if c = k then A else A.map (·.add (k * 1))) (n - k) (c - k)) Y := by
  have ht : Try.prog.underlying 41 = some (.slice (Try.prog.elem 41)) := by simp [Program.elem, Try.underlying41]
  have he : Try.prog.elem 41 = 3 := by simp [Program.elem, Try.underlying41]
  rw [run_slice_l Y 41 _ _ _ ht .i64 _ (by omega) (by omega), he, sizeInt]
  simp [Result.andThen, sliced]
theorem head_run (A : Option Addr) (n c k : Nat) (hk : k ≤ c) (Y : World) : (Instr.slice 41 (.slice A n c) none (some (.int .i64 (k : Int))) none).run Try.prog Y = .ok (.slice A k c) Y := by
  have ht : Try.prog.underlying 41 = some (.slice (Try.prog.elem 41)) := by simp [Program.elem, Try.underlying41]
  have he : Try.prog.elem 41 = 3 := by simp [Program.elem, Try.underlying41]
  rw [run_slice_h Y 41 _ _ _ ht .i64 _ (by omega) (by omega), he, sizeInt]
  cases A with
  | none => simp [Result.andThen, sliced]
  | some a => by_cases e : c = 0 <;> simp [Result.andThen, sliced, Addr.add, e]
theorem recs_reads {w : World} {B n : Nat} {A : Option Addr} {l : List Nat} (h : Recs w B 1 A n (intsR l)) : Reads w B 1 A n (l.map nv) := by
  have := h.reads (by decide) (by intro r hr; unfold intsR at hr; obtain ⟨x, _, rfl⟩ := List.mem_map.1 hr; rfl)
  rwa [intsR_flat2] at this
theorem recs_len {w : World} {B n : Nat} {A : Option Addr} {l : List Nat} (h : Recs w B 1 A n (intsR l)) : l.length = n := by have := h.1; simpa [intsR] using this
theorem recs_tail {w : World} {B n : Nat} {A : Option Addr} {l : List Nat} (h : Recs w B 1 A n (intsR l)) {k c : Nat} (hk : k ≤ n) (hc : n ≤ c) : Recs w B 1 (if c = k then A else A.map (·.add (k * 1))) (n - k) (intsR (l.drop k)) := by
  have h1 := (recs_reads h).cut hk hc
  refine reads_intsR (by rw [List.length_drop, recs_len h]) ?_
  rw [List.map_drop]
  simpa using h1
theorem recs_head {w : World} {B n : Nat} {A : Option Addr} {l : List Nat} (h : Recs w B 1 A n (intsR l)) {k : Nat} (hk : k ≤ n) : Recs w B 1 A k (intsR (l.take k)) := by
  have h1 := (recs_reads h).head hk
  refine reads_intsR (by rw [List.length_take, recs_len h]; omega) ?_
  rw [List.map_take]
  simpa using h1
theorem row_empty {e size : Nat} (w : World) : OwnR e size (w.alloc (.cells #[] e)) w.heap.size (.slice (some ⟨w.heap.size, 0, none⟩) 0 0) 0 [] := by
  refine ⟨rfl, by simp, ⟨by simp, .inr ⟨w.heap.size, 0, #[], rfl, Nat.le_refl _, ?_, Nat.le_refl _, by simp [maxLen], by simp, by simp⟩⟩⟩
  exact heap_alloc_new w _
/-- a list that grows, made since w5 -/
def MSt (w5 w1 : World) (v : Value) (n : Nat) (rows : List (List Value)) : Prop := Only [] w5 w1 ∧ OwnR 3 1 w1 w5.heap.size v n rows
section
variable {w5 w1 w2 : World} {v v' : Value} {n n' : Nat} {rows rows' : List (List Value)}
theorem MSt.ext (h : MSt w5 w1 v n rows) (hE : ExtR 3 1 w1 w2 w5.heap.size v v' n' rows') : MSt w5 w2 v' n' rows' := ⟨h.1.trans hE.only (fun g hg => .inr (h.2.lt g hg).1), hE.own⟩
theorem MSt.alloc (h : MSt w5 w1 v n rows) (o : Obj) : MSt w5 (w1.alloc o) v n rows := ⟨h.1.alloc o, h.2.alloc o⟩
theorem MSt.start {w5 wd : World} (h : Only [] w5 wd) : MSt w5 (wd.alloc (.cells #[] 3)) (.slice (some ⟨wd.heap.size, 0, none⟩) 0 0) 0 [] := ⟨h.alloc _, (row_empty wd).mono h.size⟩
end
section
variable {w w' : World}
/-- what put leaves -/
def PutO (w : World) (base : Nat) (v0 : Value) (l : List Nat) (s : Nat) (y : Ending) (w' : World) : Prop := ∃ v, y = .returned v ∧ OwnR 3 1 w' base v (putL l s).length (intsR (putL l s)) ∧ Only [] w w' ∧ FreshV w v0 v
theorem put_fin {v0 : Value} {n k nt base : Nat} {l : List Nat} {s : Nat} {w : World} (hF : putL l s = l.take k ++ [s] ++ l.drop k) (hl : l.length = n) (hk : k ≤ n) (hnt : n - k = nt) (hb : base ≤ w.heap.size) :
    ∀ v8 w8, OwnR 3 1 w8 w.heap.size v8 (0 + k + 1 + nt) ([] ++ intsR (l.take k) ++ [[.int .i64 (s : Int)]] ++ intsR (l.drop k)) → Only [] w w8 → PutO w base v0 l s (.returned v8) w8 := by
  intro v8 w8 h ho
  refine ⟨v8, rfl, ?_, ho, fun g hg => .inr (h.lt g hg).1⟩
  have e1 : (putL l s).length = 0 + k + 1 + nt := by
    rw [hF]
    simp only [List.length_append, List.length_take, List.length_drop, List.length_cons, List.length_nil]
    omega
  have e2 : intsR (putL l s) = [] ++ intsR (l.take k) ++ [[.int .i64 (s : Int)]] ++ intsR (l.drop k) := by
    rw [hF]
    simp [intsR, intsR]
  rw [e1, e2]
  exact h.mono hb
set_option maxHeartbeats 8000000 in
theorem rput_any {A : Option Addr} {n c base : Nat} {l : List Nat} (s : Nat) (w : World) (hown : OwnR 3 1 w base (.slice A n c) n (intsR l)) (hb : base ≤ w.heap.size) (hn : n ≤ 100000) :
    Calls Try.prog 32 #[.slice A n c, .int .i64 (s : Int)] w fun y w' => PutO w base (.slice A n c) l s y w' := by
  obtain ⟨A', c', e, hc, hmx, hr, _⟩ := hown.shape (by decide)
  injection e with e1 e2 e3
  subst e1
  subst e3
  have HL := Lib.hid (recs_len hr)
  have HR := Lib.hid hr
  have HOWN := Lib.hid hown
  obtain ⟨ti, hti, htz, hi2, hi3⟩ := info_parts int_info
  have HTI := Lib.hid (And.intro hti (And.intro htz (And.intro hi2 hi3)))
  clear hr hown e2 hti htz hi2 hi3
  go_enter Try.func32, Try.ntmps32
  go_wp2_with fail
  go_loopw [5] (fun kv wr => ∃ k : Nat, kv = .int .i64 k ∧ k ≤ n ∧ (∀ i, i < k → ∃ a, l[i]? = some a ∧ a < s) ∧ wr = w) (fun kv _ => n - (intOf kv).toNat)
  case atStart => exact ⟨0, rfl, by omega, fun i hi => by omega, rfl⟩
  case round =>
    obtain ⟨k, rfl, hk, hlow, hwr⟩ := hrel
    have hwr := hwr.symm
    subst hwr
    have HLOW := Lib.hid hlow
    clear hlow
    by_cases hlt : k < n
    · have d1 : decide ((k : Int) < (n : Int)) = true := decide_eq_true (by omega)
      obtain ⟨b, o, hA, _, hcl⟩ := HR.out.at_ 0 hlt
      subst hA
      have q := hcl 0 (by decide)
      simp only [Nat.mul_one, Nat.add_zero, intsR] at q
      obtain ⟨t, ht⟩ : ∃ t, l.getD k 0 = t := ⟨_, rfl⟩
      rw [ht] at q
      have g : l[k]? = some t := by rw [← ht, List.getD_eq_getElem?_getD, List.getElem?_eq_getElem (by rw [HL.out]; exact hlt)]; rfl
      have G := Lib.hid g
      clear hcl ht g
      by_cases hts : t < s
      · have e5 : decide ((t : Int) < (s : Int)) = true := decide_eq_true (by omega)
        have e5n : decide (t < s) = true := decide_eq_true hts
        have HNX : Hid (∀ i, i < k + 1 → ∃ a, l[i]? = some a ∧ a < s) := Lib.hid (fun i hi => by
          rcases Nat.lt_or_ge i k with h | h
          · exact HLOW.out i h
          · obtain rfl : i = k := by omega
            exact ⟨t, G.out, hts⟩)
        clear hts
        go_wp2_with fail
        go_roundw
        case measure => simp [intOf]; omega
        case rel => exact ⟨k + 1, by go_num, by omega, HNX.out, trivial⟩
      · have e5 : decide ((t : Int) < (s : Int)) = false := decide_eq_false (by omega)
        have e5n : decide (t < s) = false := decide_eq_false hts
        have HPL := Lib.hid (putL_at (l := l) (s := s) (k := k) HLOW.out (fun a ha => by rw [G.out] at ha; injection ha with ha; rw [← ha]; exact hts) (by rw [HL.out]; exact hk))
        clear hts
        by_cases he : t = s
        · have e6 : ((t : Int) == (s : Int)) = true := by simp [he]
          have HF : Hid (putL l s = l) := Lib.hid (by rw [HPL.out, if_pos (by rw [G.out, he])])
          clear he
          go_wp2_with fail
          go_ret
          refine ⟨_, rfl, ?_, Only.refl _ _, FreshV.refl _ _⟩
          rw [HF.out, HL.out]
          exact HOWN.out
        · have e6 : ((t : Int) == (s : Int)) = false := by simp; omega
          have HF : Hid (putL l s = l.take k ++ [s] ++ l.drop k) := Lib.hid (by rw [HPL.out, if_neg (by rw [G.out]; intro e; injection e with e; exact he e)])
          clear he
          go_wp2_with fail
          clear q e5 e5n e6
          obtain ⟨nt, hnt⟩ : ∃ nt, n - k = nt := ⟨_, rfl⟩
          obtain ⟨At, ct, hT1, hT2⟩ : ∃ At ct, (∀ Y, (Instr.slice 41 (.slice (some ⟨b, o, none⟩) n c) (some (.int .i64 (k : Int))) none none).run Try.prog Y = .ok (.slice At nt ct) Y) ∧ Recs w w.heap.size 1 At nt (intsR (l.drop k)) := by
            rw [← hnt]
            exact ⟨_, _, tail_run (some ⟨b, o, none⟩) n c k hk, recs_tail HR.out hk hc⟩
          have HSL := Lib.hid (head_run (some ⟨b, o, none⟩) n c k (by omega))
          have HST := Lib.hid hT1
          have HTR := Lib.hid hT2
          have HHR := Lib.hid (recs_head HR.out hk)
          have HFIN : Hid (∀ v8 w8, OwnR 3 1 w8 w.heap.size v8 (0 + k + 1 + nt) ([] ++ intsR (l.take k) ++ [[.int .i64 (s : Int)]] ++ intsR (l.drop k)) → Only [] w w8 → PutO w base (.slice (some ⟨b, o, none⟩) n c) l s (.returned v8) w8) := Lib.hid (put_fin HF.out HL.out hk hnt hb)
          have hnl : nt ≤ 100000 := by omega
          clear hT1 hT2 hnt d1
          refine wp_region_hand (S := (fun _ => True)) (by kernel_rfl) ?_
          have hS : True := trivial
          refine takeW (i := 1) rfl (by kernel_rfl) (by kernel_rfl) (by kernel_rfl) (fun _ _ _ h => h) rfl (by rfl) (v := .slice (some ⟨b, o, none⟩) n c) (fun Y hY => by go_simp) hS ?_
          simp only [List.setIfInBounds_toArray, List.set_cons_zero, List.set_cons_succ]
          refine takeW (i := 2) rfl (by kernel_rfl) (by kernel_rfl) (by kernel_rfl) (fun _ _ _ h => h) rfl (by rfl) (v := .int .i64 (k : Int)) (fun Y hY => by go_simp) hS ?_
          simp only [List.setIfInBounds_toArray, List.set_cons_zero, List.set_cons_succ]
          refine takeW (i := 3) rfl (by kernel_rfl) (by kernel_rfl) (by kernel_rfl) (fun _ _ _ h => h) rfl (by rfl) (v := .slice (some ⟨b, o, none⟩) k c) (fun Y hY => by have h := HSL.out Y; go_simp) hS ?_
          simp only [List.setIfInBounds_toArray, List.set_cons_zero, List.set_cons_succ]
          refine takeW (i := 5) rfl (by kernel_rfl) (by kernel_rfl) (by kernel_rfl) (fun _ _ _ h => h) rfl (by rfl) (v := .int .i64 (s : Int)) (fun Y hY => by go_simp) hS ?_
          simp only [List.setIfInBounds_toArray, List.set_cons_zero, List.set_cons_succ]
          refine takeW (i := 8) rfl (by kernel_rfl) (by kernel_rfl) (by kernel_rfl) (fun _ _ _ h => h) rfl (by rfl) (v := .slice (some ⟨b, o, none⟩) n c) (fun Y hY => by go_simp) hS ?_
          simp only [List.setIfInBounds_toArray, List.set_cons_zero, List.set_cons_succ]
          refine takeW (i := 9) rfl (by kernel_rfl) (by kernel_rfl) (by kernel_rfl) (fun _ _ _ h => h) rfl (by rfl) (v := .int .i64 (k : Int)) (fun Y hY => by go_simp) hS ?_
          simp only [List.setIfInBounds_toArray, List.set_cons_zero, List.set_cons_succ]
          refine takeW (i := 10) rfl (by kernel_rfl) (by kernel_rfl) (by kernel_rfl) (fun _ _ _ h => h) rfl (by rfl) (v := .slice At nt ct) (fun Y hY => by have h := HST.out Y; go_simp) hS ?_
          simp only [List.setIfInBounds_toArray, List.set_cons_zero, List.set_cons_succ]
          have hd5 : Only [] w w.drew := (Only.refl [] w).drew
          have hA0 := MSt.start hd5
          have hAC := hA0.alloc (.cells #[.int .i64 (s : Int)] 3)
          have hC0 : Only [] w (w.drew.alloc (.cells #[.int .i64 (s : Int)] 3)) := hd5.alloc _
          have hC1 : MSt w ((w.drew.alloc (.cells #[.int .i64 (s : Int)] 3)).alloc (.cells #[] 3)) (.slice (some ⟨w.heap.size + 1, 0, none⟩) 0 0) 0 [] := by
            have h := MSt.start hC0
            rw [World.size_alloc] at h
            exact h
          refine twoW (i := 0) (j := 6) (vi := .slice (some ⟨w.heap.size, 0, none⟩) 0 0) (vj := .slice (some ⟨w.heap.size, 0, none⟩) 1 1) (wi := w.drew.alloc (.cells #[] 3)) (wj := w.drew.alloc (.cells #[.int .i64 (s : Int)] 3)) rfl rfl (by kernel_rfl) rfl rfl (by rfl) (by rfl) (by go_simp) (by go_simp) trivial trivial ?_ ?_
          · simp only [List.setIfInBounds_toArray, List.set_cons_zero, List.set_cons_succ]
            refine twoH (i := 4) (j := 6) rfl rfl (by kernel_rfl) rfl rfl ?_ ?_
            · refine law_if (i := 4) rfl (fun K hK => ?_)
              refine step_append_rec (w := w.drew.alloc (.cells #[] 3)) rfl (.tmp 33) (.tmp 36) 41 rfl Try.underlying41 HTI.out.1 HTI.out.2.1 HTI.out.2.2.1 HTI.out.2.2.2 (by decide) (by decide) rfl hA0.2 rfl (HHR.out.only hA0.1 (by simp)) (by intro r hr; unfold intsR at hr; obtain ⟨y, _, rfl⟩ := List.mem_map.1 hr; rfl) (by intro r hr u hu; unfold intsR at hr; obtain ⟨y, _, rfl⟩ := List.mem_map.1 hr; rw [List.mem_singleton.1 hu]; rfl) (by omega) (by unfold maxLen; omega) hA0.1.size ?_
              intro v4 w6 hE4
              have hm4 := hA0.ext hE4
              refine hK _ _ trivial ?_
              clear hK K
              try simp only [List.setIfInBounds_toArray, List.set_cons_zero, List.set_cons_succ]
              have hm5 := hm4.alloc (.cells #[.int .i64 (s : Int)] 3)
              refine oneW (i := 6) (v := .slice (some ⟨w6.heap.size, 0, none⟩) 1 1) (w' := w6.alloc (.cells #[.int .i64 (s : Int)] 3)) rfl (by kernel_rfl) rfl (by rfl) (by go_simp) trivial ?_
              simp only [List.setIfInBounds_toArray, List.set_cons_zero, List.set_cons_succ]
              refine oneA (i := 7) rfl (by kernel_rfl) rfl rfl (fun K hK => ?_)
              refine step_append_rec (w := w6.alloc (.cells #[.int .i64 (s : Int)] 3)) rfl (.tmp 37) (.tmp 39) 41 rfl Try.underlying41 HTI.out.1 HTI.out.2.1 HTI.out.2.2.1 HTI.out.2.2.2 (by decide) (by decide) rfl hm5.2 rfl (Recs.const1 w6 [.int .i64 (s : Int)] #[.int .i64 (s : Int)] 3 1 _ rfl rfl) (by intro r hr; rw [List.mem_singleton.1 hr]; rfl) (by intro r hr u hu; rw [List.mem_singleton.1 hr] at hu; rw [List.mem_singleton.1 hu]; rfl) (by omega) (by unfold maxLen; omega) hm5.1.size ?_
              intro v7 w7 hE7
              have hm7 := hm5.ext hE7
              refine hK _ _ trivial ?_
              clear hK K
              try simp only [List.setIfInBounds_toArray, List.set_cons_zero, List.set_cons_succ]
              refine oneA (i := 11) rfl (by kernel_rfl) rfl rfl (fun K hK => ?_)
              refine step_append_rec (w := w7) rfl (.tmp 40) (.tmp 43) 41 rfl Try.underlying41 HTI.out.1 HTI.out.2.1 HTI.out.2.2.1 HTI.out.2.2.2 (by decide) (by decide) rfl hm7.2 rfl (HTR.out.only hm7.1 (by simp)) (by intro r hr; unfold intsR at hr; obtain ⟨y, _, rfl⟩ := List.mem_map.1 hr; rfl) (by intro r hr u hu; unfold intsR at hr; obtain ⟨y, _, rfl⟩ := List.mem_map.1 hr; rw [List.mem_singleton.1 hu]; rfl) (by omega) (by unfold maxLen; omega) hm7.1.size ?_
              intro v8 w8 hE8
              have hm8 := hm7.ext hE8
              refine hK _ _ trivial ?_
              clear hK K
              try simp only [List.setIfInBounds_toArray, List.set_cons_zero, List.set_cons_succ]
              refine takeW (i := 12) rfl (by kernel_rfl) (by kernel_rfl) (by kernel_rfl) (fun _ _ _ h => h) rfl (by rfl) (v := v8) (fun Y hY => by go_simp) hS ?_
              simp only [List.setIfInBounds_toArray, List.set_cons_zero, List.set_cons_succ]
              refine wpAnyH_done (by kernel_rfl) ?_ _
              have HM8 := Lib.hid hm8
              clear hm8 hm7
              go_wp2_with fail
              go_ret
              exact HFIN.out _ _ HM8.out.2 HM8.out.1
            · refine val_if (v := .slice (some ⟨w.heap.size + 1, 0, none⟩) 1 1) (w' := (w.drew.alloc (.cells #[] 3)).alloc (.cells #[.int .i64 (s : Int)] 3)) rfl (by rfl) (by go_simp) ?_
              refine ⟨trivial, ?_⟩
              simp only [List.setIfInBounds_toArray, List.set_cons_zero, List.set_cons_succ]
              refine oneA (i := 4) rfl (by kernel_rfl) rfl rfl (fun K hK => ?_)
              refine step_append_rec (w := (w.drew.alloc (.cells #[] 3)).alloc (.cells #[.int .i64 (s : Int)] 3)) rfl (.tmp 33) (.tmp 36) 41 rfl Try.underlying41 HTI.out.1 HTI.out.2.1 HTI.out.2.2.1 HTI.out.2.2.2 (by decide) (by decide) rfl hAC.2 rfl (HHR.out.only hAC.1 (by simp)) (by intro r hr; unfold intsR at hr; obtain ⟨y, _, rfl⟩ := List.mem_map.1 hr; rfl) (by intro r hr u hu; unfold intsR at hr; obtain ⟨y, _, rfl⟩ := List.mem_map.1 hr; rw [List.mem_singleton.1 hu]; rfl) (by omega) (by unfold maxLen; omega) hAC.1.size ?_
              intro v4 w6 hE4
              have hm4 := hAC.ext hE4
              refine hK _ _ trivial ?_
              clear hK K
              try simp only [List.setIfInBounds_toArray, List.set_cons_zero, List.set_cons_succ]
              have hrc : Recs w6 (w.heap.size + 1 + 1) 1 (some ⟨w.heap.size + 1, 0, none⟩) 1 [[.int .i64 (s : Int)]] := by
                have h0 := Recs.const1 (w.drew.alloc (.cells #[] 3)) [.int .i64 (s : Int)] #[.int .i64 (s : Int)] 3 1 (0, 0) rfl rfl
                rw [World.size_alloc] at h0
                refine h0.only hE4.only (fun g hg hm => ?_)
                have e1 : g = w.heap.size + 1 := by simpa [blkOf] using hg
                have hm2 : g ∈ ownL (.slice (some ⟨w.heap.size, 0, none⟩) 0 0) := hm
                have e2 : g = w.heap.size := by simpa [ownL, Value.ownBlock] using hm2
                omega
              refine oneA (i := 7) rfl (by kernel_rfl) rfl rfl (fun K hK => ?_)
              refine step_append_rec (w := w6) rfl (.tmp 37) (.tmp 39) 41 rfl Try.underlying41 HTI.out.1 HTI.out.2.1 HTI.out.2.2.1 HTI.out.2.2.2 (by decide) (by decide) rfl hm4.2 rfl hrc (by intro r hr; rw [List.mem_singleton.1 hr]; rfl) (by intro r hr u hu; rw [List.mem_singleton.1 hr] at hu; rw [List.mem_singleton.1 hu]; rfl) (by omega) (by unfold maxLen; omega) hm4.1.size ?_
              intro v7 w7 hE7
              have hm7 := hm4.ext hE7
              refine hK _ _ trivial ?_
              clear hK K
              try simp only [List.setIfInBounds_toArray, List.set_cons_zero, List.set_cons_succ]
              refine oneA (i := 11) rfl (by kernel_rfl) rfl rfl (fun K hK => ?_)
              refine step_append_rec (w := w7) rfl (.tmp 40) (.tmp 43) 41 rfl Try.underlying41 HTI.out.1 HTI.out.2.1 HTI.out.2.2.1 HTI.out.2.2.2 (by decide) (by decide) rfl hm7.2 rfl (HTR.out.only hm7.1 (by simp)) (by intro r hr; unfold intsR at hr; obtain ⟨y, _, rfl⟩ := List.mem_map.1 hr; rfl) (by intro r hr u hu; unfold intsR at hr; obtain ⟨y, _, rfl⟩ := List.mem_map.1 hr; rw [List.mem_singleton.1 hu]; rfl) (by omega) (by unfold maxLen; omega) hm7.1.size ?_
              intro v8 w8 hE8
              have hm8 := hm7.ext hE8
              refine hK _ _ trivial ?_
              clear hK K
              try simp only [List.setIfInBounds_toArray, List.set_cons_zero, List.set_cons_succ]
              refine takeW (i := 12) rfl (by kernel_rfl) (by kernel_rfl) (by kernel_rfl) (fun _ _ _ h => h) rfl (by rfl) (v := v8) (fun Y hY => by go_simp) hS ?_
              simp only [List.setIfInBounds_toArray, List.set_cons_zero, List.set_cons_succ]
              refine wpAnyH_done (by kernel_rfl) ?_ _
              have HM8 := Lib.hid hm8
              clear hm8 hm7
              go_wp2_with fail
              go_ret
              exact HFIN.out _ _ HM8.out.2 HM8.out.1
          · simp only [List.setIfInBounds_toArray, List.set_cons_zero, List.set_cons_succ]
            refine oneW (i := 0) (v := .slice (some ⟨w.heap.size + 1, 0, none⟩) 0 0) (w' := (w.drew.alloc (.cells #[.int .i64 (s : Int)] 3)).alloc (.cells #[] 3)) rfl (by kernel_rfl) rfl (by rfl) (by go_simp) trivial ?_
            simp only [List.setIfInBounds_toArray, List.set_cons_zero, List.set_cons_succ]
            refine oneA (i := 4) rfl (by kernel_rfl) rfl rfl (fun K hK => ?_)
            refine step_append_rec (w := (w.drew.alloc (.cells #[.int .i64 (s : Int)] 3)).alloc (.cells #[] 3)) rfl (.tmp 33) (.tmp 36) 41 rfl Try.underlying41 HTI.out.1 HTI.out.2.1 HTI.out.2.2.1 HTI.out.2.2.2 (by decide) (by decide) rfl hC1.2 rfl (HHR.out.only hC1.1 (by simp)) (by intro r hr; unfold intsR at hr; obtain ⟨y, _, rfl⟩ := List.mem_map.1 hr; rfl) (by intro r hr u hu; unfold intsR at hr; obtain ⟨y, _, rfl⟩ := List.mem_map.1 hr; rw [List.mem_singleton.1 hu]; rfl) (by omega) (by unfold maxLen; omega) hC1.1.size ?_
            intro v4 w6 hE4
            have hm4 := hC1.ext hE4
            refine hK _ _ trivial ?_
            clear hK K
            try simp only [List.setIfInBounds_toArray, List.set_cons_zero, List.set_cons_succ]
            have hrc : Recs w6 (w.heap.size + 1) 1 (some ⟨w.heap.size, 0, none⟩) 1 [[.int .i64 (s : Int)]] := by
              have h0 := (Recs.const1 w.drew [.int .i64 (s : Int)] #[.int .i64 (s : Int)] 3 1 (0, 0) rfl rfl).only ((Only.refl [] _).alloc (.cells #[] 3)) (by simp)
              refine h0.only hE4.only (fun g hg hm => ?_)
              have e1 : g = w.heap.size := by simpa [blkOf] using hg
              have hm2 : g ∈ ownL (.slice (some ⟨w.heap.size + 1, 0, none⟩) 0 0) := hm
              have e2 : g = w.heap.size + 1 := by simpa [ownL, Value.ownBlock] using hm2
              omega
            refine oneA (i := 7) rfl (by kernel_rfl) rfl rfl (fun K hK => ?_)
            refine step_append_rec (w := w6) rfl (.tmp 37) (.tmp 39) 41 rfl Try.underlying41 HTI.out.1 HTI.out.2.1 HTI.out.2.2.1 HTI.out.2.2.2 (by decide) (by decide) rfl hm4.2 rfl hrc (by intro r hr; rw [List.mem_singleton.1 hr]; rfl) (by intro r hr u hu; rw [List.mem_singleton.1 hr] at hu; rw [List.mem_singleton.1 hu]; rfl) (by omega) (by unfold maxLen; omega) hm4.1.size ?_
            intro v7 w7 hE7
            have hm7 := hm4.ext hE7
            refine hK _ _ trivial ?_
            clear hK K
            try simp only [List.setIfInBounds_toArray, List.set_cons_zero, List.set_cons_succ]
            refine oneA (i := 11) rfl (by kernel_rfl) rfl rfl (fun K hK => ?_)
            refine step_append_rec (w := w7) rfl (.tmp 40) (.tmp 43) 41 rfl Try.underlying41 HTI.out.1 HTI.out.2.1 HTI.out.2.2.1 HTI.out.2.2.2 (by decide) (by decide) rfl hm7.2 rfl (HTR.out.only hm7.1 (by simp)) (by intro r hr; unfold intsR at hr; obtain ⟨y, _, rfl⟩ := List.mem_map.1 hr; rfl) (by intro r hr u hu; unfold intsR at hr; obtain ⟨y, _, rfl⟩ := List.mem_map.1 hr; rw [List.mem_singleton.1 hu]; rfl) (by omega) (by unfold maxLen; omega) hm7.1.size ?_
            intro v8 w8 hE8
            have hm8 := hm7.ext hE8
            refine hK _ _ trivial ?_
            clear hK K
            try simp only [List.setIfInBounds_toArray, List.set_cons_zero, List.set_cons_succ]
            refine takeW (i := 12) rfl (by kernel_rfl) (by kernel_rfl) (by kernel_rfl) (fun _ _ _ h => h) rfl (by rfl) (v := v8) (fun Y hY => by go_simp) hS ?_
            simp only [List.setIfInBounds_toArray, List.set_cons_zero, List.set_cons_succ]
            refine wpAnyH_done (by kernel_rfl) ?_ _
            have HM8 := Lib.hid hm8
            clear hm8 hm7
            go_wp2_with fail
            go_ret
            exact HFIN.out _ _ HM8.out.2 HM8.out.1
    · have hkn : k = n := by omega
      have d1 : decide ((k : Int) < (n : Int)) = false := decide_eq_false (by omega)
      have hnone : l[k]? = none := List.getElem?_eq_none (by rw [HL.out]; omega)
      have HF : Hid (putL l s = l.take k ++ [s] ++ l.drop k) := Lib.hid (by rw [putL_at (k := k) HLOW.out (fun a ha => by rw [hnone] at ha; cases ha) (by rw [HL.out]; exact hk), if_neg (by rw [hnone]; simp)])
      clear hnone hkn
      go_wp2_with fail
      obtain ⟨nt, hnt⟩ : ∃ nt, n - k = nt := ⟨_, rfl⟩
      obtain ⟨At, ct, hT1, hT2⟩ : ∃ At ct, (∀ Y, (Instr.slice 41 (.slice A n c) (some (.int .i64 (k : Int))) none none).run Try.prog Y = .ok (.slice At nt ct) Y) ∧ Recs w w.heap.size 1 At nt (intsR (l.drop k)) := by
        rw [← hnt]
        exact ⟨_, _, tail_run A n c k hk, recs_tail HR.out hk hc⟩
      have HSL := Lib.hid (head_run A n c k (by omega))
      have HST := Lib.hid hT1
      have HTR := Lib.hid hT2
      have HHR := Lib.hid (recs_head HR.out hk)
      have HFIN : Hid (∀ v8 w8, OwnR 3 1 w8 w.heap.size v8 (0 + k + 1 + nt) ([] ++ intsR (l.take k) ++ [[.int .i64 (s : Int)]] ++ intsR (l.drop k)) → Only [] w w8 → PutO w base (.slice A n c) l s (.returned v8) w8) := Lib.hid (put_fin HF.out HL.out hk hnt hb)
      have hnl : nt ≤ 100000 := by omega
      clear hT1 hT2 hnt d1
      refine wp_region_hand (S := (fun _ => True)) (by kernel_rfl) ?_
      have hS : True := trivial
      refine takeW (i := 1) rfl (by kernel_rfl) (by kernel_rfl) (by kernel_rfl) (fun _ _ _ h => h) rfl (by rfl) (v := .slice A n c) (fun Y hY => by go_simp) hS ?_
      simp only [List.setIfInBounds_toArray, List.set_cons_zero, List.set_cons_succ]
      refine takeW (i := 2) rfl (by kernel_rfl) (by kernel_rfl) (by kernel_rfl) (fun _ _ _ h => h) rfl (by rfl) (v := .int .i64 (k : Int)) (fun Y hY => by go_simp) hS ?_
      simp only [List.setIfInBounds_toArray, List.set_cons_zero, List.set_cons_succ]
      refine takeW (i := 3) rfl (by kernel_rfl) (by kernel_rfl) (by kernel_rfl) (fun _ _ _ h => h) rfl (by rfl) (v := .slice A k c) (fun Y hY => by have h := HSL.out Y; go_simp) hS ?_
      simp only [List.setIfInBounds_toArray, List.set_cons_zero, List.set_cons_succ]
      refine takeW (i := 5) rfl (by kernel_rfl) (by kernel_rfl) (by kernel_rfl) (fun _ _ _ h => h) rfl (by rfl) (v := .int .i64 (s : Int)) (fun Y hY => by go_simp) hS ?_
      simp only [List.setIfInBounds_toArray, List.set_cons_zero, List.set_cons_succ]
      refine takeW (i := 8) rfl (by kernel_rfl) (by kernel_rfl) (by kernel_rfl) (fun _ _ _ h => h) rfl (by rfl) (v := .slice A n c) (fun Y hY => by go_simp) hS ?_
      simp only [List.setIfInBounds_toArray, List.set_cons_zero, List.set_cons_succ]
      refine takeW (i := 9) rfl (by kernel_rfl) (by kernel_rfl) (by kernel_rfl) (fun _ _ _ h => h) rfl (by rfl) (v := .int .i64 (k : Int)) (fun Y hY => by go_simp) hS ?_
      simp only [List.setIfInBounds_toArray, List.set_cons_zero, List.set_cons_succ]
      refine takeW (i := 10) rfl (by kernel_rfl) (by kernel_rfl) (by kernel_rfl) (fun _ _ _ h => h) rfl (by rfl) (v := .slice At nt ct) (fun Y hY => by have h := HST.out Y; go_simp) hS ?_
      simp only [List.setIfInBounds_toArray, List.set_cons_zero, List.set_cons_succ]
      have hd5 : Only [] w w.drew := (Only.refl [] w).drew
      have hA0 := MSt.start hd5
      have hAC := hA0.alloc (.cells #[.int .i64 (s : Int)] 3)
      have hC0 : Only [] w (w.drew.alloc (.cells #[.int .i64 (s : Int)] 3)) := hd5.alloc _
      have hC1 : MSt w ((w.drew.alloc (.cells #[.int .i64 (s : Int)] 3)).alloc (.cells #[] 3)) (.slice (some ⟨w.heap.size + 1, 0, none⟩) 0 0) 0 [] := by
        have h := MSt.start hC0
        rw [World.size_alloc] at h
        exact h
      refine twoW (i := 0) (j := 6) (vi := .slice (some ⟨w.heap.size, 0, none⟩) 0 0) (vj := .slice (some ⟨w.heap.size, 0, none⟩) 1 1) (wi := w.drew.alloc (.cells #[] 3)) (wj := w.drew.alloc (.cells #[.int .i64 (s : Int)] 3)) rfl rfl (by kernel_rfl) rfl rfl (by rfl) (by rfl) (by go_simp) (by go_simp) trivial trivial ?_ ?_
      · simp only [List.setIfInBounds_toArray, List.set_cons_zero, List.set_cons_succ]
        refine twoH (i := 4) (j := 6) rfl rfl (by kernel_rfl) rfl rfl ?_ ?_
        · refine law_if (i := 4) rfl (fun K hK => ?_)
          refine step_append_rec (w := w.drew.alloc (.cells #[] 3)) rfl (.tmp 33) (.tmp 36) 41 rfl Try.underlying41 HTI.out.1 HTI.out.2.1 HTI.out.2.2.1 HTI.out.2.2.2 (by decide) (by decide) rfl hA0.2 rfl (HHR.out.only hA0.1 (by simp)) (by intro r hr; unfold intsR at hr; obtain ⟨y, _, rfl⟩ := List.mem_map.1 hr; rfl) (by intro r hr u hu; unfold intsR at hr; obtain ⟨y, _, rfl⟩ := List.mem_map.1 hr; rw [List.mem_singleton.1 hu]; rfl) (by omega) (by unfold maxLen; omega) hA0.1.size ?_
          intro v4 w6 hE4
          have hm4 := hA0.ext hE4
          refine hK _ _ trivial ?_
          clear hK K
          try simp only [List.setIfInBounds_toArray, List.set_cons_zero, List.set_cons_succ]
          have hm5 := hm4.alloc (.cells #[.int .i64 (s : Int)] 3)
          refine oneW (i := 6) (v := .slice (some ⟨w6.heap.size, 0, none⟩) 1 1) (w' := w6.alloc (.cells #[.int .i64 (s : Int)] 3)) rfl (by kernel_rfl) rfl (by rfl) (by go_simp) trivial ?_
          simp only [List.setIfInBounds_toArray, List.set_cons_zero, List.set_cons_succ]
          refine oneA (i := 7) rfl (by kernel_rfl) rfl rfl (fun K hK => ?_)
          refine step_append_rec (w := w6.alloc (.cells #[.int .i64 (s : Int)] 3)) rfl (.tmp 37) (.tmp 39) 41 rfl Try.underlying41 HTI.out.1 HTI.out.2.1 HTI.out.2.2.1 HTI.out.2.2.2 (by decide) (by decide) rfl hm5.2 rfl (Recs.const1 w6 [.int .i64 (s : Int)] #[.int .i64 (s : Int)] 3 1 _ rfl rfl) (by intro r hr; rw [List.mem_singleton.1 hr]; rfl) (by intro r hr u hu; rw [List.mem_singleton.1 hr] at hu; rw [List.mem_singleton.1 hu]; rfl) (by omega) (by unfold maxLen; omega) hm5.1.size ?_
          intro v7 w7 hE7
          have hm7 := hm5.ext hE7
          refine hK _ _ trivial ?_
          clear hK K
          try simp only [List.setIfInBounds_toArray, List.set_cons_zero, List.set_cons_succ]
          refine oneA (i := 11) rfl (by kernel_rfl) rfl rfl (fun K hK => ?_)
          refine step_append_rec (w := w7) rfl (.tmp 40) (.tmp 43) 41 rfl Try.underlying41 HTI.out.1 HTI.out.2.1 HTI.out.2.2.1 HTI.out.2.2.2 (by decide) (by decide) rfl hm7.2 rfl (HTR.out.only hm7.1 (by simp)) (by intro r hr; unfold intsR at hr; obtain ⟨y, _, rfl⟩ := List.mem_map.1 hr; rfl) (by intro r hr u hu; unfold intsR at hr; obtain ⟨y, _, rfl⟩ := List.mem_map.1 hr; rw [List.mem_singleton.1 hu]; rfl) (by omega) (by unfold maxLen; omega) hm7.1.size ?_
          intro v8 w8 hE8
          have hm8 := hm7.ext hE8
          refine hK _ _ trivial ?_
          clear hK K
          try simp only [List.setIfInBounds_toArray, List.set_cons_zero, List.set_cons_succ]
          refine takeW (i := 12) rfl (by kernel_rfl) (by kernel_rfl) (by kernel_rfl) (fun _ _ _ h => h) rfl (by rfl) (v := v8) (fun Y hY => by go_simp) hS ?_
          simp only [List.setIfInBounds_toArray, List.set_cons_zero, List.set_cons_succ]
          refine wpAnyH_done (by kernel_rfl) ?_ _
          have HM8 := Lib.hid hm8
          clear hm8 hm7
          go_wp2_with fail
          go_ret
          exact HFIN.out _ _ HM8.out.2 HM8.out.1
        · refine val_if (v := .slice (some ⟨w.heap.size + 1, 0, none⟩) 1 1) (w' := (w.drew.alloc (.cells #[] 3)).alloc (.cells #[.int .i64 (s : Int)] 3)) rfl (by rfl) (by go_simp) ?_
          refine ⟨trivial, ?_⟩
          simp only [List.setIfInBounds_toArray, List.set_cons_zero, List.set_cons_succ]
          refine oneA (i := 4) rfl (by kernel_rfl) rfl rfl (fun K hK => ?_)
          refine step_append_rec (w := (w.drew.alloc (.cells #[] 3)).alloc (.cells #[.int .i64 (s : Int)] 3)) rfl (.tmp 33) (.tmp 36) 41 rfl Try.underlying41 HTI.out.1 HTI.out.2.1 HTI.out.2.2.1 HTI.out.2.2.2 (by decide) (by decide) rfl hAC.2 rfl (HHR.out.only hAC.1 (by simp)) (by intro r hr; unfold intsR at hr; obtain ⟨y, _, rfl⟩ := List.mem_map.1 hr; rfl) (by intro r hr u hu; unfold intsR at hr; obtain ⟨y, _, rfl⟩ := List.mem_map.1 hr; rw [List.mem_singleton.1 hu]; rfl) (by omega) (by unfold maxLen; omega) hAC.1.size ?_
          intro v4 w6 hE4
          have hm4 := hAC.ext hE4
          refine hK _ _ trivial ?_
          clear hK K
          try simp only [List.setIfInBounds_toArray, List.set_cons_zero, List.set_cons_succ]
          have hrc : Recs w6 (w.heap.size + 1 + 1) 1 (some ⟨w.heap.size + 1, 0, none⟩) 1 [[.int .i64 (s : Int)]] := by
            have h0 := Recs.const1 (w.drew.alloc (.cells #[] 3)) [.int .i64 (s : Int)] #[.int .i64 (s : Int)] 3 1 (0, 0) rfl rfl
            rw [World.size_alloc] at h0
            refine h0.only hE4.only (fun g hg hm => ?_)
            have e1 : g = w.heap.size + 1 := by simpa [blkOf] using hg
            have hm2 : g ∈ ownL (.slice (some ⟨w.heap.size, 0, none⟩) 0 0) := hm
            have e2 : g = w.heap.size := by simpa [ownL, Value.ownBlock] using hm2
            omega
          refine oneA (i := 7) rfl (by kernel_rfl) rfl rfl (fun K hK => ?_)
          refine step_append_rec (w := w6) rfl (.tmp 37) (.tmp 39) 41 rfl Try.underlying41 HTI.out.1 HTI.out.2.1 HTI.out.2.2.1 HTI.out.2.2.2 (by decide) (by decide) rfl hm4.2 rfl hrc (by intro r hr; rw [List.mem_singleton.1 hr]; rfl) (by intro r hr u hu; rw [List.mem_singleton.1 hr] at hu; rw [List.mem_singleton.1 hu]; rfl) (by omega) (by unfold maxLen; omega) hm4.1.size ?_
          intro v7 w7 hE7
          have hm7 := hm4.ext hE7
          refine hK _ _ trivial ?_
          clear hK K
          try simp only [List.setIfInBounds_toArray, List.set_cons_zero, List.set_cons_succ]
          refine oneA (i := 11) rfl (by kernel_rfl) rfl rfl (fun K hK => ?_)
          refine step_append_rec (w := w7) rfl (.tmp 40) (.tmp 43) 41 rfl Try.underlying41 HTI.out.1 HTI.out.2.1 HTI.out.2.2.1 HTI.out.2.2.2 (by decide) (by decide) rfl hm7.2 rfl (HTR.out.only hm7.1 (by simp)) (by intro r hr; unfold intsR at hr; obtain ⟨y, _, rfl⟩ := List.mem_map.1 hr; rfl) (by intro r hr u hu; unfold intsR at hr; obtain ⟨y, _, rfl⟩ := List.mem_map.1 hr; rw [List.mem_singleton.1 hu]; rfl) (by omega) (by unfold maxLen; omega) hm7.1.size ?_
          intro v8 w8 hE8
          have hm8 := hm7.ext hE8
          refine hK _ _ trivial ?_
          clear hK K
          try simp only [List.setIfInBounds_toArray, List.set_cons_zero, List.set_cons_succ]
          refine takeW (i := 12) rfl (by kernel_rfl) (by kernel_rfl) (by kernel_rfl) (fun _ _ _ h => h) rfl (by rfl) (v := v8) (fun Y hY => by go_simp) hS ?_
          simp only [List.setIfInBounds_toArray, List.set_cons_zero, List.set_cons_succ]
          refine wpAnyH_done (by kernel_rfl) ?_ _
          have HM8 := Lib.hid hm8
          clear hm8 hm7
          go_wp2_with fail
          go_ret
          exact HFIN.out _ _ HM8.out.2 HM8.out.1
      · simp only [List.setIfInBounds_toArray, List.set_cons_zero, List.set_cons_succ]
        refine oneW (i := 0) (v := .slice (some ⟨w.heap.size + 1, 0, none⟩) 0 0) (w' := (w.drew.alloc (.cells #[.int .i64 (s : Int)] 3)).alloc (.cells #[] 3)) rfl (by kernel_rfl) rfl (by rfl) (by go_simp) trivial ?_
        simp only [List.setIfInBounds_toArray, List.set_cons_zero, List.set_cons_succ]
        refine oneA (i := 4) rfl (by kernel_rfl) rfl rfl (fun K hK => ?_)
        refine step_append_rec (w := (w.drew.alloc (.cells #[.int .i64 (s : Int)] 3)).alloc (.cells #[] 3)) rfl (.tmp 33) (.tmp 36) 41 rfl Try.underlying41 HTI.out.1 HTI.out.2.1 HTI.out.2.2.1 HTI.out.2.2.2 (by decide) (by decide) rfl hC1.2 rfl (HHR.out.only hC1.1 (by simp)) (by intro r hr; unfold intsR at hr; obtain ⟨y, _, rfl⟩ := List.mem_map.1 hr; rfl) (by intro r hr u hu; unfold intsR at hr; obtain ⟨y, _, rfl⟩ := List.mem_map.1 hr; rw [List.mem_singleton.1 hu]; rfl) (by omega) (by unfold maxLen; omega) hC1.1.size ?_
        intro v4 w6 hE4
        have hm4 := hC1.ext hE4
        refine hK _ _ trivial ?_
        clear hK K
        try simp only [List.setIfInBounds_toArray, List.set_cons_zero, List.set_cons_succ]
        have hrc : Recs w6 (w.heap.size + 1) 1 (some ⟨w.heap.size, 0, none⟩) 1 [[.int .i64 (s : Int)]] := by
          have h0 := (Recs.const1 w.drew [.int .i64 (s : Int)] #[.int .i64 (s : Int)] 3 1 (0, 0) rfl rfl).only ((Only.refl [] _).alloc (.cells #[] 3)) (by simp)
          refine h0.only hE4.only (fun g hg hm => ?_)
          have e1 : g = w.heap.size := by simpa [blkOf] using hg
          have hm2 : g ∈ ownL (.slice (some ⟨w.heap.size + 1, 0, none⟩) 0 0) := hm
          have e2 : g = w.heap.size + 1 := by simpa [ownL, Value.ownBlock] using hm2
          omega
        refine oneA (i := 7) rfl (by kernel_rfl) rfl rfl (fun K hK => ?_)
        refine step_append_rec (w := w6) rfl (.tmp 37) (.tmp 39) 41 rfl Try.underlying41 HTI.out.1 HTI.out.2.1 HTI.out.2.2.1 HTI.out.2.2.2 (by decide) (by decide) rfl hm4.2 rfl hrc (by intro r hr; rw [List.mem_singleton.1 hr]; rfl) (by intro r hr u hu; rw [List.mem_singleton.1 hr] at hu; rw [List.mem_singleton.1 hu]; rfl) (by omega) (by unfold maxLen; omega) hm4.1.size ?_
        intro v7 w7 hE7
        have hm7 := hm4.ext hE7
        refine hK _ _ trivial ?_
        clear hK K
        try simp only [List.setIfInBounds_toArray, List.set_cons_zero, List.set_cons_succ]
        refine oneA (i := 11) rfl (by kernel_rfl) rfl rfl (fun K hK => ?_)
        refine step_append_rec (w := w7) rfl (.tmp 40) (.tmp 43) 41 rfl Try.underlying41 HTI.out.1 HTI.out.2.1 HTI.out.2.2.1 HTI.out.2.2.2 (by decide) (by decide) rfl hm7.2 rfl (HTR.out.only hm7.1 (by simp)) (by intro r hr; unfold intsR at hr; obtain ⟨y, _, rfl⟩ := List.mem_map.1 hr; rfl) (by intro r hr u hu; unfold intsR at hr; obtain ⟨y, _, rfl⟩ := List.mem_map.1 hr; rw [List.mem_singleton.1 hu]; rfl) (by omega) (by unfold maxLen; omega) hm7.1.size ?_
        intro v8 w8 hE8
        have hm8 := hm7.ext hE8
        refine hK _ _ trivial ?_
        clear hK K
        try simp only [List.setIfInBounds_toArray, List.set_cons_zero, List.set_cons_succ]
        refine takeW (i := 12) rfl (by kernel_rfl) (by kernel_rfl) (by kernel_rfl) (fun _ _ _ h => h) rfl (by rfl) (v := v8) (fun Y hY => by go_simp) hS ?_
        simp only [List.setIfInBounds_toArray, List.set_cons_zero, List.set_cons_succ]
        refine wpAnyH_done (by kernel_rfl) ?_ _
        have HM8 := Lib.hid hm8
        clear hm8 hm7
        go_wp2_with fail
        go_ret
        exact HFIN.out _ _ HM8.out.2 HM8.out.1
end
end Go.Proofs.Ytkdacemachejoaa.Vm
