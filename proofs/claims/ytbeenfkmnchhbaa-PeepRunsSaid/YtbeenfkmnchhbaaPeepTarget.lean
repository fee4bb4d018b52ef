/- peep.Target walks. -/
import Derived.Test.YtbeenfkmnchhbaaPeepWalk1
namespace Go.Proofs.Ytbeenfkmnchhbaa.Peep
open Go.RowKit Go.Maps Object
set_option linter.unusedVariables false
set_option maxRecDepth 100000
theorem nodup_len : ∀ {A B : List Int}, A.Nodup → (∀ a ∈ A, a ∈ B) → A.length ≤ B.length
  | [], B, _, _ => Nat.zero_le _
  | a :: A, B, hn, hs => by
    have hm := hs a List.mem_cons_self
    have hp := List.perm_cons_erase hm
    rw [List.nodup_cons] at hn
    have := nodup_len (A := A) (B := B.erase a) hn.2 (fun x hx => (List.mem_erase_of_ne (fun e : x = a => hn.1 (by rw [← e]; exact hx))).2 (hs x (List.mem_cons_of_mem _ hx)))
    have := hp.length_eq
    simp at this ⊢
    omega
theorem nodup_range {A : List Int} {m : Nat} (hn : A.Nodup) (h : ∀ a ∈ A, 0 ≤ a ∧ a < m) : A.length ≤ m := by
  have := nodup_len (B := (List.range m).map (fun k : Nat => (k : Int))) hn (fun a ha => by
    obtain ⟨h0, h1⟩ := h a ha
    exact List.mem_map.2 ⟨a.toNat, List.mem_range.2 (by omega), by omega⟩)
  simpa using this
def pk (d : Int) : Lit := .int .i64 d
theorem pk_inj {p q : Int} (h : pk p = pk q) : p = q := by unfold pk at h; injection h
def in64 (n : Int) : Prop := -9223372036854775808 ≤ n ∧ n ≤ 9223372036854775807
theorem lawI : Keyed Try.prog 3 := int_keyed Try.underlying3
theorem zeroB (w : World) : (zeroValue 4).run Try.prog w = .ok (.bool false) w := by kernel_rfl
theorem keyP {d : Int} (h : in64 d) : keyOf Try.prog 3 (.int .i64 d) = some (pk d) := Go.Maps.keyOf_int_mk Try.underlying3 (by obtain ⟨h1, h2⟩ := h; show (decide (_ ≤ d) && decide (d ≤ _)) = true; rw [Bool.and_eq_true, decide_eq_true_eq, decide_eq_true_eq]; exact ⟨h1, h2⟩)
/-- what was seen -/
def seenF (vis : List Int) : Lit → Option Value
  | .int .i64 d => if d ∈ vis then some (.bool true) else none
  | _ => none
theorem seenF_pk (vis : List Int) (d : Int) : (seenF vis (pk d)).getD (.bool false) = .bool (decide (d ∈ vis)) := by
  unfold seenF pk
  simp only
  by_cases h : d ∈ vis
  · rw [if_pos h, decide_eq_true h]; rfl
  · rw [if_neg h, decide_eq_false h]; rfl
theorem seenF_cons (vis : List Int) (d : Int) : upd (seenF vis) (pk d) (some (.bool true)) = seenF (d :: vis) := by
  funext k
  by_cases hk : k = pk d
  · subst hk
    rw [upd_same]
    unfold seenF pk
    simp
  · rw [upd_other _ _ hk]
    unfold seenF
    split
    · rename_i q
      have : q ≠ d := fun h => hk (by rw [h]; rfl)
      simp [this]
    · rfl
theorem seenF_nil : seenF [] = fun _ => none := by
  funext k
  unfold seenF
  split <;> simp
/-- the way so far -/
structure Way (cs : List Cd) (n0 cur : Int) (vis : List Int) : Prop where
  nodup : vis.Nodup
  rng : ∀ v ∈ vis, 0 ≤ v ∧ v < cs.length
  reach : ∀ e, Reach cs n0 e ↔ Reach cs cur e
  past : ∀ v ∈ vis, ∀ k e, ReachN cs cur k e → ∃ k', k < k' ∧ ReachN cs v k' e
  new_ : cur ∉ vis
theorem Way.begin_ (cs : List Cd) (n : Int) : Way cs n n [] := ⟨List.nodup_nil, by simp, fun _ => Iff.rfl, by simp, by simp⟩
theorem Way.end_ {cs : List Cd} {n0 cur : Int} {vis : List Int} {c : Cd} (h : Way cs n0 cur vis) (hc : ins cs cur = some c) (ho : c.op ≠ 16) : Tgt cs n0 cur := by
  have hr : Reach cs n0 cur := (h.reach cur).2 ⟨0, .here hc ho⟩
  refine ⟨⟨c, hc, fun he => ?_⟩, fun e he => ?_⟩
  · rw [endOf_some.2 hr] at he
    cases he
  · exact hr.uniq (endOf_some.1 he)
theorem Way.round {cs : List Cd} {n0 cur : Int} {vis : List Int} {c : Cd} (h : Way cs n0 cur vis) (hc : ins cs cur = some c) (ho : c.op = 16) (hm : c.n ∈ cur :: vis) : Tgt cs n0 cur := by
  have hno : endOf cs n0 = none := by
    cases he : endOf cs n0 with
    | none => rfl
    | some e =>
      exfalso
      obtain ⟨k, r⟩ := (h.reach e).1 (endOf_some.1 he)
      cases r with
      | here h2 ho2 => rw [hc] at h2; injection h2 with h2; subst h2; exact ho2 ho
      | @step _ _ k _ h2 _ r2 =>
        rw [hc] at h2
        injection h2 with h2
        subst h2
        have r1 : ReachN cs cur (k + 1) e := .step hc ho r2
        rcases List.mem_cons.1 hm with e1 | hm
        · rw [e1] at r2
          have := (r1.uniq r2).1
          omega
        · obtain ⟨k', hk, r3⟩ := h.past _ hm _ _ r1
          have := (r2.uniq r3).1
          omega
  exact ⟨⟨c, hc, fun _ => ho⟩, fun e he => by rw [hno] at he; cases he⟩
theorem Way.next {cs : List Cd} {n0 cur : Int} {vis : List Int} {c : Cd} (h : Way cs n0 cur vis) (hc : ins cs cur = some c) (ho : c.op = 16) (hm : c.n ∉ cur :: vis) : Way cs n0 c.n (cur :: vis) := by
  obtain ⟨h0, h1, _⟩ := ins_lt hc
  refine ⟨List.nodup_cons.2 ⟨h.new_, h.nodup⟩, ?_, fun e => (h.reach e).trans (Reach.next hc ho), ?_, hm⟩
  · intro v hv
    rcases List.mem_cons.1 hv with rfl | hv
    · exact ⟨h0, h1⟩
    · exact h.rng v hv
  · intro v hv k e r
    have r1 : ReachN cs cur (k + 1) e := .step hc ho r
    rcases List.mem_cons.1 hv with rfl | hv
    · exact ⟨k + 1, by omega, r1⟩
    · obtain ⟨k', hk, r2⟩ := h.past v hv _ _ r1
      exact ⟨k', by omega, r2⟩
theorem in_any (g : Nat) (A : Option Addr) (m c : Nat) (k : Int) (w : World) (hg : w.cell? ⟨g, 0, none⟩ = some (.slice A m c)) (h0 : 0 ≤ k) (h1 : k < (m : Int)) :
    Calls Try.prog 153 #[.int .i64 k, .pointer (some ⟨g, 0, none⟩)] w fun x w' => x = .returned (.bool true) ∧ w' = w := by
  have e0 : decide ((0 : Int) ≤ k) = true := decide_eq_true h0
  have e1 : decide (k < (m : Int)) = true := decide_eq_true h1
  clear h0 h1
  go_enter Try.func153, Try.ntmps153
  go_wp2_with fail
  go_ret
  exact ⟨rfl, rfl⟩
set_option maxHeartbeats 2000000 in
theorem target_any (A : Option Addr) (m c B : Nat) (cs : List Cd) (n0 : Int) (w : World) (hr : Recs w B 5 A m (cs.map Cd.row)) (hB : B ≤ w.heap.size) (hm : m ≤ 1000000) (hb : InB cs) (h0 : 0 ≤ n0) (h1 : n0 < (m : Int)) :
    Calls Try.prog 137 #[.slice A m c, .int .i64 n0] w fun x w' => ∃ t, x = .returned (.int .i64 t) ∧ Tgt cs n0 t ∧ Only [] w w' := by
  have hl : cs.length = m := by simpa using hr.1
  have HL := Lib.hid hl
  have HR := Lib.hid hr
  have HB := Lib.hid hb
  have hmm := @run_makeMap Try.prog
  have hmf : ∀ fn first cap w, (Instr.makeFunc fn first cap).run Try.prog w = .ok (.func fn first cap) w := fun _ _ _ _ => rfl
  have hsz1 : (w.alloc (.cells #[.slice A m c] 53)).heap.size = w.heap.size + 1 := World.size_alloc ..
  have hbg := (Blk.new w 53 #[.slice A m c]).alloc (.map #[] 0)
  have hvm := VM.made (w.alloc (.cells #[.slice A m c] 53)) Try.prog 3
  rw [hsz1] at hvm
  have HBG := Lib.hid hbg
  have HVM := Lib.hid hvm
  have HO := Lib.hid (((Only.refl [] w).alloc (.cells #[.slice A m c] 53)).alloc (.map #[] 0))
  clear hr hb hl hsz1 hbg hvm
  go_enter Try.func137, Try.ntmps137
  go_wp2_with fail
  go_loopg [1] (m + 1) (fun gk i wr => ∃ (cur : Int) (vis : List Int), i = .int .i64 cur ∧ 0 ≤ cur ∧ cur < (m : Int) ∧ gk + vis.length = m + 1 ∧ Way cs n0 cur vis ∧ VM Try.prog 3 wr (w.heap.size + 1) vis.length (seenF vis) ∧ Blk wr w.heap.size 53 #[.slice A m c] ∧ Only [] w wr)
  case atStart => exact ⟨n0, [], rfl, h0, h1, by simp, Way.begin_ cs n0, by rw [seenF_nil]; exact HVM.out, HBG.out, HO.out⟩
  case round =>
    clear HVM HBG HO h0 h1
    obtain ⟨cur, vis, rfl, h0, h1, hg, hw, hv, hbg, ho⟩ := hrel
    have hvl : vis.length ≤ m := nodup_range hw.nodup (by rw [← HL.out]; exact hw.rng)
    obtain ⟨g', rfl⟩ : ∃ g', gk = g' + 1 := ⟨gk - 1, by omega⟩
    obtain ⟨j, rfl⟩ : ∃ j : Nat, cur = (j : Int) := ⟨cur.toNat, by omega⟩
    obtain ⟨b, off, hA, hb, x, hmem, hsk, c0, c1, c2, c3, c4⟩ := cd_at HR.out j (by omega)
    subst hA
    have y0 := ho.cell c0 (by simp)
    have y4 := ho.cell c4 (by simp)
    have hcell := hbg.cell 0
    have hins : ins cs (j : Int) = some x := by rw [ins_nat]; exact hsk
    have HIN := Lib.hid (in_any w.heap.size (some ⟨b, off, none⟩) m c (j : Int) wr hcell h0 h1)
    have HV := Lib.hid hv
    have HW := Lib.hid hw
    have HO := Lib.hid ho
    have HBG := Lib.hid hbg
    have HI := Lib.hid hins
    have HX := Lib.hid hmem
    obtain ⟨op, xa, xb, xc, xn⟩ := x
    simp only at y0 y4
    clear hw hv ho hsk hmem c0 c1 c2 c3 c4 hins hbg
    by_cases h16 : op = 16
    · subst h16
      obtain ⟨n0', n1'⟩ := HB.out _ HX.out (by unfold jmp; rfl)
      simp only at n0' n1'
      rw [HL.out] at n1'
      have HKJ := Lib.hid (keyP (d := (j : Int)) ⟨by omega, by omega⟩)
      have HKN := Lib.hid (keyP (d := xn) ⟨by omega, by omega⟩)
      by_cases hs : xn ∈ (j : Int) :: vis
      · have HT := Lib.hid (HW.out.round HI.out rfl hs)
        have HS := Lib.hid hs
        clear hs
        go_wp2_with (first
          | (go_at_call 153; refine HIN2.out.mono ?_; rintro x w9 ⟨rfl, rfl⟩)
          | (go_at_call 153; refine HIN.out.mono ?_; rintro x w2 ⟨rfl, rfl⟩)
          | (at_mapUpdate; refine wpList_put (val := .bool true) rfl (.tmp 21) (.tmp 22) (.const (.bool true)) 162 rfl 3 4 lawI Try.underlying162 rfl HV.out (by unfold maxLen; omega) rfl rfl HKJ.out ?_; intro w8 hv8 ho8; rw [seenF_cons] at hv8; have z4 := ho8.cell y4 (by simp; omega); have hc8 := (HBG.out.only ho8 (by simp)).cell 0; have HIN2 := Lib.hid (in_any w.heap.size (some ⟨b, off, none⟩) m c xn w8 hc8 n0' n1'); have hlk := VM.run_look1 hv8 lawI Try.underlying162 (zeroB w8) HKN.out; rw [seenF_pk, decide_eq_true HS.out] at hlk; go_frame))
        go_ret
        exact ⟨_, rfl, HT.out, HO.out.trans ho8 (by simp)⟩
      · have HN := Lib.hid (HW.out.next HI.out rfl hs)
        have HS := Lib.hid hs
        clear hs
        go_wp2_with (first
          | (go_at_call 153; refine HIN2.out.mono ?_; rintro x w9 ⟨rfl, rfl⟩)
          | (go_at_call 153; refine HIN.out.mono ?_; rintro x w2 ⟨rfl, rfl⟩)
          | (at_mapUpdate; refine wpList_put (val := .bool true) rfl (.tmp 21) (.tmp 22) (.const (.bool true)) 162 rfl 3 4 lawI Try.underlying162 rfl HV.out (by unfold maxLen; omega) rfl rfl HKJ.out ?_; intro w8 hv8 ho8; rw [seenF_cons] at hv8; have z4 := ho8.cell y4 (by simp; omega); have hc8 := (HBG.out.only ho8 (by simp)).cell 0; have HIN2 := Lib.hid (in_any w.heap.size (some ⟨b, off, none⟩) m c xn w8 hc8 n0' n1'); have hlk := VM.run_look1 hv8 lawI Try.underlying162 (zeroB w8) HKN.out; rw [seenF_pk, decide_eq_false HS.out] at hlk; go_frame))
        go_roundg g'
        case measure => omega
        case rel => exact ⟨xn, (j : Int) :: vis, rfl, n0', n1', by simp; omega, HN.out, hv8, HBG.out.only ho8 (by simp), HO.out.trans ho8 (by simp)⟩
    · have HT := Lib.hid (HW.out.end_ HI.out h16)
      have e1 : (op == 16) = false := by simp [h16]
      clear h16
      go_wp2_with (go_at_call 153; refine HIN.out.mono ?_; rintro x w2 ⟨rfl, rfl⟩)
      go_ret
      exact ⟨_, rfl, HT.out, HO.out⟩
end Go.Proofs.Ytbeenfkmnchhbaa.Peep
