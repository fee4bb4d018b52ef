/- MacA: The machine: frames and state, as they lie; What the machine does, with no memory in sight; code that is not reached is not asked; What right code's instructions are like. -/
import Derived.Test.YtkdacemachejoaaVeNumq
import Derived.Test.YtkdacemachejoaaVeZeros
import Derived.Test.YtkdacemachejoaaRowCut
import Derived.Test.YtkdacemachejoaaObjA
namespace Go.Proofs.Ytkdacemachejoaa.Vm
open Go.RowKit Go.Shelf Object
set_option linter.unusedVariables false
set_option maxRecDepth 100000
def iv (n : Int) : Value := .int .i64 n
def ivs (l : List Int) : List Value := l.map iv
def irows (l : List Int) : List (List Value) := l.map fun n => [iv n]
/-- a call's frame -/
structure Fr where
  r : List Int
  sl : List Int
  inn : List Int
  out : List Int
  back : Int
  ans : Int
def Fr.ok (f : Fr) : Prop := f.r.length = 8 ∧ f.inn.length = 4 ∧ f.out.length = 4
def Fr.row (f : Fr) (sv : Value) : Array Value := (ivs f.r ++ (sv :: (ivs f.inn ++ (ivs f.out ++ [iv f.back, iv f.ans])))).toArray
def zero8 : List Int := [0, 0, 0, 0, 0, 0, 0, 0]
def zero4 : List Int := [0, 0, 0, 0]
section
variable {f : Fr} {sv : Value} {k : Nat}
theorem ivs_len (l : List Int) : (ivs l).length = l.length := List.length_map _
theorem ivs_at {l : List Int} {k : Nat} (h : k < l.length) : (ivs l)[k]? = some (iv (l.getD k 0)) := by
  unfold ivs
  rw [List.getElem?_map, List.getElem?_eq_getElem h, List.getD_eq_getElem?_getD, List.getElem?_eq_getElem h]
  rfl
theorem Fr.at_r (h : f.ok) (hk : k < 8) : (f.row sv)[k]? = some (iv (f.r.getD k 0)) := by
  unfold Fr.row
  rw [List.getElem?_toArray, List.getElem?_append_left (by rw [ivs_len, h.1]; exact hk), ivs_at (by rw [h.1]; exact hk)]
theorem Fr.at_s (h : f.ok) : (f.row sv)[8]? = some sv := by
  unfold Fr.row
  rw [List.getElem?_toArray, List.getElem?_append_right (by rw [ivs_len, h.1]; omega), ivs_len, h.1]
  rfl
theorem Fr.at_in (h : f.ok) (hk : k < 4) : (f.row sv)[9 + k]? = some (iv (f.inn.getD k 0)) := by
  unfold Fr.row
  rw [List.getElem?_toArray, List.getElem?_append_right (by rw [ivs_len, h.1]; omega), ivs_len, h.1, show 9 + k - 8 = k + 1 by omega, List.getElem?_cons_succ, List.getElem?_append_left (by rw [ivs_len, h.2.1]; exact hk), ivs_at (by rw [h.2.1]; exact hk)]
theorem Fr.at_out (h : f.ok) (hk : k < 4) : (f.row sv)[13 + k]? = some (iv (f.out.getD k 0)) := by
  unfold Fr.row
  rw [List.getElem?_toArray, List.getElem?_append_right (by rw [ivs_len, h.1]; omega), ivs_len, h.1, show 13 + k - 8 = (4 + k) + 1 by omega, List.getElem?_cons_succ, List.getElem?_append_right (by rw [ivs_len, h.2.1]; omega), ivs_len, h.2.1, show 4 + k - 4 = k by omega,
    List.getElem?_append_left (by rw [ivs_len, h.2.2]; exact hk), ivs_at (by rw [h.2.2]; exact hk)]
theorem Fr.at_end (h : f.ok) : (f.row sv)[17]? = some (iv f.back) ∧ (f.row sv)[18]? = some (iv f.ans) := by
  unfold Fr.row
  have e : (ivs f.r ++ (sv :: (ivs f.inn ++ (ivs f.out ++ [iv f.back, iv f.ans])))) = (ivs f.r ++ (sv :: (ivs f.inn ++ ivs f.out))) ++ [iv f.back, iv f.ans] := by simp
  have hl : (ivs f.r ++ (sv :: (ivs f.inn ++ ivs f.out))).length = 17 := by simp only [List.length_append, List.length_cons, ivs_len, h.1, h.2.1, h.2.2]
  rw [e, List.getElem?_toArray, List.getElem?_toArray, List.getElem?_append_right (by omega), List.getElem?_append_right (by omega), hl]
  exact ⟨rfl, rfl⟩
theorem ivs_set (l : List Int) (k : Nat) (v : Int) : ivs (l.set k v) = (ivs l).set k (iv v) := by unfold ivs; rw [List.map_set]
theorem Fr.set_r (h : f.ok) (hk : k < 8) (v : Int) : (f.row sv).setIfInBounds k (iv v) = ({ f with r := f.r.set k v } : Fr).row sv := by
  unfold Fr.row
  simp only
  rw [List.setIfInBounds_toArray, List.set_append_left _ _ (by rw [ivs_len, h.1]; exact hk), ivs_set]
theorem Fr.set_s (h : f.ok) (sv' : Value) : (f.row sv).setIfInBounds 8 sv' = f.row sv' := by
  unfold Fr.row
  rw [List.setIfInBounds_toArray, List.set_append_right _ _ (by rw [ivs_len, h.1]; omega), ivs_len, h.1]
  rfl
theorem Fr.set_out (h : f.ok) (hk : k < 4) (v : Int) : (f.row sv).setIfInBounds (13 + k) (iv v) = ({ f with out := f.out.set k v } : Fr).row sv := by
  unfold Fr.row
  simp only
  rw [List.setIfInBounds_toArray, List.set_append_right _ _ (by rw [ivs_len, h.1]; omega), ivs_len, h.1, show 13 + k - 8 = (4 + k) + 1 by omega, List.set_cons_succ, List.set_append_right _ _ (by rw [ivs_len, h.2.1]; omega), ivs_len, h.2.1, show 4 + k - 4 = k by omega,
    List.set_append_left _ _ (by rw [ivs_len, h.2.2]; exact hk), ivs_set]
end
/-- what a store into slots leaves -/
def storeL (l : List Int) (k : Nat) (v : Int) : List Int := (l ++ List.replicate (k + 1 - l.length) 0).set k v
theorem int64_info : (Try.prog.info? 2).map (fun i => (i.zero, i.size, i.bytes)) = some (some (.int .i64 0), 1, 8) := by kernel_rfl
/-- a frame in memory: fb its block, sv its slots -/
def FIn (w : World) (base fb : Nat) (sv : Value) (f : Fr) : Prop := f.ok ∧ Blk w fb 55 (f.row sv) ∧ OwnR 2 1 w base sv f.sl.length (irows f.sl) ∧ base ≤ fb
set_option maxHeartbeats 4000000 in
theorem load_any (base fb : Nat) (sv : Value) (f : Fr) (k : Nat) (w : World) (h : FIn w base fb sv f) (hk : k < 16384) :
    Calls Try.prog 43 #[.pointer (some ⟨fb, 0, none⟩), .int .i64 (k : Int)] w fun y w' => y = .returned (.int .i64 (f.sl.getD k 0)) ∧ Only [] w w' := by
  obtain ⟨hok, hb, hown, _⟩ := h
  obtain ⟨A, c, rfl, _, _, hr, _⟩ := hown.shape (by decide)
  obtain ⟨z, hz⟩ : ∃ z, f.sl.getD k 0 = z := ⟨_, rfl⟩
  rw [hz]
  have p8 : w.cell? ⟨fb, 8, none⟩ = some (.slice A f.sl.length c) := by rw [hb.cell 8, Fr.at_s hok]
  have HR := Lib.hid hr
  have HO := Lib.hid (Only.refl [] w)
  clear hb hown hr hok
  go_enter Try.func43, Try.ntmps43
  by_cases hlt : k < f.sl.length
  · have d1 : decide ((f.sl.length : Int) ≤ (k : Int)) = false := decide_eq_false (by omega)
    obtain ⟨b, off, rfl, _, hc⟩ := HR.out.at_ 0 hlt
    have q0 := hc 0 (by decide)
    simp only [Nat.mul_one, Nat.add_zero] at q0
    have q : w.cell? ⟨b, off + k, none⟩ = some (.int .i64 z) := by rw [← hz]; exact q0
    clear q0 hc hz
    go_wp2_with fail
    go_ret
    exact ⟨rfl, HO.out⟩
  · have d1 : decide ((f.sl.length : Int) ≤ (k : Int)) = true := decide_eq_true (by omega)
    obtain rfl : 0 = z := by rw [← hz, List.getD_eq_getElem?_getD, List.getElem?_eq_none (by omega)]; rfl
    clear hz
    go_wp2_with fail
    go_ret
    exact ⟨rfl, HO.out⟩
end Go.Proofs.Ytkdacemachejoaa.Vm
namespace Go.Proofs.Ytkdacemachejoaa.Vm
open Go.RowKit Go.Shelf Object
set_option linter.unusedVariables false
structure MS where
  pre : List Fr
  f : Fr
  at_ : Int
  out : List Int
  en : Int
  ended : Bool
def ri (f : Fr) (a : Int) : Int := f.r.getD a.toNat 0
def setr (f : Fr) (a v : Int) : Fr := { f with r := f.r.set a.toNat v }
def MS.stop (s : MS) (e : Int) : MS := { s with en := e, ended := true }
def callP (c : Cd) (s : MS) : MS :=
  if 201 < s.pre.length + 1 then s.stop 3 else { s with pre := s.pre ++ [{ s.f with out := zero4 }], f := ⟨zero8, [], s.f.out, zero4, s.at_, c.a⟩, at_ := c.n }
def backP (c : Cd) (s : MS) : MS :=
  match s.pre.getLast? with
  | none => s.stop 0
  | some g => { s with pre := s.pre.dropLast, f := if s.f.ans < 0 then g else setr g s.f.ans (if 0 ≤ c.a then ri s.f c.a else 0), at_ := s.f.back }
def numP (c : Cd) (f : Fr) : Int × Bool := if c.op = 2 ∨ c.op = 3 ∨ c.op = 4 then oneP c.op (ri f c.b) else twoP c.op (ri f c.b) (ri f c.c)
def reckonP (c : Cd) (s : MS) : MS := if (numP c s.f).2 = true then { s with f := setr s.f c.a (numP c s.f).1 } else s.stop 1
def flowP (c : Cd) (s : MS) : MS :=
  if c.op = 18 then callP c s else if c.op = 19 then backP c s else if c.op = 21 then s.stop 0 else
  if c.op = 16 then { s with at_ := c.n } else if c.op = 17 then (if ri s.f c.a = 0 then { s with at_ := c.n } else s) else
  if c.op = 1 then { s with f := setr s.f c.a c.n } else if c.op = 14 then { s with f := setr s.f c.a (s.f.sl.getD c.n.toNat 0) } else
  if c.op = 15 then { s with f := { s.f with sl := storeL s.f.sl c.n.toNat (ri s.f c.a) } } else
  if c.op = 22 then { s with f := { s.f with out := s.f.out.set c.n.toNat (ri s.f c.a) } } else if c.op = 23 then { s with f := setr s.f c.a (s.f.inn.getD c.n.toNat 0) } else
  if c.op = 20 then { s with out := s.out ++ [ri s.f c.a] } else reckonP c s
def stepP (c : Cd) (s : MS) : MS := flowP c { s with at_ := s.at_ + 1 }
def runP (cs : List Cd) : Nat → MS → MS
  | 0, s => s.stop 2
  | n + 1, s => if (stepP (cs.getD s.at_.toNat cd0) s).ended = true then stepP (cs.getD s.at_.toNat cd0) s else runP cs n (stepP (cs.getD s.at_.toNat cd0) s)
/-- where one leads on -/
def leads (c : Cd) (i j : Nat) : Prop := (j = c.n.toNat ∧ (c.op = 16 ∨ c.op = 17)) ∨ (j = i + 1 ∧ c.op ≠ 16 ∧ c.op ≠ 19 ∧ c.op ≠ 21)
inductive Rd (cs : List Cd) : Nat → Prop
  | zero : Rd cs 0
  | on {i j : Nat} {c : Cd} : Rd cs i → cs[i]? = some c → leads c i j → Rd cs j
  | call {i : Nat} {c : Cd} : Rd cs i → cs[i]? = some c → c.op = 18 → Rd cs c.n.toNat
def At (cs : List Cd) (z : Int) : Prop := 0 ≤ z ∧ Rd cs z.toNat
def backs (s : MS) : List Int := (s.pre.map Fr.back ++ [s.f.back]).tail
def Inv (cs : List Cd) (s : MS) : Prop := At cs s.at_ ∧ ∀ b ∈ backs s, At cs b
theorem Inv.keep {cs : List Cd} {s : MS} {f' : Fr} {a : Int} {o : List Int} (h : Inv cs s) (hf : f'.back = s.f.back) (ha : At cs a) : Inv cs { s with f := f', at_ := a, out := o } :=
  ⟨ha, by unfold backs; simp only; rw [hf]; exact h.2⟩
theorem getD_some {cs : List Cd} {i : Nat} {c : Cd} (h : cs[i]? = some c) : cs.getD i cd0 = c := by rw [List.getD_eq_getElem?_getD, h]; rfl
theorem step_inv {cs : List Cd} {s : MS} {c : Cd} (h : Inv cs s) (hc : cs[s.at_.toNat]? = some c) (hn : c.op = 16 ∨ c.op = 17 ∨ c.op = 18 → 0 ≤ c.n) : (stepP c s).ended = true ∨ Inv cs (stepP c s) := by
  obtain ⟨⟨h0, h1⟩, h2⟩ := h
  have hnext : c.op ≠ 16 → c.op ≠ 19 → c.op ≠ 21 → At cs (s.at_ + 1) := fun a1 a2 a3 => ⟨by omega, by
    rw [show (s.at_ + 1).toNat = s.at_.toNat + 1 by omega]
    exact .on h1 hc (.inr ⟨rfl, a1, a2, a3⟩)⟩
  unfold stepP flowP
  by_cases e18 : c.op = 18
  · rw [if_pos e18]
    unfold callP
    by_cases hd : 201 < s.pre.length + 1
    · rw [if_pos hd]; exact .inl rfl
    · rw [if_neg hd]
      refine .inr ⟨⟨hn (.inr (.inr e18)), .call h1 hc e18⟩, fun b hb => ?_⟩
      unfold backs at hb
      simp only [List.map_append, List.map_cons, List.map_nil] at hb
      cases hp : s.pre with
      | nil =>
        rw [hp] at hb
        have hb : b = s.at_ + 1 := by simpa using hb
        rw [hb]
        exact hnext (by omega) (by omega) (by omega)
      | cons p0 ps =>
        rw [hp] at hb
        have hb : (b ∈ ps.map Fr.back ∨ b = s.f.back) ∨ b = s.at_ + 1 := by simpa [or_assoc] using hb
        rcases hb with hb | hb
        · exact h2 b (by unfold backs; rw [hp]; simpa using hb)
        · rw [hb]; exact hnext (by omega) (by omega) (by omega)
  rw [if_neg e18]
  by_cases e19 : c.op = 19
  · rw [if_pos e19]
    unfold backP
    cases hg : s.pre.getLast? with
    | none => exact .inl rfl
    | some g =>
      obtain ⟨ps, hps⟩ : ∃ ps, s.pre = ps ++ [g] := by
        obtain ⟨h3, h4⟩ := List.getLast?_eq_some_iff.1 hg
        exact ⟨h3, h4⟩
      refine .inr ⟨h2 _ (by unfold backs; rw [hps]; cases ps <;> simp), fun b hb => h2 b ?_⟩
      unfold backs at hb ⊢
      simp only [hps, List.dropLast_concat] at hb
      rw [hps]
      have hgb : (if s.f.ans < 0 then g else setr g s.f.ans (if 0 ≤ c.a then ri s.f c.a else 0)).back = g.back := by by_cases hh : s.f.ans < 0 <;> simp [hh, setr]
      rw [hgb] at hb
      cases ps with
      | nil => simp at hb
      | cons p0 ps =>
        simp only [List.map_cons, List.map_append, List.map_nil, List.cons_append, List.tail_cons, List.mem_append, List.mem_cons, List.not_mem_nil, or_false] at hb ⊢
        exact .inl hb
  rw [if_neg e19]
  by_cases e21 : c.op = 21
  · rw [if_pos e21]; exact .inl rfl
  rw [if_neg e21]
  by_cases e16 : c.op = 16
  · rw [if_pos e16]
    exact .inr ⟨⟨hn (.inl e16), .on h1 hc (.inl ⟨rfl, .inl e16⟩)⟩, h2⟩
  rw [if_neg e16]
  have hn1 := hnext e16 e19 e21
  have hI : Inv cs { s with at_ := s.at_ + 1 } := ⟨hn1, h2⟩
  by_cases e17 : c.op = 17
  · rw [if_pos e17]
    by_cases hz : ri s.f c.a = 0
    · simp only [hz, if_true]
      exact .inr ⟨⟨hn (.inr (.inl e17)), .on h1 hc (.inl ⟨rfl, .inr e17⟩)⟩, h2⟩
    · simp only [hz, if_false]
      exact .inr hI
  rw [if_neg e17]
  repeat' split
  all_goals first
    | exact .inr (hI.keep rfl hn1)
    | (unfold reckonP
       split
       · exact .inr (hI.keep rfl hn1)
       · exact .inl rfl)
theorem run_strip {cs ss : List Cd} (hs : ∀ i, Rd cs i → ss[i]? = cs[i]?) (hr : ∀ i, Rd cs i → ∃ c, cs[i]? = some c ∧ (c.op = 16 ∨ c.op = 17 ∨ c.op = 18 → 0 ≤ c.n)) : ∀ (n : Nat) (s : MS), Inv cs s → runP cs n s = runP ss n s
  | 0, s, _ => rfl
  | n + 1, s, h => by
    obtain ⟨c, hc, hn⟩ := hr _ h.1.2
    have hc2 : ss[s.at_.toNat]? = some c := by rw [hs _ h.1.2]; exact hc
    unfold runP
    rw [getD_some hc, getD_some hc2]
    rcases step_inv h hc hn with he | hi
    · rw [if_pos he, if_pos he]
    · by_cases he : (stepP c s).ended = true
      · rw [if_pos he, if_pos he]
      · rw [if_neg he, if_neg he]
        exact run_strip hs hr n _ hi
end Go.Proofs.Ytkdacemachejoaa.Vm
namespace Go.Proofs.Ytkdacemachejoaa.Vm
open Go.RowKit Go.Shelf Object
set_option linter.unusedVariables false
theorem reg_nat {a : Int} (h : regOk a = true) : ∃ k : Nat, a = (k : Int) ∧ k < 8 := by
  unfold regOk at h
  simp only [Bool.and_eq_true, decide_eq_true_eq] at h
  exact ⟨a.toNat, by omega, by omega⟩
theorem below_nat {a m : Int} (h : belowOk a m = true) : ∃ k : Nat, a = (k : Int) ∧ (k : Int) < m := by
  unfold belowOk at h
  simp only [Bool.and_eq_true, decide_eq_true_eq] at h
  exact ⟨a.toNat, by omega, by omega⟩
section
variable {m a b c n : Int} {op : Int}
theorem ok_word (h : codeOk m ⟨op, a, b, c, n⟩ = true) : 1 ≤ op ∧ op ≤ 23 := by
  unfold codeOk wordOk at h
  simp only [Bool.and_eq_true, decide_eq_true_eq] at h
  exact h.1
theorem ok_parts (h : codeOk m ⟨op, a, b, c, n⟩ = true) : ((partsOf op).all fun p => partOk ⟨op, a, b, c, n⟩ m (p.toNat : Int)) = true := by
  unfold codeOk at h
  rw [Bool.and_eq_true] at h
  exact h.2
theorem ok_1 (h : codeOk m ⟨1, a, b, c, n⟩ = true) : regOk a = true := by have h := ok_parts h; simpa [partsOf, partOk] using h
theorem ok_u {op : Int} (ho : op = 2 ∨ op = 3 ∨ op = 4) (h : codeOk m ⟨op, a, b, c, n⟩ = true) : regOk a = true ∧ regOk b = true := by have h := ok_parts h; rcases ho with rfl | rfl | rfl <;> simpa [partsOf, partOk] using h
theorem ok_b {op : Int} (h5 : 5 ≤ op) (h13 : op ≤ 13) (h : codeOk m ⟨op, a, b, c, n⟩ = true) : regOk a = true ∧ regOk b = true ∧ regOk c = true := by
  have h := ok_parts h
  have e : partsOf op = [65, 66, 67] := by
    unfold partsOf
    simp (disch := omega) only [if_neg]
    repeat' (rw [if_neg (by omega)])
  rw [e] at h
  simpa [partOk] using h
theorem ok_14 (h : codeOk m ⟨14, a, b, c, n⟩ = true) : regOk a = true ∧ belowOk n 16384 = true := by have h := ok_parts h; simpa [partsOf, partOk] using h
theorem ok_15 (h : codeOk m ⟨15, a, b, c, n⟩ = true) : belowOk n 16384 = true ∧ regOk a = true := by have h := ok_parts h; simpa [partsOf, partOk] using h
theorem ok_16 (h : codeOk m ⟨16, a, b, c, n⟩ = true) : belowOk n m = true := by have h := ok_parts h; simpa [partsOf, partOk] using h
theorem ok_17 (h : codeOk m ⟨17, a, b, c, n⟩ = true) : regOk a = true ∧ belowOk n m = true := by have h := ok_parts h; simpa [partsOf, partOk] using h
theorem ok_18 (h : codeOk m ⟨18, a, b, c, n⟩ = true) : a < 8 ∧ belowOk n m = true := by have h := ok_parts h; simpa [partsOf, partOk] using h
theorem ok_19 (h : codeOk m ⟨19, a, b, c, n⟩ = true) : a < 8 := by have h := ok_parts h; simpa [partsOf, partOk] using h
theorem ok_20 (h : codeOk m ⟨20, a, b, c, n⟩ = true) : regOk a = true := by have h := ok_parts h; simpa [partsOf, partOk] using h
theorem ok_22 (h : codeOk m ⟨22, a, b, c, n⟩ = true) : belowOk n 4 = true ∧ regOk a = true := by have h := ok_parts h; simpa [partsOf, partOk] using h
theorem ok_23 (h : codeOk m ⟨23, a, b, c, n⟩ = true) : regOk a = true ∧ belowOk n 4 = true := by have h := ok_parts h; simpa [partsOf, partOk] using h
end
theorem right_len {cs : List Cd} (h : vmRight cs = true) : 1 ≤ cs.length ∧ cs.length ≤ 65536 ∧ opLast cs ∈ [(16 : Int), 19, 21] ∧ ∀ c ∈ cs, codeOk (cs.length : Int) c = true := by
  unfold vmRight at h
  simp only [Bool.and_eq_true, decide_eq_true_eq, List.all_eq_true] at h
  exact ⟨h.1.1.1, h.1.1.2, h.2, h.1.2⟩
theorem right_at {cs : List Cd} (h : vmRight cs = true) {i : Nat} {c : Cd} (hc : cs[i]? = some c) : codeOk (cs.length : Int) c = true := (right_len h).2.2.2 c (List.mem_of_getElem? hc)
theorem right_n {cs : List Cd} (h : vmRight cs = true) {i : Nat} {c : Cd} (hc : cs[i]? = some c) (ho : c.op = 16 ∨ c.op = 17 ∨ c.op = 18) : ∃ k : Nat, c.n = (k : Int) ∧ k < cs.length := by
  have h1 := right_at h hc
  obtain ⟨op, a, b, cc, n⟩ := c
  have hb : belowOk n (cs.length : Int) = true := by
    simp only at ho
    rcases ho with rfl | rfl | rfl
    · exact ok_16 h1
    · exact (ok_17 h1).2
    · exact (ok_18 h1).2
  obtain ⟨k, hk, hk2⟩ := below_nat hb
  exact ⟨k, hk, by omega⟩
theorem right_rd {cs : List Cd} (h : vmRight cs = true) {i : Nat} (hi : Rd cs i) : i < cs.length := by
  induction hi with
  | zero => exact (right_len h).1
  | @on i j c hi hc hl ih =>
    rcases hl with ⟨rfl, ho⟩ | ⟨rfl, h16, h19, h21⟩
    · obtain ⟨k, hk, hk2⟩ := right_n h hc (by rcases ho with h | h <;> simp [h])
      rw [hk]
      simpa using hk2
    · rcases Nat.lt_or_ge (i + 1) cs.length with h1 | h1
      · exact h1
      · have hl := last_at cs (i + 1) c (by omega) (by simpa using hc)
        have h2 := (right_len h).2.2.1
        rw [hl] at h2
        simp only [List.mem_cons, List.not_mem_nil, or_false] at h2
        omega
  | @call i c hi hc ho ih =>
    obtain ⟨k, hk, hk2⟩ := right_n h hc (by simp [ho])
    rw [hk]
    simpa using hk2
theorem right_some {cs : List Cd} (h : vmRight cs = true) {i : Nat} (hi : Rd cs i) : ∃ c, cs[i]? = some c ∧ (c.op = 16 ∨ c.op = 17 ∨ c.op = 18 → 0 ≤ c.n) := by
  have h1 := right_rd h hi
  refine ⟨_, List.getElem?_eq_getElem h1, fun ho => ?_⟩
  obtain ⟨k, hk, _⟩ := right_n h (List.getElem?_eq_getElem h1) ho
  omega
end Go.Proofs.Ytkdacemachejoaa.Vm
