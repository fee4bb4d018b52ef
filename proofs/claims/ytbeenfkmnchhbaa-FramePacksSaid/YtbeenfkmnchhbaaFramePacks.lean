/- FramePacks: the plain law (what Pack laid, Unpack takes back), and the law's walk. -/
import Derived.Test.YtbeenfkmnchhbaaFrameSame
import Derived.Test.YtbeenfkmnchhbaaFrameUnpack2
import Derived.Test.YtbeenfkmnchhbaaFrameLaw
namespace Go.Proofs.Ytbeenfkmnchhbaa.Frame
open Go.RowKit
set_option linter.unusedVariables false
set_option maxRecDepth 100000
theorem pack_flat (l : List UInt8) : ∀ k, 64 * k ≤ l.length + 63 → (pack l k).flatten = l.take (64 * k) ++ List.replicate (64 * k - l.length) 0 := by
  intro k
  induction k with
  | zero => intro _; simp [pack]
  | succ k ih =>
    intro hk
    have h1 : pack l (k + 1) = pack l k ++ [pad (sec l k)] := by unfold pack; rw [List.range_succ, List.map_append]; rfl
    have hs : (sec l k).length = min 64 (l.length - 64 * k) := sec_size l k
    rw [h1, List.flatten_append, ih (by omega), show 64 * k - l.length = 0 by omega]
    have h2 : pad (sec l k) = sec l k ++ List.replicate (64 - (sec l k).length) 0 := by unfold pad fill; rw [List.take_of_length_le (Nat.le_refl _)]
    have h3 : l.take (64 * k) ++ sec l k = l.take (64 * (k + 1)) := by unfold sec; rw [Nat.mul_add, List.take_add]
    show l.take (64 * k) ++ [] ++ (pad (sec l k) ++ []) = _
    rw [List.append_nil, List.append_nil, h2, ← List.append_assoc, h3]
    congr 2
    omega
theorem unp_pack (l : List UInt8) (ss : List Sl) (h : ss.map (·.l) = pack l (needZ l.length).toNat) (h64 : all64 ss) (hl : l.length ≤ 2000) : unp ss (l.length : Int) = some l := by
  have hz : needZ l.length = (((l.length + 63) / 64 : Nat) : Int) := by unfold needZ; split <;> omega
  rw [hz] at h
  have hlen : ss.length = (l.length + 63) / 64 := by
    have := congrArg List.length h
    rw [List.length_map] at this
    rw [this]
    unfold pack
    rw [List.length_map, List.length_range]
    rfl
  have hf : flat ss = l ++ List.replicate (64 * ((l.length + 63) / 64) - l.length) 0 := by
    have h1 : flat ss = (ss.map (·.l)).flatten := by unfold flat; rw [List.flatMap_def]
    rw [h1, h]
    show (pack l ((l.length + 63) / 64)).flatten = _
    rw [pack_flat l _ (by omega), List.take_of_length_le (by omega)]
  unfold unp
  rw [if_neg (by rw [hz, hlen]; omega), if_neg (fun h => h h64), hf]
  have e : (l.length : Int).toNat = l.length := rfl
  rw [e, List.drop_left, List.take_left, if_neg (fun h => h (fun c hc => (List.mem_replicate.1 hc).2))]
theorem flat_ones (ss : List Sl) : (ss.map fun s => [s.val]).flatten = ss.map Sl.val := by
  induction ss with
  | nil => rfl
  | cons s ss ih => rw [List.map_cons, List.flatten_cons, ih, List.map_cons]; rfl
theorem packOut.use {l : List UInt8} {w w' : World} {x : Ending} (h : packOut l w x w') : ∃ (A : Option Addr) (n c : Nat) (ss : List Sl), x = .returned (.slice A n c) ∧ ss.length = n ∧ n ≤ c ∧ c ≤ maxLen ∧ Reads w' w'.heap.size 1 A n (ss.map Sl.val) ∧
    (∀ s ∈ ss, Bytes w' w'.heap.size s.A s.n s.l) ∧ all64 ss ∧ ss.map (·.l) = pack l (needZ l.length).toNat ∧ Only [] w w' ∧ n ≤ l.length := by
  obtain ⟨v, ss, rfl, hr, hs, hm, ho⟩ := h
  obtain ⟨A, cap, rfl, h1, h2, _⟩ := hr.shape (by decide)
  refine ⟨A, ss.length, cap, ss, rfl, rfl, h1, h2, ?_, fun s h => (hs s h).bytes, fun s h => by obtain ⟨_, _, h3, _⟩ := hs s h; exact h3, hm, ho, ?_⟩
  rotate_left
  · have := congrArg List.length hm
    rw [List.length_map] at this
    rw [this]
    unfold pack
    rw [List.length_map, List.length_range]
    unfold needZ
    split <;> omega
  have := Reads.of_own hr.own
  have e := flat_ones ss
  rwa [e] at this
theorem same_any2 (A1 A2 : Option Addr) (n m c1 c2 B1 B2 : Nat) (ss ts : List Sl) (w : World) (h1 : Reads w B1 1 A1 n (ss.map Sl.val)) (h2 : Reads w B2 1 A2 m (ts.map Sl.val)) (hl1 : ss.length = n) (hl2 : ts.length = m)
    (hk1 : ∀ s ∈ ss, Bytes w w.heap.size s.A s.n s.l) (hk2 : ∀ s ∈ ts, Bytes w w.heap.size s.A s.n s.l) (he : ss.map (·.l) = ts.map (·.l)) (hn : n ≤ 100000) :
    Calls Try.prog 20 #[.slice A1 n c1, .slice A2 m c2] w fun x w' => x = .returned (.bool true) ∧ Only [] w w' := by
  have e : m = n := by
    have := congrArg List.length he
    rw [List.length_map, List.length_map] at this
    omega
  subst e
  exact same_any A1 A2 _ c1 c2 B1 B2 ss ts w h1 h2 hl1 hl2 hk1 hk2 he hn
set_option maxHeartbeats 4000000 in
theorem packs_any (A1 : Option Addr) (n1 c1 : Nat) (l : List UInt8) (A2 : Option Addr) (m c2 : Nat) (ss : List Sl) (z : Int) (w : World) (hr : Bytes w w.heap.size A1 n1 l) (hnc : n1 ≤ c1) (hcm : c1 ≤ maxLen)
    (hm : ss.length = m) (hs : Reads w w.heap.size 1 A2 m (ss.map Sl.val)) (hoks : ∀ s ∈ ss, Bytes w w.heap.size s.A s.n s.l) (h0 : -9223372036854775808 ≤ z) (h1 : z < 9223372036854775808) :
    Calls Try.prog 5 #[.slice A1 n1 c1, .slice A2 m c2, .int .i64 z] w fun x w' => x = .returned (.bool true) ∧ Only [] w w' := by
  have HK := Lib.hid knows_any
  by_cases hbig : 2000 < n1 ∨ 40 < m
  · by_cases hb1 : 2000 < n1
    · have d1 : decide ((2000 : Int) < (n1 : Int)) = true := decide_eq_true (by omega)
      go_enter Try.func5, Try.ntmps5
      go_wp2_with (go_at_call 11; refine (HK.out _).mono ?_; rintro x wk ⟨rfl, hok⟩)
      go_ret
      exact ⟨rfl, hok⟩
    · have d1 : decide ((2000 : Int) < (n1 : Int)) = false := decide_eq_false (by omega)
      have d2 : decide ((40 : Int) < (m : Int)) = true := decide_eq_true (by omega)
      go_enter Try.func5, Try.ntmps5
      go_wp2_with (go_at_call 11; refine (HK.out _).mono ?_; rintro x wk ⟨rfl, hok⟩)
      go_ret
      exact ⟨rfl, hok⟩
  · have d1 : decide ((2000 : Int) < (n1 : Int)) = false := decide_eq_false (by omega)
    have d2 : decide ((40 : Int) < (m : Int)) = false := decide_eq_false (by omega)
    go_enter Try.func5, Try.ntmps5
    go_wp2_with (go_at_call 11; refine (HK.out _).mono ?_; rintro x wk ⟨rfl, hok⟩)
    go_loopw [7] (fun i wr => ∃ k : Nat, k ≤ m ∧ i = .int .i64 k ∧ wr = wk ∧ ∀ s ∈ ss.take k, s.n ≤ 100) (fun i _ => m - (intOf i).toNat)
    case atStart => exact ⟨0, by omega, rfl, rfl, by simp⟩
    case round =>
      obtain ⟨k, hk, rfl, rfl, hsm⟩ := hrel
      by_cases hlt : k < m
      · have e1 : decide ((k : Int) < (m : Int)) = true := decide_eq_true (by omega)
        obtain ⟨b1, o1, rfl, _, s, hms, hs2, hc1⟩ := Reads.sl hs k hlt
        have hc2 := hok.cell hc1 (by simp)
        by_cases hbg : 100 < s.n
        · have e2 : decide ((100 : Int) < (s.n : Int)) = true := decide_eq_true (by omega)
          clear hs hoks hsm hs2
          go_wp2_with fail
          go_ret
          exact ⟨rfl, hok⟩
        · have e2 : decide ((100 : Int) < (s.n : Int)) = false := decide_eq_false (by omega)
          have HN : Hid (∀ x ∈ ss.take (k + 1), x.n ≤ 100) := by
            intro x hx
            rw [List.take_add_one, hs2] at hx
            rcases List.mem_append.1 hx with hx | hx
            · exact hsm x hx
            · obtain rfl : x = s := by simpa using hx
              omega
          clear hs hoks hsm hs2
          go_wp2_with fail
          go_roundw
          case rel => exact ⟨k + 1, by omega, by go_num, trivial, HN.out⟩
          case measure => simp [intOf]; omega
      · obtain rfl : k = m := by omega
        have e1 : decide ((k : Int) < (k : Int)) = false := decide_eq_false (by omega)
        have hsm2 : ∀ s ∈ ss, s.n ≤ 1048576 := fun s h => by have := hsm s (by rw [List.take_of_length_le (by omega)]; exact h); omega
        clear hsm
        have HS := Lib.hid hs
        have HOK := Lib.hid hoks
        have HSM := Lib.hid hsm2
        have HR := Lib.hid hr
        have HM := Lib.hid hm
        have HO := Lib.hid hok
        have hsz := hok.size
        clear hs hoks hsm2 hr hm hok
        have hU := fun w' (ho : Only [] w w') => unpack_any A2 k c2 w.heap.size ss z w' HM.out (by omega) (HS.out.only ho (by simp)) ho.size (fun s h => by have := ((HOK.out s h).only ho (by simp)); exact this.more ho.size) h0 h1
        have hV := fun w' (ho : Only [] w w') => runpack_any A2 k c2 w.heap.size ss z w' HM.out (by omega) (HS.out.only ho (by simp)) ho.size (fun s h => by have := ((HOK.out s h).only ho (by simp)); exact this.more ho.size) h0 h1 HSM.out
        have hP := fun w' (ho : Only [] w w') => pack_any A1 n1 c1 l w' ((HR.out.only ho (by simp)).more ho.size) (by omega) hnc hcm
        have hQ := fun w' (ho : Only [] w w') => rpack_any A1 n1 c1 l w' ((HR.out.only ho (by simp)).more ho.size) (by omega)
        have HU := Lib.hid hU
        have HV := Lib.hid hV
        have HP := Lib.hid hP
        have HQ := Lib.hid hQ
        clear hU hV hP hQ HS HOK HSM HM
        obtain ⟨bk, hbk⟩ : ∃ bk, (unp ss z).isSome = bk := ⟨_, rfl⟩
        unfold unpOut at HU HV
        rw [hbk] at HU HV
        generalize unp ss z = U at *
        have hkb : ¬ (2000 < n1) := by omega
        clear hbig
        have hlen := HR.out.len
        have hPP := fun w' (ho : Only [] w w') (ss : List Sl) (h : ss.map (·.l) = pack l (needZ l.length).toNat) (h64 : all64 ss) => unp_pack l ss h h64 (by omega)
        have HUP := Lib.hid hPP
        have hN := fun w' => need_int z w' h0 h1
        have hRN := fun w' => rneed_int z w' h0 h1
        have HN := Lib.hid hN
        have HRN := Lib.hid hRN
        clear hPP hN hRN
        generalize needZ z = nz at *
        go_wp2_with (first
          | (go_at_call 17; refine (HU.out wr HO.out).mono ?_; clear HU; rintro x w2 ⟨Ax, nx, cx, rfl, hbx, _, _, ho2⟩; have HO2 := Lib.hid (HO.out.trans ho2 (by simp)))
          | (go_at_call 18; refine (HV.out w2 HO2.out).mono ?_; clear HV; rintro x w3 ⟨Ay, ny, cy, rfl, hby, _, _, ho3⟩; have HO3 := Lib.hid (HO2.out.trans ho3 (by simp)))
          | (go_at_call 19; refine (HP.out w3 HO3.out).mono ?_; rintro x w4 hx4; obtain ⟨A4, n4, c4, ss4, rfl, hl4, _, _, hr4, hs4, h64, hm4, ho4, hn4⟩ := hx4.use; clear hx4; have HO4 := Lib.hid (HO3.out.trans ho4 (by simp)); have hu4 : unp ss4 (n1 : Int) = some l := by (rw [← hlen]; exact unp_pack l ss4 hm4 h64 (by omega)))
          | (go_at_call 17; refine (unpack_any A4 n4 c4 w4.heap.size ss4 (n1 : Int) w4 hl4 (by omega) hr4 (Nat.le_refl _) hs4 (by omega) (by omega)).mono ?_; rw [hu4]; rintro x w5 ⟨Az, nz5, cz, rfl, hbz, _, _, ho5⟩; have HO5 := Lib.hid (HO4.out.trans ho5 (by simp)); clear hr4 hs4 hu4)
          | (go_at_call 19; refine (HP.out w5 HO5.out).mono ?_; rintro x w6 hx6; obtain ⟨A6, n6, c6, ss6, rfl, hl6, _, _, hr6, hs6, _, hm6, ho6, hn6⟩ := hx6.use; clear hx6; have HO6 := Lib.hid (HO5.out.trans ho6 (by simp)))
          | (go_at_call 21; refine (HQ.out w6 HO6.out).mono ?_; rintro x w7 hx7; obtain ⟨A7, n7, c7, ss7, rfl, hl7, _, _, hr7, hs7, _, hm7, ho7, hn7⟩ := hx7.use; clear hx7; have HO7 := Lib.hid (HO6.out.trans ho7 (by simp)))
          | (go_at_call 20; refine (same_any2 A6 A7 n6 n7 c6 c7 w6.heap.size w7.heap.size ss6 ss7 w7 (hr6.only ho7 (by simp)) hr7 hl6 hl7 (fun s h => ((hs6 s h).only ho7 (by simp)).more ho7.size) hs7 (hm6.trans hm7.symm) (by omega)).mono ?_; rintro x w8 ⟨rfl, ho8⟩; have HO8 := Lib.hid (HO7.out.trans ho8 (by simp)); have o58 := (ho6.trans ho7 (by simp)).trans ho8 (by simp); have o38 := (ho4.trans ho5 (by simp)).trans o58 (by simp); have o28 := ho3.trans o38 (by simp); have sx := run_str (hbx.only o28 (by simp)) cx; have sy := run_str (hby.only o38 (by simp)) cy; have sz := run_str (hbz.only o58 (by simp)) cz; have sb := run_str (HR.out.only HO8.out (by simp)) c1; clear o58 o38 o28)
          | (go_at_call 22; refine (HN.out _).mono ?_; rintro x wn ⟨rfl, rfl⟩)
          | (go_at_call 23; refine (HRN.out _).mono ?_; rintro x wn ⟨rfl, rfl⟩))
        go_ret
        exact ⟨by simp, HO8.out⟩
end Go.Proofs.Ytbeenfkmnchhbaa.Frame
