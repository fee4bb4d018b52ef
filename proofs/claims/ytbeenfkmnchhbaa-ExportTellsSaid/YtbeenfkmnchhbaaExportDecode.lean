/- A list of functions out of bytes: export.Decode. -/
import Derived.Test.YtbeenfkmnchhbaaExportSig
import Derived.Test.YtbeenfkmnchhbaaExportEncode
namespace Go.Proofs.Ytbeenfkmnchhbaa.Export
open Go.RowKit Codec
set_option linter.unusedVariables false
set_option maxRecDepth 100000
/-- a function as it is meant: name, parameters, result -/
abbrev SD := ByteArray × List Nat × Nat
def Sg.data (s : Sg) : SD := (s.name, s.ps.map (·.toNat), s.res.toNat)
def rsd (st : Option (List UInt8)) : SD := (str (rname st), (rpar st).1, rres st)
def rss : Nat → Option (List UInt8) → List SD × Option (List UInt8)
  | 0, st => ([], st)
  | k + 1, st => ((rss k st).1 ++ [rsd (rss k st).2], rleft (rss k st).2)
def sgOkD (a : List UInt8) (d : SD) : Bool := nameOk d.1 && Op.bytesLess a d.1.toList && decide (d.2.1.length ≤ 4) && decide (∀ c ∈ d.2.1, c = 1 ∨ c = 2) && decide (d.2.2 ≤ 2)
def chkD (a : List UInt8) : List SD → Bool
  | [] => true
  | d :: r => sgOkD a d && chkD d.1.toList r
def rightD (L : List SD) : Bool := decide (L.length ≤ 32) && chkD [] L
theorem sgOk_data (a : List UInt8) (s : Sg) (h : s.ps.length = s.n) : sgOk a s = sgOkD a s.data := by
  unfold sgOk sgOkD Sg.data
  simp only [List.length_map, h]
  have h1 : decide (okT s.ps) = decide (∀ c ∈ s.ps.map (·.toNat), c = 1 ∨ c = 2) := by
    refine decide_eq_decide.2 ⟨fun h c hc => ?_, fun h c hc => ?_⟩
    · obtain ⟨u, hu, rfl⟩ := List.mem_map.1 hc
      rcases h u hu with rfl | rfl
      · exact .inl rfl
      · exact .inr rfl
    · rcases h _ (List.mem_map.2 ⟨c, hc, rfl⟩) with h | h
      · exact .inl (UInt8.toNat_inj.1 h)
      · exact .inr (UInt8.toNat_inj.1 h)
  rw [h1]
theorem chk_data : ∀ (ss : List Sg) (a : List UInt8), (∀ s ∈ ss, s.ps.length = s.n) → chk a ss = chkD a (ss.map Sg.data)
  | [], _, _ => rfl
  | s :: r, a, h => by
    show (sgOk a s && chk s.name.toList r) = (sgOkD a s.data && chkD s.data.1.toList (r.map Sg.data))
    rw [sgOk_data a s (h s (by simp)), chk_data r _ (fun x hx => h x (by simp [hx]))]
    rfl
theorem right_data (ss : List Sg) (h : ∀ s ∈ ss, s.ps.length = s.n) : rightL ss = rightD (ss.map Sg.data) := by
  unfold rightL rightD
  rw [chk_data ss [] h, List.length_map]
theorem rget_none (k : Nat) : rget k none = [] := rfl
theorem rcounted_none (m : Int) : rcounted m none = none := by unfold rcounted; split <;> rfl
theorem rps_none : ∀ k, (rps k none).2 = none
  | 0 => rfl
  | k + 1 => by show rcounted 2 (rps k none).2 = none; rw [rps_none k, rcounted_none]
theorem rleft_none : rleft none = none := by
  unfold rleft rpar
  have h : rcounted 4 (rtexted 16 none) = none := by
    have : rtexted 16 none = none := by unfold rtexted; rw [rcounted_none]; rfl
    rw [this, rcounted_none]
  rw [h, rps_none, rcounted_none]
theorem rss_bad (st : Option (List UInt8)) (j : Nat) (h : (rss j st).2 = none) : ∀ i, (rss (j + i) st).2 = none
  | 0 => h
  | i + 1 => by show rleft (rss (j + i) st).2 = none; rw [rss_bad st j h i, rleft_none]
def decQ (l : List UInt8) : List SD × Option (List UInt8) := rss (rcount 32 (some l)) (rcounted 32 (some l))
def dec (l : List UInt8) : Option (List SD) := if (decQ l).2 = some [] ∧ rightD (decQ l).1 = true then some (decQ l).1 else none
/-- the parameters lie in a row of the call's own -/
def ParAt (w : World) (B : Nat) (s : Sg) : Prop := OwnR 94 1 w B (.slice s.A s.n s.c) s.n (s.ps.map fun c => [B8 c])
theorem row_blk_t {w : World} {base e size n : Nat} {v : Value} {rows : List (List Value)} (h : OwnR e size w base v n rows) : ∀ g ∈ ownL v, ∃ cs, Blk w g e cs := by
  intro g hg
  obtain ⟨_, h0⟩ := h.own
  rcases h0 with ⟨rfl, _⟩ | ⟨g', cap, cur, rfl, _, hh, _⟩
  · simp [ownL, Value.ownBlock] at hg
  · simp [ownL, Value.ownBlock] at hg
    subst hg
    exact ⟨_, hh⟩
theorem ParAt.bytes {w : World} {B : Nat} {s : Sg} (h : ParAt w B s) : Bytes w w.heap.size s.A s.n s.ps ∧ s.n ≤ s.c ∧ s.c ≤ maxLen := by
  obtain ⟨A, cap, hv, h1, h2, _⟩ := OwnR.shape (by decide) h
  have hl : s.ps.length = s.n := by simpa using h.len
  injection hv with hA _ hc
  have hr := Reads.of_own h.own
  have e : (s.ps.map fun c => [B8 c]).flatten = s.ps.map B8 := by
    clear hr hl h
    induction s.ps with
    | nil => rfl
    | cons c r ih => rw [List.map_cons, List.flatten_cons, ih, List.map_cons]; rfl
  rw [e] at hr
  exact ⟨⟨hl, hr⟩, by rw [hc]; exact h1, by rw [hc]; exact h2⟩
theorem prow_B8 (l : List Nat) (h : ∀ c ∈ l, c ≤ 2) : l.map prow = (l.map UInt8.ofNat).map fun c => [B8 c] := by
  rw [List.map_map]
  refine List.map_congr_left fun c hc => ?_
  have := h c hc
  show [Value.int .u8 (c : Int)] = [Value.int .u8 ((UInt8.ofNat c).toNat : Int)]
  rw [UInt8.toNat_ofNat', Nat.mod_eq_of_lt (by omega)]
theorem rps_le (st : Option (List UInt8)) : ∀ k, ∀ c ∈ (rps k st).1, c ≤ 2
  | 0, _, h => by cases h
  | k + 1, c, h => by
    rcases List.mem_append.1 h with h | h
    · exact rps_le st k c h
    · rw [List.mem_singleton.1 h]; exact rcount_le 2 _
theorem ofNat_back (l : List Nat) (h : ∀ c ∈ l, c ≤ 2) : (l.map UInt8.ofNat).map (·.toNat) = l := by
  rw [List.map_map]
  conv => rhs; rw [← List.map_id l]
  refine List.map_congr_left fun c hc => ?_
  have := h c hc
  show (UInt8.ofNat c).toNat = c
  rw [UInt8.toNat_ofNat', Nat.mod_eq_of_lt (by omega)]
theorem sig_info : (Try.prog.info? 96).map (fun i => (i.zero, i.size, i.bytes)) = some (some (.agg #[.string ⟨#[]⟩, .slice none 0 0, .int .u8 0]), 3, 48) := by kernel_rfl
/-- what Decode hands back -/
def decOut (l : List UInt8) (w : World) (x : Ending) (w' : World) : Prop :=
  ∃ A n c ss, x = .returned (.tuple #[.slice A n c, .int .i64 (if (dec l).isSome = true then 0 else 5)]) ∧ Sgs w' A n ss ∧ n ≤ c ∧ c ≤ maxLen ∧ ss.map Sg.data = (dec l).getD [] ∧ Only [] w w'
theorem Sgs.nil_ (w : World) : Sgs w none 0 [] := ⟨rfl, Recs.nil_, by simp⟩
set_option maxHeartbeats 1000000 in
theorem decode_any (A : Option Addr) (n c : Nat) (l : List UInt8) (w : World) (hr : Bytes w w.heap.size A n l) (hn : n ≤ 100000000) :
    Calls Try.prog 28 #[.slice A n c] w fun x w' => decOut l w x w' := by
  have hq : decQ l = rss (rcount 32 (some l)) (rcounted 32 (some l)) := rfl
  have HQ := Lib.hid hq
  have hM := rcount_le 32 (some l)
  clear hq
  have hC := fun p w' h => count_any p 32 (some l) w' h
  generalize rcounted 32 (some l) = st1 at *
  generalize rcount 32 (some l) = M at *
  have HC := Lib.hid hC
  clear hC
  go_enter Try.func28, Try.ntmps28
  go_wp2_with (first
    | (go_at_call 51; refine (read_any A n c _ l w hr (by omega)).mono ?_; rintro x w2 ⟨p, rfl, hR2, ho2, hp2⟩)
    | (go_at_call 69; refine (HC.out p w2 hR2).mono ?_; rintro x w3 ⟨rfl, hR3, ho3⟩))
  have hpl : p < w2.heap.size := by obtain ⟨_, _, _, hb, _⟩ := hR2; exact hb.lt
  have ho4 : Only [] w w3 := ho2.trans ho3 (by simp; omega)
  have hsz3 := ho3.size
  obtain ⟨B, hB⟩ : ∃ B, w2.heap.size = B := ⟨_, rfl⟩
  rw [hB] at hpl hsz3
  have hBw : w.heap.size ≤ B := by omega
  clear hR2 ho2 ho3 hB HC hr
  go_loopw [5, 6] (fun v i wr => ∃ (j rem : Nat) (ss : List Sg), j + rem = M ∧ i = .int .i64 rem ∧ Rd wr p (rss j st1).2 ∧ OwnR 96 3 wr B v j (ss.map Sg.row) ∧ (∀ s ∈ ss, ParAt wr B s ∧ s.n ≤ 4) ∧ ss.map Sg.data = (rss j st1).1 ∧ Only [] w wr ∧ B ≤ wr.heap.size) (fun _ i _ => (intOf i).toNat)
  case atStart => exact ⟨0, M, [], by omega, rfl, hR3, OwnR.nil_ _ _ _ _, by simp, rfl, ho4, hsz3⟩
  case round =>
    clear hR3 ho4 hsz3
    obtain ⟨j, rem, ss, hjr, rfl, hRd, hv, hpar, hdata, ho, hBs⟩ := hrel
    by_cases hrem : 0 < rem
    · have e1 : decide ((0 : Int) < (rem : Int)) = true := decide_eq_true (by omega)
      have hG := good_any p (rss j st1).2 wr hRd
      cases hst : (rss j st1).2 with
      | none =>
        rw [hst] at hG hRd
        have hE := end_any p none wr hRd
        have hbad := rss_bad st1 j hst rem
        rw [hjr] at hbad
        have hdn : dec l = none := by
          unfold dec
          rw [HQ.out, hbad]
          rw [if_neg (by simp)]
        have HDN := Lib.hid hdn
        have HD := Lib.hid ho
        clear hbad hdn HQ hst hdata hpar hv hRd hBs hjr
        go_wp2_with (first
          | (go_at_call 70; refine hG.mono ?_; rintro x wg ⟨rfl, rfl⟩)
          | (go_at_call 72; refine hE.mono ?_; rintro x wg ⟨rfl, rfl⟩))
        exact bodyPost_ret (v := .tuple #[.slice none 0 0, .int .i64 5]) (by simp [results, Try.results28, go_sem]) rfl (by unfold decOut; rw [HDN.out]; exact ⟨none, 0, 0, [], rfl, Sgs.nil_ _, Nat.le_refl _, by simp [maxLen], rfl, HD.out⟩)
      | some left =>
        have hS := sig_any p (rss j st1).2 wr hRd
        rw [hst] at hG hS
        have hnext : rss (j + 1) st1 = ((rss j st1).1 ++ [rsd (some left)], rleft (some left)) := by show ((rss j st1).1 ++ [rsd (rss j st1).2], rleft (rss j st1).2) = _; rw [hst]
        have HN := Lib.hid hnext
        have HDATA := Lib.hid hdata
        have hle : ∀ c ∈ (rpar (some left)).1, c ≤ 2 := rps_le _ _
        have hrs : rres (some left) ≤ 2 := rcount_le 2 _
        have hp4 : rnum (some left) ≤ 4 := rcount_le 4 _
        have HLE := Lib.hid hle
        have HSD : Hid (rsd (some left) = (str (rname (some left)), (rpar (some left)).1, rres (some left))) := rfl
        clear hnext hdata hst hRd hle
        generalize str (rname (some left)) = nm at *
        generalize rres (some left) = rs at *
        generalize rnum (some left) = pn at *
        generalize (rpar (some left)).1 = pl at *
        obtain ⟨lA, lc, rfl, _⟩ := hv.shape (by decide)
        obtain ⟨r, rfl⟩ : ∃ r, rem = r + 1 := ⟨rem - 1, by omega⟩
        have hlv := hv.lt
        have hlb := row_blk_t hv
        have HPAR := Lib.hid hpar
        have HO := Lib.hid ho
        have hS' := hS
        have HV := Lib.hid hv
        clear hpar ho hv hS
        go_wp2_with (first
          | (go_at_call 70; refine hG.mono ?_; rintro x wg ⟨rfl, rfl⟩)
          | (go_at_call 71; refine hS'.mono ?_; rintro x w5 ⟨vp, rfl, hvp, hR5, ho5⟩; obtain ⟨pA, pc, rfl, _⟩ := hvp.shape (by decide); have hv5 := HV.out.only ho5 (fun g hg => by have := (hlv g hg).1; simp; omega); have hs5 := ho5.size)
          | (at_builtin; refine wpList_append1 (w := w5) rfl (.tmp 19) (.tmp 22) 43 rfl Try.underlying43 sig_info rfl (by decide) rfl hv5 rfl rfl (row := [.string nm, .slice pA pn pc, .int .u8 (rs : Int)]) rfl rfl (by intro u hu; simp at hu; rcases hu with rfl | rfl | rfl <;> rfl) (by omega) (by unfold maxLen; omega) (by omega) ?_; intro v' w6 hE))
        have hcr : ((UInt8.ofNat rs).toNat : Int) = (rs : Int) := by rw [UInt8.toNat_ofNat', Nat.mod_eq_of_lt (by omega)]
        have hrow : [Value.string nm, .slice pA pn pc, .int .u8 (rs : Int)] = Sg.row ⟨nm, pA, pn, pc, pl.map UInt8.ofNat, UInt8.ofNat rs⟩ := by
          unfold Sg.row
          rw [hcr]
        refine ⟨⟨j + 1, r, ss ++ [⟨nm, pA, pn, pc, pl.map UInt8.ofNat, UInt8.ofNat rs⟩], by omega, rfl, ?_, ?_, ?_, ?_, ?_, ?_⟩, by simp [intOf]⟩
        · rw [HN.out]
          exact hR5.later hE.only (fun g hg => by have := (hlv g hg).1; omega)
        · rw [List.map_append]
          have := hE.own
          rw [hrow] at this
          exact this
        · intro s hs
          have hdis : ∀ (x : Sg), ParAt w5 B x → ParAt w6 B x := fun x hx => hx.only hE.only (fun g hg hm => by
            obtain ⟨cs, hb⟩ := row_blk_t hx g hg
            exact row_ne' hv5 g hb (by decide) hm)
          rcases List.mem_append.1 hs with hs | hs
          · exact ⟨hdis s ((HPAR.out s hs).1.only ho5 (fun g hg => by have := (OwnR.lt (HPAR.out s hs).1 g hg).1; simp; omega)), (HPAR.out s hs).2⟩
          · rw [List.mem_singleton.1 hs]
            refine ⟨hdis _ ?_, hp4⟩
            unfold ParAt
            simp only
            rw [← prow_B8 pl HLE.out]
            exact hvp.mono hBs
        · rw [List.map_append, HN.out, HDATA.out, HSD.out]
          show _ ++ [Sg.data _] = _
          unfold Sg.data
          simp only
          rw [ofNat_back pl HLE.out, UInt8.toNat_ofNat', Nat.mod_eq_of_lt (show rs < 2 ^ 8 by omega)]
        · exact (HO.out.trans ho5 (by simp; omega)).trans hE.only (fun g hg => .inr (by have := (hlv g hg).1; omega))
        · have := hE.only.size; omega
    · obtain rfl : rem = 0 := by omega
      obtain rfl : j = M := by omega
      have e1 : decide ((0 : Int) < ((0 : Nat) : Int)) = false := rfl
      have hE := end_any p (rss j st1).2 wr hRd
      obtain ⟨lA, lc, rfl, hl1, hl2, hrecs, _⟩ := hv.shape (by decide)
      have hlen : ss.length = j := by simpa using hv.len
      have hsgs : Sgs wr lA j ss := ⟨hlen, hrecs, fun s hs => (hpar s hs).1.bytes⟩
      have hsn : ∀ s ∈ ss, s.ps.length = s.n := fun s hs => (hpar s hs).1.bytes.1.len
      have hRt := right_any lA j lc ss wr hsgs (by omega) (fun s hs => by have := (hpar s hs).2; omega)
      rw [right_data ss hsn, hdata] at hRt
      have hdec : dec l = if (rss j st1).2 = some [] ∧ rightD (rss j st1).1 = true then some (rss j st1).1 else none := by unfold dec; rw [HQ.out]
      have HDEC := Lib.hid hdec
      have HDATA := Lib.hid hdata
      have HS := Lib.hid hsgs
      have HO := Lib.hid ho
      clear hdec hdata hsn hpar HQ hsgs ho hv hRd hrecs
      generalize (rss j st1).1 = L at *
      generalize (rss j st1).2 = q at *
      by_cases hq : q = some []
      · subst hq
        have HE : Hid (Calls Try.prog 72 #[.pointer (some ⟨p, 0, none⟩)] wr fun e w' => e = .returned (.bool true) ∧ wr = w') := hE
        clear hE
        cases hr : rightD L
        · rw [hr] at hRt
          have hdn : dec l = none := by rw [HDEC.out, hr]; simp
          have HDN := Lib.hid hdn
          clear hdn hr
          go_wp2_with (first
            | (go_at_call 72; refine HE.out.mono ?_; rintro x wg ⟨rfl, rfl⟩)
            | (go_at_call 32; refine hRt.mono ?_; rintro x wg ⟨rfl, hog⟩))
          exact bodyPost_ret (v := .tuple #[.slice none 0 0, .int .i64 5]) (by simp [results, Try.results28, go_sem]) rfl (by unfold decOut; rw [HDN.out]; exact ⟨none, 0, 0, [], rfl, Sgs.nil_ _, Nat.le_refl _, by simp [maxLen], rfl, HO.out.trans hog (by simp)⟩)
        · rw [hr] at hRt
          have hdn : dec l = some L := by rw [HDEC.out, hr]; simp
          have HDN := Lib.hid hdn
          clear hdn hr
          go_wp2_with (first
            | (go_at_call 72; refine HE.out.mono ?_; rintro x wg ⟨rfl, rfl⟩)
            | (go_at_call 32; refine hRt.mono ?_; rintro x wg ⟨rfl, hog⟩))
          exact bodyPost_ret (v := .tuple #[.slice lA j lc, .int .i64 0]) (by simp [results, Try.results28, go_sem]) rfl (by unfold decOut; rw [HDN.out]; exact ⟨lA, j, lc, ss, rfl, HS.out.only hog, hl1, hl2, HDATA.out, HO.out.trans hog (by simp)⟩)
      · have hqb : (q == some []) = false := by simp [hq]
        rw [hqb] at hE
        have hdn : dec l = none := by rw [HDEC.out, if_neg (fun h => hq h.1)]
        have HDN := Lib.hid hdn
        clear hdn hqb
        go_wp2_with (first
          | (go_at_call 72; refine hE.mono ?_; rintro x wg ⟨rfl, rfl⟩))
        exact bodyPost_ret (v := .tuple #[.slice none 0 0, .int .i64 5]) (by simp [results, Try.results28, go_sem]) rfl (by unfold decOut; rw [HDN.out]; exact ⟨none, 0, 0, [], rfl, Sgs.nil_ _, Nat.le_refl _, by simp [maxLen], rfl, HO.out⟩)
end Go.Proofs.Ytbeenfkmnchhbaa.Export
