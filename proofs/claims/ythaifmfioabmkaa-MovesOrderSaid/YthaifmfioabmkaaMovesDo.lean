/- (*mover).do walks. -/
import Derived.Test.YthaifmfioabmkaaMovesKit
import Derived.Test.YthaifmfioabmkaaRow
namespace Go.Proofs.Ythaifmfioabmkaa.Moves
open Go.RowKit Go.Maps
set_option linter.unusedVariables false
set_option maxRecDepth 100000
theorem blk_step {w : World} {p b1 b2 base N : Nat} {v : Value} {S G O : List Mv} (h : MW w p b1 b2 v base N S G O) : (w.cell? ⟨p, 0, none⟩ = some (.map (some b1)) ∧ w.cell? ⟨p, 1, none⟩ = some (.map (some b2)) ∧ w.cell? ⟨p, 2, none⟩ = some v) ∧ p ∉ ownL v ∧ p ≠ b1 ∧ p ≠ b2 := by
  refine ⟨⟨h.blk.cell 0, h.blk.cell 1, h.blk.cell 2⟩, off_blk h.out h.blk (by decide), ?_, ?_⟩
  · rintro rfl
    obtain ⟨n, _, D, ⟨es, clock, hb, _⟩, _⟩ := h.frm
    have := h.blk
    unfold Blk at this
    rw [this] at hb
    cases hb
  · rintro rfl
    obtain ⟨n, f, _, ⟨D, ⟨es, clock, hb, _⟩, _⟩, _⟩ := h.asked
    have := h.blk
    unfold Blk at this
    rw [this] at hb
    cases hb
/-- a move is appended: block p holds another slice -/
theorem mw_out {w w5 : World} {p b1 b2 base N : Nat} {v v' : Value} {S G O : List Mv} {x : Mv} (h : MW w p b1 b2 v base N S G O) (hE : ExtR 33 2 w w5 base v v' (O.length + 1) (O.map Mv.row ++ [x.row])) :
    Blk w5 p 47 #[.map (some b1), .map (some b2), v] ∧ Blk (w5.setCell ⟨p, 2, none⟩ v') p 47 #[.map (some b1), .map (some b2), v'] ∧ Only (p :: ownL v) w (w5.setCell ⟨p, 2, none⟩ v') ∧
    OwnR 33 2 (w5.setCell ⟨p, 2, none⟩ v') base v' (O.length + 1) (O.map Mv.row ++ [x.row]) := by
  obtain ⟨_, hp, _⟩ := blk_step h
  have hb5 := h.blk.only hE.only hp
  have ho : Only (p :: ownL v) w (w5.setCell ⟨p, 2, none⟩ v') := (hE.only.mono (S' := p :: ownL v) (fun g hg => .inl (List.mem_cons_of_mem _ hg))).setCell (p := ⟨p, 2, none⟩) (.inl (List.mem_cons_self ..)) v'
  refine ⟨hb5, hb5.set_ 2 v', ho, hE.own.only (S := [p]) ((Only.refl [p] w5).setCell (p := ⟨p, 2, none⟩) (.inl (List.mem_singleton.2 rfl)) v') ?_⟩
  intro g hg hgp
  rw [List.mem_singleton.1 hgp] at hg
  exact off_blk hE.own hb5 (by decide) hg
set_option maxHeartbeats 1000000 in
theorem do_any (p b1 b2 : Nat) (v : Value) (base N : Nat) (S G O : List Mv) (d s : Int) (w : World) (h : MW w p b1 b2 v base N S G O) (hf : fro S d = some s) (hd : in64 d) (hs : in64 s) (hN : N ≤ 1000) (hb : base ≤ w.heap.size) :
    Calls Try.prog 23 #[.pointer (some ⟨p, 0, none⟩), .int .i64 d, .int .i64 s] w fun x w' => ∃ v', x = .returned (.tuple #[]) ∧ MW w' p b1 b2 v' base N (dropD S d) G (O ++ [⟨d, s⟩]) ∧ Only (mvBlocks p b1 b2 v) w w' ∧ FreshV w v v' := by
  obtain ⟨⟨c0, c1, c2⟩, hpv, hp1, hp2⟩ := blk_step h
  have hlen := h.len
  have hld := len_dropD h.uniq hf
  have H := Lib.hid h
  have HF := Lib.hid hf
  have HKD := Lib.hid (keyI hd)
  have HKS := Lib.hid (keyI hs)
  have hak := ask_le (S ++ G) s
  rw [List.length_append] at hak
  have hgl := h.glen
  have HHB := Lib.hid hb
  clear hf h
  go_enter Try.func23, Try.ntmps23
  obtain ⟨n1, hn1, hvm1⟩ := H.out.frm
  obtain ⟨n2, f, hn2, hvm2, haf⟩ := H.out.asked
  have HAF := Lib.hid haf
  have hask := haf s
  have HV1 := Lib.hid hvm1
  have HV2 := Lib.hid hvm2
  have hL : ∀ q, ask (S ++ G) q = ask (dropD S d ++ G) q + if s = q then 1 else 0 := by
    intro q
    rw [ask_app, ask_app, ask_dropD H.out.uniq HF.out q]
    omega
  have hpos : 0 < ask (S ++ G) s := by
    have := hL s
    rw [if_pos rfl] at this
    omega
  have HL := Lib.hid hL
  clear hvm1 hvm2 haf hL
  go_wp2_with (first
    | (at_builtin; refine wpList_append1 rfl (.tmp 10) (.tmp 14) 25 rfl Try.underlying25 mv_info rfl (by decide) rfl H.out.out rfl rfl (row := [.int .i64 d, .int .i64 s]) rfl rfl (by intro u hu; simp at hu; rcases hu with rfl | rfl <;> rfl) (by omega) (by unfold maxLen; omega) (by omega) ?_; intro v' w5 hE; obtain ⟨A', cap', rfl, _⟩ := hE.own.shape (by decide); obtain ⟨hb5, hb6, ho6, hown6⟩ := mw_out (x := ⟨d, s⟩) H.out hE; have x0 := hb6.cell 0; have x1 := hb6.cell 1; have y2 := hb5.cell 2; have f5 := hb5.frozen 2; have HV3 := Lib.hid (HV1.out.only ho6 (by intro h; rcases List.mem_cons.1 h with h | h; exact hp1 h.symm; exact off_map H.out.out HV1.out h)); have HV4 := Lib.hid (HV2.out.only ho6 (by intro h; rcases List.mem_cons.1 h with h | h; exact hp2 h.symm; exact off_map H.out.out HV2.out h)))
    | (at_delete; refine wpList_drop rfl (.tmp 21) (.tmp 22) 38 3 rfl 3 lawI Try.underlying38 rfl HV3.out rfl HKD.out ?_; intro w7 hv7 ho7; have hb7 := hb6.only ho7 (by simpa using hp1); have z1 := hb7.cell 1; have HV5 := Lib.hid (HV4.out.only ho7 (by simpa using fun h => H.out.ne h.symm)); have hlk := VM.run_look1 HV5.out lawI Try.underlying38 (zeroI w7) HKS.out; rw [hask] at hlk)
    | (at_mapUpdate; refine wpList_put rfl (.tmp 26) (.tmp 27) (.tmp 29) 38 rfl 3 3 lawI Try.underlying38 rfl HV5.out (by unfold maxLen; omega) rfl rfl HKS.out ?_; intro w8 hv8 ho8; go_frame))
  go_end0
  have hb8 := hb7.only ho8 (by simpa using hp2)
  have hE0 := hE
  have hoff1 : b1 ∉ ownL (.slice A' (O.length + 1) cap') := off_map hown6 HV3.out
  have hoff2 : b2 ∉ ownL (.slice A' (O.length + 1) cap') := off_map hown6 HV4.out
  have hown8 := (hown6.only ho7 (fun g hg hm => hoff1 (List.mem_singleton.1 hm ▸ hg))).only ho8 (fun g hg hm => hoff2 (List.mem_singleton.1 hm ▸ hg))
  have hv9 : VM Try.prog 3 w8 b1 n1 (fromF (dropD S d)) := by
    have := hv7.only ho8 (by simpa using H.out.ne)
    rw [fromF_drop] at this
    exact this
  refine ⟨_, rfl, ⟨hb8, ⟨n1, hn1, hv9⟩, ⟨n2 + 1, _, by omega, hv8, HAF.out.drop HL.out _ rfl⟩, ?_, H.out.ne, H.out.uniq.dropD d, ?_, by omega⟩, ?_, hE.fresh⟩
  · have e1 : (O ++ [(⟨d, s⟩ : Mv)]).length = O.length + 1 := by simp
    have e2 : (O ++ [(⟨d, s⟩ : Mv)]).map Mv.row = O.map Mv.row ++ [[.int .i64 d, .int .i64 s]] := by simp [Mv.row]
    rw [e1, e2]
    exact hown8
  · simp
    omega
  · refine (ho6.mono (S' := mvBlocks p b1 b2 v) ?_).trans (ho7.mono (S' := mvBlocks p b1 b2 v) ?_) (fun g hg => .inl hg) |>.trans (ho8.mono (S' := mvBlocks p b1 b2 v) ?_) (fun g hg => .inl hg)
    · intro g hg
      rcases List.mem_cons.1 hg with rfl | h
      · exact .inl (by simp [mvBlocks])
      · exact .inl (by simp [mvBlocks, h])
    · intro g hg
      exact .inl (by simp [mvBlocks, List.mem_singleton.1 hg])
    · intro g hg
      exact .inl (by simp [mvBlocks, List.mem_singleton.1 hg])
end Go.Proofs.Ythaifmfioabmkaa.Moves
