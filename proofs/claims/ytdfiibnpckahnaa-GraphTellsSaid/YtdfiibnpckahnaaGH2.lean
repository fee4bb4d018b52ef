/- The heap's Push and Pop of its own; the library's up, down, Push, Pop. -/
import Derived.Test.YtdfiibnpckahnaaGH1
namespace Go.Proofs.Ytdfiibnpckahnaa.Graph
open Go.RowKit Go.Shelf
set_option linter.unusedVariables false
set_option maxRecDepth 100000
/-- a counter in memory: its maps, and the paths that wait -/
structure HB (w : World) (c lb bb base : Nat) (v : Value) (hs : List Path) : Prop where
  blk : Blk w c 63 #[.map (some lb), .map (some bb), v]
  own : OwnR 9 1 w base v hs.length (svs hs)
  far : c ∉ ownL v
  small : hs.length ≤ 100000
def cp (c : Nat) : Value := .pointer (some ⟨c, 2, none⟩)
section
variable {w w' : World} {c lb bb base : Nat} {hs : List Path} {v : Value}
theorem HB.only0 (h : HB w c lb bb base v hs) (ho : Only [] w w') : HB w' c lb bb base v hs := ⟨h.blk.only ho (by simp), h.own.only ho (by simp), h.far, h.small⟩
theorem str_info : (Try.prog.info? 9).map (fun i => (i.zero, i.size, i.bytes)) = some (some (.string ⟨#[]⟩), 1, 16) := by kernel_rfl
/-- one path more, in memory -/
theorem HB.ext {wa wb : World} {v' : Value} {s : Path} (h : HB wa c lb bb base v hs) (hE : ExtR 9 1 wa wb base v v' (hs.length + 1) (svs hs ++ [[sv s]])) (hn : hs.length < 100000) (hc : c < wa.heap.size) : HB (wb.setCell ⟨c, 2, none⟩ v') c lb bb base v' (hs ++ [s]) ∧ FreshV wa v v' ∧ Only (c :: ownL v) wa (wb.setCell ⟨c, 2, none⟩ v') := by
  have hb := h.blk.only hE.only h.far
  have hf : c ∉ ownL v' := fun hm => by
    rcases hE.fresh c hm with e | e
    · exact h.far e
    · omega
  have hrow : svs hs ++ [[sv s]] = svs (hs ++ [s]) := by unfold svs; simp
  have hlen : hs.length + 1 = (hs ++ [s]).length := by simp
  have hown := hE.own
  rw [hrow, hlen] at hown
  have ho2 : Only [c] wb (wb.setCell ⟨c, 2, none⟩ v') := (Only.refl [c] wb).setCell (.inl (by simp)) _
  have hset := hb.set_ 2 v'
  refine ⟨⟨?_, hown.only ho2 (fun k hk hm => hf (by rw [← List.mem_singleton.1 hm]; exact hk)), hf, by rw [← hlen]; omega⟩, hE.fresh, (hE.only.mono (fun k hk => .inl (List.mem_cons_of_mem _ hk))).trans ho2 (fun k hk => .inl (by rw [List.mem_singleton.1 hk]; simp))⟩
  exact hset
theorem assert_str (s : Path) (w : World) : (Instr.typeAssert (.iface 9 (.string (str s))) 20 9 true).run Try.prog w = .ok (.tuple #[.string (str s), .bool true]) w := by kernel_rfl
set_option maxHeartbeats 1000000 in
theorem hpush1_any (h : HB w c lb bb base v hs) (s : Path) (hn : hs.length < 100000) (hb : base ≤ w.heap.size) : Calls Try.prog 98 #[cp c, .iface 9 (sv s)] w fun x w' => x = .returned (.tuple #[]) ∧ ∃ v', HB w' c lb bb base v' (hs ++ [s]) ∧ FreshV w v v' ∧ Only (c :: ownL v) w w' := by
  unfold cp sv
  have c2 : w.cell? ⟨c, 2, none⟩ = some v := h.blk.cell 2
  have hcl := h.blk.lt
  have HH := Lib.hid h
  have hx : ∃ A n cc, v = .slice A n cc := by
    obtain ⟨A, cc, e, _⟩ := h.own.shape (by decide)
    exact ⟨A, _, cc, e⟩
  obtain ⟨A, n, cc, hv⟩ := hx
  have HV := Lib.hid hv
  have hta := assert_str s w
  have f2 := h.blk.frozen 2
  clear h hv
  go_enter Try.func98, Try.ntmps98
  go_wp2_with (at_builtin; refine wpList_append1 (w := w) rfl (.tmp 15) (.tmp 17) 61 rfl Try.underlying61 str_info rfl (by decide) rfl HH.out.own rfl rfl (row := [sv s]) rfl rfl (by intro u hu; rw [List.mem_singleton.1 hu]; rfl) (by omega) (by unfold maxLen; omega) (by omega) ?_; intro v' w3 hE; obtain ⟨A3, c3, e3, _⟩ := hE.own.shape (by decide); subst e3; have hbk := HH.out.blk.only hE.only HH.out.far; have q2 : w3.cell? ⟨c, 2, none⟩ = some v := hbk.cell 2; have g2 := hbk.frozen 2; have HE := Lib.hid hE; clear hE hbk)
  go_end0
  obtain ⟨r1, r2, r3⟩ := HH.out.ext HE.out hn hcl
  exact ⟨rfl, _, r1, r2, r3⟩
end
end Go.Proofs.Ytdfiibnpckahnaa.Graph
