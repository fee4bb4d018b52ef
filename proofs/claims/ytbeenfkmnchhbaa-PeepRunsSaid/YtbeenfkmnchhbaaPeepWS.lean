/- The new object that peep.without makes, in memory. PRINTED by wip/gen_peepws.py. -/
import Derived.Test.YtbeenfkmnchhbaaPeepThread
import Derived.Test.YtbeenfkmnchhbaaPeepTos
import Derived.Test.YtbeenfkmnchhbaaRowOff
namespace Go.Proofs.Ytbeenfkmnchhbaa.Peep
open Go.RowKit Object
set_option linter.unusedVariables false
set_option maxRecDepth 100000
structure WS (w : World) (base T X O R n : Nat) (f : Nat → Nat) (vx vo vr : Array Value) (v1 v2 v3 : Value) (m1 m2 m3 : Nat) (cs : List Cd) (es ls : List En) : Prop where
  code : OwnR 59 5 w base v1 m1 (cs.map Cd.row)
  ents : OwnR 73 2 w base v2 m2 (es.map En.row)
  calls : OwnR 75 2 w base v3 m3 (ls.map En.rowC)
  tos : Tos w T n f
  xb : Blk w X 57 vx
  ob : Blk w O 57 vo
  rb : Blk w R 57 vr
section
variable {w w' : World} {base T X O R n : Nat} {f : Nat → Nat} {vx vo vr : Array Value} {v1 v2 v3 : Value} {m1 m2 m3 : Nat} {cs : List Cd} {es ls : List En}
theorem WS.only0 (h : WS w base T X O R n f vx vo vr v1 v2 v3 m1 m2 m3 cs es ls) (ho : Only [] w w') : WS w' base T X O R n f vx vo vr v1 v2 v3 m1 m2 m3 cs es ls :=
  ⟨h.code.only ho (by simp), h.ents.only ho (by simp), h.calls.only ho (by simp), h.tos.only ho (by simp), h.xb.only ho (by simp), h.ob.only ho (by simp), h.rb.only ho (by simp)⟩
theorem WS.drew (h : WS w base T X O R n f vx vo vr v1 v2 v3 m1 m2 m3 cs es ls) : WS w.drew base T X O R n f vx vo vr v1 v2 v3 m1 m2 m3 cs es ls := h.only0 ((Only.refl [] w).drew)
theorem WS.base_le (h : WS w base T X O R n f vx vo vr v1 v2 v3 m1 m2 m3 cs es ls) : (∀ g ∈ ownL v1, base ≤ g) ∧ (∀ g ∈ ownL v2, base ≤ g) ∧ (∀ g ∈ ownL v3, base ≤ g) := ⟨fun g hg => (h.code.lt g hg).1, fun g hg => (h.ents.lt g hg).1, fun g hg => (h.calls.lt g hg).1⟩
theorem getD_mapE {es : List En} {k : Nat} {e : En} (h : es[k]? = some e) : (es.map En.row).getD k [] = e.row := by
  rw [List.getD_eq_getElem?_getD, List.getElem?_map, h]
  rfl
theorem getD_mapC {es : List En} {k : Nat} {e : En} (h : es[k]? = some e) : (es.map En.rowC).getD k [] = e.rowC := by
  rw [List.getD_eq_getElem?_getD, List.getElem?_map, h]
  rfl
theorem set_p {es : List En} {k : Nat} {e : En} (h : es[k]? = some e) (t : Int) : (es.map En.row).set k (((es.map En.row).getD k []).set 1 (.int .i64 t)) = (es.set k { e with pos := t }).map En.row := by
  rw [getD_mapE h, List.map_set]
  rfl
theorem set_pC {es : List En} {k : Nat} {e : En} (h : es[k]? = some e) (t : Int) : (es.map En.rowC).set k (((es.map En.rowC).getD k []).set 0 (.int .i64 t)) = (es.set k { e with pos := t }).map En.rowC := by
  rw [getD_mapC h, List.map_set]
  rfl
/-- a cell of the code is stored -/
theorem WS.set_code {g cap : Nat} (h : WS w base T X O R n f vx vo vr (.slice (some ⟨g, 0, none⟩) m1 cap) v2 v3 m1 m2 m3 cs es ls) {i : Nat} {c : Cd} (hc : cs[i]? = some c) (t : Int) :
    WS (w.setCell ⟨g, i * 5 + 4, none⟩ (.int .i64 t)) base T X O R n f vx vo vr (.slice (some ⟨g, 0, none⟩) m1 cap) v2 v3 m1 m2 m3 (cs.set i { c with n := t }) es ls ∧ Only [g] w (w.setCell ⟨g, i * 5 + 4, none⟩ (.int .i64 t)) := by
  have ho : Only [g] w (w.setCell ⟨g, i * 5 + 4, none⟩ (.int .i64 t)) := (Only.refl [g] w).setCell (p := ⟨g, i * 5 + 4, none⟩) (.inl (by simp)) _
  have hgo : g ∈ ownL (.slice (some ⟨g, 0, none⟩) m1 cap) := by simp [ownL, Value.ownBlock]
  have hl : cs.length = m1 := by have := h.code.len; simpa using this
  have hi : i < m1 := by rw [← hl]; exact (List.getElem?_eq_some_iff.1 hc).1
  have hset := h.code.set (i := i) (j := 4) hi (by omega) (.int .i64 t)
  rw [set_n hc] at hset
  exact ⟨⟨hset, h.ents.only ho (fun q hq hm => off_rows h.code h.ents (by decide) g (by simp [ownL, Value.ownBlock]) (List.mem_singleton.1 hm ▸ hq)), h.calls.only ho (fun q hq hm => off_rows h.code h.calls (by decide) g (by simp [ownL, Value.ownBlock]) (List.mem_singleton.1 hm ▸ hq)), h.tos.only ho (fun hm => h.tos.off h.code (by decide) (List.mem_singleton.1 hm ▸ hgo)), h.xb.only ho (fun hm => off_blk h.code h.xb (by decide) (List.mem_singleton.1 hm ▸ hgo)), h.ob.only ho (fun hm => off_blk h.code h.ob (by decide) (List.mem_singleton.1 hm ▸ hgo)), h.rb.only ho (fun hm => off_blk h.code h.rb (by decide) (List.mem_singleton.1 hm ▸ hgo))⟩, ho⟩
/-- a cell of the ents is stored -/
theorem WS.set_ents {g cap : Nat} (h : WS w base T X O R n f vx vo vr v1 (.slice (some ⟨g, 0, none⟩) m2 cap) v3 m1 m2 m3 cs es ls) {i : Nat} {c : En} (hc : es[i]? = some c) (t : Int) :
    WS (w.setCell ⟨g, i * 2 + 1, none⟩ (.int .i64 t)) base T X O R n f vx vo vr v1 (.slice (some ⟨g, 0, none⟩) m2 cap) v3 m1 m2 m3 cs (es.set i { c with pos := t }) ls ∧ Only [g] w (w.setCell ⟨g, i * 2 + 1, none⟩ (.int .i64 t)) := by
  have ho : Only [g] w (w.setCell ⟨g, i * 2 + 1, none⟩ (.int .i64 t)) := (Only.refl [g] w).setCell (p := ⟨g, i * 2 + 1, none⟩) (.inl (by simp)) _
  have hgo : g ∈ ownL (.slice (some ⟨g, 0, none⟩) m2 cap) := by simp [ownL, Value.ownBlock]
  have hl : es.length = m2 := by have := h.ents.len; simpa using this
  have hi : i < m2 := by rw [← hl]; exact (List.getElem?_eq_some_iff.1 hc).1
  have hset := h.ents.set (i := i) (j := 1) hi (by omega) (.int .i64 t)
  rw [set_p hc] at hset
  exact ⟨⟨h.code.only ho (fun q hq hm => off_rows h.ents h.code (by decide) g (by simp [ownL, Value.ownBlock]) (List.mem_singleton.1 hm ▸ hq)), hset, h.calls.only ho (fun q hq hm => off_rows h.ents h.calls (by decide) g (by simp [ownL, Value.ownBlock]) (List.mem_singleton.1 hm ▸ hq)), h.tos.only ho (fun hm => h.tos.off h.ents (by decide) (List.mem_singleton.1 hm ▸ hgo)), h.xb.only ho (fun hm => off_blk h.ents h.xb (by decide) (List.mem_singleton.1 hm ▸ hgo)), h.ob.only ho (fun hm => off_blk h.ents h.ob (by decide) (List.mem_singleton.1 hm ▸ hgo)), h.rb.only ho (fun hm => off_blk h.ents h.rb (by decide) (List.mem_singleton.1 hm ▸ hgo))⟩, ho⟩
/-- a cell of the calls is stored -/
theorem WS.set_calls {g cap : Nat} (h : WS w base T X O R n f vx vo vr v1 v2 (.slice (some ⟨g, 0, none⟩) m3 cap) m1 m2 m3 cs es ls) {i : Nat} {c : En} (hc : ls[i]? = some c) (t : Int) :
    WS (w.setCell ⟨g, i * 2 + 0, none⟩ (.int .i64 t)) base T X O R n f vx vo vr v1 v2 (.slice (some ⟨g, 0, none⟩) m3 cap) m1 m2 m3 cs es (ls.set i { c with pos := t }) ∧ Only [g] w (w.setCell ⟨g, i * 2 + 0, none⟩ (.int .i64 t)) := by
  have ho : Only [g] w (w.setCell ⟨g, i * 2 + 0, none⟩ (.int .i64 t)) := (Only.refl [g] w).setCell (p := ⟨g, i * 2 + 0, none⟩) (.inl (by simp)) _
  have hgo : g ∈ ownL (.slice (some ⟨g, 0, none⟩) m3 cap) := by simp [ownL, Value.ownBlock]
  have hl : ls.length = m3 := by have := h.calls.len; simpa using this
  have hi : i < m3 := by rw [← hl]; exact (List.getElem?_eq_some_iff.1 hc).1
  have hset := h.calls.set (i := i) (j := 0) hi (by omega) (.int .i64 t)
  rw [set_pC hc] at hset
  exact ⟨⟨h.code.only ho (fun q hq hm => off_rows h.calls h.code (by decide) g (by simp [ownL, Value.ownBlock]) (List.mem_singleton.1 hm ▸ hq)), h.ents.only ho (fun q hq hm => off_rows h.calls h.ents (by decide) g (by simp [ownL, Value.ownBlock]) (List.mem_singleton.1 hm ▸ hq)), hset, h.tos.only ho (fun hm => h.tos.off h.calls (by decide) (List.mem_singleton.1 hm ▸ hgo)), h.xb.only ho (fun hm => off_blk h.calls h.xb (by decide) (List.mem_singleton.1 hm ▸ hgo)), h.ob.only ho (fun hm => off_blk h.calls h.ob (by decide) (List.mem_singleton.1 hm ▸ hgo)), h.rb.only ho (fun hm => off_blk h.calls h.rb (by decide) (List.mem_singleton.1 hm ▸ hgo))⟩, ho⟩
end
end Go.Proofs.Ytbeenfkmnchhbaa.Peep
