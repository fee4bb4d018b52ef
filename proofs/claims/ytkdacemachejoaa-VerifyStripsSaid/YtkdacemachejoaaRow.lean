/- One row more, laid just before, appended to a slice of structs. -/
import Derived.Test.YtkdacemachejoaaRecs

namespace Go.Proofs.Ytkdacemachejoaa
open Go.RowKit
set_option linter.unusedVariables false
section
variable {P : Program}
theorem wpList_append1 {w : World} {ops : Array Oper} {rest : List Oper} {o : Oper} {a : Act} {Q : Exit → Act → World → Prop} (hgd : o.guard = none) (s x : Operand) (t : TypeId)
    (ho : o.op = .call { callee := .builtin .append, args := #[s, x], argTypes := #[t, t] })
    {e : TypeId} {z : Value} {size bytes : Nat} (ht : P.underlying t = some (.slice e)) (hi : (P.info? e).map (fun i => (i.zero, i.size, i.bytes)) = some (some z, size, bytes)) (hzs : z.cells.size = size) (hsz : 0 < size)
    {base n : Nat} {v : Value} {rows : List (List Value)} (hs : a.eval s = v) (hown : OwnR e size w base v n rows)
    {g c : Nat} {row : List Value} {C : Array Value} {e' : TypeId} {fr : Nat × Nat} (hx : a.eval x = .slice (some ⟨g, 0, none⟩) 1 c) (hg : w.heap.size = g) (hC : C.toList = row) (hl : row.length = size) (h1 : ∀ u ∈ row, u.oneCell' = true)
    (hbytes : (n + 1) * bytes ≤ 140737488355328) (hmax : n + 1 ≤ maxLen) (hbase : base ≤ w.heap.size + 1)
    (h : ∀ v' w', ExtR e size w w' base v v' (n + 1) (rows ++ [row]) → wpList P ops Q rest (a.put o.dst v') w') : wpList P ops Q (o :: rest) a (w.alloc (.cells C e' fr)) := by
  subst hg
  obtain ⟨i, hi, hz, h2, h3⟩ := info_parts hi
  refine wpList_append_rec hgd s x t ho ht hi hz h2 h3 hzs hsz hs (hown.alloc (.cells C e' fr)) hx (Recs.const1 w row C e' size fr hC hl) (by intro r hr; rw [List.mem_singleton.1 hr]; exact hl) (by intro r hr; rw [List.mem_singleton.1 hr]; exact h1) hbytes hmax (by simpa using hbase) ?_
  intro v' w' hE
  exact h v' w' (hE.after ((Only.refl [] w).alloc _))
theorem step_append1 {w : World} {ops : Array Oper} {o : Oper} {a : Act} {K : Act → World → Prop} {Q : Exit → Act → World → Prop} {E : Prop} (hgd : o.guard = none) (s x : Operand) (t : TypeId)
    (ho : o.op = .call { callee := .builtin .append, args := #[s, x], argTypes := #[t, t] })
    {e : TypeId} {z : Value} {size bytes : Nat} (ht : P.underlying t = some (.slice e)) (hi : (P.info? e).map (fun i => (i.zero, i.size, i.bytes)) = some (some z, size, bytes)) (hzs : z.cells.size = size) (hsz : 0 < size)
    {base n : Nat} {v : Value} {rows : List (List Value)} (hs : a.eval s = v) (hown : OwnR e size w base v n rows)
    {g c : Nat} {row : List Value} {C : Array Value} {e' : TypeId} {fr : Nat × Nat} (hx : a.eval x = .slice (some ⟨g, 0, none⟩) 1 c) (hg : w.heap.size = g) (hC : C.toList = row) (hl : row.length = size) (h1 : ∀ u ∈ row, u.oneCell' = true)
    (hbytes : (n + 1) * bytes ≤ 140737488355328) (hmax : n + 1 ≤ maxLen) (hbase : base ≤ w.heap.size + 1)
    (h : ∀ v' w', ExtR e size w w' base v v' (n + 1) (rows ++ [row]) → K (a.put o.dst v') w') : if Region.wanted o (yielded ops a.tmps) = true then Oper.wp P o a (w.alloc (.cells C e' fr)) K Q else E := by
  subst hg
  obtain ⟨i, hi, hz, h2, h3⟩ := info_parts hi
  refine step_append_rec hgd s x t ho ht hi hz h2 h3 hzs hsz hs (hown.alloc (.cells C e' fr)) hx (Recs.const1 w row C e' size fr hC hl) (by intro r hr; rw [List.mem_singleton.1 hr]; exact hl) (by intro r hr; rw [List.mem_singleton.1 hr]; exact h1) hbytes hmax (by simpa using hbase) ?_
  intro v' w' hE
  exact h v' w' (hE.after ((Only.refl [] w).alloc _))
end
end Go.Proofs.Ytkdacemachejoaa
