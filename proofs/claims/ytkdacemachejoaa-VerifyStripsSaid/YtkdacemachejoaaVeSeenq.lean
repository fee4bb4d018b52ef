/- Sets of instructions as maps; the marks that ranges over functions leave. -/
import Derived.Test.YtkdacemachejoaaVeOnq
import Derived.Test.YtkdacemachejoaaMaps
namespace Go.Proofs.Ytkdacemachejoaa.Vm
open Go.RowKit Go.Maps Go.Shelf Object
set_option linter.unusedVariables false
set_option maxRecDepth 100000
def zs (D : List Nat) : List Int := D.map fun n : Nat => (n : Int)
def intsR (D : List Nat) : List (List Value) := D.map fun n : Nat => [.int .i64 (n : Int)]
theorem mem_zs {D : List Nat} {i : Nat} : (i : Int) ∈ zs D ↔ i ∈ D := by
  unfold zs
  rw [List.mem_map]
  constructor
  · rintro ⟨j, hj, he⟩
    have : j = i := by omega
    exact this ▸ hj
  · exact fun h => ⟨i, h, rfl⟩
def pk (d : Int) : Lit := .int .i64 d
theorem pk_inj {p q : Int} (h : pk p = pk q) : p = q := by unfold pk at h; injection h
def in64 (n : Int) : Prop := -9223372036854775808 ≤ n ∧ n ≤ 9223372036854775807
theorem in64n {n : Nat} (h : n ≤ 65536) : in64 (n : Int) := ⟨by omega, by omega⟩
theorem lawI : Keyed Try.prog 3 := int_keyed Try.underlying3
theorem zeroB (w : World) : (zeroValue 4).run Try.prog w = .ok (.bool false) w := by kernel_rfl
theorem keyP {d : Int} (h : in64 d) : keyOf Try.prog 3 (.int .i64 d) = some (pk d) := Go.Maps.keyOf_int_mk Try.underlying3 (by obtain ⟨h1, h2⟩ := h; show (decide (_ ≤ d) && decide (d ≤ _)) = true; rw [Bool.and_eq_true, decide_eq_true_eq, decide_eq_true_eq]; exact ⟨h1, h2⟩)
/-- what was seen -/
def seenF (vis : List Int) : Lit → Option Value
  | .int .i64 d => if d ∈ vis then some (.bool true) else none
  | _ => none
theorem seenF_pk (vis : List Int) (d : Int) : (seenF vis (pk d)).getD (.bool false) = .bool (decide (d ∈ vis)) := by
  unfold seenF pk
  simp only
  by_cases h : d ∈ vis
  · rw [if_pos h, decide_eq_true h]; rfl
  · rw [if_neg h, decide_eq_false h]; rfl
theorem seenF_cons (vis : List Int) (d : Int) : upd (seenF vis) (pk d) (some (.bool true)) = seenF (d :: vis) := by
  funext k
  by_cases hk : k = pk d
  · subst hk
    rw [upd_same]
    unfold seenF pk
    simp
  · rw [upd_other _ _ hk]
    unfold seenF
    split
    · rename_i q
      have : q ≠ d := fun h => hk (by rw [h]; rfl)
      simp [this]
    · rfl
theorem seenF_nil : seenF [] = fun _ => none := by
  funext k
  unfold seenF
  split <;> simp
theorem vm_ne {P : Program} {K : TypeId} {w : World} {b n g : Nat} {t : TypeId} {cs : Array Value} {f : Lit → Option Value} (h : VM P K w b n f) (hb : Blk w g t cs) : b ≠ g := by
  rintro rfl
  obtain ⟨D, ⟨es, clock, hh, _⟩, _⟩ := h
  unfold Blk at hb
  rw [hb] at hh
  cases hh
theorem row_blks {w : World} {base e size n : Nat} {v : Value} {rows : List (List Value)} (h : OwnR e size w base v n rows) : ∀ g ∈ ownL v, base ≤ g ∧ ∃ cs, Blk w g e cs := by
  intro g hg
  refine ⟨(h.lt g hg).1, ?_⟩
  obtain ⟨_, h0⟩ := h.own
  rcases h0 with ⟨rfl, _⟩ | ⟨g', cap, cur, rfl, _, hh, _⟩
  · simp [ownL, Value.ownBlock] at hg
  · simp [ownL, Value.ownBlock] at hg
    subst hg
    exact ⟨_, hh⟩
theorem vm_row {P : Program} {K : TypeId} {w : World} {b n base e size m : Nat} {v : Value} {rows : List (List Value)} {f : Lit → Option Value} (h : VM P K w b n f) (hr : OwnR e size w base v m rows) : b ∉ ownL v := fun hm => by
  obtain ⟨_, cs, hb⟩ := row_blks hr b hm
  exact vm_ne h hb rfl
/-- the marks of loops that are over -/
def mark (D : Nat) : Deferred := { target := .collected D, args := #[] }
def Marks (w : World) (base : Nat) (Ds : List Nat) : Prop := Ds.Nodup ∧ ∀ D ∈ Ds, base ≤ D ∧ w.heap[D]? = some (.deferred (some []))
theorem Marks.nil_ {w : World} {base : Nat} : Marks w base [] := ⟨List.nodup_nil, by simp⟩
theorem Marks.only {w w' : World} {base : Nat} {Ds S : List Nat} (h : Marks w base Ds) (ho : Only S w w') (hS : ∀ g ∈ S, ∃ o, w.heap[g]? = some o ∧ ∀ l, o ≠ .deferred l) : Marks w' base Ds :=
  ⟨h.1, fun D hD => ⟨(h.2 D hD).1, by
    have h1 := (h.2 D hD).2
    rw [ho.block D (Array.getElem?_eq_some_iff.1 h1).1 (fun hm => by
      obtain ⟨o, h2, h3⟩ := hS D hm
      rw [h1] at h2
      exact h3 _ (Option.some.inj h2).symm)]
    exact h1⟩⟩
theorem Marks.only0 {w w' : World} {base : Nat} {Ds : List Nat} (h : Marks w base Ds) (ho : Only [] w w') : Marks w' base Ds := h.only ho (by simp)
theorem Marks.grown {w w' : World} {base : Nat} {Ds : List Nat} (h : Marks w base Ds) (hs : ∀ D ∈ Ds, w'.heap[D]? = w.heap[D]?) : Marks w' base Ds := ⟨h.1, fun D hD => ⟨(h.2 D hD).1, by rw [hs D hD]; exact (h.2 D hD).2⟩⟩
theorem Marks.cons {w : World} {base D : Nat} {Ds : List Nat} (h : Marks w base Ds) (hb : base ≤ D) (hD : w.heap[D]? = some (.deferred (some []))) (hn : D ∉ Ds) : Marks w base (D :: Ds) :=
  ⟨List.nodup_cons.2 ⟨hn, h.1⟩, fun E hE => by
    rcases List.mem_cons.1 hE with rfl | hE
    · exact ⟨hb, hD⟩
    · exact h.2 E hE⟩
theorem leaves_marks {F : Fence} {n : Nat} {P : Program} {fn : Func} {tmps : Array Value} {R : Ending → World → Prop} {base : Nat} : ∀ (Ds : List Nat) (w : World), Marks w base Ds → (∀ w', Only Ds w w' → LeavesIn F n P fn tmps R [] .returning w') → LeavesInM F n P fn tmps R (Ds.map mark) .returning w
  | [], w, _, h => h w (Only.refl _ _)
  | D :: Ds, w, hm, h => by
    have h1 := hm.2 D (by simp)
    refine ⟨by simp, .inl ⟨D, _, rfl, run_takeDeferred h1.2, ?_⟩⟩
    have hnd := List.nodup_cons.1 hm.1
    have hput : Only [D] w (w.putObj D (.deferred none)) := ⟨rfl, rfl, rfl, by simp [World.putObj], fun i _ hn => World.putObj_heap_other (fun e => hn (by simp [e]))⟩
    refine leaves_marks (base := base) Ds _ ⟨hnd.2, fun E hE => ⟨(hm.2 E (by simp [hE])).1, ?_⟩⟩ (fun w' ho => h w' ((hput.mono (by simp)).trans ho (fun g hg => .inl (by simp [hg]))))
    rw [World.putObj_heap_other (fun e => hnd.1 (by rw [← e]; exact hE))]
    exact (hm.2 E (by simp [hE])).2
end Go.Proofs.Ytkdacemachejoaa.Vm
