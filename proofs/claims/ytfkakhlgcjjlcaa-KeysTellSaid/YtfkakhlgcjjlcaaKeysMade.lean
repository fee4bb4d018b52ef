/- What any text is made of, as a key: the plain law. -/
import Derived.Test.YtfkakhlgcjjlcaaKeysKey
namespace Go.Proofs.Ytfkakhlgcjjlcaa.Keys
open Go.RowKit Codec
set_option linter.unusedVariables false

def rdeps : Nat → Option (List UInt8) → List DepT × Option (List UInt8)
  | 0, st => ([], st)
  | _ + 1, none => ([], none)
  | n + 1, some l => ((str (rtext 255 (some l)), str (rtext 65535 (rtexted 255 (some l)))) :: (rdeps n (rtexted 65535 (rtexted 255 (some l)))).1, (rdeps n (rtexted 65535 (rtexted 255 (some l)))).2)
theorem rdeps_none (n : Nat) : rdeps n none = ([], none) := by cases n <;> rfl
theorem rdeps_succ (n : Nat) (l : List UInt8) : rdeps (n + 1) (some l) = ((str (rtext 255 (some l)), str (rtext 65535 (rtexted 255 (some l)))) :: (rdeps n (rtexted 65535 (rtexted 255 (some l)))).1, (rdeps n (rtexted 65535 (rtexted 255 (some l)))).2) := rfl
abbrev MadeT := Nat × ByteArray × ByteArray × List DepT
def madeOf (l : List UInt8) : Option MadeT :=
  if (rdeps (rcount 255 (rtexted 65535 (rtexted 255 (rcounted 255 (some l))))) (rcounted 255 (rtexted 65535 (rtexted 255 (rcounted 255 (some l)))))).2 = some [] then
    some (rcount 255 (some l), str (rtext 255 (rcounted 255 (some l))), str (rtext 65535 (rtexted 255 (rcounted 255 (some l)))),
      (rdeps (rcount 255 (rtexted 65535 (rtexted 255 (rcounted 255 (some l))))) (rcounted 255 (rtexted 65535 (rtexted 255 (rcounted 255 (some l)))))).1)
  else none
def splitOf (s : ByteArray) : Option MadeT := if 4 ≤ s.size ∧ s.extract 0 4 = magicB ∧ s.size ≤ 65536 then madeOf (s.data.toList.drop 4) else none

theorem back_count (x : Nat) (b : List UInt8) (m : Int) (h : (x : Int) ≤ m) (hm : m ≤ 65535) : rcount m (some (le x 2 ++ b)) = x ∧ rcounted m (some (le x 2 ++ b)) = some b := by
  have hb := back_two x b (by omega)
  unfold rcount rcounted
  rw [hb.1, hb.2, if_pos h, if_pos h]
  exact ⟨rfl, rfl⟩
theorem str_back' (s : ByteArray) : str s.data.toList = s := by
  apply ByteArray.ext
  simp [str]
theorem rdeps_back (ds : List DepT) (b : List UInt8) (h : ∀ d ∈ ds, ¬ depLong d) : rdeps ds.length (some (texts (depTs ds) ++ b)) = (ds, some b) := by
  induction ds with
  | nil => rfl
  | cons d ds ih =>
    obtain ⟨p, e⟩ := d
    have hd : ¬ depLong (p, e) := h _ (by simp)
    unfold depLong at hd
    have e1 : texts (depTs ((p, e) :: ds)) ++ b = text p ++ (text e ++ (texts (depTs ds) ++ b)) := by simp [depTs, texts]
    have b1 := back_text p (text e ++ (texts (depTs ds) ++ b)) 255 (by simp only at hd; omega) (by omega)
    have b2 := back_text e (texts (depTs ds) ++ b) 65535 (by simp only at hd; omega) (by omega)
    rw [e1, List.length_cons, rdeps_succ, b1.1, b1.2, b2.1, b2.2, ih (fun d hd => h d (by simp [hd])), str_back', str_back']
theorem smalls_one (z : Int) : smalls [z] = le (clamp z) 2 := by simp [smalls]
theorem texts_two (a b : ByteArray) : texts [a, b] = text a ++ text b := by simp [texts]
theorem made_back (regs : Int) (path txt : ByteArray) (ds : List DepT) (hb : ¬ keyBad regs path txt ds) (hd : ¬ ∃ d ∈ ds, depLong d) :
    madeOf (keyB regs path txt ds) = some (regs.toNat, path, txt, ds) := by
  unfold keyBad at hb
  have hcr : clamp regs = regs.toNat := by unfold clamp; omega
  have hcl : clamp (ds.length : Int) = ds.length := by unfold clamp; omega
  have e1 : keyB regs path txt ds = le regs.toNat 2 ++ (text path ++ (text txt ++ (le ds.length 2 ++ (texts (depTs ds) ++ [])))) := by
    unfold keyB
    rw [smalls_one, smalls_one, texts_two, hcr, hcl]
    simp
  have b1 := back_count regs.toNat (text path ++ (text txt ++ (le ds.length 2 ++ (texts (depTs ds) ++ [])))) 255 (by omega) (by omega)
  have b2 := back_text path (text txt ++ (le ds.length 2 ++ (texts (depTs ds) ++ []))) 255 (by omega) (by omega)
  have b3 := back_text txt (le ds.length 2 ++ (texts (depTs ds) ++ [])) 65535 (by omega) (by omega)
  have b4 := back_count ds.length (texts (depTs ds) ++ []) 255 (by omega) (by omega)
  have b5 := rdeps_back ds [] (fun d hx hl => hd ⟨d, hx, hl⟩)
  unfold madeOf
  rw [e1, b1.1, b1.2, b2.1, b2.2, b3.1, b3.2, b4.1, b4.2, b5, str_back', str_back', if_pos rfl]
theorem magic_extract (l : List UInt8) : (magicB ++ str l).extract 0 4 = magicB ∧ (magicB ++ str l).data.toList.drop 4 = l ∧ (magicB ++ str l).size = 4 + l.length := by
  have hd : (magicB ++ str l).data.toList = [84, 77, 75, 49] ++ l := by simp [magicB, str, ByteArray.data_append]
  refine ⟨?_, ?_, ?_⟩
  · apply ByteArray.ext
    apply Array.ext'
    rw [ByteArray.data_extract, Array.toList_extract, List.extract_eq_take_drop, hd]
    simp [magicB]
  · rw [hd]; rfl
  · rw [ByteArray.size_append, str_size]; rfl
theorem split_back (regs : Int) (path txt : ByteArray) (ds : List DepT) (hb : ¬ keyBad regs path txt ds) (hd : ¬ ∃ d ∈ ds, depLong d) (hl : ¬ 65536 < 4 + (keyB regs path txt ds).length) :
    splitOf (magicB ++ str (keyB regs path txt ds)) = some (regs.toNat, path, txt, ds) := by
  obtain ⟨h1, h2, h3⟩ := magic_extract (keyB regs path txt ds)
  unfold splitOf
  rw [if_pos ⟨by omega, h1, by omega⟩, h2]
  exact made_back regs path txt ds hb hd
def splitR (s : ByteArray) : MadeT × Int := match splitOf s with
  | none => ((0, ⟨#[]⟩, ⟨#[]⟩, []), 5)
  | some m => (m, 0)
theorem rdeps_len (n : Nat) (st : Option (List UInt8)) : (rdeps n st).1.length ≤ n := by
  induction n generalizing st with
  | zero => simp [rdeps]
  | succ n ih =>
    cases st with
    | none => simp [rdeps]
    | some l =>
      rw [rdeps_succ]
      have := ih (rtexted 65535 (rtexted 255 (some l)))
      simp only [List.length_cons]
      omega
theorem rcount_le (m : Int) (st : Option (List UInt8)) (hm : 0 ≤ m) : (rcount m st : Int) ≤ m := by unfold rcount; split <;> omega
theorem splitR_len (s : ByteArray) : (splitR s).1.2.2.2.length ≤ 255 := by
  unfold splitR
  split
  · simp
  · rename_i m h
    unfold splitOf at h
    split at h
    · unfold madeOf at h
      split at h
      · injection h with h
        subst h
        have h1 := rdeps_len (rcount 255 (rtexted 65535 (rtexted 255 (rcounted 255 (some (List.drop 4 s.data.toList)))))) (rcounted 255 (rtexted 65535 (rtexted 255 (rcounted 255 (some (List.drop 4 s.data.toList))))))
        have h2 := rcount_le 255 (rtexted 65535 (rtexted 255 (rcounted 255 (some (List.drop 4 s.data.toList))))) (by omega)
        show (rdeps _ _).1.length ≤ 255
        omega
      · cases h
    · cases h
end Go.Proofs.Ytfkakhlgcjjlcaa.Keys
