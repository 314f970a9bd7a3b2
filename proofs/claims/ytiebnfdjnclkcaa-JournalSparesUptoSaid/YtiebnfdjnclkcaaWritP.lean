/- Plain facts on the law's own helpers: the records that have a byte, their log, where each ends. No program in sight. -/
import Derived.Test.YtiebnfdjnclkcaaScanP
set_option linter.unusedVariables false
namespace Go.Proofs.Ytiebnfdjnclkcaa
open Go.RowKit

/-- The records that have a byte. -/
def keep (rs : List (List UInt8)) : List (List UInt8) := rs.filter fun r => !r.isEmpty
theorem keep_nil : keep [] = [] := rfl
theorem keep_snoc_nil (rs : List (List UInt8)) : keep (rs ++ [[]]) = keep rs := by simp [keep]
theorem keep_snoc (rs : List (List UInt8)) (r : List UInt8) (h : r ≠ []) : keep (rs ++ [r]) = keep rs ++ [r] := by simp [keep, h]
theorem keep_ne {rs : List (List UInt8)} : ∀ r ∈ keep rs, r ≠ [] := by
  intro r hr
  simp [keep] at hr
  exact hr.2
theorem keep_append (r s : List (List UInt8)) : keep (r ++ s) = keep r ++ keep s := by simp [keep]
theorem keep_take_len (rs : List (List UInt8)) (k : Nat) : (logOf (keep (rs.take k))).length ≤ (logOf (keep rs)).length := by
  conv => rhs; rw [← List.take_append_drop k rs, keep_append, logOf_append, List.length_append]
  omega
theorem keep_len (rs : List (List UInt8)) : (keep rs).length ≤ rs.length := List.length_filter_le _ _

/-- Where the records end. -/
def endsOf (ks : List (List UInt8)) : List Nat := (List.range ks.length).map fun i => (logOf (ks.take (i + 1))).length
theorem endsOf_len (ks : List (List UInt8)) : (endsOf ks).length = ks.length := by simp [endsOf]
theorem endsOf_nil : endsOf [] = [] := rfl
theorem endsOf_snoc (ks : List (List UInt8)) (r : List UInt8) : endsOf (ks ++ [r]) = endsOf ks ++ [(logOf (ks ++ [r])).length] := by
  have h1 : (ks ++ [r]).length = ks.length + 1 := by simp
  simp only [endsOf, h1, List.range_succ, List.map_append, List.map_cons, List.map_nil]
  congr 1
  · apply List.map_congr_left
    intro i hi
    have hi' := List.mem_range.1 hi
    rw [List.take_append_of_le_length (by omega)]
  · rw [List.take_of_length_le (by simp)]
theorem endsOf_get (ks : List (List UInt8)) (i : Nat) (h : i < ks.length) : (endsOf ks)[i]'(by rw [endsOf_len]; exact h) = (logOf (ks.take (i + 1))).length := by simp [endsOf]

theorem logOf_take_le (ks : List (List UInt8)) (i j : Nat) (h : i ≤ j) : (logOf (ks.take i)).length ≤ (logOf (ks.take j)).length := by
  have e : ks.take i = (ks.take j).take i := by rw [List.take_take, Nat.min_eq_left h]
  rw [e]
  conv => rhs; rw [← List.take_append_drop i (ks.take j), logOf_append, List.length_append]
  omega
theorem logOf_take_all (ks : List (List UInt8)) (i : Nat) : (logOf (ks.take i)).length ≤ (logOf ks).length := by
  conv => rhs; rw [← List.take_append_drop i ks, logOf_append, List.length_append]
  omega

/-- How many of the ends lie at or ahead of the place. -/
def wholeN (es : List Nat) (k : Int) : Nat := (es.takeWhile fun e : Nat => decide ((e : Int) ≤ k)).length
theorem wholeN_le (es : List Nat) (k : Int) : wholeN es k ≤ es.length := by
  unfold wholeN
  have := List.takeWhile_prefix (l := es) (fun e : Nat => decide ((e : Int) ≤ k))
  exact this.length_le
theorem takeWhile_all {α : Type} (p : α → Bool) (l : List α) : ∀ i (h : i < (l.takeWhile p).length), p ((l.takeWhile p)[i]) = true := by
  intro i h
  have := List.getElem_mem h
  exact (List.all_eq_true.1 (List.all_takeWhile)) _ this
theorem wholeN_spec (es : List Nat) (k : Int) : (∀ i (h : i < es.length), i < wholeN es k → (es[i] : Int) ≤ k) ∧ (∀ h : wholeN es k < es.length, k < (es[wholeN es k] : Int)) := by
  unfold wholeN
  induction es with
  | nil => exact ⟨fun i h => by simp at h, fun h => by simp at h⟩
  | cons e es ih =>
    by_cases hp : (e : Int) ≤ k
    · rw [List.takeWhile_cons_of_pos (p := fun e : Nat => decide ((e : Int) ≤ k)) (by simpa using hp)]
      refine ⟨fun i h hi => ?_, fun h => ?_⟩
      · cases i with
        | zero => exact hp
        | succ i => exact ih.1 i (by simpa using h) (by simpa using hi)
      · simp only [List.length_cons, List.getElem_cons_succ]
        exact ih.2 (by simpa using h)
    · rw [List.takeWhile_cons_of_neg (p := fun e : Nat => decide ((e : Int) ≤ k)) (by simpa using hp)]
      refine ⟨fun i h hi => by simp at hi, fun h => ?_⟩
      simpa using hp
/-- Where the first n records end. -/
def upToN (ks : List (List UInt8)) (n : Nat) : Nat := (logOf (ks.take n)).length
#print axioms wholeN_spec
end Go.Proofs.Ytiebnfdjnclkcaa
