/- Plain facts of a log: what stands at its beginning, one record behind the other. No program in sight. -/
import Derived.Test.YtiebnfdjnclkcaaHeadP
set_option linter.unusedVariables false
namespace Go.Proofs.Ytiebnfdjnclkcaa
open Go.RowKit

theorem len_pos {α : Type} {l : List α} (h : l ≠ []) : 0 < l.length := by
  cases l with
  | nil => exact (h rfl).elim
  | cons x l => simp

def big : Nat := 18446744073709551616
/-- A record with its head. -/
def recB (r : List UInt8) : List UInt8 := headB r ++ r
def logOf (rs : List (List UInt8)) : List UInt8 := rs.flatMap recB
theorem logOf_nil : logOf [] = [] := rfl
theorem logOf_snoc (rs : List (List UInt8)) (r : List UInt8) : logOf (rs ++ [r]) = logOf rs ++ recB r := by simp [logOf]
theorem logOf_cons (r : List UInt8) (rs : List (List UInt8)) : logOf (r :: rs) = recB r ++ logOf rs := by simp [logOf]
theorem logOf_append (r s : List (List UInt8)) : logOf (r ++ s) = logOf r ++ logOf s := by simp [logOf]
theorem recB_len (r : List UInt8) : (recB r).length = 25 + r.length := by simp [recB, headB_len]

theorem headB_num (r : List UInt8) (h : r.length < big) (rest : List UInt8) : ofBe (((headB r ++ rest).drop 1).take 8) = r.length := by
  have e : ((headB r ++ rest).drop 1).take 8 = be8 r.length := by
    simp only [headB, List.cons_append, List.drop_succ_cons, List.drop_zero, List.append_assoc]
    rw [List.take_append_of_le_length (by rw [be8_len]; omega), List.take_of_length_le (by rw [be8_len]; omega)]
  rw [e, ofBe_be8 _ h]

/-- A record that stands. -/
theorem standB_rec (r rest : List UInt8) (h0 : r ≠ []) (h : r.length < big) : standB (recB r ++ rest) = some r := by
  have hl : 0 < r.length := len_pos h0
  have hn := headB_num r h (r ++ rest)
  have e0 : recB r ++ rest = headB r ++ (r ++ rest) := by simp [recB]
  have e1 : (headB r ++ (r ++ rest)).drop 25 = r ++ rest := by
    rw [List.drop_append_of_le_length (by rw [headB_len]; omega), List.drop_eq_nil_of_le (by rw [headB_len]; omega), List.nil_append]
  have e2 : (headB r ++ (r ++ rest)).take 25 = headB r := by
    rw [List.take_append_of_le_length (by rw [headB_len]; omega), List.take_of_length_le (by rw [headB_len]; omega)]
  have e3 : (r ++ rest).take r.length = r := by
    rw [List.take_append_of_le_length (Nat.le_refl _), List.take_of_length_le (Nat.le_refl _)]
  rw [e0]
  unfold standB
  have hlen : (headB r ++ (r ++ rest)).length = 25 + (r.length + rest.length) := by simp [headB_len]
  rw [if_neg (by omega)]
  simp only [hn, e1, e2, e3]
  rw [if_neg (by omega), if_pos trivial]

theorem standB_some {b r : List UInt8} (h : standB b = some r) : r ≠ [] ∧ ∃ rest, b = recB r ++ rest := by
  unfold standB at h
  by_cases h25 : b.length < 25
  · rw [if_pos h25] at h; cases h
  · rw [if_neg h25] at h
    simp only at h
    by_cases hn : ofBe ((b.drop 1).take 8) = 0 ∨ b.length - 25 < ofBe ((b.drop 1).take 8)
    · rw [if_pos hn] at h; cases h
    · rw [if_neg hn] at h
      obtain ⟨N, hN⟩ : ∃ N, N = ofBe ((b.drop 1).take 8) := ⟨_, rfl⟩
      rw [← hN] at h hn
      by_cases hh : headB ((b.drop 25).take N) = b.take 25
      · rw [if_pos hh] at h
        cases h
        have hl : ((b.drop 25).take N).length = N := by rw [List.length_take, List.length_drop]; omega
        refine ⟨fun h0 => ?_, (b.drop 25).drop N, ?_⟩
        · rw [h0] at hl; simp at hl; omega
        · rw [recB, hh, List.append_assoc, List.take_append_drop, List.take_append_drop]
      · rw [if_neg hh] at h; cases h

theorem standB_short (l : List UInt8) (h : l.length ≤ 25) : standB l = none := by
  cases hs : standB l with
  | none => rfl
  | some r =>
    obtain ⟨h0, rest, rfl⟩ := standB_some hs
    have := len_pos h0
    simp [recB_len] at h
    omega

/-- The records that stand one behind the other from the beginning on, and how many bytes they take. -/
def ScanIs (l : List UInt8) (rs : List (List UInt8)) (k : Nat) : Prop := k = (logOf rs).length ∧ ∃ rest, l = logOf rs ++ rest ∧ (∀ r ∈ rs, r ≠ []) ∧ standB rest = none

theorem scan_unique {rs rs' : List (List UInt8)} {rest rest' : List UInt8} (h : logOf rs ++ rest = logOf rs' ++ rest') (h1 : ∀ r ∈ rs, r ≠ [] ∧ r.length < big) (h2 : ∀ r ∈ rs', r ≠ [] ∧ r.length < big)
    (h3 : standB rest = none) (h4 : standB rest' = none) : rs = rs' := by
  induction rs generalizing rs' with
  | nil =>
    cases rs' with
    | nil => rfl
    | cons r' rs' =>
      exfalso
      simp only [logOf_nil, List.nil_append] at h
      have hr := h2 r' (by simp)
      rw [h, logOf_cons, List.append_assoc, standB_rec r' _ hr.1 hr.2] at h3
      cases h3
  | cons r rs ih =>
    have hr := h1 r (by simp)
    have hs : standB (logOf (r :: rs) ++ rest) = some r := by rw [logOf_cons, List.append_assoc, standB_rec r _ hr.1 hr.2]
    cases rs' with
    | nil =>
      exfalso
      rw [h, logOf_nil, List.nil_append, h4] at hs
      cases hs
    | cons r' rs' =>
      have hr' := h2 r' (by simp)
      rw [h, logOf_cons, List.append_assoc, standB_rec r' _ hr'.1 hr'.2] at hs
      cases hs
      rw [logOf_cons, logOf_cons, List.append_assoc, List.append_assoc] at h
      have h' := List.append_cancel_left h
      rw [ih h' (fun r hr => h1 r (List.mem_cons_of_mem _ hr)) (fun r hr => h2 r (List.mem_cons_of_mem _ hr))]

theorem logOf_mem_len {rs : List (List UInt8)} {r : List UInt8} (h : r ∈ rs) : 25 + r.length ≤ (logOf rs).length := by
  induction rs with
  | nil => cases h
  | cons x rs ih =>
    rw [logOf_cons, List.length_append, recB_len]
    rcases List.mem_cons.1 h with rfl | h
    · omega
    · have := ih h; omega

theorem logOf_len (rs : List (List UInt8)) (h : ∀ r ∈ rs, r ≠ []) : 26 * rs.length ≤ (logOf rs).length := by
  induction rs with
  | nil => simp [logOf]
  | cons x rs ih =>
    rw [logOf_cons, List.length_append, recB_len, List.length_cons]
    have h1 := ih (fun r hr => h r (List.mem_cons_of_mem _ hr))
    have h2 := len_pos (h x (by simp))
    omega

theorem ScanIs.unique {l : List UInt8} {rs rs' : List (List UInt8)} {k k' : Nat} (h : ScanIs l rs k) (h' : ScanIs l rs' k') (hl : l.length < big) : rs = rs' ∧ k = k' := by
  obtain ⟨rfl, rest, e, h1, h2⟩ := h
  obtain ⟨rfl, rest', e', h1', h2'⟩ := h'
  have hb : ∀ {rs : List (List UInt8)} {rest : List UInt8}, l = logOf rs ++ rest → ∀ r ∈ rs, r.length < big := by
    intro rs rest he r hr
    have := logOf_mem_len hr
    have := congrArg List.length he
    rw [List.length_append] at this
    omega
  have := scan_unique (e.symm.trans e') (fun r hr => ⟨h1 r hr, hb e r hr⟩) (fun r hr => ⟨h1' r hr, hb e' r hr⟩) h2 h2'
  subst this
  exact ⟨rfl, rfl⟩

theorem ScanIs.le {l : List UInt8} {rs : List (List UInt8)} {k : Nat} (h : ScanIs l rs k) : k ≤ l.length := by
  obtain ⟨rfl, rest, rfl, _⟩ := h
  simp
theorem ScanIs.take {l : List UInt8} {rs : List (List UInt8)} {k : Nat} (h : ScanIs l rs k) : l.take k = logOf rs := by
  obtain ⟨rfl, rest, rfl, _⟩ := h
  rw [List.take_left]
#print axioms ScanIs.unique
end Go.Proofs.Ytiebnfdjnclkcaa
