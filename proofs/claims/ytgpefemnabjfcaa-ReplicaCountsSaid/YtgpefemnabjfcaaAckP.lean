/- What Acked computes is the reference's answer (no program in sight). -/
import Derived.Test.YtgpefemnabjfcaaW1
set_option linter.unusedVariables false
namespace Go.Proofs.Ytgpefemnabjfcaa

def sortZ (zs : List Int) : List Int := zs.mergeSort fun x y => decide (x ≤ y)
theorem sortZ_len (zs : List Int) : (sortZ zs).length = zs.length := List.length_mergeSort zs
theorem sortZ_perm (zs : List Int) : (sortZ zs).Perm zs := List.mergeSort_perm zs _
theorem sortZ_sorted (zs : List Int) : (sortZ zs).Pairwise (· ≤ ·) := by
  have := List.pairwise_mergeSort (le := fun x y : Int => decide (x ≤ y)) (fun a b c h1 h2 => by simp at *; omega) (fun a b => by simp; omega) zs
  exact this.imp fun h => by simpa using h
def ackedZ (zs : List Int) (q : Int) : Int := if (zs.length : Int) < atLeast1 q then 0 else max 0 ((sortZ zs).getD (zs.length - (atLeast1 q).toNat) 0)

theorem reachN_mono (zs : List Int) {x y : Int} (h : y ≤ x) : reachN zs x ≤ reachN zs y := by
  unfold reachN
  exact List.countP_mono_left fun z _ hz => by simp at *; omega
theorem sorted_at {s : List Int} (h : s.Pairwise (· ≤ ·)) (i j : Nat) (hij : i ≤ j) (hj : j < s.length) : s[i]'(by omega) ≤ s[j] := by
  rcases Nat.eq_or_lt_of_le hij with rfl | hlt
  · exact Int.le_refl _
  · exact List.pairwise_iff_getElem.1 h i j (by omega) hj hlt
theorem reach_sorted {s : List Int} (h : s.Pairwise (· ≤ ·)) (i : Nat) (hi : i < s.length) : s.length - i ≤ reachN s s[i] := by
  unfold reachN
  have e : s.countP (fun x => decide (s[i] ≤ x)) = (s.take i).countP (fun x => decide (s[i] ≤ x)) + (s.drop i).countP (fun x => decide (s[i] ≤ x)) := by
    rw [← List.countP_append, List.take_append_drop]
  have e2 : (s.drop i).countP (fun x => decide (s[i] ≤ x)) = (s.drop i).length := by
    rw [List.countP_eq_length]
    intro x hx
    obtain ⟨j, hj, rfl⟩ := List.mem_iff_getElem.1 hx
    rw [List.getElem_drop]
    simp only [decide_eq_true_eq]
    exact sorted_at h i (i + j) (by omega) (by simp at hj; omega)
  rw [e, e2, List.length_drop]
  omega
theorem reach_above {s : List Int} (h : s.Pairwise (· ≤ ·)) (i : Nat) (hi : i < s.length) (y : Int) (hy : s[i] < y) : reachN s y < s.length - i := by
  unfold reachN
  have e : s.countP (fun x => decide (y ≤ x)) = (s.take (i + 1)).countP (fun x => decide (y ≤ x)) + (s.drop (i + 1)).countP (fun x => decide (y ≤ x)) := by
    rw [← List.countP_append, List.take_append_drop]
  have e2 : (s.take (i + 1)).countP (fun x => decide (y ≤ x)) = 0 := by
    rw [List.countP_eq_zero]
    intro x hx
    obtain ⟨j, hj, rfl⟩ := List.mem_iff_getElem.1 hx
    rw [List.getElem_take]
    have hj' : j ≤ i := by simp at hj; omega
    have := sorted_at h j i hj' hi
    simp only [decide_eq_true_eq]
    omega
  have e3 : (s.drop (i + 1)).countP (fun x => decide (y ≤ x)) ≤ (s.drop (i + 1)).length := List.countP_le_length
  rw [e, e2]
  rw [List.length_drop] at e3
  omega
theorem fold_best (P : Int → Prop) [DecidablePred P] (x : Int) (l : List Int) (hl : ∀ y ∈ l, P y ↔ y ≤ x) (b0 : Int) :
    b0 ≤ l.foldl (fun best y => if best < y ∧ P y then y else best) b0 ∧ l.foldl (fun best y => if best < y ∧ P y then y else best) b0 ≤ max b0 x ∧ ∀ y ∈ l, y ≤ x → y ≤ l.foldl (fun best y => if best < y ∧ P y then y else best) b0 := by
  induction l generalizing b0 with
  | nil => exact ⟨Int.le_refl _, by simp only [List.foldl_nil]; omega, by simp⟩
  | cons z l ih =>
    rw [List.foldl_cons]
    have hz := hl z (by simp)
    obtain ⟨h1, h2, h3⟩ := ih (fun y hy => hl y (List.mem_cons_of_mem _ hy)) (if b0 < z ∧ P z then z else b0)
    by_cases hc : b0 < z ∧ P z
    · rw [if_pos hc] at h1 h2 h3 ⊢
      have := hz.1 hc.2
      refine ⟨by omega, by omega, fun y hy hyx => ?_⟩
      rcases List.mem_cons.1 hy with rfl | hy
      · exact h1
      · exact h3 y hy hyx
    · rw [if_neg hc] at h1 h2 h3 ⊢
      refine ⟨h1, h2, fun y hy hyx => ?_⟩
      rcases List.mem_cons.1 hy with rfl | hy
      · have : ¬ b0 < y := fun h9 => hc ⟨h9, hz.2 hyx⟩
        omega
      · exact h3 y hy hyx
theorem fold_none (P : Int → Prop) [DecidablePred P] (l : List Int) (hl : ∀ y ∈ l, ¬ P y) (b0 : Int) : l.foldl (fun best y => if best < y ∧ P y then y else best) b0 = b0 := by
  induction l generalizing b0 with
  | nil => rfl
  | cons z l ih =>
    rw [List.foldl_cons, if_neg (fun h => hl z (by simp) h.2)]
    exact ih (fun y hy => hl y (List.mem_cons_of_mem _ hy)) b0
theorem atLeast1_pos (q : Int) : 1 ≤ atLeast1 q := by unfold atLeast1; split <;> omega
theorem acked_best (zs : List Int) (q : Int) : ackedZ zs q = bestZ zs (atLeast1 q) zs := by
  have h1 := atLeast1_pos q
  obtain ⟨p, hp⟩ : ∃ p, p = atLeast1 q := ⟨_, rfl⟩
  unfold ackedZ bestZ
  rw [← hp] at h1 ⊢
  by_cases hlt : (zs.length : Int) < p
  · rw [if_pos hlt, fold_none (fun x => p ≤ (reachN zs x : Int)) zs (fun y _ h => by have := reachN_le zs y; omega)]
  · rw [if_neg hlt]
    obtain ⟨m, hm⟩ : ∃ m : Nat, p = (m : Int) := ⟨p.toNat, by omega⟩
    subst hm
    have hs := sortZ_sorted zs
    have hsl := sortZ_len zs
    have hi : zs.length - m < (sortZ zs).length := by omega
    have hR : ∀ y, reachN (sortZ zs) y = reachN zs y := fun y => (sortZ_perm zs).countP_eq _
    rw [Int.toNat_natCast]
    have e : (sortZ zs).getD (zs.length - m) 0 = (sortZ zs)[zs.length - m] := by simp [hi]
    rw [e]
    obtain ⟨x, hx⟩ : ∃ x, x = (sortZ zs)[zs.length - m] := ⟨_, rfl⟩
    have ha := reach_sorted hs _ hi
    have hb := reach_above hs _ hi
    rw [← hx] at ha hb ⊢
    have hmem : x ∈ zs := (sortZ_perm zs).subset (by rw [hx]; exact List.getElem_mem hi)
    have hiff : ∀ y ∈ zs, ((m : Int) ≤ (reachN zs y : Int)) ↔ y ≤ x := by
      intro y _
      constructor
      · intro h
        rcases Int.lt_or_le x y with h2 | h2
        · have := hb y h2
          rw [hR] at this
          omega
        · exact h2
      · intro h
        have := reachN_mono zs h
        rw [hR] at ha
        omega
    obtain ⟨f1, f2, f3⟩ := fold_best (fun x => (m : Int) ≤ (reachN zs x : Int)) x zs hiff 0
    have f4 := f3 x hmem (Int.le_refl _)
    omega
#print axioms acked_best
end Go.Proofs.Ytgpefemnabjfcaa
