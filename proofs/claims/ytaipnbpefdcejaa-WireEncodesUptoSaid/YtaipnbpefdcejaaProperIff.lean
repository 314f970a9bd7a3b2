/- Plain law: what the two words of properness say is the same. No program in sight. -/
import Derived.Test.YtaipnbpefdcejaaRProper
set_option linter.unusedVariables false
namespace Go.Proofs.Ytaipnbpefdcejaa
open Go.RowKit
theorem ordL_none {k : Int} (h : namedL k = []) : ordL k = [] := by
  unfold namedL at h
  unfold ordL
  repeat' split
  all_goals first | rfl | simp_all
theorem empty_toList : ByteArray.empty.toList = [] := by
  rw [ByteArray.toList_eq]; rfl
theorem len0 {α : Type} (l : List α) : ¬ 0 < l.length ↔ l.length = 0 := by omega
set_option maxHeartbeats 2000000 in
theorem proper_iff (m : M) : properR m ↔ properM m := by
  unfold properR properM
  generalize cleanV m.vals = P
  by_cases hk : m.kind = 1 ∨ m.kind = 2 ∨ m.kind = 3 ∨ m.kind = 4 ∨ m.kind = 5 ∨ m.kind = 6 ∨ m.kind = 7 ∨ m.kind = 8 ∨ m.kind = 9 ∨ m.kind = 16 ∨ m.kind = 17 ∨ m.kind = 18 ∨ m.kind = 19 ∨ m.kind = 20 ∨ m.kind = 21
  · unfold hasB
    rcases hk with hk | hk | hk | hk | hk | hk | hk | hk | hk | hk | hk | hk | hk | hk | hk
    all_goals
      rw [hk]
      simp (decide := true) only [ordL, condA, condB, eraseM, blankM, blankP, evZ, szZ, ftZ, noMP, empty_toList, List.foldl, len0, not_or, not_and, Decidable.not_not, if_true, if_false, ne_eq, true_and, and_true, false_implies, true_or, false_or, List.length_nil]
      try (constructor <;> (intro h; simp_all; try omega))
  · have h1 := namedL_none hk
    have h2 := ordL_none h1
    rw [h1, h2]
    simp
#print axioms proper_iff
end Go.Proofs.Ytaipnbpefdcejaa
