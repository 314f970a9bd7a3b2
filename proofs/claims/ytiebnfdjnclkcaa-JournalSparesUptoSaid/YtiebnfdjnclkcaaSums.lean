/- JournalSums returns true for every list of bytes, and leaves it as it is. No condition. -/
import Derived.Test.YtiebnfdjnclkcaaW1
import Derived.Test.YtiebnfdjnclkcaaHeadP
set_option linter.unusedVariables false
namespace Go.Proofs.Ytiebnfdjnclkcaa
open Go.RowKit

/-- The first k bytes turned. -/
def turned (l : List UInt8) (k : Nat) : List UInt8 := (l.take k).map inv255 ++ l.drop k
theorem turned_len (l : List UInt8) (k : Nat) : (turned l k).length = l.length := by simp [turned]; omega
theorem turned_zero (l : List UInt8) : turned l 0 = l := by simp [turned]
theorem turned_get (l : List UInt8) (k : Nat) (h : k < l.length) : (turned l k)[k]? = some l[k] := by
  have e1 : ((l.take k).map inv255).length = k := by simp; omega
  simp only [turned]
  rw [List.getElem?_append_right (by omega), e1, Nat.sub_self, List.getElem?_drop]
  simp [h]
theorem turned_succ (l : List UInt8) (k : Nat) (h : k < l.length) : (turned l k).set k (inv255 l[k]) = turned l (k + 1) := by
  have e1 : ((l.take k).map inv255).length = k := by simp; omega
  simp only [turned]
  rw [List.set_append_right _ _ (by omega), e1, Nat.sub_self, take_snoc l k h, List.drop_eq_getElem_cons h, List.map_append]
  simp only [List.set_cons_zero, List.map_cons, List.map_nil, List.append_assoc, List.singleton_append]

theorem sums_walk (a : Option Addr) (cap : Nat) (l : List UInt8) (w : World) (hl : l.length ≤ 140737488355328) (h : Rd w a (l.map B)) :
    Calls Try.prog 3 #[.slice a l.length cap] w fun e w' => e = .returned (.bool true) ∧ Below w.heap.size w w' := by
  go_enter Try.func3, Try.ntmps3
  go_wp2_with fail
  refine (twin_any a cap l w hl h).mono ?_
  rintro e w1 ⟨a1, c1, rfl, hown1, hb1⟩
  have h1 := h.below hb1
  have ht1 := ownsRow_rd hown1
  go_wp2_with fail
  refine (sum_any a cap l w1 hl h1).mono ?_
  rintro e _ ⟨rfl, rfl⟩
  unfold U
  go_wp2_with fail
  refine (rsum_any a1 c1 l w1 hl ht1).mono ?_
  rintro e _ ⟨rfl, rfl⟩
  unfold U
  go_wp2_with fail
  refine (same_b a a1 cap c1 l l w1 hl h1 ht1).mono ?_
  rintro e w2 ⟨rfl, hb2⟩
  rw [beq_self_eq_true]
  have h2 := h1.below hb2
  go_wp2_with fail
  refine (twin_any a cap l _ hl h2).mono ?_
  rintro e w3 ⟨a3, c3, rfl, hown3, hb3⟩
  have h3 := h2.below hb3
  go_wp2_with fail
  refine (sum_any a3 c3 l w3 hl (ownsRow_rd hown3)).mono ?_
  rintro e _ ⟨rfl, rfl⟩
  unfold U
  go_wp2
  go_loopw [6] (fun i wr => ∃ k : Nat, k ≤ l.length ∧ i = .int .i64 k ∧ wr.ownsRow w2.heap.size 5 1 (.slice a3 l.length c3) l.length ((turned l k).map B) ∧ Below w2.heap.size w2 wr) (fun i _ => l.length - (intOf i).toNat)
  case atStart => exact ⟨0, Nat.zero_le _, rfl, by rw [turned_zero]; exact hown3, hb3⟩
  case round =>
    obtain ⟨k, hk, rfl, hown, hbel⟩ := hrel
    by_cases hlt : k < l.length
    · obtain ⟨g, rfl, hg1, hg2⟩ := own_some hown (by omega)
      have hcell := hown.cellAt k (by omega)
      rw [List.getElem?_map, turned_get l k hlt, Option.map_some, B] at hcell
      have hfr := hown.frozenAt k
      have hst := (hown.stored k (B (inv255 l[k]))).1
      rw [← List.map_set, turned_succ l k hlt] at hst
      have HST := Lib.hid hst
      clear hst
      have hb := (l[k]).toNat_lt
      have hlt' : (k : Int) < l.length := by omega
      go_wp2
      go_roundw
      case rel =>
        refine ⟨k + 1, by omega, by go_num, ?_, hbel.setCell hg1 _⟩
        have := HST.out
        unfold B at this
        rw [← inv255_val] at this
        exact this
      case measure => simp [intOf]; omega
    · obtain rfl : k = l.length := by omega
      have hr3 := h2.below hbel
      have hp := ownsRow_rd hown
      have hml := turned_len l l.length
      clear hk hlt
      go_wp2_with fail
      refine (sum_n a3 c3 _ _ wr hml hl hp).mono ?_
      rintro e _ ⟨rfl, rfl⟩
      unfold U
      go_wp2_with fail
      refine (twin_n a3 c3 _ _ wr hml hl hp).mono ?_
      rintro e w4 ⟨a4, c4, rfl, hown4, hb4⟩
      go_wp2_with fail
      refine (rsum_n a4 c4 _ _ w4 hml hl (ownsRow_rd hown4)).mono ?_
      rintro e _ ⟨rfl, rfl⟩
      unfold U
      go_wp2
      go_ret
      exact ⟨ret_val (by simp), ((hb1.trans (hb2.mono (hb1.size))).trans (hbel.mono (Nat.le_trans hb1.size hb2.size))).trans (hb4.mono (Nat.le_trans hb1.size (Nat.le_trans hb2.size hbel.size)))⟩
/-- The walk, as the frame calls it. -/
theorem sums_law {w : World} (a : Option Addr) (n cap : Nat) (l : List UInt8) (hl : l.length = n) (h : Rd w a (l.map B)) (z : n ≤ 140737488351232) (w' : World) (hw : w = w') :
    Calls Try.prog 3 #[.slice a n cap] w' fun e W' => e = .returned (.bool true) ∧ Below w'.heap.size w' W' := by
  subst hl; subst hw
  exact sums_walk a cap l w (by omega) h
#print axioms sums_law
end Go.Proofs.Ytiebnfdjnclkcaa
