/- The walk of Acked, over the library's Clone and Sort. -/
import Derived.Test.YtgpefemnabjfcaaShelf
import Derived.Test.YtgpefemnabjfcaaAckP
import Derived.Sort.OwnSortedInts
set_option linter.unusedVariables false
namespace Go.Proofs.Ytgpefemnabjfcaa
open Go.RowKit

/-- slices.Sort of a slice of ints of the call's own. -/
theorem sort_own (base g c n : Nat) (zs : List Int) (w : World) (hn : zs.length = n) (hmax : n * 8 ≤ 140737488355328) (hbase : base ≤ w.heap.size) (hown : w.ownsRow base 3 1 (.slice (some ⟨g, 0, none⟩) n c) n (zs.map Z)) :
    Calls Try.prog 13 #[.slice (some ⟨g, 0, none⟩) n c] w fun e w' => e = .returned (.tuple #[]) ∧ w'.ownsRow base 3 1 (.slice (some ⟨g, 0, none⟩) n c) n ((sortZ zs).map Z) ∧ w.grownBy w' (some g) := by
  subst hn
  rcases hown.2 with ⟨h0, _⟩ | ⟨g', cap', cur, hv, hbg, hb, h1, h2, h3, h4⟩
  · cases h0
  cases hv
  rw [Nat.mul_one] at h4
  have hH := holds_of_blockI hb (ss := zs) h4
  refine (Try.slices_Sort_int g 0 c zs w hH (Array.getElem?_eq_some_iff.1 hb).1 (by omega)).mono ?_
  rintro e w' ⟨rfl, k, os, rfl⟩
  exact ⟨rfl, ownsRow_sortedI (sortZ_len zs) hbg hb h1 h2 h3, grownBy_sortedI _⟩

theorem acked_any (a : Option Addr) (cap n : Nat) (zs : List Int) (q : Int) (w : World) (hn : zs.length = n) (hmax : n * 8 ≤ 140737488355328) (h : Rd w a (zs.map Z)) :
    Calls Try.prog 4 #[.slice a n cap, .int .i64 q] w fun e w' => e = .returned (.int .i64 (ackedZ zs q)) ∧ Below w.heap.size w w' := by
  have HN := Lib.hid hn
  have h1 := atLeast1_pos q
  have hat : max q 1 = atLeast1 q := by unfold atLeast1; split <;> omega
  have hack : ackedZ zs q = if (n : Int) < atLeast1 q then 0 else max 0 ((sortZ zs).getD (n - (atLeast1 q).toNat) 0) := by unfold ackedZ; rw [hn]
  rw [hack]
  have HACK := Lib.hid hack
  clear hn hack
  by_cases hlt : (n : Int) < atLeast1 q
  · rw [if_pos hlt]
    go_enter Try.func4, Try.ntmps4
    go_wp2_with fail
    go_ret
    exact ⟨rfl, Below.refl _ _⟩
  · rw [if_neg hlt]
    obtain ⟨m, hm⟩ : ∃ m : Nat, atLeast1 q = (m : Int) := ⟨(atLeast1 q).toNat, by omega⟩
    rw [hm] at hlt h1 hat ⊢
    rw [Int.toNat_natCast]
    have hmn : m ≤ n := by omega
    have hm1 : 1 ≤ m := by omega
    obtain ⟨b, off, rfl, hc⟩ := h.cells (by intro h0; have := congrArg List.length h0; simp [HN.out] at this; omega)
    have hcl : ∀ j, j < zs.length → w.cell? ⟨b, off + j, none⟩ = some (.int .i64 (zs.getD j 0)) := by
      intro j hj
      have := hc j (by simpa using hj)
      rw [List.getElem_map, Z] at this
      simpa [hj] using this
    have HM := Lib.hid hm
    clear hc hm
    go_enter Try.func4, Try.ntmps4
    go_wp2_with fail
    refine (Try.slices_Clone_int b off n cap zs w (by rw [HN.out]; exact Nat.le_refl _) hmax hcl).mono ?_
    rintro e w1 ⟨v1, rfl, hown, hnn, hb1⟩
    rw [List.take_of_length_le (by rw [HN.out]; exact Nat.le_refl _)] at hown
    obtain ⟨a1, c1, rfl⟩ := ownsRow_shape hown
    obtain ⟨g, rfl, hg1, hg2⟩ := own_some hown (by omega)
    clear hcl hnn
    go_wp2_with fail
    refine (sort_own w.heap.size g c1 n zs w1 HN.out hmax hb1.size hown).mono ?_
    rintro e w2 ⟨rfl, hown2, hg⟩
    have hb2 : Below w.heap.size w w2 := hb1.grown hg hb1.size (fun k hk => by cases hk; exact hg1)
    have hsl : (sortZ zs).length = n := by rw [sortZ_len, HN.out]
    have hi : n - m < (sortZ zs).length := by omega
    have hcell := hown2.cellAt (n - m) (by omega)
    rw [List.getElem?_map, List.getElem?_eq_getElem hi, Option.map_some, Z] at hcell
    have hgd : (sortZ zs).getD (n - m) 0 = (sortZ zs)[n - m] := by simp [hi]
    obtain ⟨x, hx⟩ : ∃ x, x = (sortZ zs)[n - m] := ⟨_, rfl⟩
    rw [← hx] at hcell hgd
    have HX := Lib.hid hgd
    have hsub : (n : Int) - (m : Int) = ((n - m : Nat) : Int) := by omega
    have hsub2 : ((n : Int) - (m : Int)).toNat = n - m := by omega
    have hw1 : IntKind.i64.wrap ((n : Int) - (m : Int)) = ((n - m : Nat) : Int) := by rw [hsub]; exact IntWalk.i64_in _ (by omega)
    have hi0 : ((n - m : Nat) : Int) < (n : Int) := by omega
    clear hx hgd hown hown2 hsl hi hg
    go_wp2
    go_ret
    exact ⟨ret_val (by rw [HX.out]; rfl), hb2⟩
#print axioms acked_any
end Go.Proofs.Ytgpefemnabjfcaa
