/- The walks of named and has. -/
import Derived.Test.YtaipnbpefdcejaaProper
set_option linter.unusedVariables false
namespace Go.Proofs.Ytaipnbpefdcejaa
open Go.RowKit
/-- A kind's letters. -/
def namedL (k : Int) : List UInt8 :=
  if k = 1 then [78] else if k = 2 then [83, 81, 78] else if k = 3 then [72, 69] else if k = 4 then [72, 78] else if k = 5 ∨ k = 6 ∨ k = 7 ∨ k = 9 ∨ k = 18 then [72] else if k = 8 then [73] else if k = 16 then [67] else if k = 17 then [70] else
  if k = 19 then [72, 77] else if k = 20 then [72, 90] else if k = 21 then [72, 73] else []
theorem namedL_none {k : Int} (hk : ¬ (k = 1 ∨ k = 2 ∨ k = 3 ∨ k = 4 ∨ k = 5 ∨ k = 6 ∨ k = 7 ∨ k = 8 ∨ k = 9 ∨ k = 16 ∨ k = 17 ∨ k = 18 ∨ k = 19 ∨ k = 20 ∨ k = 21)) : namedL k = [] := by
  unfold namedL
  simp only [not_or] at hk
  obtain ⟨h1, h2, h3, h4, h5, h6, h7, h8, h9, h16, h17, h18, h19, h20, h21⟩ := hk
  simp [h1, h2, h3, h4, h5, h6, h7, h8, h9, h16, h17, h18, h19, h20, h21]
def strB (l : List UInt8) : Value := .string ⟨l.toArray⟩
theorem named_any (k : Int) (w : World) : Calls Try.prog 48 #[.int .i64 k] w fun e w' => e = .returned (strB (namedL k)) ∧ w = w' := by
  by_cases hk : k = 1 ∨ k = 2 ∨ k = 3 ∨ k = 4 ∨ k = 5 ∨ k = 6 ∨ k = 7 ∨ k = 8 ∨ k = 9 ∨ k = 16 ∨ k = 17 ∨ k = 18 ∨ k = 19 ∨ k = 20 ∨ k = 21
  · rcases hk with rfl | rfl | rfl | rfl | rfl | rfl | rfl | rfl | rfl | rfl | rfl | rfl | rfl | rfl | rfl
    all_goals
      go_enter Try.func48, Try.ntmps48
      go_wp2
      go_ret
      exact ⟨rfl, rfl⟩
  · rw [namedL_none hk]
    simp only [not_or] at hk
    obtain ⟨h1, h2, h3, h4, h5, h6, h7, h8, h9, h16, h17, h18, h19, h20, h21⟩ := hk
    go_enter Try.func48, Try.ntmps48
    go_wp2
    all_goals go_ret
    all_goals exact ⟨rfl, rfl⟩
def hasB (k : Int) (c : UInt8) : Bool := (namedL k).contains c
theorem has_any (k : Int) (c : UInt8) (w : World) : Calls Try.prog 49 #[.int .i64 k, .int .u8 (c.toNat : Int)] w fun e w' => e = .returned (.bool (hasB k c)) ∧ w = w' := by
  go_enter Try.func49, Try.ntmps49
  go_wp2_with fail
  refine (named_any k w).mono ?_
  rintro e w1 ⟨rfl, rfl⟩
  obtain ⟨L, hL⟩ : ∃ L, L = namedL k := ⟨_, rfl⟩
  have hhas : hasB k c = L.contains c := by rw [hL]; rfl
  rw [← hL]
  obtain ⟨n, hn⟩ : ∃ n, n = L.length := ⟨_, rfl⟩
  have hsz : (⟨L.toArray⟩ : ByteArray).size = n := by rw [hn]; rfl
  have hn3 : n ≤ 100 := by
    rw [hn, hL]
    unfold namedL
    repeat' split
    all_goals simp
  obtain ⟨S, hS⟩ : ∃ S : ByteArray, S = ⟨L.toArray⟩ := ⟨_, rfl⟩
  have hget : ∀ j, j < n → ∃ h2 : j < S.size, L[j]? = some S[j] := by
    intro j h
    subst hS
    refine ⟨by rw [hsz]; exact h, ?_⟩
    rw [List.getElem?_eq_getElem (by omega)]
    rfl
  unfold strB
  rw [← hS] at hsz ⊢
  have HH := Lib.hid hhas
  have HN := Lib.hid hn
  have HG := Lib.hid hget
  clear hhas hL hn hS hget
  go_wp2_with fail
  go_loop [6] (fun i => ∃ j : Nat, j ≤ n ∧ i = .int .i64 (j : Int) ∧ ¬ c ∈ L.take j) (fun i => n - (intOf i).toNat)
  case atStart => exact ⟨0, Nat.zero_le _, rfl, by simp⟩
  case round =>
    obtain ⟨j, hj, rfl, hnot⟩ := hrel
    by_cases hlt : j < n
    · obtain ⟨h2, hg⟩ := HG.out j hlt
      have hlt' : (j : Int) < n := by omega
      have hL2 : j < L.length := by rw [← HN.out]; exact hlt
      rw [List.getElem?_eq_getElem hL2] at hg
      have hg2 : S[j] = L[j] := (Option.some.inj hg).symm
      have HU := Lib.hid hg2
      have HNOT := Lib.hid hnot
      clear hg hg2 hnot
      have hst : L.take (j + 1) = L.take j ++ [S[j]] := by rw [List.take_succ_eq_append_getElem hL2, HU.out]
      by_cases hc : S[j] = c
      · have hyy : (((S[j]).toNat : Int) == (c.toNat : Int)) = true := by rw [hc]; simp
        have HC := Lib.hid hc
        clear hc hst
        go_wp2
        go_ret
        refine ⟨ret_val ?_, rfl⟩
        have hm : L.contains c = true := by
          rw [List.contains_iff_mem, ← HC.out, HU.out]
          exact List.getElem_mem hL2
        rw [HH.out, hm]
        rfl
      · have hyy : (((S[j]).toNat : Int) == (c.toNat : Int)) = false := by
          simp only [beq_eq_false_iff_ne, ne_eq]
          exact fun h => hc (UInt8.toNat_inj.1 (by omega))
        have hnot2 : ¬ c ∈ L.take (j + 1) := by
          rw [hst, List.mem_append, List.mem_singleton]
          rintro (h | h)
          · exact HNOT.out h
          · exact hc h.symm
        have HN2 := Lib.hid hnot2
        have HM := Lib.hid (meas_lt hlt)
        clear hc hst hnot2
        go_wp2
        go_round
        case rel => exact ⟨j + 1, by omega, by go_num, HN2.out⟩
        case measure => exact HM.out
    · have hje : j = n := by omega
      have hlt' : ¬ (j : Int) < n := by omega
      have e : L.take j = L := List.take_of_length_le (by rw [← HN.out]; omega)
      rw [e] at hnot
      have HNOT := Lib.hid hnot
      clear e hje hnot
      go_wp2
      go_ret
      refine ⟨ret_val ?_, rfl⟩
      have hm : L.contains c = false := by
        rw [Bool.eq_false_iff, ne_eq, List.contains_iff_mem]
        exact HNOT.out
      rw [HH.out, hm]
      rfl
#print axioms has_any
end Go.Proofs.Ytaipnbpefdcejaa
