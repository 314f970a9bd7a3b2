/- Plain facts on a number's bytes. No program in sight. -/
import Derived.Test.YtaipnbpefdcejaaIntW
set_option linter.unusedVariables false
namespace Go.Proofs.Ytaipnbpefdcejaa
open Go.RowKit

/-- A number's bytes, seven bits each, the lowest first. -/
def bytesU (n : Nat) : List UInt8 := if h : n < 128 then [UInt8.ofNat n] else UInt8.ofNat (n % 128 + 128) :: bytesU (n / 128)
termination_by n
decreasing_by omega

theorem bytesU_low {n : Nat} (h : n < 128) : bytesU n = [UInt8.ofNat n] := by rw [bytesU, dif_pos h]
theorem bytesU_high {n : Nat} (h : ¬ n < 128) : bytesU n = UInt8.ofNat (n % 128 + 128) :: bytesU (n / 128) := by rw [bytesU, dif_neg h]

theorem bytesU_pos (n : Nat) : 0 < (bytesU n).length := by
  by_cases h : n < 128
  · rw [bytesU_low h]; simp
  · rw [bytesU_high h]; simp
theorem bytesU_len (k n : Nat) (h : n < 128 ^ (k + 1)) : (bytesU n).length ≤ k + 1 := by
  induction k generalizing n with
  | zero => rw [bytesU_low (by simpa using h)]; simp
  | succ k ih =>
    by_cases h2 : n < 128
    · rw [bytesU_low h2]; simp
    · rw [bytesU_high h2, List.length_cons]
      have := ih (n / 128) (by rw [Nat.pow_succ] at h; omega)
      omega
theorem bytesU_len10 (n : Nat) (h : n < 18446744073709551616) : (bytesU n).length ≤ 10 := by
  have h1 : (128 : Nat) ^ (9 + 1) = 1180591620717411303424 := by decide
  have h2 := bytesU_len 9 n
  rw [h1] at h2
  exact h2 (by omega)
theorem numB_bytesU (n : Nat) : numB (bytesU n) = n := by
  induction n using Nat.strongRecOn with
  | ind n ih =>
    by_cases h : n < 128
    · rw [bytesU_low h]
      simp only [numB, UInt8.toNat_ofNat']
      omega
    · rw [bytesU_high h]
      simp only [numB, UInt8.toNat_ofNat', ih (n / 128) (by omega)]
      omega
theorem bytesU_groups (n : Nat) : (∀ i (h : i < (bytesU n).length), i + 1 < (bytesU n).length → 128 ≤ (bytesU n)[i].toNat) ∧
    (∀ i (h : i < (bytesU n).length), i + 1 = (bytesU n).length → (bytesU n)[i].toNat < 128 ∧ (0 < i → (bytesU n)[i].toNat ≠ 0) ∧ (bytesU n)[i].toNat * 128 ^ i ≤ n ∧ (0 < n → (bytesU n)[i].toNat ≠ 0)) := by
  induction n using Nat.strongRecOn with
  | ind n ih =>
    by_cases h : n < 128
    · have e := bytesU_low h
      have hlen : (bytesU n).length = 1 := by rw [e]; rfl
      refine ⟨fun i hi hi2 => by omega, fun i hi hi2 => ?_⟩
      have hi0 : i = 0 := by omega
      subst hi0
      have hg : (bytesU n)[0].toNat = n := by
        simp only [e, List.getElem_cons_zero, UInt8.toNat_ofNat']
        omega
      rw [hg]
      exact ⟨h, by omega, by omega, by omega⟩
    · have e := bytesU_high h
      obtain ⟨h1, h2⟩ := ih (n / 128) (by omega)
      have hp := bytesU_pos (n / 128)
      have hlen : (bytesU n).length = (bytesU (n / 128)).length + 1 := by rw [e]; rfl
      refine ⟨fun i hi hi2 => ?_, fun i hi hi2 => ?_⟩
      · cases i with
        | zero =>
          simp only [e, List.getElem_cons_zero, UInt8.toNat_ofNat']
          omega
        | succ i =>
          simp only [e, List.getElem_cons_succ]
          exact h1 i (by omega) (by omega)
      · cases i with
        | zero => omega
        | succ i =>
          simp only [e, List.getElem_cons_succ]
          obtain ⟨g1, g2, g3, g4⟩ := h2 i (by omega) (by omega)
          refine ⟨g1, fun _ => g4 (by omega), ?_, fun _ => g4 (by omega)⟩
          rw [Nat.pow_succ, ← Nat.mul_assoc]
          omega

/-- A number's bytes are read as the number, whatever follows. -/
theorem read_bytesU (n : Nat) (hn : n < 18446744073709551616) (post : List UInt8) : ∃ j, j + 1 = (bytesU n).length ∧ IsLast (bytesU n ++ post) j ∧ j < (bytesU n ++ post).length ∧ ¬ badAt (bytesU n ++ post) j ∧ numB ((bytesU n ++ post).take (j + 1)) = n := by
  have hp := bytesU_pos n
  have h10 := bytesU_len10 n hn
  obtain ⟨h1, h2⟩ := bytesU_groups n
  obtain ⟨j, hj⟩ : ∃ j, j + 1 = (bytesU n).length := ⟨(bytesU n).length - 1, by omega⟩
  have hjl : j < (bytesU n ++ post).length := by rw [List.length_append]; omega
  obtain ⟨g1, g2, g3, g4⟩ := h2 j (by omega) hj
  have hg : (bytesU n ++ post)[j] = (bytesU n)[j]'(by omega) := List.getElem_append_left (by omega)
  have hgd : (bytesU n ++ post).getD j 0 = (bytesU n)[j]'(by omega) := by rw [← hg, List.getD_eq_getElem?_getD, List.getElem?_eq_getElem hjl]; rfl
  refine ⟨j, hj, ⟨by omega, by omega, fun i hi hij => ?_, fun _ _ => by rw [hg]; exact g1⟩, hjl, ?_, ?_⟩
  · rw [List.getElem_append_left (by omega)]
    exact h1 i (by omega) (by omega)
  · rintro (⟨rfl, hb⟩ | ⟨hb1, hb⟩)
    · rw [hgd] at hb
      have : (128 : Nat) ^ 9 = 9223372036854775808 := by decide
      rw [this] at g3
      omega
    · rw [hgd] at hb
      exact g2 hb1 hb
  · rw [hj, List.take_left, numB_bytesU]

/-- The folded number. -/
def zig (i : Int) : Nat := if 0 ≤ i then (2 * i).toNat else (-2 * i - 1).toNat
theorem unz_zig (i : Int) : unz (zig i) = i := by
  unfold unz zig
  by_cases h : 0 ≤ i
  · rw [if_pos h, if_pos (by omega)]; omega
  · rw [if_neg h, if_neg (by omega)]; omega
theorem zig_lt (i : Int) (h : -9223372036854775808 ≤ i ∧ i ≤ 9223372036854775807) : zig i < 18446744073709551616 := by
  unfold zig
  split <;> omega
#print axioms read_bytesU
end Go.Proofs.Ytaipnbpefdcejaa
