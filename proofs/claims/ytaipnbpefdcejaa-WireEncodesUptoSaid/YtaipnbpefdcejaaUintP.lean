/- Plain facts on a number's groups of seven bits. No program in sight. -/
import Derived.Test.YtaipnbpefdcejaaW1
import Derived.Laws.Bits64b
set_option linter.unusedVariables false
namespace Go.Proofs.Ytaipnbpefdcejaa
open Go.RowKit

/-- The groups' number, the lowest first. -/
def numB : List UInt8 → Nat
  | [] => 0
  | c :: l => c.toNat % 128 + 128 * numB l
theorem numB_append (l m : List UInt8) : numB (l ++ m) = numB l + 128 ^ l.length * numB m := by
  induction l with
  | nil => simp [numB]
  | cons c l ih =>
    simp only [List.cons_append, numB, ih, List.length_cons, Nat.pow_succ]
    rw [Nat.mul_add, ← Nat.mul_assoc, Nat.mul_comm 128 (128 ^ l.length), Nat.add_assoc]
theorem numB_take (l : List UInt8) (k : Nat) (h : k < l.length) : numB (l.take (k + 1)) = numB (l.take k) + 128 ^ k * (l[k].toNat % 128) := by
  rw [take_snoc l k h, numB_append, List.length_take, Nat.min_eq_left (by omega)]
  simp [numB]
theorem numB_lt (l : List UInt8) : numB l < 128 ^ l.length := by
  induction l with
  | nil => simp [numB]
  | cons c l ih =>
    simp only [numB, List.length_cons, Nat.pow_succ]
    omega
theorem numB_drop (l : List UInt8) (k : Nat) (h : k < l.length) : numB (l.drop k) = l[k].toNat % 128 + 128 * numB (l.drop (k + 1)) := by
  rw [List.drop_eq_getElem_cons h, numB]
theorem numB_drop_le (l : List UInt8) (k : Nat) : numB (l.drop k) ≤ numB l := by
  conv => rhs; rw [← List.take_append_drop k l, numB_append]
  have : 1 ≤ 128 ^ (l.take k).length := Nat.one_le_pow _ _ (by omega)
  have h2 := Nat.mul_le_mul_right (numB (l.drop k)) this
  omega

/-- The last of the number's groups. -/
def IsLast (s : List UInt8) (j : Nat) : Prop :=
  j ≤ 9 ∧ j ≤ s.length ∧ (∀ i (h : i < s.length), i < j → 128 ≤ s[i].toNat) ∧ (∀ h : j < s.length, j < 9 → s[j].toNat < 128)
theorem IsLast.unique {s : List UInt8} {j k : Nat} (h : IsLast s j) (h' : IsLast s k) : j = k := by
  obtain ⟨h1, h2, h3, h4⟩ := h
  obtain ⟨g1, g2, g3, g4⟩ := h'
  rcases Nat.lt_trichotomy j k with hlt | heq | hgt
  · have := h4 (by omega) (by omega)
    have := g3 j (by omega) hlt
    omega
  · exact heq
  · have := g4 (by omega) (by omega)
    have := h3 k (by omega) hgt
    omega
def badAt (s : List UInt8) (j : Nat) : Prop := j = 9 ∧ 1 < (s.getD j 0).toNat ∨ 0 < j ∧ (s.getD j 0).toNat = 0
instance (s : List UInt8) (j : Nat) : Decidable (badAt s j) := by unfold badAt; infer_instance
/-- What is read, the last group known: the number, how many bytes, the error. -/
def uintOf (s : List UInt8) (j : Nat) : Nat × Nat × Nat :=
  if s.length ≤ j then (0, 0, 210) else if badAt s j then (0, 0, 211) else (numB (s.take (j + 1)), j + 1, 0)
theorem uint_small {s : List UInt8} {j : Nat} (h9 : j ≤ 9) (hj : j < s.length) (hb : ¬ badAt s j) : numB (s.take (j + 1)) < 18446744073709551616 := by
  have e : s.getD j 0 = s[j] := by simp [hj]
  by_cases h : j = 9
  · subst h
    have h1 : ¬ 1 < (s[9]).toNat := fun h => hb (.inl ⟨rfl, by rw [e]; exact h⟩)
    rw [numB_take s 9 hj]
    have h2 := numB_lt (s.take 9)
    rw [List.length_take, Nat.min_eq_left (by omega)] at h2
    have h3 : (s[9]).toNat % 128 ≤ 1 := by omega
    have : (128 : Nat) ^ 9 = 9223372036854775808 := by decide
    rw [this] at h2 ⊢
    omega
  · have h2 := numB_lt (s.take (j + 1))
    rw [List.length_take, Nat.min_eq_left (by omega)] at h2
    have h3 : (128 : Nat) ^ (j + 1) ≤ 128 ^ 9 := Nat.pow_le_pow_right (by omega) (by omega)
    have : (128 : Nat) ^ 9 = 9223372036854775808 := by decide
    omega
theorem bits_and7 (x : Nat) (hx : x < 256) : bits .and .u8 (x : Int) 127 = ((x % 128 : Nat) : Int) := by
  have h1 : (BitVec.ofInt 8 (x : Int)).toNat = x := by
    rw [BitVec.ofInt_natCast, BitVec.toNat_ofNat]; exact Nat.mod_eq_of_lt (by omega)
  have h2 : (BitVec.ofInt 8 (127 : Int)).toNat = 127 := by decide
  show IntKind.u8.wrap ((BitVec.ofInt 8 (x : Int) &&& BitVec.ofInt 8 127).toNat : Int) = _
  rw [BitVec.toNat_and, h1, h2, IntKind.wrap_u8]
  have : x &&& 127 = x % 128 := Nat.and_two_pow_sub_one_eq_mod x 7
  rw [this]
  omega
theorem group_step (v x k : Nat) (hx : x < 256) (hv : v < 128 ^ k) (hs : v + 128 ^ k * (x % 128) < 18446744073709551616) :
    bits .or .u64 (v : Int) (IntKind.u64.wrap (IntKind.u64.wrap (bits .and .u8 (x : Int) 127) * 2 ^ (7 * k))) = ((v + 128 ^ k * (x % 128) : Nat) : Int) := by
  have hp : (128 : Nat) ^ k = 2 ^ (7 * k) := by rw [show (128 : Nat) = 2 ^ 7 from rfl, ← Nat.pow_mul]
  rw [bits_and7 x hx]
  have e1 : IntKind.u64.wrap ((x % 128 : Nat) : Int) = ((x % 128 : Nat) : Int) := by rw [IntKind.wrap_u64]; omega
  rw [e1]
  have e2 : ((x % 128 : Nat) : Int) * 2 ^ (7 * k) = ((128 ^ k * (x % 128) : Nat) : Int) := by
    rw [hp]; push_cast; rw [Int.mul_comm]
  rw [e2]
  obtain ⟨y, hy⟩ : ∃ y, y = 128 ^ k * (x % 128) := ⟨_, rfl⟩
  rw [← hy] at hs ⊢
  have e3 : IntKind.u64.wrap (y : Int) = (y : Int) := by rw [IntKind.wrap_u64]; omega
  rw [e3, bits_or_u64_nat v y (by omega) (by omega)]
  congr 1
  have e4 : y = (x % 128) <<< (7 * k) := by rw [hy, hp, Nat.shiftLeft_eq, Nat.mul_comm]
  rw [e4, Nat.or_comm, ← Nat.shiftLeft_add_eq_or_of_lt (by rw [← hp]; exact hv), Nat.add_comm]
#print axioms uint_small
end Go.Proofs.Ytaipnbpefdcejaa
