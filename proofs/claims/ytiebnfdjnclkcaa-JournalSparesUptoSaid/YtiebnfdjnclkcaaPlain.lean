/- Plain facts of the journal's sum: no program in sight. -/
import Derived.Test.YtiebnfdjnclkcaaLib
set_option linter.unusedVariables false
namespace Go.Proofs.Ytiebnfdjnclkcaa
open Go.RowKit

/-- A number of 64 bits as a value. -/
def U (h : BitVec 64) : Value := .int .u64 (h.toNat : Int)
/-- FNV-1a over 64 bits. -/
def fnvStep (h : BitVec 64) (x : UInt8) : BitVec 64 := (h ^^^ BitVec.ofNat 64 x.toNat) * 1099511628211#64
def fnv (l : List UInt8) : BitVec 64 := l.foldl fnvStep 14695981039346656037#64
theorem fnv_nil : fnv [] = 14695981039346656037#64 := rfl
theorem fnv_snoc (l : List UInt8) (x : UInt8) : fnv (l ++ [x]) = fnvStep (fnv l) x := by simp [fnv]
theorem take_snoc {α : Type} (l : List α) (k : Nat) (h : k < l.length) : l.take (k + 1) = l.take k ++ [l[k]] := by
  rw [List.take_succ_eq_append_getElem h]
theorem fnv_take (l : List UInt8) (k : Nat) (h : k < l.length) : fnv (l.take (k + 1)) = fnvStep (fnv (l.take k)) l[k] := by
  rw [take_snoc l k h, fnv_snoc]

theorem bits_xor (h : BitVec 64) (x : UInt8) : bits .xor .u64 (h.toNat : Int) (x.toNat : Int) = ((h ^^^ BitVec.ofNat 64 x.toNat).toNat : Int) := by
  have hx := x.toNat_lt
  have hh := h.isLt
  rw [u64_xor_nat _ _ hh (by omega), BitVec.toNat_xor, BitVec.toNat_ofNat, Nat.mod_eq_of_lt (by omega)]

theorem toNat_mul_c (y : BitVec 64) : ((y * 1099511628211#64).toNat : Int) = (y.toNat : Int) * 1099511628211 % 18446744073709551616 := by
  rw [BitVec.toNat_mul]
  simp

/-- The program's step, as the walk spells it. -/
theorem fnvStep_prog (h : BitVec 64) (x : UInt8) : IntKind.u64.wrap (bits .xor .u64 (h.toNat : Int) (x.toNat : Int) * 1099511628211) = ((fnvStep h x).toNat : Int) := by
  rw [bits_xor, IntKind.wrap_u64, fnvStep, toNat_mul_c]

theorem ref_mul (z : Int) : ((z * 1099511627776 % 18446744073709551616 + z * 256 % 18446744073709551616) % 18446744073709551616 + z * 179 % 18446744073709551616) % 18446744073709551616 =
    z * 1099511628211 % 18446744073709551616 := by omega

/-- The reference's step, as the walk spells it. -/
theorem fnvStep_ref (h : BitVec 64) (x : UInt8) :
    IntKind.u64.wrap (IntKind.u64.wrap (IntKind.u64.wrap (bits .xor .u64 (h.toNat : Int) (x.toNat : Int) * 1099511627776) + IntKind.u64.wrap (bits .xor .u64 (h.toNat : Int) (x.toNat : Int) * 256)) +
      IntKind.u64.wrap (bits .xor .u64 (h.toNat : Int) (x.toNat : Int) * 179)) = ((fnvStep h x).toNat : Int) := by
  rw [bits_xor, fnvStep, toNat_mul_c]
  simp only [IntKind.wrap_u64]
  exact ref_mul _

theorem mul_inj (a b : BitVec 64) (h : a * 1099511628211#64 = b * 1099511628211#64) : a = b := by
  have h1 : ∀ a : BitVec 64, a * 1099511628211#64 * 14886173955864302971#64 = a := by
    intro a
    rw [BitVec.mul_assoc]
    have : 1099511628211#64 * 14886173955864302971#64 = 1#64 := by decide
    rw [this, BitVec.mul_one]
  rw [← h1 a, h, h1 b]

theorem fnvStep_inj_h {a b : BitVec 64} {x : UInt8} (h : fnvStep a x = fnvStep b x) : a = b := by
  have h1 := mul_inj _ _ h
  have h2 := congrArg (· ^^^ BitVec.ofNat 64 x.toNat) h1
  simpa [BitVec.xor_assoc] using h2

theorem fnvStep_inj_x {a : BitVec 64} {x y : UInt8} (h : fnvStep a x = fnvStep a y) : x = y := by
  have h1 := mul_inj _ _ h
  have h2 := congrArg (a ^^^ ·) h1
  simp only [← BitVec.xor_assoc, BitVec.xor_self, BitVec.zero_xor] at h2
  have h3 := congrArg BitVec.toNat h2
  have hx := x.toNat_lt
  have hy := y.toNat_lt
  rw [BitVec.toNat_ofNat, BitVec.toNat_ofNat, Nat.mod_eq_of_lt (by omega), Nat.mod_eq_of_lt (by omega)] at h3
  exact UInt8.toNat_inj.1 h3

theorem foldl_inj_h {a b : BitVec 64} (l : List UInt8) (h : l.foldl fnvStep a = l.foldl fnvStep b) : a = b := by
  induction l generalizing a b with
  | nil => exact h
  | cons x l ih => exact fnvStep_inj_h (ih h)

/-- One byte that is another one makes another sum. -/
theorem fnv_set (l : List UInt8) (k : Nat) (h : k < l.length) (y : UInt8) (hy : l[k] ≠ y) : fnv (l.set k y) ≠ fnv l := by
  intro he
  have e1 : l = l.take k ++ l[k] :: l.drop (k + 1) := by simp
  have e2 : l.set k y = l.take k ++ y :: l.drop (k + 1) := by rw [List.set_eq_take_append_cons_drop, if_pos h]
  rw [e2, fnv, fnv, List.foldl_append, List.foldl_cons] at he
  conv at he => rhs; rw [e1]
  rw [List.foldl_append, List.foldl_cons] at he
  exact hy (fnvStep_inj_x (foldl_inj_h _ he)).symm

theorem neq_of {a b : Int} (h : a = b) : (a != b) = false := by simp [h]
theorem neq_of' {a b : Int} (h : a ≠ b) : (a != b) = true := by simp [h]
theorem eql_of {a b : Int} (h : a = b) : (a == b) = true := by simp [h]
theorem eql_of' {a b : Int} (h : a ≠ b) : (a == b) = false := by simp [h]

#print axioms fnv_set
end Go.Proofs.Ytiebnfdjnclkcaa
