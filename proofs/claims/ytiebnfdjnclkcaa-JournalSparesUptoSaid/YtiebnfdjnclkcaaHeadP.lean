/- Plain facts of a record's head: eight bytes of a number, the head, what stands at a beginning. No program in sight. -/
import Derived.Test.YtiebnfdjnclkcaaPlain
set_option linter.unusedVariables false
namespace Go.Proofs.Ytiebnfdjnclkcaa
open Go.RowKit

def inv255 (x : UInt8) : UInt8 := 255 - x
theorem inv255_toNat (x : UInt8) : (inv255 x).toNat = 255 - x.toNat := by
  have h := x.toNat_lt
  unfold inv255
  rw [UInt8.toNat_sub_of_le _ _ (by rw [UInt8.le_iff_toNat_le]; simp; omega)]
  simp
theorem inv255_val (x : UInt8) : (255 : Int) - (x.toNat : Int) = ((inv255 x).toNat : Int) := by
  have h := x.toNat_lt
  rw [inv255_toNat]; omega

/-- Byte number k of eight, the highest first. -/
def byteAt (n k : Nat) : UInt8 := UInt8.ofNat (n / 256 ^ (7 - k))
def be8 (n : Nat) : List UInt8 := (List.range 8).map (byteAt n)
theorem be8_len (n : Nat) : (be8 n).length = 8 := by simp [be8]
theorem be8_get (n k : Nat) (h : k < 8) : (be8 n)[k]'(by rw [be8_len]; exact h) = byteAt n k := by simp [be8]
theorem be8_get? (n k : Nat) (h : k < 8) : (be8 n)[k]? = some (byteAt n k) := by
  rw [List.getElem?_eq_getElem (by rw [be8_len]; exact h), be8_get n k h]
theorem be8_take (n k : Nat) (h : k < 8) : (be8 n).take (k + 1) = (be8 n).take k ++ [byteAt n k] := by
  rw [take_snoc _ _ (by rw [be8_len]; exact h), be8_get n k h]
theorem be8_drop (n k : Nat) (h : k < 8) : (be8 n).drop k = byteAt n k :: (be8 n).drop (k + 1) := by
  rw [List.drop_eq_getElem_cons (by rw [be8_len]; exact h), be8_get n k h]

theorem wrap_u8_nat (m : Nat) : IntKind.u8.wrap (m : Int) = ((UInt8.ofNat m).toNat : Int) := by
  rw [IntKind.wrap_u8, UInt8.toNat_ofNat']
  omega

theorem byteAt_inv (n k : Nat) (hn : n < 18446744073709551616) (hk : k < 8) : byteAt (18446744073709551615 - n) k = inv255 (byteAt n k) := by
  apply UInt8.toNat_inj.1
  rw [inv255_toNat]
  simp only [byteAt, UInt8.toNat_ofNat']
  have h8 : k = 0 ∨ k = 1 ∨ k = 2 ∨ k = 3 ∨ k = 4 ∨ k = 5 ∨ k = 6 ∨ k = 7 := by omega
  rcases h8 with rfl | rfl | rfl | rfl | rfl | rfl | rfl | rfl <;> simp only [Nat.reduceSub, Nat.reducePow] <;> omega

theorem be8_inv (n : Nat) (hn : n < 18446744073709551616) : be8 (18446744073709551615 - n) = (be8 n).map inv255 := by
  simp only [be8, List.map_map]
  apply List.map_congr_left
  intro k hk
  exact byteAt_inv n k hn (List.mem_range.1 hk)

/-- The number of bytes, the highest first. -/
def ofBe (l : List UInt8) : Nat := l.foldl (fun n b => n * 256 + b.toNat) 0
theorem ofBe_snoc (l : List UInt8) (x : UInt8) : ofBe (l ++ [x]) = ofBe l * 256 + x.toNat := by simp [ofBe]
theorem ofBe_take (l : List UInt8) (k : Nat) (h : k < l.length) : ofBe (l.take (k + 1)) = ofBe (l.take k) * 256 + l[k].toNat := by
  rw [take_snoc l k h, ofBe_snoc]
theorem ofBe_lt (l : List UInt8) (k : Nat) (h : k ≤ l.length) : ofBe (l.take k) < 256 ^ k := by
  induction k with
  | zero => simp [ofBe]
  | succ k ih =>
    rw [ofBe_take l k (by omega), Nat.pow_succ]
    have h1 := ih (by omega)
    have h2 := (l[k]).toNat_lt
    omega
theorem ofBe_be8 (n : Nat) (hn : n < 18446744073709551616) : ofBe (be8 n) = n := by
  have e : be8 n = [byteAt n 0, byteAt n 1, byteAt n 2, byteAt n 3, byteAt n 4, byteAt n 5, byteAt n 6, byteAt n 7] := rfl
  rw [e]
  simp only [ofBe, List.foldl_cons, List.foldl_nil, byteAt, UInt8.toNat_ofNat', Nat.reduceSub, Nat.reducePow]
  omega
theorem be8_inj {n m : Nat} (hn : n < 18446744073709551616) (hm : m < 18446744073709551616) (h : be8 n = be8 m) : n = m := by
  rw [← ofBe_be8 n hn, h, ofBe_be8 m hm]

/-- The head of a record. -/
def headB (r : List UInt8) : List UInt8 := 74 :: (be8 r.length ++ ((be8 r.length).map inv255 ++ be8 (fnv r).toNat))
theorem headB_len (r : List UInt8) : (headB r).length = 25 := by simp [headB, be8_len]

/-- The record that stands at the beginning. -/
def standB (b : List UInt8) : Option (List UInt8) :=
  if b.length < 25 then none
  else
    let n := ofBe ((b.drop 1).take 8)
    if n = 0 ∨ b.length - 25 < n then none
    else if headB ((b.drop 25).take n) = b.take 25 then some ((b.drop 25).take n) else none

#print axioms be8_inv
end Go.Proofs.Ytiebnfdjnclkcaa
