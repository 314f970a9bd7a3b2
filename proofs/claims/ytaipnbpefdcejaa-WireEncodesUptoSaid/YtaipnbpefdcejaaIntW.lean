/- The walks of wire.Int, of the reference's Int and of Unfold. -/
import Derived.Test.YtaipnbpefdcejaaUintR
set_option linter.unusedVariables false
namespace Go.Proofs.Ytaipnbpefdcejaa
open Go.RowKit

/-- The signed number. -/
def unz (n : Nat) : Int := if n % 2 = 0 then ((n / 2 : Nat) : Int) else -((n / 2 : Nat) : Int) - 1
def T3i (v e f : Int) : Value := .tuple #[.int .i64 v, .int .i64 e, .int .i64 f]

theorem UPost.parts {l : List UInt8} {pos : Int} {e : Ending} (h : UPost l pos e) :
    ∃ (v : Nat) (en er : Int), e = .returned (T3 v en er) ∧ v < 18446744073709551616 ∧ (er = 0 ∧ 0 ≤ en ∧ en ≤ l.length ∨ er ≠ 0 ∧ v = 0 ∧ en = 0) := by
  rcases h with ⟨_, h⟩ | ⟨⟨h1, h2⟩, j, hj, h⟩
  · exact ⟨0, 0, 210, h, by omega, .inr ⟨by omega, rfl, rfl⟩⟩
  · by_cases hl : (l.drop pos.toNat).length ≤ j
    · rw [uAns_more hl] at h
      exact ⟨0, 0, 210, h, by omega, .inr ⟨by omega, rfl, rfl⟩⟩
    · by_cases hb : badAt (l.drop pos.toNat) j
      · rw [uAns_bad (by omega) hb] at h
        exact ⟨0, 0, 211, h, by omega, .inr ⟨by omega, rfl, rfl⟩⟩
      · rw [uAns_ok (by omega) hb] at h
        rw [List.length_drop] at hl
        exact ⟨_, _, _, h, uint_small hj.1 (by rw [List.length_drop]; omega) hb, .inl ⟨rfl, by omega, by omega⟩⟩
theorem UPost.unique {l : List UInt8} {pos : Int} {e e' : Ending} (h : UPost l pos e) (h' : UPost l pos e') : e = e' := by
  rcases h with ⟨h1, h⟩ | ⟨⟨h1, h2⟩, j, hj, h⟩
  · rcases h' with ⟨g1, g⟩ | ⟨⟨g1, g2⟩, k, hk, g⟩
    · rw [h, g]
    · omega
  · rcases h' with ⟨g1, g⟩ | ⟨⟨g1, g2⟩, k, hk, g⟩
    · omega
    · rw [h, g, hj.unique hk]
theorem T3_inj {v v' : Nat} {e e' f f' : Int} (h : Ending.returned (T3 v e f) = .returned (T3 v' e' f')) : v = v' ∧ e = e' ∧ f = f' := by
  simp [T3] at h
  omega

theorem xor_i64 (a : Nat) (ha : a < 9223372036854775808) (b : Int) : bits .xor .i64 (a : Int) b = IntKind.i64.wrap (((BitVec.ofNat 64 a ^^^ BitVec.ofInt 64 b).toNat : Nat) : Int) := by
  show IntKind.i64.wrap ((BitVec.ofInt 64 (a : Int) ^^^ BitVec.ofInt 64 b).toNat : Int) = _
  rw [BitVec.ofInt_natCast]
theorem unz_bits (v : Nat) (hv : v < 18446744073709551616) : bits .xor .i64 ((v : Int) / 2) (wrap64 (-wrap64 (bits .and .u64 (v : Int) 1))) = unz v := by
  have h1 : bits .and .u64 (v : Int) 1 = ((v % 2 : Nat) : Int) := by
    have := bits_and_u64_nat v 1 hv (by omega)
    rw [Nat.and_one_is_mod] at this
    exact this
  rw [h1]
  have h2 : (v : Int) / 2 = ((v / 2 : Nat) : Int) := by omega
  have h3 : wrap64 ((v % 2 : Nat) : Int) = ((v % 2 : Nat) : Int) := by unfold wrap64; omega
  rw [h2, h3, xor_i64 _ (by omega)]
  have hb : (BitVec.ofNat 64 (v / 2)).toNat = v / 2 := by rw [BitVec.toNat_ofNat]; omega
  by_cases h : v % 2 = 0
  · rw [h]
    have e : wrap64 (-((0 : Nat) : Int)) = 0 := by unfold wrap64; omega
    rw [e, show BitVec.ofInt 64 0 = 0#64 from rfl, BitVec.xor_zero, hb, unz, if_pos h, IntKind.wrap_i64]
    omega
  · have h' : v % 2 = 1 := by omega
    rw [h']
    have e : wrap64 (-((1 : Nat) : Int)) = -1 := by unfold wrap64; omega
    rw [e, show BitVec.ofInt 64 (-1) = BitVec.allOnes 64 from by decide, BitVec.xor_allOnes, BitVec.toNat_not, hb, unz, if_neg h, IntKind.wrap_i64]
    omega

theorem unfold_any (n : Nat) (w : World) (hn : n < 18446744073709551616) : Calls Try.prog 40 #[.int .u64 (n : Int)] w fun e w' => e = .returned (.int .i64 (unz n)) ∧ w = w' := by
  by_cases h2 : n % 2 = 0
  · have e1 : unz n = ((n / 2 : Nat) : Int) := by simp [unz, h2]
    have hz := eql_of (a := (n : Int) % 2) (b := 0) (by omega)
    rw [e1]
    go_enter Try.func40, Try.ntmps40
    go_wp2
    go_ret
    exact ⟨ret_val (by simp), rfl⟩
  · have e1 : unz n = -((n / 2 : Nat) : Int) - 1 := by simp [unz, h2]
    have hz := eql_of' (a := (n : Int) % 2) (b := 0) (by omega)
    rw [e1]
    go_enter Try.func40, Try.ntmps40
    go_wp2
    go_ret
    exact ⟨ret_val (by simp), rfl⟩

theorem int_any (a : Option Addr) (cap n : Nat) (l : List UInt8) (pos : Int) (w : World) (hn : l.length = n) (hmax : n ≤ 140737488355328) (hp : -9223372036854775808 ≤ pos ∧ pos ≤ 9223372036854775807) (h : Rd w a (l.map B)) :
    Calls Try.prog 17 #[.slice a n cap, .int .i64 pos] w fun e w' => (∃ (v : Nat) (en er : Int), UPost l pos (.returned (T3 v en er)) ∧ e = .returned (T3i (unz v) en er)) ∧ w = w' := by
  go_enter Try.func17, Try.ntmps17
  go_wp2_with fail
  refine (uint_any a cap n l pos w hn hmax hp h).mono ?_
  rintro e _ ⟨hu, rfl⟩
  obtain ⟨v, en, er, rfl, hv, hen⟩ := hu.parts
  have HU := Lib.hid hu
  have HZ := Lib.hid (unz_bits v hv)
  clear hu
  unfold T3
  go_wp2
  go_ret3
  refine ⟨⟨v, en, er, HU.out, ?_⟩, rfl⟩
  rw [← HZ.out]
  rfl

theorem rint_any (a : Option Addr) (cap n : Nat) (l : List UInt8) (pos : Int) (w : World) (hn : l.length = n) (hmax : n ≤ 140737488355328) (hp : -9223372036854775808 ≤ pos ∧ pos ≤ 9223372036854775807) (h : Rd w a (l.map B)) :
    Calls Try.prog 18 #[.slice a n cap, .int .i64 pos] w fun e w' => (∃ (v : Nat) (en er : Int), UPost l pos (.returned (T3 v en er)) ∧ e = .returned (T3i (unz v) en er)) ∧ Below w.heap.size w w' := by
  go_enter Try.func18, Try.ntmps18
  go_wp2_with fail
  refine (ruint_any a cap n l pos w hn hmax hp h).mono ?_
  rintro e w1 ⟨hu, hb⟩
  obtain ⟨v, en, er, rfl, hv, hen⟩ := hu.parts
  have HU := Lib.hid hu
  clear hu
  unfold T3
  rcases hen with ⟨rfl, h1, h2⟩ | ⟨h1, rfl, rfl⟩
  · go_wp2_with fail
    refine (unfold_any v w1 hv).mono ?_
    rintro e _ ⟨rfl, rfl⟩
    go_wp2
    go_ret3
    exact ⟨⟨v, en, 0, HU.out, rfl⟩, hb⟩
  · have hne := neq_of' (a := er) (b := 0) h1
    clear h1
    go_wp2
    go_ret3
    exact ⟨⟨0, 0, er, HU.out, rfl⟩, hb⟩
#print axioms rint_any
end Go.Proofs.Ytaipnbpefdcejaa
