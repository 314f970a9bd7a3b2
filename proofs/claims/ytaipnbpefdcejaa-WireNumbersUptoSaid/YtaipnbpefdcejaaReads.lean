/- The walk of WireReads. -/
import Derived.Test.YtaipnbpefdcejaaIntW
set_option linter.unusedVariables false
namespace Go.Proofs.Ytaipnbpefdcejaa
open Go.RowKit
theorem int_eql_self (a : Int) : (a == a) = true := by simp
theorem i64_of_wf {x : Int} (h : (Lit.int .i64 x).wf = true) : -9223372036854775808 ≤ x ∧ x ≤ 9223372036854775807 := by
  simp [Lit.wf, IntKind.min, IntKind.max, IntKind.bits, IntKind.signed] at h
  omega

set_option maxHeartbeats 1000000 in
theorem reads_walk (a : Option Addr) (cap n : Nat) (l : List UInt8) (pos : Int) (w : World) (hn : l.length = n) (hmax : n ≤ 140737488351232) (h : Rd w a (l.map B)) (hp : -9223372036854775808 ≤ pos ∧ pos ≤ 9223372036854775807) :
    Calls Try.prog 4 #[.slice a n cap, .int .i64 pos] w fun e w' => e = .returned (.bool true) ∧ Below w.heap.size w w' := by
  have HN := Lib.hid hn
  clear hn
  go_enter Try.func4, Try.ntmps4
  go_wp2_with fail
  refine (copied_n a cap n l w HN.out (by omega) h).mono ?_
  rintro e w1 ⟨a1, c1, rfl, hown1, hb1⟩
  have h1 := h.below hb1
  have ht1 := ownsRow_rd hown1
  clear h hown1
  go_wp2_with fail
  refine (uint_any a cap n l pos w1 HN.out (by omega) hp h1).mono ?_
  rintro e _ ⟨hu, rfl⟩
  obtain ⟨v, en, er, rfl, hv, hen⟩ := hu.parts
  have HU := Lib.hid hu
  clear hu hen
  unfold T3
  go_wp2_with fail
  refine (ruint_any a1 c1 n l pos w1 HN.out (by omega) hp ht1).mono ?_
  rintro e w2 ⟨hu2, hb2⟩
  obtain rfl := hu2.unique HU.out
  have bb2 := hb1.trans (hb2.mono hb1.size)
  have h2 := h1.below hb2
  have ht2 := ht1.below hb2
  clear hu2 h1 ht1
  unfold T3
  go_wp2_with fail
  refine (int_any a cap n l pos w2 HN.out (by omega) hp h2).mono ?_
  rintro e _ ⟨⟨v3, en3, er3, hu3, rfl⟩, rfl⟩
  obtain ⟨rfl, rfl, rfl⟩ := T3_inj (hu3.unique HU.out)
  clear hu3
  unfold T3i
  go_wp2_with fail
  refine (rint_any a1 c1 n l pos w2 HN.out (by omega) hp ht2).mono ?_
  rintro e w3 ⟨⟨v4, en4, er4, hu4, rfl⟩, hb3⟩
  obtain ⟨rfl, rfl, rfl⟩ := T3_inj (hu4.unique HU.out)
  have bb3 := bb2.trans (hb3.mono bb2.size)
  have h3 := h2.below hb3
  have ht3 := ht2.below hb3
  clear hu4 h2 ht2
  unfold T3i
  obtain ⟨z, hz⟩ : ∃ z, z = unz v4 := ⟨_, rfl⟩
  rw [← hz]
  clear hz
  go_wp2_with fail
  refine (same_n a a1 cap c1 n n l l w3 HN.out HN.out (by omega) h3 ht3).mono ?_
  rintro e w4 ⟨rfl, hb4⟩
  rw [beq_self_eq_true]
  have i1 := int_eql_self (v4 : Int)
  have i2 := int_eql_self en4
  have i3 := int_eql_self er4
  have i4 := int_eql_self z
  go_wp2
  go_ret
  exact ⟨rfl, bb3.trans (hb4.mono bb3.size)⟩

theorem reads_law {w : World} (a : Option Addr) (n cap : Nat) (l : List UInt8) (hl : l.length = n) (h : Rd w a (l.map B)) (z : n ≤ 140737488351232) (pos : Int) (wp : (Lit.int .i64 pos).wf = true) (w' : World) (hw : w = w') :
    Calls Try.prog 4 #[.slice a n cap, .int .i64 pos] w' fun e W' => e = .returned (.bool true) ∧ Below w'.heap.size w' W' := by
  subst hw
  exact reads_walk a cap n l pos w hl z h (i64_of_wf wp)
#print axioms reads_law
end Go.Proofs.Ytaipnbpefdcejaa
