/- The law WireFresh at what comes in. -/
import Derived.Test.YtaipnbpefdcejaaFre
import Derived.Test.YtaipnbpefdcejaaMK
set_option linter.unusedVariables false
namespace Go.Proofs.Ytaipnbpefdcejaa
open Go.RowKit
theorem u64_nat {x : Int} (wx : (Lit.int .u64 x).wf = true) : ∃ N : Nat, x = (N : Int) ∧ N < 18446744073709551616 := by
  simp [Lit.wf, IntKind.min, IntKind.max, IntKind.bits, IntKind.signed] at wx
  exact ⟨x.toNat, by omega, by omega⟩
set_option maxRecDepth 20000 in
theorem fresh_law {H : Type} {enc : TypeId × Value → H} {W : World} {base : Nat} {p0 p1 : List MemPlace} (v0 : Value) (d0 : DataW H) (k0 : DataW.Trod enc Try.prog W 0 (fun _ => true) true 50 v0 d0 p0) (o0 : Value.okWide Try.prog W .any base 50 v0) (hb0 : Rows.uptoBulk d0 ≤ 1048576)
    (v1 : Value) (d1 : DataW H) (k1 : DataW.Trod enc Try.prog W 0 (fun _ => true) true 50 v1 d1 p1) (o1 : Value.okWide Try.prog W .any base 50 v1) (hb1 : Rows.uptoBulk d1 ≤ 1048576) (x : Int) (wx : (Lit.int .u64 x).wf = true) (w' : World) (hw : W = w') :
    Calls Try.prog 13 #[v0, v1, .int .u64 x] w' fun e W' => e = .returned (.bool true) ∧ Below w'.heap.size w' W' := by
  subst hw
  obtain ⟨cs0, rfl, _⟩ := WideShapes.okWide_struct Try.underlying50 o0
  obtain ⟨m0, q0, h0, hwf0, hr0⟩ := open_msg (.inr ⟨cs0, rfl⟩) k0 (by omega)
  obtain ⟨cs1, rfl, _⟩ := WideShapes.okWide_struct Try.underlying50 o1
  obtain ⟨m1, q1, h1, hwf1, hr1⟩ := open_msg (.inr ⟨cs1, rfl⟩) k1 (by omega)
  obtain ⟨N, rfl, hN⟩ := u64_nat wx
  rw [h0, h1]
  exact fresh_walk m0 m1 q0 q1 N W hN hwf0 hwf1 hr0 hr1
#print axioms fresh_law
end Go.Proofs.Ytaipnbpefdcejaa
