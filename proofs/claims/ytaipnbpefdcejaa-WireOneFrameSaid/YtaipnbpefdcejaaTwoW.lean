/- The laws WireOneFrame and WireUnlike at what comes in. -/
import Derived.Test.YtaipnbpefdcejaaOneF
import Derived.Test.YtaipnbpefdcejaaUnl
import Derived.Test.YtaipnbpefdcejaaMK
set_option linter.unusedVariables false
namespace Go.Proofs.Ytaipnbpefdcejaa
open Go.RowKit
theorem one_law {w : World} (a : Option Addr) (n cap : Nat) (l : List UInt8) (hl : l.length = n) (h : Rd w a (l.map B)) (z : n ≤ 140737488351232) (hc : n ≤ cap) (w' : World) (hw : w = w') :
    Calls Try.prog 9 #[.slice a n cap] w' fun e W' => e = .returned (.bool true) ∧ Below w'.heap.size w' W' := by
  subst hw
  exact one_walk a n cap l w hl (by omega) hc h
set_option maxRecDepth 20000 in
theorem unlike_law {H : Type} {enc : TypeId × Value → H} {W : World} {base : Nat} {p0 p1 : List MemPlace} (v0 : Value) (d0 : DataW H) (k0 : DataW.Trod enc Try.prog W 0 (fun _ => true) true 50 v0 d0 p0) (o0 : Value.okWide Try.prog W .any base 50 v0) (hb0 : Rows.uptoBulk d0 ≤ 1048576)
    (v1 : Value) (d1 : DataW H) (k1 : DataW.Trod enc Try.prog W 0 (fun _ => true) true 50 v1 d1 p1) (o1 : Value.okWide Try.prog W .any base 50 v1) (hb1 : Rows.uptoBulk d1 ≤ 1048576) (w' : World) (hw : W = w') :
    Calls Try.prog 10 #[v0, v1] w' fun e W' => e = .returned (.bool true) ∧ Below w'.heap.size w' W' := by
  subst hw
  obtain ⟨cs0, rfl, _⟩ := WideShapes.okWide_struct Try.underlying50 o0
  obtain ⟨m0, q0, h0, hwf0, hr0⟩ := open_msg (.inr ⟨cs0, rfl⟩) k0 (by omega)
  obtain ⟨cs1, rfl, _⟩ := WideShapes.okWide_struct Try.underlying50 o1
  obtain ⟨m1, q1, h1, hwf1, hr1⟩ := open_msg (.inr ⟨cs1, rfl⟩) k1 (by omega)
  rw [h0, h1]
  exact unlike_walk m0 m1 q0 q1 W hwf0 hwf1 hr0 hr1
#print axioms unlike_law
end Go.Proofs.Ytaipnbpefdcejaa
