/- The law WireEncodes at a message that comes in. -/
import Derived.Test.YtaipnbpefdcejaaEncodes
set_option linter.unusedVariables false
namespace Go.Proofs.Ytaipnbpefdcejaa
open Go.RowKit
set_option maxRecDepth 20000 in
theorem encodes_law {H : Type} {enc : TypeId × Value → H} {W : World} {base : Nat} {p : List MemPlace} (v : Value) (d : DataW H) (k : DataW.Trod enc Try.prog W 0 (fun _ => true) true 50 v d p) (o : Value.okWide Try.prog W .any base 50 v) (hb : Rows.uptoBulk d ≤ 1048576) (w' : World) (hw : W = w') :
    Calls Try.prog 6 #[v] w' fun e W' => e = .returned (.bool true) ∧ Below w'.heap.size w' W' := by
  subst hw
  obtain ⟨cs, rfl, _⟩ := WideShapes.okWide_struct Try.underlying50 o
  obtain ⟨m, q, h1, hwf, hr⟩ := open_msg (.inr ⟨cs, rfl⟩) k (by omega)
  rw [h1]
  exact encodes_walk m q W hwf hr
#print axioms encodes_law
end Go.Proofs.Ytaipnbpefdcejaa
