/- The walk of WireNames. -/
import Derived.Test.YtaipnbpefdcejaaRows
import Derived.Test.YtaipnbpefdcejaaLib
set_option linter.unusedVariables false
namespace Go.Proofs.Ytaipnbpefdcejaa
open Go.RowKit
theorem ret_val {v : Value} {b : Bool} (h : v = .bool b) : Ending.returned v = Ending.returned (.bool b) := by rw [h]
theorem names_walk (w : World) : Calls Try.prog 3 #[] w fun e w' => e = .returned (.bool true) ∧ Below w.heap.size w w' := by
  go_enter Try.func3, Try.ntmps3
  go_wp2
  go_ret
  exact ⟨rfl, Below.refl _ _⟩
theorem names_law (W w : World) (h : W = w) : Calls Try.prog 3 #[] w fun e w' => e = .returned (.bool true) ∧ Below w.heap.size w w' := names_walk w
#print axioms names_law
end Go.Proofs.Ytaipnbpefdcejaa
