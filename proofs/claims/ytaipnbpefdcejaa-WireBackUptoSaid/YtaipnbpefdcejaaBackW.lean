/- The law WireBack at what comes in. -/
import Derived.Test.YtaipnbpefdcejaaBack
import Derived.Test.YtaipnbpefdcejaaMK
set_option linter.unusedVariables false
namespace Go.Proofs.Ytaipnbpefdcejaa
open Go.RowKit
set_option maxRecDepth 20000 in
theorem back_law {H : Type} {enc : TypeId × Value → H} {W : World} {base : Nat} {p : List MemPlace} (v : Value) (d : DataW H) (k : DataW.Trod enc Try.prog W 0 (fun _ => true) true 50 v d p) (o : Value.okWide Try.prog W .any base 50 v) (hb : Rows.uptoBulk d ≤ 1073741824)
    (a : Option Addr) (n cap : Nat) (l : List UInt8) (hl : l.length = n) (h : Rd W a (l.map B)) (z : n ≤ 1073741824) (hc : n ≤ cap) (x : Int) (wx : (Lit.int .i64 x).wf = true) (w' : World) (hw : W = w') :
    Calls Try.prog 8 #[v, .slice a n cap, .int .i64 x] w' fun e W' => e = .returned (.bool true) ∧ Below w'.heap.size w' W' := by
  subst hw
  obtain ⟨cs, rfl, _⟩ := WideShapes.okWide_struct Try.underlying50 o
  obtain ⟨m, q, h1, hwf, hr⟩ := open_msg (.inr ⟨cs, rfl⟩) k (by omega)
  rw [h1]
  exact back_walk m q a n cap l x W hwf hr hl z hc h (i64_of wx)
#print axioms back_law
end Go.Proofs.Ytaipnbpefdcejaa
