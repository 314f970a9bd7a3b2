/- The end of the law WireFresh: numbers are put behind bytes whose spare room stays. In plain Lean: what is needed of it. -/
import Derived.Test.YtaipnbpefdcejaaSpo
import Derived.Test.YtaipnbpefdcejaaDcs
set_option linter.unusedVariables false
namespace Go.Proofs.Ytaipnbpefdcejaa
open Go.RowKit
def roomL : List UInt8 := [1, 2, 3, 4, 5, 6, 7, 8, 9, 10, 11, 12, 13, 14, 15, 16]
theorem roomL_get (j : Nat) (h : j < 16) : roomL[j]? = some (UInt8.ofNat (j + 1)) := by
  have : ∀ j : Fin 16, roomL[j.val]? = some (UInt8.ofNat (j.val + 1)) := by decide
  exact this ⟨j, h⟩
theorem room_cell {w : World} {g : Nat} (h : Rd w (some ⟨g, 0, none⟩) (roomL.map B)) (j : Nat) (hj : j < 16) : w.cell? ⟨g, j, none⟩ = some (.int .u8 ((j : Int) + 1)) := by
  rcases h with h0 | ⟨b, off, h1, hc⟩
  · simp [roomL] at h0
  · cases h1
    have h2 := hc j (B (UInt8.ofNat (j + 1))) (by rw [List.getElem?_map, roomL_get j hj]; rfl)
    rw [Nat.zero_add] at h2
    rw [h2, B, UInt8.toNat_ofNat']
    congr 2
    omega
end Go.Proofs.Ytaipnbpefdcejaa
