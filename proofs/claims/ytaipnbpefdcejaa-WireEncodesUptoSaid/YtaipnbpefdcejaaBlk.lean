/- A block with known cells: reading, writing, what stays. -/
import Derived.Test.YtaipnbpefdcejaaPutU
import Derived.Deep.MidRow
import Derived.Deep.RegionHeld3
set_option linter.unusedVariables false
namespace Go.Proofs.Ytaipnbpefdcejaa
open Go.RowKit

/-- The block g holds the cells cs. -/
def Blk (w : World) (g : Nat) (t : TypeId) (cs : List Value) : Prop := w.heap[g]? = some (.cells cs.toArray t (0, 0))
theorem Blk.lt {w : World} {g : Nat} {t : TypeId} {cs : List Value} (h : Blk w g t cs) : g < w.heap.size := (Array.getElem?_eq_some_iff.1 h).1
theorem Blk.cell {w : World} {g : Nat} {t : TypeId} {cs : List Value} (h : Blk w g t cs) (i : Nat) (hi : i < cs.length) : w.cell? ⟨g, i, none⟩ = some cs[i] := by
  unfold Blk at h
  simp [World.cell?, h, hi]
theorem Blk.frozen {w : World} {g : Nat} {t : TypeId} {cs : List Value} (h : Blk w g t cs) (i : Nat) : w.frozen? ⟨g, i, none⟩ = false := by
  unfold Blk at h
  simp [World.frozen?, h]
theorem Blk.kept {w w' : World} {g : Nat} {t : TypeId} {cs : List Value} {r : Option Nat} (h : Blk w g t cs) (hg : w.grownBy w' r) (hr : some g ≠ r) : Blk w' g t cs := by
  unfold Blk
  rw [hg.block g h.lt hr]
  exact h
theorem Blk.below {w w' : World} {g : Nat} {t : TypeId} {cs : List Value} (h : Blk w g t cs) (hb : Below w.heap.size w w') : Blk w' g t cs := by
  unfold Blk
  rw [hb.block g h.lt]
  exact h
theorem Blk.alloc {w : World} {g : Nat} {t : TypeId} {cs : List Value} (h : Blk w g t cs) (o : Obj) : Blk (w.alloc o) g t cs := h.below ((Below.refl _ _).alloc (Nat.le_refl _) o)
theorem Blk.new (w : World) (cs : List Value) (t : TypeId) : Blk (w.alloc (.cells cs.toArray t)) w.heap.size t cs := heap_alloc_new w _
theorem Blk.rd {w : World} {g : Nat} {t : TypeId} {cs : List Value} (h : Blk w g t cs) : Rd w (some ⟨g, 0, none⟩) cs := by
  refine .inr ⟨g, 0, rfl, fun i u hu => ?_⟩
  obtain ⟨hi, rfl⟩ := List.getElem?_eq_some_iff.1 hu
  rw [Nat.zero_add]
  exact h.cell i hi
theorem Blk.there {w : World} {g : Nat} {t : TypeId} {cs : List Value} (h : Blk w g t cs) (o n : Nat) (hn : o + n ≤ cs.length) : w.there g o n := fun j hj => by
  rw [h.cell (o + j) (by omega), h.frozen]
  exact ⟨rfl, rfl⟩
theorem Blk.range {w : World} {g : Nat} {t : TypeId} {cs : List Value} (h : Blk w g t cs) (o n : Nat) (hn : o + n ≤ cs.length) : w.rangeAt g o ((cs.drop o).take n) := fun j v hv => by
  have hj : j < ((cs.drop o).take n).length := (List.getElem?_eq_some_iff.1 hv).1
  rw [List.length_take, List.length_drop] at hj
  rw [List.getElem?_take_of_lt (by omega), List.getElem?_drop, List.getElem?_eq_getElem (by omega)] at hv
  rw [h.cell (o + j) (by omega)]
  exact hv
/-- Some cells from o on are others. -/
def spl (cs : List Value) (o : Nat) (vs : List Value) : List Value := cs.take o ++ (vs ++ cs.drop (o + vs.length))
theorem spl_len {cs : List Value} {o : Nat} {vs : List Value} (h : o + vs.length ≤ cs.length) : (spl cs o vs).length = cs.length := by
  simp [spl]
  omega
theorem Blk.setCell {w : World} {g : Nat} {t : TypeId} {cs : List Value} (h : Blk w g t cs) (i : Nat) (v : Value) : Blk (w.setCell ⟨g, i, none⟩ v) g t (cs.set i v) ∧ w.grownBy (w.setCell ⟨g, i, none⟩ v) (some g) := by
  have hlt := h.lt
  unfold Blk at h ⊢
  refine ⟨?_, ⟨rfl, rfl, rfl, by simp [World.setCell], fun k hk hne => Below.heap_setCell w ⟨g, i, none⟩ v k (fun e => hne (by rw [e]))⟩⟩
  simp [World.setCell, Array.getElem?_modify, h, List.setIfInBounds_toArray]
theorem spl_nil (cs : List Value) (o : Nat) : spl cs o [] = cs := by simp [spl]
theorem spl_cons {cs : List Value} {o : Nat} {v : Value} {vs : List Value} (h : o + (v :: vs).length ≤ cs.length) : spl (cs.set o v) (o + 1) vs = spl cs o (v :: vs) := by
  simp only [List.length_cons] at h
  unfold spl
  rw [List.take_set, List.drop_set_of_lt (by omega), List.take_succ_eq_append_getElem (by omega), List.set_append_right _ _ (by rw [List.length_take]; omega), List.length_take, Nat.min_eq_left (by omega), Nat.sub_self]
  simp only [List.set_cons_zero, List.append_assoc, List.length_cons]
  rw [show o + 1 + vs.length = o + (vs.length + 1) by omega]
  rfl
theorem Blk.setCells {g : Nat} {t : TypeId} (vs : List Value) : ∀ (o : Nat) (cs : List Value) (w : World), Blk w g t cs → o + vs.length ≤ cs.length → Blk (w.setCells g o vs) g t (spl cs o vs) ∧ w.grownBy (w.setCells g o vs) (some g) := by
  induction vs with
  | nil =>
    intro o cs w h _
    rw [spl_nil]
    exact ⟨h, ⟨rfl, rfl, rfl, Nat.le_refl _, fun _ _ _ => rfl⟩⟩
  | cons v vs ih =>
    intro o cs w h hl
    have h1 := h.setCell o v
    obtain ⟨h2, h3⟩ := ih (o + 1) _ _ h1.1 (by simp only [List.length_cons, List.length_set] at hl ⊢; omega)
    rw [spl_cons hl] at h2
    refine ⟨h2, ⟨h3.os.trans h1.2.os, h3.tape.trans h1.2.tape, h3.output.trans h1.2.output, Nat.le_trans h1.2.size h3.size, fun k hk hn => ?_⟩⟩
    have := h3.block k (Nat.lt_of_lt_of_le hk h1.2.size) hn
    exact this.trans (h1.2.block k hk hn)
#print axioms Blk.setCells
end Go.Proofs.Ytaipnbpefdcejaa
