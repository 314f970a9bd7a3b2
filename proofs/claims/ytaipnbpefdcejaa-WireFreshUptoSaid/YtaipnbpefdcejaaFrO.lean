/- Rows of bytes that are written into, and what stays beside them. For the law WireFresh. In plain Lean. -/
import Derived.Test.YtaipnbpefdcejaaFrB
set_option linter.unusedVariables false
namespace Go.Proofs.Ytaipnbpefdcejaa
open Go.RowKit
/-- The block of a row that is not empty. -/
def SB (a : Option Addr) (n : Nat) (k : Nat) : Prop := 0 < n ∧ ∃ x : Addr, a = some x ∧ x.block = k
/-- A row of bytes of our own. -/
def ORow (base : Nat) (w : World) (a : Option Addr) (n : Nat) (L : List UInt8) : Prop :=
  L.length = n ∧ (n = 0 ∨ ∃ g cs, a = some ⟨g, 0, none⟩ ∧ base ≤ g ∧ Blk w g 5 cs ∧ n ≤ cs.length ∧ cs.take n = L.map B)
theorem ORow.of_own {base n c : Nat} {w : World} {a : Option Addr} {L : List UInt8} (h : w.ownsRow base 5 1 (.slice a n c) n (L.map B)) (hL : L.length = n) : ORow base w a n L := by
  refine ⟨hL, ?_⟩
  rcases Nat.eq_zero_or_pos n with h0 | h0
  · exact .inl h0
  · obtain ⟨g, cs, e1, e2, e3, e4⟩ := own_form3 h h0
    refine .inr ⟨g, cs, e1, ?_, e2, by omega, by rw [Nat.mul_one] at e4; exact e4⟩
    obtain ⟨g2, _, e5, _, _, e6⟩ := own_form2 h h0
    rw [e1] at e5
    cases e5
    exact e6
theorem ORow.rd {base n : Nat} {w : World} {a : Option Addr} {L : List UInt8} (h : ORow base w a n L) : Rd w a (L.map B) := by
  rcases h.2 with h0 | ⟨g, cs, rfl, hb, hk, hn, ht⟩
  · have : L = [] := List.eq_nil_of_length_eq_zero (h.1.trans h0)
    subst this
    exact .inl rfl
  · refine .inr ⟨g, 0, rfl, fun i u hu => ?_⟩
    rw [← ht] at hu
    obtain ⟨hi, e⟩ := List.getElem?_eq_some_iff.1 hu
    rw [List.length_take] at hi
    rw [List.getElem_take] at e
    rw [Nat.zero_add, hk.cell i (by omega), e]
theorem ORow.below {base n : Nat} {w w' : World} {a : Option Addr} {L : List UInt8} (h : ORow base w a n L) (hb : Below w.heap.size w w') : ORow base w' a n L := by
  refine ⟨h.1, ?_⟩
  rcases h.2 with h0 | ⟨g, cs, e1, e2, hk, e3⟩
  · exact .inl h0
  · exact .inr ⟨g, cs, e1, e2, hk.below hb, e3⟩
theorem Offs.blk {S : Nat → Prop} {w w' : World} {g : Nat} {t : TypeId} {cs : List Value} (h : Offs S w w') (hk : Blk w g t cs) (hg : ¬ S g) : Blk w' g t cs := by
  unfold Blk
  rw [h.block g hk.lt hg]
  exact hk
theorem Offs.mono {S S' : Nat → Prop} {w w' : World} (h : Offs S w w') (hs : ∀ k, S k → S' k) : Offs S' w w' := ⟨h.os, h.tape, h.output, h.size, fun k hk hn => h.block k hk (fun g => hn (hs k g))⟩
theorem Offs.trans {S : Nat → Prop} {w w1 w2 : World} (h : Offs S w w1) (g : Offs S w1 w2) : Offs S w w2 := ⟨g.os.trans h.os, g.tape.trans h.tape, g.output.trans h.output, Nat.le_trans h.size g.size, fun k hk hn => (g.block k (Nat.lt_of_lt_of_le hk h.size) hn).trans (h.block k hk hn)⟩
theorem ORow.offs {base n : Nat} {w w' : World} {a : Option Addr} {L : List UInt8} {S : Nat → Prop} (h : ORow base w a n L) (ho : Offs S w w') (hn : ∀ k, SB a n k → ¬ S k) : ORow base w' a n L := by
  refine ⟨h.1, ?_⟩
  rcases h.2 with h0 | ⟨g, cs, e1, e2, hk, e3⟩
  · exact .inl h0
  · rcases Nat.eq_zero_or_pos n with h0 | h0
    · exact .inl h0
    · exact .inr ⟨g, cs, e1, e2, ho.blk hk (hn g ⟨h0, _, e1, rfl⟩), e3⟩
theorem ORow.rng {base n k : Nat} {w : World} {a : Option Addr} {L : List UInt8} (h : ORow base w a n L) (hk : SB a n k) : base ≤ k ∧ k < w.heap.size := by
  obtain ⟨h0, x, hx, rfl⟩ := hk
  rcases h.2 with h1 | ⟨g, cs, e1, e2, hk, e3⟩
  · omega
  · rw [hx] at e1
    cases e1
    exact ⟨e2, hk.lt⟩
theorem take_set_map {cs : List Value} {L : List UInt8} {n j : Nat} {u : UInt8} (ht : cs.take n = L.map B) : (cs.set j (B u)).take n = (L.set j u).map B := by
  rw [List.take_set, ht, List.map_set]
/-- A cell of the row, and what is there when it has been written. -/
theorem ORow.open {base n : Nat} {w : World} {a : Option Addr} {L : List UInt8} (h : ORow base w a n L) (j : Nat) (hj : j < n) :
    ∃ g x, a = some ⟨g, 0, none⟩ ∧ w.cell? ⟨g, j, none⟩ = some (.int .u8 x) ∧ 0 ≤ x ∧ x < 256 ∧ (∀ u : UInt8, L[j]? = some u → x = (u.toNat : Int)) ∧ w.frozen? ⟨g, j, none⟩ = false ∧
      ∀ (y : Int), 0 ≤ y → y < 256 → ORow base (w.setCell ⟨g, j, none⟩ (.int .u8 y)) a n (L.set j (UInt8.ofNat y.toNat)) ∧ w.grownBy (w.setCell ⟨g, j, none⟩ (.int .u8 y)) (some g) := by
  rcases h.2 with h0 | ⟨g, cs, rfl, hb, hk, hn, ht⟩
  · omega
  · have hjL : j < L.length := by rw [h.1]; exact hj
    have hc := hk.cell j (by omega)
    have h1 : cs[j] = B L[j] := by
      have h2 : (cs.take n)[j]? = (L.map B)[j]? := by rw [ht]
      rw [List.getElem?_take_of_lt hj, List.getElem?_map, List.getElem?_eq_getElem hjL, List.getElem?_eq_getElem (by omega)] at h2
      simpa using h2
    rw [h1] at hc
    refine ⟨g, (L[j].toNat : Int), rfl, hc, by omega, by have := L[j].toNat_lt; omega, ?_, hk.frozen j, ?_⟩
    · intro u hu
      rw [List.getElem?_eq_getElem hjL] at hu
      cases hu
      rfl
    · intro y hy0 hy1
      have he : Value.int .u8 y = B (UInt8.ofNat y.toNat) := by
        rw [B, UInt8.toNat_ofNat']
        congr 1
        omega
      rw [he]
      have hs := hk.setCell j (B (UInt8.ofNat y.toNat))
      exact ⟨⟨by rw [List.length_set]; exact h.1, .inr ⟨g, _, rfl, hb, hs.1, by rw [List.length_set]; exact hn, take_set_map ht⟩⟩, hs.2⟩
theorem SB.mk' {a : Option Addr} {n g j : Nat} (ha : a = some ⟨g, 0, none⟩) (hj : j < n) : SB a n g := ⟨by omega, _, ha, rfl⟩
theorem wrap_u8_rng (y : Int) : 0 ≤ IntKind.u8.wrap y ∧ IntKind.u8.wrap y < 256 := by
  rw [IntKind.wrap_u8]
  omega
theorem wfImg {m : M} (h : WfM m) (L : List UInt8) (hl : L.length = m.image.length) : WfM { m with image := L } := by
  obtain ⟨k1, k2, k3, k4, k5, k6, k7, k8, k9, k10, k11, k12, k13, k14, k15, k16, k17, k18, k19, k20, k21, k22, k23, k24, k25, k26, k27, k28, k29⟩ := h
  constructor <;> (try assumption)
  rw [hl]; assumption
theorem img_set {m : M} {q : Ps} (L : List UInt8) (hl : L.length = m.image.length) (a : Option Addr) (c : Nat) : (cellsM m q).set 30 (.slice a m.image.length c) = cellsM { m with image := L } { q with ai := a, ci := c } := by
  unfold cellsM
  rw [← hl]
  rfl
end Go.Proofs.Ytaipnbpefdcejaa
