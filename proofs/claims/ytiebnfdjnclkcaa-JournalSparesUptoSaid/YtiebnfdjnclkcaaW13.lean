/- Pairs of slices (a list and its longer one) that share no block with one another: what a fill does to them. -/
import Derived.Test.YtiebnfdjnclkcaaW12
set_option linter.unusedVariables false
namespace Go.Proofs.Ytiebnfdjnclkcaa
open Go.RowKit

/-- No block in common. -/
def Off (p q : Option Addr) : Prop := blk p = none ∨ blk p ≠ blk q
theorem Off.symm {p q : Option Addr} (h : Off p q) : Off q p := by
  unfold Off at h ⊢
  rcases h with h | h
  · cases hq : blk q with
    | none => exact .inl rfl
    | some k => right; rw [h]; simp
  · exact .inr (fun e => h e.symm)
/-- A list and its longer one: in one block, or in unlike ones. -/
structure Two where
  a : Option Addr
  n : Nat
  b : Option Addr
  m : Nat
/-- Both are owned. -/
def Two.Held (w : World) (base : Nat) (t : Two) : Prop := (∃ xs, OwnA w base t.a t.n xs) ∧ (∃ ys, OwnA w base t.b t.m ys) ∧ t.n ≤ t.m ∧ (t.a = none → t.n = 0) ∧ (blk t.a = blk t.b ∨ Off t.a t.b)
/-- Both are full of u. -/
def Two.Full (w : World) (base : Nat) (u : UInt8) (t : Two) : Prop := OwnA w base t.a t.n ((List.replicate t.n u).map B) ∧ OwnA w base t.b t.m ((List.replicate t.m u).map B)
/-- Nothing in common with another one. -/
def Two.Off2 (s t : Two) : Prop := Off s.a t.a ∧ Off s.a t.b ∧ Off s.b t.a ∧ Off s.b t.b

theorem Two.Held.kept {w w' : World} {base : Nat} {t : Two} {p : Option Addr} (h : t.Held w base) (hg : w.grownBy w' (blk p)) (h1 : Off t.a p) (h2 : Off t.b p) : t.Held w' base := by
  obtain ⟨⟨xs, hx⟩, ⟨ys, hy⟩, h3⟩ := h
  exact ⟨⟨xs, hx.kept hg h1⟩, ⟨ys, hy.kept hg h2⟩, h3⟩
theorem Two.Full.kept {w w' : World} {base : Nat} {u : UInt8} {t : Two} {p : Option Addr} (h : t.Full w base u) (hg : w.grownBy w' (blk p)) (h1 : Off t.a p) (h2 : Off t.b p) : t.Full w' base u :=
  ⟨h.1.kept hg h1, h.2.kept hg h2⟩
/-- An owned slice lies at the beginning of its block. -/
theorem OwnA.addr {w : World} {base n : Nat} {a : Option Addr} {xs : List Value} (h : OwnA w base a n xs) : a = (blk a).map fun g => ⟨g, 0, none⟩ := by
  obtain ⟨c, h⟩ := h
  exact own_addr h
/-- What a fill of one slice brings. -/
def Filled (base : Nat) (a : Option Addr) (n : Nat) (u : UInt8) (w w' : World) : Prop :=
  OwnA w' base a n ((List.replicate n u).map B) ∧ w.grownBy w' (blk a) ∧ (∀ m ys, OwnA w base a m ys → ∃ zs, OwnA w' base a m zs)
/-- The list is filled: both are still owned. -/
theorem Two.Held.fill_a {w w' : World} {base : Nat} {t : Two} {u : UInt8} (h : t.Held w base) (hf : Filled base t.a t.n u w w') : t.Held w' base := by
  obtain ⟨_, ⟨ys, hy⟩, h3, h4, h5⟩ := h
  obtain ⟨f1, f2, f3⟩ := hf
  refine ⟨⟨_, f1⟩, ?_, h3, h4, h5⟩
  rcases h5 with h5 | h5
  · by_cases hn : blk t.b = none
    · exact ⟨ys, hy.kept f2 (.inl hn)⟩
    · obtain ⟨xs, hx⟩ := (show ∃ xs, OwnA w' base t.a t.n xs from ⟨_, f1⟩)
      have e : t.a = t.b := by rw [hx.addr, hy.addr, h5]
      rw [← e] at hy ⊢
      exact f3 _ _ hy
  · exact ⟨ys, hy.kept f2 h5.symm⟩
/-- The list and then the longer one are filled: both are full. -/
theorem Two.Held.fill_b {w w1 w2 : World} {base : Nat} {t : Two} {u : UInt8} (h : t.Held w base) (hf : Filled base t.a t.n u w w1) (hf2 : Filled base t.b t.m u w1 w2) : t.Held w2 base ∧ t.Full w2 base u := by
  obtain ⟨_, ⟨ys, hy⟩, h3, h4, h5⟩ := h
  obtain ⟨f1, f2, f3⟩ := hf
  obtain ⟨g1, g2, g3⟩ := hf2
  have key : OwnA w2 base t.a t.n ((List.replicate t.n u).map B) := by
    rcases h5 with h6 | h6
    · by_cases hn : blk t.a = none
      · exact f1.kept g2 (.inl hn)
      · have e : t.a = t.b := by rw [f1.addr, g1.addr, h6]
        obtain ⟨c, gg⟩ := g1
        have e2 : (List.replicate t.m u).map B = (List.replicate t.n u).map B ++ (List.replicate (t.m - t.n) u).map B := by
          rw [← List.map_append, List.replicate_append_replicate, Nat.add_sub_cancel' h3]
        rw [e2] at gg
        have h7 := own_prefix gg (by rw [← e]; intro h8; apply hn; rw [h8]; rfl)
        rw [← e] at h7
        simpa using h7
    · exact f1.kept g2 h6
  exact ⟨⟨⟨_, key⟩, ⟨_, g1⟩, h3, h4, h5⟩, key, g1⟩
#print axioms Two.Held.fill_b
end Go.Proofs.Ytiebnfdjnclkcaa
