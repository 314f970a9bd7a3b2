/- What apart keeps: pairs of slices apart from one another. -/
import Derived.Test.YtiebnfdjnclkcaaW13
set_option linter.unusedVariables false
namespace Go.Proofs.Ytiebnfdjnclkcaa
open Go.RowKit

/-- A slice that is handed to apart. -/
structure It where
  a : Option Addr
  n : Nat
  c : Nat
def It.val (t : It) : Value := .slice t.a t.n t.c
def It.Own (w : World) (base : Nat) (t : It) : Prop := ∃ l : List UInt8, l.length = t.n ∧ w.ownsRow base 5 1 (.slice t.a t.n t.c) t.n (l.map B)

theorem own22_kept {w w' : World} {base base2 n c m : Nat} {al a : Option Addr} {vs xs : List Value} (h : w.ownsRow base2 22 1 (.slice al n c) n vs) (h2 : OwnA w base a m xs) (hg : w.grownBy w' (blk a)) : w'.ownsRow base2 22 1 (.slice al n c) n vs := by
  obtain ⟨c2, h2⟩ := h2
  have := own_ne h h2 (by decide)
  rw [own_blk h2] at this
  exact h.kept hg this
def TwoOk (w : World) (base N k : Nat) (ts : List It) (T : Nat → Two) : Prop :=
  (∀ i (h : i < ts.length), (T i).a = ts[i].a ∧ (T i).n = ts[i].n) ∧ (∀ i, i < ts.length → (T i).Held w base) ∧ (∀ i j, i < ts.length → j < ts.length → i ≠ j → (T i).Off2 (T j)) ∧
    (∀ i (h : i < ts.length), k ≤ i → (T i).b = (T i).a ∧ ts[i].Own w base)
def LongAt (vs : List Value) (k : Nat) (T : Nat → Two) : Prop := vs.length = k ∧ ∀ i, i < k → ∃ c, vs[i]? = some (.slice (T i).b (T i).m c) ∧ (T i).m ≤ 4294967400 ∧ (T i).m ≤ c

def T0 (ts : List It) (i : Nat) : Two := match ts[i]? with
  | some t => ⟨t.a, t.n, t.a, t.n⟩
  | none => ⟨none, 0, none, 0⟩
theorem T0_at {ts : List It} {i : Nat} (h : i < ts.length) : T0 ts i = ⟨ts[i].a, ts[i].n, ts[i].a, ts[i].n⟩ := by simp [T0, h]
theorem It.Own.ownA {w : World} {base : Nat} {t : It} (h : t.Own w base) : ∃ xs, OwnA w base t.a t.n xs := by
  obtain ⟨l, _, h⟩ := h; exact ⟨_, t.c, h⟩
theorem OwnA.none_zero {w : World} {base n : Nat} {a : Option Addr} {xs : List Value} (h : OwnA w base a n xs) : a = none → n = 0 := by
  intro ha
  obtain ⟨c, h⟩ := h
  rcases h.2 with ⟨_, h1⟩ | ⟨g, cap, cur, h1, _⟩
  · exact h1
  · subst ha; cases h1
theorem TwoOk.start {w : World} {base N : Nat} {ts : List It} (hown : ∀ t ∈ ts, t.Own w base) (hoff : ∀ i j (hi : i < ts.length) (hj : j < ts.length), i ≠ j → Off ts[i].a ts[j].a) : TwoOk w base N 0 ts (T0 ts) := by
  refine ⟨fun i h => by rw [T0_at h]; exact ⟨rfl, rfl⟩, fun i h => ?_, fun i j h1 h2 hne => ?_, fun i h _ => ⟨by rw [T0_at h], hown _ (List.getElem_mem h)⟩⟩
  · rw [T0_at h]
    obtain ⟨xs, hx⟩ := (hown _ (List.getElem_mem h)).ownA
    exact ⟨⟨xs, hx⟩, ⟨xs, hx⟩, Nat.le_refl _, hx.none_zero, .inl rfl⟩
  · rw [T0_at h1, T0_at h2]
    have := hoff i j h1 h2 hne
    exact ⟨this, this, this, this⟩
/-- One list more has its longer one. -/
def upd (T : Nat → Two) (k : Nat) (t : Two) (i : Nat) : Two := if i = k then t else T i
theorem upd_same (T : Nat → Two) (k : Nat) (t : Two) : upd T k t k = t := by simp [upd]
theorem upd_other (T : Nat → Two) {k i : Nat} (t : Two) (h : i ≠ k) : upd T k t i = T i := by simp [upd, h]
theorem It.Own.kept {w w' : World} {base : Nat} {t : It} {r : Option Nat} (h : t.Own w base) (hg : w.grownBy w' r) (hne : blk t.a = none ∨ blk t.a ≠ r) : t.Own w' base := by
  obtain ⟨l, h1, h2⟩ := h
  exact ⟨l, h1, h2.kept hg (by rw [own_blk h2]; exact hne)⟩
theorem TwoOk.step {w w2 : World} {base N k m : Nat} {ts : List It} {T : Nat → Two} {b : Option Addr} {c1 : Nat} {xs ys : List Value} (hk : k < ts.length) (h : TwoOk w base N k ts T) (hl : Lng base ts[k].a ts[k].n xs w w2 b m c1 ys) (hm : ts[k].n ≤ m) :
    TwoOk w2 base N (k + 1) ts (upd T k ⟨ts[k].a, ts[k].n, b, m⟩) := by
  obtain ⟨h1, h2, h3, h4⟩ := h
  obtain ⟨l1, l2, l3, l4⟩ := hl
  have hTa := (h1 k hk).1
  have hsz : ∀ i, i < ts.length → ∀ g, blk (T i).a = some g ∨ blk (T i).b = some g → g < w.heap.size := by
    intro i hi g hg
    obtain ⟨⟨x, hx⟩, ⟨y, hy⟩, _⟩ := h2 i hi
    rcases hg with hg | hg
    · exact (hx.lt g hg).2
    · exact (hy.lt g hg).2
  have hob : ∀ i, i < ts.length → i ≠ k → Off b (T i).a ∧ Off b (T i).b := by
    intro i hi hik
    have ho := h3 k i hk hi (Ne.symm hik)
    rcases l4 with e | ⟨g, hg, e⟩
    · have ho1 := ho.1
      have ho2 := ho.2.1
      rw [hTa] at ho1 ho2
      unfold Off at ho1 ho2 ⊢
      rw [e]
      exact ⟨ho1, ho2⟩
    · unfold Off
      rw [e]
      refine ⟨.inr fun e2 => ?_, .inr fun e2 => ?_⟩
      · have := hsz i hi g (.inl e2.symm); omega
      · have := hsz i hi g (.inr e2.symm); omega
  refine ⟨fun i hi => ?_, fun i hi => ?_, fun i j hi hj hne => ?_, fun i hi hle => ?_⟩
  · by_cases e : i = k
    · subst e; rw [upd_same]; exact ⟨rfl, rfl⟩
    · rw [upd_other _ _ e]; exact h1 i hi
  · by_cases e : i = k
    · subst e
      rw [upd_same]
      refine ⟨⟨_, l2⟩, ⟨_, c1, l1⟩, hm, l2.none_zero, ?_⟩
      rcases l4 with e | ⟨g, hg, e⟩
      · exact .inl e.symm
      · right
        show Off ts[i].a b
        unfold Off
        rw [e]
        cases hb : blk ts[i].a with
        | none => exact .inl rfl
        | some g2 =>
          right
          have := hsz i hk g2 (.inl (by rw [hTa]; exact hb))
          intro e2; cases e2; omega
    · rw [upd_other _ _ e]
      have ho := h3 i k hi hk e
      refine (h2 i hi).kept (p := ts[k].a) l3 ?_ ?_
      · have := ho.1; rw [hTa] at this; exact this
      · have := ho.2.2.1; rw [hTa] at this; exact this
  · by_cases e : i = k
    · subst e
      rw [upd_same, upd_other _ _ (Ne.symm hne)]
      have ho := h3 i j hi hj hne
      have hb := hob j hj (Ne.symm hne)
      have ho1 := ho.1
      have ho2 := ho.2.1
      rw [hTa] at ho1 ho2
      exact ⟨ho1, ho2, hb.1, hb.2⟩
    · by_cases e2 : j = k
      · subst e2
        rw [upd_same, upd_other _ _ e]
        have ho := h3 i j hi hj hne
        have hb := hob i hi e
        have ho1 := ho.1
        have ho3 := ho.2.2.1
        rw [hTa] at ho1 ho3
        exact ⟨ho1, hb.1.symm, ho3, hb.2.symm⟩
      · rw [upd_other _ _ e, upd_other _ _ e2]; exact h3 i j hi hj hne
  · have e : i ≠ k := by omega
    rw [upd_other _ _ e]
    obtain ⟨g1, g2⟩ := h4 i hi (by omega)
    refine ⟨g1, g2.kept l3 ?_⟩
    have ho := (h3 i k hi hk e).1
    rw [(h1 i hi).1, hTa] at ho
    exact ho

#print axioms TwoOk.step
end Go.Proofs.Ytiebnfdjnclkcaa
