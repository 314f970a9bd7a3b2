/- What apart keeps, further: the list of the longer ones grows; fills. -/
import Derived.Test.YtiebnfdjnclkcaaW14
set_option linter.unusedVariables false
namespace Go.Proofs.Ytiebnfdjnclkcaa
open Go.RowKit

theorem grown_weak {w w' : World} (r : Option Nat) (h : w.grownBy w' (none : Option Nat)) : w.grownBy w' r :=
  ⟨h.os, h.tape, h.output, h.size, fun k hk _ => h.block k hk (by simp)⟩
theorem grown_trans2 {w1 w2 w3 : World} {r : Option Nat} (h : w1.grownBy w2 r) (g : w2.grownBy w3 r) : w1.grownBy w3 r :=
  ⟨g.os.trans h.os, g.tape.trans h.tape, g.output.trans h.output, Nat.le_trans h.size g.size, fun k hk hn => (g.block k (Nat.lt_of_lt_of_le hk h.size) hn).trans (h.block k hk hn)⟩
/-- A slice that moved: what was turned, and where it is now. -/
theorem moved_grown {wr w2 : World} {o : Obj} {v v2 : Value} (hm : Moved (wr.alloc o) w2 v v2) (hv : ∀ k, v.ownBlock = some k → k < wr.heap.size) : wr.grownBy w2 v.ownBlock ∧ (v2.ownBlock = v.ownBlock ∨ ∃ g, wr.heap.size ≤ g ∧ v2.ownBlock = some g) := by
  have hbo : Below wr.heap.size wr (wr.alloc o) := (Below.refl _ _).alloc (Nat.le_refl _) o
  have hal : ∀ r, wr.grownBy (wr.alloc o) r := fun r => ⟨hbo.os, hbo.tape, hbo.output, hbo.size, fun k hk _ => hbo.block k hk⟩
  rcases hm with ⟨e, hg⟩ | ⟨hg, e⟩
  · exact ⟨grown_trans2 (hal _) hg, .inl e⟩
  · exact ⟨grown_trans2 (hal _) (grown_weak _ hg), .inr ⟨_, hbo.size, e⟩⟩
theorem TwoOk.kept {w w' : World} {base N k : Nat} {ts : List It} {T : Nat → Two} {r : Option Nat} (h : TwoOk w base N k ts T) (hg : w.grownBy w' r) (hr : ∀ p n xs, OwnA w base p n xs → blk p = none ∨ blk p ≠ r) : TwoOk w' base N k ts T := by
  obtain ⟨h1, h2, h3, h4⟩ := h
  refine ⟨h1, fun i hi => ?_, h3, fun i hi hle => ?_⟩
  · obtain ⟨⟨xs, hx⟩, ⟨ys, hy⟩, h5⟩ := h2 i hi
    exact ⟨⟨xs, hx.kept hg (hr _ _ _ hx)⟩, ⟨ys, hy.kept hg (hr _ _ _ hy)⟩, h5⟩
  · obtain ⟨e, ho⟩ := h4 i hi hle
    obtain ⟨xs, hx⟩ := ho.ownA
    exact ⟨e, ho.kept hg (hr _ _ _ hx)⟩
theorem LongAt.step {vs : List Value} {k : Nat} {T : Nat → Two} (h : LongAt vs k T) (t : Two) (c : Nat) (ht : t.m ≤ 4294967400) (hc : t.m ≤ c) : LongAt (vs ++ [.slice t.b t.m c]) (k + 1) (upd T k t) := by
  obtain ⟨hl, h⟩ := h
  refine ⟨by simp [hl], fun i hi => ?_⟩
  by_cases e : i = k
  · subst e
    rw [upd_same]
    exact ⟨c, by rw [List.getElem?_append_right (by omega), hl, Nat.sub_self]; rfl, ht, hc⟩
  · obtain ⟨c2, h2, h3⟩ := h i (by omega)
    rw [upd_other _ _ e]
    exact ⟨c2, by rw [List.getElem?_append_left (by omega)]; exact h2, h3⟩
/-- A row of slices of bytes has no block of bytes. -/
theorem own22_off {w : World} {base base2 n : Nat} {v : Value} {vs : List Value} (h : w.ownsRow base2 22 1 v n vs) : ∀ p m xs, OwnA w base p m xs → blk p = none ∨ blk p ≠ v.ownBlock := by
  rintro p m xs ⟨c, h2⟩
  have := own_ne h2 h (by decide)
  rw [own_blk h2] at this
  exact this

/-- All pairs are held, those of F full of what F says. -/
def Sets (w : World) (base N : Nat) (T : Nat → Two) (F : Nat → Option UInt8) : Prop :=
  (∀ i, i < N → (T i).Held w base) ∧ ∀ i u, i < N → F i = some u → (T i).Full w base u
def updF (F : Nat → Option UInt8) (k : Nat) (u : UInt8) (i : Nat) : Option UInt8 := if i = k then some u else F i
def AllOff (N : Nat) (T : Nat → Two) : Prop := ∀ i j, i < N → j < N → i ≠ j → (T i).Off2 (T j)
theorem Sets.fill {w w1 w2 : World} {base N k : Nat} {T : Nat → Two} {F : Nat → Option UInt8} {u : UInt8} (h : Sets w base N T F) (ho : AllOff N T) (hk : k < N)
    (h1 : Filled base (T k).a (T k).n u w w1) (h2 : Filled base (T k).b (T k).m u w1 w2) : Sets w2 base N T (updF F k u) := by
  obtain ⟨hh, hf⟩ := h
  have hkk := (hh k hk).fill_b h1 h2
  refine ⟨fun i hi => ?_, fun i v hi hv => ?_⟩
  · by_cases e : i = k
    · subst e; exact hkk.1
    · obtain ⟨o1, o2, o3, o4⟩ := ho i k hi hk e
      exact ((hh i hi).kept h1.2.1 o1 o3).kept h2.2.1 o2 o4
  · by_cases e : i = k
    · subst e
      simp [updF] at hv
      subst hv
      exact hkk.2
    · obtain ⟨o1, o2, o3, o4⟩ := ho i k hi hk e
      have hv2 : F i = some v := by simpa [updF, e] using hv
      exact ((hf i v hi hv2).kept h1.2.1 o1 o3).kept h2.2.1 o2 o4
/-- What a fill leaves of rows of slices, and of old memory. -/
theorem Filled.row {base base2 n N : Nat} {a : Option Addr} {u : UInt8} {w w' : World} {v : Value} {vs xs : List Value} (h : Filled base a n u w w') (ha : OwnA w base a n xs) (hv : w.ownsRow base2 22 1 v N vs) : w'.ownsRow base2 22 1 v N vs := by
  obtain ⟨c, ha⟩ := ha
  have := own_ne hv ha (by decide)
  rw [own_blk ha] at this
  exact hv.kept h.2.1 this
theorem Filled.below {base n : Nat} {a : Option Addr} {u : UInt8} {w w' : World} {xs : List Value} (h : Filled base a n u w w') (ha : OwnA w base a n xs) (hb : base ≤ w.heap.size) : Below base w w' :=
  (Below.refl _ _).grown h.2.1 hb fun k hk => (ha.lt k hk).1
theorem TwoOk.sets {w : World} {base N k : Nat} {ts : List It} {T : Nat → Two} (h : TwoOk w base N k ts T) (hN : ts.length = N) : Sets w base N T (fun _ => none) ∧ AllOff N T :=
  ⟨⟨fun i hi => h.2.1 i (by omega), fun i u hi he => (Option.some_ne_none _ he.symm).elim⟩, fun i j hi hj => h.2.2.1 i j (by omega) (by omega)⟩
/-- The two slices of one index, as they lie in the two rows. -/
theorem at_index {w : World} {base k q cl c2 : Nat} {a2 al : Option Addr} {vs : List Value} {ts : List It} {T : Nat → Two} (hq : q < k) (hN : ts.length = k) (hT : ∀ i (h : i < ts.length), (T i).a = ts[i].a ∧ (T i).n = ts[i].n)
    (hn : ∀ t ∈ ts, t.n ≤ 4294967296) (hat : ∀ i, i < k → ∃ c, vs[i]? = some (.slice (T i).b (T i).m c) ∧ (T i).m ≤ 4294967400 ∧ (T i).m ≤ c) (h1 : w.ownsRow base 22 1 (.slice a2 k c2) k vs) (h2 : w.ownsRow base 22 1 (.slice al k cl) k (ts.map It.val)) :
    ∃ (g1 g2 ca cb : Nat), a2 = some ⟨g1, 0, none⟩ ∧ al = some ⟨g2, 0, none⟩ ∧ w.cell? ⟨g1, q, none⟩ = some (.slice (T q).b (T q).m cb) ∧ w.cell? ⟨g2, q, none⟩ = some (.slice (T q).a (T q).n ca) ∧ (T q).m ≤ 4294967400 ∧ (T q).n ≤ 4294967400 ∧ (T q).m ≤ cb := by
  obtain ⟨g1, rfl, _, _⟩ := own_some h1 (by omega)
  obtain ⟨g2, rfl, _, _⟩ := own_some h2 (by omega)
  have hql : q < ts.length := by omega
  obtain ⟨cb, hb, hm, hmc⟩ := hat q hq
  have hc1 := h1.cellAt q (by omega)
  have hc2 := h2.cellAt q (by omega)
  rw [List.getElem?_map, List.getElem?_eq_getElem hql, Option.map_some, It.val, ← (hT q hql).1, ← (hT q hql).2] at hc2
  rw [hb] at hc1
  have h3 := hn _ (List.getElem_mem hql)
  rw [← (hT q hql).2] at h3
  exact ⟨g1, g2, _, _, rfl, rfl, hc1, hc2, hm, by omega, hmc⟩
theorem cell_again {w w' : World} {base k q g c : Nat} {vs : List Value} {v : Value} (hq : q < k) (h : w.ownsRow base 22 1 (.slice (some ⟨g, 0, none⟩) k c) k vs) (h2 : w'.ownsRow base 22 1 (.slice (some ⟨g, 0, none⟩) k c) k vs) (hc : w.cell? ⟨g, q, none⟩ = some v) :
    w'.cell? ⟨g, q, none⟩ = some v :=
  ((h2.cellAt q (by omega)).trans (h.cellAt q (by omega)).symm).trans hc
theorem updF_at {F : Nat → Option UInt8} {k : Nat} {u : UInt8} : updF F k u k = some u := by simp [updF]
theorem updF_ne {F : Nat → Option UInt8} {k i : Nat} {u : UInt8} (h : i ≠ k) : updF F k u i = F i := by simp [updF, h]
#print axioms Sets.fill
end Go.Proofs.Ytiebnfdjnclkcaa
