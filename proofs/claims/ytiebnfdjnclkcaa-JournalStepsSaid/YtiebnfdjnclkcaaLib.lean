/- General laws for the walks of this seat: what a slice reads as, appends to a slice of the call's own. No program in sight. -/
import Derived.WalkKit
import Derived.ProofKit
import Derived.WalkLawsBesides
import Derived.WalkSpells
import Derived.Below
import Derived.Lib.Hide
import Derived.Laws.CopyOwn
import Derived.Laws.AppendOwnNone
import Derived.BigQuiet
import Derived.Deep.QuietTactic
set_option linter.unusedVariables false
namespace Go.Proofs.Ytiebnfdjnclkcaa
open Go.RowKit
open Go.ChangeShapes (open_ints lits)

/-- The slice whose address is 'a' reads as the cells 'vs'. -/
def Rd (w : World) (a : Option Addr) (vs : List Value) : Prop :=
  vs = [] ∨ ∃ b off, a = some ⟨b, off, none⟩ ∧ ∀ i u, vs[i]? = some u → w.cell? ⟨b, off + i, none⟩ = some u

theorem Rd.nil (w : World) (a : Option Addr) : Rd w a [] := .inl rfl

theorem Rd.below {w w' : World} {a : Option Addr} {vs : List Value} (h : Rd w a vs) (hb : Below w.heap.size w w') : Rd w' a vs := by
  rcases h with rfl | ⟨b, off, rfl, hc⟩
  · exact .inl rfl
  · refine .inr ⟨b, off, rfl, fun i u hu => ?_⟩
    have h1 := hc i u hu
    rw [hb.cell (World.block_lt_of_cell? w _ h1)]
    exact h1

theorem Rd.cells {w : World} {a : Option Addr} {vs : List Value} (h : Rd w a vs) (hne : vs ≠ []) :
    ∃ b off, a = some ⟨b, off, none⟩ ∧ ∀ i (hi : i < vs.length), w.cell? ⟨b, off + i, none⟩ = some vs[i] := by
  rcases h with rfl | ⟨b, off, rfl, hc⟩
  · exact (hne rfl).elim
  · exact ⟨b, off, rfl, fun i hi => hc i _ (List.getElem?_eq_getElem hi)⟩

/-- 's[lo:hi]' of a slice of one-cell elements. -/
theorem Rd.sub {w : World} {a : Option Addr} {vs : List Value} (h : Rd w a vs) (lo hi : Nat) (hhi : hi ≤ vs.length) (a' : Option Addr) (ha' : lo < hi → a' = a.map (·.add (lo * 1))) :
    Rd w a' ((vs.take hi).drop lo) := by
  by_cases hlt : lo < hi
  · rcases h with rfl | ⟨b, off, rfl, hc⟩
    · left; simp
    · right
      refine ⟨b, off + lo, ?_, fun i u hu => ?_⟩
      · rw [ha' hlt]; simp [Addr.add_lit]
      · rw [Nat.add_assoc]
        apply hc
        rw [List.getElem?_drop, List.getElem?_take] at hu
        split at hu
        · exact hu
        · cases hu
  · left
    apply List.drop_eq_nil_of_le
    simp; omega

theorem ownsRow_shape {w : World} {base : Nat} {e : TypeId} {size : Nat} {v : Value} {n : Nat} {xs : List Value} (h : w.ownsRow base e size v n xs) : ∃ a c, v = .slice a n c := by
  rcases h.2 with ⟨rfl, rfl⟩ | ⟨g, cap, cur, rfl, _⟩
  · exact ⟨none, 0, rfl⟩
  · exact ⟨_, cap, rfl⟩

theorem ownsRow_rd {w : World} {base : Nat} {e : TypeId} {size : Nat} {a : Option Addr} {c n : Nat} {xs : List Value} (h : w.ownsRow base e size (.slice a n c) n xs) : Rd w a xs := by
  rcases h.2 with ⟨h1, rfl⟩ | ⟨g, cap, cur, h1, _, hg, _, _, _, htake⟩
  · left
    exact List.eq_nil_of_length_eq_zero (by simpa using h.1)
  · right
    cases h1
    refine ⟨g, 0, rfl, fun i u hu => ?_⟩
    have := h.cells (g := g) (by simp [Value.ownBlock]) i u hu
    simpa [Addr.add_lit] using this

theorem ownsRow_below {w w' : World} {base : Nat} {e : TypeId} {size : Nat} {v : Value} {n : Nat} {xs : List Value} (h : w.ownsRow base e size v n xs) (hb : Below w.heap.size w w') : w'.ownsRow base e size v n xs := by
  refine ⟨h.1, ?_⟩
  rcases h.2 with hn | ⟨g, cap, cur, rfl, hbg, hg, rest⟩
  · exact .inl hn
  · refine .inr ⟨g, cap, cur, rfl, hbg, ?_, rest⟩
    rw [hb.block g (Array.getElem?_eq_some_iff.1 hg).1]
    exact hg

theorem ownsRow_base {w : World} {base base' : Nat} {e : TypeId} {size : Nat} {v : Value} {n : Nat} {xs : List Value} (h : w.ownsRow base e size v n xs) (hb : base' ≤ base) : w.ownsRow base' e size v n xs := by
  refine ⟨h.1, ?_⟩
  rcases h.2 with hn | ⟨g, cap, cur, rfl, hbg, rest⟩
  · exact .inl hn
  · exact .inr ⟨g, cap, cur, rfl, by omega, rest⟩

/-- A row of the call's own that is not empty lies at the head of a block. -/
theorem own_some {w : World} {base : Nat} {e : TypeId} {size : Nat} {a : Option Addr} {c n m : Nat} {xs : List Value} (h : w.ownsRow base e size (.slice a m c) n xs) (hn : 0 < n) :
    ∃ g, a = some ⟨g, 0, none⟩ ∧ base ≤ g ∧ g < w.heap.size := by
  rcases h.2 with ⟨h1, rfl⟩ | ⟨g, cap, cur, h1, hb, hg, _⟩
  · omega
  · cases h1
    exact ⟨g, rfl, hb, (Array.getElem?_eq_some_iff.1 hg).1⟩

section
variable {P : Program}

theorem run_append_owned_nil (w : World) (base : Nat) (t ty e : TypeId) (i : TypeInfo) (size : Nat) (ht : P.underlying t = some (.slice e)) (hi : P.info? e = some i)
    (v : Value) (n : Nat) (xs : List Value) (hown : w.ownsRow base e size v n xs) (ao : Option Addr) (c : Nat) :
    (Builtin.append_ #[t, t] ty #[v, .slice ao 0 c]).run P w = .ok v w := by
  rcases hown.2 with ⟨rfl, rfl⟩ | ⟨g, cap, cur, rfl, _, _, hnc, _⟩
  · cases ao <;> simp [Builtin.append_, run_underlying ht, sizeOf, typeInfo, hi, Builtin.lenOf, Builtin.firstCells, loadCells, loadCellsFrom]
  · cases ao <;> simp [Builtin.append_, run_underlying ht, sizeOf, typeInfo, hi, Builtin.lenOf, Builtin.firstCells, hnc, storeCells, loadCells, loadCellsFrom]

/-- 'append(s, x...)', s of the call's own, x whatever slice reads as 'news'. -/
theorem run_append_rd (w : World) (base : Nat) (t ty e : TypeId) (i : TypeInfo) (z : Value) (size bytes : Nat) (ht : P.underlying t = some (.slice e)) (hi : P.info? e = some i) (hz : i.zero = some z)
    (hsize : i.size = size) (hby : i.bytes = bytes) (hzs : z.cells.size = size) (hsz : 0 < size)
    (v : Value) (n : Nat) (xs : List Value) (hown : w.ownsRow base e size v n xs)
    (ao : Option Addr) (m c : Nat) (news : List Value) (hl : news.length = m * size) (hrd : Rd w ao news) (h1 : ∀ u ∈ news, u.oneCell' = true)
    (h63 : n + m ≤ maxLen) (hbytes : (n + m) * bytes ≤ 140737488355328) (hbase : base ≤ w.heap.size) :
    ∃ a' c' w', (Builtin.append_ #[t, t] ty #[v, .slice ao m c]).run P w = .ok (.slice a' (n + m) c') w' ∧ w'.ownsRow base e size (.slice a' (n + m) c') (n + m) (xs ++ news) ∧ Below base w w' ∧
      w.grownBy w' v.ownBlock ∧ ((.slice a' (n + m) c') = Value.slice none 0 0 ↔ v = .slice none 0 0 ∧ m = 0) := by
  by_cases hm : m = 0
  · subst hm
    obtain rfl : news = [] := List.eq_nil_of_length_eq_zero (by simpa using hl)
    obtain ⟨a', c', rfl⟩ := ownsRow_shape hown
    refine ⟨a', c', w, ?_, by simpa using hown, Below.refl _ _, World.grownBy.refl _ _, by simp⟩
    exact run_append_owned_nil w base t ty e i size ht hi _ n xs hown ao c
  · have hne : news ≠ [] := by
      intro h; subst h
      have h2 := Nat.mul_pos (Nat.pos_of_ne_zero hm) hsz
      rw [← hl] at h2
      simp at h2
    obtain ⟨b, off, rfl, hc⟩ := hrd.cells hne
    obtain ⟨v', w', hr, ho, hg, hv⟩ := run_append_own (P := P) w base t ty e i z size bytes ht hi hz hsize hby hzs hsz v n xs hown ⟨b, off, none⟩ m c news hl
      (fun j u hu => by
        rw [Addr.add_lit]
        obtain ⟨hj, rfl⟩ := List.getElem?_eq_some_iff.1 hu
        exact hc j hj) h1 h63 hbytes hbase
    obtain ⟨a', c', rfl⟩ := ownsRow_shape ho
    exact ⟨a', c', w', hr, ho, (Below.refl base w).grown hg hbase (fun k hk => (hown.lt k hk).1), hg, hv⟩

theorem wpList_append_rd (w : World) {ops : Array Oper} {rest : List Oper} {o : Oper} {a : Act} {Q : Exit → Act → World → Prop} (hgd : o.guard = none) (s x : Operand) (t : TypeId)
    (ho : o.op = .call { callee := .builtin .append, args := #[s, x], argTypes := #[t, t] })
    (base : Nat) (e : TypeId) (i : TypeInfo) (z : Value) (size bytes : Nat) (ht : P.underlying t = some (.slice e)) (hi : P.info? e = some i) (hz : i.zero = some z)
    (hsize : i.size = size) (hby : i.bytes = bytes) (hzs : z.cells.size = size) (hsz : 0 < size)
    (v : Value) (n : Nat) (xs : List Value) (hs : a.eval s = v) (hown : w.ownsRow base e size v n xs)
    (ao : Option Addr) (m c : Nat) (news : List Value) (hx : a.eval x = .slice ao m c) (hl : news.length = m * size) (hrd : Rd w ao news) (h1 : ∀ u ∈ news, u.oneCell' = true)
    (h63 : n + m ≤ maxLen) (hbytes : (n + m) * bytes ≤ 140737488355328) (hbase : base ≤ w.heap.size)
    (h : ∀ a' c' w', w'.ownsRow base e size (.slice a' (n + m) c') (n + m) (xs ++ news) → Below base w w' → w.grownBy w' v.ownBlock →
      ((.slice a' (n + m) c') = Value.slice none 0 0 ↔ v = .slice none 0 0 ∧ m = 0) → wpList P ops Q rest (a.put o.dst (.slice a' (n + m) c')) w') : wpList P ops Q (o :: rest) a w := by
  refine wpList_plain hgd fun K hK => ?_
  obtain ⟨a', c', w', hr, h2, h3, h4, h5⟩ := run_append_rd (P := P) w base t o.type e i z size bytes ht hi hz hsize hby hzs hsz v n xs hown ao m c news hl hrd h1 h63 hbytes hbase
  unfold Oper.wp execOp
  simp only [ho, resolve, invoke, builtin, Sem.run_bind, Sem.run_pure, Result.andThen_ok, List.map_toArray, List.map_cons, List.map_nil, hs, hx, hr]
  exact hK _ _ (h a' c' w' h2 h3 h4 h5)
end

/-- A byte in a cell. -/
def B (x : UInt8) : Value := .int .u8 (x.toNat : Int)
theorem B_oneCell (l : List UInt8) : ∀ u ∈ l.map B, u.oneCell' = true := by
  intro u hu
  obtain ⟨x, _, rfl⟩ := List.mem_map.1 hu
  rfl

/-- A slice of bytes that came in: its bytes, and how they are told. -/
theorem open_bytes {H : Type} {enc : TypeId × Value → H} {P : Program} {t e : TypeId} {W : World} {a : Option Addr} {n cap : Nat} {d : DataW H} {p : List MemPlace}
    (ht : P.underlying t = some (.slice e)) (he : P.underlying e = some (.int .u8)) (hc : P.cellsOf e = 1)
    (h : DataW.Trod enc P W 0 (fun _ => true) true t (.slice a n cap) d p) :
    ∃ l : List UInt8, l.length = n ∧ Rd W a (l.map B) ∧ (d = .nil ∧ n = 0 ∨ ∃ el sp, d = .slice el sp ∧ el.length = n) := by
  obtain ⟨fuel, hf⟩ := h
  rcases open_ints ht he hc hf with ⟨hcs, hx⟩ | ⟨x, len, c, zs, hcs, _, hl, hm, hz, hx, hcell, hwz⟩
  · simp [Value.cells] at hcs
    obtain ⟨rfl, rfl, rfl⟩ := hcs
    simp only [Prod.mk.injEq] at hx
    exact ⟨[], rfl, .inl rfl, .inl ⟨hx.1, rfl⟩⟩
  · simp [Value.cells] at hcs
    obtain ⟨rfl, rfl, rfl⟩ := hcs
    simp only [if_true] at hz
    simp only [Prod.mk.injEq] at hx
    have hlen : (zs.take n).length = n := by simp; omega
    refine ⟨(zs.take n).map fun z => UInt8.ofNat z.toNat, by simpa using hlen, ?_, .inr ⟨_, _, hx.1, by simpa [lits] using hlen⟩⟩
    by_cases hn : n = 0
    · left; subst hn; simp
    · right
      obtain ⟨b, off, spot⟩ := x
      have hc0 := hcell 0 (by omega)
      have hspot : spot = none := by simpa [Addr.add] using World.cell?_spot hc0
      subst hspot
      refine ⟨b, off, rfl, fun i u hu => ?_⟩
      have hi : i < n := by
        have := (List.getElem?_eq_some_iff.1 hu).1
        simp only [List.length_map, hlen] at this
        exact this
      have hzi : i < zs.length := by omega
      have h1 := hcell i hzi
      rw [Addr.add_lit] at h1
      rw [h1]
      have hw := hwz _ (List.getElem_mem hzi)
      have e1 : zs.getD i 0 = zs[i] := by simp [hzi]
      rw [e1]
      simp only [List.map_map, List.getElem?_map, List.getElem?_take, if_pos hi, List.getElem?_eq_getElem hzi, Option.map_some, Function.comp_apply, Option.some.injEq] at hu
      rw [← hu, B]
      simp [Lit.wf, IntKind.min, IntKind.max, IntKind.bits, IntKind.signed] at hw
      have hb : (UInt8.ofNat zs[i].toNat).toNat = zs[i].toNat := by
        rw [UInt8.toNat_ofNat']
        omega
      rw [hb]
      congr 2
      omega

#print axioms wpList_append_rd
end Go.Proofs.Ytiebnfdjnclkcaa
