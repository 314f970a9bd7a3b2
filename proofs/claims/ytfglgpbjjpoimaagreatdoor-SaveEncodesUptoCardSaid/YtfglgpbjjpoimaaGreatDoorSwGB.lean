/- General laws for the walks of this seat: what a slice reads as, appends to a slice of the call's own. No program in sight. -/
import Derived.WalkKit
import Derived.ProofKit
import Derived.WalkLawsBesides
import Derived.WalkSpells
import Derived.Below
import Derived.Lib.Hide
import Derived.Laws.CopyOwn
import Derived.Laws.AppendOwnNone
import Derived.BigQuiet
import Derived.Deep.QuietTactic
import Derived.Deep.MidRow
import Derived.Deep.RegionHeld3
set_option linter.unusedVariables false
namespace Go.Proofs.YtfglgpbjjpoimaaGreatDoor
open Go.RowKit
open Go.ChangeShapes (open_ints lits)

/-- The slice whose address is 'a' reads as the cells 'vs'. -/
def Rd (w : World) (a : Option Addr) (vs : List Value) : Prop :=
 vs = [] ∨ ∃ b off, a = some ⟨b, off, none⟩ ∧ ∀ i u, vs[i]? = some u → w.cell? ⟨b, off + i, none⟩ = some u

theorem Rd.nil (w : World) (a : Option Addr) : Rd w a [] := .inl rfl

theorem Rd.below {w w' : World} {a : Option Addr} {vs : List Value} (h : Rd w a vs) (hb : Below w.heap.size w w') : Rd w' a vs := by
 rcases h with rfl | ⟨b, off, rfl, hc⟩
 ·exact .inl rfl
 ·refine .inr ⟨b, off, rfl, fun i u hu => ?_⟩
  have h1 := hc i u hu
  rw [hb.cell (World.block_lt_of_cell? w _ h1)]
  exact h1

theorem Rd.cells {w : World} {a : Option Addr} {vs : List Value} (h : Rd w a vs) (hne : vs ≠ []) :
  ∃ b off, a = some ⟨b, off, none⟩ ∧ ∀ i (hi : i < vs.length), w.cell? ⟨b, off + i, none⟩ = some vs[i] := by
 rcases h with rfl | ⟨b, off, rfl, hc⟩
 ·exact (hne rfl).elim
 ·exact ⟨b, off, rfl, fun i hi => hc i _ (List.getElem?_eq_getElem hi)⟩

/-- 's[lo:hi]' of a slice of one-cell elements. -/
theorem Rd.sub {w : World} {a : Option Addr} {vs : List Value} (h : Rd w a vs) (lo hi : Nat) (hhi : hi ≤ vs.length) (a' : Option Addr) (ha' : lo < hi → a' = a.map (·.add (lo * 1))) :
  Rd w a' ((vs.take hi).drop lo) := by
 by_cases hlt : lo < hi
 ·rcases h with rfl | ⟨b, off, rfl, hc⟩
  ·left; simp
  ·right
   refine ⟨b, off + lo, ?_, fun i u hu => ?_⟩
   ·rw [ha' hlt]; simp [Addr.add_lit]
   ·rw [Nat.add_assoc]
    apply hc
    rw [List.getElem?_drop, List.getElem?_take] at hu
    split at hu
    ·exact hu
    ·cases hu
 ·left
  apply List.drop_eq_nil_of_le
  simp; omega

theorem Rd.take {w : World} {a : Option Addr} {vs : List Value} (h : Rd w a vs) (k : Nat) : Rd w a (vs.take k) := by
 rcases h with rfl | ⟨b, off, rfl, hc⟩
 ·left; simp
 ·refine .inr ⟨b, off, rfl, fun i u hu => ?_⟩
  rw [List.getElem?_take] at hu
  split at hu
  ·exact hc i u hu
  ·cases hu

theorem ownsRow_shape {w : World} {base : Nat} {e : TypeId} {size : Nat} {v : Value} {n : Nat} {xs : List Value} (h : w.ownsRow base e size v n xs) : ∃ a c, v = .slice a n c := by
 rcases h.2 with ⟨rfl, rfl⟩ | ⟨g, cap, cur, rfl, _⟩
 ·exact ⟨none, 0, rfl⟩
 ·exact ⟨_, cap, rfl⟩

theorem ownsRow_rd {w : World} {base : Nat} {e : TypeId} {size : Nat} {a : Option Addr} {c n : Nat} {xs : List Value} (h : w.ownsRow base e size (.slice a n c) n xs) : Rd w a xs := by
 rcases h.2 with ⟨h1, rfl⟩ | ⟨g, cap, cur, h1, _, hg, _, _, _, htake⟩
 ·left
  exact List.eq_nil_of_length_eq_zero (by simpa using h.1)
 ·right
  cases h1
  refine ⟨g, 0, rfl, fun i u hu => ?_⟩
  have := h.cells (g := g) (by simp [Value.ownBlock]) i u hu
  simpa [Addr.add_lit] using this

theorem ownsRow_below {w w' : World} {base : Nat} {e : TypeId} {size : Nat} {v : Value} {n : Nat} {xs : List Value} (h : w.ownsRow base e size v n xs) (hb : Below w.heap.size w w') : w'.ownsRow base e size v n xs := by
 refine ⟨h.1, ?_⟩
 rcases h.2 with hn | ⟨g, cap, cur, rfl, hbg, hg, rest⟩
 ·exact .inl hn
 ·refine .inr ⟨g, cap, cur, rfl, hbg, ?_, rest⟩
  rw [hb.block g (Array.getElem?_eq_some_iff.1 hg).1]
  exact hg

theorem ownsRow_base {w : World} {base base' : Nat} {e : TypeId} {size : Nat} {v : Value} {n : Nat} {xs : List Value} (h : w.ownsRow base e size v n xs) (hb : base' ≤ base) : w.ownsRow base' e size v n xs := by
 refine ⟨h.1, ?_⟩
 rcases h.2 with hn | ⟨g, cap, cur, rfl, hbg, rest⟩
 ·exact .inl hn
 ·exact .inr ⟨g, cap, cur, rfl, by omega, rest⟩

/-- A row of the call's own that is not empty lies at the head of a block. -/
theorem own_some {w : World} {base : Nat} {e : TypeId} {size : Nat} {a : Option Addr} {c n m : Nat} {xs : List Value} (h : w.ownsRow base e size (.slice a m c) n xs) (hn : 0 < n) :
  ∃ g, a = some ⟨g, 0, none⟩ ∧ base ≤ g ∧ g < w.heap.size := by
 rcases h.2 with ⟨h1, rfl⟩ | ⟨g, cap, cur, h1, hb, hg, _⟩
 ·omega
 ·cases h1
  exact ⟨g, rfl, hb, (Array.getElem?_eq_some_iff.1 hg).1⟩

/-- A guard: the operation that stands next writes slot 'd'. -/
theorem at_dst (d : Nat) {P : Program} {ops : Array Oper} {Q : Exit → Act → World → Prop} {rest : List Oper} {a : Act} {w : World} {op : Op} {ty : TypeId} {pos : String} {after : Array Edge} {g : Option (Nat × Bool)}
  (h : wpList P ops Q (⟨some d, op, ty, pos, after, g⟩ :: rest) a w) : wpList P ops Q (⟨some d, op, ty, pos, after, g⟩ :: rest) a w := h
/-- A guard: the operation that stands next is a store. -/
theorem at_store {P : Program} {ops : Array Oper} {Q : Exit → Act → World → Prop} {rest : List Oper} {a : Act} {w : World} {t : TypeId} {x y : Operand} {ty : TypeId} {pos : String} {after : Array Edge} {g : Option (Nat × Bool)}
  (h : wpList P ops Q (⟨none, .store t x y, ty, pos, after, g⟩ :: rest) a w) : wpList P ops Q (⟨none, .store t x y, ty, pos, after, g⟩ :: rest) a w := h

section
variable {P : Program}

theorem run_append_owned_nil (w : World) (base : Nat) (t ty e : TypeId) (i : TypeInfo) (size : Nat) (ht : P.underlying t = some (.slice e)) (hi : P.info? e = some i)
  (v : Value) (n : Nat) (xs : List Value) (hown : w.ownsRow base e size v n xs) (ao : Option Addr) (c : Nat) :
  (Builtin.append_ #[t, t] ty #[v, .slice ao 0 c]).run P w = .ok v w := by
 rcases hown.2 with ⟨rfl, rfl⟩ | ⟨g, cap, cur, rfl, _, _, hnc, _⟩
 ·cases ao <;> simp [Builtin.append_, run_underlying ht, sizeOf, typeInfo, hi, Builtin.lenOf, Builtin.firstCells, loadCells, loadCellsFrom]
 ·cases ao <;> simp [Builtin.append_, run_underlying ht, sizeOf, typeInfo, hi, Builtin.lenOf, Builtin.firstCells, hnc, storeCells, loadCells, loadCellsFrom]

/-- Where the array behind an append lies: it is the elder one, which alone was written; or it is new, and nothing was written. -/
def Moved (w w' : World) (v v' : Value) : Prop :=
 (v'.ownBlock = v.ownBlock ∧ w.grownBy w' v.ownBlock) ∨ (w.grownBy w' none ∧ v'.ownBlock = some w.heap.size)

theorem Moved.below {w w' : World} {v v' : Value} {base : Nat} (h : Moved w w' v v') (hv : ∀ k, v.ownBlock = some k → base ≤ k) (hb : base ≤ w.heap.size) : Below base w w' := by
 rcases h with ⟨_, hg⟩ | ⟨hg, _⟩
 ·exact (Below.refl base w).grown hg hb hv
 ·exact (Below.refl base w).grown hg hb (by intro k hk; cases hk)

theorem Moved.grown {w w' : World} {v v' : Value} (h : Moved w w' v v') : w.grownBy w' v.ownBlock := by
 rcases h with ⟨_, hg⟩ | ⟨hg, _⟩
 ·exact hg
 ·exact ⟨hg.os, hg.tape, hg.output, hg.size, fun k hk _ => hg.block k hk (by simp)⟩

/-- Another row of the call's own stays, if it lies in another block. -/
theorem Moved.kept {w w' : World} {v v' u : Value} {base n : Nat} {e : TypeId} {size : Nat} {xs : List Value} (h : Moved w w' v v') (hu : w.ownsRow base e size u n xs) (hne : u.ownBlock = none ∨ u.ownBlock ≠ v.ownBlock) :
  w'.ownsRow base e size u n xs := by
 rcases h with ⟨_, hg⟩ | ⟨hg, _⟩
 ·exact hu.kept hg hne
 ·exact hu.kept hg (by cases hk : u.ownBlock <;> simp)

theorem Moved.apart {w w' : World} {v v' u : Value} {base n : Nat} {e : TypeId} {size : Nat} {xs : List Value} (h : Moved w w' v v') (hu : w.ownsRow base e size u n xs) (hne : u.ownBlock = none ∨ u.ownBlock ≠ v.ownBlock) :
  u.ownBlock = none ∨ u.ownBlock ≠ v'.ownBlock := by
 rcases h with ⟨h1, _⟩ | ⟨_, h1⟩
 ·rw [h1]; exact hne
 ·cases hk : u.ownBlock with
  | none => exact .inl rfl
  | some k =>
   right
   rw [h1]
   have := (hu.lt k hk).2
   simp; omega

/-- What was read elsewhere reads on. -/
theorem Moved.rd {w w' : World} {v v' : Value} {a : Option Addr} {vs : List Value} (h : Moved w w' v v') (hr : Rd w a vs) (hne : ∀ b off, a = some ⟨b, off, none⟩ → v.ownBlock ≠ some b) : Rd w' a vs := by
 rcases hr with rfl | ⟨b, off, rfl, hc⟩
 ·exact .inl rfl
 ·refine .inr ⟨b, off, rfl, fun i u hu => ?_⟩
  have h1 := hc i u hu
  have hlt := World.block_lt_of_cell? w _ h1
  have hb : w'.heap[b]? = w.heap[b]? := by
   rcases h with ⟨_, hg⟩ | ⟨hg, _⟩
   ·exact hg.block b hlt (fun e => hne b off rfl e.symm)
   ·exact hg.block b hlt (by simp)
  rw [World.cell?_of_block (w := w) hb]
  exact h1

/-- 'append(s, x...)', s of the call's own, x whatever slice reads as 'news'. -/
theorem run_append_rd (w : World) (base : Nat) (t ty e : TypeId) (i : TypeInfo) (z : Value) (size bytes : Nat) (ht : P.underlying t = some (.slice e)) (hi : P.info? e = some i) (hz : i.zero = some z)
  (hsize : i.size = size) (hby : i.bytes = bytes) (hzs : z.cells.size = size) (hsz : 0 < size)
  (v : Value) (n : Nat) (xs : List Value) (hown : w.ownsRow base e size v n xs)
  (ao : Option Addr) (m c : Nat) (news : List Value) (hl : news.length = m * size) (hrd : Rd w ao news) (h1 : ∀ u ∈ news, u.oneCell' = true)
  (h63 : n + m ≤ maxLen) (hbytes : (n + m) * bytes ≤ 140737488355328) (hbase : base ≤ w.heap.size) :
  ∃ a' c' w', (Builtin.append_ #[t, t] ty #[v, .slice ao m c]).run P w = .ok (.slice a' (n + m) c') w' ∧ w'.ownsRow base e size (.slice a' (n + m) c') (n + m) (xs ++ news) ∧
   Moved w w' v (.slice a' (n + m) c') := by
 subst hsize
 subst hby
 by_cases hm : m = 0
 ·subst hm
  obtain rfl : news = [] := List.eq_nil_of_length_eq_zero (by simpa using hl)
  obtain ⟨a', c', rfl⟩ := ownsRow_shape hown
  refine ⟨a', c', w, ?_, by simpa using hown, .inl ⟨?_, World.grownBy.refl _ _⟩⟩
  ·exact run_append_owned_nil w base t ty e i i.size ht hi _ n xs hown ao c
  ·cases a' <;> simp [Value.ownBlock]
 ·have hne : news ≠ [] := by
   intro h; subst h
   have h2 := Nat.mul_pos (Nat.pos_of_ne_zero hm) hsz
   rw [← hl] at h2
   simp at h2
  obtain ⟨b, off, rfl, hc⟩ := hrd.cells hne
  have hnews : ∀ j u, news[j]? = some u → w.cell? ((⟨b, off, none⟩ : Addr).add j) = some u := fun j u hu => by
   rw [Addr.add_lit]
   obtain ⟨hj, rfl⟩ := List.getElem?_eq_some_iff.1 hu
   exact hc j hj
  have hsmall : n + m ≤ 9223372036854775807 := by simp only [maxLen] at h63; omega
  have hlen : (xs ++ news).length = (n + m) * i.size := by rw [List.length_append, hown.1, hl, Nat.add_mul]
  have grown : ∀ (old : Nat) (row : Option Nat),
    (w.drew.alloc (.cells (xs.toArray ++ news.toArray ++ Builtin.zeroCells z.cells (grownCap w (n + m) old e - (n + m))) e)).ownsRow base e i.size
     (.slice (some ⟨w.heap.size, 0, none⟩) (n + m) (grownCap w (n + m) old e)) (n + m) (xs ++ news) ∧
    w.grownBy (w.drew.alloc (.cells (xs.toArray ++ news.toArray ++ Builtin.zeroCells z.cells (grownCap w (n + m) old e - (n + m))) e)) row := by
   intro old row
   have hge := grownCap_ge w (n + m) old e
   have hcm := grownCap_le_maxLen w (n + m) old e h63
   refine ⟨⟨hlen, .inr ⟨w.heap.size, _, _, rfl, hbase, heap_alloc_new w.drew _, hge, hcm, ?_, ?_⟩⟩, ⟨rfl, rfl, rfl, by simp, fun k hk _ => Go.heap_alloc_old w.drew _ hk⟩⟩
   ·rw [Array.size_append, Array.size_append, List.size_toArray, List.size_toArray, size_zeroCells, hzs, hown.1, hl, ← Nat.add_mul, ← Nat.add_mul, Nat.add_sub_cancel' hge]
   ·rw [Array.toList_append, Array.toList_append, ← hlen]
    exact List.take_left
  rcases hown.2 with ⟨rfl, rfl⟩ | ⟨g, cap, cur, rfl, hbg, hg, hnc, hcm, hcs, htake⟩
  ·obtain rfl : xs = [] := List.eq_nil_of_length_eq_zero (by simpa using hown.1)
   have hr := run_append_nil (P := P) w t ty e i z ht hi hz ⟨b, off, none⟩ m c news hl hnews (by omega) (by omega) (by simp only [Nat.zero_add] at hbytes; omega)
   have hgr := grown 0 none
   simp only [Nat.zero_add, List.nil_append, Array.empty_append] at hgr ⊢
   exact ⟨_, _, _, hr, hgr.1, .inr ⟨hgr.2, rfl⟩⟩
  ·by_cases hroom : n + m ≤ cap
   ·have hfit : n * i.size + news.length ≤ cur.size := by rw [hl, hcs, ← Nat.add_mul]; exact Nat.mul_le_mul_right _ hroom
    have hr := run_append_room (P := P) w t ty e i ht hi g n cap cur hg ⟨b, off, none⟩ m c news hl hnews h1 hroom hfit
    refine ⟨_, _, _, hr, ⟨hlen, .inr ⟨g, cap, _, rfl, hbg, setRow_heap w g cur _ e _ hg, hroom, hcm, ?_, ?_⟩⟩, .inl ⟨rfl, ⟨rfl, rfl, rfl, by simp, fun k _ hk => setRow_other w g k _ (fun e => hk (by simp [Value.ownBlock, e]))⟩⟩⟩
    ·simp only [List.size_toArray, List.length_append, List.length_take, List.length_drop, Array.length_toList]
     omega
    ·rw [htake, ← hlen]
     exact List.take_left
   ·have holds : ∀ j u, xs[j]? = some u → w.cell? ((⟨g, 0, none⟩ : Addr).add j) = some u := hown.cells (g := g) rfl
    have hr := run_append_grow (P := P) w t ty e i z ht hi hz ⟨g, 0, none⟩ n cap xs hown.1 holds ⟨b, off, none⟩ m c news hl hnews (by omega) (by omega) (growslice_fits (by omega) hbytes)
    have hgr := grown cap none
    exact ⟨_, _, _, hr, hgr.1, .inr ⟨hgr.2, rfl⟩⟩

theorem wpList_append_rd (w : World) {ops : Array Oper} {rest : List Oper} {o : Oper} {a : Act} {Q : Exit → Act → World → Prop} (hgd : o.guard = none) (s x : Operand) (t : TypeId)
  (ho : o.op = .call { callee := .builtin .append, args := #[s, x], argTypes := #[t, t] })
  (base : Nat) (e : TypeId) (i : TypeInfo) (z : Value) (size bytes : Nat) (ht : P.underlying t = some (.slice e)) (hi : P.info? e = some i) (hz : i.zero = some z)
  (hsize : i.size = size) (hby : i.bytes = bytes) (hzs : z.cells.size = size) (hsz : 0 < size)
  (v : Value) (n : Nat) (xs : List Value) (hs : a.eval s = v) (hown : w.ownsRow base e size v n xs)
  (ao : Option Addr) (m c : Nat) (news : List Value) (hx : a.eval x = .slice ao m c) (hl : news.length = m * size) (hrd : Rd w ao news) (h1 : ∀ u ∈ news, u.oneCell' = true)
  (h63 : n + m ≤ maxLen) (hbytes : (n + m) * bytes ≤ 140737488355328) (hbase : base ≤ w.heap.size)
  (h : ∀ a' c' w', w'.ownsRow base e size (.slice a' (n + m) c') (n + m) (xs ++ news) → Below base w w' → Moved w w' v (.slice a' (n + m) c') →
   wpList P ops Q rest (a.put o.dst (.slice a' (n + m) c')) w') : wpList P ops Q (o :: rest) a w := by
 refine wpList_plain hgd fun K hK => ?_
 obtain ⟨a', c', w', hr, h2, h3⟩ := run_append_rd (P := P) w base t o.type e i z size bytes ht hi hz hsize hby hzs hsz v n xs hown ao m c news hl hrd h1 h63 hbytes hbase
 unfold Oper.wp execOp
 simp only [ho, resolve, invoke, builtin, Sem.run_bind, Sem.run_pure, Result.andThen_ok, List.map_toArray, List.map_cons, List.map_nil, hs, hx, hr]
 exact hK _ _ (h a' c' w' h2 (h3.below (fun k hk => (hown.lt k hk).1) hbase) h3)

/-- A block that was just made reads as its cells. -/
theorem rd_new (w : World) (cs : Array Value) (e : TypeId) : Rd (w.alloc (.cells cs e)) (some ⟨w.heap.size, 0, none⟩) cs.toList := by
 refine .inr ⟨_, 0, rfl, fun i u hu => ?_⟩
 rw [Nat.zero_add, World.cell?_alloc_new]
 simpa using hu

/-- 'append(s, x)' of one element, which lies in the block made just ahead of it. -/
theorem wpList_append_one (w : World) {ops : Array Oper} {rest : List Oper} {o : Oper} {a : Act} {Q : Exit → Act → World → Prop} (hgd : o.guard = none) (s x : Operand) (t : TypeId)
  (ho : o.op = .call { callee := .builtin .append, args := #[s, x], argTypes := #[t, t] })
  (base : Nat) (e : TypeId) (i : TypeInfo) (z : Value) (size bytes : Nat) (ht : P.underlying t = some (.slice e)) (hi : P.info? e = some i) (hz : i.zero = some z)
  (hsize : i.size = size) (hby : i.bytes = bytes) (hzs : z.cells.size = size) (hsz : 0 < size)
  (v : Value) (n : Nat) (xs : List Value) (cs : Array Value) (hs : a.eval s = v) (hown : w.ownsRow base e size v n xs)
  (hx : a.eval x = .slice (some ⟨w.heap.size, 0, none⟩) 1 1) (hl : cs.size = size) (h1 : ∀ u ∈ cs.toList, u.oneCell' = true)
  (h63 : n + 1 ≤ maxLen) (hbytes : (n + 1) * bytes ≤ 140737488355328) (hbase : base ≤ w.heap.size)
  (h : ∀ a' c' w', w'.ownsRow base e size (.slice a' (n + 1) c') (n + 1) (xs ++ cs.toList) → Below base w w' → Moved (w.alloc (.cells cs e)) w' v (.slice a' (n + 1) c') →
   wpList P ops Q rest (a.put o.dst (.slice a' (n + 1) c')) w') : wpList P ops Q (o :: rest) a (w.alloc (.cells cs e)) :=
 wpList_append_rd (P := P) _ hgd s x t ho base e i z size bytes ht hi hz hsize hby hzs hsz v n xs hs (hown.alloc _) (some ⟨w.heap.size, 0, none⟩) 1 1 cs.toList hx (by simpa using hl)
  (rd_new w cs e) h1 h63 hbytes (by simp; omega) (fun a' c' w' h2 h3 h4 => h a' c' w' h2 (((Below.refl base w).alloc hbase _).trans h3) h4)
end

/-- A byte in a cell. -/
def B (x : UInt8) : Value := .int .u8 (x.toNat : Int)
theorem B_oneCell (l : List UInt8) : ∀ u ∈ l.map B, u.oneCell' = true := by
 intro u hu
 obtain ⟨x, _, rfl⟩ := List.mem_map.1 hu
 rfl

/-- A slice of bytes that came in: its bytes, and how they are told. -/
theorem open_bytes {H : Type} {enc : TypeId × Value → H} {P : Program} {t e : TypeId} {W : World} {a : Option Addr} {n cap : Nat} {d : DataW H} {p : List MemPlace}
  (ht : P.underlying t = some (.slice e)) (he : P.underlying e = some (.int .u8)) (hc : P.cellsOf e = 1)
  (h : DataW.Trod enc P W 0 (fun _ => true) true t (.slice a n cap) d p) :
  ∃ l : List UInt8, l.length = n ∧ Rd W a (l.map B) ∧ (d = .nil ∧ n = 0 ∨ ∃ el sp, d = .slice el sp ∧ el.length = n) ∧ n ≤ cap := by
 obtain ⟨fuel, hf⟩ := h
 rcases open_ints ht he hc hf with ⟨hcs, hx⟩ | ⟨x, len, c, zs, hcs, _, hl, hm, hz, hx, hcell, hwz⟩
 ·simp [Value.cells] at hcs
  obtain ⟨rfl, rfl, rfl⟩ := hcs
  simp only [Prod.mk.injEq] at hx
  exact ⟨[], rfl, .inl rfl, .inl ⟨hx.1, rfl⟩, Nat.le_refl _⟩
 ·simp [Value.cells] at hcs
  obtain ⟨rfl, rfl, rfl⟩ := hcs
  simp only [if_true] at hz
  simp only [Prod.mk.injEq] at hx
  have hlen : (zs.take n).length = n := by simp; omega
  refine ⟨(zs.take n).map fun z => UInt8.ofNat z.toNat, by simpa using hlen, ?_, .inr ⟨_, _, hx.1, by simpa [lits] using hlen⟩, hl⟩
  by_cases hn : n = 0
  ·left; subst hn; simp
  ·right
   obtain ⟨b, off, spot⟩ := x
   have hc0 := hcell 0 (by omega)
   have hspot : spot = none := by simpa [Addr.add] using World.cell?_spot hc0
   subst hspot
   refine ⟨b, off, rfl, fun i u hu => ?_⟩
   have hi : i < n := by
    have := (List.getElem?_eq_some_iff.1 hu).1
    simp only [List.length_map, hlen] at this
    exact this
   have hzi : i < zs.length := by omega
   have h1 := hcell i hzi
   rw [Addr.add_lit] at h1
   rw [h1]
   have hw := hwz _ (List.getElem_mem hzi)
   have e1 : zs.getD i 0 = zs[i] := by simp [hzi]
   rw [e1]
   simp only [List.map_map, List.getElem?_map, List.getElem?_take, if_pos hi, List.getElem?_eq_getElem hzi, Option.map_some, Function.comp_apply, Option.some.injEq] at hu
   rw [← hu, B]
   simp [Lit.wf, IntKind.min, IntKind.max, IntKind.bits, IntKind.signed] at hw
   have hb : (UInt8.ofNat zs[i].toNat).toNat = zs[i].toNat := by
    rw [UInt8.toNat_ofNat']
    omega
   rw [hb]
   congr 2
   omega

/-- An int in a cell. -/
def Z (x : Int) : Value := .int .i64 x
theorem Z_oneCell (l : List Int) : ∀ u ∈ l.map Z, u.oneCell' = true := by
 intro u hu
 obtain ⟨x, _, rfl⟩ := List.mem_map.1 hu
 rfl
/-- A slice of ints that came in: its numbers, and how they are told. -/
theorem open_nums {H : Type} {enc : TypeId × Value → H} {P : Program} {t e : TypeId} {W : World} {a : Option Addr} {n cap : Nat} {d : DataW H} {p : List MemPlace}
  (ht : P.underlying t = some (.slice e)) (he : P.underlying e = some (.int .i64)) (hc : P.cellsOf e = 1)
  (h : DataW.Trod enc P W 0 (fun _ => true) true t (.slice a n cap) d p) :
  ∃ l : List Int, l.length = n ∧ Rd W a (l.map Z) ∧ (d = .nil ∧ n = 0 ∨ ∃ el sp, d = .slice el sp ∧ el.length = n) ∧ n ≤ cap ∧ (∀ x ∈ l, -9223372036854775808 ≤ x ∧ x ≤ 9223372036854775807) := by
 obtain ⟨fuel, hf⟩ := h
 rcases open_ints ht he hc hf with ⟨hcs, hx⟩ | ⟨x, len, c, zs, hcs, _, hl, hm, hz, hx, hcell, hwz⟩
 ·simp [Value.cells] at hcs
  obtain ⟨rfl, rfl, rfl⟩ := hcs
  simp only [Prod.mk.injEq] at hx
  exact ⟨[], rfl, .inl rfl, .inl ⟨hx.1, rfl⟩, Nat.le_refl _, by simp⟩
 ·simp [Value.cells] at hcs
  obtain ⟨rfl, rfl, rfl⟩ := hcs
  simp only [if_true] at hz
  simp only [Prod.mk.injEq] at hx
  have hlen : (zs.take n).length = n := by simp; omega
  refine ⟨zs.take n, hlen, ?_, .inr ⟨_, _, hx.1, by simpa [lits] using hlen⟩, hl, fun y hy => ?_⟩
  ·by_cases hn : n = 0
   ·left; subst hn; simp
   ·right
    obtain ⟨b, off, spot⟩ := x
    have hc0 := hcell 0 (by omega)
    have hspot : spot = none := by simpa [Addr.add] using World.cell?_spot hc0
    subst hspot
    refine ⟨b, off, rfl, fun i u hu => ?_⟩
    have hi : i < n := by
     have := (List.getElem?_eq_some_iff.1 hu).1
     simp only [List.length_map, hlen] at this
     exact this
    have hzi : i < zs.length := by omega
    have h1 := hcell i hzi
    rw [Addr.add_lit] at h1
    rw [h1]
    have e1 : zs.getD i 0 = zs[i] := by simp [hzi]
    rw [e1]
    simp only [List.getElem?_map, List.getElem?_take, if_pos hi, List.getElem?_eq_getElem hzi, Option.map_some, Option.some.injEq] at hu
    rw [← hu, Z]
  ·have hw := hwz _ (List.mem_of_mem_take hy)
   simp [Lit.wf, IntKind.min, IntKind.max, IntKind.bits, IntKind.signed] at hw
   exact hw

end Go.Proofs.YtfglgpbjjpoimaaGreatDoor
/- A block with known cells: reading, writing, what stays. -/
set_option linter.unusedVariables false
namespace Go.Proofs.YtfglgpbjjpoimaaGreatDoor
open Go.RowKit

/-- The block g holds the cells cs. -/
def Blk (w : World) (g : Nat) (t : TypeId) (cs : List Value) : Prop := w.heap[g]? = some (.cells cs.toArray t (0, 0))
theorem Blk.lt {w : World} {g : Nat} {t : TypeId} {cs : List Value} (h : Blk w g t cs) : g < w.heap.size := (Array.getElem?_eq_some_iff.1 h).1
theorem Blk.cell {w : World} {g : Nat} {t : TypeId} {cs : List Value} (h : Blk w g t cs) (i : Nat) (hi : i < cs.length) : w.cell? ⟨g, i, none⟩ = some cs[i] := by
 unfold Blk at h
 simp [World.cell?, h, hi]
theorem Blk.frozen {w : World} {g : Nat} {t : TypeId} {cs : List Value} (h : Blk w g t cs) (i : Nat) : w.frozen? ⟨g, i, none⟩ = false := by
 unfold Blk at h
 simp [World.frozen?, h]
theorem Blk.kept {w w' : World} {g : Nat} {t : TypeId} {cs : List Value} {r : Option Nat} (h : Blk w g t cs) (hg : w.grownBy w' r) (hr : some g ≠ r) : Blk w' g t cs := by
 unfold Blk
 rw [hg.block g h.lt hr]
 exact h
theorem Blk.below {w w' : World} {g : Nat} {t : TypeId} {cs : List Value} (h : Blk w g t cs) (hb : Below w.heap.size w w') : Blk w' g t cs := by
 unfold Blk
 rw [hb.block g h.lt]
 exact h
theorem Blk.alloc {w : World} {g : Nat} {t : TypeId} {cs : List Value} (h : Blk w g t cs) (o : Obj) : Blk (w.alloc o) g t cs := h.below ((Below.refl _ _).alloc (Nat.le_refl _) o)
theorem Blk.new (w : World) (cs : List Value) (t : TypeId) : Blk (w.alloc (.cells cs.toArray t)) w.heap.size t cs := heap_alloc_new w _
theorem Blk.rd {w : World} {g : Nat} {t : TypeId} {cs : List Value} (h : Blk w g t cs) : Rd w (some ⟨g, 0, none⟩) cs := by
 refine .inr ⟨g, 0, rfl, fun i u hu => ?_⟩
 obtain ⟨hi, rfl⟩ := List.getElem?_eq_some_iff.1 hu
 rw [Nat.zero_add]
 exact h.cell i hi
theorem Blk.there {w : World} {g : Nat} {t : TypeId} {cs : List Value} (h : Blk w g t cs) (o n : Nat) (hn : o + n ≤ cs.length) : w.there g o n := fun j hj => by
 rw [h.cell (o + j) (by omega), h.frozen]
 exact ⟨rfl, rfl⟩
theorem Blk.range {w : World} {g : Nat} {t : TypeId} {cs : List Value} (h : Blk w g t cs) (o n : Nat) (hn : o + n ≤ cs.length) : w.rangeAt g o ((cs.drop o).take n) := fun j v hv => by
 have hj : j < ((cs.drop o).take n).length := (List.getElem?_eq_some_iff.1 hv).1
 rw [List.length_take, List.length_drop] at hj
 rw [List.getElem?_take_of_lt (by omega), List.getElem?_drop, List.getElem?_eq_getElem (by omega)] at hv
 rw [h.cell (o + j) (by omega)]
 exact hv
/-- Some cells from o on are others. -/
def spl (cs : List Value) (o : Nat) (vs : List Value) : List Value := cs.take o ++ (vs ++ cs.drop (o + vs.length))
theorem spl_len {cs : List Value} {o : Nat} {vs : List Value} (h : o + vs.length ≤ cs.length) : (spl cs o vs).length = cs.length := by
 simp [spl]
 omega
theorem Blk.setCell {w : World} {g : Nat} {t : TypeId} {cs : List Value} (h : Blk w g t cs) (i : Nat) (v : Value) : Blk (w.setCell ⟨g, i, none⟩ v) g t (cs.set i v) ∧ w.grownBy (w.setCell ⟨g, i, none⟩ v) (some g) := by
 have hlt := h.lt
 unfold Blk at h ⊢
 refine ⟨?_, ⟨rfl, rfl, rfl, by simp [World.setCell], fun k hk hne => Below.heap_setCell w ⟨g, i, none⟩ v k (fun e => hne (by rw [e]))⟩⟩
 simp [World.setCell, Array.getElem?_modify, h, List.setIfInBounds_toArray]
theorem spl_nil (cs : List Value) (o : Nat) : spl cs o [] = cs := by simp [spl]
theorem spl_cons {cs : List Value} {o : Nat} {v : Value} {vs : List Value} (h : o + (v :: vs).length ≤ cs.length) : spl (cs.set o v) (o + 1) vs = spl cs o (v :: vs) := by
 simp only [List.length_cons] at h
 unfold spl
 rw [List.take_set, List.drop_set_of_lt (by omega), List.take_succ_eq_append_getElem (by omega), List.set_append_right _ _ (by rw [List.length_take]; omega), List.length_take, Nat.min_eq_left (by omega), Nat.sub_self]
 simp only [List.set_cons_zero, List.append_assoc, List.length_cons]
 rw [show o + 1 + vs.length = o + (vs.length + 1) by omega]
 rfl
theorem Blk.setCells {g : Nat} {t : TypeId} (vs : List Value) : ∀ (o : Nat) (cs : List Value) (w : World), Blk w g t cs → o + vs.length ≤ cs.length → Blk (w.setCells g o vs) g t (spl cs o vs) ∧ w.grownBy (w.setCells g o vs) (some g) := by
 induction vs with
 | nil =>
  intro o cs w h _
  rw [spl_nil]
  exact ⟨h, ⟨rfl, rfl, rfl, Nat.le_refl _, fun _ _ _ => rfl⟩⟩
 | cons v vs ih =>
  intro o cs w h hl
  have h1 := h.setCell o v
  obtain ⟨h2, h3⟩ := ih (o + 1) _ _ h1.1 (by simp only [List.length_cons, List.length_set] at hl ⊢; omega)
  rw [spl_cons hl] at h2
  refine ⟨h2, ⟨h3.os.trans h1.2.os, h3.tape.trans h1.2.tape, h3.output.trans h1.2.output, Nat.le_trans h1.2.size h3.size, fun k hk hn => ?_⟩⟩
  have := h3.block k (Nat.lt_of_lt_of_le hk h1.2.size) hn
  exact this.trans (h1.2.block k hk hn)
end Go.Proofs.YtfglgpbjjpoimaaGreatDoor
