/- Joined by wip/tools/merge.py out of: Lib W1 UintP UintW UintR IntW NumP Uniq PutW PutU Blk Erase. -/
import Derived.WalkKit
import Derived.ProofKit
import Derived.WalkLawsBesides
import Derived.WalkSpells
import Derived.Below
import Derived.Lib.Hide
import Derived.Laws.CopyOwn
import Derived.Laws.AppendOwnNone
import Derived.BigQuiet
import Derived.Deep.QuietTactic
import Derived.Test.YtaipnbpefdcejaaRows
import Derived.Laws.Bits64b
import Derived.OwnWalk
import Derived.StillTailTactics
import Derived.Deep.MidRow
import Derived.Deep.RegionHeld3
/- General laws for the walks of this seat: what a slice reads as, appends to a slice of the call's own. No program in sight. -/
set_option linter.unusedVariables false
namespace Go.Proofs.Ytaipnbpefdcejaa
open Go.RowKit
open Go.ChangeShapes (open_ints lits)

/-- The slice whose address is 'a' reads as the cells 'vs'. -/
def Rd (w : World) (a : Option Addr) (vs : List Value) : Prop :=
  vs = [] ∨ ∃ b off, a = some ⟨b, off, none⟩ ∧ ∀ i u, vs[i]? = some u → w.cell? ⟨b, off + i, none⟩ = some u

theorem Rd.nil (w : World) (a : Option Addr) : Rd w a [] := .inl rfl

theorem Rd.below {w w' : World} {a : Option Addr} {vs : List Value} (h : Rd w a vs) (hb : Below w.heap.size w w') : Rd w' a vs := by
  rcases h with rfl | ⟨b, off, rfl, hc⟩
  · exact .inl rfl
  · refine .inr ⟨b, off, rfl, fun i u hu => ?_⟩
    have h1 := hc i u hu
    rw [hb.cell (World.block_lt_of_cell? w _ h1)]
    exact h1

theorem Rd.cells {w : World} {a : Option Addr} {vs : List Value} (h : Rd w a vs) (hne : vs ≠ []) :
    ∃ b off, a = some ⟨b, off, none⟩ ∧ ∀ i (hi : i < vs.length), w.cell? ⟨b, off + i, none⟩ = some vs[i] := by
  rcases h with rfl | ⟨b, off, rfl, hc⟩
  · exact (hne rfl).elim
  · exact ⟨b, off, rfl, fun i hi => hc i _ (List.getElem?_eq_getElem hi)⟩

/-- 's[lo:hi]' of a slice of one-cell elements. -/
theorem Rd.sub {w : World} {a : Option Addr} {vs : List Value} (h : Rd w a vs) (lo hi : Nat) (hhi : hi ≤ vs.length) (a' : Option Addr) (ha' : lo < hi → a' = a.map (·.add (lo * 1))) :
    Rd w a' ((vs.take hi).drop lo) := by
  by_cases hlt : lo < hi
  · rcases h with rfl | ⟨b, off, rfl, hc⟩
    · left; simp
    · right
      refine ⟨b, off + lo, ?_, fun i u hu => ?_⟩
      · rw [ha' hlt]; simp [Addr.add_lit]
      · rw [Nat.add_assoc]
        apply hc
        rw [List.getElem?_drop, List.getElem?_take] at hu
        split at hu
        · exact hu
        · cases hu
  · left
    apply List.drop_eq_nil_of_le
    simp; omega

theorem Rd.take {w : World} {a : Option Addr} {vs : List Value} (h : Rd w a vs) (k : Nat) : Rd w a (vs.take k) := by
  rcases h with rfl | ⟨b, off, rfl, hc⟩
  · left; simp
  · refine .inr ⟨b, off, rfl, fun i u hu => ?_⟩
    rw [List.getElem?_take] at hu
    split at hu
    · exact hc i u hu
    · cases hu

theorem ownsRow_shape {w : World} {base : Nat} {e : TypeId} {size : Nat} {v : Value} {n : Nat} {xs : List Value} (h : w.ownsRow base e size v n xs) : ∃ a c, v = .slice a n c := by
  rcases h.2 with ⟨rfl, rfl⟩ | ⟨g, cap, cur, rfl, _⟩
  · exact ⟨none, 0, rfl⟩
  · exact ⟨_, cap, rfl⟩

theorem ownsRow_rd {w : World} {base : Nat} {e : TypeId} {size : Nat} {a : Option Addr} {c n : Nat} {xs : List Value} (h : w.ownsRow base e size (.slice a n c) n xs) : Rd w a xs := by
  rcases h.2 with ⟨h1, rfl⟩ | ⟨g, cap, cur, h1, _, hg, _, _, _, htake⟩
  · left
    exact List.eq_nil_of_length_eq_zero (by simpa using h.1)
  · right
    cases h1
    refine ⟨g, 0, rfl, fun i u hu => ?_⟩
    have := h.cells (g := g) (by simp [Value.ownBlock]) i u hu
    simpa [Addr.add_lit] using this

theorem ownsRow_below {w w' : World} {base : Nat} {e : TypeId} {size : Nat} {v : Value} {n : Nat} {xs : List Value} (h : w.ownsRow base e size v n xs) (hb : Below w.heap.size w w') : w'.ownsRow base e size v n xs := by
  refine ⟨h.1, ?_⟩
  rcases h.2 with hn | ⟨g, cap, cur, rfl, hbg, hg, rest⟩
  · exact .inl hn
  · refine .inr ⟨g, cap, cur, rfl, hbg, ?_, rest⟩
    rw [hb.block g (Array.getElem?_eq_some_iff.1 hg).1]
    exact hg

theorem ownsRow_base {w : World} {base base' : Nat} {e : TypeId} {size : Nat} {v : Value} {n : Nat} {xs : List Value} (h : w.ownsRow base e size v n xs) (hb : base' ≤ base) : w.ownsRow base' e size v n xs := by
  refine ⟨h.1, ?_⟩
  rcases h.2 with hn | ⟨g, cap, cur, rfl, hbg, rest⟩
  · exact .inl hn
  · exact .inr ⟨g, cap, cur, rfl, by omega, rest⟩

/-- A row of the call's own that is not empty lies at the head of a block. -/
theorem own_some {w : World} {base : Nat} {e : TypeId} {size : Nat} {a : Option Addr} {c n m : Nat} {xs : List Value} (h : w.ownsRow base e size (.slice a m c) n xs) (hn : 0 < n) :
    ∃ g, a = some ⟨g, 0, none⟩ ∧ base ≤ g ∧ g < w.heap.size := by
  rcases h.2 with ⟨h1, rfl⟩ | ⟨g, cap, cur, h1, hb, hg, _⟩
  · omega
  · cases h1
    exact ⟨g, rfl, hb, (Array.getElem?_eq_some_iff.1 hg).1⟩

/-- A guard: the operation that stands next writes slot 'd'. -/
theorem at_dst (d : Nat) {P : Program} {ops : Array Oper} {Q : Exit → Act → World → Prop} {rest : List Oper} {a : Act} {w : World} {op : Op} {ty : TypeId} {pos : String} {after : Array Edge} {g : Option (Nat × Bool)}
    (h : wpList P ops Q (⟨some d, op, ty, pos, after, g⟩ :: rest) a w) : wpList P ops Q (⟨some d, op, ty, pos, after, g⟩ :: rest) a w := h
/-- A guard: the operation that stands next is a store. -/
theorem at_store {P : Program} {ops : Array Oper} {Q : Exit → Act → World → Prop} {rest : List Oper} {a : Act} {w : World} {t : TypeId} {x y : Operand} {ty : TypeId} {pos : String} {after : Array Edge} {g : Option (Nat × Bool)}
    (h : wpList P ops Q (⟨none, .store t x y, ty, pos, after, g⟩ :: rest) a w) : wpList P ops Q (⟨none, .store t x y, ty, pos, after, g⟩ :: rest) a w := h

section
variable {P : Program}

theorem run_append_owned_nil (w : World) (base : Nat) (t ty e : TypeId) (i : TypeInfo) (size : Nat) (ht : P.underlying t = some (.slice e)) (hi : P.info? e = some i)
    (v : Value) (n : Nat) (xs : List Value) (hown : w.ownsRow base e size v n xs) (ao : Option Addr) (c : Nat) :
    (Builtin.append_ #[t, t] ty #[v, .slice ao 0 c]).run P w = .ok v w := by
  rcases hown.2 with ⟨rfl, rfl⟩ | ⟨g, cap, cur, rfl, _, _, hnc, _⟩
  · cases ao <;> simp [Builtin.append_, run_underlying ht, sizeOf, typeInfo, hi, Builtin.lenOf, Builtin.firstCells, loadCells, loadCellsFrom]
  · cases ao <;> simp [Builtin.append_, run_underlying ht, sizeOf, typeInfo, hi, Builtin.lenOf, Builtin.firstCells, hnc, storeCells, loadCells, loadCellsFrom]

/-- Where the array behind an append lies: it is the elder one, which alone was written; or it is new, and nothing was written. -/
def Moved (w w' : World) (v v' : Value) : Prop :=
  (v'.ownBlock = v.ownBlock ∧ w.grownBy w' v.ownBlock) ∨ (w.grownBy w' none ∧ v'.ownBlock = some w.heap.size)

theorem Moved.below {w w' : World} {v v' : Value} {base : Nat} (h : Moved w w' v v') (hv : ∀ k, v.ownBlock = some k → base ≤ k) (hb : base ≤ w.heap.size) : Below base w w' := by
  rcases h with ⟨_, hg⟩ | ⟨hg, _⟩
  · exact (Below.refl base w).grown hg hb hv
  · exact (Below.refl base w).grown hg hb (by intro k hk; cases hk)

theorem Moved.grown {w w' : World} {v v' : Value} (h : Moved w w' v v') : w.grownBy w' v.ownBlock := by
  rcases h with ⟨_, hg⟩ | ⟨hg, _⟩
  · exact hg
  · exact ⟨hg.os, hg.tape, hg.output, hg.size, fun k hk _ => hg.block k hk (by simp)⟩

/-- Another row of the call's own stays, if it lies in another block. -/
theorem Moved.kept {w w' : World} {v v' u : Value} {base n : Nat} {e : TypeId} {size : Nat} {xs : List Value} (h : Moved w w' v v') (hu : w.ownsRow base e size u n xs) (hne : u.ownBlock = none ∨ u.ownBlock ≠ v.ownBlock) :
    w'.ownsRow base e size u n xs := by
  rcases h with ⟨_, hg⟩ | ⟨hg, _⟩
  · exact hu.kept hg hne
  · exact hu.kept hg (by cases hk : u.ownBlock <;> simp)

theorem Moved.apart {w w' : World} {v v' u : Value} {base n : Nat} {e : TypeId} {size : Nat} {xs : List Value} (h : Moved w w' v v') (hu : w.ownsRow base e size u n xs) (hne : u.ownBlock = none ∨ u.ownBlock ≠ v.ownBlock) :
    u.ownBlock = none ∨ u.ownBlock ≠ v'.ownBlock := by
  rcases h with ⟨h1, _⟩ | ⟨_, h1⟩
  · rw [h1]; exact hne
  · cases hk : u.ownBlock with
    | none => exact .inl rfl
    | some k =>
      right
      rw [h1]
      have := (hu.lt k hk).2
      simp; omega

/-- What was read elsewhere reads on. -/
theorem Moved.rd {w w' : World} {v v' : Value} {a : Option Addr} {vs : List Value} (h : Moved w w' v v') (hr : Rd w a vs) (hne : ∀ b off, a = some ⟨b, off, none⟩ → v.ownBlock ≠ some b) : Rd w' a vs := by
  rcases hr with rfl | ⟨b, off, rfl, hc⟩
  · exact .inl rfl
  · refine .inr ⟨b, off, rfl, fun i u hu => ?_⟩
    have h1 := hc i u hu
    have hlt := World.block_lt_of_cell? w _ h1
    have hb : w'.heap[b]? = w.heap[b]? := by
      rcases h with ⟨_, hg⟩ | ⟨hg, _⟩
      · exact hg.block b hlt (fun e => hne b off rfl e.symm)
      · exact hg.block b hlt (by simp)
    rw [World.cell?_of_block (w := w) hb]
    exact h1

/-- 'append(s, x...)', s of the call's own, x whatever slice reads as 'news'. -/
theorem run_append_rd (w : World) (base : Nat) (t ty e : TypeId) (i : TypeInfo) (z : Value) (size bytes : Nat) (ht : P.underlying t = some (.slice e)) (hi : P.info? e = some i) (hz : i.zero = some z)
    (hsize : i.size = size) (hby : i.bytes = bytes) (hzs : z.cells.size = size) (hsz : 0 < size)
    (v : Value) (n : Nat) (xs : List Value) (hown : w.ownsRow base e size v n xs)
    (ao : Option Addr) (m c : Nat) (news : List Value) (hl : news.length = m * size) (hrd : Rd w ao news) (h1 : ∀ u ∈ news, u.oneCell' = true)
    (h63 : n + m ≤ maxLen) (hbytes : (n + m) * bytes ≤ 140737488355328) (hbase : base ≤ w.heap.size) :
    ∃ a' c' w', (Builtin.append_ #[t, t] ty #[v, .slice ao m c]).run P w = .ok (.slice a' (n + m) c') w' ∧ w'.ownsRow base e size (.slice a' (n + m) c') (n + m) (xs ++ news) ∧
      Moved w w' v (.slice a' (n + m) c') := by
  subst hsize
  subst hby
  by_cases hm : m = 0
  · subst hm
    obtain rfl : news = [] := List.eq_nil_of_length_eq_zero (by simpa using hl)
    obtain ⟨a', c', rfl⟩ := ownsRow_shape hown
    refine ⟨a', c', w, ?_, by simpa using hown, .inl ⟨?_, World.grownBy.refl _ _⟩⟩
    · exact run_append_owned_nil w base t ty e i i.size ht hi _ n xs hown ao c
    · cases a' <;> simp [Value.ownBlock]
  · have hne : news ≠ [] := by
      intro h; subst h
      have h2 := Nat.mul_pos (Nat.pos_of_ne_zero hm) hsz
      rw [← hl] at h2
      simp at h2
    obtain ⟨b, off, rfl, hc⟩ := hrd.cells hne
    have hnews : ∀ j u, news[j]? = some u → w.cell? ((⟨b, off, none⟩ : Addr).add j) = some u := fun j u hu => by
      rw [Addr.add_lit]
      obtain ⟨hj, rfl⟩ := List.getElem?_eq_some_iff.1 hu
      exact hc j hj
    have hsmall : n + m ≤ 9223372036854775807 := by simp only [maxLen] at h63; omega
    have hlen : (xs ++ news).length = (n + m) * i.size := by rw [List.length_append, hown.1, hl, Nat.add_mul]
    have grown : ∀ (old : Nat) (row : Option Nat),
        (w.drew.alloc (.cells (xs.toArray ++ news.toArray ++ Builtin.zeroCells z.cells (grownCap w (n + m) old e - (n + m))) e)).ownsRow base e i.size
          (.slice (some ⟨w.heap.size, 0, none⟩) (n + m) (grownCap w (n + m) old e)) (n + m) (xs ++ news) ∧
        w.grownBy (w.drew.alloc (.cells (xs.toArray ++ news.toArray ++ Builtin.zeroCells z.cells (grownCap w (n + m) old e - (n + m))) e)) row := by
      intro old row
      have hge := grownCap_ge w (n + m) old e
      have hcm := grownCap_le_maxLen w (n + m) old e h63
      refine ⟨⟨hlen, .inr ⟨w.heap.size, _, _, rfl, hbase, heap_alloc_new w.drew _, hge, hcm, ?_, ?_⟩⟩, ⟨rfl, rfl, rfl, by simp, fun k hk _ => Go.heap_alloc_old w.drew _ hk⟩⟩
      · rw [Array.size_append, Array.size_append, List.size_toArray, List.size_toArray, size_zeroCells, hzs, hown.1, hl, ← Nat.add_mul, ← Nat.add_mul, Nat.add_sub_cancel' hge]
      · rw [Array.toList_append, Array.toList_append, ← hlen]
        exact List.take_left
    rcases hown.2 with ⟨rfl, rfl⟩ | ⟨g, cap, cur, rfl, hbg, hg, hnc, hcm, hcs, htake⟩
    · obtain rfl : xs = [] := List.eq_nil_of_length_eq_zero (by simpa using hown.1)
      have hr := run_append_nil (P := P) w t ty e i z ht hi hz ⟨b, off, none⟩ m c news hl hnews (by omega) (by omega) (by simp only [Nat.zero_add] at hbytes; omega)
      have hgr := grown 0 none
      simp only [Nat.zero_add, List.nil_append, Array.empty_append] at hgr ⊢
      exact ⟨_, _, _, hr, hgr.1, .inr ⟨hgr.2, rfl⟩⟩
    · by_cases hroom : n + m ≤ cap
      · have hfit : n * i.size + news.length ≤ cur.size := by rw [hl, hcs, ← Nat.add_mul]; exact Nat.mul_le_mul_right _ hroom
        have hr := run_append_room (P := P) w t ty e i ht hi g n cap cur hg ⟨b, off, none⟩ m c news hl hnews h1 hroom hfit
        refine ⟨_, _, _, hr, ⟨hlen, .inr ⟨g, cap, _, rfl, hbg, setRow_heap w g cur _ e _ hg, hroom, hcm, ?_, ?_⟩⟩, .inl ⟨rfl, ⟨rfl, rfl, rfl, by simp, fun k _ hk => setRow_other w g k _ (fun e => hk (by simp [Value.ownBlock, e]))⟩⟩⟩
        · simp only [List.size_toArray, List.length_append, List.length_take, List.length_drop, Array.length_toList]
          omega
        · rw [htake, ← hlen]
          exact List.take_left
      · have holds : ∀ j u, xs[j]? = some u → w.cell? ((⟨g, 0, none⟩ : Addr).add j) = some u := hown.cells (g := g) rfl
        have hr := run_append_grow (P := P) w t ty e i z ht hi hz ⟨g, 0, none⟩ n cap xs hown.1 holds ⟨b, off, none⟩ m c news hl hnews (by omega) (by omega) (growslice_fits (by omega) hbytes)
        have hgr := grown cap none
        exact ⟨_, _, _, hr, hgr.1, .inr ⟨hgr.2, rfl⟩⟩

theorem wpList_append_rd (w : World) {ops : Array Oper} {rest : List Oper} {o : Oper} {a : Act} {Q : Exit → Act → World → Prop} (hgd : o.guard = none) (s x : Operand) (t : TypeId)
    (ho : o.op = .call { callee := .builtin .append, args := #[s, x], argTypes := #[t, t] })
    (base : Nat) (e : TypeId) (i : TypeInfo) (z : Value) (size bytes : Nat) (ht : P.underlying t = some (.slice e)) (hi : P.info? e = some i) (hz : i.zero = some z)
    (hsize : i.size = size) (hby : i.bytes = bytes) (hzs : z.cells.size = size) (hsz : 0 < size)
    (v : Value) (n : Nat) (xs : List Value) (hs : a.eval s = v) (hown : w.ownsRow base e size v n xs)
    (ao : Option Addr) (m c : Nat) (news : List Value) (hx : a.eval x = .slice ao m c) (hl : news.length = m * size) (hrd : Rd w ao news) (h1 : ∀ u ∈ news, u.oneCell' = true)
    (h63 : n + m ≤ maxLen) (hbytes : (n + m) * bytes ≤ 140737488355328) (hbase : base ≤ w.heap.size)
    (h : ∀ a' c' w', w'.ownsRow base e size (.slice a' (n + m) c') (n + m) (xs ++ news) → Below base w w' → Moved w w' v (.slice a' (n + m) c') →
      wpList P ops Q rest (a.put o.dst (.slice a' (n + m) c')) w') : wpList P ops Q (o :: rest) a w := by
  refine wpList_plain hgd fun K hK => ?_
  obtain ⟨a', c', w', hr, h2, h3⟩ := run_append_rd (P := P) w base t o.type e i z size bytes ht hi hz hsize hby hzs hsz v n xs hown ao m c news hl hrd h1 h63 hbytes hbase
  unfold Oper.wp execOp
  simp only [ho, resolve, invoke, builtin, Sem.run_bind, Sem.run_pure, Result.andThen_ok, List.map_toArray, List.map_cons, List.map_nil, hs, hx, hr]
  exact hK _ _ (h a' c' w' h2 (h3.below (fun k hk => (hown.lt k hk).1) hbase) h3)

/-- A block that was just made reads as its cells. -/
theorem rd_new (w : World) (cs : Array Value) (e : TypeId) : Rd (w.alloc (.cells cs e)) (some ⟨w.heap.size, 0, none⟩) cs.toList := by
  refine .inr ⟨_, 0, rfl, fun i u hu => ?_⟩
  rw [Nat.zero_add, World.cell?_alloc_new]
  simpa using hu

/-- 'append(s, x)' of one element, which lies in the block made just ahead of it. -/
theorem wpList_append_one (w : World) {ops : Array Oper} {rest : List Oper} {o : Oper} {a : Act} {Q : Exit → Act → World → Prop} (hgd : o.guard = none) (s x : Operand) (t : TypeId)
    (ho : o.op = .call { callee := .builtin .append, args := #[s, x], argTypes := #[t, t] })
    (base : Nat) (e : TypeId) (i : TypeInfo) (z : Value) (size bytes : Nat) (ht : P.underlying t = some (.slice e)) (hi : P.info? e = some i) (hz : i.zero = some z)
    (hsize : i.size = size) (hby : i.bytes = bytes) (hzs : z.cells.size = size) (hsz : 0 < size)
    (v : Value) (n : Nat) (xs : List Value) (cs : Array Value) (hs : a.eval s = v) (hown : w.ownsRow base e size v n xs)
    (hx : a.eval x = .slice (some ⟨w.heap.size, 0, none⟩) 1 1) (hl : cs.size = size) (h1 : ∀ u ∈ cs.toList, u.oneCell' = true)
    (h63 : n + 1 ≤ maxLen) (hbytes : (n + 1) * bytes ≤ 140737488355328) (hbase : base ≤ w.heap.size)
    (h : ∀ a' c' w', w'.ownsRow base e size (.slice a' (n + 1) c') (n + 1) (xs ++ cs.toList) → Below base w w' → Moved (w.alloc (.cells cs e)) w' v (.slice a' (n + 1) c') →
      wpList P ops Q rest (a.put o.dst (.slice a' (n + 1) c')) w') : wpList P ops Q (o :: rest) a (w.alloc (.cells cs e)) :=
  wpList_append_rd (P := P) _ hgd s x t ho base e i z size bytes ht hi hz hsize hby hzs hsz v n xs hs (hown.alloc _) (some ⟨w.heap.size, 0, none⟩) 1 1 cs.toList hx (by simpa using hl)
    (rd_new w cs e) h1 h63 hbytes (by simp; omega) (fun a' c' w' h2 h3 h4 => h a' c' w' h2 (((Below.refl base w).alloc hbase _).trans h3) h4)
end

/-- A byte in a cell. -/
def B (x : UInt8) : Value := .int .u8 (x.toNat : Int)
theorem B_oneCell (l : List UInt8) : ∀ u ∈ l.map B, u.oneCell' = true := by
  intro u hu
  obtain ⟨x, _, rfl⟩ := List.mem_map.1 hu
  rfl

/-- A slice of bytes that came in: its bytes, and how they are told. -/
theorem open_bytes {H : Type} {enc : TypeId × Value → H} {P : Program} {t e : TypeId} {W : World} {a : Option Addr} {n cap : Nat} {d : DataW H} {p : List MemPlace}
    (ht : P.underlying t = some (.slice e)) (he : P.underlying e = some (.int .u8)) (hc : P.cellsOf e = 1)
    (h : DataW.Trod enc P W 0 (fun _ => true) true t (.slice a n cap) d p) :
    ∃ l : List UInt8, l.length = n ∧ Rd W a (l.map B) ∧ (d = .nil ∧ n = 0 ∨ ∃ el sp, d = .slice el sp ∧ el.length = n) ∧ n ≤ cap := by
  obtain ⟨fuel, hf⟩ := h
  rcases open_ints ht he hc hf with ⟨hcs, hx⟩ | ⟨x, len, c, zs, hcs, _, hl, hm, hz, hx, hcell, hwz⟩
  · simp [Value.cells] at hcs
    obtain ⟨rfl, rfl, rfl⟩ := hcs
    simp only [Prod.mk.injEq] at hx
    exact ⟨[], rfl, .inl rfl, .inl ⟨hx.1, rfl⟩, Nat.le_refl _⟩
  · simp [Value.cells] at hcs
    obtain ⟨rfl, rfl, rfl⟩ := hcs
    simp only [if_true] at hz
    simp only [Prod.mk.injEq] at hx
    have hlen : (zs.take n).length = n := by simp; omega
    refine ⟨(zs.take n).map fun z => UInt8.ofNat z.toNat, by simpa using hlen, ?_, .inr ⟨_, _, hx.1, by simpa [lits] using hlen⟩, hl⟩
    by_cases hn : n = 0
    · left; subst hn; simp
    · right
      obtain ⟨b, off, spot⟩ := x
      have hc0 := hcell 0 (by omega)
      have hspot : spot = none := by simpa [Addr.add] using World.cell?_spot hc0
      subst hspot
      refine ⟨b, off, rfl, fun i u hu => ?_⟩
      have hi : i < n := by
        have := (List.getElem?_eq_some_iff.1 hu).1
        simp only [List.length_map, hlen] at this
        exact this
      have hzi : i < zs.length := by omega
      have h1 := hcell i hzi
      rw [Addr.add_lit] at h1
      rw [h1]
      have hw := hwz _ (List.getElem_mem hzi)
      have e1 : zs.getD i 0 = zs[i] := by simp [hzi]
      rw [e1]
      simp only [List.map_map, List.getElem?_map, List.getElem?_take, if_pos hi, List.getElem?_eq_getElem hzi, Option.map_some, Function.comp_apply, Option.some.injEq] at hu
      rw [← hu, B]
      simp [Lit.wf, IntKind.min, IntKind.max, IntKind.bits, IntKind.signed] at hw
      have hb : (UInt8.ofNat zs[i].toNat).toNat = zs[i].toNat := by
        rw [UInt8.toNat_ofNat']
        omega
      rw [hb]
      congr 2
      omega

end Go.Proofs.Ytaipnbpefdcejaa
/- The walks of the wire's leaves: copied, Same. -/
set_option linter.unusedVariables false
namespace Go.Proofs.Ytaipnbpefdcejaa
open Go.RowKit
theorem info5 : (Try.prog.info? 5).map (fun i => (i.zero, i.size, i.bytes)) = some (some (.int .u8 0), 1, 1) := by kernel_rfl
theorem ret_val {v v' : Value} (h : v = v') : Ending.returned v = .returned v' := by rw [h]
theorem take_snoc {α : Type} (l : List α) (k : Nat) (h : k < l.length) : l.take (k + 1) = l.take k ++ [l[k]] := by
  rw [List.take_succ_eq_append_getElem h]
theorem neq_of {a b : Int} (h : a = b) : (a != b) = false := by simp [h]
theorem neq_of' {a b : Int} (h : a ≠ b) : (a != b) = true := by simp [h]
theorem eql_of {a b : Int} (h : a = b) : (a == b) = true := by simp [h]
theorem eql_of' {a b : Int} (h : a ≠ b) : (a == b) = false := by simp [h]

/-- The first k bytes are the same. -/
def Alk (l m : List UInt8) (k : Nat) : Prop := l.take k = m.take k

theorem same_any (a b : Option Addr) (cap cap2 : Nat) (l m : List UInt8) (w : World) (hl : l.length ≤ 140737488355328) (h : Rd w a (l.map B)) (h2 : Rd w b (m.map B)) :
    Calls Try.prog 19 #[.slice a l.length cap, .slice b m.length cap2] w fun e w' => e = .returned (.bool (l == m)) ∧ ∃ n, w' = w.drewN n := by
  by_cases hlen : l.length = m.length
  · have hd : ((l.length : Int) != m.length) = false := by simp [hlen]
    have H := Lib.hid hlen
    clear hlen
    go_enter Try.func19, Try.ntmps19
    go_wp2
    go_loopw [5] (fun i wr => ∃ k n : Nat, k ≤ l.length ∧ i = .int .i64 k ∧ Alk l m k ∧ wr = w.drewN n) (fun i _ => l.length - (intOf i).toNat)
    case atStart => exact ⟨0, 0, Nat.zero_le _, rfl, rfl, rfl⟩
    case round =>
      obtain ⟨k, n, hk, rfl, hal, rfl⟩ := hrel
      have HA := Lib.hid hal
      clear hal
      by_cases hlt : k < l.length
      · have hltm : k < m.length := by have := H.out; omega
        obtain ⟨b1, off1, rfl, hc⟩ := h.cells (by intro h; simp at h; subst h; simp at hlt)
        have hc' := hc k (by simpa using hlt)
        have hb := (l[k]).toNat_lt
        rw [List.getElem_map, B] at hc'
        obtain ⟨b2, off2, rfl, hd2⟩ := h2.cells (by intro h; simp at h; subst h; simp at hltm)
        have hd2' := hd2 k (by simpa using hltm)
        have hb2 := (m[k]).toNat_lt
        rw [List.getElem_map, B] at hd2'
        clear hc hd2
        have hlt' : (k : Int) < l.length := by omega
        have hlt2' : (k : Int) < m.length := by omega
        by_cases hx : l[k] = m[k]
        · have hxx : (((l[k]).toNat : Int) != ((m[k]).toNat : Int)) = false := by simp [hx]
          have HX := Lib.hid hx
          clear hx
          go_wp2_with (go_quiet (fail))
          go_roundw
          case rel => exact ⟨k + 1, _, by omega, by go_num, by unfold Alk; rw [take_snoc l k hlt, take_snoc m k hltm, HX.out]; rw [show l.take k = m.take k from HA.out], rfl⟩
          case measure => simp [intOf]; omega
        · have hxx : (((l[k]).toNat : Int) != ((m[k]).toNat : Int)) = true := by simp; exact fun h => hx (UInt8.toNat_inj.1 (by omega))
          have HX := Lib.hid hx
          clear hx
          go_wp2_with (go_quiet (fail))
          go_ret
          refine ⟨ret_val ?_, _, World.drewN_drewN _ _ _⟩
          have hne : l ≠ m := by intro he; exact HX.out (by simp [he])
          simp [hne]
      · have hd : ¬ (k : Int) < l.length := by omega
        go_wp2
        go_ret
        refine ⟨ret_val ?_, n, rfl⟩
        have h3 : l.take k = m.take k := HA.out
        rw [List.take_of_length_le (by omega), List.take_of_length_le (by have := H.out; omega)] at h3
        simp [h3]
  · have hd : ((l.length : Int) != m.length) = true := by simp; omega
    have H := Lib.hid hlen
    clear hlen
    go_enter Try.func19, Try.ntmps19
    go_wp2
    go_ret
    refine ⟨ret_val ?_, 0, rfl⟩
    have hne : l ≠ m := by intro he; exact H.out (by simp [he])
    simp [hne]
/-- Draws turn no block. -/
theorem below_draws {B n : Nat} (w : World) : Below B w (w.drewN n) := ⟨rfl, rfl, rfl, Nat.le_refl _, fun _ _ => rfl⟩

theorem same_b (a b : Option Addr) (cap cap2 : Nat) (l m : List UInt8) (w : World) (hl : l.length ≤ 140737488355328) (h : Rd w a (l.map B)) (h2 : Rd w b (m.map B)) :
    Calls Try.prog 19 #[.slice a l.length cap, .slice b m.length cap2] w fun e w' => e = .returned (.bool (l == m)) ∧ Below w.heap.size w w' :=
  (same_any a b cap cap2 l m w hl h h2).mono fun e w' ⟨he, n, hn⟩ => ⟨he, hn ▸ below_draws w⟩
/-- 'append(s, x...)' of bytes. -/
theorem app_b (w : World) {ops : Array Oper} {rest : List Oper} {o : Oper} {a : Act} {Q : Exit → Act → World → Prop} (hgd : o.guard = none) (s x : Operand)
    (ho : o.op = .call { callee := .builtin .append, args := #[s, x], argTypes := #[23, 23] }) (base : Nat) (v : Value) (n : Nat) (l1 : List UInt8) (hs : a.eval s = v) (hown : w.ownsRow base 5 1 v n (l1.map B))
    (ao : Option Addr) (m c : Nat) (l2 : List UInt8) (hx : a.eval x = .slice ao m c) (hl : l2.length = m) (hrd : Rd w ao (l2.map B)) (hb : n + m ≤ 140737488355328) (hbase : base ≤ w.heap.size)
    (h : ∀ a' c' w', w'.ownsRow base 5 1 (.slice a' (n + m) c') (n + m) ((l1 ++ l2).map B) → Below base w w' → Moved w w' v (.slice a' (n + m) c') →
      wpList Try.prog ops Q rest (a.put o.dst (.slice a' (n + m) c')) w') : wpList Try.prog ops Q (o :: rest) a w := by
  obtain ⟨i0, hi, hz0, hz1, hz2⟩ := info_parts info5
  refine wpList_append_rd w hgd s x 23 ho base 5 i0 (.int .u8 0) 1 1 Try.underlying23 hi hz0 hz1 hz2 rfl (by decide) v n _ hs hown ao m c _ hx (by simp [hl]) hrd (B_oneCell l2) (by unfold maxLen; omega) (by omega) hbase ?_
  intro a' c' w' h1 h2 h3
  rw [← List.map_append] at h1
  exact h a' c' w' h1 h2 h3

/-- 'append(s, x)' of one byte. -/
theorem app_b1 (w : World) {ops : Array Oper} {rest : List Oper} {o : Oper} {a : Act} {Q : Exit → Act → World → Prop} (hgd : o.guard = none) (s x : Operand)
    (ho : o.op = .call { callee := .builtin .append, args := #[s, x], argTypes := #[23, 23] }) (base : Nat) (v : Value) (n : Nat) (l1 : List UInt8) (hs : a.eval s = v) (hown : w.ownsRow base 5 1 v n (l1.map B))
    (y : Value) (u : UInt8) (hy : y = B u) (hx : a.eval x = .slice (some ⟨w.heap.size, 0, none⟩) 1 1) (hb : n + 1 ≤ 140737488355328) (hbase : base ≤ w.heap.size)
    (h : ∀ a' c' w', w'.ownsRow base 5 1 (.slice a' (n + 1) c') (n + 1) ((l1 ++ [u]).map B) → Below base w w' → Moved (w.alloc (.cells #[y] 5)) w' v (.slice a' (n + 1) c') →
      wpList Try.prog ops Q rest (a.put o.dst (.slice a' (n + 1) c')) w') : wpList Try.prog ops Q (o :: rest) a (w.alloc (.cells #[y] 5)) := by
  subst hy
  obtain ⟨i0, hi, hz0, hz1, hz2⟩ := info_parts info5
  refine wpList_append_one w hgd s x 23 ho base 5 i0 (.int .u8 0) 1 1 Try.underlying23 hi hz0 hz1 hz2 rfl (by decide) v n _ _ hs hown hx rfl (by intro z hz; simp at hz; subst hz; rfl) (by unfold maxLen; omega) (by omega) hbase ?_
  intro a' c' w' h1 h2 h3
  exact h a' c' w' (by simpa using h1) h2 h3

theorem own_cap {w : World} {base e size n m : Nat} {a : Option Addr} {c : Nat} {xs : List Value} (h : w.ownsRow base e size (.slice a n c) m xs) : n ≤ c := by
  rcases h.2 with ⟨h1, _⟩ | ⟨g, cap, cur, h1, _, _, hle, _⟩
  · cases h1; exact Nat.le_refl _
  · cases h1; exact hle
theorem same_n (a b : Option Addr) (cap cap2 n n2 : Nat) (l m : List UInt8) (w : World) (hn : l.length = n) (hn2 : m.length = n2) (hl : n ≤ 140737488355328) (h : Rd w a (l.map B)) (h2 : Rd w b (m.map B)) :
    Calls Try.prog 19 #[.slice a n cap, .slice b n2 cap2] w fun e w' => e = .returned (.bool (l == m)) ∧ Below w.heap.size w w' := by
  subst hn; subst hn2; exact same_b a b cap cap2 l m w hl h h2
theorem copied_n (a : Option Addr) (cap n : Nat) (l : List UInt8) (w : World) (hn : l.length = n) (hl : n ≤ 140737488355328) (h : Rd w a (l.map B)) :
    Calls Try.prog 14 #[.slice a n cap] w fun e w' => ∃ a' c', e = .returned (.slice a' n c') ∧ w'.ownsRow w.heap.size 5 1 (.slice a' n c') n (l.map B) ∧ Below w.heap.size w w' := by
  go_enter Try.func14, Try.ntmps14
  go_wp2_with (first | (at_builtin; refine app_b w rfl _ _ rfl w.heap.size (.slice none 0 0) 0 [] rfl (World.ownsRow_nil _ _ _ _) a n cap l rfl hn h (by omega) (Nat.le_refl _) ?_; intro a' c' w' hown hbel _; simp only [Nat.zero_add, List.nil_append] at hown ⊢) | fail)
  go_ret
  exact ⟨a', c', rfl, hown, hbel⟩
end Go.Proofs.Ytaipnbpefdcejaa
/- Plain facts on a number's groups of seven bits. No program in sight. -/
set_option linter.unusedVariables false
namespace Go.Proofs.Ytaipnbpefdcejaa
open Go.RowKit

/-- The groups' number, the lowest first. -/
def numB : List UInt8 → Nat
  | [] => 0
  | c :: l => c.toNat % 128 + 128 * numB l
theorem numB_append (l m : List UInt8) : numB (l ++ m) = numB l + 128 ^ l.length * numB m := by
  induction l with
  | nil => simp [numB]
  | cons c l ih =>
    simp only [List.cons_append, numB, ih, List.length_cons, Nat.pow_succ]
    rw [Nat.mul_add, ← Nat.mul_assoc, Nat.mul_comm 128 (128 ^ l.length), Nat.add_assoc]
theorem numB_take (l : List UInt8) (k : Nat) (h : k < l.length) : numB (l.take (k + 1)) = numB (l.take k) + 128 ^ k * (l[k].toNat % 128) := by
  rw [take_snoc l k h, numB_append, List.length_take, Nat.min_eq_left (by omega)]
  simp [numB]
theorem numB_lt (l : List UInt8) : numB l < 128 ^ l.length := by
  induction l with
  | nil => simp [numB]
  | cons c l ih =>
    simp only [numB, List.length_cons, Nat.pow_succ]
    omega
theorem numB_drop (l : List UInt8) (k : Nat) (h : k < l.length) : numB (l.drop k) = l[k].toNat % 128 + 128 * numB (l.drop (k + 1)) := by
  rw [List.drop_eq_getElem_cons h, numB]
theorem numB_drop_le (l : List UInt8) (k : Nat) : numB (l.drop k) ≤ numB l := by
  conv => rhs; rw [← List.take_append_drop k l, numB_append]
  have : 1 ≤ 128 ^ (l.take k).length := Nat.one_le_pow _ _ (by omega)
  have h2 := Nat.mul_le_mul_right (numB (l.drop k)) this
  omega

/-- The last of the number's groups. -/
def IsLast (s : List UInt8) (j : Nat) : Prop :=
  j ≤ 9 ∧ j ≤ s.length ∧ (∀ i (h : i < s.length), i < j → 128 ≤ s[i].toNat) ∧ (∀ h : j < s.length, j < 9 → s[j].toNat < 128)
theorem IsLast.unique {s : List UInt8} {j k : Nat} (h : IsLast s j) (h' : IsLast s k) : j = k := by
  obtain ⟨h1, h2, h3, h4⟩ := h
  obtain ⟨g1, g2, g3, g4⟩ := h'
  rcases Nat.lt_trichotomy j k with hlt | heq | hgt
  · have := h4 (by omega) (by omega)
    have := g3 j (by omega) hlt
    omega
  · exact heq
  · have := g4 (by omega) (by omega)
    have := h3 k (by omega) hgt
    omega
def badAt (s : List UInt8) (j : Nat) : Prop := j = 9 ∧ 1 < (s.getD j 0).toNat ∨ 0 < j ∧ (s.getD j 0).toNat = 0
instance (s : List UInt8) (j : Nat) : Decidable (badAt s j) := by unfold badAt; infer_instance
/-- What is read, the last group known: the number, how many bytes, the error. -/
def uintOf (s : List UInt8) (j : Nat) : Nat × Nat × Nat :=
  if s.length ≤ j then (0, 0, 210) else if badAt s j then (0, 0, 211) else (numB (s.take (j + 1)), j + 1, 0)
theorem uint_small {s : List UInt8} {j : Nat} (h9 : j ≤ 9) (hj : j < s.length) (hb : ¬ badAt s j) : numB (s.take (j + 1)) < 18446744073709551616 := by
  have e : s.getD j 0 = s[j] := by simp [hj]
  by_cases h : j = 9
  · subst h
    have h1 : ¬ 1 < (s[9]).toNat := fun h => hb (.inl ⟨rfl, by rw [e]; exact h⟩)
    rw [numB_take s 9 hj]
    have h2 := numB_lt (s.take 9)
    rw [List.length_take, Nat.min_eq_left (by omega)] at h2
    have h3 : (s[9]).toNat % 128 ≤ 1 := by omega
    have : (128 : Nat) ^ 9 = 9223372036854775808 := by decide
    rw [this] at h2 ⊢
    omega
  · have h2 := numB_lt (s.take (j + 1))
    rw [List.length_take, Nat.min_eq_left (by omega)] at h2
    have h3 : (128 : Nat) ^ (j + 1) ≤ 128 ^ 9 := Nat.pow_le_pow_right (by omega) (by omega)
    have : (128 : Nat) ^ 9 = 9223372036854775808 := by decide
    omega
theorem bits_and7 (x : Nat) (hx : x < 256) : bits .and .u8 (x : Int) 127 = ((x % 128 : Nat) : Int) := by
  have h1 : (BitVec.ofInt 8 (x : Int)).toNat = x := by
    rw [BitVec.ofInt_natCast, BitVec.toNat_ofNat]; exact Nat.mod_eq_of_lt (by omega)
  have h2 : (BitVec.ofInt 8 (127 : Int)).toNat = 127 := by decide
  show IntKind.u8.wrap ((BitVec.ofInt 8 (x : Int) &&& BitVec.ofInt 8 127).toNat : Int) = _
  rw [BitVec.toNat_and, h1, h2, IntKind.wrap_u8]
  have : x &&& 127 = x % 128 := Nat.and_two_pow_sub_one_eq_mod x 7
  rw [this]
  omega
theorem group_step (v x k : Nat) (hx : x < 256) (hv : v < 128 ^ k) (hs : v + 128 ^ k * (x % 128) < 18446744073709551616) :
    bits .or .u64 (v : Int) (IntKind.u64.wrap (IntKind.u64.wrap (bits .and .u8 (x : Int) 127) * 2 ^ (7 * k))) = ((v + 128 ^ k * (x % 128) : Nat) : Int) := by
  have hp : (128 : Nat) ^ k = 2 ^ (7 * k) := by rw [show (128 : Nat) = 2 ^ 7 from rfl, ← Nat.pow_mul]
  rw [bits_and7 x hx]
  have e1 : IntKind.u64.wrap ((x % 128 : Nat) : Int) = ((x % 128 : Nat) : Int) := by rw [IntKind.wrap_u64]; omega
  rw [e1]
  have e2 : ((x % 128 : Nat) : Int) * 2 ^ (7 * k) = ((128 ^ k * (x % 128) : Nat) : Int) := by
    rw [hp]; push_cast; rw [Int.mul_comm]
  rw [e2]
  obtain ⟨y, hy⟩ : ∃ y, y = 128 ^ k * (x % 128) := ⟨_, rfl⟩
  rw [← hy] at hs ⊢
  have e3 : IntKind.u64.wrap (y : Int) = (y : Int) := by rw [IntKind.wrap_u64]; omega
  rw [e3, bits_or_u64_nat v y (by omega) (by omega)]
  congr 1
  have e4 : y = (x % 128) <<< (7 * k) := by rw [hy, hp, Nat.shiftLeft_eq, Nat.mul_comm]
  rw [e4, Nat.or_comm, ← Nat.shiftLeft_add_eq_or_of_lt (by rw [← hp]; exact hv), Nat.add_comm]
end Go.Proofs.Ytaipnbpefdcejaa
/- The walks of wire.Uint and of the reference's Uint. -/
set_option linter.unusedVariables false
namespace Go.Proofs.Ytaipnbpefdcejaa
open Go.RowKit
def T3 (v e f : Int) : Value := .tuple #[.int .u64 v, .int .i64 e, .int .i64 f]
/-- What a read answers, the last group known. -/
def uAns (s : List UInt8) (pos : Int) (j : Nat) : Value := if (uintOf s j).2.2 = 0 then T3 (uintOf s j).1 (pos + (uintOf s j).2.1) 0 else T3 0 0 (uintOf s j).2.2
def UPost (l : List UInt8) (pos : Int) (e : Ending) : Prop :=
  (pos < 0 ∨ (l.length : Int) < pos) ∧ e = .returned (T3 0 0 210) ∨ (0 ≤ pos ∧ pos ≤ l.length) ∧ ∃ j, IsLast (l.drop pos.toNat) j ∧ e = .returned (uAns (l.drop pos.toNat) pos j)

theorem uAns_more {s : List UInt8} {pos : Int} {j : Nat} (h : s.length ≤ j) : uAns s pos j = T3 0 0 210 := by simp [uAns, uintOf, h]
theorem uAns_bad {s : List UInt8} {pos : Int} {j : Nat} (h : j < s.length) (hb : badAt s j) : uAns s pos j = T3 0 0 211 := by
  simp [uAns, uintOf, hb, Nat.not_le.2 h]
theorem uAns_ok {s : List UInt8} {pos : Int} {j : Nat} (h : j < s.length) (hb : ¬ badAt s j) : uAns s pos j = T3 (numB (s.take (j + 1))) (pos + ((j + 1 : Nat) : Int)) 0 := by
  simp [uAns, uintOf, hb, Nat.not_le.2 h]

set_option maxRecDepth 20000 in
theorem uint_any (a : Option Addr) (cap n : Nat) (l : List UInt8) (pos : Int) (w : World) (hn : l.length = n) (hmax : n ≤ 140737488355328) (hp : -9223372036854775808 ≤ pos ∧ pos ≤ 9223372036854775807) (h : Rd w a (l.map B)) :
    Calls Try.prog 15 #[.slice a n cap, .int .i64 pos] w fun e w' => UPost l pos e ∧ w = w' := by
  have HN := Lib.hid hn
  clear hn
  by_cases hout : pos < 0 ∨ (n : Int) < pos
  · go_enter Try.func15, Try.ntmps15
    rcases hout with h1 | h1
    · go_wp2
      go_ret3
      exact ⟨.inl ⟨.inl h1, rfl⟩, rfl⟩
    · have hg : ¬ pos < 0 := by omega
      go_wp2
      go_ret3
      exact ⟨.inl ⟨.inr (by rw [HN.out]; exact h1), rfl⟩, rfl⟩
  · obtain ⟨p, rfl⟩ : ∃ p : Nat, pos = (p : Int) := ⟨pos.toNat, by omega⟩
    have hpn : p ≤ n := by omega
    clear hout
    obtain ⟨s, hs⟩ : ∃ s, s = l.drop p := ⟨_, rfl⟩
    have hsl : s.length + p = n := by rw [hs, List.length_drop, HN.out]; omega
    have HS := Lib.hid hs
    have hin : ∀ e j, IsLast s j → e = .returned (uAns s (p : Int) j) → UPost l (p : Int) e := fun e j h1 h2 => .inr ⟨⟨by omega, by rw [HN.out]; omega⟩, j, by simpa [← HS.out] using h1, by simpa [← HS.out] using h2⟩
    have HIN := Lib.hid hin
    clear hin hs
    have hpp : ¬ (n : Int) < p := by omega
    go_enter Try.func15, Try.ntmps15
    go_wp2
    go_loop [7, 8, 9] (fun v i _c => ∃ k : Nat, k ≤ 9 ∧ k + p ≤ n ∧ i = .int .i64 (k : Int) ∧ v = .int .u64 (numB (s.take k) : Int) ∧ (∀ i (h : i < s.length), i < k → 128 ≤ s[i].toNat)) (fun _ i _ => 10 - (intOf i).toNat)
    case atStart => exact ⟨0, by omega, by omega, rfl, rfl, fun i _ h => by omega⟩
    case round =>
      obtain ⟨k, hk9, hkn, rfl, rfl, hall⟩ := hrel
      by_cases hlt : k + p < n
      · have hkl : k < s.length := by omega
        have hpl : p + k < l.length := by rw [HN.out]; omega
        obtain ⟨b, off, rfl, hcs⟩ := h.cells (by intro h0; rw [List.map_eq_nil_iff] at h0; rw [h0] at hpl; simp at hpl)
        have hc := hcs (p + k) (by rw [List.length_map]; exact hpl)
        have hsk : l[p + k] = s[k] := by
          have h1 : s[k]? = l[p + k]? := by rw [HS.out, List.getElem?_drop]
          rw [List.getElem?_eq_getElem hkl, List.getElem?_eq_getElem hpl] at h1
          exact (Option.some.inj h1).symm
        rw [List.getElem_map, hsk, B] at hc
        have hcb := (s[k]).toNat_lt
        have hgd : s.getD k 0 = s[k] := by simp [hkl]
        have hnt := numB_take s k hkl
        have hlt' : (p : Int) + k < n := by omega
        have htn : ((p : Int) + k).toNat = p + k := by omega
        obtain ⟨c, hcc⟩ : ∃ c, c = s[k] := ⟨_, rfl⟩
        rw [← hcc] at hc hcb hgd hnt
        obtain ⟨x, hx⟩ : ∃ x, x = c.toNat := ⟨_, rfl⟩
        rw [← hx] at hc hcb hnt
        have HX := Lib.hid hx
        have HC := Lib.hid hcc
        have HG := Lib.hid hgd
        have HT := Lib.hid hnt
        have HA := Lib.hid hall
        clear hcs hsk hx hcc hgd hnt hall
        by_cases hb1 : k = 9 ∧ 1 < x
        · obtain ⟨rfl, h1⟩ := hb1
          have h1' : (1 : Int) < x := by omega
          go_wp2
          go_ret3
          refine ⟨HIN.out _ 9 ⟨by omega, by omega, HA.out, fun _ h => by omega⟩ ?_, rfl⟩
          rw [uAns_bad hkl (.inl ⟨rfl, by rw [HG.out, ← HX.out]; exact h1⟩)]
          rfl
        · by_cases hb2 : 0 < k ∧ x = 0
          · obtain ⟨h1, rfl⟩ := hb2
            have h1' : (0 : Int) < k := by omega
            by_cases hk : k = 9
            · subst hk
              go_wp2
              go_ret3
              refine ⟨HIN.out _ 9 ⟨by omega, by omega, HA.out, fun _ h => by omega⟩ ?_, rfl⟩
              rw [uAns_bad hkl (.inr ⟨by omega, by rw [HG.out, ← HX.out]⟩)]
              rfl
            · have hk' := eql_of' (a := (k : Int)) (b := 9) (by omega)
              go_wp2
              go_ret3
              refine ⟨HIN.out _ k ⟨by omega, by omega, HA.out, fun _ _ => by rw [← HC.out, ← HX.out]; omega⟩ ?_, rfl⟩
              rw [uAns_bad hkl (.inr ⟨by omega, by rw [HG.out, ← HX.out]⟩)]
              rfl
          · have hnb : ¬ badAt s k := by
              rintro (⟨h1, h2⟩ | ⟨h1, h2⟩)
              · rw [HG.out, ← HX.out] at h2; exact hb1 ⟨h1, h2⟩
              · rw [HG.out, ← HX.out] at h2; exact hb2 ⟨h1, h2⟩
            have HNB := Lib.hid hnb
            have hsm := uint_small hk9 hkl hnb
            have hvb : numB (s.take k) < 128 ^ k := by
              have := numB_lt (s.take k)
              rw [List.length_take, Nat.min_eq_left (by omega)] at this
              exact this
            have hgs := group_step (numB (s.take k)) x k (by omega) hvb (by rw [← HT.out]; exact hsm)
            rw [← HT.out] at hgs
            have HGS := Lib.hid hgs
            clear hsm hvb hgs
            by_cases hx128 : x < 128
            · have hx' : (x : Int) < 128 := by omega
              have hfin : IsLast s k := ⟨by omega, by omega, HA.out, fun _ _ => by rw [← HC.out, ← HX.out]; omega⟩
              have HF := Lib.hid hfin
              clear hfin
              by_cases hk : k = 9
              · have hk' := eql_of (a := (k : Int)) (b := 9) (by omega)
                have hx1 : ¬ (1 : Int) < x := by omega
                have hk0' : (0 : Int) < k := by omega
                have hx0 := eql_of' (a := (x : Int)) (b := 0) (by omega)
                clear hk
                go_wp2
                go_ret3
                refine ⟨HIN.out _ k HF.out ?_, rfl⟩
                rw [uAns_ok hkl HNB.out, ← HGS.out]
                simp [T3]
                omega
              · have hk' := eql_of' (a := (k : Int)) (b := 9) (by omega)
                by_cases hk0 : k = 0
                · have hk0' : ¬ (0 : Int) < k := by omega
                  clear hk0
                  go_wp2
                  go_ret3
                  refine ⟨HIN.out _ k HF.out ?_, rfl⟩
                  rw [uAns_ok hkl HNB.out, ← HGS.out]
                  simp [T3]
                  omega
                · have hk0' : (0 : Int) < k := by omega
                  have hx0 := eql_of' (a := (x : Int)) (b := 0) (by omega)
                  go_wp2
                  go_ret3
                  refine ⟨HIN.out _ k HF.out ?_, rfl⟩
                  rw [uAns_ok hkl HNB.out, ← HGS.out]
                  simp [T3]
                  omega
            · have hx' : ¬ (x : Int) < 128 := by omega
              have hk8 : k ≠ 9 := by omega
              have hk' := eql_of' (a := (k : Int)) (b := 9) (by omega)
              have hx0 := eql_of' (a := (x : Int)) (b := 0) (by omega)
              have hall2 : ∀ i (h : i < s.length), i < k + 1 → 128 ≤ s[i].toNat := by
                intro i h1 h2
                by_cases h3 : i = k
                · subst h3; rw [← HC.out, ← HX.out]; omega
                · exact HA.out i h1 (by omega)
              have HA2 := Lib.hid hall2
              clear hall2
              by_cases hk0 : k = 0
              · have hk0' : ¬ (0 : Int) < k := by omega
                clear hk0
                go_wp2
                go_round
                case rel => exact ⟨k + 1, by omega, by omega, by go_num, by rw [← HGS.out], HA2.out⟩
                case measure => simp [intOf]; omega
              · have hk0' : (0 : Int) < k := by omega
                go_wp2
                go_round
                case rel => exact ⟨k + 1, by omega, by omega, by go_num, by rw [← HGS.out], HA2.out⟩
                case measure => simp [intOf]; omega
      · have hge : ¬ (p : Int) + k < n := by omega
        have hkl : s.length ≤ k := by omega
        go_wp2
        go_ret3
        refine ⟨HIN.out _ k ⟨by omega, by omega, hall, fun h => by omega⟩ ?_, rfl⟩
        rw [uAns_more hkl]
        rfl
end Go.Proofs.Ytaipnbpefdcejaa
/- The walk of the reference's Uint. -/
set_option linter.unusedVariables false
namespace Go.Proofs.Ytaipnbpefdcejaa
open Go.RowKit

set_option maxRecDepth 20000 in
set_option maxHeartbeats 1000000 in
theorem ruint_any (a : Option Addr) (cap n : Nat) (l : List UInt8) (pos : Int) (w : World) (hn : l.length = n) (hmax : n ≤ 140737488355328) (hp : -9223372036854775808 ≤ pos ∧ pos ≤ 9223372036854775807) (h : Rd w a (l.map B)) :
    Calls Try.prog 16 #[.slice a n cap, .int .i64 pos] w fun e w' => UPost l pos e ∧ Below w.heap.size w w' := by
  have HN := Lib.hid hn
  clear hn
  by_cases hout : pos < 0 ∨ (n : Int) < pos
  · go_enter Try.func16, Try.ntmps16
    rcases hout with h1 | h1
    · go_wp2
      go_ret3
      exact ⟨.inl ⟨.inl h1, rfl⟩, Below.refl _ _⟩
    · have hg : ¬ pos < 0 := by omega
      go_wp2
      go_ret3
      exact ⟨.inl ⟨.inr (by rw [HN.out]; exact h1), rfl⟩, Below.refl _ _⟩
  · obtain ⟨p, rfl⟩ : ∃ p : Nat, pos = (p : Int) := ⟨pos.toNat, by omega⟩
    have hpn : p ≤ n := by omega
    clear hout
    obtain ⟨s, hs⟩ : ∃ s, s = l.drop p := ⟨_, rfl⟩
    have hsl : s.length + p = n := by rw [hs, List.length_drop, HN.out]; omega
    have HS := Lib.hid hs
    have hin : ∀ e j, IsLast s j → e = .returned (uAns s (p : Int) j) → UPost l (p : Int) e := fun e j h1 h2 => .inr ⟨⟨by omega, by rw [HN.out]; omega⟩, j, by simpa [← HS.out] using h1, by simpa [← HS.out] using h2⟩
    have HIN := Lib.hid hin
    clear hin hs
    have hpp : ¬ (n : Int) < p := by omega
    have hcell : ∀ j, j < s.length → ∃ b off, a = some ⟨b, off, none⟩ ∧ ∀ i (hi : i < s.length), w.cell? ⟨b, off + (p + i), none⟩ = some (.int .u8 (s[i].toNat : Int)) := by
      intro j hj
      have hpl : p + j < l.length := by rw [HN.out]; omega
      obtain ⟨b, off, rfl, hcs⟩ := h.cells (by intro h0; rw [List.map_eq_nil_iff] at h0; rw [h0] at hpl; simp at hpl)
      refine ⟨b, off, rfl, fun i hi => ?_⟩
      have hpi : p + i < l.length := by rw [HN.out]; omega
      have hc := hcs (p + i) (by rw [List.length_map]; exact hpi)
      have hsk : l[p + i] = s[i] := by
        have h1 : s[i]? = l[p + i]? := by rw [HS.out, List.getElem?_drop]
        rw [List.getElem?_eq_getElem hi, List.getElem?_eq_getElem hpi] at h1
        exact (Option.some.inj h1).symm
      rw [List.getElem_map, hsk, B] at hc
      exact hc
    have HCELL := Lib.hid hcell
    clear hcell
    go_enter Try.func16, Try.ntmps16
    go_wp2
    go_loop [7] (fun i => ∃ k : Nat, k ≤ 9 ∧ k + p ≤ n ∧ i = .int .i64 ((p : Int) + k) ∧ (∀ i (h : i < s.length), i < k → 128 ≤ s[i].toNat)) (fun i => p + 10 - (intOf i).toNat)
    case atStart => exact ⟨0, by omega, by omega, by simp, fun i _ h => by omega⟩
    case round =>
      obtain ⟨k, hk9, hkn, rfl, hall⟩ := hrel
      by_cases hlt : k + p < n
      · have hkl : k < s.length := by omega
        obtain ⟨b, off, rfl, hcs⟩ := HCELL.out k hkl
        have hc := hcs k hkl
        have HCS := Lib.hid hcs
        have hcb := (s[k]).toNat_lt
        have hgd : s.getD k 0 = s[k] := by simp [hkl]
        have hlt' : (p : Int) + k < n := by omega
        have htn : ((p : Int) + k).toNat = p + k := by omega
        obtain ⟨c, hcc⟩ : ∃ c, c = s[k] := ⟨_, rfl⟩
        rw [← hcc] at hc hcb hgd
        obtain ⟨x, hx⟩ : ∃ x, x = c.toNat := ⟨_, rfl⟩
        rw [← hx] at hc hcb
        have HX := Lib.hid hx
        have HC := Lib.hid hcc
        have HG := Lib.hid hgd
        have HA := Lib.hid hall
        clear hcs hx hcc hgd hall
        by_cases hgo : k < 9 ∧ 128 ≤ x
        · have hk' : (p : Int) + k < (p : Int) + 9 := by omega
          have hx' : (128 : Int) ≤ x := by omega
          go_wp2
          go_round
          case rel =>
            refine ⟨k + 1, by omega, by omega, by go_num, ?_⟩
            intro i h1 h2
            by_cases h3 : i = k
            · subst h3; rw [← HC.out, ← HX.out]; omega
            · exact HA.out i h1 (by omega)
          case measure => simp [intOf]; omega
        · have hnl := eql_of' (a := (p : Int) + k) (b := (n : Int)) (by omega)
          have hlast : IsLast s k := ⟨by omega, by omega, HA.out, fun _ _ => by rw [← HC.out, ← HX.out]; omega⟩
          have HLAST := Lib.hid hlast
          clear hlast
          by_cases hk : k = 9
          · have hk9e := eql_of (a := (p : Int) + k) (b := (p : Int) + 9) (by omega)
            have hk' : ¬ (p : Int) + k < (p : Int) + 9 := by omega
            have hk0' : (p : Int) < (p : Int) + k := by omega
            have HK := Lib.hid hk
            by_cases hx1 : 1 < x
            · have hx1' : (1 : Int) < x := by omega
              clear hk
              go_wp2_with (go_quiet (fail))
              go_ret3
              refine ⟨HIN.out _ k HLAST.out ?_, by first | exact Below.refl _ _ | exact (Below.refl _ _).drew⟩
              rw [uAns_bad hkl (.inl ⟨HK.out, by rw [HG.out, ← HX.out]; exact hx1⟩)]
              rfl
            · have hx1' : ¬ (1 : Int) < x := by omega
              by_cases hx0 : x = 0
              · have hx0' := eql_of (a := (x : Int)) (b := 0) (by omega)
                have HX0 := Lib.hid hx0
                clear hk hx0
                go_wp2_with (go_quiet (fail))
                go_ret3
                refine ⟨HIN.out _ k HLAST.out ?_, by first | exact Below.refl _ _ | exact (Below.refl _ _).drew⟩
                rw [uAns_bad hkl (.inr ⟨by omega, by rw [HG.out, ← HX.out]; exact HX0.out⟩)]
                rfl
              · have hx0' := eql_of' (a := (x : Int)) (b := 0) (by omega)
                have hnb : ¬ badAt s k := by
                  rintro (⟨h1, h2⟩ | ⟨h1, h2⟩)
                  · rw [HG.out, ← HX.out] at h2; omega
                  · rw [HG.out, ← HX.out] at h2; omega
                have HNB := Lib.hid hnb
                have HSM := Lib.hid (uint_small hk9 hkl hnb)
                clear hnb hk
                go_wp2_with (go_quiet (fail))
                go_loop [8, 9] (fun v i => ∃ (t : Nat) (z : Int), t ≤ k + 1 ∧ i = .int .i64 z ∧ z = (p : Int) + t - 1 ∧ v = .int .u64 (numB ((s.take (k + 1)).drop t) : Int)) (fun _ i => (intOf i + 1).toNat - p)
                case atStart => exact ⟨k + 1, (p : Int) + k, by omega, rfl, by omega, by rw [List.drop_eq_nil_of_le (by rw [List.length_take]; omega)]; rfl⟩
                case round =>
                  obtain ⟨t, z, ht, rfl, hz, rfl⟩ := hrel
                  by_cases h0 : t = 0
                  · have hlt2 : ¬ (p : Int) ≤ z := by omega
                    subst h0
                    clear hz
                    rw [List.drop_zero]
                    go_wp2
                    go_ret3
                    refine ⟨HIN.out _ k HLAST.out ?_, by first | exact Below.refl _ _ | exact (Below.refl _ _).drew⟩
                    rw [uAns_ok hkl HNB.out]
                    simp [T3]
                    omega
                  · obtain ⟨q, rfl⟩ : ∃ q, t = q + 1 := ⟨t - 1, by omega⟩
                    obtain rfl : z = ((p + q : Nat) : Int) := by omega
                    have hqs : q < s.length := by omega
                    have hce := HCS.out q hqs
                    have hqt : q < (s.take (k + 1)).length := by rw [List.length_take]; omega
                    have hdr := numB_drop (s.take (k + 1)) q hqt
                    have hle := numB_drop_le (s.take (k + 1)) q
                    rw [List.getElem_take] at hdr
                    have hsm := HSM.out
                    have hyb := (s[q]).toNat_lt
                    obtain ⟨V, hV⟩ : ∃ V, V = numB ((s.take (k + 1)).drop (q + 1)) := ⟨_, rfl⟩
                    obtain ⟨V2, hV2⟩ : ∃ V2, V2 = numB ((s.take (k + 1)).drop q) := ⟨_, rfl⟩
                    obtain ⟨y, hy⟩ : ∃ y, y = s[q].toNat := ⟨_, rfl⟩
                    rw [← hV, ← hV2, ← hy] at hdr
                    rw [← hV2] at hle
                    rw [← hy] at hce hyb
                    rw [← hV]
                    have HV2 := Lib.hid hV2
                    have hvs : y % 128 + 128 * V < 18446744073709551616 := by omega
                    have HDR := Lib.hid hdr
                    have hge2 : (p : Int) ≤ ((p + q : Nat) : Int) := by omega
                    have hqn : ((p + q : Nat) : Int) < n := by omega
                    clear hz hV hV2 hy hdr hle hsm h0 hqt
                    go_wp2
                    go_round
                    case rel => exact ⟨q, _, by omega, rfl, by go_num, by rw [← HV2.out, HDR.out]; go_num⟩
                    case measure => simp [intOf]; omega
          · have hk' : (p : Int) + k < (p : Int) + 9 := by omega
            have hx' : ¬ (128 : Int) ≤ x := by omega
            have hk9e := eql_of' (a := (p : Int) + k) (b := (p : Int) + 9) (by omega)
            by_cases hk0 : k = 0
            · have hk0' : ¬ (p : Int) < (p : Int) + k := by omega
              have hnb : ¬ badAt s k := by
                rintro (⟨h1, h2⟩ | ⟨h1, h2⟩)
                · rw [HG.out, ← HX.out] at h2; omega
                · rw [HG.out, ← HX.out] at h2; omega
              have HNB := Lib.hid hnb
              have HSM := Lib.hid (uint_small hk9 hkl hnb)
              clear hnb hk0
              go_wp2_with (go_quiet (fail))
              go_loop [8, 9] (fun v i => ∃ (t : Nat) (z : Int), t ≤ k + 1 ∧ i = .int .i64 z ∧ z = (p : Int) + t - 1 ∧ v = .int .u64 (numB ((s.take (k + 1)).drop t) : Int)) (fun _ i => (intOf i + 1).toNat - p)
              case atStart => exact ⟨k + 1, (p : Int) + k, by omega, rfl, by omega, by rw [List.drop_eq_nil_of_le (by rw [List.length_take]; omega)]; rfl⟩
              case round =>
                obtain ⟨t, z, ht, rfl, hz, rfl⟩ := hrel
                by_cases h0 : t = 0
                · have hlt2 : ¬ (p : Int) ≤ z := by omega
                  subst h0
                  clear hz
                  rw [List.drop_zero]
                  go_wp2
                  go_ret3
                  refine ⟨HIN.out _ k HLAST.out ?_, by first | exact Below.refl _ _ | exact (Below.refl _ _).drew⟩
                  rw [uAns_ok hkl HNB.out]
                  simp [T3]
                  omega
                · obtain ⟨q, rfl⟩ : ∃ q, t = q + 1 := ⟨t - 1, by omega⟩
                  obtain rfl : z = ((p + q : Nat) : Int) := by omega
                  have hqs : q < s.length := by omega
                  have hce := HCS.out q hqs
                  have hqt : q < (s.take (k + 1)).length := by rw [List.length_take]; omega
                  have hdr := numB_drop (s.take (k + 1)) q hqt
                  have hle := numB_drop_le (s.take (k + 1)) q
                  rw [List.getElem_take] at hdr
                  have hsm := HSM.out
                  have hyb := (s[q]).toNat_lt
                  obtain ⟨V, hV⟩ : ∃ V, V = numB ((s.take (k + 1)).drop (q + 1)) := ⟨_, rfl⟩
                  obtain ⟨V2, hV2⟩ : ∃ V2, V2 = numB ((s.take (k + 1)).drop q) := ⟨_, rfl⟩
                  obtain ⟨y, hy⟩ : ∃ y, y = s[q].toNat := ⟨_, rfl⟩
                  rw [← hV, ← hV2, ← hy] at hdr
                  rw [← hV2] at hle
                  rw [← hy] at hce hyb
                  rw [← hV]
                  have HV2 := Lib.hid hV2
                  have hvs : y % 128 + 128 * V < 18446744073709551616 := by omega
                  have HDR := Lib.hid hdr
                  have hge2 : (p : Int) ≤ ((p + q : Nat) : Int) := by omega
                  have hqn : ((p + q : Nat) : Int) < n := by omega
                  clear hz hV hV2 hy hdr hle hsm h0 hqt
                  go_wp2
                  go_round
                  case rel => exact ⟨q, _, by omega, rfl, by go_num, by rw [← HV2.out, HDR.out]; go_num⟩
                  case measure => simp [intOf]; omega
            · have hk0' : (p : Int) < (p : Int) + k := by omega
              by_cases hx0 : x = 0
              · have hx0' := eql_of (a := (x : Int)) (b := 0) (by omega)
                have HX0 := Lib.hid hx0
                clear hx0
                go_wp2_with (go_quiet (fail))
                go_ret3
                refine ⟨HIN.out _ k HLAST.out ?_, by first | exact Below.refl _ _ | exact (Below.refl _ _).drew⟩
                rw [uAns_bad hkl (.inr ⟨by omega, by rw [HG.out, ← HX.out]; exact HX0.out⟩)]
                rfl
              · have hx0' := eql_of' (a := (x : Int)) (b := 0) (by omega)
                have hnb : ¬ badAt s k := by
                  rintro (⟨h1, h2⟩ | ⟨h1, h2⟩)
                  · exact hk h1
                  · rw [HG.out, ← HX.out] at h2; exact hx0 h2
                have HNB := Lib.hid hnb
                have HSM := Lib.hid (uint_small hk9 hkl hnb)
                clear hnb
                go_wp2_with (go_quiet (fail))
                go_loop [8, 9] (fun v i => ∃ (t : Nat) (z : Int), t ≤ k + 1 ∧ i = .int .i64 z ∧ z = (p : Int) + t - 1 ∧ v = .int .u64 (numB ((s.take (k + 1)).drop t) : Int)) (fun _ i => (intOf i + 1).toNat - p)
                case atStart => exact ⟨k + 1, (p : Int) + k, by omega, rfl, by omega, by rw [List.drop_eq_nil_of_le (by rw [List.length_take]; omega)]; rfl⟩
                case round =>
                  obtain ⟨t, z, ht, rfl, hz, rfl⟩ := hrel
                  by_cases h0 : t = 0
                  · have hlt2 : ¬ (p : Int) ≤ z := by omega
                    subst h0
                    clear hz
                    rw [List.drop_zero]
                    go_wp2
                    go_ret3
                    refine ⟨HIN.out _ k HLAST.out ?_, by first | exact Below.refl _ _ | exact (Below.refl _ _).drew⟩
                    rw [uAns_ok hkl HNB.out]
                    simp [T3]
                    omega
                  · obtain ⟨q, rfl⟩ : ∃ q, t = q + 1 := ⟨t - 1, by omega⟩
                    obtain rfl : z = ((p + q : Nat) : Int) := by omega
                    have hqs : q < s.length := by omega
                    have hce := HCS.out q hqs
                    have hqt : q < (s.take (k + 1)).length := by rw [List.length_take]; omega
                    have hdr := numB_drop (s.take (k + 1)) q hqt
                    have hle := numB_drop_le (s.take (k + 1)) q
                    rw [List.getElem_take] at hdr
                    have hsm := HSM.out
                    have hyb := (s[q]).toNat_lt
                    obtain ⟨V, hV⟩ : ∃ V, V = numB ((s.take (k + 1)).drop (q + 1)) := ⟨_, rfl⟩
                    obtain ⟨V2, hV2⟩ : ∃ V2, V2 = numB ((s.take (k + 1)).drop q) := ⟨_, rfl⟩
                    obtain ⟨y, hy⟩ : ∃ y, y = s[q].toNat := ⟨_, rfl⟩
                    rw [← hV, ← hV2, ← hy] at hdr
                    rw [← hV2] at hle
                    rw [← hy] at hce hyb
                    rw [← hV]
                    have HV2 := Lib.hid hV2
                    have hvs : y % 128 + 128 * V < 18446744073709551616 := by omega
                    have HDR := Lib.hid hdr
                    have hge2 : (p : Int) ≤ ((p + q : Nat) : Int) := by omega
                    have hqn : ((p + q : Nat) : Int) < n := by omega
                    clear hz hV hV2 hy hdr hle hsm h0 hqt
                    go_wp2
                    go_round
                    case rel => exact ⟨q, _, by omega, rfl, by go_num, by rw [← HV2.out, HDR.out]; go_num⟩
                    case measure => simp [intOf]; omega
      · have hge : ¬ (p : Int) + k < n := by omega
        have hkl : s.length ≤ k := by omega
        have hee := eql_of (a := (p : Int) + k) (b := (n : Int)) (by omega)
        have HEE := Lib.hid (show (p : Int) + k = (n : Int) by omega)
        go_wp2
        go_ret3
        refine ⟨HIN.out _ k ⟨by omega, by omega, hall, fun h => by omega⟩ ?_, Below.refl _ _⟩
        rw [uAns_more hkl]
        rfl
end Go.Proofs.Ytaipnbpefdcejaa
/- The walks of wire.Int, of the reference's Int and of Unfold. -/
set_option linter.unusedVariables false
namespace Go.Proofs.Ytaipnbpefdcejaa
open Go.RowKit

/-- The signed number. -/
def unz (n : Nat) : Int := if n % 2 = 0 then ((n / 2 : Nat) : Int) else -((n / 2 : Nat) : Int) - 1
def T3i (v e f : Int) : Value := .tuple #[.int .i64 v, .int .i64 e, .int .i64 f]

theorem UPost.parts {l : List UInt8} {pos : Int} {e : Ending} (h : UPost l pos e) :
    ∃ (v : Nat) (en er : Int), e = .returned (T3 v en er) ∧ v < 18446744073709551616 ∧ (er = 0 ∧ 0 ≤ en ∧ en ≤ l.length ∨ er ≠ 0 ∧ v = 0 ∧ en = 0) := by
  rcases h with ⟨_, h⟩ | ⟨⟨h1, h2⟩, j, hj, h⟩
  · exact ⟨0, 0, 210, h, by omega, .inr ⟨by omega, rfl, rfl⟩⟩
  · by_cases hl : (l.drop pos.toNat).length ≤ j
    · rw [uAns_more hl] at h
      exact ⟨0, 0, 210, h, by omega, .inr ⟨by omega, rfl, rfl⟩⟩
    · by_cases hb : badAt (l.drop pos.toNat) j
      · rw [uAns_bad (by omega) hb] at h
        exact ⟨0, 0, 211, h, by omega, .inr ⟨by omega, rfl, rfl⟩⟩
      · rw [uAns_ok (by omega) hb] at h
        rw [List.length_drop] at hl
        exact ⟨_, _, _, h, uint_small hj.1 (by rw [List.length_drop]; omega) hb, .inl ⟨rfl, by omega, by omega⟩⟩
theorem UPost.unique {l : List UInt8} {pos : Int} {e e' : Ending} (h : UPost l pos e) (h' : UPost l pos e') : e = e' := by
  rcases h with ⟨h1, h⟩ | ⟨⟨h1, h2⟩, j, hj, h⟩
  · rcases h' with ⟨g1, g⟩ | ⟨⟨g1, g2⟩, k, hk, g⟩
    · rw [h, g]
    · omega
  · rcases h' with ⟨g1, g⟩ | ⟨⟨g1, g2⟩, k, hk, g⟩
    · omega
    · rw [h, g, hj.unique hk]
theorem T3_inj {v v' : Nat} {e e' f f' : Int} (h : Ending.returned (T3 v e f) = .returned (T3 v' e' f')) : v = v' ∧ e = e' ∧ f = f' := by
  simp [T3] at h
  omega

theorem xor_i64 (a : Nat) (ha : a < 9223372036854775808) (b : Int) : bits .xor .i64 (a : Int) b = IntKind.i64.wrap (((BitVec.ofNat 64 a ^^^ BitVec.ofInt 64 b).toNat : Nat) : Int) := by
  show IntKind.i64.wrap ((BitVec.ofInt 64 (a : Int) ^^^ BitVec.ofInt 64 b).toNat : Int) = _
  rw [BitVec.ofInt_natCast]
theorem unz_bits (v : Nat) (hv : v < 18446744073709551616) : bits .xor .i64 ((v : Int) / 2) (wrap64 (-wrap64 (bits .and .u64 (v : Int) 1))) = unz v := by
  have h1 : bits .and .u64 (v : Int) 1 = ((v % 2 : Nat) : Int) := by
    have := bits_and_u64_nat v 1 hv (by omega)
    rw [Nat.and_one_is_mod] at this
    exact this
  rw [h1]
  have h2 : (v : Int) / 2 = ((v / 2 : Nat) : Int) := by omega
  have h3 : wrap64 ((v % 2 : Nat) : Int) = ((v % 2 : Nat) : Int) := by unfold wrap64; omega
  rw [h2, h3, xor_i64 _ (by omega)]
  have hb : (BitVec.ofNat 64 (v / 2)).toNat = v / 2 := by rw [BitVec.toNat_ofNat]; omega
  by_cases h : v % 2 = 0
  · rw [h]
    have e : wrap64 (-((0 : Nat) : Int)) = 0 := by unfold wrap64; omega
    rw [e, show BitVec.ofInt 64 0 = 0#64 from rfl, BitVec.xor_zero, hb, unz, if_pos h, IntKind.wrap_i64]
    omega
  · have h' : v % 2 = 1 := by omega
    rw [h']
    have e : wrap64 (-((1 : Nat) : Int)) = -1 := by unfold wrap64; omega
    rw [e, show BitVec.ofInt 64 (-1) = BitVec.allOnes 64 from by decide, BitVec.xor_allOnes, BitVec.toNat_not, hb, unz, if_neg h, IntKind.wrap_i64]
    omega

theorem unfold_any (n : Nat) (w : World) (hn : n < 18446744073709551616) : Calls Try.prog 40 #[.int .u64 (n : Int)] w fun e w' => e = .returned (.int .i64 (unz n)) ∧ w = w' := by
  by_cases h2 : n % 2 = 0
  · have e1 : unz n = ((n / 2 : Nat) : Int) := by simp [unz, h2]
    have hz := eql_of (a := (n : Int) % 2) (b := 0) (by omega)
    rw [e1]
    go_enter Try.func40, Try.ntmps40
    go_wp2
    go_ret
    exact ⟨ret_val (by simp), rfl⟩
  · have e1 : unz n = -((n / 2 : Nat) : Int) - 1 := by simp [unz, h2]
    have hz := eql_of' (a := (n : Int) % 2) (b := 0) (by omega)
    rw [e1]
    go_enter Try.func40, Try.ntmps40
    go_wp2
    go_ret
    exact ⟨ret_val (by simp), rfl⟩

theorem int_any (a : Option Addr) (cap n : Nat) (l : List UInt8) (pos : Int) (w : World) (hn : l.length = n) (hmax : n ≤ 140737488355328) (hp : -9223372036854775808 ≤ pos ∧ pos ≤ 9223372036854775807) (h : Rd w a (l.map B)) :
    Calls Try.prog 17 #[.slice a n cap, .int .i64 pos] w fun e w' => (∃ (v : Nat) (en er : Int), UPost l pos (.returned (T3 v en er)) ∧ e = .returned (T3i (unz v) en er)) ∧ w = w' := by
  go_enter Try.func17, Try.ntmps17
  go_wp2_with fail
  refine (uint_any a cap n l pos w hn hmax hp h).mono ?_
  rintro e _ ⟨hu, rfl⟩
  obtain ⟨v, en, er, rfl, hv, hen⟩ := hu.parts
  have HU := Lib.hid hu
  have HZ := Lib.hid (unz_bits v hv)
  clear hu
  unfold T3
  go_wp2
  go_ret3
  refine ⟨⟨v, en, er, HU.out, ?_⟩, rfl⟩
  rw [← HZ.out]
  rfl

theorem rint_any (a : Option Addr) (cap n : Nat) (l : List UInt8) (pos : Int) (w : World) (hn : l.length = n) (hmax : n ≤ 140737488355328) (hp : -9223372036854775808 ≤ pos ∧ pos ≤ 9223372036854775807) (h : Rd w a (l.map B)) :
    Calls Try.prog 18 #[.slice a n cap, .int .i64 pos] w fun e w' => (∃ (v : Nat) (en er : Int), UPost l pos (.returned (T3 v en er)) ∧ e = .returned (T3i (unz v) en er)) ∧ Below w.heap.size w w' := by
  go_enter Try.func18, Try.ntmps18
  go_wp2_with fail
  refine (ruint_any a cap n l pos w hn hmax hp h).mono ?_
  rintro e w1 ⟨hu, hb⟩
  obtain ⟨v, en, er, rfl, hv, hen⟩ := hu.parts
  have HU := Lib.hid hu
  clear hu
  unfold T3
  rcases hen with ⟨rfl, h1, h2⟩ | ⟨h1, rfl, rfl⟩
  · go_wp2_with fail
    refine (unfold_any v w1 hv).mono ?_
    rintro e _ ⟨rfl, rfl⟩
    go_wp2
    go_ret3
    exact ⟨⟨v, en, 0, HU.out, rfl⟩, hb⟩
  · have hne := neq_of' (a := er) (b := 0) h1
    clear h1
    go_wp2
    go_ret3
    exact ⟨⟨0, 0, er, HU.out, rfl⟩, hb⟩
end Go.Proofs.Ytaipnbpefdcejaa
/- Plain facts on a number's bytes. No program in sight. -/
set_option linter.unusedVariables false
namespace Go.Proofs.Ytaipnbpefdcejaa
open Go.RowKit

/-- A number's bytes, seven bits each, the lowest first. -/
def bytesU (n : Nat) : List UInt8 := if h : n < 128 then [UInt8.ofNat n] else UInt8.ofNat (n % 128 + 128) :: bytesU (n / 128)
termination_by n
decreasing_by omega

theorem bytesU_low {n : Nat} (h : n < 128) : bytesU n = [UInt8.ofNat n] := by rw [bytesU, dif_pos h]
theorem bytesU_high {n : Nat} (h : ¬ n < 128) : bytesU n = UInt8.ofNat (n % 128 + 128) :: bytesU (n / 128) := by rw [bytesU, dif_neg h]

theorem bytesU_pos (n : Nat) : 0 < (bytesU n).length := by
  by_cases h : n < 128
  · rw [bytesU_low h]; simp
  · rw [bytesU_high h]; simp
theorem bytesU_len (k n : Nat) (h : n < 128 ^ (k + 1)) : (bytesU n).length ≤ k + 1 := by
  induction k generalizing n with
  | zero => rw [bytesU_low (by simpa using h)]; simp
  | succ k ih =>
    by_cases h2 : n < 128
    · rw [bytesU_low h2]; simp
    · rw [bytesU_high h2, List.length_cons]
      have := ih (n / 128) (by rw [Nat.pow_succ] at h; omega)
      omega
theorem bytesU_len10 (n : Nat) (h : n < 18446744073709551616) : (bytesU n).length ≤ 10 := by
  have h1 : (128 : Nat) ^ (9 + 1) = 1180591620717411303424 := by decide
  have h2 := bytesU_len 9 n
  rw [h1] at h2
  exact h2 (by omega)
theorem numB_bytesU (n : Nat) : numB (bytesU n) = n := by
  induction n using Nat.strongRecOn with
  | ind n ih =>
    by_cases h : n < 128
    · rw [bytesU_low h]
      simp only [numB, UInt8.toNat_ofNat']
      omega
    · rw [bytesU_high h]
      simp only [numB, UInt8.toNat_ofNat', ih (n / 128) (by omega)]
      omega
theorem bytesU_groups (n : Nat) : (∀ i (h : i < (bytesU n).length), i + 1 < (bytesU n).length → 128 ≤ (bytesU n)[i].toNat) ∧
    (∀ i (h : i < (bytesU n).length), i + 1 = (bytesU n).length → (bytesU n)[i].toNat < 128 ∧ (0 < i → (bytesU n)[i].toNat ≠ 0) ∧ (bytesU n)[i].toNat * 128 ^ i ≤ n ∧ (0 < n → (bytesU n)[i].toNat ≠ 0)) := by
  induction n using Nat.strongRecOn with
  | ind n ih =>
    by_cases h : n < 128
    · have e := bytesU_low h
      have hlen : (bytesU n).length = 1 := by rw [e]; rfl
      refine ⟨fun i hi hi2 => by omega, fun i hi hi2 => ?_⟩
      have hi0 : i = 0 := by omega
      subst hi0
      have hg : (bytesU n)[0].toNat = n := by
        simp only [e, List.getElem_cons_zero, UInt8.toNat_ofNat']
        omega
      rw [hg]
      exact ⟨h, by omega, by omega, by omega⟩
    · have e := bytesU_high h
      obtain ⟨h1, h2⟩ := ih (n / 128) (by omega)
      have hp := bytesU_pos (n / 128)
      have hlen : (bytesU n).length = (bytesU (n / 128)).length + 1 := by rw [e]; rfl
      refine ⟨fun i hi hi2 => ?_, fun i hi hi2 => ?_⟩
      · cases i with
        | zero =>
          simp only [e, List.getElem_cons_zero, UInt8.toNat_ofNat']
          omega
        | succ i =>
          simp only [e, List.getElem_cons_succ]
          exact h1 i (by omega) (by omega)
      · cases i with
        | zero => omega
        | succ i =>
          simp only [e, List.getElem_cons_succ]
          obtain ⟨g1, g2, g3, g4⟩ := h2 i (by omega) (by omega)
          refine ⟨g1, fun _ => g4 (by omega), ?_, fun _ => g4 (by omega)⟩
          rw [Nat.pow_succ, ← Nat.mul_assoc]
          omega

/-- A number's bytes are read as the number, whatever follows. -/
theorem read_bytesU (n : Nat) (hn : n < 18446744073709551616) (post : List UInt8) : ∃ j, j + 1 = (bytesU n).length ∧ IsLast (bytesU n ++ post) j ∧ j < (bytesU n ++ post).length ∧ ¬ badAt (bytesU n ++ post) j ∧ numB ((bytesU n ++ post).take (j + 1)) = n := by
  have hp := bytesU_pos n
  have h10 := bytesU_len10 n hn
  obtain ⟨h1, h2⟩ := bytesU_groups n
  obtain ⟨j, hj⟩ : ∃ j, j + 1 = (bytesU n).length := ⟨(bytesU n).length - 1, by omega⟩
  have hjl : j < (bytesU n ++ post).length := by rw [List.length_append]; omega
  obtain ⟨g1, g2, g3, g4⟩ := h2 j (by omega) hj
  have hg : (bytesU n ++ post)[j] = (bytesU n)[j]'(by omega) := List.getElem_append_left (by omega)
  have hgd : (bytesU n ++ post).getD j 0 = (bytesU n)[j]'(by omega) := by rw [← hg, List.getD_eq_getElem?_getD, List.getElem?_eq_getElem hjl]; rfl
  refine ⟨j, hj, ⟨by omega, by omega, fun i hi hij => ?_, fun _ _ => by rw [hg]; exact g1⟩, hjl, ?_, ?_⟩
  · rw [List.getElem_append_left (by omega)]
    exact h1 i (by omega) (by omega)
  · rintro (⟨rfl, hb⟩ | ⟨hb1, hb⟩)
    · rw [hgd] at hb
      have : (128 : Nat) ^ 9 = 9223372036854775808 := by decide
      rw [this] at g3
      omega
    · rw [hgd] at hb
      exact g2 hb1 hb
  · rw [hj, List.take_left, numB_bytesU]

/-- The folded number. -/
def zig (i : Int) : Nat := if 0 ≤ i then (2 * i).toNat else (-2 * i - 1).toNat
theorem unz_zig (i : Int) : unz (zig i) = i := by
  unfold unz zig
  by_cases h : 0 ≤ i
  · rw [if_pos h, if_pos (by omega)]; omega
  · rw [if_neg h, if_neg (by omega)]; omega
theorem zig_lt (i : Int) (h : -9223372036854775808 ≤ i ∧ i ≤ 9223372036854775807) : zig i < 18446744073709551616 := by
  unfold zig
  split <;> omega
end Go.Proofs.Ytaipnbpefdcejaa
/- Plain facts: a number's bytes are the only ones, whatever follows. No program in sight. -/
set_option linter.unusedVariables false
namespace Go.Proofs.Ytaipnbpefdcejaa
open Go.RowKit
theorem canon_list (c : UInt8) (hc : c.toNat < 128) : ∀ init : List UInt8, (∀ x ∈ init, 128 ≤ x.toNat) → (init ≠ [] → c.toNat ≠ 0) → init ++ [c] = bytesU (numB (init ++ [c])) := by
  intro init
  induction init with
  | nil =>
    intro _ _
    have h1 : numB [c] = c.toNat := by simp only [numB]; omega
    rw [List.nil_append, h1, bytesU_low hc]
    simp
  | cons x init ih =>
    intro hx h0
    have h0 := h0 (by simp)
    have ih := ih (fun y hy => hx y (by simp [hy])) (fun _ => h0)
    have h1 := hx x (by simp)
    have h2 := x.toNat_lt
    have hpos : 0 < numB (init ++ [c]) := by
      rw [numB_append]
      have h3 : numB [c] = c.toNat := by simp only [numB]; omega
      rw [h3]
      have : 0 < 128 ^ init.length * c.toNat := Nat.mul_pos (Nat.pow_pos (by omega)) (by omega)
      omega
    rw [List.cons_append, numB]
    obtain ⟨N, hN⟩ : ∃ N, N = numB (init ++ [c]) := ⟨_, rfl⟩
    rw [← hN] at ih hpos ⊢
    rw [bytesU_high (by omega), show (x.toNat % 128 + 128 * N) / 128 = N by omega, ← ih]
    congr 1
    apply UInt8.toNat_inj.1
    rw [UInt8.toNat_ofNat']
    omega
/-- What is read is the number's own bytes. -/
theorem canon {l : List UInt8} {j : Nat} (hl : IsLast l j) (hj : j < l.length) (hb : ¬ badAt l j) : l.take (j + 1) = bytesU (numB (l.take (j + 1))) := by
  have hgd : l.getD j 0 = l[j] := by simp [hj]
  obtain ⟨h1, h2, h3, h4⟩ := hl
  have hc : l[j].toNat < 128 := by
    by_cases h9 : j = 9
    · have : ¬ 1 < (l.getD j 0).toNat := fun h => hb (.inl ⟨h9, h⟩)
      rw [hgd] at this
      omega
    · exact h4 hj (by omega)
  rw [take_snoc l j hj]
  refine canon_list l[j] hc (l.take j) (fun x hx => ?_) (fun hne h0 => ?_)
  · obtain ⟨i, hi, rfl⟩ := List.getElem_of_mem hx
    rw [List.length_take] at hi
    rw [List.getElem_take]
    exact h3 i (by omega) (by omega)
  · refine hb (.inr ⟨?_, by rw [hgd]; exact h0⟩)
    rcases Nat.eq_zero_or_pos j with h | h
    · subst h; simp at hne
    · exact h
theorem canon_drop {l : List UInt8} {j : Nat} (hl : IsLast l j) (hj : j < l.length) (hb : ¬ badAt l j) : l = bytesU (numB (l.take (j + 1))) ++ l.drop (j + 1) := by
  rw [← canon hl hj hb, List.take_append_drop]
theorem ud_U {n n' : Nat} {r r' : List UInt8} (hn : n < 18446744073709551616) (hn' : n' < 18446744073709551616) (h : bytesU n ++ r = bytesU n' ++ r') : n = n' ∧ r = r' := by
  obtain ⟨j, h1, h2, h3, h4, h5⟩ := read_bytesU n hn r
  obtain ⟨j', g1, g2, g3, g4, g5⟩ := read_bytesU n' hn' r'
  rw [← h] at g2 g3 g4 g5
  obtain rfl := h2.unique g2
  have e : n = n' := h5.symm.trans g5
  subst e
  exact ⟨rfl, List.append_cancel_left h⟩
theorem zig_inj {i j : Int} (h : zig i = zig j) : i = j := by
  have := unz_zig i
  rw [h, unz_zig] at this
  exact this.symm
/-- The signed number of any number below 2^64 is one of 64 bits, and has that number. -/
theorem zig_unz (n : Nat) (h : n < 18446744073709551616) : zig (unz n) = n ∧ (-9223372036854775808 ≤ unz n ∧ unz n ≤ 9223372036854775807) := by
  unfold zig unz
  split <;> split <;> omega
/-- A read that fails: no number's bytes are there. -/
theorem no_number {l : List UInt8} {j : Nat} (hl : IsLast l j) (hf : l.length ≤ j ∨ badAt l j) (n : Nat) (hn : n < 18446744073709551616) (r : List UInt8) : l ≠ bytesU n ++ r := by
  intro h
  obtain ⟨k, h1, h2, h3, h4, h5⟩ := read_bytesU n hn r
  rw [← h] at h2 h3 h4
  obtain rfl := hl.unique h2
  rcases hf with hf | hf
  · omega
  · exact h4 hf
/-- What a read at a place answers, in plain words. -/
theorem UPost.cases {l : List UInt8} {at_ : Nat} {e : Ending} (h : UPost l (at_ : Int) e) (hat : at_ ≤ l.length) :
    (∃ (n : Nat) (en : Nat), e = .returned (T3 n en 0) ∧ n < 18446744073709551616 ∧ l.drop at_ = bytesU n ++ l.drop en ∧ en = at_ + (bytesU n).length ∧ en ≤ l.length) ∨
    (∃ er : Int, e = .returned (T3 0 0 er) ∧ er ≠ 0 ∧ (er = 210 ∨ er = 211) ∧ ∀ n, n < 18446744073709551616 → ∀ r, l.drop at_ ≠ bytesU n ++ r) := by
  rcases h with ⟨h1, _⟩ | ⟨_, j, hj, h⟩
  · omega
  · rw [Int.toNat_natCast] at hj h
    by_cases hl : (l.drop at_).length ≤ j
    · rw [uAns_more hl] at h
      exact .inr ⟨210, h, by omega, .inl rfl, fun n hn r => no_number hj (.inl hl) n hn r⟩
    · by_cases hb : badAt (l.drop at_) j
      · rw [uAns_bad (by omega) hb] at h
        exact .inr ⟨211, h, by omega, .inr rfl, fun n hn r => no_number hj (.inr hb) n hn r⟩
      · rw [uAns_ok (by omega) hb] at h
        have hc := canon_drop hj (by omega) hb
        have hs := uint_small hj.1 (by omega) hb
        have hlen := congrArg List.length (canon hj (by omega) hb)
        rw [List.length_take, List.length_drop, Nat.min_eq_left (by rw [List.length_drop] at hl; omega)] at hlen
        rw [List.length_drop] at hl
        refine .inl ⟨_, at_ + (j + 1), by rw [h]; congr 1, hs, ?_, by omega, by omega⟩
        rw [List.drop_drop] at hc
        exact hc
end Go.Proofs.Ytaipnbpefdcejaa
/- The walks of put, PutUint, PutInt and of the reference's. -/
set_option linter.unusedVariables false
namespace Go.Proofs.Ytaipnbpefdcejaa
open Go.RowKit

set_option maxRecDepth 20000 in
theorem or128 : ∀ x : Fin 256, (x.val ||| 128) = x.val % 128 + 128 := by decide
theorem high_byte (N : Nat) : bits .or .u8 (IntKind.u8.wrap (N : Int)) 128 = ((UInt8.ofNat (N % 128 + 128)).toNat : Int) := by
  have h0 : IntKind.u8.wrap (N : Int) = ((N % 256 : Nat) : Int) := by rw [IntKind.wrap_u8]; omega
  have h1 : (BitVec.ofInt 8 ((N % 256 : Nat) : Int)).toNat = N % 256 := by
    rw [BitVec.ofInt_natCast, BitVec.toNat_ofNat]; omega
  have h2 : (BitVec.ofInt 8 (128 : Int)).toNat = 128 := by decide
  rw [h0]
  show IntKind.u8.wrap ((BitVec.ofInt 8 ((N % 256 : Nat) : Int) ||| BitVec.ofInt 8 128).toNat : Int) = _
  rw [BitVec.toNat_or, h1, h2, IntKind.wrap_u8, UInt8.toNat_ofNat']
  have := or128 ⟨N % 256, by omega⟩
  simp only at this
  rw [this]
  omega

set_option maxRecDepth 20000 in
theorem put_any (base k : Nat) (a : Option Addr) (c : Nat) (pre : List UInt8) (n : Nat) (w : World) (hn : n < 18446744073709551616) (hk : k ≤ 140737488355000) (hbase : base ≤ w.heap.size)
    (hown : w.ownsRow base 5 1 (.slice a k c) k (pre.map B)) :
    Calls Try.prog 41 #[.slice a k c, .int .u64 (n : Int)] w fun e w' => ∃ a' c', e = .returned (.slice a' (k + (bytesU n).length) c') ∧ w'.ownsRow base 5 1 (.slice a' (k + (bytesU n).length) c') (k + (bytesU n).length) ((pre ++ bytesU n).map B) ∧ Below base w w' := by
  have hlen := bytesU_len10 n hn
  go_enter Try.func41, Try.ntmps41
  go_wp2
  go_loopw [0, 1] (fun v i wr => ∃ (a1 : Option Addr) (c1 m N : Nat) (dn : List UInt8), v = .slice a1 m c1 ∧ i = .int .u64 (N : Int) ∧ N ≤ n ∧ pre ++ bytesU n = dn ++ bytesU N ∧ m + (bytesU N).length = k + (bytesU n).length ∧ wr.ownsRow base 5 1 v m (dn.map B) ∧ Below base w wr) (fun _ i _ => (intOf i).toNat)
  case atStart => exact ⟨a, c, k, n, pre, rfl, rfl, Nat.le_refl _, rfl, rfl, hown, Below.refl _ _⟩
  case round =>
    obtain ⟨a1, c1, m, N, dn, rfl, rfl, hNn, hbs, hm, hown1, hbel⟩ := hrel
    have hs := hbel.size
    by_cases hlt : N < 128
    · have hlt' : ¬ (128 : Int) ≤ N := by omega
      have hlow := bytesU_low hlt
      rw [hlow] at hbs hm
      have HBS := Lib.hid hbs
      have HM := Lib.hid hm
      have hmb : m ≤ 140737488355200 := by rw [List.length_singleton] at hm; omega
      have hy : Value.int .u8 (N : Int) = B (UInt8.ofNat N) := by rw [B, UInt8.toNat_ofNat']; congr 1; omega
      have HY := Lib.hid hy
      clear hbs hm hlow hlen hy
      go_wp2_with (first | (at_builtin; refine app_b1 wr rfl _ _ rfl base (.slice a1 m c1) m dn rfl hown1 _ (UInt8.ofNat N) HY.out rfl (by omega) (by omega) ?_; intro a2 c2 w2 hown2 hb2 hmv2) | fail)
      go_ret
      rw [show dn ++ [UInt8.ofNat N] = pre ++ bytesU n from HBS.out.symm] at hown2
      have hM := HM.out
      rw [List.length_singleton] at hM
      rw [hM] at hown2 ⊢
      exact ⟨a2, c2, rfl, by simpa only [List.map_append] using hown2, hbel.trans hb2⟩
    · have hlt' : (128 : Int) ≤ N := by omega
      have hhigh := bytesU_high hlt
      rw [hhigh] at hbs hm
      have HBS := Lib.hid hbs
      have HM := Lib.hid hm
      have hmb : m ≤ 140737488355200 := by rw [List.length_cons] at hm; omega
      have hy : Value.int .u8 (bits .or .u8 (IntKind.u8.wrap (N : Int)) 128) = B (UInt8.ofNat (N % 128 + 128)) := by rw [high_byte, B]
      have HY := Lib.hid hy
      clear hbs hm hhigh hlen hy
      go_wp2_with (first | (at_builtin; refine app_b1 wr rfl _ _ rfl base (.slice a1 m c1) m dn rfl hown1 _ (UInt8.ofNat (N % 128 + 128)) HY.out rfl (by omega) (by omega) ?_; intro a2 c2 w2 hown2 hb2 hmv2) | fail)
      go_wp2
      go_roundw
      case rel =>
        refine ⟨a2, c2, m + 1, N / 128, dn ++ [UInt8.ofNat (N % 128 + 128)], rfl, by go_num, by omega, by rw [HBS.out]; simp, ?_, hown2, hbel.trans hb2⟩
        have hM := HM.out
        rw [List.length_cons] at hM
        omega
      case measure => simp [intOf]; omega
set_option maxRecDepth 20000 in
theorem rput_any (base k : Nat) (a : Option Addr) (c : Nat) (pre : List UInt8) (n : Nat) (w : World) (hn : n < 18446744073709551616) (hk : k ≤ 140737488355000) (hbase : base ≤ w.heap.size)
    (hown : w.ownsRow base 5 1 (.slice a k c) k (pre.map B)) :
    Calls Try.prog 44 #[.slice a k c, .int .u64 (n : Int)] w fun e w' => ∃ a' c', e = .returned (.slice a' (k + (bytesU n).length) c') ∧ w'.ownsRow base 5 1 (.slice a' (k + (bytesU n).length) c') (k + (bytesU n).length) ((pre ++ bytesU n).map B) ∧ Below base w w' := by
  have hlen := bytesU_len10 n hn
  go_enter Try.func44, Try.ntmps44
  go_wp2
  go_loopw [0, 1] (fun v i wr => ∃ (a1 : Option Addr) (c1 m N : Nat) (dn : List UInt8), v = .slice a1 m c1 ∧ i = .int .u64 (N : Int) ∧ N ≤ n ∧ pre ++ bytesU n = dn ++ bytesU N ∧ m + (bytesU N).length = k + (bytesU n).length ∧ wr.ownsRow base 5 1 v m (dn.map B) ∧ Below base w wr) (fun _ i _ => (intOf i).toNat)
  case atStart => exact ⟨a, c, k, n, pre, rfl, rfl, Nat.le_refl _, rfl, rfl, hown, Below.refl _ _⟩
  case round =>
    obtain ⟨a1, c1, m, N, dn, rfl, rfl, hNn, hbs, hm, hown1, hbel⟩ := hrel
    have hs := hbel.size
    by_cases hlt : N < 128
    · have hlt' : ¬ (0 : Int) < (N : Int) / 128 := by omega
      have hlow := bytesU_low hlt
      rw [hlow] at hbs hm
      have HBS := Lib.hid hbs
      have HM := Lib.hid hm
      have hmb : m ≤ 140737488355200 := by rw [List.length_singleton] at hm; omega
      have hy : Value.int .u8 (N : Int) = B (UInt8.ofNat N) := by rw [B, UInt8.toNat_ofNat']; congr 1; omega
      have HY := Lib.hid hy
      clear hbs hm hlow hlen hy
      go_wp2_with (first | (at_builtin; refine app_b1 wr rfl _ _ rfl base (.slice a1 m c1) m dn rfl hown1 _ (UInt8.ofNat N) HY.out rfl (by omega) (by omega) ?_; intro a2 c2 w2 hown2 hb2 hmv2) | fail)
      go_ret
      rw [show dn ++ [UInt8.ofNat N] = pre ++ bytesU n from HBS.out.symm] at hown2
      have hM := HM.out
      rw [List.length_singleton] at hM
      rw [hM] at hown2 ⊢
      exact ⟨a2, c2, rfl, by simpa only [List.map_append] using hown2, hbel.trans hb2⟩
    · have hlt' : (0 : Int) < (N : Int) / 128 := by omega
      have hhigh := bytesU_high hlt
      rw [hhigh] at hbs hm
      have HBS := Lib.hid hbs
      have HM := Lib.hid hm
      have hmb : m ≤ 140737488355200 := by rw [List.length_cons] at hm; omega
      have hy : Value.int .u8 (128 + (N : Int) % 128) = B (UInt8.ofNat (N % 128 + 128)) := by rw [B, UInt8.toNat_ofNat']; congr 1; omega
      have HY := Lib.hid hy
      clear hbs hm hhigh hlen hy
      go_wp2_with (first | (at_builtin; refine app_b1 wr rfl _ _ rfl base (.slice a1 m c1) m dn rfl hown1 _ (UInt8.ofNat (N % 128 + 128)) HY.out rfl (by omega) (by omega) ?_; intro a2 c2 w2 hown2 hb2 hmv2) | fail)
      go_wp2
      go_roundw
      case rel =>
        refine ⟨a2, c2, m + 1, N / 128, dn ++ [UInt8.ofNat (N % 128 + 128)], rfl, by go_num, by omega, by rw [HBS.out]; simp, ?_, hown2, hbel.trans hb2⟩
        have hM := HM.out
        rw [List.length_cons] at hM
        omega
      case measure => simp [intOf]; omega
end Go.Proofs.Ytaipnbpefdcejaa
/- The walks of PutUint, PutInt and of the reference's. -/
set_option linter.unusedVariables false
namespace Go.Proofs.Ytaipnbpefdcejaa
open Go.RowKit

theorem cell_row {w : World} {g : Nat} {xs : List Value} {T : Nat} (h : w.heap[g]? = some (.cells xs.toArray T (0, 0))) (j : Nat) (hj : j < xs.length) : w.cell? ⟨g, j, none⟩ = some xs[j] := by
  rw [cell_of_row w g j _ T (0, 0) h]
  simp [hj]
theorem cell_row? {w : World} {g : Nat} {xs : List Value} {T : Nat} (h : w.heap[g]? = some (.cells xs.toArray T (0, 0))) (j : Nat) : w.cell? ⟨g, j, none⟩ = xs[j]? := by
  rw [cell_of_row w g j _ T (0, 0) h]
  simp
/-- make([]byte, n, m). -/
theorem make_b (w : World) {ops : Array Oper} {rest : List Oper} {o : Oper} {a : Act} {Q : Exit → Act → World → Prop} (hgd : o.guard = none) (l c : Operand) (hop : o.op = Op.makeSlice 23 l c)
    (kl kc : IntKind) (L C : Int) (n m : Nat) (hl : a.eval l = .int kl L) (hc : a.eval c = .int kc C) (hL : L = (n : Int)) (hC : C = (m : Int)) (hnm : n ≤ m) (hn : m ≤ 281474976710656)
    (h : ∀ w', w'.heap[w.heap.size]? = some (.cells (List.replicate m (B 0)).toArray 5 (0, 0)) → Below w.heap.size w w' → w.heap.size + 1 ≤ w'.heap.size →
      wpList Try.prog ops Q rest (a.put o.dst (.slice (some ⟨w.heap.size, 0, none⟩) n m)) w') : wpList Try.prog ops Q (o :: rest) a w := by
  obtain ⟨i0, hi, hz0, hz1, hz2⟩ := info_parts info5
  subst hL; subst hC
  refine wpList_plain hgd fun K hK => ?_
  have hr := run_make (P := Try.prog) w 23 5 i0 (.int .u8 0) Try.underlying23 hi hz0 kl kc n m (by omega) (by omega) (by rw [hz2]; omega) (by omega)
  simp only [Int.toNat_natCast, hz1, Nat.mul_one] at hr
  have hm : madeCells (Value.int .u8 0).cells m = (List.replicate m (B 0)).toArray := by
    apply Array.ext'
    have := toList_madeCells_one (.int .u8 0) m
    simpa [Value.cells, B] using this
  rw [hm] at hr
  unfold Oper.wp
  simp [execOp, hop, hl, hc, hr, Result.andThen]
  exact hK _ _ (h _ (heap_alloc_new w _) ((Below.refl _ _).alloc (Nat.le_refl _) _) (by simp))

theorem rd_add {w : World} {a : Option Addr} {vs : List Value} (h : Rd w a vs) (hp : 0 < vs.length) : ∃ ad, a = some ad ∧ ∀ j u, vs[j]? = some u → w.cell? (ad.add j) = some u := by
  rcases h with rfl | ⟨b, off, rfl, hc⟩
  · simp at hp
  · exact ⟨_, rfl, fun j u hu => by rw [Addr.add_lit]; exact hc j u hu⟩

/-- copy(dst, src): dst at place 'off' of a block that is known whole, src whatever slice reads as 'vs'. -/
theorem copy_b {w : World} {ops : Array Oper} {rest : List Oper} {o : Oper} {a : Act} {Q : Exit → Act → World → Prop} (hgd : o.guard = none) (d s : Operand)
    (ho : o.op = .call { callee := .builtin .copy, args := #[d, s], argTypes := #[23, 23] }) (g off : Nat) (cur : List Value) (t : TypeId) (hg : w.heap[g]? = some (.cells cur.toArray t (0, 0)))
    (dp sp : Option Addr) (dLen dCap sLen sCap : Nat) (hd : a.eval d = .slice dp dLen dCap) (hs : a.eval s = .slice sp sLen sCap) (hdp : dp = some ⟨g, off, none⟩)
    (vs : List Value) (k : Nat) (hk : vs.length = k) (hn1 : k ≤ sLen) (hn2 : k ≤ dLen) (hn3 : k = sLen ∨ k = dLen) (hrd : Rd w sp vs) (h1 : ∀ v ∈ vs, v.oneCell' = true) (hfit : off + k ≤ cur.length)
    (h : ∀ w', Hid (w'.heap[g]? = some (.cells (splice cur off vs).toArray t (0, 0))) → Below g w w' → wpList Try.prog ops Q rest (a.put o.dst (goInt k)) w') :
    wpList Try.prog ops Q (o :: rest) a w := by
  subst hk
  have hn : vs.length = Nat.min sLen dLen := by show _ = min _ _; omega
  have hsz5 : (Try.prog.info? 5).map (·.size) = some 1 := by kernel_rfl
  exact wpList_copy_splice hgd d s 23 23 ho 5 Try.underlying23 hsz5 dp sp dLen dCap sLen sCap hd hs g off cur t hg vs hn (fun hp => ⟨hdp, rd_add hrd hp⟩) hfit h1 g w (Below.refl _ _) (Nat.le_refl _) h

theorem own_of_heap2 {w : World} {g : Nat} {xs ys : List Value} {e : Nat} {base n c : Nat} (h : w.heap[g]? = some (.cells xs.toArray e (0, 0))) (hb : base ≤ g) (hc : xs.length = c) (hn : n ≤ c) (hm : c ≤ maxLen) (ht : xs.take n = ys) (hy : ys.length = n) :
    w.ownsRow base e 1 (.slice (some ⟨g, 0, none⟩) n c) n ys :=
  ⟨by simpa using hy, .inr ⟨g, c, xs.toArray, rfl, hb, h, hn, hm, by simpa using hc, by rw [Nat.mul_one]; exact ht⟩⟩
/-- A block that is known whole is a row of the call's own. -/
theorem own_of_heap {w : World} {g : Nat} {xs : List Value} {e : Nat} {base n : Nat} (h : w.heap[g]? = some (.cells xs.toArray e (0, 0))) (hb : base ≤ g) (hn : xs.length = n) (hm : n ≤ maxLen) :
    w.ownsRow base e 1 (.slice (some ⟨g, 0, none⟩) n n) n xs :=
  ⟨by simpa using hn, .inr ⟨g, n, xs.toArray, rfl, hb, h, Nat.le_refl _, hm, by simpa using hn, by
    rw [Nat.mul_one]; exact List.take_of_length_le (by simpa using Nat.le_of_eq hn)⟩⟩

theorem rd_of_heap {w : World} {g : Nat} {xs : List Value} {e : Nat} (h : w.heap[g]? = some (.cells xs.toArray e (0, 0))) : Rd w (some ⟨g, 0, none⟩) xs :=
  .inr ⟨g, 0, rfl, fun i u hu => by rw [Nat.zero_add, cell_row? h]; exact hu⟩


theorem rcopied_n (a : Option Addr) (cap n : Nat) (l : List UInt8) (w : World) (hn : l.length = n) (hl : n ≤ 140737488355328) (h : Rd w a (l.map B)) :
    Calls Try.prog 43 #[.slice a n cap] w fun e w' => ∃ a' c', e = .returned (.slice a' n c') ∧ w'.ownsRow w.heap.size 5 1 (.slice a' n c') n (l.map B) ∧ Below w.heap.size w w' := by
  go_enter Try.func43, Try.ntmps43
  go_wp2_with (first | (at_builtin; refine app_b w rfl _ _ rfl w.heap.size (.slice none 0 0) 0 [] rfl (World.ownsRow_nil _ _ _ _) a n cap l rfl hn h (by omega) (Nat.le_refl _) ?_; intro a' c' w' hown hbel _; simp only [Nat.zero_add, List.nil_append] at hown ⊢) | fail)
  go_ret
  exact ⟨a', c', rfl, hown, hbel⟩

/-- What a put answers: the bytes, then the number's. -/
def PutPost (l : List UInt8) (n : Nat) (w : World) (e : Ending) (w' : World) : Prop :=
  ∃ a' c', e = .returned (.slice a' (l.length + (bytesU n).length) c') ∧ w'.ownsRow w.heap.size 5 1 (.slice a' (l.length + (bytesU n).length) c') (l.length + (bytesU n).length) ((l ++ bytesU n).map B) ∧ Below w.heap.size w w'

theorem rputuint_any (a : Option Addr) (cap n : Nat) (l : List UInt8) (N : Nat) (w : World) (hn : l.length = n) (hN : N < 18446744073709551616) (hl : n ≤ 140737488355000) (h : Rd w a (l.map B)) :
    Calls Try.prog 22 #[.slice a n cap, .int .u64 (N : Int)] w (PutPost l N w) := by
  subst hn
  go_enter Try.func22, Try.ntmps22
  go_wp2_with fail
  refine (rcopied_n a cap l.length l w rfl (by omega) h).mono ?_
  rintro e w1 ⟨a1, c1, rfl, hown1, hb1⟩
  have hs := hb1.size
  go_wp2_with fail
  refine (rput_any w.heap.size l.length a1 c1 l N w1 hN hl hs hown1).mono ?_
  rintro e w2 ⟨a2, c2, rfl, hown2, hb2⟩
  go_wp2
  go_ret
  exact ⟨a2, c2, rfl, hown2, hb1.trans hb2⟩

set_option maxRecDepth 20000 in
theorem putuint_any (a : Option Addr) (cap n : Nat) (l : List UInt8) (N : Nat) (w : World) (hn : l.length = n) (hN : N < 18446744073709551616) (hl : n ≤ 140737488355000) (h : Rd w a (l.map B)) :
    Calls Try.prog 20 #[.slice a n cap, .int .u64 (N : Int)] w (PutPost l N w) := by
  have HN := Lib.hid hn
  clear hn
  go_enter Try.func20, Try.ntmps20
  go_wp2_with (first | (at_make; refine make_b w rfl _ _ rfl .i64 .i64 _ _ n (n + 10) rfl rfl (by omega) (by omega) (by omega) (by omega) ?_; intro w1 hh1 hb1 hs1) |
    ((with_reducible refine at_dst 14 ?_); refine copy_b rfl _ _ rfl w.heap.size 0 _ 5 hh1 _ _ _ _ _ _ rfl rfl rfl (l.map B) n (by have := HN.out; simpa using this) (by omega) (by omega) (by omega) (h.below hb1) (B_oneCell l) (by rw [List.length_replicate]; omega) ?_; intro w2 hh2 hb2) | fail)
  have h2 := hh2.out
  have hsp : (splice (List.replicate (n + 10) (B 0)) 0 (l.map B)).length = n + 10 := by rw [length_splice _ _ _ (by rw [List.length_replicate, List.length_map, HN.out]; omega), List.length_replicate]
  have htk : (splice (List.replicate (n + 10) (B 0)) 0 (l.map B)).take n = l.map B := by
    simp only [splice, List.take_zero, List.nil_append]
    rw [List.take_append_of_le_length (by rw [List.length_map, HN.out]; omega), List.take_of_length_le (by rw [List.length_map, HN.out]; omega)]
  have hown := own_of_heap2 (base := w.heap.size) h2 (Nat.le_refl _) hsp (by omega) (by unfold maxLen; omega) htk (by rw [List.length_map, HN.out])
  have hb12 : Below w.heap.size w w2 := hb1.trans hb2
  have hs2 := hb12.size
  clear h2 hsp htk hh1 hh2
  refine (put_any w.heap.size n (some ⟨w.heap.size, 0, none⟩) (n + 10) l N w2 hN (by omega) hs2 hown).mono ?_
  rintro e w3 ⟨a3, c3, rfl, hown3, hb3⟩
  go_wp2
  go_ret
  unfold PutPost
  rw [HN.out]
  exact ⟨a3, c3, rfl, hown3, hb12.trans hb3⟩

/-- zigzag. -/
theorem xor_u64 (a : Int) (b : Int) : bits .xor .u64 a b = (((BitVec.ofInt 64 a ^^^ BitVec.ofInt 64 b).toNat : Nat) : Int) := by
  show IntKind.u64.wrap ((BitVec.ofInt 64 a ^^^ BitVec.ofInt 64 b).toNat : Int) = _
  rw [IntKind.wrap_u64]
  have := (BitVec.ofInt 64 a ^^^ BitVec.ofInt 64 b).isLt
  omega
theorem ofInt_nat (n : Nat) (h : n < 18446744073709551616) : (BitVec.ofInt 64 (n : Int)).toNat = n := by
  rw [BitVec.ofInt_natCast, BitVec.toNat_ofNat]; omega
theorem zig_bits (i : Int) (hi : -9223372036854775808 ≤ i ∧ i ≤ 9223372036854775807) :
    bits .xor .u64 (IntKind.u64.wrap (IntKind.u64.wrap i * 2)) (IntKind.u64.wrap (i / 9223372036854775808)) = (zig i : Int) := by
  rw [xor_u64]
  by_cases h : 0 ≤ i
  · have e1 : IntKind.u64.wrap (IntKind.u64.wrap i * 2) = ((zig i : Nat) : Int) := by rw [IntKind.wrap_u64, IntKind.wrap_u64, zig, if_pos h]; omega
    have e2 : IntKind.u64.wrap (i / 9223372036854775808) = 0 := by rw [IntKind.wrap_u64]; omega
    rw [e1, e2, show BitVec.ofInt 64 0 = 0#64 from rfl, BitVec.xor_zero, ofInt_nat _ (zig_lt i hi)]
  · obtain ⟨m, hm⟩ : ∃ m : Nat, (m : Int) = 2 * i + 18446744073709551616 := ⟨(2 * i + 18446744073709551616).toNat, by omega⟩
    have e1 : IntKind.u64.wrap (IntKind.u64.wrap i * 2) = (m : Int) := by rw [IntKind.wrap_u64, IntKind.wrap_u64]; omega
    have e2 : IntKind.u64.wrap (i / 9223372036854775808) = 18446744073709551615 := by rw [IntKind.wrap_u64]; omega
    rw [e1, e2, show BitVec.ofInt 64 18446744073709551615 = BitVec.allOnes 64 from by decide, BitVec.xor_allOnes, BitVec.toNat_not, ofInt_nat _ (by omega), zig, if_neg h]
    omega
theorem zigzag_any (i : Int) (w : World) (hi : -9223372036854775808 ≤ i ∧ i ≤ 9223372036854775807) : Calls Try.prog 42 #[.int .i64 i] w fun e w' => e = .returned (.int .u64 (zig i : Int)) ∧ w = w' := by
  have HZ := Lib.hid (zig_bits i hi)
  go_enter Try.func42, Try.ntmps42
  go_wp2
  go_ret
  refine ⟨ret_val ?_, rfl⟩
  rw [← HZ.out]
  rfl
theorem fold_any (i : Int) (w : World) (hi : -9223372036854775808 ≤ i ∧ i ≤ 9223372036854775807) : Calls Try.prog 55 #[.int .i64 i] w fun e w' => e = .returned (.int .u64 (zig i : Int)) ∧ w = w' := by
  by_cases h : 0 ≤ i
  · have hz : (zig i : Int) = 2 * i := by rw [zig, if_pos h]; omega
    have HZ := Lib.hid hz
    clear hz
    go_enter Try.func55, Try.ntmps55
    go_wp2
    go_ret
    refine ⟨ret_val ?_, rfl⟩
    rw [HZ.out]
    rfl
  · have hz : (zig i : Int) = 2 * -(i + 1) + 1 := by rw [zig, if_neg h]; omega
    have HZ := Lib.hid hz
    clear hz
    go_enter Try.func55, Try.ntmps55
    go_wp2
    go_ret
    refine ⟨ret_val ?_, rfl⟩
    rw [HZ.out]
    rfl

theorem putint_any (a : Option Addr) (cap n : Nat) (l : List UInt8) (i : Int) (w : World) (hn : l.length = n) (hi : -9223372036854775808 ≤ i ∧ i ≤ 9223372036854775807) (hl : n ≤ 140737488355000) (h : Rd w a (l.map B)) :
    Calls Try.prog 21 #[.slice a n cap, .int .i64 i] w (PutPost l (zig i) w) := by
  subst hn
  go_enter Try.func21, Try.ntmps21
  go_wp2_with fail
  refine (zigzag_any i w hi).mono ?_
  rintro e _ ⟨rfl, rfl⟩
  go_wp2_with fail
  refine (putuint_any a cap l.length l (zig i) w rfl (zig_lt i hi) hl h).mono ?_
  rintro e w2 ⟨a2, c2, rfl, hown2, hb2⟩
  go_wp2
  go_ret
  exact ⟨a2, c2, rfl, hown2, hb2⟩

theorem rput2_any (base k : Nat) (a : Option Addr) (c : Nat) (pre : List UInt8) (i : Int) (w : World) (hi : -9223372036854775808 ≤ i ∧ i ≤ 9223372036854775807) (hk : k ≤ 140737488355000) (hbase : base ≤ w.heap.size)
    (hown : w.ownsRow base 5 1 (.slice a k c) k (pre.map B)) :
    Calls Try.prog 45 #[.slice a k c, .int .i64 i] w fun e w' => ∃ a' c', e = .returned (.slice a' (k + (bytesU (zig i)).length) c') ∧ w'.ownsRow base 5 1 (.slice a' (k + (bytesU (zig i)).length) c') (k + (bytesU (zig i)).length) ((pre ++ bytesU (zig i)).map B) ∧ Below base w w' := by
  go_enter Try.func45, Try.ntmps45
  go_wp2_with fail
  refine (fold_any i w hi).mono ?_
  rintro e _ ⟨rfl, rfl⟩
  go_wp2_with fail
  refine (rput_any base k a c pre (zig i) w (zig_lt i hi) hk hbase hown).mono ?_
  rintro e w2 ⟨a2, c2, rfl, hown2, hb2⟩
  go_wp2
  go_ret
  exact ⟨a2, c2, rfl, hown2, hb2⟩

theorem rputint_any (a : Option Addr) (cap n : Nat) (l : List UInt8) (i : Int) (w : World) (hn : l.length = n) (hi : -9223372036854775808 ≤ i ∧ i ≤ 9223372036854775807) (hl : n ≤ 140737488355000) (h : Rd w a (l.map B)) :
    Calls Try.prog 23 #[.slice a n cap, .int .i64 i] w (PutPost l (zig i) w) := by
  subst hn
  go_enter Try.func23, Try.ntmps23
  go_wp2_with fail
  refine (rcopied_n a cap l.length l w rfl (by omega) h).mono ?_
  rintro e w1 ⟨a1, c1, rfl, hown1, hb1⟩
  have hs := hb1.size
  go_wp2_with fail
  refine (rput2_any w.heap.size l.length a1 c1 l i w1 hi hl hs hown1).mono ?_
  rintro e w2 ⟨a2, c2, rfl, hown2, hb2⟩
  go_wp2
  go_ret
  exact ⟨a2, c2, rfl, hown2, hb1.trans hb2⟩
end Go.Proofs.Ytaipnbpefdcejaa
/- A block with known cells: reading, writing, what stays. -/
set_option linter.unusedVariables false
namespace Go.Proofs.Ytaipnbpefdcejaa
open Go.RowKit

/-- The block g holds the cells cs. -/
def Blk (w : World) (g : Nat) (t : TypeId) (cs : List Value) : Prop := w.heap[g]? = some (.cells cs.toArray t (0, 0))
theorem Blk.lt {w : World} {g : Nat} {t : TypeId} {cs : List Value} (h : Blk w g t cs) : g < w.heap.size := (Array.getElem?_eq_some_iff.1 h).1
theorem Blk.cell {w : World} {g : Nat} {t : TypeId} {cs : List Value} (h : Blk w g t cs) (i : Nat) (hi : i < cs.length) : w.cell? ⟨g, i, none⟩ = some cs[i] := by
  unfold Blk at h
  simp [World.cell?, h, hi]
theorem Blk.frozen {w : World} {g : Nat} {t : TypeId} {cs : List Value} (h : Blk w g t cs) (i : Nat) : w.frozen? ⟨g, i, none⟩ = false := by
  unfold Blk at h
  simp [World.frozen?, h]
theorem Blk.kept {w w' : World} {g : Nat} {t : TypeId} {cs : List Value} {r : Option Nat} (h : Blk w g t cs) (hg : w.grownBy w' r) (hr : some g ≠ r) : Blk w' g t cs := by
  unfold Blk
  rw [hg.block g h.lt hr]
  exact h
theorem Blk.below {w w' : World} {g : Nat} {t : TypeId} {cs : List Value} (h : Blk w g t cs) (hb : Below w.heap.size w w') : Blk w' g t cs := by
  unfold Blk
  rw [hb.block g h.lt]
  exact h
theorem Blk.alloc {w : World} {g : Nat} {t : TypeId} {cs : List Value} (h : Blk w g t cs) (o : Obj) : Blk (w.alloc o) g t cs := h.below ((Below.refl _ _).alloc (Nat.le_refl _) o)
theorem Blk.new (w : World) (cs : List Value) (t : TypeId) : Blk (w.alloc (.cells cs.toArray t)) w.heap.size t cs := heap_alloc_new w _
theorem Blk.rd {w : World} {g : Nat} {t : TypeId} {cs : List Value} (h : Blk w g t cs) : Rd w (some ⟨g, 0, none⟩) cs := by
  refine .inr ⟨g, 0, rfl, fun i u hu => ?_⟩
  obtain ⟨hi, rfl⟩ := List.getElem?_eq_some_iff.1 hu
  rw [Nat.zero_add]
  exact h.cell i hi
theorem Blk.there {w : World} {g : Nat} {t : TypeId} {cs : List Value} (h : Blk w g t cs) (o n : Nat) (hn : o + n ≤ cs.length) : w.there g o n := fun j hj => by
  rw [h.cell (o + j) (by omega), h.frozen]
  exact ⟨rfl, rfl⟩
theorem Blk.range {w : World} {g : Nat} {t : TypeId} {cs : List Value} (h : Blk w g t cs) (o n : Nat) (hn : o + n ≤ cs.length) : w.rangeAt g o ((cs.drop o).take n) := fun j v hv => by
  have hj : j < ((cs.drop o).take n).length := (List.getElem?_eq_some_iff.1 hv).1
  rw [List.length_take, List.length_drop] at hj
  rw [List.getElem?_take_of_lt (by omega), List.getElem?_drop, List.getElem?_eq_getElem (by omega)] at hv
  rw [h.cell (o + j) (by omega)]
  exact hv
/-- Some cells from o on are others. -/
def spl (cs : List Value) (o : Nat) (vs : List Value) : List Value := cs.take o ++ (vs ++ cs.drop (o + vs.length))
theorem spl_len {cs : List Value} {o : Nat} {vs : List Value} (h : o + vs.length ≤ cs.length) : (spl cs o vs).length = cs.length := by
  simp [spl]
  omega
theorem Blk.setCell {w : World} {g : Nat} {t : TypeId} {cs : List Value} (h : Blk w g t cs) (i : Nat) (v : Value) : Blk (w.setCell ⟨g, i, none⟩ v) g t (cs.set i v) ∧ w.grownBy (w.setCell ⟨g, i, none⟩ v) (some g) := by
  have hlt := h.lt
  unfold Blk at h ⊢
  refine ⟨?_, ⟨rfl, rfl, rfl, by simp [World.setCell], fun k hk hne => Below.heap_setCell w ⟨g, i, none⟩ v k (fun e => hne (by rw [e]))⟩⟩
  simp [World.setCell, Array.getElem?_modify, h, List.setIfInBounds_toArray]
theorem spl_nil (cs : List Value) (o : Nat) : spl cs o [] = cs := by simp [spl]
theorem spl_cons {cs : List Value} {o : Nat} {v : Value} {vs : List Value} (h : o + (v :: vs).length ≤ cs.length) : spl (cs.set o v) (o + 1) vs = spl cs o (v :: vs) := by
  simp only [List.length_cons] at h
  unfold spl
  rw [List.take_set, List.drop_set_of_lt (by omega), List.take_succ_eq_append_getElem (by omega), List.set_append_right _ _ (by rw [List.length_take]; omega), List.length_take, Nat.min_eq_left (by omega), Nat.sub_self]
  simp only [List.set_cons_zero, List.append_assoc, List.length_cons]
  rw [show o + 1 + vs.length = o + (vs.length + 1) by omega]
  rfl
theorem Blk.setCells {g : Nat} {t : TypeId} (vs : List Value) : ∀ (o : Nat) (cs : List Value) (w : World), Blk w g t cs → o + vs.length ≤ cs.length → Blk (w.setCells g o vs) g t (spl cs o vs) ∧ w.grownBy (w.setCells g o vs) (some g) := by
  induction vs with
  | nil =>
    intro o cs w h _
    rw [spl_nil]
    exact ⟨h, ⟨rfl, rfl, rfl, Nat.le_refl _, fun _ _ _ => rfl⟩⟩
  | cons v vs ih =>
    intro o cs w h hl
    have h1 := h.setCell o v
    obtain ⟨h2, h3⟩ := ih (o + 1) _ _ h1.1 (by simp only [List.length_cons, List.length_set] at hl ⊢; omega)
    rw [spl_cons hl] at h2
    refine ⟨h2, ⟨h3.os.trans h1.2.os, h3.tape.trans h1.2.tape, h3.output.trans h1.2.output, Nat.le_trans h1.2.size h3.size, fun k hk hn => ?_⟩⟩
    have := h3.block k (Nat.lt_of_lt_of_le hk h1.2.size) hn
    exact this.trans (h1.2.block k hk hn)
end Go.Proofs.Ytaipnbpefdcejaa
/- The walks of the eraser's methods. -/
set_option linter.unusedVariables false
namespace Go.Proofs.Ytaipnbpefdcejaa
open Go.RowKit
theorem none_ne (g : Nat) : some g ≠ (none : Option Nat) := by simp
theorem grown_alloc (w : World) (o : Obj) (r : Option Nat) : w.grownBy (w.alloc o) r := by
  have hbo : Below w.heap.size w (w.alloc o) := (Below.refl _ _).alloc (Nat.le_refl _) o
  exact ⟨hbo.os, hbo.tape, hbo.output, hbo.size, fun k hk _ => hbo.block k hk⟩
theorem grown_trans2 {w1 w2 w3 : World} {r : Option Nat} (h : w1.grownBy w2 r) (g : w2.grownBy w3 r) : w1.grownBy w3 r :=
  ⟨g.os.trans h.os, g.tape.trans h.tape, g.output.trans h.output, Nat.le_trans h.size g.size, fun k hk hn => (g.block k (Nat.lt_of_lt_of_le hk h.size) hn).trans (h.block k hk hn)⟩
/-- What an eraser's method brings: the block's cells are others, nothing else that was there. -/
def Erased (g : Nat) (cs : List Value) (w : World) (e : Ending) (w' : World) : Prop := e = .returned (.tuple #[]) ∧ Blk w' g 50 cs ∧ w.grownBy w' (some g)

theorem er_number (g : Nat) (cs : List Value) (w : World) (hl : cs.length = 31) (h : Blk w g 50 cs) : Calls Try.prog 89 #[.agg #[], .pointer (some ⟨g, 0, none⟩)] w (Erased g (cs.set 2 (.int .i64 0)) w) := by
  have h2 := h.alloc (.cells #[] 76)
  have hc := h2.cell 2 (by omega)
  have hf := h2.frozen 2
  have h3 := h2.setCell 2 (.int .i64 0)
  have HB := Lib.hid h3.1
  have HG := Lib.hid (grown_trans2 (grown_alloc w (.cells #[] 76) (some g)) h3.2)
  obtain ⟨y, hy⟩ : ∃ y, y = cs[2]'(by omega) := ⟨_, rfl⟩
  rw [← hy] at hc
  clear h h2 h3 hy
  go_enter Try.func89, Try.ntmps89
  go_wp2
  go_end0
  exact ⟨rfl, HB.out, HG.out⟩
theorem er_handle (g : Nat) (cs : List Value) (w : World) (hl : cs.length = 31) (h : Blk w g 50 cs) : Calls Try.prog 86 #[.agg #[], .pointer (some ⟨g, 0, none⟩)] w (Erased g (cs.set 1 (.int .i64 0)) w) := by
  have h2 := h.alloc (.cells #[] 76)
  have hc := h2.cell 1 (by omega)
  have hf := h2.frozen 1
  have h3 := h2.setCell 1 (.int .i64 0)
  have HB := Lib.hid h3.1
  have HG := Lib.hid (grown_trans2 (grown_alloc w (.cells #[] 76) (some g)) h3.2)
  obtain ⟨y, hy⟩ : ∃ y, y = cs[1]'(by omega) := ⟨_, rfl⟩
  rw [← hy] at hc
  clear h h2 h3 hy
  go_enter Try.func86, Try.ntmps86
  go_wp2
  go_end0
  exact ⟨rfl, HB.out, HG.out⟩
theorem er_code (g : Nat) (cs : List Value) (w : World) (hl : cs.length = 31) (h : Blk w g 50 cs) : Calls Try.prog 83 #[.agg #[], .pointer (some ⟨g, 0, none⟩)] w (Erased g (cs.set 27 (.int .i64 0)) w) := by
  have h2 := h.alloc (.cells #[] 76)
  have hc := h2.cell 27 (by omega)
  have hf := h2.frozen 27
  have h3 := h2.setCell 27 (.int .i64 0)
  have HB := Lib.hid h3.1
  have HG := Lib.hid (grown_trans2 (grown_alloc w (.cells #[] 76) (some g)) h3.2)
  obtain ⟨y, hy⟩ : ∃ y, y = cs[27]'(by omega) := ⟨_, rfl⟩
  rw [← hy] at hc
  clear h h2 h3 hy
  go_enter Try.func83, Try.ntmps83
  go_wp2
  go_end0
  exact ⟨rfl, HB.out, HG.out⟩
theorem er_schema (g : Nat) (cs : List Value) (w : World) (hl : cs.length = 31) (h : Blk w g 50 cs) : Calls Try.prog 91 #[.agg #[], .pointer (some ⟨g, 0, none⟩)] w (Erased g (cs.set 28 (.string ByteArray.empty)) w) := by
  have h2 := h.alloc (.cells #[] 76)
  have hc := h2.cell 28 (by omega)
  have hf := h2.frozen 28
  have h3 := h2.setCell 28 (.string ByteArray.empty)
  have HB := Lib.hid h3.1
  have HG := Lib.hid (grown_trans2 (grown_alloc w (.cells #[] 76) (some g)) h3.2)
  obtain ⟨y, hy⟩ : ∃ y, y = cs[28]'(by omega) := ⟨_, rfl⟩
  rw [← hy] at hc
  clear h h2 h3 hy
  go_enter Try.func91, Try.ntmps91
  go_wp2
  go_end0
  exact ⟨rfl, HB.out, HG.out⟩
theorem er_query (g : Nat) (cs : List Value) (w : World) (hl : cs.length = 31) (h : Blk w g 50 cs) : Calls Try.prog 90 #[.agg #[], .pointer (some ⟨g, 0, none⟩)] w (Erased g (cs.set 29 (.string ByteArray.empty)) w) := by
  have h2 := h.alloc (.cells #[] 76)
  have hc := h2.cell 29 (by omega)
  have hf := h2.frozen 29
  have h3 := h2.setCell 29 (.string ByteArray.empty)
  have HB := Lib.hid h3.1
  have HG := Lib.hid (grown_trans2 (grown_alloc w (.cells #[] 76) (some g)) h3.2)
  obtain ⟨y, hy⟩ : ∃ y, y = cs[29]'(by omega) := ⟨_, rfl⟩
  rw [← hy] at hc
  clear h h2 h3 hy
  go_enter Try.func90, Try.ntmps90
  go_wp2
  go_end0
  exact ⟨rfl, HB.out, HG.out⟩
theorem er_image (g : Nat) (cs : List Value) (w : World) (hl : cs.length = 31) (h : Blk w g 50 cs) : Calls Try.prog 87 #[.agg #[], .pointer (some ⟨g, 0, none⟩)] w (Erased g (cs.set 30 (.slice none 0 0)) w) := by
  have h2 := h.alloc (.cells #[] 76)
  have hc := h2.cell 30 (by omega)
  have hf := h2.frozen 30
  have h3 := h2.setCell 30 (.slice none 0 0)
  have HB := Lib.hid h3.1
  have HG := Lib.hid (grown_trans2 (grown_alloc w (.cells #[] 76) (some g)) h3.2)
  obtain ⟨y, hy⟩ : ∃ y, y = cs[30]'(by omega) := ⟨_, rfl⟩
  rw [← hy] at hc
  clear h h2 h3 hy
  go_enter Try.func87, Try.ntmps87
  go_wp2
  go_end0
  exact ⟨rfl, HB.out, HG.out⟩
def z_event : List Value := [.int .i64 0, .int .u64 0, .int .i64 0, .int .i64 0, .int .i64 0, .int .i64 0, .int .i64 0, .int .i64 0, .int .i64 0, .int .i64 0, .int .i64 0]
theorem er_event (g : Nat) (cs : List Value) (w : World) (hl : cs.length = 31) (h : Blk w g 50 cs) : Calls Try.prog 84 #[.agg #[], .pointer (some ⟨g, 0, none⟩)] w (Erased g (spl cs 3 z_event) w) := by
  have h2 := h.alloc (.cells #[] 76)
  have ht := h2.there 3 11 (by omega)
  have h3 := Blk.setCells z_event 3 cs _ h2 (by show 3 + 11 ≤ _; omega)
  have hB := h3.1
  have hG := grown_trans2 (grown_alloc w (.cells #[] 76) (some g)) h3.2
  obtain ⟨W, hW⟩ : ∃ W, W = (w.alloc (.cells #[] 76)).setCells g 3 z_event := ⟨_, rfl⟩
  rw [← hW] at hB hG
  have HB := Lib.hid hB
  have HG := Lib.hid hG
  have HW := Lib.hid hW
  clear h h2 h3 hB hG hW
  go_enter Try.func84, Try.ntmps84
  go_wp2_with (first | ((with_reducible refine at_store ?_); refine wpList_store_mid rfl 39 _ _ rfl g 3 z_event.toArray rfl rfl ht (by kernel_rfl) (by kernel_rfl) ?_; rw [show (w.alloc (.cells #[] 76)).setCells g 3 z_event.toArray.toList = W from HW.out.symm]) | fail)
  go_end0
  exact ⟨rfl, HB.out, HG.out⟩
def z_match : List Value := [.int .i64 0, .slice none 0 0, .slice none 0 0, .slice none 0 0]
theorem er_match (g : Nat) (cs : List Value) (w : World) (hl : cs.length = 31) (h : Blk w g 50 cs) : Calls Try.prog 88 #[.agg #[], .pointer (some ⟨g, 0, none⟩)] w (Erased g (spl cs 14 z_match) w) := by
  have h2 := h.alloc (.cells #[] 76)
  have ht := h2.there 14 4 (by omega)
  have h3 := Blk.setCells z_match 14 cs _ h2 (by show 14 + 4 ≤ _; omega)
  have hB := h3.1
  have hG := grown_trans2 (grown_alloc w (.cells #[] 76) (some g)) h3.2
  obtain ⟨W, hW⟩ : ∃ W, W = (w.alloc (.cells #[] 76)).setCells g 14 z_match := ⟨_, rfl⟩
  rw [← hW] at hB hG
  have HB := Lib.hid hB
  have HG := Lib.hid hG
  have HW := Lib.hid hW
  clear h h2 h3 hB hG hW
  go_enter Try.func88, Try.ntmps88
  go_wp2_with (first | ((with_reducible refine at_store ?_); refine wpList_store_mid rfl 44 _ _ rfl g 14 z_match.toArray rfl rfl ht (by kernel_rfl) (by kernel_rfl) ?_; rw [show (w.alloc (.cells #[] 76)).setCells g 14 z_match.toArray.toList = W from HW.out.symm]) | fail)
  go_end0
  exact ⟨rfl, HB.out, HG.out⟩
def z_sizes : List Value := [.int .i64 0, .bool false, .int .i64 0, .int .i64 0, .int .i64 0, .int .i64 0]
theorem er_sizes (g : Nat) (cs : List Value) (w : World) (hl : cs.length = 31) (h : Blk w g 50 cs) : Calls Try.prog 92 #[.agg #[], .pointer (some ⟨g, 0, none⟩)] w (Erased g (spl cs 18 z_sizes) w) := by
  have h2 := h.alloc (.cells #[] 76)
  have ht := h2.there 18 6 (by omega)
  have h3 := Blk.setCells z_sizes 18 cs _ h2 (by show 18 + 6 ≤ _; omega)
  have hB := h3.1
  have hG := grown_trans2 (grown_alloc w (.cells #[] 76) (some g)) h3.2
  obtain ⟨W, hW⟩ : ∃ W, W = (w.alloc (.cells #[] 76)).setCells g 18 z_sizes := ⟨_, rfl⟩
  rw [← hW] at hB hG
  have HB := Lib.hid hB
  have HG := Lib.hid hG
  have HW := Lib.hid hW
  clear h h2 h3 hB hG hW
  go_enter Try.func92, Try.ntmps92
  go_wp2_with (first | ((with_reducible refine at_store ?_); refine wpList_store_mid rfl 46 _ _ rfl g 18 z_sizes.toArray rfl rfl ht (by kernel_rfl) (by kernel_rfl) ?_; rw [show (w.alloc (.cells #[] 76)).setCells g 18 z_sizes.toArray.toList = W from HW.out.symm]) | fail)
  go_end0
  exact ⟨rfl, HB.out, HG.out⟩
def z_fault : List Value := [.int .i64 0, .int .i64 0, .int .i64 0]
theorem er_fault (g : Nat) (cs : List Value) (w : World) (hl : cs.length = 31) (h : Blk w g 50 cs) : Calls Try.prog 85 #[.agg #[], .pointer (some ⟨g, 0, none⟩)] w (Erased g (spl cs 24 z_fault) w) := by
  have h2 := h.alloc (.cells #[] 76)
  have ht := h2.there 24 3 (by omega)
  have h3 := Blk.setCells z_fault 24 cs _ h2 (by show 24 + 3 ≤ _; omega)
  have hB := h3.1
  have hG := grown_trans2 (grown_alloc w (.cells #[] 76) (some g)) h3.2
  obtain ⟨W, hW⟩ : ∃ W, W = (w.alloc (.cells #[] 76)).setCells g 24 z_fault := ⟨_, rfl⟩
  rw [← hW] at hB hG
  have HB := Lib.hid hB
  have HG := Lib.hid hG
  have HW := Lib.hid hW
  clear h h2 h3 hB hG hW
  go_enter Try.func85, Try.ntmps85
  go_wp2_with (first | ((with_reducible refine at_store ?_); refine wpList_store_mid rfl 48 _ _ rfl g 24 z_fault.toArray rfl rfl ht (by kernel_rfl) (by kernel_rfl) ?_; rw [show (w.alloc (.cells #[] 76)).setCells g 24 z_fault.toArray.toList = W from HW.out.symm]) | fail)
  go_end0
  exact ⟨rfl, HB.out, HG.out⟩
end Go.Proofs.Ytaipnbpefdcejaa
