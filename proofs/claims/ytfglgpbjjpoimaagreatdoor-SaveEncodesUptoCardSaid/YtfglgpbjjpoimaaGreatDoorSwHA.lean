/- SaveEncodes: appending one element of several cells; a struct in a block one of whose cells is a row that grows. -/
import Derived.Test.YtfglgpbjjpoimaaGreatDoorSwGQ
import Derived.Deep.RegionLaw
set_option linter.unusedVariables false
namespace Go.Proofs.YtfglgpbjjpoimaaGreatDoor
open Go.RowKit Sv
theorem sv_a {α : Type} {l : List α} {i : Nat} {a : α} : l.toArray.setIfInBounds i a = (l.set i a).toArray := List.setIfInBounds_toArray ..
theorem sv_0 {α : Type} {l : List α} {a b : α} : (b :: l).set 0 a = a :: l := List.set_cons_zero ..
theorem sv_1 {α : Type} {l : List α} {a b : α} {n : Nat} : (b :: l).set (n + 1) a = b :: l.set n a := List.set_cons_succ ..
theorem app_one (w : World) {ops : Array Oper} {rest : List Oper} {o : Oper} {a : Act} {Q : Exit → Act → World → Prop} (hgd : o.guard = none) (s x : Operand) (t e : TypeId) (z : Value) (size bytes : Nat)
  (hinf : (Tryz.prog.info? e).map (fun i => (i.zero, i.size, i.bytes)) = some (some z, size, bytes)) (ht : Tryz.prog.underlying t = some (.slice e)) (hzs : z.cells.size = size) (hsz : 0 < size) (hb : bytes ≤ 88)
  (ho : o.op = .call { callee := .builtin .append, args := #[s, x], argTypes := #[t, t] }) (base : Nat) (v : Value) (n : Nat) (xs cs : List Value) (hs : a.eval s = v) (hown : w.ownsRow base e size v n xs)
  (hx : a.eval x = .slice (some ⟨w.heap.size, 0, none⟩) 1 1) (hl : cs.length = size) (h1 : ∀ u ∈ cs, u.oneCell' = true) (hN : n ≤ 1048576) (hbase : base ≤ w.heap.size)
  (h : ∀ a' c' w', w'.ownsRow base e size (.slice a' (n + 1) c') (n + 1) (xs ++ cs) → Below base w w' → Mv w w' v (.slice a' (n + 1) c') →
   wpList Tryz.prog ops Q rest (a.put o.dst (.slice a' (n + 1) c')) w') : wpList Tryz.prog ops Q (o :: rest) a (w.alloc (.cells cs.toArray e)) := by
 obtain ⟨i0, hi, hz0, hz1, hz2⟩ := info_parts hinf
 have hbb : (n + 1) * bytes ≤ 140737488355328 := Nat.le_trans (Nat.mul_le_mul (show n + 1 ≤ 1048577 by omega) hb) (by omega)
 refine wpList_append_one w hgd s x t ho base e i0 z size bytes ht hi hz0 hz1 hz2 hzs hsz v n xs cs.toArray hs hown hx (by simpa using hl) (by simpa using h1) (by unfold maxLen; omega) hbb hbase ?_
 intro a' c' w' h2 h3 h4
 exact h a' c' w' (by simpa using h2) h3 (by
  obtain ⟨⟨q1, q2, q3, q4, q5⟩, q6⟩ := h4.mv
  have hs : (w.alloc (.cells cs.toArray e)).heap.size = w.heap.size + 1 := by show Array.size (Array.push _ _) = _; simp
  refine ⟨⟨q1, q2, q3, by omega, fun k hk hn => ?_⟩, ?_⟩
  ·rw [q5 k (by omega) hn]
   exact (bal (Below.refl w.heap.size w) (Nat.le_refl _) _).block k hk
  ·rcases q6 with h | ⟨k, h, hk⟩
   ·exact .inl h
   ·exact .inr ⟨k, h, by omega⟩)
/-- The same as a step of a region that draws its order. -/
theorem step_one (w : World) {ops : Array Oper} {o : Oper} {a : Act} {K : Act → World → Prop} {Q : Exit → Act → World → Prop} {E : Prop} (hgd : o.guard = none) (s x : Operand) (t e : TypeId) (z : Value) (size bytes : Nat)
  (hinf : (Tryz.prog.info? e).map (fun i => (i.zero, i.size, i.bytes)) = some (some z, size, bytes)) (ht : Tryz.prog.underlying t = some (.slice e)) (hzs : z.cells.size = size) (hsz : 0 < size) (hb : bytes ≤ 88)
  (ho : o.op = .call { callee := .builtin .append, args := #[s, x], argTypes := #[t, t] }) (base : Nat) (v : Value) (n : Nat) (xs cs : List Value) (hs : a.eval s = v) (hown : w.ownsRow base e size v n xs)
  (hx : a.eval x = .slice (some ⟨w.heap.size, 0, none⟩) 1 1) (hl : cs.length = size) (h1 : ∀ u ∈ cs, u.oneCell' = true) (hN : n ≤ 1048576) (hbase : base ≤ w.heap.size)
  (h : ∀ a' c' w', w'.ownsRow base e size (.slice a' (n + 1) c') (n + 1) (xs ++ cs) → Below base w w' → Mv w w' v (.slice a' (n + 1) c') → K (a.put o.dst (.slice a' (n + 1) c')) w') :
  if Region.wanted o (yielded ops a.tmps) = true then Oper.wp Tryz.prog o a (w.alloc (.cells cs.toArray e)) K Q else E := by
 have hw : Region.wanted o (yielded ops a.tmps) = true := by simp [Region.wanted, hgd]
 rw [if_pos hw]
 obtain ⟨i0, hi0, hz0, hz1, hz2⟩ := info_parts hinf
 have hbb : (n + 1) * bytes ≤ 140737488355328 := Nat.le_trans (Nat.mul_le_mul (show n + 1 ≤ 1048577 by omega) hb) (by omega)
 have hsa : (w.alloc (.cells cs.toArray e)).heap.size = w.heap.size + 1 := by show Array.size (Array.push _ _) = _; simp
 have hnew : Rd (w.alloc (.cells cs.toArray e)) (some ⟨w.heap.size, 0, none⟩) cs := by
  have := rd_new w cs.toArray e
  simpa using this
 obtain ⟨a', c', w', hr, h2, h3⟩ := run_append_rd (P := Tryz.prog) (w.alloc (.cells cs.toArray e)) base t o.type e i0 z size bytes ht hi0 hz0 hz1 hz2 hzs hsz v n _ (hown.alloc _) (some ⟨w.heap.size, 0, none⟩) 1 1 cs (by simpa using hl) hnew h1 (by unfold maxLen; omega) hbb (by omega)
 unfold Oper.wp execOp
 simp only [ho, resolve, invoke, builtin, Sem.run_bind, Sem.run_pure, Result.andThen_ok, List.map_toArray, List.map_cons, List.map_nil, hs, hx, hr]
 refine h a' c' w' h2 ((bal (Below.refl base w) hbase _).trans (h3.below (fun k hk => (hown.lt k hk).1) (by omega))) ?_
 obtain ⟨⟨q1, q2, q3, q4, q5⟩, q6⟩ := h3.mv
 refine ⟨⟨q1, q2, q3, by omega, fun k hk hn => ?_⟩, ?_⟩
 ·rw [q5 k (by omega) hn]
  exact (bal (Below.refl w.heap.size w) (Nat.le_refl _) _).block k hk
 ·rcases q6 with h | ⟨k, h, hk⟩
  ·exact .inl h
  ·exact .inr ⟨k, h, by omega⟩
theorem blk_low {w w' : World} {g base : Nat} {t : TypeId} {cs : List Value} (h : Blk w g t cs) (hb : Below base w w') (hg : g < base) : Blk w' g t cs := by
 unfold Blk
 rw [hb.block g hg]
 exact h
theorem oneI (i : Int) (k : IntKind) : (Value.int k i).oneCell' = true := rfl
theorem flat_snoc {α β : Type} (f : α → List β) (l : List α) (k : Nat) (h : k < l.length) : (l.take (k + 1)).flatMap f = (l.take k).flatMap f ++ f l[k] := by
 rw [take_snoc l k h, List.flatMap_append]
 simp
/-- What a new list reads as, at or above a place of memory. -/
def Ge (base : Nat) (a : Option Addr) : Prop := ∀ b off, a = some ⟨b, off, none⟩ → base ≤ b
theorem Ge.mono {b1 b2 : Nat} {a : Option Addr} (h : Ge b1 a) (hb : b2 ≤ b1) : Ge b2 a := fun b off e => Nat.le_trans hb (h b off e)
theorem own_ge {w : World} {base n : Nat} {e : TypeId} {size : Nat} {a : Option Addr} {m c : Nat} {xs : List Value} (h : w.ownsRow base e size (.slice a m c) n xs) : Ge base a := fun b off ha => by
 rcases h.2 with ⟨h1, rfl⟩ | ⟨g, cap, cur, h1, hbg, _⟩
 ·cases h1; cases ha
 ·cases h1; cases ha; exact hbg
theorem own_capG {w : World} {base n : Nat} {e : TypeId} {size : Nat} {a : Option Addr} {m c : Nat} {xs : List Value} (h : w.ownsRow base e size (.slice a m c) n xs) : n ≤ c := by
 rcases h.2 with ⟨h1, rfl⟩ | ⟨g, cap, cur, h1, hbg, _, h2, _⟩
 ·exact Nat.zero_le _
 ·cases h1; exact h2
/-- Read in another world whose block is the same. -/
theorem Rd.keep {w w' : World} {a : Option Addr} {vs : List Value} (h : Rd w a vs) (hb : ∀ b off, a = some ⟨b, off, none⟩ → b < w.heap.size → w'.heap[b]? = w.heap[b]?) : Rd w' a vs := by
 rcases h with rfl | ⟨b, off, rfl, hc⟩
 ·exact .inl rfl
 ·refine .inr ⟨b, off, rfl, fun i u hu => ?_⟩
  have h1 := hc i u hu
  rw [World.cell?_of_block (hb b off rfl (World.block_lt_of_cell? w _ h1))]
  exact h1
/-- Nothing but block g and the row of v was written; the row stays or goes to a new block. -/
def FrV (g : Nat) (v : Value) (w : World) (v' : Value) (w' : World) : Prop := w.heap.size ≤ w'.heap.size ∧ ∀ k, k < w.heap.size → k ≠ g → v.ownBlock ≠ some k → w'.heap[k]? = w.heap[k]? ∧ v'.ownBlock ≠ some k
theorem FrV.trans {g : Nat} {v1 v2 v3 : Value} {w1 w2 w3 : World} (h : FrV g v1 w1 v2 w2) (h' : FrV g v2 w2 v3 w3) : FrV g v1 w1 v3 w3 :=
 ⟨Nat.le_trans h.1 h'.1, fun k hk hg hv => by
  obtain ⟨e1, n1⟩ := h.2 k hk hg hv
  obtain ⟨e2, n2⟩ := h'.2 k (Nat.lt_of_lt_of_le hk h.1) hg n1
  exact ⟨e2.trans e1, n2⟩⟩
theorem FrV.refl (g : Nat) (v : Value) (w : World) : FrV g v w v w := ⟨Nat.le_refl _, fun k _ _ h => ⟨rfl, h⟩⟩
theorem FrV.of_below {g : Nat} {v : Value} {w w' : World} (h : Below w.heap.size w w') : FrV g v w v w' := ⟨h.size, fun k hk _ hv => ⟨h.block k hk, hv⟩⟩
/-- The store behind an append into cell i of block g. -/
theorem row_stored {base g i n' : Nat} {t e : TypeId} {size : Nat} {cs xs : List Value} {v v' : Value} {w w1 : World} (hb : base ≤ w.heap.size) (hg : g ≤ base) (hk : Blk w g t cs) (hi : i < cs.length) (hv : cs[i] = v) (hne : v.ownBlock ≠ some g)
  (hown : w1.ownsRow base e size v' n' xs) (hbb : Below base w w1) (hm : Mv w w1 v v') :
  Blk w1 g t cs ∧ Blk (w1.setCell ⟨g, i, none⟩ v') g t (cs.set i v') ∧ (w1.setCell ⟨g, i, none⟩ v').ownsRow base e size v' n' xs ∧ v'.ownBlock ≠ some g ∧ Below g w (w1.setCell ⟨g, i, none⟩ v') ∧ FrV g v w v' (w1.setCell ⟨g, i, none⟩ v') := by
 have hk1 := hk.kept hm.1 (fun e => hne e.symm)
 have hs := hk1.setCell i v'
 have hne' : v'.ownBlock ≠ some g := by
  rcases hm.2 with h | ⟨k, h, hk2⟩
  ·rw [h]; exact hne
  ·rw [h]; intro e; cases e; have := hk.lt; omega
 refine ⟨hk1, hs.1, hown.kept hs.2 (.inr hne'), hne', ?_, Nat.le_trans hm.1.size hs.2.size, fun k hk3 h1 h2 => ?_⟩
 ·exact (hbb.mono hg).grown hs.2 (Nat.le_trans hg (Nat.le_trans hb hbb.size)) (fun k hk => by cases hk; exact Nat.le_refl _)
 ·refine ⟨(hs.2.block k (Nat.lt_of_lt_of_le hk3 hm.1.size) (fun e => h1 (by cases e; rfl))).trans (hm.1.block k hk3 (fun e => h2 e.symm)), ?_⟩
  rcases hm.2 with h | ⟨j, h, hj⟩
  ·rw [h]; exact h2
  ·rw [h]; intro e; cases e; omega
/-- Only block g was written; it holds the cells cs. -/
structure Sto (W : World) (g : Nat) (t : TypeId) (cs : List Value) (W' : World) : Prop where
 blk : Blk W' g t cs
 grown : W.grownBy W' (some g)
theorem Sto.refl {W : World} {g : Nat} {t : TypeId} {cs : List Value} (h : Blk W g t cs) : Sto W g t cs W := ⟨h, World.grownBy.refl _ _⟩
theorem Sto.set {W W' : World} {g : Nat} {t : TypeId} {cs : List Value} (h : Sto W g t cs W') (i : Nat) (v : Value) : Sto W g t (cs.set i v) (W'.setCell ⟨g, i, none⟩ v) := by
 have hs := h.blk.setCell i v
 obtain ⟨q1, q2, q3, q4, q5⟩ := h.grown
 obtain ⟨r1, r2, r3, r4, r5⟩ := hs.2
 exact ⟨hs.1, ⟨r1.trans q1, r2.trans q2, r3.trans q3, Nat.le_trans q4 r4, fun k hk hn => (r5 k (Nat.lt_of_lt_of_le hk q4) hn).trans (q5 k hk hn)⟩⟩
theorem Sto.below {W W' w0 : World} {g : Nat} {t : TypeId} {cs : List Value} {base : Nat} (h : Sto W g t cs W') (hb : Below base w0 W) (hw : base ≤ w0.heap.size) (hg : base ≤ g) : Below base w0 W' :=
 hb.grown h.grown (Nat.le_trans hw hb.size) (fun k hk => by cases hk; exact hg)
theorem Sto.rd {W W' : World} {g : Nat} {t : TypeId} {cs : List Value} {a : Option Addr} {vs : List Value} (h : Sto W g t cs W') (hr : Rd W a vs) (hg : ∀ off, a ≠ some ⟨g, off, none⟩) : Rd W' a vs :=
 hr.keep fun b off e hb => h.grown.block b hb (by intro h2; cases h2; exact hg off e)
theorem Ge.ne {b g : Nat} {a : Option Addr} (h : Ge b a) (hg : g < b) : ∀ off, a ≠ some ⟨g, off, none⟩ := fun off e => by have := h g off e; omega
/-- What lies in memory lies below its end: an empty list may lie anywhere. -/
theorem own_ne {w : World} {base n : Nat} {e : TypeId} {size : Nat} {a : Option Addr} {m c : Nat} {xs : List Value} (h : w.ownsRow base e size (.slice a m c) n xs) {g : Nat} (hg : w.heap.size ≤ g) : ∀ off, a ≠ some ⟨g, off, none⟩ := fun off e => by
 rcases h.2 with ⟨h1, rfl⟩ | ⟨g', cap, cur, h1, hbg, hh, _⟩
 ·cases h1; cases e
 ·cases h1; cases e
  have := (Array.getElem?_eq_some_iff.1 hh).1
  omega
/-- An address in the blocks from base on. -/
def Ad (base : Nat) (w : World) (a : Option Addr) : Prop := ∀ b off, a = some ⟨b, off, none⟩ → base ≤ b ∧ b < w.heap.size
theorem own_ad {w : World} {base n : Nat} {e : TypeId} {size : Nat} {a : Option Addr} {m c : Nat} {xs : List Value} (h : w.ownsRow base e size (.slice a m c) n xs) : Ad base w a := fun b off ha => by
 rcases h.2 with ⟨h1, rfl⟩ | ⟨g', cap, cur, h1, hbg, hh, _⟩
 ·cases h1; cases ha
 ·cases h1; cases ha
  exact ⟨hbg, (Array.getElem?_eq_some_iff.1 hh).1⟩
theorem Ad.mono {base b2 : Nat} {w w' : World} {a : Option Addr} (h : Ad base w a) (hb : b2 ≤ base) (hw : w.heap.size ≤ w'.heap.size) : Ad b2 w' a := fun b off e => by
 obtain ⟨h1, h2⟩ := h b off e
 omega
/-- A list of structs that grows, and the lists that hang on its elements. -/
structure LSt {α : Type} (f : α → List Value) (sub : α → List (Option Addr × List Value)) (e : TypeId) (size base : Nat) (ys : List α) (v : Value) (w : World) : Prop where
 own : w.ownsRow base e size v ys.length (ys.flatMap f)
 sub : ∀ y ∈ ys, ∀ p ∈ sub y, Rd w p.1 p.2 ∧ ∀ b off, p.1 = some ⟨b, off, none⟩ → base ≤ b ∧ b < w.heap.size ∧ v.ownBlock ≠ some b
section
variable {α : Type} {f : α → List Value} {sub : α → List (Option Addr × List Value)} {e : TypeId} {size base : Nat} {ys : List α} {v : Value} {w : World}
theorem LSt.nil (w : World) : LSt f sub e size base [] (.slice none 0 0) w := ⟨World.ownsRow_nil w base e size, fun y hy => by simp at hy⟩
theorem LSt.below {w' : World} (h : LSt f sub e size base ys v w) (hb : Below w.heap.size w w') : LSt f sub e size base ys v w' :=
 ⟨ownsRow_below h.own hb, fun y hy p hp => by
  obtain ⟨h1, h2⟩ := h.sub y hy p hp
  exact ⟨h1.below hb, fun b off e => by obtain ⟨q1, q2, q3⟩ := h2 b off e; exact ⟨q1, Nat.lt_of_lt_of_le q2 hb.size, q3⟩⟩⟩
theorem LSt.step {v' : Value} {g : Nat} {w' : World} (h : LSt f sub e size base ys v w) (y : α) (hy : ∀ p ∈ sub y, Rd w p.1 p.2 ∧ ∀ b off, p.1 = some ⟨b, off, none⟩ → base ≤ b ∧ b < w.heap.size ∧ v.ownBlock ≠ some b)
  (hg : g < base) (hown : w'.ownsRow base e size v' (ys.length + 1) (ys.flatMap f ++ f y)) (hf : FrV g v w v' w') : LSt f sub e size base (ys ++ [y]) v' w' := by
 refine ⟨by simpa using hown, fun z hz p hp => ?_⟩
 have hzz : Rd w p.1 p.2 ∧ ∀ b off, p.1 = some ⟨b, off, none⟩ → base ≤ b ∧ b < w.heap.size ∧ v.ownBlock ≠ some b := by
  rcases List.mem_append.1 hz with hz | hz
  ·exact h.sub z hz p hp
  ·obtain rfl := List.mem_singleton.1 hz
   exact hy p hp
 refine ⟨hzz.1.keep fun b off e hb => ?_, fun b off e => ?_⟩
 ·obtain ⟨q1, q2, q3⟩ := hzz.2 b off e
  exact (hf.2 b q2 (by omega) q3).1
 ·obtain ⟨q1, q2, q3⟩ := hzz.2 b off e
  exact ⟨q1, Nat.lt_of_lt_of_le q2 hf.1, (hf.2 b q2 (by omega) q3).2⟩
theorem ownsRow_frv {v' : Value} {g n : Nat} {w' : World} {u : Value} {xs : List Value} (h : w.ownsRow base e size u n xs) (hg : g < base) (hf : FrV g (.slice none 0 0) w v' w') : w'.ownsRow base e size u n xs := by
 refine ⟨h.1, ?_⟩
 rcases h.2 with hn | ⟨b, cap, cur, rfl, hbg, hh, rest⟩
 ·exact .inl hn
 ·refine .inr ⟨b, cap, cur, rfl, hbg, ?_, rest⟩
  rw [(hf.2 b (Array.getElem?_eq_some_iff.1 hh).1 (by omega) (by simp [Value.ownBlock])).1]
  exact hh
theorem rd_frv {v' : Value} {g : Nat} {w' : World} {a : Option Addr} {vs : List Value} (h : Rd w a vs) (ha : ∀ off, a ≠ some ⟨g, off, none⟩) (hf : FrV g (.slice none 0 0) w v' w') : Rd w' a vs :=
 h.keep fun b off e hb => (hf.2 b hb (by intro h2; subst h2; exact ha off e) (by simp [Value.ownBlock])).1
theorem LSt.frv {u v' : Value} {g : Nat} {w' : World} (h : LSt f sub e size base ys u w) (hg : g < base) (hf : FrV g (.slice none 0 0) w v' w') : LSt f sub e size base ys u w' := by
 refine ⟨ownsRow_frv h.own hg hf, fun y hy p hp => ?_⟩
 obtain ⟨h1, h2⟩ := h.sub y hy p hp
 refine ⟨rd_frv h1 (fun off e => ?_) hf, fun b off e => ?_⟩
 ·have := (h2 g off e).1; omega
 ·obtain ⟨q1, q2, q3⟩ := h2 b off e
  exact ⟨q1, Nat.lt_of_lt_of_le q2 hf.1, q3⟩
end
theorem Sto.frv {W W' : World} {g : Nat} {t : TypeId} {cs : List Value} (h : Sto W g t cs W') : FrV g (.slice none 0 0) W (.slice none 0 0) W' :=
 ⟨h.grown.size, fun k hk hg _ => ⟨h.grown.block k hk (fun e => hg (by cases e; rfl)), by simp [Value.ownBlock]⟩⟩
/-- A result that lies in a block. -/
theorem results_cell {fn : Func} {t : Tmp} {ty : TypeId} (h : fn.results = #[.cell t ty]) (tmps : Array Value) (P : Program) (w : World) (b o : Nat) (v : Value) (ht : tmps.getD t undef = .pointer (some ⟨b, o, none⟩)) (hl : (loadVar ty ⟨b, o, none⟩).run P w = .ok v w) :
  (results fn tmps).run P w = .ok v w := by
 rw [Array.getD_eq_getD_getElem?] at ht
 simp [results, h, ht, hl, asAddr]
theorem Blk.whole {w : World} {g : Nat} {t : TypeId} {cs : List Value} (h : Blk w g t cs) : w.rangeAt g 0 cs := by
 have := h.range 0 cs.length (by omega)
 simpa using this
theorem wpList_load_midg {P : Program} {ops : Array Oper} {rest : List Oper} {op : Oper} {a : Act} {w : World} {Q : Exit → Act → World → Prop} (hw : Region.wanted op (yielded ops a.tmps) = true) (ty : TypeId) (x : Operand) (ho : op.op = .load ty x)
  (b o : Nat) (hx : a.eval x = .pointer (some ⟨b, o, none⟩)) (cs : List Value) (d : TypeDesc) (hc : w.rangeAt b o cs)
  (hu : P.underlying ty = some d) (hd : d.isRow = true) (hi : (P.info? ty).map (·.size) = some cs.length)
  (h : wpList P ops Q rest (a.put op.dst (.agg cs.toArray)) w) : wpList P ops Q (op :: rest) a w :=
 wpList_step fun K hK => by
  rw [if_pos hw]
  exact wp_load_mid ty x ho b o hx cs d hc hu hd hi (hK _ _ h)
theorem blk_over {w : World} {g : Nat} {t : TypeId} {cs : List Value} (h : Blk w g t cs) (vs : List Value) (hl : vs.length = cs.length) : Sto w g t vs (w.setCells g 0 vs) := by
 obtain ⟨h1, h2⟩ := Blk.setCells vs 0 cs w h (by omega)
 have e : spl cs 0 vs = vs := by simp [spl, hl]
 rw [e] at h1
 exact ⟨h1, h2⟩
end Go.Proofs.YtfglgpbjjpoimaaGreatDoor
/- SaveEncodes: the law's twinNames, twinEvents, twinTree. -/
set_option linter.unusedVariables false
namespace Go.Proofs.YtfglgpbjjpoimaaGreatDoor
open Go.RowKit Sv
theorem inf82 : (Tryz.prog.info? 82).map (fun i => (i.zero, i.size, i.bytes)) = some (some (.agg #[.int .i64 0, .int .u64 0]), 2, 16) := by kernel_rfl
theorem inf108 : (Tryz.prog.info? 108).map (fun i => (i.zero, i.size, i.bytes)) = some (some (.agg #[.int .i64 0, .int .u64 0, .int .i64 0, .int .i64 0, .int .i64 0, .int .i64 0, .int .i64 0, .int .i64 0, .int .i64 0, .int .i64 0, .int .i64 0]), 11, 88) := by kernel_rfl
theorem inf102 : (Tryz.prog.info? 102).map (fun i => (i.zero, i.size, i.bytes)) = some (some (.agg #[.int .i64 0, .int .i64 0, .string ⟨#[]⟩, .string ⟨#[]⟩, .int .i64 0, .int .i64 0]), 6, 64) := by kernel_rfl
theorem inf9 : (Tryz.prog.info? 9).map (fun i => (i.zero, i.size, i.bytes)) = some (some (.string ⟨#[]⟩), 1, 16) := by kernel_rfl
theorem inf3 : (Tryz.prog.info? 3).map (fun i => (i.zero, i.size, i.bytes)) = some (some (.int .i64 0), 1, 8) := by kernel_rfl
theorem inf64 : (Tryz.prog.info? 64).map (fun i => (i.zero, i.size, i.bytes)) = some (some (.agg #[.bool false, .int .i64 0]), 2, 16) := by kernel_rfl
theorem inf105 : (Tryz.prog.info? 105).map (fun i => (i.zero, i.size, i.bytes)) = some (some (.agg #[.bool false, .slice none 0 0, .string ⟨#[]⟩, .int .i64 0, .int .i64 0]), 5, 64) := by kernel_rfl
theorem inf58 : (Tryz.prog.info? 58).map (fun i => (i.zero, i.size, i.bytes)) = some (some (.agg #[.string ⟨#[]⟩, .slice none 0 0]), 2, 40) := by kernel_rfl
theorem inf28 : (Tryz.prog.info? 28).map (fun i => (i.zero, i.size, i.bytes)) = some (some (.slice none 0 0), 1, 24) := by kernel_rfl
theorem inf62 : (Tryz.prog.info? 62).map (fun i => (i.zero, i.size, i.bytes)) = some (some (.agg #[.int .i64 0, .slice none 0 0, .slice none 0 0, .slice none 0 0]), 4, 80) := by kernel_rfl
def Tw82 (base n : Nat) (l : List Nm) (w : World) (r : Ending) (w' : World) : Prop := ∃ a c, r = .returned (.slice a n c) ∧ w'.ownsRow base 82 2 (.slice a n c) n (l.flatMap nmc) ∧ Below base w w'
set_option maxHeartbeats 1000000 in
set_option maxRecDepth 20000 in
theorem twinNames_any (a : Option Addr) (c n : Nat) (l : List Nm) (w : World) (hn : l.length = n) (hN : n ≤ 1048576) (h : RdNm w a l) :
  Calls Tryz.prog 14 #[.slice a n c] w (Tw82 w.heap.size n l w) := by
 have HR := Lib.hid h
 have HN := Lib.hid hn
 unfold Tw82
 clear h hn
 go_enter Tryz.func14, Tryz.ntmps14
 go_wp2_with fail
 go_loopw [3, 4] (fun v i wr => ∃ (j : Nat) (a1 : Option Addr) (c1 : Nat), j ≤ n ∧ i = .int .i64 (j : Int) ∧ v = .slice a1 j c1 ∧ wr.ownsRow w.heap.size 82 2 v j ((l.take j).flatMap nmc) ∧ Below w.heap.size w wr) (fun _ i _ => n - (intOf i).toNat)
 case atStart => exact ⟨0, none, 0, Nat.zero_le _, rfl, rfl, by simpa using World.ownsRow_nil w w.heap.size 82 2, Below.refl _ _⟩
 case round =>
  obtain ⟨k, a1, c1, hkn, rfl, rfl, hown, hbw⟩ := hrel
  have hs := hbw.size
  have HBW := Lib.hid hbw
  by_cases hlt : k < n
  ·have hlt' : (k : Int) < n := by omega
   have hk0 : (0 : Int) ≤ k := by omega
   have hjl : k < l.length := by rw [HN.out]; exact hlt
   have HME := Lib.hid (meas_lt hlt)
   have HTK := Lib.hid (flat_snoc nmc l k hjl)
   obtain ⟨b1, o1, rfl, e0, e1⟩ := (HR.out.below hbw).at k hjl
   obtain ⟨u, hu⟩ : ∃ u, u = l[k] := ⟨_, rfl⟩
   rw [← hu] at e0 e1 HTK
   clear hu
   obtain ⟨u0, u1⟩ := u
   dsimp only at e0 e1
   have HCS := Lib.hid (show nmc ⟨u0, u1⟩ = [.int .i64 u0, .int .u64 (u1 : Int)] from rfl)
   clear hbw
   go_wp2_with (first | (at_builtin; refine app_one wr rfl _ _ 34 82 _ 2 _ inf82 Tryz.underlying34 rfl (by decide) (by decide) rfl w.heap.size (.slice a1 k c1) k _ [.int .i64 u0, .int .u64 (u1 : Int)] rfl hown rfl rfl (by intro z hz; simp only [List.mem_cons, List.not_mem_nil, or_false] at hz; rcases hz with rfl | rfl <;> rfl) (by omega) (by omega) ?_; intro a2 c2 w2 hown2 hb2 hmv2) | fail)
   go_roundw
   case rel => exact ⟨k + 1, a2, c2, hlt, by go_num, rfl, by rw [HTK.out, HCS.out]; exact hown2, HBW.out.trans hb2⟩
   case measure => exact HME.out
  ·have hk' : ¬ (k : Int) < n := by omega
   obtain rfl : k = n := by omega
   have HOW := Lib.hid hown
   clear hbw hown
   go_wp2_with fail
   go_ret
   exact ⟨a1, c1, rfl, by have h := HOW.out; rw [List.take_of_length_le (by rw [HN.out]; omega)] at h; exact h, HBW.out⟩
def Tw102 (base n : Nat) (l : List Nd) (w : World) (r : Ending) (w' : World) : Prop := ∃ a c, r = .returned (.slice a n c) ∧ w'.ownsRow base 102 6 (.slice a n c) n (l.flatMap ndc) ∧ Below base w w'
set_option maxHeartbeats 1000000 in
set_option maxRecDepth 20000 in
theorem twinTree_any (a : Option Addr) (c n : Nat) (l : List Nd) (w : World) (hn : l.length = n) (hN : n ≤ 1048576) (h : RdN w a l) :
  Calls Tryz.prog 39 #[.slice a n c] w (Tw102 w.heap.size n l w) := by
 have HR := Lib.hid h
 have HN := Lib.hid hn
 unfold Tw102
 clear h hn
 go_enter Tryz.func39, Tryz.ntmps39
 go_wp2_with fail
 go_loopw [3, 4] (fun v i wr => ∃ (j : Nat) (a1 : Option Addr) (c1 : Nat), j ≤ n ∧ i = .int .i64 (j : Int) ∧ v = .slice a1 j c1 ∧ wr.ownsRow w.heap.size 102 6 v j ((l.take j).flatMap ndc) ∧ Below w.heap.size w wr) (fun _ i _ => n - (intOf i).toNat)
 case atStart => exact ⟨0, none, 0, Nat.zero_le _, rfl, rfl, by simpa using World.ownsRow_nil w w.heap.size 102 6, Below.refl _ _⟩
 case round =>
  obtain ⟨k, a1, c1, hkn, rfl, rfl, hown, hbw⟩ := hrel
  have hs := hbw.size
  have HBW := Lib.hid hbw
  by_cases hlt : k < n
  ·have hlt' : (k : Int) < n := by omega
   have hk0 : (0 : Int) ≤ k := by omega
   have hjl : k < l.length := by rw [HN.out]; exact hlt
   have HME := Lib.hid (meas_lt hlt)
   have HTK := Lib.hid (flat_snoc ndc l k hjl)
   obtain ⟨b1, o1, rfl, e0, e1, e2, e3, e4, e5⟩ := RdN.at (Rd.below HR.out hbw) k hjl
   obtain ⟨u, hu⟩ : ∃ u, u = l[k] := ⟨_, rfl⟩
   rw [← hu] at e0 e1 e2 e3 e4 e5 HTK
   clear hu
   obtain ⟨u0, u1, u2, u3, u4, u5⟩ := u
   dsimp only at e0 e1 e2 e3 e4 e5
   have HCS := Lib.hid (show ndc ⟨u0, u1, u2, u3, u4, u5⟩ = [.int .i64 u0, .int .i64 u1, T u2, T u3, .int .i64 u4, .int .i64 u5] from rfl)
   clear hbw
   go_wp2_with (first | (at_builtin; refine app_one wr rfl _ _ 28 102 _ 6 _ inf102 Tryz.underlying28 rfl (by decide) (by decide) rfl w.heap.size (.slice a1 k c1) k _ [.int .i64 u0, .int .i64 u1, T u2, T u3, .int .i64 u4, .int .i64 u5] rfl hown rfl rfl (by intro z hz; simp only [List.mem_cons, List.not_mem_nil, or_false] at hz; rcases hz with rfl | rfl | rfl | rfl | rfl | rfl <;> rfl) (by omega) (by omega) ?_; intro a2 c2 w2 hown2 hb2 hmv2) | fail)
   go_roundw
   case rel => exact ⟨k + 1, a2, c2, hlt, by go_num, rfl, by rw [HTK.out, HCS.out]; exact hown2, HBW.out.trans hb2⟩
   case measure => exact HME.out
  ·have hk' : ¬ (k : Int) < n := by omega
   obtain rfl : k = n := by omega
   have HOW := Lib.hid hown
   clear hbw hown
   go_wp2_with fail
   go_ret
   exact ⟨a1, c1, rfl, by have h := HOW.out; rw [List.take_of_length_le (by rw [HN.out]; omega)] at h; exact h, HBW.out⟩
def Tw108 (base n : Nat) (l : List Ev) (w : World) (r : Ending) (w' : World) : Prop := ∃ a c, r = .returned (.slice a n c) ∧ w'.ownsRow base 108 11 (.slice a n c) n (l.flatMap evc) ∧ Below base w w'
set_option maxHeartbeats 1000000 in
set_option maxRecDepth 20000 in
theorem twinEvents_any (a : Option Addr) (c n : Nat) (l : List Ev) (w : World) (hn : l.length = n) (hN : n ≤ 1048576) (h : RdE w a l) :
  Calls Tryz.prog 13 #[.slice a n c] w (Tw108 w.heap.size n l w) := by
 have HR := Lib.hid h
 have HN := Lib.hid hn
 unfold Tw108
 clear h hn
 go_enter Tryz.func13, Tryz.ntmps13
 go_wp2_with fail
 go_loopw [3, 4] (fun v i wr => ∃ (j : Nat) (a1 : Option Addr) (c1 : Nat), j ≤ n ∧ i = .int .i64 (j : Int) ∧ v = .slice a1 j c1 ∧ wr.ownsRow w.heap.size 108 11 v j ((l.take j).flatMap evc) ∧ Below w.heap.size w wr) (fun _ i _ => n - (intOf i).toNat)
 case atStart => exact ⟨0, none, 0, Nat.zero_le _, rfl, rfl, by simpa using World.ownsRow_nil w w.heap.size 108 11, Below.refl _ _⟩
 case round =>
  obtain ⟨k, a1, c1, hkn, rfl, rfl, hown, hbw⟩ := hrel
  have hs := hbw.size
  have HBW := Lib.hid hbw
  by_cases hlt : k < n
  ·have hlt' : (k : Int) < n := by omega
   have hk0 : (0 : Int) ≤ k := by omega
   have hjl : k < l.length := by rw [HN.out]; exact hlt
   have HME := Lib.hid (meas_lt hlt)
   have HTK := Lib.hid (flat_snoc evc l k hjl)
   obtain ⟨a0, a1', a2', a3, a4, a5, a6, a7, hat⟩ := at8 ((HR.out).2 _ (List.getElem_mem hjl))
   obtain ⟨ts, id, typ, at_, hev⟩ : ∃ ts id typ at_, l[k] = ⟨ts, id, typ, at_⟩ := ⟨_, _, _, _, rfl⟩
   rw [hev] at hat HTK
   dsimp only at hat
   subst hat
   obtain ⟨b1, o1, hb1⟩ := (HR.out.below hbw).some k hjl
   obtain ⟨e0, e1, e2, e3, e4, e5, e6, e7, e8, e9, e10⟩ := (HR.out.below hbw).cells k hjl ts id typ a0 a1' a2' a3 a4 a5 a6 a7 hev b1 o1 hb1
   subst hb1
   clear hev
   have HCS := Lib.hid (show evc ⟨ts, id, typ, [a0, a1', a2', a3, a4, a5, a6, a7]⟩ = [.int .i64 ts, .int .u64 id, .int .i64 typ, .int .i64 a0, .int .i64 a1', .int .i64 a2', .int .i64 a3, .int .i64 a4, .int .i64 a5, .int .i64 a6, .int .i64 a7] from rfl)
   clear hbw
   go_wp2_with (first | (at_builtin; refine app_one wr rfl _ _ 32 108 _ 11 _ inf108 Tryz.underlying32 rfl (by decide) (by decide) rfl w.heap.size (.slice a1 k c1) k _ [.int .i64 ts, .int .u64 id, .int .i64 typ, .int .i64 a0, .int .i64 a1', .int .i64 a2', .int .i64 a3, .int .i64 a4, .int .i64 a5, .int .i64 a6, .int .i64 a7] rfl hown rfl rfl (by intro z hz; simp only [List.mem_cons, List.not_mem_nil, or_false] at hz; rcases hz with rfl | rfl | rfl | rfl | rfl | rfl | rfl | rfl | rfl | rfl | rfl <;> rfl) (by omega) (by omega) ?_; intro a2 c2 w2 hown2 hb2 hmv2) | fail)
   go_roundw
   case rel => exact ⟨k + 1, a2, c2, hlt, by go_num, rfl, by rw [HTK.out, HCS.out]; exact hown2, HBW.out.trans hb2⟩
   case measure => exact HME.out
  ·have hk' : ¬ (k : Int) < n := by omega
   obtain rfl : k = n := by omega
   have HOW := Lib.hid hown
   clear hbw hown
   go_wp2_with fail
   go_ret
   exact ⟨a1, c1, rfl, by have h := HOW.out; rw [List.take_of_length_le (by rw [HN.out]; omega)] at h; exact h, HBW.out⟩
end Go.Proofs.YtfglgpbjjpoimaaGreatDoor
