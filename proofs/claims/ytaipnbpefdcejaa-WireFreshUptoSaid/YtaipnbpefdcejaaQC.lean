/- Regions that draw their order and whose operations keep a class of worlds: the steps of their lexical walk. -/
import Derived.Test.YtaipnbpefdcejaaBack
import Derived.Deep.QuietTactic
set_option linter.unusedVariables false
namespace Go.Proofs.Ytaipnbpefdcejaa
open Go.RowKit
section
variable {P : Program} {ops : Array Oper} {C : World → Prop} {Q : Act → Prop} {a : Act} {o : Oper} {rest : List Oper}
theorem qc_value (hg : o.guard = none) (v : Value) (hr : ∀ w, C w → (execOp a.eval o).run P w = .ok (.value v) w) (h : wpQuiet P ops C Q rest (a.put o.dst v)) : wpQuiet P ops C Q (o :: rest) a := by
  have hw : Region.wanted o (yielded ops a.tmps) = true := by simp [Region.wanted, hg]
  unfold wpQuiet
  rw [if_pos hw]
  refine ⟨v, fun w hw => ?_, h⟩
  unfold Oper.quietAt
  rw [hr w hw]
  exact ⟨rfl, rfl⟩
theorem qc_move (hg : o.guard = none) (x : Operand) (ho : o.op = .move x ∨ o.op = .assign x) (h : wpQuiet P ops C Q rest (a.put o.dst (a.eval x))) : wpQuiet P ops C Q (o :: rest) a := by
  refine qc_value hg _ (fun w _ => ?_) h
  rcases ho with ho | ho <;> simp [execOp, ho]
theorem qc_load (hg : o.guard = none) (ty : TypeId) (x : Operand) (ho : o.op = .load ty x) (b off : Nat) (hx : a.eval x = .pointer (some ⟨b, off, none⟩)) (cs : List Value) (d : TypeDesc) (hc : ∀ w, C w → w.rangeAt b off cs)
    (hu : P.underlying ty = some d) (hd : d.isRow = true) (hi : (P.info? ty).map (·.size) = some cs.length) (h : wpQuiet P ops C Q rest (a.put o.dst (.agg cs.toArray))) : wpQuiet P ops C Q (o :: rest) a := by
  refine qc_value hg _ (fun w hw => ?_) h
  unfold execOp
  simp only [ho, hx, Instr.loadAt, Instr.sureAddr, Sem.run_bind, Sem.run_pure, Result.andThen_ok, run_loadVar_mid w b off ty cs d (hc w hw) hu hd hi]
theorem qc_index (hg : o.guard = none) (t e : TypeId) (s i : Operand) (ho : o.op = .indexAddr t s i) (ht : P.underlying t = some (.slice e)) (size : Nat) (hsz : (P.info? e).map (·.size) = some size) (b off n c k : Nat) (kk : IntKind) (hs : a.eval s = .slice (some ⟨b, off, none⟩) n c) (hi : a.eval i = .int kk (k : Int)) (hk : k < n)
    (h : wpQuiet P ops C Q rest (a.put o.dst (.pointer (some ⟨b, off + k * size, none⟩)))) : wpQuiet P ops C Q (o :: rest) a := by
  refine qc_value hg _ (fun w hw => ?_) h
  obtain ⟨i0, h1, h2⟩ := Option.map_eq_some_iff.1 hsz
  have he : P.elem t = e := by simp [Program.elem, ht]
  have hlt : (k : Int) < n := by omega
  unfold execOp
  simp [ho, hs, hi, run_indexAt_slice (P := P) (w := w) t _ n c kk (k : Int) (by rw [he]; exact ht), he, sizeOf, typeInfo, h1, h2, hlt, Addr.add]
theorem run_callFunc_own (f : FuncId) (args : Array Value) (w : World) (hb : (P.funcs[f]?).map (fun fn => (decide (fn.name = "runtime.NumGoroutine"), fn.body.isSome)) = some (false, true)) : (callFunc f args).run P w = .ok (.enter f args) w := by
  obtain ⟨fn, h1, h2⟩ := Option.map_eq_some_iff.1 hb
  simp only [Prod.mk.injEq, decide_eq_false_iff_not] at h2
  have h3 : fn.body ≠ none := by intro h; rw [h] at h2; simp at h2
  simp [callFunc, h1, h2.1, h3]
theorem qc_call (hg : o.guard = none) (f : FuncId) (hb : (P.funcs[f]?).map (fun fn => (decide (fn.name = "runtime.NumGoroutine"), fn.body.isSome)) = some (false, true)) (xs : Array Operand) (ts : Array TypeId) (ho : o.op = .call { callee := .value (.func f), args := xs, argTypes := ts }) (v : Value)
    (hc : ∀ w, C w → Calls P f (xs.map a.eval) w fun e w' => e = .returned v ∧ C w') (h : wpQuiet P ops C Q rest (a.put o.dst v)) : wpQuiet P ops C Q (o :: rest) a := by
  have hw : Region.wanted o (yielded ops a.tmps) = true := by simp [Region.wanted, hg]
  unfold wpQuiet
  rw [if_pos hw]
  refine ⟨v, fun w hw => ?_, h⟩
  unfold Oper.quietAt
  have hcw := hc w hw
  have hf : a.eval (.func f) = .func (.func f) #[] _ := rfl
  simp [execOp, ho, resolve, invoke, hf, Deferred.ofValue, run_callFunc_own f _ w hb, Oper.quietUpon]
  exact hcw
theorem qc_call2 (hg : o.guard = none) (f : FuncId) (hb : (P.funcs[f]?).map (fun fn => (decide (fn.name = "runtime.NumGoroutine"), fn.body.isSome)) = some (false, true)) (x y : Operand) (ts : Array TypeId) (ho : o.op = .call { callee := .value (.func f), args := #[x, y], argTypes := ts })
    (vx vy : Value) (hx : a.eval x = vx) (hy : a.eval y = vy) (v : Value)
    (hc : ∀ w, C w → Calls P f #[vx, vy] w fun e w' => e = .returned v ∧ C w') (h : wpQuiet P ops C Q rest (a.put o.dst v)) : wpQuiet P ops C Q (o :: rest) a := by
  refine qc_call hg f hb #[x, y] ts ho v (fun w hw => ?_) h
  have h2 : (#[x, y] : Array Operand).map a.eval = #[vx, vy] := by simp [hx, hy]
  rw [h2]
  exact hc w hw
theorem wpq_hide (h : ∀ K : Act → Prop, (∀ a, wpQuiet P ops C Q rest a → K a) → K a) : wpQuiet P ops C Q rest a := h _ (fun _ h => h)
theorem wp_region_class {id : Nat} {Q : Exit → Act → World → Prop} {a : Act} {w : World} {l : List Oper} (C : World → Prop) (hm : P.follows .mixedOrders = true) (hB : Region.lexB .any l.toArray = true) (hC : C (w.drewN 1))
    (h : wpQuiet P l.toArray C (fun a' => ∀ w', C w' → Q .normal a' w') l a) : (Code.region id l.toArray true).wp P Q a w :=
  wp_region_quiet (C := C) hm hB hC (by simpa using h)
end
theorem range_below {w w' : World} {b o : Nat} {cs : List Value} (h : w.rangeAt b o cs) (hb : Below w.heap.size w w') : w'.rangeAt b o cs := fun j v hv => by
  have h1 := h j v hv
  rw [World.cell?_of_block (w := w) (hb.block b (World.block_lt_of_cell? w _ h1))]
  exact h1
end Go.Proofs.Ytaipnbpefdcejaa
