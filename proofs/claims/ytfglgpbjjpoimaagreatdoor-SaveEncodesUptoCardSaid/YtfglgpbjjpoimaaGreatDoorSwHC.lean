/- SaveEncodes: errors.As and errors.Is at the program's Broken: closed facts. -/
import Derived.Test.YtfglgpbjjpoimaaGreatDoorSwHA
import Derived.LaidEql
import Derived.Stop.Asserts
import Derived.RowKitTokens
set_option linter.unusedVariables false
namespace Go.Proofs.YtfglgpbjjpoimaaGreatDoor
open Go.RowKit Go.Extern.Stop Go.Stop Go.Extern
theorem as_valueOf27 (t : Addr) (w : World) : (ReflectliteValue.unpack (.iface 91 (.pointer (some t)))).run Tryz.prog w
  = .ok (.agg #[.pointer (some ⟨13, 91, none⟩), .pointer (some ⟨w.heap.size, 0, none⟩), .int .u64 150]) (w.alloc (.cells #[.pointer (some t)] 91)) := by kernel_rfl
theorem as_type27 (a : Addr) (w : World) : (ReflectliteValue.methodAny (ReflectliteValue.valueError "reflectlite.Value.Type" 0) (fun t _ _ _ => ReflectliteType.toType t) #[.agg #[.pointer (some ⟨13, 91, none⟩), .pointer (some a), .int .u64 150]]).run Tryz.prog w
  = .ok (.iface 189 (.agg #[.pointer (some ⟨13, 91, none⟩)])) w := by kernel_rfl
theorem as_methodKind (h : Value) (w : World) : (Go.method 375 189 (.agg #[h]) "Kind").run Tryz.prog w = .ok (162, h) w := by kernel_rfl
theorem as_kind27 (w : World) : ((ReflectliteType.abiMethod fun t => (fun a : Nat => Value.int IntKind.u8 (a : Int)) <$> Rtype.kind t) #[.pointer (some ⟨13, 91, none⟩)]).run Tryz.prog w = .ok (.int .u8 22) w := by kernel_rfl
theorem as_kind25 (w : World) : ((ReflectliteType.abiMethod fun t => (fun a : Nat => Value.int IntKind.u8 (a : Int)) <$> Rtype.kind t) #[.pointer (some ⟨13, 89, none⟩)]).run Tryz.prog w = .ok (.int .u8 22) w := by kernel_rfl

theorem rlm (z : Sem Value) (f : TypeId → Addr → Nat → Nat → Sem Value) (v : Value) :
  ReflectliteValue.method z f #[v] = (do match ← ReflectliteValue.parts v with | none => z | some (t, a, fl) => f t a fl (fl % 32)) := rfl
theorem as_parts27 (a : Addr) (w : World) : (ReflectliteValue.parts (.agg #[.pointer (some ⟨13, 91, none⟩), .pointer (some a), .int .u64 150])).run Tryz.prog w = .ok (some (91, a, 150)) w := by kernel_rfl
/-- (Value).IsNil at the Value of a **p.E that is not nil. -/
theorem as_isNil27 (a p : Addr) (W : World) (ha : W.cell? a = some (.pointer (some p))) :
  (ReflectliteValue.method (ReflectliteValue.valueError "reflectlite.Value.IsNil" 0) ReflectliteValue.isNil #[.agg #[.pointer (some ⟨13, 91, none⟩), .pointer (some a), .int .u64 150]]).run Tryz.prog W = .ok (.bool false) W := by
 rw [rlm]
 simp only [Sem.run_bind, as_parts27, Result.andThen]
 simp [ReflectliteValue.isNil, loadVar, isAgg, underlying, Tryz.underlying91, ha, Result.andThen]

theorem as_methodElem (h : Value) (w : World) : (Go.method 375 189 (.agg #[h]) "Elem").run Tryz.prog w = .ok (175, .agg #[h]) w := by kernel_rfl
theorem as_methodImplements (h : Value) (w : World) : (Go.method 375 189 (.agg #[h]) "Implements").run Tryz.prog w = .ok (176, .agg #[h]) w := by kernel_rfl
theorem as_methodAssignableTo (h : Value) (w : World) : (Go.method 375 189 (.agg #[h]) "AssignableTo").run Tryz.prog w = .ok (173, .agg #[h]) w := by kernel_rfl
theorem as_elem27 (w : World) : (ReflectliteType.method ReflectliteType.elem #[.agg #[.pointer (some ⟨13, 91, none⟩)]]).run Tryz.prog w = .ok (.iface 189 (.agg #[.pointer (some ⟨13, 89, none⟩)])) w := by kernel_rfl
theorem as_implements25 (w : World) : (ReflectliteType.relation "Implements" ReflectliteType.implements_ #[.agg #[.pointer (some ⟨13, 89, none⟩)], .iface 189 (.agg #[.pointer (some ⟨13, 44, none⟩)])]).run Tryz.prog w = .ok (.bool true) w := by kernel_rfl
theorem as_typeOf25 (v : Value) (w : World) : (ReflectliteType.typeOf #[.iface 89 v]).run Tryz.prog w = .ok (.iface 189 (.agg #[.pointer (some ⟨13, 89, none⟩)])) w := by kernel_rfl
theorem as_assignable25 (w : World) : (ReflectliteType.relation "AssignableTo" ReflectliteType.assignableTo #[.agg #[.pointer (some ⟨13, 89, none⟩)], .iface 189 (.agg #[.pointer (some ⟨13, 89, none⟩)])]).run Tryz.prog w = .ok (.bool true) w := by kernel_rfl
theorem as_valueOf25 (e : Addr) (w : World) : (ReflectliteValue.unpack (.iface 89 (.pointer (some e)))).run Tryz.prog w
  = .ok (.agg #[.pointer (some ⟨13, 89, none⟩), .pointer (some ⟨w.heap.size, 0, none⟩), .int .u64 150]) (w.alloc (.cells #[.pointer (some e)] 89)) := by kernel_rfl

theorem as_elemOf27 (w : World) : (Rtype.elem? 91).run Tryz.prog w = .ok (some 89) w := by kernel_rfl
theorem as_mk25 (p : Addr) (w : World) : (ReflectliteValue.mk 89 p ReflectliteValue.flagAddr).run Tryz.prog w = .ok (.agg #[.pointer (some ⟨13, 89, none⟩), .pointer (some p), .int .u64 406]) w := by kernel_rfl
/-- (Value).Elem at the Value of a **p.E that is not nil: the Value of the *p.E variable that it points to, addressable. -/
theorem as_elemV27 (a p : Addr) (W : World) (ha : W.cell? a = some (.pointer (some p))) :
  (ReflectliteValue.method (ReflectliteValue.valueError "reflectlite.Value.Elem" 0) ReflectliteValue.elem #[.agg #[.pointer (some ⟨13, 91, none⟩), .pointer (some a), .int .u64 150]]).run Tryz.prog W
   = .ok (.agg #[.pointer (some ⟨13, 89, none⟩), .pointer (some p), .int .u64 406]) W := by
 rw [rlm]
 simp only [Sem.run_bind, as_parts27, Result.andThen]
 simp [ReflectliteValue.elem, loadVar, isAgg, underlying, Tryz.underlying91, ha, Result.andThen, as_elemOf27, as_mk25]
theorem rls (v x : Value) : ReflectliteValue.set #[v, x] = (do
  let (some (dst, a, fl), some (src, b, _)) := (← ReflectliteValue.parts v, ← ReflectliteValue.parts x)
   | unsupported (.noEntry "extern/(internal/reflectlite.Value).Set.zeroValue")
  if fl / ReflectliteValue.flagAddr % 2 == 0 then unsupported (.noEntry "extern/(internal/reflectlite.Value).Set.unaddressable")
  let val ← loadVar src b
  if ← Rtype.directlyAssignable dst src then storeVar dst a val
  else if ← Rtype.implements dst src then
   if (← Rtype.kind src) == 20 then
    match val with
    | .nilIface => unsupported (.noEntry "extern/reflectlite: a nil value of one interface type handed on as a value of another")
    | _ => storeVar dst a val
   else storeVar dst a (.iface src val)
  else panicString ("reflectlite.Set: value of type " ++ (← Rtype.spelt src) ++ " is not assignable to type " ++ (← Rtype.spelt dst))
  pure (.tuple #[])) := rfl
theorem as_parts25a (a : Addr) (w : World) : (ReflectliteValue.parts (.agg #[.pointer (some ⟨13, 89, none⟩), .pointer (some a), .int .u64 406])).run Tryz.prog w = .ok (some (89, a, 406)) w := by kernel_rfl
theorem as_parts25 (a : Addr) (w : World) : (ReflectliteValue.parts (.agg #[.pointer (some ⟨13, 89, none⟩), .pointer (some a), .int .u64 150])).run Tryz.prog w = .ok (some (89, a, 150)) w := by kernel_rfl
theorem as_direct25 (w : World) : (Rtype.directlyAssignable 89 89).run Tryz.prog w = .ok true w := by kernel_rfl
theorem as_size25 (w : World) : (sizeOf 89).run Tryz.prog w = .ok 1 w := by kernel_rfl
/-- (Value).Set: the *p.E variable at 'ta' gets what the Value's own variable 'b' holds. -/
theorem as_set25 (ta b e : Addr) (old : Value) (W : World) (hb : W.cell? b = some (.pointer (some e))) (ht : W.cell? ta = some old) (hf : W.frozen? ta = false) :
  (ReflectliteValue.set #[.agg #[.pointer (some ⟨13, 89, none⟩), .pointer (some ta), .int .u64 406], .agg #[.pointer (some ⟨13, 89, none⟩), .pointer (some b), .int .u64 150]]).run Tryz.prog W
   = .ok (.tuple #[]) (W.setCell ta (.pointer (some e))) := by
 rw [rls]
 simp only [Sem.run_bind, as_parts25a, as_parts25, Result.andThen]
 simp [ReflectliteValue.flagAddr, loadVar, isAgg, underlying, Tryz.underlying89, hb, Result.andThen, as_direct25, storeVar, Value.cells, storeCells, Addr.add]
 rw [run_store Tryz.prog W ta _ _ (by rfl)]
 simp [ht, hf]

end Go.Proofs.YtfglgpbjjpoimaaGreatDoor
/- SaveEncodes: errors.As at the program's Broken. -/
set_option linter.unusedVariables false
namespace Go.Proofs.YtfglgpbjjpoimaaGreatDoor
open Go.RowKit Go.Extern.Stop Go.Stop Go.Extern
set_option maxHeartbeats 4000000 in
theorem as_hit (e t : Addr) (old : Value) (w : World) (hg : w.cell? ⟨2, 0, none⟩ = some (.iface 189 (.agg #[.pointer (some ⟨13, 44, none⟩)]))) (ht0 : w.cell? t = some old) (hf0 : w.frozen? t = false) :
  Calls Tryz.prog 32 #[.iface 89 (.pointer (some e)), .iface 91 (.pointer (some t))] w fun ev w' => ev = .returned (.bool true) ∧ w' = ((((w.alloc (.cells #[.pointer (some t)] 91)).alloc (.cells #[.pointer (some ⟨13, 91, none⟩), .pointer (some ⟨w.heap.size, 0, none⟩), .int .u64 150] 157)).alloc (.cells #[.pointer (some ⟨13, 91, none⟩), .pointer (some ⟨w.heap.size, 0, none⟩), .int .u64 150] 157)).alloc (.cells #[.pointer (some e)] 89)).setCell t (.pointer (some e)) := by
 have h6 := @run_callFunc_extern Tryz.prog 74 _ (fun args => ReflectliteValue.unpack (args.getD 0 (.tuple #[]))) Tryz.func74 (by kernel_rfl) (by kernel_rfl) (by kernel_rfl) (by kernel_rfl)
 have h7 := @run_callFunc_extern Tryz.prog 75 _ (ReflectliteValue.methodAny (ReflectliteValue.valueError "reflectlite.Value.Type" 0) (fun t _ _ _ => ReflectliteType.toType t)) Tryz.func75 (by kernel_rfl) (by kernel_rfl) (by kernel_rfl) (by kernel_rfl)
 have h8 := @run_callFunc_extern Tryz.prog 76 _ (ReflectliteValue.method (ReflectliteValue.valueError "reflectlite.Value.IsNil" 0) ReflectliteValue.isNil) Tryz.func76 (by kernel_rfl) (by kernel_rfl) (by kernel_rfl) (by kernel_rfl)
 have h27 := @run_callFunc_extern Tryz.prog 162 _ (ReflectliteType.abiMethod fun t => do pure (.int .u8 (← Rtype.kind t))) Tryz.func162 (by kernel_rfl) (by kernel_rfl) (by kernel_rfl) (by kernel_rfl)
 have h37 := @run_callFunc_extern Tryz.prog 175 _ (ReflectliteType.method ReflectliteType.elem) Tryz.func175 (by kernel_rfl) (by kernel_rfl) (by kernel_rfl) (by kernel_rfl)
 have h38 := @run_callFunc_extern Tryz.prog 176 _ (ReflectliteType.relation "Implements" ReflectliteType.implements_) Tryz.func176 (by kernel_rfl) (by kernel_rfl) (by kernel_rfl) (by kernel_rfl)
 have h10 := @run_callFunc_extern Tryz.prog 78 _ ReflectliteType.typeOf Tryz.func78 (by kernel_rfl) (by kernel_rfl) (by kernel_rfl) (by kernel_rfl)
 have h35 := @run_callFunc_extern Tryz.prog 173 _ (ReflectliteType.relation "AssignableTo" ReflectliteType.assignableTo) Tryz.func173 (by kernel_rfl) (by kernel_rfl) (by kernel_rfl) (by kernel_rfl)
 have h11 := @run_callFunc_extern Tryz.prog 102 _ (ReflectliteValue.method (ReflectliteValue.valueError "reflectlite.Value.Elem" 0) ReflectliteValue.elem) Tryz.func102 (by kernel_rfl) (by kernel_rfl) (by kernel_rfl) (by kernel_rfl)
 have h12 := @run_callFunc_extern Tryz.prog 103 _ ReflectliteValue.set Tryz.func103 (by kernel_rfl) (by kernel_rfl) (by kernel_rfl) (by kernel_rfl)
 have tO := as_typeOf25
 have mA := as_methodAssignableTo
 have a25 := as_assignable25
 have v25 := as_valueOf25
 have f6 := as_valueOf27
 have f7 := as_type27
 have mK := as_methodKind
 have mE := as_methodElem
 have mI := as_methodImplements
 have k27 := as_kind27
 have k25 := as_kind25
 have e27 := as_elem27
 have i25 := as_implements25
 have n8 := as_isNil27 ⟨w.heap.size, 0, none⟩ t ((w.alloc (.cells #[.pointer (some t)] 91)).alloc (.cells #[.pointer (some ⟨13, 91, none⟩), .pointer (some ⟨w.heap.size, 0, none⟩), .int .u64 150] 157)) (by simp)
 have hlt : 2 < w.heap.size := by
  exact World.block_lt_of_cell? w _ hg
 have hg2 : ((w.alloc (.cells #[.pointer (some t)] 91)).alloc (.cells #[.pointer (some ⟨13, 91, none⟩), .pointer (some ⟨w.heap.size, 0, none⟩), .int .u64 150] 157)).cell? ⟨2, 0, none⟩ = some (.iface 189 (.agg #[.pointer (some ⟨13, 44, none⟩)])) := by
  rw [World.cell?_alloc_lt _ _ ⟨2, 0, none⟩ (by simp; omega), World.cell?_alloc_lt _ _ ⟨2, 0, none⟩ hlt]; exact hg
 have htl : t.block < w.heap.size := by
  rcases Nat.lt_or_ge t.block w.heap.size with h | h
  ·exact h
  ·simp [World.cell?, Array.getElem?_eq_none h] at ht0
 have el := as_elemV27 ⟨w.heap.size, 0, none⟩ t (((w.alloc (.cells #[.pointer (some t)] 91)).alloc (.cells #[.pointer (some ⟨13, 91, none⟩), .pointer (some ⟨w.heap.size, 0, none⟩), .int .u64 150] 157)).alloc (.cells #[.pointer (some ⟨13, 91, none⟩), .pointer (some ⟨w.heap.size, 0, none⟩), .int .u64 150] 157)) (by rw [World.cell?_alloc_lt _ _ ⟨w.heap.size, 0, none⟩ (by simp; omega)]; simp)
 have st := as_set25 t ⟨w.heap.size + 1 + 1 + 1, 0, none⟩ e old ((((w.alloc (.cells #[.pointer (some t)] 91)).alloc (.cells #[.pointer (some ⟨13, 91, none⟩), .pointer (some ⟨w.heap.size, 0, none⟩), .int .u64 150] 157)).alloc (.cells #[.pointer (some ⟨13, 91, none⟩), .pointer (some ⟨w.heap.size, 0, none⟩), .int .u64 150] 157)).alloc (.cells #[.pointer (some e)] 89))
  (by rw [World.cell?_alloc_at _ _ _ _ (by simp)]; rfl)
  (by rw [World.cell?_alloc_lt _ _ t (by simp; omega), World.cell?_alloc_lt _ _ t (by simp; omega), World.cell?_alloc_lt _ _ t (by simp; omega), World.cell?_alloc_lt _ _ t htl]; exact ht0)
  (by rw [World.frozen?_alloc_old _ _ t (by simp; omega), World.frozen?_alloc_old _ _ t (by simp; omega), World.frozen?_alloc_old _ _ t (by simp; omega), World.frozen?_alloc_old _ _ t (Nat.ne_of_lt htl)]; exact hf0)
 go_enter Tryz.func32, Tryz.ntmps32
 go_wp2
 refine wp_loop_rounds 1 ?_
 rw [rounds_succ]
 go_wp2
 go_ret
 exact ⟨rfl, rfl⟩
end Go.Proofs.YtfglgpbjjpoimaaGreatDoor
/- SaveEncodes: errors.Is at the program's Broken and its code. -/
set_option linter.unusedVariables false
namespace Go.Proofs.YtfglgpbjjpoimaaGreatDoor
open Go.RowKit Go.Extern.Stop Go.Stop Go.Extern
theorem is_typeOf40 (v : Value) (w : World) : (ReflectliteType.typeOf #[.iface 40 v]).run Tryz.prog w = .ok (.iface 189 (.agg #[.pointer (some ⟨13, 40, none⟩)])) w := by kernel_rfl
theorem is_methodComparable (h : Value) (w : World) : (Go.method 375 189 (.agg #[h]) "Comparable").run Tryz.prog w = .ok (174, .agg #[h]) w := by kernel_rfl
theorem is_comparable (w : World) : (callFunc 174 #[.agg #[.pointer (some ⟨13, 40, none⟩)]]).run Tryz.prog w = .ok (.value (.bool true)) w := by kernel_rfl
theorem is_noIsB (v : Value) (xT : TypeId) (w : World) : (Instr.typeAssert (.iface 89 v) xT 201 true).run Tryz.prog w = .ok (.tuple #[.nilIface, .bool false]) w := run_typeAssert_lacksB Tryz.underlying201 (by kernel_rfl) (by kernel_rfl) v xT w
theorem is_unwrapB (v : Value) (xT : TypeId) (w : World) : (Instr.typeAssert (.iface 89 v) xT 196 true).run Tryz.prog w = .ok (.tuple #[.iface 89 v, .bool true]) w := run_typeAssert_hasB Tryz.underlying196 (by kernel_rfl) v xT w
theorem is_methodUnwrap (v : Value) (w : World) : (Go.method 375 89 v "Unwrap").run Tryz.prog w = .ok (167, v) w := by kernel_rfl
theorem is_comp40 : (Tryz.prog.info? 40).map (·.comparable) = some true := by kernel_rfl
theorem is_eql_other (v x : Value) (w : World) : (binOp .eql 44 (.iface 89 v) (.iface 40 x)).run Tryz.prog w = .ok (.bool false) w := by
 have h : ∀ d : Nat, (Op.equalIn (d + 1) 44 (.iface 89 v) (.iface 40 x)).run Tryz.prog w = .ok false w := fun d => by simp [Op.equalIn, run_underlying Tryz.underlying44]
 simp only [binOp]
 simp [Op.equal, Op.maxDepth, h 9999]
theorem is_eql_same (c : Int) (w : World) : (binOp .eql 44 (.iface 40 (.int .i64 c)) (.iface 40 (.int .i64 c))).run Tryz.prog w = .ok (.bool true) w := by
 obtain ⟨i, hi, hcmp⟩ := Option.map_eq_some_iff.1 is_comp40
 have h : ∀ d : Nat, (Op.equalIn (d + 2) 44 (.iface 40 (.int .i64 c)) (.iface 40 (.int .i64 c))).run Tryz.prog w = .ok true w := fun d => by simp [Op.equalIn, run_underlying Tryz.underlying44, run_underlying Tryz.underlying40, typeInfo, hi, hcmp]
 simp only [binOp]
 simp [Op.equal, Op.maxDepth, h 9998]
set_option maxHeartbeats 4000000 in
set_option maxRecDepth 20000 in
theorem unwrap_any (e : Nat) (c p : Int) (w : World) (h : Blk w e 94 [.int .i64 c, .int .i64 p]) :
  Calls Tryz.prog 167 #[.pointer (some ⟨e, 0, none⟩)] w fun ev w' => ev = .returned (.iface 40 (.int .i64 c)) ∧ w' = w := by
 have hk := h.ci 0 rfl
 clear h
 go_enter Tryz.func167, Tryz.ntmps167
 go_wp2_with fail
 go_ret
 exact ⟨rfl, rfl⟩
set_option maxHeartbeats 4000000 in
set_option maxRecDepth 20000 in
theorem is_any (e : Nat) (c p : Int) (w : World) (h : Blk w e 94 [.int .i64 c, .int .i64 p]) :
  Calls Tryz.prog 79 #[.iface 89 (.pointer (some ⟨e, 0, none⟩)), .iface 40 (.int .i64 c), .bool true] w fun ev w' => ev = .returned (.bool true) ∧ w' = w := by
 have HU := Lib.hid (unwrap_any e c p w h)
 have nB := is_noIsB
 have uB := is_unwrapB
 have mU := is_methodUnwrap
 have q1 := is_eql_other
 have q2 := is_eql_same
 clear h
 go_enter Tryz.func79, Tryz.ntmps79
 go_wp2_with fail
 refine wp_loop_rounds 2 ?_
 rw [rounds_succ]
 go_wp2_with (first | (go_at_call 167; refine (HU.out).mono ?_; rintro ev w' ⟨rfl, rfl⟩) | fail)
 rw [rounds_succ]
 go_wp2_with fail
 go_ret
 exact ⟨rfl, rfl⟩
set_option maxHeartbeats 4000000 in
set_option maxRecDepth 20000 in
theorem is_hit (e : Nat) (c p : Int) (w : World) (h : Blk w e 94 [.int .i64 c, .int .i64 p]) :
  Calls Tryz.prog 33 #[.iface 89 (.pointer (some ⟨e, 0, none⟩)), .iface 40 (.int .i64 c)] w fun ev w' => ev = .returned (.bool true) ∧ w' = w := by
 have HI := Lib.hid (is_any e c p w h)
 have h10 := @run_callFunc_extern Tryz.prog 78 _ ReflectliteType.typeOf Tryz.func78 (by kernel_rfl) (by kernel_rfl) (by kernel_rfl) (by kernel_rfl)
 have tO := is_typeOf40
 have mC := is_methodComparable
 have cC := is_comparable
 clear h
 go_enter Tryz.func33, Tryz.ntmps33
 go_wp2_with (first | (go_at_call 79; refine (HI.out).mono ?_; rintro ev w' ⟨rfl, rfl⟩) | fail)
 go_ret
 exact ⟨rfl, rfl⟩
end Go.Proofs.YtfglgpbjjpoimaaGreatDoor
/- SaveEncodes: the law's told. -/
set_option linter.unusedVariables false
namespace Go.Proofs.YtfglgpbjjpoimaaGreatDoor
open Go.RowKit
/-- The variable errors.errorType. -/
def EtOK (w : World) : Prop := w.cell? ⟨2, 0, none⟩ = some (.iface 189 (.agg #[.pointer (some ⟨13, 44, none⟩)]))
theorem EtOK.below {w w' : World} (h : EtOK w) (hb : Below w.heap.size w w') : EtOK w' := by
 unfold EtOK at *
 rw [hb.cell (World.block_lt_of_cell? w _ h)]
 exact h
theorem as_any (e g : Nat) (w : World) (hg : EtOK w) (hk : Blk w g 89 [.pointer none]) :
  Calls Tryz.prog 32 #[.iface 89 (.pointer (some ⟨e, 0, none⟩)), .iface 91 (.pointer (some ⟨g, 0, none⟩))] w fun ev w' => ev = .returned (.bool true) ∧ Blk w' g 89 [.pointer (some ⟨e, 0, none⟩)] ∧ Below g w w' ∧ ∀ k, k < w.heap.size → k ≠ g → w'.heap[k]? = w.heap[k]? := by
 refine (as_hit ⟨e, 0, none⟩ ⟨g, 0, none⟩ (.pointer none) w hg (hk.ci 0 rfl) (hk.frozen 0)).mono ?_
 rintro ev w' ⟨rfl, rfl⟩
 obtain ⟨W, hW⟩ : ∃ W, W = (((w.alloc (.cells #[.pointer (some ⟨g, 0, none⟩)] 91)).alloc (.cells #[.pointer (some ⟨13, 91, none⟩), .pointer (some ⟨w.heap.size, 0, none⟩), .int .u64 150] 157)).alloc (.cells #[.pointer (some ⟨13, 91, none⟩), .pointer (some ⟨w.heap.size, 0, none⟩), .int .u64 150] 157)).alloc (.cells #[.pointer (some ⟨e, 0, none⟩)] 89) := ⟨_, rfl⟩
 have hb : Below w.heap.size w W := by rw [hW]; exact bal (bal (bal (bal (Below.refl _ _) (Nat.le_refl _) _) (Nat.le_refl _) _) (Nat.le_refl _) _) (Nat.le_refl _) _
 rw [← hW]
 have hs := (hk.below hb).setCell 0 (.pointer (some ⟨e, 0, none⟩))
 refine ⟨rfl, hs.1, (hb.mono (Nat.le_of_lt hk.lt)).grown hs.2 (Nat.le_trans (Nat.le_of_lt hk.lt) hb.size) (fun k hk => by cases hk; exact Nat.le_refl _), fun k hk2 hn => ?_⟩
 exact (hs.2.block k (Nat.lt_of_lt_of_le hk2 hb.size) (fun e => hn (by cases e; rfl))).trans (hb.block k hk2)
set_option maxRecDepth 20000 in
theorem told_nil (w : World) : Calls Tryz.prog 8 #[.nilIface] w fun e w' => e = .returned (.tuple #[.int .i64 0, .int .i64 0]) ∧ w' = w := by
 go_enter Tryz.func8, Tryz.ntmps8
 go_wp2_with fail
 go_ret2
 exact ⟨rfl, rfl⟩
set_option maxHeartbeats 2000000 in
set_option maxRecDepth 20000 in
theorem told_any (e : Nat) (c p : Int) (w : World) (h : Blk w e 94 [.int .i64 c, .int .i64 p]) (hg : EtOK w) :
  Calls Tryz.prog 8 #[.iface 89 (.pointer (some ⟨e, 0, none⟩))] w fun ev w' => ev = .returned (.tuple #[.int .i64 c, .int .i64 p]) ∧ Below w.heap.size w w' := by
 obtain ⟨w1, hw1⟩ : ∃ w1, w1 = w.alloc (.cells #[.pointer none] 89) := ⟨_, rfl⟩
 obtain ⟨g, hgg⟩ : ∃ g, g = w.heap.size := ⟨_, rfl⟩
 have hb1 : Below w.heap.size w w1 := by rw [hw1]; exact bal (Below.refl _ _) (Nat.le_refl _) _
 have hk1 : Blk w1 g 89 [.pointer none] := by rw [hw1, hgg]; exact Blk.new w _ 89
 have HAS := Lib.hid (as_any e g w1 (hg.below hb1) hk1)
 have HE1 := Lib.hid (h.below hb1)
 have HB1 := Lib.hid hb1
 have HGG := Lib.hid hgg
 have heg : e < g := by rw [hgg]; exact h.lt
 have HEG := Lib.hid heg
 clear h hg hb1 hk1 heg
 go_enter Tryz.func8, Tryz.ntmps8
 go_upto_region 4 with fail
 rw [← hw1, ← hgg]
 clear hw1 hgg
 go_wp2_with fail
 refine (HAS.out).mono ?_
 rintro ev w2 ⟨rfl, hk2, hb2, hf2⟩
 have he2 : Blk w2 e 94 [.int .i64 c, .int .i64 p] := by
  unfold Blk
  rw [hf2 e HE1.out.lt (by have := HEG.out; omega)]
  exact HE1.out
 have HB2 := Lib.hid (show Below w.heap.size w w2 from HB1.out.trans (by rw [← HGG.out]; exact hb2))
 have HIS := Lib.hid (is_hit e c p w2 he2)
 have k0 := hk2.ci 0 rfl
 have e0 := he2.ci 0 rfl
 have e1 := he2.ci 1 rfl
 have HK2 := Lib.hid hk2
 have HE2 := Lib.hid he2
 clear hk2 hb2 hf2 he2
 go_wp2_with fail
 refine (HIS.out).mono ?_
 rintro ev w2 ⟨rfl, rfl⟩
 go_wp2_with fail
 go_region_held3 (fun W => W.cell? ⟨g, 0, none⟩ = some (.pointer (some ⟨e, 0, none⟩)) ∧ W.cell? ⟨e, 0, none⟩ = some (.int .i64 c) ∧ W.cell? ⟨e, 1, none⟩ = some (.int .i64 p))
  (exact ⟨k0, e0, e1⟩) (fail)
 go_wp2_with fail
 go_ret2
 exact ⟨rfl, HB2.out.trans (Below.refl _ _).drew⟩
end Go.Proofs.YtfglgpbjjpoimaaGreatDoor
