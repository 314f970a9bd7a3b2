/- The comparison of two arrays of eight numbers. -/
import Derived.Test.YtaipnbpefdcejaaErase
set_option linter.unusedVariables false
namespace Go.Proofs.Ytaipnbpefdcejaa
open Go.RowKit
def arr8 (x0 x1 x2 x3 x4 x5 x6 x7 : Int) : Value := .agg #[.int .i64 x0, .int .i64 x1, .int .i64 x2, .int .i64 x3, .int .i64 x4, .int .i64 x5, .int .i64 x6, .int .i64 x7]
theorem forIn_all {P : Program} (f : Nat → Bool) (g : Nat → Option Bool × Unit → Sem (ForInStep (Option Bool × Unit))) (w : World) : ∀ (l : List Nat), (∀ i ∈ l, (g i (none, ())).run P w = .ok (if f i then .yield (none, ()) else .done (some false, ())) w) →
    (forIn l ((none, ()) : Option Bool × Unit) g).run P w = .ok (if l.all f then (none, ()) else (some false, ())) w := by
  intro l
  induction l with
  | nil => intro _; simp
  | cons i l ih =>
    intro h
    rw [List.forIn_cons, Sem.run_bind, h i (by simp)]
    simp only [Result.andThen_ok, List.all_cons]
    by_cases hb : f i = true
    · simp only [hb, Bool.true_and, if_true]
      exact ih fun j hj => h j (List.mem_cons_of_mem _ hj)
    · simp [hb]
theorem eq8_d (d : Nat) (x0 x1 x2 x3 x4 x5 x6 x7 y0 y1 y2 y3 y4 y5 y6 y7 : Int) (w : World) :
    (Op.equalIn (d + 2) 37 (arr8 x0 x1 x2 x3 x4 x5 x6 x7) (arr8 y0 y1 y2 y3 y4 y5 y6 y7)).run Try.prog w =
      .ok (x0 == y0 && (x1 == y1 && (x2 == y2 && (x3 == y3 && (x4 == y4 && (x5 == y5 && (x6 == y6 && x7 == y7))))))) w := by
  have hu := Try.underlying37
  have h2 := Try.underlying2
  obtain ⟨i0, hi, hz0, hz1, hz2⟩ := info_parts (show (Try.prog.info? 2).map (fun i => (i.zero, i.size, i.bytes)) = some (some (.int .i64 0), 1, 8) by kernel_rfl)
  have hp : ∀ (w : World) (cs : Array Value) (k : Nat) (v : Value), cs[k]? = some v → (part 2 cs k).run Try.prog w = .ok v w := by
    intro w cs k v hv
    simp [part, Sem.run_bind, hv]
  have he : ∀ (w : World) (a b : Int), (Op.equalIn (d + 1) 2 (.int .i64 a) (.int .i64 b)).run Try.prog w = .ok (a == b) w := fun w a b => run_equalIn_int w d 2 .i64 .i64 a b h2
  have hs : ∀ w : World, (sizeOf 2).run Try.prog w = .ok 1 w := by
    intro w
    simp [sizeOf, typeInfo, hi, hz1]
  unfold arr8
  rw [Op.equalIn]
  simp only [Sem.run_bind, run_underlying hu, Result.andThen_ok, hs]
  generalize Op.equalIn (d + 1) = E at he ⊢
  simp only [Std.Legacy.Range.forIn_eq_forIn_range', Std.Legacy.Range.size]
  rw [show List.range' 0 ((8 - 0 + 1 - 1) / 1) = [0, 1, 2, 3, 4, 5, 6, 7] by decide]
  have hx := forIn_all (P := Try.prog) (fun i => match i with | 0 => x0 == y0 | 1 => x1 == y1 | 2 => x2 == y2 | 3 => x3 == y3 | 4 => x4 == y4 | 5 => x5 == y5 | 6 => x6 == y6 | _ => x7 == y7) (fun i __s => do
            let __do_lift ← part 2 #[Value.int IntKind.i64 x0, Value.int IntKind.i64 x1, Value.int IntKind.i64 x2, Value.int IntKind.i64 x3, Value.int IntKind.i64 x4, Value.int IntKind.i64 x5, Value.int IntKind.i64 x6, Value.int IntKind.i64 x7] (i * 1)
            let __do_lift_1 ← part 2 #[Value.int IntKind.i64 y0, Value.int IntKind.i64 y1, Value.int IntKind.i64 y2, Value.int IntKind.i64 y3, Value.int IntKind.i64 y4, Value.int IntKind.i64 y5, Value.int IntKind.i64 y6, Value.int IntKind.i64 y7] (i * 1)
            let __do_lift ← E 2 __do_lift __do_lift_1
            if (!__do_lift) = true then pure (ForInStep.done (some false, ())) else pure (ForInStep.yield (none, ()))) w [0, 1, 2, 3, 4, 5, 6, 7] (by
    have key : ∀ (k : Nat) (x y : Int), #[Value.int IntKind.i64 x0, Value.int IntKind.i64 x1, Value.int IntKind.i64 x2, Value.int IntKind.i64 x3, Value.int IntKind.i64 x4, Value.int IntKind.i64 x5, Value.int IntKind.i64 x6, Value.int IntKind.i64 x7][k]? = some (.int .i64 x) →
        #[Value.int IntKind.i64 y0, Value.int IntKind.i64 y1, Value.int IntKind.i64 y2, Value.int IntKind.i64 y3, Value.int IntKind.i64 y4, Value.int IntKind.i64 y5, Value.int IntKind.i64 y6, Value.int IntKind.i64 y7][k]? = some (.int .i64 y) →
        (do
            let __do_lift ← part 2 #[Value.int IntKind.i64 x0, Value.int IntKind.i64 x1, Value.int IntKind.i64 x2, Value.int IntKind.i64 x3, Value.int IntKind.i64 x4, Value.int IntKind.i64 x5, Value.int IntKind.i64 x6, Value.int IntKind.i64 x7] (k * 1)
            let __do_lift_1 ← part 2 #[Value.int IntKind.i64 y0, Value.int IntKind.i64 y1, Value.int IntKind.i64 y2, Value.int IntKind.i64 y3, Value.int IntKind.i64 y4, Value.int IntKind.i64 y5, Value.int IntKind.i64 y6, Value.int IntKind.i64 y7] (k * 1)
            let __do_lift ← E 2 __do_lift __do_lift_1
            if (!__do_lift) = true then pure (ForInStep.done (some false, ())) else pure (ForInStep.yield ((none, ()) : Option Bool × Unit)) : Sem (ForInStep (Option Bool × Unit))).run Try.prog w = .ok (if x == y then .yield (none, ()) else .done (some false, ())) w := by
      intro k x y h1 h2
      simp only [Sem.run_bind, Nat.mul_one, hp w _ k _ h1, hp w _ k _ h2, Result.andThen_ok, he]
      cases x == y <;> simp
    intro i hi
    simp only [List.mem_cons, List.not_mem_nil, or_false] at hi
    rcases hi with rfl | rfl | rfl | rfl | rfl | rfl | rfl | rfl
    · exact key 0 x0 y0 rfl rfl
    · exact key 1 x1 y1 rfl rfl
    · exact key 2 x2 y2 rfl rfl
    · exact key 3 x3 y3 rfl rfl
    · exact key 4 x4 y4 rfl rfl
    · exact key 5 x5 y5 rfl rfl
    · exact key 6 x6 y6 rfl rfl
    · exact key 7 x7 y7 rfl rfl)
  rw [hx]
  simp only [Result.andThen_ok, List.all_cons, List.all_nil, Bool.and_true]
  generalize (x0 == y0 && (x1 == y1 && (x2 == y2 && (x3 == y3 && (x4 == y4 && (x5 == y5 && (x6 == y6 && x7 == y7))))))) = c
  cases c <;> simp
#print axioms eq8_d
end Go.Proofs.Ytaipnbpefdcejaa
