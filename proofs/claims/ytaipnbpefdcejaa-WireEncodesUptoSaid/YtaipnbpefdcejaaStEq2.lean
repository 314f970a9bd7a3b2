/- Structs of numbers compared with one another. -/
import Derived.Test.YtaipnbpefdcejaaStEq
set_option linter.unusedVariables false
set_option linter.unusedSimpArgs false
namespace Go.Proofs.Ytaipnbpefdcejaa
open Go.RowKit
theorem ev_eq2 (ts id typ a0 a1 a2 a3 a4 a5 a6 a7 ts' id' typ' b0 b1 b2 b3 b4 b5 b6 b7 : Int) (W : World) :
    (Op.equalIn 10000 39 (.agg #[.int .i64 ts, .int .u64 id, .int .i64 typ, .int .i64 a0, .int .i64 a1, .int .i64 a2, .int .i64 a3, .int .i64 a4, .int .i64 a5, .int .i64 a6, .int .i64 a7]) (.agg #[.int .i64 ts', .int .u64 id', .int .i64 typ', .int .i64 b0, .int .i64 b1, .int .i64 b2, .int .i64 b3, .int .i64 b4, .int .i64 b5, .int .i64 b6, .int .i64 b7])).run Try.prog W =
      .ok (ts == ts' && (id == id' && (typ == typ' && (a0 == b0 && (a1 == b1 && (a2 == b2 && (a3 == b3 && (a4 == b4 && (a5 == b5 && (a6 == b6 && a7 == b7)))))))))) W := by
  have hp : Try.prog.stoodInHeld 39 = false := by kernel_rfl
  have ht : Try.prog.underlying 39 = some (.struct (Try.prog.fieldsOf 39)) := by kernel_rfl
  rw [show (10000 : Nat) = 9999 + 1 from rfl, run_equalIn_struct W 9999 39 _ _ ht hp]
  have heq8 := eq8_d 9997
  unfold arr8 at heq8
  simp [Program.fieldsOf, Try.underlying39, Op.eqFields, go_sem]
  rw [heq8]
  simp only [Result.andThen_ok]
  generalize (a0 == b0 && (a1 == b1 && (a2 == b2 && (a3 == b3 && (a4 == b4 && (a5 == b5 && (a6 == b6 && a7 == b7))))))) = c
  by_cases h1 : ts = ts' <;> by_cases h2 : id = id' <;> by_cases h3 : typ = typ' <;> cases c <;> simp [h1, h2, h3]
theorem ft_eq2 (x y z x' y' z' : Int) (W : World) :
    (Op.equalIn 10000 48 (.agg #[.int .i64 x, .int .i64 y, .int .i64 z]) (.agg #[.int .i64 x', .int .i64 y', .int .i64 z'])).run Try.prog W = .ok (x == x' && (y == y' && z == z')) W := by
  have hp : Try.prog.stoodInHeld 48 = false := by kernel_rfl
  have ht : Try.prog.underlying 48 = some (.struct (Try.prog.fieldsOf 48)) := by kernel_rfl
  rw [show (10000 : Nat) = 9999 + 1 from rfl, run_equalIn_struct W 9999 48 _ _ ht hp]
  simp [Program.fieldsOf, Try.underlying48, Op.eqFields, go_sem]
  by_cases h1 : x = x' <;> by_cases h2 : y = y' <;> by_cases h3 : z = z' <;> simp [h1, h2, h3]
theorem nm_eq2 (x y x' y' : Int) (W : World) :
    (Op.equalIn 10000 89 (.agg #[.int .i64 x, .int .u64 y]) (.agg #[.int .i64 x', .int .u64 y'])).run Try.prog W = .ok (x == x' && y == y') W := by
  have hp : Try.prog.stoodInHeld 89 = false := by kernel_rfl
  have ht : Try.prog.underlying 89 = some (.struct (Try.prog.fieldsOf 89)) := by kernel_rfl
  rw [show (10000 : Nat) = 9999 + 1 from rfl, run_equalIn_struct W 9999 89 _ _ ht hp]
  simp [Program.fieldsOf, Try.underlying89, Op.eqFields, go_sem]
  by_cases h1 : x = x' <;> by_cases h2 : y = y' <;> simp [h1, h2]
theorem vl_eq2 (x : Bool) (y : Int) (x' : Bool) (y' : Int) (W : World) :
    (Op.equalIn 10000 74 (.agg #[.bool x, .int .i64 y]) (.agg #[.bool x', .int .i64 y'])).run Try.prog W = .ok (x == x' && y == y') W := by
  have hp : Try.prog.stoodInHeld 74 = false := by kernel_rfl
  have ht : Try.prog.underlying 74 = some (.struct (Try.prog.fieldsOf 74)) := by kernel_rfl
  rw [show (10000 : Nat) = 9999 + 1 from rfl, run_equalIn_struct W 9999 74 _ _ ht hp]
  simp [Program.fieldsOf, Try.underlying74, Op.eqFields, go_sem]
  by_cases h2 : y = y' <;> cases x <;> cases x' <;> simp [h2]
theorem sz_eq2 (x : Int) (b : Bool) (y z u v x' : Int) (b' : Bool) (y' z' u' v' : Int) (W : World) :
    (Op.equalIn 10000 46 (.agg #[.int .i64 x, .bool b, .int .i64 y, .int .i64 z, .int .i64 u, .int .i64 v]) (.agg #[.int .i64 x', .bool b', .int .i64 y', .int .i64 z', .int .i64 u', .int .i64 v'])).run Try.prog W =
      .ok (x == x' && (b == b' && (y == y' && (z == z' && (u == u' && v == v'))))) W := by
  have hp : Try.prog.stoodInHeld 46 = false := by kernel_rfl
  have ht : Try.prog.underlying 46 = some (.struct (Try.prog.fieldsOf 46)) := by kernel_rfl
  rw [show (10000 : Nat) = 9999 + 1 from rfl, run_equalIn_struct W 9999 46 _ _ ht hp]
  simp [Program.fieldsOf, Try.underlying46, Op.eqFields, go_sem]
  by_cases h1 : x = x' <;> cases b <;> cases b' <;> by_cases h3 : y = y' <;> by_cases h4 : z = z' <;> by_cases h5 : u = u' <;> by_cases h6 : v = v' <;> simp [h1, h3, h4, h5, h6]
/-- A comparison's outcome, as one Boolean. -/
theorem ev_two (ts id typ a0 a1 a2 a3 a4 a5 a6 a7 ts' id' typ' b0 b1 b2 b3 b4 b5 b6 b7 : Int) : ∃ b : Bool, (∀ W, (Op.equalIn 10000 39 (.agg #[.int .i64 ts, .int .u64 id, .int .i64 typ, .int .i64 a0, .int .i64 a1, .int .i64 a2, .int .i64 a3, .int .i64 a4, .int .i64 a5, .int .i64 a6, .int .i64 a7]) (.agg #[.int .i64 ts', .int .u64 id', .int .i64 typ', .int .i64 b0, .int .i64 b1, .int .i64 b2, .int .i64 b3, .int .i64 b4, .int .i64 b5, .int .i64 b6, .int .i64 b7])).run Try.prog W = .ok b W) ∧
    (b = true ↔ (ts = ts' ∧ id = id' ∧ typ = typ' ∧ a0 = b0 ∧ a1 = b1 ∧ a2 = b2 ∧ a3 = b3 ∧ a4 = b4 ∧ a5 = b5 ∧ a6 = b6 ∧ a7 = b7)) := ⟨_, ev_eq2 ts id typ a0 a1 a2 a3 a4 a5 a6 a7 ts' id' typ' b0 b1 b2 b3 b4 b5 b6 b7, by simp⟩
theorem ft_two (x y z x' y' z' : Int) : ∃ b : Bool, (∀ W, (Op.equalIn 10000 48 (.agg #[.int .i64 x, .int .i64 y, .int .i64 z]) (.agg #[.int .i64 x', .int .i64 y', .int .i64 z'])).run Try.prog W = .ok b W) ∧ (b = true ↔ (x = x' ∧ y = y' ∧ z = z')) := ⟨_, ft_eq2 x y z x' y' z', by simp⟩
theorem nm_two (x y x' y' : Int) : ∃ b : Bool, (∀ W, (Op.equalIn 10000 89 (.agg #[.int .i64 x, .int .u64 y]) (.agg #[.int .i64 x', .int .u64 y'])).run Try.prog W = .ok b W) ∧ (b = true ↔ (x = x' ∧ y = y')) := ⟨_, nm_eq2 x y x' y', by simp⟩
theorem vl_two (x : Bool) (y : Int) (x' : Bool) (y' : Int) : ∃ b : Bool, (∀ W, (Op.equalIn 10000 74 (.agg #[.bool x, .int .i64 y]) (.agg #[.bool x', .int .i64 y'])).run Try.prog W = .ok b W) ∧ (b = true ↔ (x = x' ∧ y = y')) := ⟨_, vl_eq2 x y x' y', by simp⟩
theorem sz_two (x : Int) (b0 : Bool) (y z u v x' : Int) (b0' : Bool) (y' z' u' v' : Int) : ∃ b : Bool, (∀ W, (Op.equalIn 10000 46 (.agg #[.int .i64 x, .bool b0, .int .i64 y, .int .i64 z, .int .i64 u, .int .i64 v]) (.agg #[.int .i64 x', .bool b0', .int .i64 y', .int .i64 z', .int .i64 u', .int .i64 v'])).run Try.prog W = .ok b W) ∧
    (b = true ↔ (x = x' ∧ b0 = b0' ∧ y = y' ∧ z = z' ∧ u = u' ∧ v = v')) := ⟨_, sz_eq2 x b0 y z u v x' b0' y' z' u' v', by simp⟩
#print axioms sz_two
end Go.Proofs.Ytaipnbpefdcejaa
