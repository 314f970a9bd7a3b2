/- Structs of numbers compared with the zero ones. -/
import Derived.Test.YtaipnbpefdcejaaBlank
set_option linter.unusedVariables false
set_option linter.unusedSimpArgs false
namespace Go.Proofs.Ytaipnbpefdcejaa
open Go.RowKit
theorem ev_eq (ts id typ a0 a1 a2 a3 a4 a5 a6 a7 : Int) (W : World) :
    (Op.equalIn 10000 39 (.agg #[.int .i64 ts, .int .u64 id, .int .i64 typ, .int .i64 a0, .int .i64 a1, .int .i64 a2, .int .i64 a3, .int .i64 a4, .int .i64 a5, .int .i64 a6, .int .i64 a7]) (.agg #[.int .i64 0, .int .u64 0, .int .i64 0, .int .i64 0, .int .i64 0, .int .i64 0, .int .i64 0, .int .i64 0, .int .i64 0, .int .i64 0, .int .i64 0])).run Try.prog W =
      .ok (ts == 0 && (id == 0 && (typ == 0 && (a0 == 0 && (a1 == 0 && (a2 == 0 && (a3 == 0 && (a4 == 0 && (a5 == 0 && (a6 == 0 && a7 == 0)))))))))) W := by
  have hp : Try.prog.stoodInHeld 39 = false := by kernel_rfl
  have ht : Try.prog.underlying 39 = some (.struct (Try.prog.fieldsOf 39)) := by kernel_rfl
  rw [show (10000 : Nat) = 9999 + 1 from rfl, run_equalIn_struct W 9999 39 _ _ ht hp]
  have heq8 := eq8
  simp [Program.fieldsOf, Try.underlying39, Op.eqFields, go_sem]
  rw [heq8]
  simp only [Result.andThen_ok]
  generalize (a0 == 0 && (a1 == 0 && (a2 == 0 && (a3 == 0 && (a4 == 0 && (a5 == 0 && (a6 == 0 && a7 == 0))))))) = c
  by_cases h1 : ts = 0 <;> by_cases h2 : id = 0 <;> by_cases h3 : typ = 0 <;> cases c <;> simp [h1, h2, h3]
theorem ft_eq (x y z : Int) (W : World) :
    (Op.equalIn 10000 48 (.agg #[.int .i64 x, .int .i64 y, .int .i64 z]) (.agg #[.int .i64 0, .int .i64 0, .int .i64 0])).run Try.prog W = .ok (x == 0 && (y == 0 && z == 0)) W := by
  have hp : Try.prog.stoodInHeld 48 = false := by kernel_rfl
  have ht : Try.prog.underlying 48 = some (.struct (Try.prog.fieldsOf 48)) := by kernel_rfl
  rw [show (10000 : Nat) = 9999 + 1 from rfl, run_equalIn_struct W 9999 48 _ _ ht hp]
  simp [Program.fieldsOf, Try.underlying48, Op.eqFields, go_sem]
  by_cases h1 : x = 0 <;> by_cases h2 : y = 0 <;> by_cases h3 : z = 0 <;> simp [h1, h2, h3]
theorem sz_eq (x : Int) (b : Bool) (y z u v : Int) (W : World) :
    (Op.equalIn 10000 46 (.agg #[.int .i64 x, .bool b, .int .i64 y, .int .i64 z, .int .i64 u, .int .i64 v]) (.agg #[.int .i64 0, .bool false, .int .i64 0, .int .i64 0, .int .i64 0, .int .i64 0])).run Try.prog W =
      .ok (x == 0 && (!b && (y == 0 && (z == 0 && (u == 0 && v == 0))))) W := by
  have hp : Try.prog.stoodInHeld 46 = false := by kernel_rfl
  have ht : Try.prog.underlying 46 = some (.struct (Try.prog.fieldsOf 46)) := by kernel_rfl
  rw [show (10000 : Nat) = 9999 + 1 from rfl, run_equalIn_struct W 9999 46 _ _ ht hp]
  simp [Program.fieldsOf, Try.underlying46, Op.eqFields, go_sem]
  by_cases h1 : x = 0 <;> cases b <;> by_cases h3 : y = 0 <;> by_cases h4 : z = 0 <;> by_cases h5 : u = 0 <;> by_cases h6 : v = 0 <;> simp [h1, h3, h4, h5, h6]
/-- A comparison's outcome, as one Boolean. -/
theorem ev_one (ts id typ a0 a1 a2 a3 a4 a5 a6 a7 : Int) : ∃ b : Bool, (∀ W, (Op.equalIn 10000 39 (.agg #[.int .i64 ts, .int .u64 id, .int .i64 typ, .int .i64 a0, .int .i64 a1, .int .i64 a2, .int .i64 a3, .int .i64 a4, .int .i64 a5, .int .i64 a6, .int .i64 a7]) (.agg #[.int .i64 0, .int .u64 0, .int .i64 0, .int .i64 0, .int .i64 0, .int .i64 0, .int .i64 0, .int .i64 0, .int .i64 0, .int .i64 0, .int .i64 0])).run Try.prog W = .ok b W) ∧
    (b = true ↔ (ts = 0 ∧ id = 0 ∧ typ = 0 ∧ a0 = 0 ∧ a1 = 0 ∧ a2 = 0 ∧ a3 = 0 ∧ a4 = 0 ∧ a5 = 0 ∧ a6 = 0 ∧ a7 = 0)) := ⟨_, ev_eq ts id typ a0 a1 a2 a3 a4 a5 a6 a7, by simp⟩
theorem ft_one (x y z : Int) : ∃ b : Bool, (∀ W, (Op.equalIn 10000 48 (.agg #[.int .i64 x, .int .i64 y, .int .i64 z]) (.agg #[.int .i64 0, .int .i64 0, .int .i64 0])).run Try.prog W = .ok b W) ∧ (b = true ↔ (x = 0 ∧ y = 0 ∧ z = 0)) := ⟨_, ft_eq x y z, by simp⟩
theorem sz_one (x : Int) (b0 : Bool) (y z u v : Int) : ∃ b : Bool, (∀ W, (Op.equalIn 10000 46 (.agg #[.int .i64 x, .bool b0, .int .i64 y, .int .i64 z, .int .i64 u, .int .i64 v]) (.agg #[.int .i64 0, .bool false, .int .i64 0, .int .i64 0, .int .i64 0, .int .i64 0])).run Try.prog W = .ok b W) ∧
    (b = true ↔ (x = 0 ∧ b0 = false ∧ y = 0 ∧ z = 0 ∧ u = 0 ∧ v = 0)) := ⟨_, sz_eq x b0 y z u v, by simp⟩
#print axioms sz_one
end Go.Proofs.Ytaipnbpefdcejaa
