/- The walk of blank. -/
import Derived.Test.YtaipnbpefdcejaaEq8
set_option linter.unusedVariables false
namespace Go.Proofs.Ytaipnbpefdcejaa
open Go.RowKit
theorem eq8 (x0 x1 x2 x3 x4 x5 x6 x7 y0 y1 y2 y3 y4 y5 y6 y7 : Int) (w : World) :
    (Op.equalIn 9999 37 (.agg #[.int .i64 x0, .int .i64 x1, .int .i64 x2, .int .i64 x3, .int .i64 x4, .int .i64 x5, .int .i64 x6, .int .i64 x7]) (.agg #[.int .i64 y0, .int .i64 y1, .int .i64 y2, .int .i64 y3, .int .i64 y4, .int .i64 y5, .int .i64 y6, .int .i64 y7])).run Try.prog w =
      .ok (x0 == y0 && (x1 == y1 && (x2 == y2 && (x3 == y3 && (x4 == y4 && (x5 == y5 && (x6 == y6 && x7 == y7))))))) w := eq8_d 9997 x0 x1 x2 x3 x4 x5 x6 x7 y0 y1 y2 y3 y4 y5 y6 y7 w
def blankP (handle num ts id typ a0 a1 a2 a3 a4 a5 a6 a7 dec : Int) (nn nl nv : Nat) (mark : Int) (closed : Bool) (held kept waiting parts fwhere fcode fat code : Int) (schema query : ByteArray) (ni : Nat) : Prop :=
  (dec = 0 ∧ nn = 0 ∧ nl = 0 ∧ nv = 0) ∧ ((ts = 0 ∧ id = 0 ∧ typ = 0 ∧ a0 = 0 ∧ a1 = 0 ∧ a2 = 0 ∧ a3 = 0 ∧ a4 = 0 ∧ a5 = 0 ∧ a6 = 0 ∧ a7 = 0) ∧ (mark = 0 ∧ closed = false ∧ held = 0 ∧ kept = 0 ∧ waiting = 0 ∧ parts = 0) ∧ (fwhere = 0 ∧ fcode = 0 ∧ fat = 0)) ∧
    handle = 0 ∧ num = 0 ∧ code = 0 ∧ schema.toList = [] ∧ query.toList = [] ∧ ni = 0
set_option maxHeartbeats 4000000 in
set_option maxRecDepth 100000 in
theorem blank_any (kind handle num ts id typ a0 a1 a2 a3 a4 a5 a6 a7 dec : Int) (an : Option Addr) (nn cn : Nat) (al : Option Addr) (nl cl : Nat) (av : Option Addr) (nv cv : Nat) (mark : Int) (closed : Bool) (held kept waiting parts fwhere fcode fat code : Int) (schema query : ByteArray) (ai : Option Addr) (ni ci : Nat) (w : World) :
    Calls Try.prog 47 #[.agg #[.int .i64 kind, .int .i64 handle, .int .i64 num, .int .i64 ts, .int .u64 id, .int .i64 typ, .int .i64 a0, .int .i64 a1, .int .i64 a2, .int .i64 a3, .int .i64 a4, .int .i64 a5, .int .i64 a6, .int .i64 a7,
      .int .i64 dec, .slice an nn cn, .slice al nl cl, .slice av nv cv, .int .i64 mark, .bool closed, .int .i64 held, .int .i64 kept, .int .i64 waiting, .int .i64 parts, .int .i64 fwhere, .int .i64 fcode, .int .i64 fat, .int .i64 code, .string schema, .string query, .slice ai ni ci]] w
      fun e w' => ∃ b : Bool, e = .returned (.bool b) ∧ (b = true ↔ blankP handle num ts id typ a0 a1 a2 a3 a4 a5 a6 a7 dec nn nl nv mark closed held kept waiting parts fwhere fcode fat code schema query ni) ∧ Below w.heap.size w w' := by
  have heq8 := eq8
  go_enter Try.func47, Try.ntmps47
  go_wp2
  all_goals (go_ret; refine ⟨_, rfl, ?_, ?_⟩)
  all_goals first | (unfold blankP; simp_all; done) | (refine ⟨fun h => (Bool.false_ne_true h).elim, fun h => ?_⟩; unfold blankP at h; have := h.1.2.2.2; omega) | (exact ((Below.refl _ _).alloc (Nat.le_refl _) _).alloc (by simp) _) | (exact (((Below.refl _ _).alloc (Nat.le_refl _) _).alloc (by simp) _).drew) | skip
#print axioms blank_any
end Go.Proofs.Ytaipnbpefdcejaa
