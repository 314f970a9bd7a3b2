/- SaveEncodes: the reference's told. -/
import Derived.Test.YtfglgpbjjpoimaaGreatDoorSwGL
import Derived.StillTailTactics
import Derived.Deep.CutBlock
set_option linter.unusedVariables false
namespace Go.Proofs.YtfglgpbjjpoimaaGreatDoor
open Go.RowKit Sv
theorem operandR_sm {x : Tl} {m : Nat} (h : Sm m x) (o n : Int) : Sm (m + 4) (operandR x o n) := by
 unfold operandR Sm at *
 split
 ·omega
 ·simp only [List.length_append, List.length_cons, List.length_nil]
  omega
/-- What the walk asks of the block that holds the result. -/
def Res (w' : World) (g : Nat) : Prop :=
 w'.frozen? ⟨g, 0, none⟩ = false ∧ w'.frozen? ⟨g, 1, none⟩ = false ∧ w'.frozen? ⟨g, 2, none⟩ = false ∧
 w'.cell? ⟨g, 0, none⟩ = some (.string ⟨#[]⟩) ∧ w'.cell? ⟨g, 1, none⟩ = some (.int .i64 0) ∧ w'.cell? ⟨g, 2, none⟩ = some (.int .i64 0) ∧
 (∀ v, (w'.setCell ⟨g, 0, none⟩ v).cell? ⟨g, 0, none⟩ = some v) ∧ (∀ u v, ((w'.setCell ⟨g, 0, none⟩ u).setCell ⟨g, 1, none⟩ v).cell? ⟨g, 1, none⟩ = some v) ∧
 (∀ u v x, (((w'.setCell ⟨g, 0, none⟩ u).setCell ⟨g, 1, none⟩ v).setCell ⟨g, 2, none⟩ x).cell? ⟨g, 2, none⟩ = some x)
theorem res_of {w' : World} {g : Nat} {t : TypeId} (h : Blk w' g t [.string ⟨#[]⟩, .int .i64 0, .int .i64 0]) : Res w' g := by
 refine ⟨h.frozen 0, h.frozen 1, h.frozen 2, h.ci 0 rfl, h.ci 1 rfl, h.ci 2 rfl, fun v => ?_, fun u v => ?_, fun u v x => ?_⟩
 ·exact (h.setCell 0 v).1.ci 0 rfl
 ·exact ((h.setCell 0 u).1.setCell 1 v).1.ci 1 rfl
 ·exact (((h.setCell 0 u).1.setCell 1 v).1.setCell 2 x).1.ci 2 rfl
theorem set3_below {base : Nat} {w w' : World} {g : Nat} {t : TypeId} {cs : List Value} (h : Blk w' g t cs) (hg : base ≤ g) (hb : Below base w w') (v0 v1 v2 : Value) :
  Below base w (((w'.setCell ⟨g, 0, none⟩ v0).setCell ⟨g, 1, none⟩ v1).setCell ⟨g, 2, none⟩ v2) := by
 have h1 := h.setCell 0 v0
 have h2 := h1.1.setCell 1 v1
 have h3 := h2.1.setCell 2 v2
 have b1 := hb.grown h1.2 (Nat.le_trans hg (Nat.le_of_lt h.lt)) (fun k hk => by cases hk; exact hg)
 have b2 := b1.grown h2.2 (Nat.le_trans hg (Nat.le_of_lt h1.1.lt)) (fun k hk => by cases hk; exact hg)
 exact b2.grown h3.2 (Nat.le_trans hg (Nat.le_of_lt h2.1.lt)) (fun k hk => by cases hk; exact hg)
set_option maxHeartbeats 4000000 in
set_option maxRecDepth 20000 in
theorem rtold_any (x : Nd) (a b : Tl) (o p : Int) (ho : o ≤ 26) (hp : p ≤ 26) (w : World) (hl : Ld w) (hx : NdB x) (hop : 1 ≤ x.op ∧ x.op ≤ 26) (ha : Sm 100000000000 a) (hb : Sm 100000000000 b) :
  Calls Tryz.prog 110 #[.agg (ndc x).toArray, tlv a, .int .i64 o, tlv b, .int .i64 p] w fun e w' => e = .returned (tlv (toldR fmtI x a o b p)) ∧ Below w.heap.size w w' := by
 obtain ⟨op, nn, var, attr, xa, xb⟩ := x
 obtain ⟨v1, v2, v3, v4⟩ := hx
 obtain ⟨o1, o2⟩ := hop
 dsimp only at v1 v2 v3 v4 o1 o2
 obtain ⟨R, hR⟩ : ∃ R, R = toldR fmtI ⟨op, nn, var, attr, xa, xb⟩ a o b p := ⟨_, rfl⟩
 rw [← hR]
 have HR := Lib.hid hR
 have HRF := Lib.hid (show R = toldR fmtI ⟨op, nn, var, attr, xa, xb⟩ a o b p from hR)
 clear hR
 have HSA := Lib.hid ha
 have HSB := Lib.hid hb
 obtain ⟨w0, hw0⟩ : ∃ w0, w0 = ((((w.alloc (.cells (ndc ⟨op, nn, var, attr, xa, xb⟩).toArray 102)).alloc (.cells (tlc a).toArray 172)).alloc (.cells (tlc b).toArray 172)).alloc (.cells #[.string ⟨#[]⟩, .int .i64 0, .int .i64 0] 172)) := ⟨_, rfl⟩
 have hb0 : Below w.heap.size w w0 := by rw [hw0]; exact bal (bal (bal (bal (Below.refl w.heap.size w) (Nat.le_refl _) _) (Nat.le_refl _) _) (Nat.le_refl _) _) (Nat.le_refl _) _
 have s1 : (w.alloc (.cells (ndc ⟨op, nn, var, attr, xa, xb⟩).toArray 102)).heap.size = w.heap.size + 1 := by show Array.size (Array.push _ _) = _; simp
 have hE0 : Blk w0 w.heap.size 102 (ndc ⟨op, nn, var, attr, xa, xb⟩) := by
  rw [hw0]
  exact (((Blk.new w _ 102).below ((Below.refl _ _).alloc (Nat.le_refl _) _)).below ((Below.refl _ _).alloc (Nat.le_refl _) _)).below ((Below.refl _ _).alloc (Nat.le_refl _) _)
 have hE1 : Blk w0 (w.heap.size + 1) 172 (tlc a) := by
  rw [hw0]
  have h := Blk.new (w.alloc (.cells (ndc ⟨op, nn, var, attr, xa, xb⟩).toArray 102)) (tlc a) 172
  rw [s1] at h
  exact ((h).below ((Below.refl _ _).alloc (Nat.le_refl _) _)).below ((Below.refl _ _).alloc (Nat.le_refl _) _)
 have hE2 : Blk w0 (w.heap.size + 1 + 1) 172 (tlc b) := by
  rw [hw0]
  have h := Blk.new ((w.alloc (.cells (ndc ⟨op, nn, var, attr, xa, xb⟩).toArray 102)).alloc (.cells (tlc a).toArray 172)) (tlc b) 172
  rw [show ((w.alloc (.cells (ndc ⟨op, nn, var, attr, xa, xb⟩).toArray 102)).alloc (.cells (tlc a).toArray 172)).heap.size = w.heap.size + 1 + 1 by show Array.size (Array.push (Array.push _ _) _) = _; simp] at h
  exact h.below ((Below.refl _ _).alloc (Nat.le_refl _) _)
 have hE3 : Blk w0 (w.heap.size + 1 + 1 + 1) 172 [.string ⟨#[]⟩, .int .i64 0, .int .i64 0] := by
  rw [hw0]
  have h := Blk.new (((w.alloc (.cells (ndc ⟨op, nn, var, attr, xa, xb⟩).toArray 102)).alloc (.cells (tlc a).toArray 172)).alloc (.cells (tlc b).toArray 172)) [.string ⟨#[]⟩, .int .i64 0, .int .i64 0] 172
  rw [show (((w.alloc (.cells (ndc ⟨op, nn, var, attr, xa, xb⟩).toArray 102)).alloc (.cells (tlc a).toArray 172)).alloc (.cells (tlc b).toArray 172)).heap.size = w.heap.size + 1 + 1 + 1 by show Array.size (Array.push (Array.push (Array.push _ _) _) _) = _; simp] at h
  exact h
 have HE0 := Lib.hid hE0
 have HE1 := Lib.hid hE1
 have HE2 := Lib.hid hE2
 have HE3 := Lib.hid hE3
 have HB0 := Lib.hid hb0
 have HL := Lib.hid (hl.below hb0)
 have HAA := Lib.hid (show tlv a = .agg #[.string ⟨a.text.toArray⟩, .int .i64 a.toks, .int .i64 a.deep] from rfl)
 have HBB := Lib.hid (show tlv b = .agg #[.string ⟨b.text.toArray⟩, .int .i64 b.toks, .int .i64 b.deep] from rfl)
 simp only [ndc, tlc, tlv, T] at hw0 ⊢
 clear hE0 hE1 hE2 hE3 hb0 hl ha hb s1
 have hcl : op = 1 ∨ (op = 2 ∨ op = 3 ∨ op = 4 ∨ op = 5) ∨ op = 12 ∨ op = 13 ∨ (6 ≤ op ∧ op ≤ 11) ∨ (14 ≤ op ∧ op ≤ 26) := by omega
 have HZ := Lib.hid (show ∀ w', Below w0.heap.size w0 w' → Res w' (w.heap.size + 1 + 1 + 1) from fun w' hb => res_of (HE3.out.below hb))
 have HZB := Lib.hid (show ∀ w' v0 v1 v2, Below w0.heap.size w0 w' → Below w.heap.size w (((w'.setCell ⟨w.heap.size + 1 + 1 + 1, 0, none⟩ v0).setCell ⟨w.heap.size + 1 + 1 + 1, 1, none⟩ v1).setCell ⟨w.heap.size + 1 + 1 + 1, 2, none⟩ v2) from
  fun w' v0 v1 v2 hb => set3_below (HE3.out.below hb) (by omega) (HB0.out.trans (hb.mono HB0.out.size)) v0 v1 v2)
 rcases hcl with rfl | hcl | rfl | rfl | hcl | hcl
 ·have HRR := Lib.hid (show R = ⟨fmtI nn, 1, 0⟩ by rw [HRF.out]; rfl)
  go_enter Tryz.func110, Tryz.ntmps110
  go_wp2_with fail
  rw [← hw0]
  clear hw0
  refine (fmt_any nn v3 v4 w0 HL.out).mono ?_
  rintro e w1 ⟨rfl, hb1⟩
  obtain ⟨z0, z1, z2, z3, z4, z5, z6, z7, z8⟩ := HZ.out w1 hb1
  have HB1 := Lib.hid hb1
  have HQ0 := Lib.hid z6
  have HQ1 := Lib.hid z7
  have HQ2 := Lib.hid z8
  clear hb1 z6 z7 z8
  go_wp2_with fail
  have q0 := HQ0.out (.string ⟨(fmtI nn).toArray⟩)
  have q1 := HQ1.out (.string ⟨(fmtI nn).toArray⟩) (.int .i64 1)
  have q2 := HQ2.out (.string ⟨(fmtI nn).toArray⟩) (.int .i64 1) (.int .i64 0)
  refine bodyPost_ret (by simp [results, Tryz.results110, go_sem, q0, q1, q2]; try rfl) rfl ?_
  exact ⟨by rw [HRR.out]; rfl, HZB.out _ _ _ _ HB1.out⟩
 ·have HRR := Lib.hid (show R = if op = 2 then ⟨[84, 82, 85, 69], 1, 0⟩ else if op = 3 then ⟨[70, 65, 76, 83, 69], 1, 0⟩ else if op = 4 then ⟨var ++ [32, 46, 32] ++ attr, 3, 0⟩ else ⟨[67, 79, 85, 78, 84, 32, 40, 32] ++ var ++ [32, 41], 4, 0⟩ by
   rw [HRF.out]; unfold toldR; rcases hcl with rfl | rfl | rfl | rfl <;> rfl)
  have hA1 : ¬ 9223372036854775807 < var.length + 3 := by omega
  have hA2 : ¬ 9223372036854775807 < var.length + 3 + attr.length := by omega
  have hA3 : ¬ 9223372036854775807 < 8 + var.length := by omega
  have hA4 : ¬ 9223372036854775807 < 8 + var.length + 2 := by omega
  rcases hcl with rfl | rfl | rfl | rfl
  all_goals (
   go_enter Tryz.func110, Tryz.ntmps110
   go_wp2_with fail
   go_returns
   exact ⟨by rw [HRR.out]; simp [bs_append], bal (bal (bal (bal (Below.refl w.heap.size w) (Nat.le_refl _) _) (Nat.le_refl _) _) (Nat.le_refl _) _) (Nat.le_refl _) _⟩)
 ·obtain ⟨y, hy⟩ : ∃ y, y = operandR a o 7 := ⟨_, rfl⟩
  have hsy : Sm 100000000004 y := by rw [hy]; exact operandR_sm HSA.out o 7
  obtain ⟨tx, tt, td⟩ := y
  obtain ⟨y1, y2, y3⟩ := hsy
  dsimp only at y1 y2 y3
  have HRR := Lib.hid (show R = ⟨[45, 32] ++ tx, tt + 1, td + 1⟩ by
   rw [HRF.out]
   show (⟨[45, 32] ++ (operandR a o 7).text, (operandR a o 7).toks + 1, (operandR a o 7).deep + 1⟩ : Tl) = _
   rw [← hy])
  have hop := Lib.hid (show Calls Tryz.prog 128 #[.agg #[.string ⟨a.text.toArray⟩, .int .i64 a.toks, .int .i64 a.deep], .int .i64 o, .int .i64 7] w0 fun e w' => e = .returned (.agg #[.string ⟨tx.toArray⟩, .int .i64 tt, .int .i64 td]) ∧ Below w0.heap.size w0 w' by
   have h := roperand_any a o 7 ho w0 ⟨by have := HSA.out.1; omega, by have := HSA.out.2.1; omega, by have := HSA.out.2.2; omega⟩
   rw [← hy] at h
   exact h)
  have hA1 : ¬ 9223372036854775807 < 2 + tx.length := by omega
  clear hy
  go_enter Tryz.func110, Tryz.ntmps110
  go_wp2_with fail
  rw [← hw0]
  clear hw0
  refine (hop.out).mono ?_
  rintro e w1 ⟨rfl, hb1⟩
  have hb2 : Below w1.heap.size w1 (w1.alloc (.cells #[.string ⟨tx.toArray⟩, .int .i64 tt, .int .i64 td] 172)) := bal (Below.refl _ _) (Nat.le_refl _) _
  have hb12 := hb1.trans (hb2.mono hb1.size)
  obtain ⟨z0, z1, z2, z3, z4, z5, z6, z7, z8⟩ := HZ.out _ hb12
  have HB1 := Lib.hid hb12
  have HQ0 := Lib.hid z6
  have HQ1 := Lib.hid z7
  have HQ2 := Lib.hid z8
  clear hb1 hb2 hb12 z6 z7 z8
  go_wp2_with fail
  have q0 := HQ0.out (.string (⟨#[45, 32]⟩ ++ ⟨tx.toArray⟩))
  have q1 := HQ1.out (.string (⟨#[45, 32]⟩ ++ ⟨tx.toArray⟩)) (.int .i64 ((tt : Int) + 1))
  have q2 := HQ2.out (.string (⟨#[45, 32]⟩ ++ ⟨tx.toArray⟩)) (.int .i64 ((tt : Int) + 1)) (.int .i64 ((td : Int) + 1))
  refine bodyPost_ret (by simp [results, Tryz.results110, go_sem, q0, q1, q2]; try rfl) rfl ?_
  exact ⟨by rw [HRR.out]; simp [bs_append], HZB.out _ _ _ _ HB1.out⟩
 ·obtain ⟨y, hy⟩ : ∃ y, y = operandR a o 3 := ⟨_, rfl⟩
  have hsy : Sm 100000000004 y := by rw [hy]; exact operandR_sm HSA.out o 3
  obtain ⟨tx, tt, td⟩ := y
  obtain ⟨y1, y2, y3⟩ := hsy
  dsimp only at y1 y2 y3
  have HRR := Lib.hid (show R = ⟨[78, 79, 84, 32] ++ tx, tt + 1, td + 1⟩ by
   rw [HRF.out]
   show (⟨[78, 79, 84, 32] ++ (operandR a o 3).text, (operandR a o 3).toks + 1, (operandR a o 3).deep + 1⟩ : Tl) = _
   rw [← hy])
  have hop := Lib.hid (show Calls Tryz.prog 128 #[.agg #[.string ⟨a.text.toArray⟩, .int .i64 a.toks, .int .i64 a.deep], .int .i64 o, .int .i64 3] w0 fun e w' => e = .returned (.agg #[.string ⟨tx.toArray⟩, .int .i64 tt, .int .i64 td]) ∧ Below w0.heap.size w0 w' by
   have h := roperand_any a o 3 ho w0 ⟨by have := HSA.out.1; omega, by have := HSA.out.2.1; omega, by have := HSA.out.2.2; omega⟩
   rw [← hy] at h
   exact h)
  have hA1 : ¬ 9223372036854775807 < 4 + tx.length := by omega
  clear hy
  go_enter Tryz.func110, Tryz.ntmps110
  go_wp2_with fail
  rw [← hw0]
  clear hw0
  refine (hop.out).mono ?_
  rintro e w1 ⟨rfl, hb1⟩
  have hb2 : Below w1.heap.size w1 (w1.alloc (.cells #[.string ⟨tx.toArray⟩, .int .i64 tt, .int .i64 td] 172)) := bal (Below.refl _ _) (Nat.le_refl _) _
  have hb12 := hb1.trans (hb2.mono hb1.size)
  obtain ⟨z0, z1, z2, z3, z4, z5, z6, z7, z8⟩ := HZ.out _ hb12
  have HB1 := Lib.hid hb12
  have HQ0 := Lib.hid z6
  have HQ1 := Lib.hid z7
  have HQ2 := Lib.hid z8
  clear hb1 hb2 hb12 z6 z7 z8
  go_wp2_with fail
  have q0 := HQ0.out (.string (⟨#[78, 79, 84, 32]⟩ ++ ⟨tx.toArray⟩))
  have q1 := HQ1.out (.string (⟨#[78, 79, 84, 32]⟩ ++ ⟨tx.toArray⟩)) (.int .i64 ((tt : Int) + 1))
  have q2 := HQ2.out (.string (⟨#[78, 79, 84, 32]⟩ ++ ⟨tx.toArray⟩)) (.int .i64 ((tt : Int) + 1)) (.int .i64 ((td : Int) + 1))
  refine bodyPost_ret (by simp [results, Tryz.results110, go_sem, q0, q1, q2]; try rfl) rfl ?_
  exact ⟨by rw [HRR.out]; simp [bs_append], HZB.out _ _ _ _ HB1.out⟩
 ·have hj : ∃ j : Nat, op = 5 + j ∧ 1 ≤ j ∧ j ≤ 6 := ⟨(op - 5).toNat, by omega, by omega, by omega⟩
  obtain ⟨j, rfl, hj1, hj2⟩ := hj
  have hj3 : j < callsR.length := by show j < 7; omega
  obtain ⟨s, hs⟩ : ∃ s, s = callsR[j] := ⟨_, rfl⟩
  have hsl : s.length ≤ 5 := by
   rw [hs]
   have : ∀ v ∈ callsR, v.length ≤ 5 := by decide
   exact this _ (List.getElem_mem _)
  have hc : w0.cell? ⟨5, j, none⟩ = some (.string ⟨s.toArray⟩) := by
   have h := HL.out.rcl j (by simpa using hj3)
   rw [List.getElem_map, ← hs] at h
   exact h
  have HRR := Lib.hid (show R = ⟨s ++ [32, 40, 32] ++ var ++ [32, 46, 32] ++ attr ++ [32, 41], 6, 0⟩ by
   rw [HRF.out]
   unfold toldR
   dsimp only
   have hg : callsR.getD (5 + (j : Int) - 5).toNat [] = s := by
    rw [show (5 + (j : Int) - 5).toNat = j by omega, List.getD_eq_getElem?_getD, List.getElem?_eq_getElem hj3, ← hs]; rfl
   rw [if_neg (by omega), if_neg (by omega), if_neg (by omega), if_neg (by omega), if_neg (by omega), if_neg (by omega), if_neg (by omega), if_pos (by omega), hg])
  have hA1 : ¬ 9223372036854775807 < s.length + 3 := by omega
  have hA2 : ¬ 9223372036854775807 < s.length + 3 + var.length := by omega
  have hA3 : ¬ 9223372036854775807 < s.length + 3 + var.length + 3 := by omega
  have hA4 : ¬ 9223372036854775807 < s.length + 3 + var.length + 3 + attr.length := by omega
  have hA5 : ¬ 9223372036854775807 < s.length + 3 + var.length + 3 + attr.length + 2 := by omega
  have hw1 : IntKind.i64.wrap (5 + (j : Int) - 5) = j := by rw [IntKind.wrap_i64]; omega
  have n1 : ((5 + (j : Int)) == 1) = false := by simp; omega
  have n2 : ((5 + (j : Int)) == 2) = false := by simp; omega
  have n3 : ((5 + (j : Int)) == 3) = false := by simp; omega
  have n4 : ((5 + (j : Int)) == 4) = false := by simp; omega
  have n5 : ((5 + (j : Int)) == 5) = false := by simp; omega
  have n6 : ((5 + (j : Int)) == 12) = false := by simp; omega
  have n7 : ((5 + (j : Int)) == 13) = false := by simp; omega
  have n8 : 5 + (j : Int) < 14 := by omega
  have n9 : (0 : Int) ≤ j := by omega
  have n10 : (j : Int) < 7 := by omega
  have d0 : w0.drew.cell? ⟨w.heap.size, 0, none⟩ = some (.int .i64 (5 + (j : Int))) := HE0.out.ci 0 rfl
  have d2 : w0.drew.cell? ⟨w.heap.size, 2, none⟩ = some (.string ⟨var.toArray⟩) := HE0.out.ci 2 rfl
  have d3 : w0.drew.cell? ⟨w.heap.size, 3, none⟩ = some (.string ⟨attr.toArray⟩) := HE0.out.ci 3 rfl
  have dc : w0.drew.cell? ⟨5, j, none⟩ = some (.string ⟨s.toArray⟩) := hc
  have hbd : Below w0.heap.size w0 w0.drew := (Below.refl _ _).drew
  obtain ⟨z0, z1, z2, z3, z4, z5, z6, z7, z8⟩ := HZ.out w0 (Below.refl _ _)
  have HB1 := Lib.hid hbd
  have HQ0 := Lib.hid z6
  have HQ1 := Lib.hid z7
  have HQ2 := Lib.hid z8
  clear hbd z6 z7 z8 hs hsl hj3
  go_enter Tryz.func110, Tryz.ntmps110
  go_wp2_with fail
  rw [← hw0]
  clear hw0
  go_still_tail 15, (by kernel_rfl)
  change wpList _ _ _ _ _ w0.drew
  go_wp2_with fail
  have q0 := HQ0.out (.string (⟨s.toArray⟩ ++ ⟨#[32, 40, 32]⟩ ++ ⟨var.toArray⟩ ++ ⟨#[32, 46, 32]⟩ ++ ⟨attr.toArray⟩ ++ ⟨#[32, 41]⟩))
  have q1 := HQ1.out (.string (⟨s.toArray⟩ ++ ⟨#[32, 40, 32]⟩ ++ ⟨var.toArray⟩ ++ ⟨#[32, 46, 32]⟩ ++ ⟨attr.toArray⟩ ++ ⟨#[32, 41]⟩)) (.int .i64 6)
  have q2 := HQ2.out (.string (⟨s.toArray⟩ ++ ⟨#[32, 40, 32]⟩ ++ ⟨var.toArray⟩ ++ ⟨#[32, 46, 32]⟩ ++ ⟨attr.toArray⟩ ++ ⟨#[32, 41]⟩)) (.int .i64 6) (.int .i64 0)
  refine bodyPost_ret (by simp [results, Tryz.results110, go_sem, q0, q1, q2]; try rfl) rfl ?_
  exact ⟨by rw [HRR.out]; simp [bs_append], (HZB.out w0 _ _ _ (Below.refl _ _)).drew⟩
 ·have hlv : 1 ≤ lev op ∧ lev op ≤ 6 := by
   have : op = 14 ∨ op = 15 ∨ op = 16 ∨ op = 17 ∨ op = 18 ∨ op = 19 ∨ op = 20 ∨ op = 21 ∨ op = 22 ∨ op = 23 ∨ op = 24 ∨ op = 25 ∨ op = 26 := by omega
   rcases this with rfl | rfl | rfl | rfl | rfl | rfl | rfl | rfl | rfl | rfl | rfl | rfl | rfl <;> decide
  obtain ⟨LL, hLL⟩ : ∃ LL, LL = leftL op := ⟨_, rfl⟩
  have hlvl := Lib.hid (rlevel_any op (by omega) w0)
  obtain ⟨L, hL⟩ : ∃ L, L = lev op := ⟨_, rfl⟩
  have hLc : (L = 4 ∧ LL = 5) ∨ ((L == 4) = false ∧ LL = L) := by
   rw [hLL, hL]
   unfold leftL
   by_cases h : lev op = 4
   ·exact .inl ⟨h, by rw [if_pos h]⟩
   ·exact .inr ⟨by simpa using h, by rw [if_neg h]⟩
  rw [← hL] at hlv hlvl
  obtain ⟨x, hx⟩ : ∃ x, x = operandR a o LL := ⟨_, rfl⟩
  obtain ⟨y, hy⟩ : ∃ y, y = operandR b p (L + 1) := ⟨_, rfl⟩
  have hsx : Sm 100000000004 x := by rw [hx]; exact operandR_sm HSA.out o LL
  have hsy : Sm 100000000004 y := by rw [hy]; exact operandR_sm HSB.out p (L + 1)
  have hopA : ∀ w', Calls Tryz.prog 128 #[.agg #[.string ⟨a.text.toArray⟩, .int .i64 a.toks, .int .i64 a.deep], .int .i64 o, .int .i64 LL] w' fun e w2 => e = .returned (tlv x) ∧ Below w'.heap.size w' w2 := fun w' => by
   have h := roperand_any a o LL ho w' ⟨by have := HSA.out.1; omega, by have := HSA.out.2.1; omega, by have := HSA.out.2.2; omega⟩
   rw [← hx] at h
   exact h
  have hopB : ∀ w', Calls Tryz.prog 128 #[.agg #[.string ⟨b.text.toArray⟩, .int .i64 b.toks, .int .i64 b.deep], .int .i64 p, .int .i64 (L + 1)] w' fun e w2 => e = .returned (tlv y) ∧ Below w'.heap.size w' w2 := fun w' => by
   have h := roperand_any b p (L + 1) hp w' ⟨by have := HSB.out.1; omega, by have := HSB.out.2.1; omega, by have := HSB.out.2.2; omega⟩
   rw [← hy] at h
   exact h
  obtain ⟨j, hjo, hj2⟩ : ∃ j : Nat, op = 14 + j ∧ j ≤ 12 := ⟨(op - 14).toNat, by omega, by omega⟩
  have hj3 : j < signsR.length := by show j < 13; omega
  obtain ⟨s, hs⟩ : ∃ s, s = signsR[j] := ⟨_, rfl⟩
  have hsl : s.length ≤ 5 := by
   rw [hs]
   have : ∀ v ∈ signsR, v.length ≤ 5 := by decide
   exact this _ (List.getElem_mem _)
  have HSG := Lib.hid (show ∀ w', Below w0.heap.size w0 w' → w'.cell? ⟨6, j, none⟩ = some (.string ⟨s.toArray⟩) from fun w' hb => by
   have h := (HL.out.below hb).rsg j (by simpa using hj3)
   rw [List.getElem_map, ← hs] at h
   exact h)
  have HRR := Lib.hid (show R = ⟨x.text ++ [32] ++ s ++ [32] ++ y.text, x.toks + 1 + y.toks, max x.deep y.deep⟩ by
   rw [HRF.out]
   unfold toldR
   dsimp only
   have hg : signsR.getD (op - 14).toNat [] = s := by
    rw [show (op - 14).toNat = j by omega, List.getD_eq_getElem?_getD, List.getElem?_eq_getElem hj3, ← hs]; rfl
   rw [if_neg (by omega), if_neg (by omega), if_neg (by omega), if_neg (by omega), if_neg (by omega), if_neg (by omega), if_neg (by omega), if_neg (by omega), hg, ← hLL, ← hL, ← hx, ← hy])
  have HOA := Lib.hid hopA
  have HOB := Lib.hid hopB
  have HE0 := Lib.hid (show Blk w0 w.heap.size 102 [.int .i64 (14 + (j : Int)), .int .i64 nn, .string ⟨var.toArray⟩, .string ⟨attr.toArray⟩, .int .i64 xa, .int .i64 xb] by rw [← hjo]; exact HE0.out)
  clear hLL hL hx hy hopA hopB hs hj3
  subst hjo
  obtain ⟨tx, tt, td⟩ := x
  obtain ⟨ux, ut, ud⟩ := y
  obtain ⟨x1, x2, x3⟩ := hsx
  obtain ⟨y1, y2, y3⟩ := hsy
  dsimp only at x1 x2 x3 y1 y2 y3 HRR
  simp only [tlv, tlc, T] at HOA HOB
  have hA1 : ¬ 9223372036854775807 < tx.length + 1 := by omega
  have hA2 : ¬ 9223372036854775807 < tx.length + 1 + s.length := by omega
  have hA3 : ¬ 9223372036854775807 < tx.length + 1 + s.length + 1 := by omega
  have hA4 : ¬ 9223372036854775807 < tx.length + 1 + s.length + 1 + ux.length := by omega
  have hw1 : IntKind.i64.wrap (14 + (j : Int) - 14) = j := by rw [IntKind.wrap_i64]; omega
  have hw2 : IntKind.i64.wrap ((tt : Int) + 1) = (tt : Int) + 1 := by rw [IntKind.wrap_i64]; omega
  have hw3 : IntKind.i64.wrap ((tt : Int) + 1 + (ut : Int)) = (tt : Int) + 1 + (ut : Int) := by rw [IntKind.wrap_i64]; omega
  have n1 : ((14 + (j : Int)) == 1) = false := by simp; omega
  have n2 : ((14 + (j : Int)) == 2) = false := by simp; omega
  have n3 : ((14 + (j : Int)) == 3) = false := by simp; omega
  have n4 : ((14 + (j : Int)) == 4) = false := by simp; omega
  have n5 : ((14 + (j : Int)) == 5) = false := by simp; omega
  have n6 : ((14 + (j : Int)) == 12) = false := by simp; omega
  have n7 : ((14 + (j : Int)) == 13) = false := by simp; omega
  have n8 : ¬ 14 + (j : Int) < 14 := by omega
  have n9 : (0 : Int) ≤ j := by omega
  have n10 : (j : Int) < 13 := by omega
  obtain ⟨l1, l2⟩ := hlv
  clear hsl
  go_enter Tryz.func110, Tryz.ntmps110
  go_wp2_with fail
  rw [← hw0]
  clear hw0
  refine (hlvl.out).mono ?_
  rintro e w0 ⟨rfl, rfl⟩
  have b0 := HE1.out.ci 0 rfl
  have b1 := HE1.out.ci 1 rfl
  have b2 := HE1.out.ci 2 rfl
  rw [T] at b0
  rcases hLc with ⟨rfl, rfl⟩ | ⟨hl4, rfl⟩
  all_goals (
   go_wp2_with fail
   refine (HOA.out w0).mono ?_
   rintro e w1 ⟨rfl, hb1⟩
   clear b0 b1 b2
   obtain ⟨w1', hw1'⟩ : ∃ v, v = w1.alloc (.cells #[.string ⟨tx.toArray⟩, .int .i64 tt, .int .i64 td] 172) := ⟨_, rfl⟩
   obtain ⟨g1, hg1⟩ : ∃ v, v = w1.heap.size := ⟨_, rfl⟩
   have hb1' : Below w1.heap.size w1 w1' := by rw [hw1']; exact bal (Below.refl _ _) (Nat.le_refl _) _
   have hF1 : Blk w1' g1 172 [.string ⟨tx.toArray⟩, .int .i64 tt, .int .i64 td] := by rw [hw1', hg1]; exact Blk.new w1 _ 172
   have HC1 := Lib.hid (hb1.trans (hb1'.mono hb1.size))
   have HF1 := Lib.hid hF1
   have e0 := (HE2.out.below HC1.out).ci 0 rfl
   have e1 := (HE2.out.below HC1.out).ci 1 rfl
   have e2 := (HE2.out.below HC1.out).ci 2 rfl
   rw [T] at e0
   clear hb1 hb1' hF1
   go_upto_region 24 with fail
   rw [← hw1', ← hg1]
   clear hw1' hg1
   go_wp2_with fail
   refine (HOB.out w1').mono ?_
   rintro e w2 ⟨rfl, hb2⟩
   obtain ⟨w2', hw2'⟩ : ∃ v, v = w2.alloc (.cells #[.string ⟨ux.toArray⟩, .int .i64 ut, .int .i64 ud] 172) := ⟨_, rfl⟩
   obtain ⟨g2, hg2⟩ : ∃ v, v = w2.heap.size := ⟨_, rfl⟩
   have hb2' : Below w2.heap.size w2 w2' := by rw [hw2']; exact bal (Below.refl _ _) (Nat.le_refl _) _
   have hF2 : Blk w2' g2 172 [.string ⟨ux.toArray⟩, .int .i64 ut, .int .i64 ud] := by rw [hw2', hg2]; exact Blk.new w2 _ 172
   have hC12 := hb2.trans (hb2'.mono hb2.size)
   have HF1 := Lib.hid (HF1.out.below hC12)
   have HF2 := Lib.hid hF2
   have HC2 := Lib.hid (HC1.out.trans (hC12.mono HC1.out.size))
   have f0 := HF1.out.ci 0 rfl
   have f1 := HF1.out.ci 1 rfl
   have f2 := HF1.out.ci 2 rfl
   have h0 := HF2.out.ci 0 rfl
   have h1 := HF2.out.ci 1 rfl
   have h2 := HF2.out.ci 2 rfl
   have k0 := (HE0.out.below HC2.out).ci 0 rfl
   have sg := HSG.out _ HC2.out
   have f0' : w2'.drew.cell? ⟨g1, 0, none⟩ = _ := f0
   have f1' : w2'.drew.cell? ⟨g1, 1, none⟩ = _ := f1
   have h0' : w2'.drew.cell? ⟨g2, 0, none⟩ = _ := h0
   have h1' : w2'.drew.cell? ⟨g2, 1, none⟩ = _ := h1
   have k0' : w2'.drew.cell? ⟨w.heap.size, 0, none⟩ = _ := k0
   have sg' : w2'.drew.cell? ⟨6, j, none⟩ = _ := sg
   obtain ⟨z0, z1, z2, z3, z4, z5, z6, z7, z8⟩ := HZ.out _ HC2.out
   have HQ0 := Lib.hid z6
   have HQ1 := Lib.hid z7
   have HQ2 := Lib.hid z8
   clear hb2 hb2' hF2 hC12 z6 z7 z8 e0 e1 e2
   go_upto_region 25 with fail
   rw [← hw2', ← hg2]
   clear hw2' hg2
   by_cases hd : td < ud
   ·have hd' : (td : Int) < ud := by omega
    have hmx : max td ud = ud := by omega
    rw [hmx] at HRR
    clear hd hmx
    go_wp2_with fail
    go_still_tail 21, (by kernel_rfl)
    change wpList _ _ _ _ _ w2'.drew
    go_wp2_with fail
    have q0 := HQ0.out (.string (⟨tx.toArray⟩ ++ ⟨#[32]⟩ ++ ⟨s.toArray⟩ ++ ⟨#[32]⟩ ++ ⟨ux.toArray⟩))
    have q1 := HQ1.out (.string (⟨tx.toArray⟩ ++ ⟨#[32]⟩ ++ ⟨s.toArray⟩ ++ ⟨#[32]⟩ ++ ⟨ux.toArray⟩)) (.int .i64 ((tt : Int) + 1 + (ut : Int)))
    have q2 := HQ2.out (.string (⟨tx.toArray⟩ ++ ⟨#[32]⟩ ++ ⟨s.toArray⟩ ++ ⟨#[32]⟩ ++ ⟨ux.toArray⟩)) (.int .i64 ((tt : Int) + 1 + (ut : Int))) (.int .i64 (ud : Int))
    refine bodyPost_ret (by simp [results, Tryz.results110, go_sem, q0, q1, q2]; try rfl) rfl ?_
    exact ⟨by rw [HRR.out]; simp [bs_append], (HZB.out w2' _ _ _ HC2.out).drew⟩
   ·have hd' : ¬ (td : Int) < ud := by omega
    have hmx : max td ud = td := by omega
    rw [hmx] at HRR
    clear hd hmx
    go_wp2_with fail
    go_still_tail 21, (by kernel_rfl)
    change wpList _ _ _ _ _ w2'.drew
    go_wp2_with fail
    have q0 := HQ0.out (.string (⟨tx.toArray⟩ ++ ⟨#[32]⟩ ++ ⟨s.toArray⟩ ++ ⟨#[32]⟩ ++ ⟨ux.toArray⟩))
    have q1 := HQ1.out (.string (⟨tx.toArray⟩ ++ ⟨#[32]⟩ ++ ⟨s.toArray⟩ ++ ⟨#[32]⟩ ++ ⟨ux.toArray⟩)) (.int .i64 ((tt : Int) + 1 + (ut : Int)))
    have q2 := HQ2.out (.string (⟨tx.toArray⟩ ++ ⟨#[32]⟩ ++ ⟨s.toArray⟩ ++ ⟨#[32]⟩ ++ ⟨ux.toArray⟩)) (.int .i64 ((tt : Int) + 1 + (ut : Int))) (.int .i64 (td : Int))
    refine bodyPost_ret (by simp [results, Tryz.results110, go_sem, q0, q1, q2]; try rfl) rfl ?_
    exact ⟨by rw [HRR.out]; simp [bs_append], (HZB.out w2' _ _ _ HC2.out).drew⟩)
end Go.Proofs.YtfglgpbjjpoimaaGreatDoor
