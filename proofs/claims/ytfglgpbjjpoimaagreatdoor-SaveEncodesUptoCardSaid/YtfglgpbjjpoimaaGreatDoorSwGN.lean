/- SaveEncodes: the reference's one, two, leaf. -/
import Derived.Test.YtfglgpbjjpoimaaGreatDoorSwGG
import Derived.Deep.CutBlock
import Derived.Deep.CutRange
set_option linter.unusedVariables false
namespace Go.Proofs.YtfglgpbjjpoimaaGreatDoor
open Go.RowKit Sv
theorem rone_any (o : Int) (w : World) : Calls Tryz.prog 139 #[.int .i64 o] w fun e w' => e = .returned (.bool (decide (o = 12 ∨ o = 13))) ∧ w' = w := by
 by_cases k1 : o = 12
 ·subst k1
  go_enter Tryz.func139, Tryz.ntmps139
  go_wp2
  go_ret
  exact ⟨rfl, rfl⟩
 ·by_cases k2 : o = 13
  ·subst k2
   go_enter Tryz.func139, Tryz.ntmps139
   go_wp2
   go_ret
   exact ⟨rfl, rfl⟩
  ·have h1 : (o == 12) = false := by simpa using k1
   have h2 : (o == 13) = false := by simpa using k2
   have HN := Lib.hid (show decide (o = 12 ∨ o = 13) = false by simp [k1, k2])
   clear k1 k2
   go_enter Tryz.func139, Tryz.ntmps139
   go_wp2
   go_ret
   exact ⟨by rw [HN.out]; rfl, rfl⟩
theorem rtwo_any (o : Int) (w : World) : Calls Tryz.prog 140 #[.int .i64 o] w fun e w' => e = .returned (.bool (decide (14 ≤ o ∧ o ≤ 26))) ∧ w' = w := by
 obtain ⟨F, hF⟩ : ∃ F, F = decide (14 ≤ o ∧ o ≤ 26) := ⟨_, rfl⟩
 rw [← hF]
 by_cases k1 : 14 ≤ o
 ·by_cases k2 : o ≤ 26
  ·have HN := Lib.hid (show F = true by rw [hF]; simp [k1, k2])
   clear hF
   go_enter Tryz.func140, Tryz.ntmps140
   go_wp2
   go_ret
   exact ⟨by rw [HN.out]; rfl, rfl⟩
  ·have HN := Lib.hid (show F = false by rw [hF]; simp [k1, k2])
   clear hF
   go_enter Tryz.func140, Tryz.ntmps140
   go_wp2
   go_ret
   exact ⟨by rw [HN.out]; rfl, rfl⟩
 ·have HN := Lib.hid (show F = false by rw [hF]; simp [k1])
  clear hF
  go_enter Tryz.func140, Tryz.ntmps140
  go_wp2
  go_ret
  exact ⟨by rw [HN.out]; rfl, rfl⟩
set_option maxHeartbeats 2000000 in
theorem rleaf_any (x : Nd) (w : World) (hk : Kw w) : Calls Tryz.prog 138 #[.agg (ndc x).toArray] w fun e w' => e = .returned (.bool (leafR (nameB kwsL) x)) ∧ Below w.heap.size w w' := by
 obtain ⟨op, n, var, attr, a, b⟩ := x
 simp only [ndc, T]
 obtain ⟨w0, hw0⟩ : ∃ w0, w0 = w.alloc (.cells #[.int .i64 op, .int .i64 n, .string ⟨var.toArray⟩, .string ⟨attr.toArray⟩, .int .i64 a, .int .i64 b] 102) := ⟨_, rfl⟩
 have hb0 : Below w.heap.size w w0 := by rw [hw0]; exact (Below.refl _ _).alloc (Nat.le_refl _) _
 have hE0 : Blk w0 w.heap.size 102 [.int .i64 op, .int .i64 n, .string ⟨var.toArray⟩, .string ⟨attr.toArray⟩, .int .i64 a, .int .i64 b] := by rw [hw0]; exact Blk.new w _ 102
 have hk0 := hk.below hb0
 have HE := Lib.hid hE0
 have HB0 := Lib.hid hb0
 have HBA := Lib.hid (show Below w.heap.size w (w.alloc (.cells #[.int .i64 op, .int .i64 n, .string ⟨var.toArray⟩, .string ⟨attr.toArray⟩, .int .i64 a, .int .i64 b] 102)) from (Below.refl _ _).alloc (Nat.le_refl _) _)
 have HK := Lib.hid hk0
 obtain ⟨F, hF⟩ : ∃ F, F = leafR (nameB kwsL) ⟨op, n, var, attr, a, b⟩ := ⟨_, rfl⟩
 rw [← hF]
 have HF := Lib.hid hF
 clear hb0 hE0 hk hF hk0
 by_cases ha : a = -1
 rotate_left
 ·have ha' : (a == -1) = false := by simpa using ha
  have ha2 : (a != -1) = true := by simpa using ha
  have HNO := Lib.hid (show F = false by rw [HF.out]; unfold leafR; simp [ha])
  clear ha
  go_enter Tryz.func138, Tryz.ntmps138
  go_wp2_with fail
  go_ret
  exact ⟨by rw [HNO.out]; rfl, HBA.out⟩
 subst ha
 by_cases hb : b = -1
 rotate_left
 ·have ha' : (b == -1) = false := by simpa using hb
  have ha2 : (b != -1) = true := by simpa using hb
  have HNO := Lib.hid (show F = false by rw [HF.out]; unfold leafR; simp [hb])
  clear hb
  go_enter Tryz.func138, Tryz.ntmps138
  go_wp2_with fail
  go_ret
  exact ⟨by rw [HNO.out]; rfl, HBA.out⟩
 subst hb
 have hcl : (op = 1 ∨ op = 2 ∨ op = 3) ∨ op = 5 ∨ (op = 4 ∨ op = 6 ∨ op = 7 ∨ op = 8 ∨ op = 9 ∨ op = 10 ∨ op = 11) ∨ (op ≤ 0 ∨ 12 ≤ op) := by omega
 rcases hcl with hcl | hcl | hcl | hcl
 ·skip
  have HFA := Lib.hid (show ((op = 1 ∧ 0 ≤ n ∨ op ≠ 1 ∧ n = 0) ∧ var = [] ∧ attr = []) ∧ F = true ∨ ¬ (op = 1 ∧ 0 ≤ n ∨ op ≠ 1 ∧ n = 0) ∧ F = false ∨ (op = 1 ∧ 0 ≤ n ∨ op ≠ 1 ∧ n = 0) ∧ var ≠ [] ∧ F = false ∨ (op = 1 ∧ 0 ≤ n ∨ op ≠ 1 ∧ n = 0) ∧ var = [] ∧ attr ≠ [] ∧ F = false by
   rw [HF.out]
   unfold leafR
   rcases hcl with rfl | rfl | rfl
   all_goals (
    by_cases h1 : var = [] <;> by_cases h2 : attr = []
    ·subst h1; subst h2; simp; omega
    ·subst h1; simp [h2]; omega
    ·subst h2; simp [h1]; omega
    ·simp [h1, h2]; omega))
  rcases hcl with rfl | rfl | rfl
  all_goals (
   rcases HFA.out with ⟨⟨h1, rfl, rfl⟩, h4⟩ | ⟨h1, h4⟩ | ⟨h1, h2, h4⟩ | ⟨h1, rfl, h3, h4⟩
   all_goals (
    simp at h1
    try subst h1
    try (have h2' := (nil_facts _ h2).1)
    try (have h3' := (nil_facts _ h3).1)
    try (have h1' : (n == 0) = false := by simpa using h1)
    subst h4
    go_enter Tryz.func138, Tryz.ntmps138
    go_wp2_with fail
    go_ret
    exact ⟨rfl, HBA.out⟩))
 ·subst hcl
  by_cases hn : n = 0
  rotate_left
  ·have HNO := Lib.hid (show F = false by rw [HF.out]; unfold leafR; simp [hn])
   have hn' : (n == 0) = false := by simpa using hn
   clear hn
   go_enter Tryz.func138, Tryz.ntmps138
   go_wp2_with fail
   go_ret
   exact ⟨by rw [HNO.out]; rfl, HBA.out⟩
  subst hn
  have HFA := Lib.hid (show F = (nameB kwsL var && attr.isEmpty) by rw [HF.out]; unfold leafR; simp)
  go_enter Tryz.func138, Tryz.ntmps138
  go_wp2_with fail
  rw [← hw0]
  clear hw0
  refine (rIsName_any ⟨var.toArray⟩ w0 HK.out).mono ?_
  rintro e w1 ⟨rfl, hb1⟩
  rw [sl_T]
  have c3 := (HE.out.below hb1).ci 3 rfl
  have HB1 := Lib.hid (HB0.out.trans (hb1.mono HB0.out.size))
  clear hb1
  cases hv : nameB kwsL var with
  | false =>
   have HNO := Lib.hid (show F = false by rw [HFA.out, hv]; rfl)
   clear hv
   go_wp2_with fail
   go_ret
   exact ⟨by rw [HNO.out]; rfl, HB1.out⟩
  | true =>
   by_cases ha : attr = []
   ·have HNO := Lib.hid (show F = true by rw [HFA.out, hv, ha]; rfl)
    subst ha
    clear hv
    go_wp2_with fail
    go_ret
    exact ⟨by rw [HNO.out]; rfl, HB1.out⟩
   ·have h1 := (nil_facts _ ha).1
    have HNO := Lib.hid (show F = false by rw [HFA.out, hv, (nil_facts _ ha).2]; rfl)
    clear hv ha
    go_wp2_with fail
    go_ret
    exact ⟨by rw [HNO.out]; rfl, HB1.out⟩
 ·by_cases hn : n = 0
  rotate_left
  ·have HNO := Lib.hid (show F = false by rw [HF.out]; unfold leafR; rcases hcl with rfl | rfl | rfl | rfl | rfl | rfl | rfl <;> simp [hn])
   have hn' : (n == 0) = false := by simpa using hn
   clear hn
   rcases hcl with rfl | rfl | rfl | rfl | rfl | rfl | rfl
   all_goals (
    go_enter Tryz.func138, Tryz.ntmps138
    go_wp2_with fail
    go_ret
    exact ⟨by rw [HNO.out]; rfl, HBA.out⟩)
  subst hn
  have HFA := Lib.hid (show F = (nameB kwsL var && nameB kwsL attr) by rw [HF.out]; unfold leafR; rcases hcl with rfl | rfl | rfl | rfl | rfl | rfl | rfl <;> simp)
  rcases hcl with rfl | rfl | rfl | rfl | rfl | rfl | rfl
  all_goals (
   go_enter Tryz.func138, Tryz.ntmps138
   go_wp2_with fail
   rw [← hw0]
   clear hw0
   refine (rIsName_any ⟨var.toArray⟩ w0 HK.out).mono ?_
   rintro e w1 ⟨rfl, hb1⟩
   rw [sl_T]
   have c3 := (HE.out.below hb1).ci 3 rfl
   have hk1 := HK.out.below hb1
   have HB1 := Lib.hid (HB0.out.trans (hb1.mono HB0.out.size))
   clear hb1
   cases hv : nameB kwsL var with
   | false =>
    have HNO := Lib.hid (show F = false by rw [HFA.out, hv]; rfl)
    clear hv
    go_wp2_with fail
    go_ret
    exact ⟨by rw [HNO.out]; rfl, HB1.out⟩
   | true =>
    have HFB := Lib.hid (show F = nameB kwsL attr by rw [HFA.out, hv]; rfl)
    clear hv
    go_wp2_with fail
    refine (rIsName_any ⟨attr.toArray⟩ w1 hk1).mono ?_
    rintro e w2 ⟨rfl, hb2⟩
    rw [sl_T, ← HFB.out]
    have HB2 := Lib.hid (HB1.out.trans (hb2.mono HB1.out.size))
    clear hb2
    go_wp2_with fail
    go_ret
    exact ⟨rfl, HB2.out⟩)
 ·have HNO := Lib.hid (show F = false by rw [HF.out]; unfold leafR; dsimp only; rw [if_neg (by omega), if_neg (by omega), if_neg (by omega), if_neg (by omega)]; simp)
  have h1 : (op == 1) = false := by simp; omega
  have h2 : (op == 2) = false := by simp; omega
  have h3 : (op == 3) = false := by simp; omega
  have h4 : (op == 4) = false := by simp; omega
  have h5 : (op == 5) = false := by simp; omega
  have h6 : (op == 6) = false := by simp; omega
  have h7 : (op == 7) = false := by simp; omega
  have h8 : (op == 8) = false := by simp; omega
  have h9 : (op == 9) = false := by simp; omega
  have h10 : (op == 10) = false := by simp; omega
  have h11 : (op == 11) = false := by simp; omega
  clear hcl
  go_enter Tryz.func138, Tryz.ntmps138
  go_wp2_with fail
  go_ret
  exact ⟨by rw [HNO.out]; rfl, HBA.out⟩
end Go.Proofs.YtfglgpbjjpoimaaGreatDoor
/- SaveEncodes: the reference's begins, Tree. -/
set_option linter.unusedVariables false
namespace Go.Proofs.YtfglgpbjjpoimaaGreatDoor
open Go.RowKit Sv
theorem run_stepR {nm : Str → Bool} {t : List Nd} {k : Nat} {ls : List Nat} (hk : k < t.length) (h : runR nm (t.take k) [] = some ls) : runR nm (t.take (k + 1)) [] = (stepR nm ls t[k]).map fun v => ls ++ [v] := by
 rw [take_snoc t k hk, runR_append, h, Option.bind_some]
 simp only [runR]
 cases stepR nm ls t[k] <;> rfl
theorem runR_none {nm : Str → Bool} {t : List Nd} {k : Nat} (h : runR nm (t.take k) [] = none) : runR nm t [] = none := by
 rw [← List.take_append_drop k t, runR_append, h]
 rfl
theorem own_at {w : World} {base : Nat} {a : Option Addr} {c n : Nat} {ls : List Nat} (h : w.ownsRow base 3 1 (.slice a n c) n (NZ ls)) (i : Nat) (hi : i < ls.length) :
  ∃ g, a = some ⟨g, 0, none⟩ ∧ n ≤ c ∧ w.cell? ⟨g, i, none⟩ = some (.int .i64 (ls[i] : Int)) := by
 have hl : ls.length = n := by have := h.1; simpa [NZ] using this
 rcases h.2 with ⟨h1, h2⟩ | ⟨g, cap, cur, h1, h2, h3, h4, h5, h6, h7⟩
 ·omega
 ·cases h1
  refine ⟨g, rfl, h4, ?_⟩
  have h8 := h.cellAt i (by omega)
  rw [h8, NZ, List.getElem?_map, List.getElem?_eq_getElem hi]
  rfl
theorem nz_push (ls : List Nat) (x : Nat) : NZ ls ++ (#[.int .i64 (x : Int)] : Array Value).toList = NZ (ls ++ [x]) := by simp [NZ, Z]
theorem le_push {ls : List Nat} {x k : Nat} (h : ∀ j (hj : j < ls.length), ls[j] ≤ j) (hl : ls.length = k) (hx : x ≤ k) : ∀ j (hj : j < (ls ++ [x]).length), (ls ++ [x])[j] ≤ j := by
 intro j hj
 rw [List.length_append, List.length_singleton] at hj
 by_cases hjk : j < ls.length
 ·rw [List.getElem_append_left hjk]; exact h j hjk
 ·rw [List.getElem_append_right (by omega)]
  simp only [List.getElem_singleton]
  omega
/-- What begins answers. -/
def BegR (t : List Nd) (n : Nat) (w : World) (e : Ending) (w' : World) : Prop :=
 (runR (nameB kwsL) t [] = none ∧ e = .returned (.tuple #[.slice none 0 0, .bool false]) ∨ ∃ ls a' c', runR (nameB kwsL) t [] = some ls ∧ ls.length = n ∧ e = .returned (.tuple #[.slice a' n c', .bool true]) ∧ w'.ownsRow w.heap.size 3 1 (.slice a' n c') n (NZ ls)) ∧ Below w.heap.size w w'
set_option maxHeartbeats 4000000 in
set_option maxRecDepth 20000 in
theorem rbegins_any (a : Option Addr) (c n : Nat) (t : List Nd) (w : World) (hn : t.length = n) (hN : n ≤ 10000000) (hk : Kw w) (h : RdN w a t) :
  Calls Tryz.prog 126 #[.slice a n c] w (BegR t n w) := by
 have HN := Lib.hid hn
 have HK := Lib.hid hk
 have HR := Lib.hid h
 obtain ⟨i0, hi9, hz9, hs9, hy9⟩ := info_parts info3
 have hi0 := Lib.hid hi9
 have hz0 := Lib.hid hz9
 have hs0 := Lib.hid hs9
 have hy0 := Lib.hid hy9
 clear hi9 hz9 hs9 hy9 hk h
 go_enter Tryz.func126, Tryz.ntmps126
 go_wp2_with fail
 go_loopw [4, 5] (fun v i wr => ∃ (k : Nat) (ls : List Nat) (a' : Option Addr) (c' : Nat), k ≤ n ∧ i = .int .i64 (k : Int) ∧ v = .slice a' k c' ∧ wr.ownsRow w.heap.size 3 1 (.slice a' k c') k (NZ ls) ∧ runR (nameB kwsL) (t.take k) [] = some ls ∧ ls.length = k ∧ (∀ j (hj : j < ls.length), ls[j] ≤ j) ∧ Below w.heap.size w wr) (fun _ i _ => n - (intOf i).toNat)
 case atStart => exact ⟨0, [], none, 0, Nat.zero_le _, rfl, rfl, by simpa [NZ] using World.ownsRow_nil w w.heap.size 3 1, rfl, rfl, fun j hj => absurd hj (by simp), Below.refl _ _⟩
 case round =>
  obtain ⟨k, ls, a', c', hk, rfl, rfl, hown, hrun, hst, hle, hbw⟩ := hrel
  have HBW := Lib.hid hbw
  by_cases hlt : k < n
  ·have hkl : k < t.length := by rw [hn]; exact hlt
   obtain ⟨b, off, rfl, e0, e1, e2, e3, e4, e5⟩ := (HR.out.below hbw).at k hkl
   have hlt' : (k : Int) < n := by omega
   have hstep := run_stepR hkl hrun
   obtain ⟨⟨op, nn, var, attr, xa, xb⟩, hx⟩ : ∃ x, x = t[k] := ⟨_, rfl⟩
   rw [← hx] at e0 e1 e2 e3 e4 e5 hstep
   dsimp only at e0 e1 e2 e3 e4 e5
   rw [T] at e2 e3
   have HST := Lib.hid hstep
   have HME := Lib.hid (meas_lt hlt)
   have HKS := Lib.hid (show k + 1 ≤ n from hlt)
   have HSL := Lib.hid hst
   have HLE := Lib.hid hle
   obtain ⟨wa, hwa⟩ : ∃ wa, wa = wr.alloc (.cells #[.int .i64 op, .int .i64 nn, .string ⟨var.toArray⟩, .string ⟨attr.toArray⟩, .int .i64 xa, .int .i64 xb] 102) := ⟨_, rfl⟩
   obtain ⟨ga, hga⟩ : ∃ ga, ga = wr.heap.size := ⟨_, rfl⟩
   have hka : Blk wa ga 102 [.int .i64 op, .int .i64 nn, .string ⟨var.toArray⟩, .string ⟨attr.toArray⟩, .int .i64 xa, .int .i64 xb] := by rw [hwa, hga]; exact Blk.new wr _ 102
   have hra : Below wr.heap.size wr wa := by rw [hwa]; exact (Below.refl _ _).alloc (Nat.le_refl _) _
   have HKA := Lib.hid hka
   have HBA := Lib.hid (hbw.trans (hra.mono hbw.size))
   have HOA := Lib.hid (ownsRow_below hown hra)
   have hkw := HK.out.below HBA.out
   have HKL := Lib.hid hkl
   clear hstep hrun hown hbw hra hx hn hkl hst hle
   go_upto_region 6 with fail
   rw [← hwa, ← hga]
   have f0 := hka.ci 0 rfl
   have f1 := hka.ci 1 rfl
   have f2 := hka.ci 2 rfl
   have f3 := hka.ci 3 rfl
   have f4 := hka.ci 4 rfl
   have f5 := hka.ci 5 rfl
   clear hwa hga e0 e1 e2 e3 e4 e5 hka
   go_cut [7] from 8 to 111 (fun b wx => b = .bool (bareR ⟨op, nn, var, attr, xa, xb⟩) ∧ wx = wa)
   case first =>
    obtain ⟨B, hB⟩ : ∃ B, B = bareR ⟨op, nn, var, attr, xa, xb⟩ := ⟨_, rfl⟩
    have HBB := Lib.hid hB
    have hcl : (nn = 0 ∧ var = [] ∧ attr = []) ∧ B = true ∨ nn ≠ 0 ∧ B = false ∨ nn = 0 ∧ var ≠ [] ∧ B = false ∨ nn = 0 ∧ var = [] ∧ attr ≠ [] ∧ B = false := by
     rw [hB]
     unfold bareR
     by_cases h0 : nn = 0 <;> by_cases h1 : var = [] <;> by_cases h2 : attr = [] <;> simp [h0, h1, h2]
    clear hB
    rcases hcl with ⟨⟨rfl, rfl, rfl⟩, rfl⟩ | ⟨h1, rfl⟩ | ⟨rfl, h1, rfl⟩ | ⟨rfl, rfl, h1, rfl⟩
    ·go_wp2_with fail
     go_meet
     case rel => exact ⟨congrArg Value.bool HBB.out, rfl⟩
    ·have h2 : (nn == 0) = false := by simpa using h1
     clear h1
     go_wp2_with fail
     go_meet
     case rel => exact ⟨congrArg Value.bool HBB.out, rfl⟩
    ·have h2 := (nil_facts _ h1).1
     clear h1
     go_wp2_with fail
     go_meet
     case rel => exact ⟨congrArg Value.bool HBB.out, rfl⟩
    ·have h2 := (nil_facts _ h1).1
     clear h1
     go_wp2_with fail
     go_meet
     case rel => exact ⟨congrArg Value.bool HBB.out, rfl⟩
   case rest =>
    obtain ⟨rfl, rfl⟩ := hcut
    have hLF := Lib.hid (show Calls Tryz.prog 138 #[.agg #[.int .i64 op, .int .i64 nn, .string ⟨var.toArray⟩, .string ⟨attr.toArray⟩, .int .i64 xa, .int .i64 xb]] wc _ from rleaf_any ⟨op, nn, var, attr, xa, xb⟩ wc hkw)
    go_wp2_with fail
    refine (hLF.out).mono ?_
    rintro e w3 ⟨rfl, hb3⟩
    have HB3 := Lib.hid (HBA.out.trans (hb3.mono HBA.out.size))
    have HO3 := Lib.hid (ownsRow_below HOA.out hb3)
    have HK3 := Lib.hid (HKA.out.below hb3)
    have f0 := HK3.out.ci 0 rfl
    have f4 := HK3.out.ci 4 rfl
    have f5 := HK3.out.ci 5 rfl
    have hbs := HB3.out.size
    have hcap := own_cap HO3.out
    have HCAP := Lib.hid hcap
    clear hb3 hkw hcap
    cases hL : leafR (nameB kwsL) ⟨op, nn, var, attr, xa, xb⟩ with
    | true =>
     have HOK := Lib.hid (show stepR (nameB kwsL) ls ⟨op, nn, var, attr, xa, xb⟩ = some k by rw [stepR_0 _ _ _ hL, HSL.out])
     clear hL
     go_wp2_with (first | (at_builtin; refine wpList_append_one w3 rfl _ _ 59 rfl w.heap.size 3 i0 _ 1 8 Tryz.underlying59 hi0.out hz0.out hs0.out hy0.out rfl (by decide) (.slice a' k c') k (NZ ls) #[.int .i64 (k : Int)] rfl HO3.out rfl rfl (by intro z hz; simp at hz; subst hz; rfl) (by unfold maxLen; omega) (by omega) hbs ?_; intro a4 c4 w4 ho4 hb4 hm4) | fail)
     go_roundw
     case rel => exact ⟨k + 1, ls ++ [k], a4, c4, HKS.out, by go_num, rfl, by rw [← nz_push]; exact ho4, HST.out.trans (by rw [HOK.out]; rfl), by rw [List.length_append, HSL.out]; rfl, le_push HLE.out HSL.out (Nat.le_refl _), HB3.out.trans hb4⟩
     case measure => exact HME.out
    | false =>
     have HL := Lib.hid hL
     clear hL
     go_wp2_with fail
     refine (rone_any op w3).mono ?_
     rintro e w3 ⟨rfl, rfl⟩
     by_cases ho : op = 12 ∨ op = 13
     ·have h1 := stepR_1 (nameB kwsL) ls ⟨op, nn, var, attr, xa, xb⟩ (by rw [HL.out]; simp) ho
      rw [show decide (op = 12 ∨ op = 13) = true by simp [ho]]
      have HS1 := Lib.hid h1
      clear h1 ho
      dsimp only at HS1
      obtain ⟨B, hB⟩ : ∃ B, B = bareR ⟨op, nn, var, attr, xa, xb⟩ := ⟨_, rfl⟩
      have HB := Lib.hid hB
      rw [← hB]
      clear hB
      cases B with
      | false =>
       have HNO := Lib.hid (runR_none (HST.out.trans (by rw [HS1.out, if_neg (fun h => by rw [← HB.out] at h; exact absurd h.1 (by simp))]; rfl)))
       go_wp2_with fail
       go_ret2
       exact ⟨.inl ⟨HNO.out, rfl⟩, HB3.out⟩
      | true =>
       obtain _ | m := k
       ·have HNO := Lib.hid (runR_none (HST.out.trans (by rw [HS1.out, if_neg (fun h => by have := h.2.1; rw [HSL.out] at this; omega)]; rfl)))
        go_wp2_with fail
        go_ret2
        exact ⟨.inl ⟨HNO.out, rfl⟩, HB3.out⟩
       ·have hm1 : ¬ (m : Int) + 1 < 1 := by omega
        by_cases hA : xa = (m : Int)
        rotate_left
        ·have HNO := Lib.hid (runR_none (HST.out.trans (by rw [HS1.out, if_neg (fun h => by have := h.2.2.1; rw [HSL.out] at this; exact hA (by omega))]; rfl)))
         have hA1 : (xa == (m : Int)) = false := by simpa using hA
         have hA2 : (xa != (m : Int)) = true := by simpa using hA
         clear hA
         go_wp2_with fail
         go_ret2
         exact ⟨.inl ⟨HNO.out, rfl⟩, HB3.out⟩
        by_cases hB : xb = -1
        rotate_left
        ·have HNO := Lib.hid (runR_none (HST.out.trans (by rw [HS1.out, if_neg (fun h => hB h.2.2.2)]; rfl)))
         have hA1 : (xb == -1) = false := by simpa using hB
         have hA2 : (xb != -1) = true := by simpa using hB
         subst hA
         clear hB
         go_wp2_with fail
         go_ret2
         exact ⟨.inl ⟨HNO.out, rfl⟩, HB3.out⟩
        subst hA hB
        have hmL : m < ls.length := by rw [HSL.out]; omega
        obtain ⟨g, hg, hcc, hc⟩ := own_at HO3.out m hmL
        subst hg
        clear hcc
        have HOK := Lib.hid (show stepR (nameB kwsL) ls ⟨op, nn, var, attr, (m : Int), -1⟩ = some ls[m] by
         rw [HS1.out, if_pos ⟨HB.out.symm, by rw [HSL.out]; omega, by rw [HSL.out]; omega, rfl⟩, HSL.out, Nat.add_sub_cancel, List.getElem?_eq_getElem hmL])
        have hv := HLE.out m hmL
        obtain ⟨v, hvv⟩ : ∃ v, v = ls[m] := ⟨_, rfl⟩
        rw [← hvv] at hc hv
        have HVV := Lib.hid hvv
        have HOK := Lib.hid (show stepR (nameB kwsL) ls ⟨op, nn, var, attr, (m : Int), -1⟩ = some v by rw [hvv]; exact HOK.out)
        have hm2 : (0 : Int) ≤ m := by omega
        have hm3 : (m : Int) < m + 1 := by omega
        have HV2 := Lib.hid (show v ≤ m + 1 by omega)
        clear hvv hv
        go_wp2_with (first | (at_builtin; refine wpList_append_one w3 rfl _ _ 59 rfl w.heap.size 3 i0 _ 1 8 Tryz.underlying59 hi0.out hz0.out hs0.out hy0.out rfl (by decide) (.slice (some ⟨g, 0, none⟩) (m + 1) c') (m + 1) (NZ ls) #[.int .i64 (v : Int)] rfl HO3.out rfl rfl (by intro z hz; simp at hz; subst hz; rfl) (by unfold maxLen; omega) (by omega) hbs ?_; intro a4 c4 w4 ho4 hb4 hm4) | fail)
        go_roundw
        case rel => exact ⟨m + 1 + 1, ls ++ [v], a4, c4, HKS.out, by go_num, rfl, by rw [← nz_push]; exact ho4, HST.out.trans (by rw [HOK.out]; rfl), by rw [List.length_append, HSL.out]; rfl, le_push HLE.out HSL.out HV2.out, HB3.out.trans hb4⟩
        case measure => exact HME.out
     ·rw [show decide (op = 12 ∨ op = 13) = false by simp [ho]]
      have HO1 := Lib.hid ho
      clear ho
      go_wp2_with fail
      refine (rtwo_any op w3).mono ?_
      rintro e w3 ⟨rfl, rfl⟩
      by_cases ho : 14 ≤ op ∧ op ≤ 26
      rotate_left
      ·rw [show decide (14 ≤ op ∧ op ≤ 26) = false by simpa using ho]
       have HNO := Lib.hid (runR_none (HST.out.trans (by rw [stepR_no (nameB kwsL) ls ⟨op, nn, var, attr, xa, xb⟩ (by rw [HL.out]; simp) HO1.out ho]; rfl)))
       clear ho
       go_wp2_with fail
       go_ret2
       exact ⟨.inl ⟨HNO.out, rfl⟩, HB3.out⟩
      have h1 := stepR_2 (nameB kwsL) ls ⟨op, nn, var, attr, xa, xb⟩ (by rw [HL.out]; simp) ho
      rw [show decide (14 ≤ op ∧ op ≤ 26) = true by simpa using ho]
      have HS1 := Lib.hid h1
      clear h1 ho
      dsimp only at HS1
      obtain ⟨B, hB⟩ : ∃ B, B = bareR ⟨op, nn, var, attr, xa, xb⟩ := ⟨_, rfl⟩
      have HB := Lib.hid hB
      rw [← hB]
      clear hB
      go_wp2_with fail
      have HBQ := Lib.hid (show ∀ k, Below w.heap.size w (w3.drewN k) from fun k => HB3.out.trans ((below_draws w3).mono HB3.out.size))
      clear f0 f1 f2 f3
      cases B with
      | false =>
       have HNO := Lib.hid (runR_none (HST.out.trans (by rw [HS1.out, if_neg (fun h => by rw [← HB.out] at h; exact absurd h.1 (by simp))]; rfl)))
       go_quiet (fail)
       go_wp2_with fail
       go_ret2
       exact ⟨.inl ⟨HNO.out, rfl⟩, HBQ.out _⟩
      | true =>
       obtain _ | m := k
       ·have HNO := Lib.hid (runR_none (HST.out.trans (by rw [HS1.out, if_neg (fun h => by have := h.2.1; rw [HSL.out] at this; omega)]; rfl)))
        go_quiet (fail)
        go_wp2_with fail
        go_ret2
        exact ⟨.inl ⟨HNO.out, rfl⟩, HBQ.out _⟩
       ·have hm1 : ¬ (m : Int) + 1 < 1 := by omega
        have hm1' : decide ((m : Int) + 1 < 1) = false := by simpa using hm1
        have hmL : m < ls.length := by rw [HSL.out]; omega
        obtain ⟨g, hg, hcc, hc⟩ := own_at HO3.out m hmL
        subst hg
        clear hcc
        have hv := HLE.out m hmL
        obtain ⟨v, hvv⟩ : ∃ v, v = ls[m] := ⟨_, rfl⟩
        rw [← hvv] at hc hv
        have hgd : ls.getD (ls.length - 1) 0 = v := by
         rw [HSL.out, Nat.add_sub_cancel, List.getD_eq_getElem?_getD, List.getElem?_eq_getElem hmL, hvv]; rfl
        have hmx : ((m + 1 : Nat) : Int) - 1 = m := by omega
        have HS1 := Lib.hid (show stepR (nameB kwsL) ls ⟨op, nn, var, attr, xa, xb⟩ = if true = true ∧ 1 ≤ m + 1 ∧ xb = (m : Int) ∧ 1 ≤ v ∧ xa = (v : Int) - 1 then ls[v - 1]? else none by
         rw [HS1.out, ← HB.out, hgd, HSL.out, hmx])
        have hw1 : IntKind.i64.wrap ((m : Int) + 1 - 1) = m := by rw [IntKind.wrap_i64]; omega
        have hm2 : (0 : Int) ≤ m := by omega
        have hm3 : (m : Int) < m + 1 := by omega
        have HVL := Lib.hid hv
        clear hv hvv hgd hmx
        by_cases hA : xb = (m : Int)
        rotate_left
        ·have HNO := Lib.hid (runR_none (HST.out.trans (by rw [HS1.out, if_neg (fun h => hA h.2.2.1)]; rfl)))
         have hA1 : (xb == (m : Int)) = false := by simpa using hA
         have hA2 : (xb != (m : Int)) = true := by simpa using hA
         clear hA
         go_quiet (fail)
         go_wp2_with fail
         go_ret2
         exact ⟨.inl ⟨HNO.out, rfl⟩, HBQ.out _⟩
        subst hA
        obtain _ | u := v
        ·have HNO := Lib.hid (runR_none (HST.out.trans (by rw [HS1.out, if_neg (fun h => absurd h.2.2.2.1 (by omega))]; rfl)))
         go_quiet (fail)
         go_wp2_with fail
         go_ret2
         exact ⟨.inl ⟨HNO.out, rfl⟩, HBQ.out _⟩
        have hv1 : ¬ (u : Int) + 1 < 1 := by omega
        have hv1' : decide ((u : Int) + 1 < 1) = false := by simpa using hv1
        have hw2 : IntKind.i64.wrap ((u : Int) + 1 - 1) = u := by rw [IntKind.wrap_i64]; have := HVL.out; omega
        have hu1 : ((u + 1 : Nat) : Int) - 1 = u := by omega
        have hw3 : wrap64 (u : Int) = u := by have := HVL.out; unfold wrap64; omega
        rw [hu1] at HS1
        by_cases hA : xa = (u : Int)
        rotate_left
        ·have HNO := Lib.hid (runR_none (HST.out.trans (by rw [HS1.out, if_neg (fun h => hA h.2.2.2.2)]; rfl)))
         have hA1 : (xa == (u : Int)) = false := by simpa using hA
         have hA2 : (xa != (u : Int)) = true := by simpa using hA
         clear hA
         go_quiet (fail)
         go_wp2_with fail
         go_ret2
         exact ⟨.inl ⟨HNO.out, rfl⟩, HBQ.out _⟩
        subst hA
        have huL : u < ls.length := by rw [HSL.out]; have := HVL.out; omega
        obtain ⟨g', hg', hcc, hd⟩ := own_at HO3.out u huL
        cases hg'
        clear hcc
        have hx := HLE.out u huL
        obtain ⟨v, hvv⟩ : ∃ v, v = ls[u] := ⟨_, rfl⟩
        rw [← hvv] at hd hx
        have HOK := Lib.hid (show stepR (nameB kwsL) ls ⟨op, nn, var, attr, (u : Int), (m : Int)⟩ = some v by
         rw [HS1.out, if_pos ⟨rfl, by omega, rfl, by omega, rfl⟩, Nat.add_sub_cancel, List.getElem?_eq_getElem huL, hvv])
        have HV2 := Lib.hid (show v ≤ m + 1 by have := HVL.out; omega)
        have hu2 : (0 : Int) ≤ u := by omega
        have hu3 : (u : Int) < m + 1 := by have := HVL.out; omega
        clear hvv hx
        go_quiet (fail)
        go_wp2_with (first | (at_builtin; refine wpList_append_one (w3.drewN nq) rfl _ _ 59 rfl w.heap.size 3 i0 _ 1 8 Tryz.underlying59 hi0.out hz0.out hs0.out hy0.out rfl (by decide) (.slice (some ⟨g, 0, none⟩) (m + 1) c') (m + 1) (NZ ls) #[.int .i64 (v : Int)] rfl (show (w3.drewN nq).ownsRow w.heap.size 3 1 _ _ _ from HO3.out) rfl rfl (by intro z hz; simp at hz; subst hz; rfl) (by unfold maxLen; omega) (by omega) (show w.heap.size ≤ (w3.drewN nq).heap.size from hbs) ?_; intro a4 c4 w4 ho4 hb4 hm4) | fail)
        go_roundw
        case rel => exact ⟨m + 1 + 1, ls ++ [v], a4, c4, HKS.out, by go_num, rfl, by rw [← nz_push]; exact ho4, HST.out.trans (by rw [HOK.out]; rfl), by rw [List.length_append, HSL.out]; rfl, le_push HLE.out HSL.out HV2.out, (HBQ.out _).trans hb4⟩
        case measure => exact HME.out
  ·have hke : k = n := by omega
   subst hke
   have hk' : ¬ (k : Int) < k := by omega
   have hfin : runR (nameB kwsL) t [] = some ls := by
    rw [List.take_of_length_le (by rw [hn]; exact Nat.le_refl _)] at hrun
    exact hrun
   have HF := Lib.hid hfin
   have HOWN := Lib.hid hown
   have HST := Lib.hid hst
   clear hrun hown hbw hfin hst hle
   go_wp2_with fail
   go_ret2
   exact ⟨.inr ⟨ls, a', c', HF.out, HST.out, rfl, HOWN.out⟩, HBW.out⟩
theorem treeR_some {nm : Str → Bool} {t : List Nd} {ls : List Nat} (h : runR nm t [] = some ls) (hl : ls.length = t.length) (m : Nat) (hm : t.length = m + 1) : treeR nm t = (ls.getD m 0 == 0) := by
 unfold treeR
 rw [h]
 have : t.isEmpty = false := by cases t with
  | nil => cases hm
  | cons _ _ => rfl
 simp only [this, hl, hm, Nat.add_sub_cancel, Bool.not_false, Bool.true_and]
theorem treeR_none {nm : Str → Bool} {t : List Nd} (h : runR nm t [] = none) : treeR nm t = false := by unfold treeR; rw [h]
set_option maxHeartbeats 2000000 in
theorem rtree_any (a : Option Addr) (c n : Nat) (t : List Nd) (w : World) (hn : t.length = n) (hN : n ≤ 10000000) (hk : Kw w) (h : RdN w a t) :
  Calls Tryz.prog 107 #[.slice a n c] w fun e w' => e = .returned (.bool (treeR (nameB kwsL) t)) ∧ Below w.heap.size w w' := by
 have HN := Lib.hid hn
 have hb := rbegins_any a c n t w hn hN hk h
 clear hk h hn
 go_enter Tryz.func107, Tryz.ntmps107
 go_wp2_with fail
 refine hb.mono ?_
 rintro e w1 ⟨h1 | ⟨ls, a', c', h1, h2, h3, h4⟩, hb1⟩
 ·obtain ⟨h1, rfl⟩ := h1
  have HNO := Lib.hid (treeR_none h1)
  have HB := Lib.hid hb1
  clear h1 hb1
  go_wp2_with fail
  go_ret
  exact ⟨by rw [HNO.out]; rfl, HB.out⟩
 ·subst h3
  have HB := Lib.hid hb1
  obtain _ | m := n
  ·have HNO := Lib.hid (show treeR (nameB kwsL) t = false by
    have : t = [] := List.eq_nil_of_length_eq_zero HN.out
    rw [this]; rfl)
   clear h1 h2 h4 hb1
   go_wp2_with fail
   go_ret
   exact ⟨by rw [HNO.out]; rfl, HB.out⟩
  ·have hmL : m < ls.length := by omega
   obtain ⟨g, hg, hcc, hc⟩ := own_at h4 m hmL
   subst hg
   clear hcc
   have HT := Lib.hid (treeR_some h1 (by rw [h2, HN.out]) m HN.out)
   have hgd : ls.getD m 0 = ls[m] := by rw [List.getD_eq_getElem?_getD, List.getElem?_eq_getElem hmL]; rfl
   obtain ⟨v, hv⟩ : ∃ v, v = ls[m] := ⟨_, rfl⟩
   rw [← hv] at hc hgd
   rw [hgd] at HT
   have hm1 : ¬ ((m : Int) + 1) ≤ 0 := by omega
   have hm2 : (0 : Int) ≤ m := by omega
   have hm3 : (m : Int) < m + 1 := by omega
   have hm4 : (0 : Int) < m + 1 := by omega
   clear h1 h2 h4 hb1 hv hgd
   go_wp2_with fail
   go_ret
   refine ⟨?_, HB.out⟩
   rw [HT.out]
   refine (show Ending.returned (.bool ((v : Int) == 0)) = _ from ret_val (congrArg Value.bool ?_))
   rw [Bool.eq_iff_iff]
   simp
end Go.Proofs.YtfglgpbjjpoimaaGreatDoor
