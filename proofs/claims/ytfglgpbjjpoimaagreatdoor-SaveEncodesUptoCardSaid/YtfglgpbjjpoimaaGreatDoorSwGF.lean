/- SaveEncodes: nodes in memory; operands, fields. -/
import Derived.Test.YtfglgpbjjpoimaaGreatDoorSwGE
import Derived.Deep.QuietTactic
import Derived.BigQuiet
set_option linter.unusedVariables false
namespace Go.Proofs.YtfglgpbjjpoimaaGreatDoor
open Go.RowKit Sv
def ndc (x : Nd) : List Value := [.int .i64 x.op, .int .i64 x.n, T x.var, T x.attr, .int .i64 x.a, .int .i64 x.b]
def ndcs (l : List Nd) : List Value := l.flatMap ndc
def RdN (w : World) (a : Option Addr) (l : List Nd) : Prop := Rd w a (ndcs l)
theorem RdN.below {w w' : World} {a : Option Addr} {l : List Nd} (h : RdN w a l) (hb : Below w.heap.size w w') : RdN w' a l := Rd.below h hb
theorem RdN.at {w : World} {a : Option Addr} {l : List Nd} (h : RdN w a l) (i : Nat) (hi : i < l.length) :
  ∃ b off, a = some ⟨b, off, none⟩ ∧ w.cell? ⟨b, off + i * 6, none⟩ = some (.int .i64 l[i].op) ∧ w.cell? ⟨b, off + i * 6 + 1, none⟩ = some (.int .i64 l[i].n) ∧ w.cell? ⟨b, off + i * 6 + 2, none⟩ = some (T l[i].var) ∧ w.cell? ⟨b, off + i * 6 + 3, none⟩ = some (T l[i].attr) ∧ w.cell? ⟨b, off + i * 6 + 4, none⟩ = some (.int .i64 l[i].a) ∧ w.cell? ⟨b, off + i * 6 + 5, none⟩ = some (.int .i64 l[i].b) := by
 obtain ⟨b, off, e, hc⟩ := Rd.piece (f := ndc) (n := 6) (fun _ => rfl) h i hi (by omega)
 exact ⟨b, off, e, hc 0 (by omega), hc 1 (by omega), hc 2 (by omega), hc 3 (by omega), hc 4 (by omega), hc 5 (by omega)⟩
theorem operands_any (o : Int) (w : World) : Calls Tryz.prog 116 #[.int .i64 o] w fun e w' => e = .returned (.int .i64 (opsP o)) ∧ w' = w := by
  have hcl : (opsP o = 0 ∧ 1 ≤ o ∧ o ≤ 11) ∨ (opsP o = 1 ∧ (o = 12 ∨ o = 13)) ∨ (opsP o = 2 ∧ 14 ≤ o ∧ o ≤ 26) ∨ (opsP o = -1 ∧ (o < 1 ∨ 26 < o)) := by
    unfold opsP
    repeat' split
    all_goals omega
  by_cases k1 : 1 ≤ o <;> by_cases k2 : o ≤ 11 <;> by_cases k3 : o = 12 <;> by_cases k4 : o = 13 <;> by_cases k5 : 14 ≤ o <;> by_cases k6 : o ≤ 26 <;> first | (exfalso; omega) | skip
  all_goals (
    rcases hcl with ⟨h1, h2⟩ | ⟨h1, h2⟩ | ⟨h1, h2⟩ | ⟨h1, h2⟩ <;> first | (exfalso; omega) | (
      rw [h1]
      clear h1 h2
      first
        | subst k3
        | subst k4
        | (have k3' : (o == 12) = false := by simpa using k3
           have k4' : (o == 13) = false := by simpa using k4
           clear k3 k4)
      go_enter Tryz.func116, Tryz.ntmps116
      go_wp2
      go_ret
      exact ⟨rfl, rfl⟩))
theorem Blk.drew {w : World} {g : Nat} {t : TypeId} {cs : List Value} (h : Blk w g t cs) : Blk w.drew g t cs := h
set_option maxHeartbeats 2000000 in
theorem fields_any (x : Nd) (w : World) (hk : Kw w) : Calls Tryz.prog 117 #[.agg (ndc x).toArray] w fun e w' => e = .returned (.bool (fieldsP (nameB kwsL) x)) ∧ Below w.heap.size w w' := by
 obtain ⟨op, n, var, attr, a, b⟩ := x
 simp only [ndc, T]
 obtain ⟨w0, hw0⟩ : ∃ w0, w0 = w.alloc (.cells #[.int .i64 op, .int .i64 n, .string ⟨var.toArray⟩, .string ⟨attr.toArray⟩, .int .i64 a, .int .i64 b] 102) := ⟨_, rfl⟩
 have hb0 : Below w.heap.size w w0 := by rw [hw0]; exact (Below.refl _ _).alloc (Nat.le_refl _) _
 have hE0 : Blk w0 w.heap.size 102 [.int .i64 op, .int .i64 n, .string ⟨var.toArray⟩, .string ⟨attr.toArray⟩, .int .i64 a, .int .i64 b] := by rw [hw0]; exact Blk.new w _ 102
 have HK := Lib.hid (hk.below hb0)
 have c0 := hE0.ci 0 rfl
 have HE := Lib.hid hE0
 have HB0 := Lib.hid hb0
 clear hb0 hE0 hk
 have hcl : (op = 1 ∧ fieldsP (nameB kwsL) ⟨op, n, var, attr, a, b⟩ = (decide (0 ≤ n) && var.isEmpty && attr.isEmpty)) ∨
   ((¬ op = 1 ∧ (op < 4 ∨ 11 < op)) ∧ fieldsP (nameB kwsL) ⟨op, n, var, attr, a, b⟩ = (decide (n = 0) && var.isEmpty && attr.isEmpty)) ∨
   (op = 5 ∧ fieldsP (nameB kwsL) ⟨op, n, var, attr, a, b⟩ = (decide (n = 0) && nameB kwsL var && attr.isEmpty)) ∨
   ((4 ≤ op ∧ op ≤ 11 ∧ ¬ op = 5) ∧ fieldsP (nameB kwsL) ⟨op, n, var, attr, a, b⟩ = (decide (n = 0) && nameB kwsL var && nameB kwsL attr)) := by
  have h : op = 1 ∨ (¬ op = 1 ∧ (op < 4 ∨ 11 < op)) ∨ op = 5 ∨ (4 ≤ op ∧ op ≤ 11 ∧ ¬ op = 5) := by omega
  unfold fieldsP
  dsimp only
  rcases h with rfl | h | rfl | h
  ·exact .inl ⟨rfl, by simp⟩
  ·refine .inr (.inl ⟨h, ?_⟩)
   rw [if_neg h.1, if_neg (by omega), if_neg (by omega)]
  ·exact .inr (.inr (.inl ⟨rfl, by simp⟩))
  ·refine .inr (.inr (.inr ⟨h, ?_⟩))
   rw [if_neg (by omega), if_pos (by omega), if_pos (by omega)]
 have hnil : ∀ s : Str, s ≠ [] → (s == []) = false ∧ s.isEmpty = false := fun s h => by cases s with
  | nil => exact absurd rfl h
  | cons a b => exact ⟨rfl, rfl⟩
 have HNIL := Lib.hid hnil
 clear hnil
 go_enter Tryz.func117, Tryz.ntmps117
 rcases hcl with ⟨rfl, hF⟩ | ⟨⟨k1, k2⟩, hF⟩ | ⟨rfl, hF⟩ | ⟨⟨k1, k2, k3⟩, hF⟩
 ·have HF := Lib.hid hF
  clear hF
  go_wp2_with fail
  rw [← hw0]
  clear hw0
  go_quiet (fail)
  have hbd : Below w0.heap.size w0 (w0.drewN nq) := below_draws w0
  have HBD := Lib.hid hbd
  have c1 := (HE.out.below hbd).ci 1 rfl
  have c2 := (HE.out.below hbd).ci 2 rfl
  have c3 := (HE.out.below hbd).ci 3 rfl
  have HKQ := Lib.hid (HK.out.below hbd)
  have HBQ := Lib.hid (HB0.out.trans (hbd.mono HB0.out.size))
  have HEQ := Lib.hid (HE.out.below hbd)
  clear hbd
  by_cases hn : n < 0
  ·have hn0 := Lib.hid hn
   have hq := Lib.hid (show decide (0 ≤ n) = false by simpa using hn)
   go_wp2_with fail
   go_ret
   exact ⟨by rw [HF.out]; rw [hq.out]; simp, HBQ.out⟩
  ·have hq := Lib.hid (show decide (0 ≤ n) = true by simpa using hn)
   have hn1 : 0 ≤ n := by omega
   by_cases hv : var = []
   ·subst hv
    by_cases ha : attr = []
    ·subst ha
     go_wp2_with fail
     go_ret
     exact ⟨by rw [HF.out]; rw [hq.out]; simp, HBQ.out⟩
    ·have ha' := (HNIL.out attr ha).1
     have HA := Lib.hid (HNIL.out attr ha).2
     clear ha
     go_wp2_with fail
     go_ret
     exact ⟨by rw [HF.out, HA.out]; simp, HBQ.out⟩
   ·have hv' := (HNIL.out var hv).1
    have HV := Lib.hid (HNIL.out var hv).2
    clear hv
    go_wp2_with fail
    go_ret
    exact ⟨by rw [HF.out, HV.out]; simp, HBQ.out⟩
 ·have j1 : ¬ (4 ≤ op ∧ op ≤ 11) := by omega
  have j2 : (op == 1) = false := by simpa using k1
  rcases k2 with k2 | k2
  ·have k3 : decide (4 ≤ op) = false := by simp; omega
   clear j1 k1
   have HF := Lib.hid hF
   clear hF
   go_wp2_with fail
   rw [← hw0]
   clear hw0
   go_quiet (fail)
   have hbd : Below w0.heap.size w0 (w0.drewN nq) := below_draws w0
   have HBD := Lib.hid hbd
   have c1 := (HE.out.below hbd).ci 1 rfl
   have c2 := (HE.out.below hbd).ci 2 rfl
   have c3 := (HE.out.below hbd).ci 3 rfl
   have HKQ := Lib.hid (HK.out.below hbd)
   have HBQ := Lib.hid (HB0.out.trans (hbd.mono HB0.out.size))
   have HEQ := Lib.hid (HE.out.below hbd)
   clear hbd
   by_cases hn : ¬ n = 0
   ·have hn0 := Lib.hid hn
    have hq := Lib.hid (show decide (n = 0) = false by simpa using hn)
    have hn1 : (n == 0) = false := by simpa using hn
    go_wp2_with fail
    go_ret
    exact ⟨by rw [HF.out]; rw [hq.out]; simp, HBQ.out⟩
   ·have hn : n = 0 := by omega
    subst hn
    by_cases hv : var = []
    ·subst hv
     by_cases ha : attr = []
     ·subst ha
      go_wp2_with fail
      go_ret
      exact ⟨by rw [HF.out]; simp, HBQ.out⟩
     ·have ha' := (HNIL.out attr ha).1
      have HA := Lib.hid (HNIL.out attr ha).2
      clear ha
      go_wp2_with fail
      go_ret
      exact ⟨by rw [HF.out, HA.out]; simp, HBQ.out⟩
    ·have hv' := (HNIL.out var hv).1
     have HV := Lib.hid (HNIL.out var hv).2
     clear hv
     go_wp2_with fail
     go_ret
     exact ⟨by rw [HF.out, HV.out]; simp, HBQ.out⟩

  ·have k3 : decide (op ≤ 11) = false := by simp; omega
   have k4 : 4 ≤ op := by omega
   clear j1 k1
   have HF := Lib.hid hF
   clear hF
   go_wp2_with fail
   rw [← hw0]
   clear hw0
   go_quiet (fail)
   have hbd : Below w0.heap.size w0 (w0.drewN nq) := below_draws w0
   have HBD := Lib.hid hbd
   have c1 := (HE.out.below hbd).ci 1 rfl
   have c2 := (HE.out.below hbd).ci 2 rfl
   have c3 := (HE.out.below hbd).ci 3 rfl
   have HKQ := Lib.hid (HK.out.below hbd)
   have HBQ := Lib.hid (HB0.out.trans (hbd.mono HB0.out.size))
   have HEQ := Lib.hid (HE.out.below hbd)
   clear hbd
   by_cases hn : ¬ n = 0
   ·have hn0 := Lib.hid hn
    have hq := Lib.hid (show decide (n = 0) = false by simpa using hn)
    have hn1 : (n == 0) = false := by simpa using hn
    go_wp2_with fail
    go_ret
    exact ⟨by rw [HF.out]; rw [hq.out]; simp, HBQ.out⟩
   ·have hn : n = 0 := by omega
    subst hn
    by_cases hv : var = []
    ·subst hv
     by_cases ha : attr = []
     ·subst ha
      go_wp2_with fail
      go_ret
      exact ⟨by rw [HF.out]; simp, HBQ.out⟩
     ·have ha' := (HNIL.out attr ha).1
      have HA := Lib.hid (HNIL.out attr ha).2
      clear ha
      go_wp2_with fail
      go_ret
      exact ⟨by rw [HF.out, HA.out]; simp, HBQ.out⟩
    ·have hv' := (HNIL.out var hv).1
     have HV := Lib.hid (HNIL.out var hv).2
     clear hv
     go_wp2_with fail
     go_ret
     exact ⟨by rw [HF.out, HV.out]; simp, HBQ.out⟩
 ·have HF := Lib.hid hF
  clear hF
  go_wp2_with fail
  rw [← hw0]
  clear hw0
  go_quiet (fail)
  have hbd : Below w0.heap.size w0 (w0.drewN nq) := below_draws w0
  have HBD := Lib.hid hbd
  have c1 := (HE.out.below hbd).ci 1 rfl
  have c2 := (HE.out.below hbd).ci 2 rfl
  have c3 := (HE.out.below hbd).ci 3 rfl
  have HKQ := Lib.hid (HK.out.below hbd)
  have HBQ := Lib.hid (HB0.out.trans (hbd.mono HB0.out.size))
  have HEQ := Lib.hid (HE.out.below hbd)
  clear hbd
  by_cases hn : n = 0
  ·subst hn
   go_wp2_with fail
   refine (isName_any ⟨var.toArray⟩ _ HKQ.out).mono ?_
   rintro e w2 ⟨rfl, hb2⟩
   rw [sl_T]
   have HB2 := Lib.hid (HBQ.out.trans (hb2.mono HBQ.out.size))
   have d3 := (HEQ.out.below hb2).ci 3 rfl
   have hkw2 := HKQ.out.below hb2
   clear hb2 c1 c2 c3
   cases hv : nameB kwsL var with
   | false =>
    have HV := Lib.hid hv
    clear hv
    go_wp2_with fail
    go_ret
    exact ⟨by rw [HF.out, HV.out]; simp, HB2.out⟩
   | true =>
    have HV := Lib.hid hv
    clear hv
    by_cases ha : attr = []
    ·subst ha
     go_wp2_with fail
     go_ret
     exact ⟨by rw [HF.out, HV.out]; simp, HB2.out⟩
    ·have ha' := (HNIL.out attr ha).1
     have HA := Lib.hid (HNIL.out attr ha).2
     clear ha
     go_wp2_with fail
     go_ret
     exact ⟨by rw [HF.out, HA.out]; simp, HB2.out⟩
  ·have hq := Lib.hid (show decide (n = 0) = false by simpa using hn)
   have hn1 : (n == 0) = false := by simpa using hn
   clear hn
   go_wp2_with fail
   go_ret
   exact ⟨by rw [HF.out, hq.out]; simp, HBQ.out⟩
 ·have j1 : ¬ op = 1 := by omega
  have j2 : (op == 1) = false := by simpa using j1
  have j3 : (op == 5) = false := by simpa using k3
  have j4 : (op != 5) = true := by simpa using k3
  clear j1 k3
  have HF := Lib.hid hF
  clear hF
  go_wp2_with fail
  rw [← hw0]
  clear hw0
  go_quiet (fail)
  have hbd : Below w0.heap.size w0 (w0.drewN nq) := below_draws w0
  have HBD := Lib.hid hbd
  have c1 := (HE.out.below hbd).ci 1 rfl
  have c2 := (HE.out.below hbd).ci 2 rfl
  have c3 := (HE.out.below hbd).ci 3 rfl
  have HKQ := Lib.hid (HK.out.below hbd)
  have HBQ := Lib.hid (HB0.out.trans (hbd.mono HB0.out.size))
  have HEQ := Lib.hid (HE.out.below hbd)
  clear hbd
  by_cases hn : n = 0
  ·subst hn
   go_wp2_with fail
   refine (isName_any ⟨var.toArray⟩ _ HKQ.out).mono ?_
   rintro e w2 ⟨rfl, hb2⟩
   rw [sl_T]
   have HB2 := Lib.hid (HBQ.out.trans (hb2.mono HBQ.out.size))
   have d3 := (HEQ.out.below hb2).ci 3 rfl
   have hkw2 := HKQ.out.below hb2
   clear hb2 c1 c2 c3
   cases hv : nameB kwsL var with
   | false =>
    have HV := Lib.hid hv
    clear hv
    go_wp2_with fail
    go_ret
    exact ⟨by rw [HF.out, HV.out]; simp, HB2.out⟩
   | true =>
    have HV := Lib.hid hv
    clear hv
    go_wp2_with fail
    refine (isName_any ⟨attr.toArray⟩ _ hkw2).mono ?_
    rintro e w3 ⟨rfl, hb3⟩
    rw [sl_T]
    have HB3 := Lib.hid (HB2.out.trans (hb3.mono HB2.out.size))
    clear hb3 d3
    cases ha : nameB kwsL attr with
    | false =>
     have HA := Lib.hid ha
     clear ha
     go_wp2_with fail
     go_ret
     exact ⟨by rw [HF.out, HA.out]; simp, HB3.out⟩
    | true =>
     have HA := Lib.hid ha
     clear ha
     go_wp2_with fail
     go_ret
     exact ⟨by rw [HF.out, HV.out, HA.out]; simp, HB3.out⟩
  ·have hq := Lib.hid (show decide (n = 0) = false by simpa using hn)
   have hn1 : (n == 0) = false := by simpa using hn
   clear hn
   go_wp2_with fail
   go_ret
   exact ⟨by rw [HF.out, hq.out]; simp, HBQ.out⟩
end Go.Proofs.YtfglgpbjjpoimaaGreatDoor
/- SaveEncodes: the program's Tree. -/
set_option linter.unusedVariables false
namespace Go.Proofs.YtfglgpbjjpoimaaGreatDoor
open Go.RowKit Sv
theorem ownsRow_take {w : World} {base : Nat} {e : TypeId} {size : Nat} {a : Option Addr} {c n : Nat} {xs : List Value} (h : w.ownsRow base e size (.slice a n c) n xs) (m : Nat) (hm : m ≤ n) :
  w.ownsRow base e size (.slice a m c) m (xs.take (m * size)) := by
 have hle : m * size ≤ n * size := Nat.mul_le_mul_right _ hm
 refine ⟨by rw [List.length_take, h.1]; omega, ?_⟩
 rcases h.2 with ⟨h1, h2⟩ | ⟨g, cap, cur, h1, h2, h3, h4, h5, h6, h7⟩
 ·cases h1
  have : m = 0 := by omega
  subst this
  exact .inl ⟨rfl, rfl⟩
 ·cases h1
  exact .inr ⟨g, c, cur, rfl, h2, h3, by omega, h5, h6, by rw [← h7, List.take_take, Nat.min_eq_left hle]⟩
def NZ (l : List Nat) : List Value := l.map fun (i : Nat) => Z (i : Int)
theorem run_step {nm : Str → Bool} {t : List Nd} {k : Nat} {st : List Nat} (hk : k < t.length) (h : runP nm (t.take k) 0 [] = some st) : runP nm (t.take (k + 1)) 0 [] = stepP nm k st t[k] := by
 rw [take_snoc t k hk, runP_append, h, Option.bind_some, List.length_take, Nat.min_eq_left (by omega), Nat.zero_add, runP]
 cases stepP nm k st t[k] <;> rfl
theorem run_none {nm : Str → Bool} {t : List Nd} {k : Nat} (h : runP nm (t.take k) 0 [] = none) : treeB nm t = false := by
 unfold treeB
 have : runP nm t 0 [] = none := by
  rw [← List.take_append_drop k t, runP_append, h]
  rfl
 rw [this]
theorem own_top {w : World} {base : Nat} {a : Option Addr} {c n : Nat} {st : List Nat} (h : w.ownsRow base 3 1 (.slice a n c) n (NZ st.reverse)) (i : Nat) (hi : i < st.length) :
  ∃ g, a = some ⟨g, 0, none⟩ ∧ n ≤ c ∧ w.cell? ⟨g, n - 1 - i, none⟩ = some (.int .i64 (st[i] : Int)) := by
 have hl : st.length = n := by have := h.1; simpa [NZ] using this
 have hn : 0 < n := by omega
 rcases h.2 with ⟨h1, h2⟩ | ⟨g, cap, cur, h1, h2, h3, h4, h5, h6, h7⟩
 ·omega
 ·cases h1
  refine ⟨g, rfl, h4, ?_⟩
  have h8 := h.cellAt (n - 1 - i) (by omega)
  rw [h8, NZ, List.getElem?_map, List.getElem?_eq_getElem (by rw [List.length_reverse]; omega), List.getElem_reverse]
  simp only [Option.map_some, Z]
  congr 3
  have : st.length - 1 - (n - 1 - i) = i := by omega
  simp only [this]
theorem nz_take (st : List Nat) (j : Nat) (x : Nat) : (NZ st.reverse).take ((st.length - j) * 1) ++ [Z (x : Int)] = NZ (x :: st.drop j).reverse := by
 unfold NZ
 rw [← List.map_take, List.take_reverse]
 simp
 congr 1
 omega
theorem own_cap {w : World} {base : Nat} {e : TypeId} {size : Nat} {a : Option Addr} {c n : Nat} {xs : List Value} (h : w.ownsRow base e size (.slice a n c) n xs) : n ≤ c := by
 rcases h.2 with ⟨h1, h2⟩ | ⟨g, cap, cur, h1, h2, h3, h4, _⟩
 ·omega
 ·cases h1; exact h4
theorem ops_four (o : Int) : opsP o = -1 ∨ opsP o = 0 ∨ opsP o = 1 ∨ opsP o = 2 := by
 unfold opsP
 repeat' split
 all_goals simp
theorem step_nof {nm : Str → Bool} {i : Nat} {st : List Nat} {x : Nd} (h : fieldsP nm x = false) : stepP nm i st x = none := by
 unfold stepP
 rw [if_neg (by rw [h]; simp)]
theorem step_short {nm : Str → Bool} {i : Nat} {st : List Nat} {x : Nd} (h : (st.length : Int) < opsP x.op) : stepP nm i st x = none := by
 unfold stepP
 split
 ·split
  ·omega
  ·split
   ·rename_i h1
    cases st with
    | nil => rfl
    | cons a l => rw [h1, List.length_cons] at h; omega
   ·split
    ·rename_i h1
     match st, h with
     | [], h => rfl
     | [_], h => rfl
     | _ :: _ :: _, h => rw [h1, List.length_cons, List.length_cons] at h; omega
    ·rfl
 ·rfl
theorem nz_cut (st : List Nat) (j : Nat) : (NZ st.reverse).take (st.length - j) = NZ (st.drop j).reverse := by
 unfold NZ
 rw [← List.map_take, List.take_reverse]
 simp
 congr 1
 omega
theorem own_top1 {w : World} {base : Nat} {a : Option Addr} {c p : Nat} {r : List Nat} (h : w.ownsRow base 3 1 (.slice a (r.length + 1) c) (r.length + 1) (NZ (p :: r).reverse)) :
  ∃ g, a = some ⟨g, 0, none⟩ ∧ r.length + 1 ≤ c ∧ w.cell? ⟨g, r.length, none⟩ = some (.int .i64 (p : Int)) ∧ w.ownsRow base 3 1 (.slice a r.length c) r.length (NZ r.reverse) := by
 obtain ⟨g, h1, h2, h3⟩ := own_top h 0 (by simp)
 refine ⟨g, h1, h2, h3, ?_⟩
 have h4 := ownsRow_take h r.length (by omega)
 have h5 := nz_cut (p :: r) 1
 rw [List.length_cons, Nat.add_sub_cancel] at h5
 rw [Nat.mul_one, h5] at h4
 exact h4
theorem own_top2 {w : World} {base : Nat} {a : Option Addr} {c p q : Nat} {r : List Nat} (h : w.ownsRow base 3 1 (.slice a (r.length + 2) c) (r.length + 2) (NZ (q :: p :: r).reverse)) :
  ∃ g, a = some ⟨g, 0, none⟩ ∧ r.length + 2 ≤ c ∧ w.cell? ⟨g, r.length + 1, none⟩ = some (.int .i64 (q : Int)) ∧ w.cell? ⟨g, r.length, none⟩ = some (.int .i64 (p : Int)) ∧ w.ownsRow base 3 1 (.slice a r.length c) r.length (NZ r.reverse) := by
 obtain ⟨g, h1, h2, h3⟩ := own_top h 0 (by simp)
 obtain ⟨g', h1', _, h3'⟩ := own_top h 1 (by simp)
 rw [h1] at h1'
 cases h1'
 refine ⟨g, h1, h2, h3, h3', ?_⟩
 have h4 := ownsRow_take h r.length (by omega)
 have h5 := nz_cut (q :: p :: r) 2
 rw [List.length_cons, List.length_cons] at h5
 rw [show r.length + 1 + 1 - 2 = r.length by omega] at h5
 rw [Nat.mul_one, h5] at h4
 exact h4
set_option maxHeartbeats 4000000 in
set_option maxRecDepth 20000 in
theorem tree_any (a : Option Addr) (c n : Nat) (t : List Nd) (w : World) (hn : t.length = n) (hN : n ≤ 10000000) (hk : Kw w) (h : RdN w a t) :
  Calls Tryz.prog 99 #[.slice a n c] w fun e w' => e = .returned (.bool (treeB (nameB kwsL) t)) ∧ Below w.heap.size w w' := by
 have HN := Lib.hid hn
 have HK := Lib.hid hk
 have HR := Lib.hid h
 obtain ⟨i0, hi9, hz9, hs9, hy9⟩ := info_parts info3
 have hi0 := Lib.hid hi9
 have hz0 := Lib.hid hz9
 have hs0 := Lib.hid hs9
 have hy0 := Lib.hid hy9
 clear hi9 hz9 hs9 hy9 hk h
 go_enter Tryz.func99, Tryz.ntmps99
 go_wp2_with fail
 go_loopw [11, 3] (fun i v wr => ∃ (k : Nat) (st : List Nat) (a' : Option Addr) (c' : Nat), k ≤ n ∧ i = .int .i64 (k : Int) ∧ v = .slice a' st.length c' ∧ wr.ownsRow w.heap.size 3 1 (.slice a' st.length c') st.length (NZ st.reverse) ∧ runP (nameB kwsL) (t.take k) 0 [] = some st ∧ st.length ≤ k ∧ Below w.heap.size w wr) (fun i _ _ => n - (intOf i).toNat)
 case atStart => exact ⟨0, [], none, 0, Nat.zero_le _, rfl, rfl, by simpa [NZ] using World.ownsRow_nil w w.heap.size 3 1, rfl, Nat.zero_le _, Below.refl _ _⟩
 case round =>
  obtain ⟨k, st, a', c', hk, rfl, rfl, hown, hrun, hst, hbw⟩ := hrel
  have HOWN := Lib.hid hown
  have HBW := Lib.hid hbw
  by_cases hlt : k < n
  ·have hkl : k < t.length := by rw [hn]; exact hlt
   obtain ⟨b, off, rfl, e0, e1, e2, e3, e4, e5⟩ := (HR.out.below hbw).at k hkl
   have hlt' : (k : Int) < n := by omega
   have hstep := run_step hkl hrun
   obtain ⟨⟨op, nn, var, attr, xa, xb⟩, hx⟩ : ∃ x, x = t[k] := ⟨_, rfl⟩
   rw [← hx] at e0 e1 e2 e3 e4 e5 hstep
   dsimp only at e0 e1 e2 e3 e4 e5
   rw [T] at e2 e3
   have HST := Lib.hid hstep
   have HME := Lib.hid (meas_lt hlt)
   have HKS := Lib.hid (show k + 1 ≤ n from hlt)
   obtain ⟨wa, hwa⟩ : ∃ wa, wa = wr.alloc (.cells #[.int .i64 op, .int .i64 nn, .string ⟨var.toArray⟩, .string ⟨attr.toArray⟩, .int .i64 xa, .int .i64 xb] 102) := ⟨_, rfl⟩
   obtain ⟨ga, hga⟩ : ∃ ga, ga = wr.heap.size := ⟨_, rfl⟩
   have hka : Blk wa ga 102 [.int .i64 op, .int .i64 nn, .string ⟨var.toArray⟩, .string ⟨attr.toArray⟩, .int .i64 xa, .int .i64 xb] := by rw [hwa, hga]; exact Blk.new wr _ 102
   have hra : Below wr.heap.size wr wa := by rw [hwa]; exact (Below.refl _ _).alloc (Nat.le_refl _) _
   have HKA := Lib.hid hka
   have HBA := Lib.hid (hbw.trans (hra.mono hbw.size))
   have HOA := Lib.hid (ownsRow_below hown hra)
   have hkw := HK.out.below HBA.out
   have HKL := Lib.hid hkl
   clear hstep hrun hown hbw hra hx hn hkl
   go_wp2_with fail
   rw [← hwa, ← hga]
   clear hwa hga e0 e1 e2 e3 e4 e5
   refine (operands_any op wa).mono ?_
   rintro e w2 ⟨rfl, rfl⟩
   have f0 := hka.ci 0 rfl
   have f1 := hka.ci 1 rfl
   have f2 := hka.ci 2 rfl
   have f3 := hka.ci 3 rfl
   have f4 := hka.ci 4 rfl
   have f5 := hka.ci 5 rfl
   -- ROUND
   have hFC := Lib.hid (show Calls Tryz.prog 117 #[.agg #[.int .i64 op, .int .i64 nn, .string ⟨var.toArray⟩, .string ⟨attr.toArray⟩, .int .i64 xa, .int .i64 xb]] w2 _ from fields_any ⟨op, nn, var, attr, xa, xb⟩ w2 hkw)
   have hcap := own_cap HOA.out
   have HLE := Lib.hid hst
   clear hkw hst
   rcases ops_four op with ho | ho | ho | ho
   ·have HNO := Lib.hid (run_none (HST.out.trans (stepP_no (nameB kwsL) k st ⟨op, nn, var, attr, xa, xb⟩ (fun _ => ho))))
    rw [ho]
    go_wp2_with fail
    go_ret
    exact ⟨by rw [HNO.out]; rfl, HBA.out⟩
   ·have HO := Lib.hid ho
    rw [ho]
    clear ho
    have hgt : ¬ (st.length : Int) < 0 := by omega
    have hcap2 : (st.length : Int) ≤ c' := by omega
    go_wp2_with fail
    refine (hFC.out).mono ?_
    rintro e w3 ⟨rfl, hb3⟩
    have HB3 := Lib.hid (HBA.out.trans (hb3.mono HBA.out.size))
    have hOT := ownsRow_below HOA.out hb3
    have f4 := (HKA.out.below hb3).ci 4 rfl
    have f5 := (HKA.out.below hb3).ci 5 rfl
    have hbs := HB3.out.size
    clear hb3
    cases hfp : fieldsP (nameB kwsL) ⟨op, nn, var, attr, xa, xb⟩ with
    | false =>
     have HNO := Lib.hid (run_none (HST.out.trans (step_nof hfp)))
     clear hfp
     go_wp2_with fail
     go_ret
     exact ⟨by rw [HNO.out]; rfl, HB3.out⟩
    | true =>
     have HOT := Lib.hid hOT
     have hs0' := stepP_0 (nameB kwsL) k st ⟨op, nn, var, attr, xa, xb⟩ hfp HO.out
     dsimp only at hs0'
     have HS0 := Lib.hid hs0'
     clear hs0' hfp hOT
     have hstl : st.length ≤ 10000000 := by have := HLE.out; omega
     by_cases hA : xa = -1
     ·by_cases hB : xb = -1
      ·have HOK := Lib.hid (show stepP (nameB kwsL) k st ⟨op, nn, var, attr, xa, xb⟩ = some (k :: st) by rw [HS0.out, if_pos ⟨hA, hB⟩])
       subst hA hB
       go_wp2_with (first | (at_builtin; refine wpList_append_one w3 rfl _ _ 59 rfl w.heap.size 3 i0 _ 1 8 Tryz.underlying59 hi0.out hz0.out hs0.out hy0.out rfl (by decide) (.slice a' st.length c') st.length (NZ st.reverse) #[.int .i64 (k : Int)] rfl HOT.out rfl rfl (by intro z hz; simp at hz; subst hz; rfl) (by unfold maxLen; omega) (by omega) hbs ?_; intro a4 c4 w4 ho4 hb4 hm4) | fail)
       go_roundw
       case rel => exact ⟨k + 1, k :: st, a4, c4, HKS.out, by go_num, rfl, by
        have h1 := ho4
        have h2 : (NZ st.reverse) ++ (#[.int .i64 (k : Int)] : Array Value).toList = NZ (k :: st).reverse := by simp [NZ, Z]
        rw [h2] at h1
        exact h1, HST.out.trans HOK.out, by have := HLE.out; simp only [List.length_cons] at *; omega, HB3.out.trans hb4⟩
       case measure => exact HME.out
      ·have HNO := Lib.hid (run_none (HST.out.trans (show stepP (nameB kwsL) k st ⟨op, nn, var, attr, xa, xb⟩ = none by rw [HS0.out, if_neg (fun h => hB h.2)])))
       have hB' : (xb == -1) = false := by simpa using hB
       subst hA
       go_wp2_with fail
       go_ret
       exact ⟨by rw [HNO.out]; rfl, HB3.out⟩
     ·have HNO := Lib.hid (run_none (HST.out.trans (show stepP (nameB kwsL) k st ⟨op, nn, var, attr, xa, xb⟩ = none by rw [HS0.out, if_neg (fun h => hA h.1)])))
      have hA' : (xa == -1) = false := by simpa using hA
      go_wp2_with fail
      go_ret
      exact ⟨by rw [HNO.out]; rfl, HB3.out⟩
   ·have HO := Lib.hid ho
    rw [ho]
    clear ho
    match st, hcap, HOWN, HOA, HLE, HST with
    | [], hcap, HOWN, HOA, HLE, HST =>
     have HNO := Lib.hid (run_none (HST.out.trans (step_short (st := []) (by show ((0 : Nat) : Int) < opsP op; rw [HO.out]; decide))))
     go_wp2_with fail
     go_ret
     exact ⟨by rw [HNO.out]; rfl, HBA.out⟩
    | p :: r, hcap, HOWN, HOA, HLE, HST =>
     obtain ⟨g, hg, hcc, ht1, hcut⟩ := own_top1 HOA.out
     subst hg
     obtain ⟨m, hm⟩ : ∃ m, m = r.length := ⟨_, rfl⟩
     have HM := Lib.hid hm
     have hstl : m + 1 ≤ 10000000 := by have := HLE.out; simp only [List.length_cons, ← hm] at this; omega
     simp only [List.length_cons, ← hm] at hcap hcc hcut ht1 ⊢
     have hgt : ¬ (((m + 1 : Nat)) : Int) < 1 := by omega
     have hgt2 : ¬ (m : Int) + 1 < 1 := by omega
     have hcap2 : (m : Int) ≤ c' := by omega
     have hm0 : (0 : Int) ≤ m := by omega
     have hm1 : (m : Int) < m + 1 := by omega
     have HCUT := Lib.hid hcut
     clear hm hcut hcap hcc
     go_wp2_with fail
     refine (hFC.out).mono ?_
     rintro e w3 ⟨rfl, hb3⟩
     have HB3 := Lib.hid (HBA.out.trans (hb3.mono HBA.out.size))
     have hOT := ownsRow_below HOA.out hb3
     have f4 := (HKA.out.below hb3).ci 4 rfl
     have f5 := (HKA.out.below hb3).ci 5 rfl
     have hbs := HB3.out.size
     have u1 := (hb3.cell (World.block_lt_of_cell? w2 _ ht1)).trans ht1
     have hcut3 := ownsRow_below HCUT.out hb3
     have HB3B := Lib.hid hb3
     clear hb3 ht1
     cases hfp : fieldsP (nameB kwsL) ⟨op, nn, var, attr, xa, xb⟩ with
     | false =>
      have HNO := Lib.hid (run_none (HST.out.trans (step_nof hfp)))
      clear hfp
      go_wp2_with fail
      go_ret
      exact ⟨by rw [HNO.out]; rfl, HB3.out⟩
     | true =>
      have HOT := Lib.hid hcut3
      have hs1' := stepP_1 (nameB kwsL) k (p :: r) ⟨op, nn, var, attr, xa, xb⟩ hfp HO.out
      dsimp only at hs1'
      have HS0 := Lib.hid hs1'
      clear hs1' hfp hOT hcut3
      by_cases hA : xa = (p : Int)
      ·by_cases hB : xb = -1
       ·have HOK := Lib.hid (show stepP (nameB kwsL) k (p :: r) ⟨op, nn, var, attr, xa, xb⟩ = some (k :: r) by rw [HS0.out, if_pos ⟨hA, hB⟩])
        subst hA hB
        go_wp2_with (first | (at_builtin; refine wpList_append_one w3 rfl _ _ 59 rfl w.heap.size 3 i0 _ 1 8 Tryz.underlying59 hi0.out hz0.out hs0.out hy0.out rfl (by decide) (.slice (some ⟨g, 0, none⟩) m c') m (NZ r.reverse) #[.int .i64 (k : Int)] rfl HOT.out rfl rfl (by intro z hz; simp at hz; subst hz; rfl) (by unfold maxLen; omega) (by omega) hbs ?_; intro a4 c4 w4 ho4 hb4 hm4) | fail)
        go_roundw
        case rel => exact ⟨k + 1, k :: r, a4, c4, HKS.out, by go_num, by rw [List.length_cons, ← HM.out], by
         have h1 := ho4
         have h2 : (NZ r.reverse) ++ (#[.int .i64 (k : Int)] : Array Value).toList = NZ (k :: r).reverse := by simp [NZ, Z]
         rw [h2] at h1
         rw [List.length_cons, ← HM.out]
         exact h1, HST.out.trans HOK.out, by have := HLE.out; simp only [List.length_cons] at this ⊢; omega, HB3.out.trans hb4⟩
        case measure => exact HME.out
       ·have HNO := Lib.hid (run_none (HST.out.trans (show stepP (nameB kwsL) k (p :: r) ⟨op, nn, var, attr, xa, xb⟩ = none by rw [HS0.out, if_neg (fun h => hB h.2)])))
        have hB' : (xb == -1) = false := by simpa using hB
        subst hA
        go_wp2_with fail
        go_ret
        exact ⟨by rw [HNO.out]; rfl, HB3.out⟩
      ·have HNO := Lib.hid (run_none (HST.out.trans (show stepP (nameB kwsL) k (p :: r) ⟨op, nn, var, attr, xa, xb⟩ = none by rw [HS0.out, if_neg (fun h => hA h.1)])))
       have hA' : (xa == (p : Int)) = false := by simpa using hA
       go_wp2_with fail
       go_ret
       exact ⟨by rw [HNO.out]; rfl, HB3.out⟩
   ·have HO := Lib.hid ho
    rw [ho]
    clear ho
    match st, hcap, HOWN, HOA, HLE, HST with
    | [], hcap, HOWN, HOA, HLE, HST =>
     have HNO := Lib.hid (run_none (HST.out.trans (step_short (st := []) (by show ((0 : Nat) : Int) < opsP op; rw [HO.out]; decide))))
     go_wp2_with fail
     go_ret
     exact ⟨by rw [HNO.out]; rfl, HBA.out⟩
    | [q], hcap, HOWN, HOA, HLE, HST =>
     have HNO := Lib.hid (run_none (HST.out.trans (step_short (st := [q]) (by show ((1 : Nat) : Int) < opsP op; rw [HO.out]; decide))))
     go_wp2_with fail
     go_ret
     exact ⟨by rw [HNO.out]; rfl, HBA.out⟩
    | q :: p :: r, hcap, HOWN, HOA, HLE, HST =>
     obtain ⟨g, hg, hcc, ht1, ht2, hcut⟩ := own_top2 HOA.out
     subst hg
     obtain ⟨m, hm⟩ : ∃ m, m = r.length := ⟨_, rfl⟩
     have HM := Lib.hid hm
     have hstl : m + 2 ≤ 10000000 := by have := HLE.out; simp only [List.length_cons, ← hm] at this; omega
     simp only [List.length_cons, ← hm] at hcap hcc hcut ht1 ht2 ⊢
     have hgt : ¬ (((m + 1 + 1 : Nat)) : Int) < 2 := by omega
     have hgt2 : ¬ (m : Int) + 2 < 2 := by omega
     have hcap2 : (m : Int) ≤ c' := by omega
     have hm0 : (0 : Int) ≤ m := by omega
     have hm1 : (m : Int) < m + 1 := by omega
     have HCUT := Lib.hid hcut
     clear hm hcut hcap hcc
     go_wp2_with fail
     refine (hFC.out).mono ?_
     rintro e w3 ⟨rfl, hb3⟩
     have HB3 := Lib.hid (HBA.out.trans (hb3.mono HBA.out.size))
     have hOT := ownsRow_below HOA.out hb3
     have f4 := (HKA.out.below hb3).ci 4 rfl
     have f5 := (HKA.out.below hb3).ci 5 rfl
     have hbs := HB3.out.size
     have u1 := (hb3.cell (World.block_lt_of_cell? w2 _ ht1)).trans ht1
     have u2 := (hb3.cell (World.block_lt_of_cell? w2 _ ht2)).trans ht2
     have hcut3 := ownsRow_below HCUT.out hb3
     have HB3B := Lib.hid hb3
     clear hb3 ht1 ht2
     cases hfp : fieldsP (nameB kwsL) ⟨op, nn, var, attr, xa, xb⟩ with
     | false =>
      have HNO := Lib.hid (run_none (HST.out.trans (step_nof hfp)))
      clear hfp
      go_wp2_with fail
      go_ret
      exact ⟨by rw [HNO.out]; rfl, HB3.out⟩
     | true =>
      have HOT := Lib.hid hcut3
      have hs1' := stepP_2 (nameB kwsL) k (q :: p :: r) ⟨op, nn, var, attr, xa, xb⟩ hfp HO.out
      dsimp only at hs1'
      have HS0 := Lib.hid hs1'
      clear hs1' hfp hOT hcut3
      go_wp2_with fail
      go_quiet (fail)
      have hbq : Below w3.heap.size w3 (w3.drewN nq) := below_draws w3
      have f4 := (HKA.out.below (HB3B.out.trans (hbq.mono HB3B.out.size))).ci 4 rfl
      have f5 := (HKA.out.below (HB3B.out.trans (hbq.mono HB3B.out.size))).ci 5 rfl
      have HBQ := Lib.hid hbq
      clear hbq
      by_cases hA : xa = (p : Int)
      ·by_cases hB : xb = (q : Int)
       ·have HOK := Lib.hid (show stepP (nameB kwsL) k (q :: p :: r) ⟨op, nn, var, attr, xa, xb⟩ = some (k :: r) by rw [HS0.out, if_pos ⟨hA, hB⟩])
        subst hA hB
        go_wp2_with (first | (at_builtin; refine wpList_append_one (w3.drewN nq) rfl _ _ 59 rfl w.heap.size 3 i0 _ 1 8 Tryz.underlying59 hi0.out hz0.out hs0.out hy0.out rfl (by decide) (.slice (some ⟨g, 0, none⟩) m c') m (NZ r.reverse) #[.int .i64 (k : Int)] rfl (ownsRow_below HOT.out HBQ.out) rfl rfl (by intro z hz; simp at hz; subst hz; rfl) (by unfold maxLen; omega) (by omega) (Nat.le_trans hbs HBQ.out.size) ?_; intro a4 c4 w4 ho4 hb4 hm4) | fail)
        go_roundw
        case rel => exact ⟨k + 1, k :: r, a4, c4, HKS.out, by go_num, by rw [List.length_cons, ← HM.out], by
         have h1 := ho4
         have h2 : (NZ r.reverse) ++ (#[.int .i64 (k : Int)] : Array Value).toList = NZ (k :: r).reverse := by simp [NZ, Z]
         rw [h2] at h1
         rw [List.length_cons, ← HM.out]
         exact h1, HST.out.trans HOK.out, by have := HLE.out; simp only [List.length_cons] at this ⊢; omega, (HB3.out.trans (HBQ.out.mono HB3.out.size)).trans hb4⟩
        case measure => exact HME.out
       ·have HNO := Lib.hid (run_none (HST.out.trans (show stepP (nameB kwsL) k (q :: p :: r) ⟨op, nn, var, attr, xa, xb⟩ = none by rw [HS0.out, if_neg (fun h => hB h.2)])))
        have hB' : (xb == (q : Int)) = false := by simpa using hB
        subst hA
        go_wp2_with fail
        go_ret
        exact ⟨by rw [HNO.out]; rfl, HB3.out.trans (HBQ.out.mono HB3.out.size)⟩
      ·have HNO := Lib.hid (run_none (HST.out.trans (show stepP (nameB kwsL) k (q :: p :: r) ⟨op, nn, var, attr, xa, xb⟩ = none by rw [HS0.out, if_neg (fun h => hA h.1)])))
       have hA' : (xa == (p : Int)) = false := by simpa using hA
       go_wp2_with fail
       go_ret
       exact ⟨by rw [HNO.out]; rfl, HB3.out.trans (HBQ.out.mono HB3.out.size)⟩
   -- ROUND END
  ·have hke : k = n := by omega
   subst hke
   have hk' : ¬ (k : Int) < k := by omega
   have hfin : treeB (nameB kwsL) t = decide (st.length = 1) := by
    rw [List.take_of_length_le (by rw [hn]; exact Nat.le_refl _)] at hrun
    unfold treeB
    rw [hrun]
    match st with
    | [] => rfl
    | [_] => rfl
    | _ :: _ :: _ => simp
   have HF := Lib.hid hfin
   clear hrun hown hbw hfin
   go_wp2_with fail
   go_ret
   refine ⟨?_, HBW.out⟩
   rw [HF.out]
   refine (show Ending.returned (.bool ((st.length : Int) == 1)) = _ from ret_val (congrArg Value.bool ?_))
   rw [Bool.eq_iff_iff]
   simp
   omega
end Go.Proofs.YtfglgpbjjpoimaaGreatDoor
