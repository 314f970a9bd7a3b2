/- SaveEncodes: the tokens of a query can be written (plain). -/
import Derived.Test.YtfglgpbjjpoimaaGreatDoorSwGI
import Derived.Test.YtfglgpbjjpoimaaGreatDoorSwGH
import Derived.Handy
set_option linter.unusedVariables false
namespace Go.Proofs.YtfglgpbjjpoimaaGreatDoor
open Go.RowKit Sv
def I64' (n : Int) : Prop := -9223372036854775808 ≤ n ∧ n ≤ 9223372036854775807
def TkB (t : Tk) : Prop := (0 ≤ t.kind ∧ t.kind ≤ 100) ∧ t.text.length ≤ 16 ∧ I64' t.n
theorem TkB.ok {t : Tk} (h : TkB t) : TkOK t := ⟨h.1, h.2.2⟩
theorem TkB.len {t : Tk} (h : TkB t) : (spell fmtI t).length ≤ 100 := by
 unfold spell
 split
 ·have := h.2.1; omega
 ·split
  ·have := Lib.itoa_length_le t.n h.2.2.1 h.2.2.2
   unfold fmtI; omega
  ·split
   ·rw [List.getD_eq_getElem?_getD]
    have hs : ∀ v ∈ spellsL, v.length ≤ 2 := by decide
    cases hq : spellsL[t.kind.toNat]? with
    | none => simp
    | some v => have := hs v (List.mem_of_getElem? hq); show v.length ≤ 100; omega
   ·split
    ·rw [List.getD_eq_getElem?_getD]
     have hs : ∀ v ∈ kwsL, v.length ≤ 9 := by decide
     cases hq : kwsL[(t.kind - 30).toNat]? with
     | none => simp
     | some v => have := hs v (List.mem_of_getElem? hq); show v.length ≤ 100; omega
    ·simp
def AllB (l : List Tk) : Prop := ∀ t ∈ l, TkB t
theorem AllB.nil : AllB [] := fun t h => by cases h
theorem AllB.cons {t : Tk} {l : List Tk} (h : TkB t) (hl : AllB l) : AllB (t :: l) := fun u hu => by
 rcases List.mem_cons.1 hu with rfl | hu
 ·exact h
 ·exact hl u hu
theorem AllB.append {a b : List Tk} (h : AllB a) (h' : AllB b) : AllB (a ++ b) := fun u hu => by
 rcases List.mem_append.1 hu with hu | hu
 ·exact h u hu
 ·exact h' u hu
theorem tkB_tk {k : Int} (h : 0 ≤ k ∧ k ≤ 100) : TkB (tk k) := ⟨h, by simp [tk], by simp [tk, I64']⟩
theorem tkB_num {n : Int} (h : I64' n) : TkB (num n) := ⟨by simp [num], by simp [num], h⟩
theorem tkB_nme {s : Str} (h : s.length ≤ 16) : TkB (nme s) := ⟨by simp [nme], h, by simp [nme, I64']⟩
/-- A node's fields are small. -/
def NdB (x : Nd) : Prop := x.var.length ≤ 16 ∧ x.attr.length ≤ 16 ∧ I64' x.n
theorem leafT_b {x : Nd} (h1 : 1 ≤ x.op ∧ x.op ≤ 11) (h : NdB x) : AllB (leafT x) := by
 obtain ⟨hv, ha, hn⟩ := h
 have hf : AllB (fieldT x) := .cons (tkB_nme hv) (.cons (tkB_tk (by omega)) (.cons (tkB_nme ha) .nil))
 unfold leafT
 split
 ·exact .cons (tkB_num hn) .nil
 ·split
  ·exact .cons (tkB_tk (by omega)) .nil
  ·split
   ·exact .cons (tkB_tk (by omega)) .nil
   ·split
    ·exact .cons (tkB_tk (by omega)) (.cons (tkB_tk (by omega)) (.cons (tkB_nme hv) (.cons (tkB_tk (by omega)) .nil)))
    ·split
     ·exact hf
     ·exact .append (.append (.cons (tkB_tk (by omega)) (.cons (tkB_tk (by omega)) .nil)) hf) (.cons (tkB_tk (by omega)) .nil)
theorem sgn_range (o : Int) : 0 ≤ sgn o ∧ sgn o ≤ 100 := by
 unfold sgn
 rw [List.getD_eq_getElem?_getD]
 have h : ∀ v ∈ signsL, 0 ≤ v ∧ v ≤ 100 := by decide
 cases hq : signsL[(o - 12).toNat]? with
 | none => decide
 | some v => exact h v (List.mem_of_getElem? hq)
theorem par_b {l : List Tk} (h : AllB l) : AllB (tk 3 :: (l ++ [tk 4])) := .cons (tkB_tk (by omega)) (.append h (.cons (tkB_tk (by omega)) .nil))
theorem bodyT_b {t : List Nd} (ht : ∀ x ∈ t, NdB x) {o : Nat} {e : Ex} (h : Sh t o e) : AllB (bodyT e) := by
 induction h with
 | leaf h hop ha hb => exact leafT_b (by
   unfold opsP at hop
   split at hop
   ·assumption
   ·split at hop
    ·cases hop
    ·split at hop <;> cases hop) (ht _ (List.mem_of_getElem? h))
 | one he h hop ha hb ih =>
  unfold bodyT
  refine .cons (tkB_tk (sgn_range _)) ?_
  split
  ·exact par_b ih
  ·exact ih
 | two he hf h hop ha hb ih1 ih2 =>
  unfold bodyT
  refine .append ?_ (.cons (tkB_tk (sgn_range _)) ?_)
  ·split
   ·exact par_b ih1
   ·exact ih1
  ·split
   ·exact par_b ih2
   ·exact ih2
theorem toksT_b {t : List Nd} (ht : ∀ x ∈ t, NdB x) {o : Nat} {e : Ex} (h : Sh t o e) (n : Int) : AllB (toksT n e) := by
 unfold toksT
 split
 ·exact par_b (bodyT_b ht h)
 ·exact bodyT_b ht h
theorem runP_fields {nm : Str → Bool} : ∀ (t : List Nd) (i : Nat) (st st' : List Nat), runP nm t i st = some st' → ∀ x ∈ t, fieldsP nm x = true := by
 intro t
 induction t with
 | nil => intro i st st' _ x hx; cases hx
 | cons y t ih =>
  intro i st st' h x hx
  rw [runP] at h
  cases hs : stepP nm i st y with
  | none => rw [hs] at h; cases h
  | some s2 =>
   rw [hs, Option.bind_some] at h
   rcases List.mem_cons.1 hx with rfl | hx
   ·unfold stepP at hs
    split at hs
    ·assumption
    ·cases hs
   ·exact ih _ _ _ h x hx
theorem tree_fields {nm : Str → Bool} {t : List Nd} (h : treeB nm t = true) : ∀ x ∈ t, fieldsP nm x = true := by
 unfold treeB at h
 split at h
 ·rename_i he; exact runP_fields t 0 [] _ he
 ·cases h
theorem node_small {x : Nd} (h : fieldsP (nameB kwsL) x = true) (hn : I64' x.n) : NdB x := by
 unfold fieldsP at h
 simp only [Bool.and_eq_true] at h
 obtain ⟨⟨_, h2⟩, h3⟩ := h
 have hnm : ∀ s : Str, nameB kwsL s = true → s.length ≤ 16 := fun s h => by
  unfold nameB at h
  simp only [Bool.and_eq_true, decide_eq_true_eq] at h
  exact h.1.1.1.2
 have he : ∀ s : Str, s.isEmpty = true → s.length ≤ 16 := fun s h => by rw [List.isEmpty_iff] at h; rw [h]; simp
 refine ⟨?_, ?_, hn⟩
 ·split at h2
  ·exact hnm _ h2
  ·exact he _ h2
 ·split at h3
  ·exact hnm _ h3
  ·exact he _ h3
/-- All the numbers of a query lie in the machine's range. -/
structure QI (q : Qy) : Prop where
 within : I64' q.within
 items : ∀ x ∈ q.items, I64' x.lo ∧ I64' x.hi
 wher : ∀ x ∈ q.wher, I64' x.n
 ret : ∀ t ∈ q.ret, ∀ x ∈ t, I64' x.n
theorem loopT_b {α : Type} {F : α → List Tk} {sep : Nat → List Tk} (hs : ∀ i, AllB (sep i)) : ∀ (l : List α) (i : Nat), (∀ x ∈ l, AllB (F x)) → AllB (loopT F sep l i) := by
 intro l
 induction l with
 | nil => intro i _; exact .nil
 | cons x l ih =>
  intro i h
  exact .append (.append (hs i) (h x (by simp))) (ih _ fun y hy => h y (List.mem_cons_of_mem _ hy))
theorem typesT_b : ∀ (l : List Str) (i : Nat), (∀ s ∈ l, s.length ≤ 16) → AllB (typesT l i) := by
 intro l
 induction l with
 | nil => intro i _; exact .nil
 | cons s l ih =>
  intro i h
  refine .append ?_ (.cons (tkB_nme (h s (by simp))) (ih _ fun y hy => h y (List.mem_cons_of_mem _ hy)))
  unfold barT
  split
  ·exact .cons (tkB_tk (by omega)) .nil
  ·exact .nil
theorem nm16 {s : Str} (h : nameB kwsL s = true) : s.length ≤ 16 := by
 unfold nameB at h
 simp only [Bool.and_eq_true, decide_eq_true_eq] at h
 exact h.1.1.1.2
theorem itemT_b {x : It} (h : shapedIt (nameB kwsL) x = true) (hi : I64' x.lo ∧ I64' x.hi) : AllB (itemT x) := by
 unfold shapedIt at h
 simp only [Bool.and_eq_true] at h
 obtain ⟨⟨⟨⟨⟨_, h2⟩, h3⟩, _⟩, _⟩, _⟩ := h
 rw [List.all_eq_true] at h2
 have hv := nm16 h3
 have hm : ∀ k : Int, 0 ≤ k ∧ k ≤ 100 → AllB (manyT x k) := fun k hk => by
  unfold manyT
  split
  ·exact .cons (tkB_tk hk) .nil
  ·exact .nil
 unfold itemT
 refine .append ?_ (.append (hm 3 (by omega)) (.append (typesT_b _ _ fun s hs => nm16 (h2 s hs)) (.append (hm 4 (by omega)) ?_)))
 ·split
  ·exact .cons (tkB_tk (by omega)) .nil
  ·exact .nil
 ·unfold tailT
  split
  ·exact .cons (tkB_nme hv) .nil
  ·split
   ·exact .cons (tkB_tk (by omega)) (.cons (tkB_nme hv) .nil)
   ·exact .cons (tkB_nme hv) (.cons (tkB_tk (by omega)) (.cons (tkB_num hi.1) (.cons (tkB_tk (by omega)) (.cons (tkB_num hi.2) (.cons (tkB_tk (by omega)) .nil)))))
theorem queryT_b {q : Qy} {w : Option Ex} {r : List Ex} (h : shapedQ (nameB kwsL) q = true) (hi : QI q) (ht : TreesOf q w r) : AllB (queryT q w r) := by
 unfold shapedQ at h
 simp only [Bool.and_eq_true, Bool.or_eq_true, decide_eq_true_eq] at h
 obtain ⟨⟨⟨⟨⟨⟨⟨⟨⟨_, m0⟩, m2⟩, a0⟩, a3⟩, _⟩, hit⟩, hw⟩, hby⟩, hret⟩ := h
 rw [List.all_eq_true] at hit hret
 have t3 : ∀ k : Int, 0 ≤ k ∧ k ≤ 100 → TkB (tk k) := fun k hk => tkB_tk hk
 unfold queryT
 refine .append (.cons (t3 _ (by omega)) (.cons (t3 _ (by omega)) (.cons (t3 _ (by omega)) .nil))) (.append ?_ (.cons (t3 _ (by omega)) (.append ?_ (.append ?_ (.append ?_ (.append ?_ (.append ?_ ?_)))))))
 ·refine loopT_b (fun i => ?_) _ _ fun x hx => itemT_b (hit x hx) (hi.items x hx)
  unfold commaT
  split
  ·exact .cons (t3 _ (by omega)) .nil
  ·exact .nil
 ·unfold modeT
  split
  ·exact .nil
  ·exact .cons (t3 _ (by omega)) (.cons (t3 _ (by omega)) .nil)
 ·unfold afterT
  split
  ·exact .nil
  ·refine .cons (t3 _ (by omega)) (.cons (t3 _ ?_) .nil)
   rw [List.getD_eq_getElem?_getD]
   have h : ∀ v ∈ aftersL, 0 ≤ v ∧ v ≤ 100 := by decide
   cases hq : aftersL[q.after.toNat]? with
   | none => decide
   | some v => exact h v (List.mem_of_getElem? hq)
 ·unfold whereT
  split
  ·exact .nil
  ·rename_i e
   have hne : q.wher ≠ [] := fun he => by have := ht.none_ he; cases this
   obtain ⟨e', he, hs, _⟩ := ht.some_ hne
   cases he
   have htr : treeB (nameB kwsL) q.wher = true := by
    rcases hw with hw | hw
    ·exact absurd (List.isEmpty_iff.1 hw) hne
    ·exact hw
   exact .cons (t3 _ (by omega)) (toksT_b (fun x hx => node_small (tree_fields htr x hx) (hi.wher x hx)) hs 0)
 ·exact .cons (t3 _ (by omega)) (.cons (tkB_num hi.within) .nil)
 ·unfold byT
  split
  ·exact .nil
  ·rename_i hb
   refine .cons (t3 _ (by omega)) (.cons (t3 _ (by omega)) (.cons (tkB_nme ?_) .nil))
   rcases hby with hb2 | hb2
   ·exact absurd hb2 hb
   ·exact nm16 hb2
 ·refine loopT_b (fun i => ?_) _ _ fun e he => ?_
  ·unfold retT
   split
   ·exact .cons (t3 _ (by omega)) .nil
   ·exact .cons (t3 _ (by omega)) .nil
  ·obtain ⟨i, hi2, rfl⟩ := List.getElem_of_mem he
   have hi3 : i < q.ret.length := by rw [← ht.len]; exact hi2
   have hs := (ht.rets i hi3 hi2).1
   have hm := List.getElem_mem hi3
   exact toksT_b (fun x hx => node_small (tree_fields (hret _ hm) x hx) (hi.ret _ hm x hx)) hs 0
theorem joinT_ne (q : Qy) (w : Option Ex) (r : List Ex) : joinT fmtI (queryT q w r) ≠ [] := by
 have : queryT q w r = tk 30 :: tk 31 :: (queryT q w r).drop 2 := rfl
 rw [this]
 unfold joinT
 intro h
 have h2 := congrArg List.length h
 simp at h2
/-- What the writer holds in the end can be written. -/
theorem query_ok {q : Qy} {w : Option Ex} {r : List Ex} (h : shapedQ (nameB kwsL) q = true) (hi : QI q) (ht : TreesOf q w r) (hl : (queryS q w r ⟨[], 0, 0⟩).out.length ≤ 400) :
  (∀ t ∈ (queryS q w r ⟨[], 0, 0⟩).out, TkOK t) ∧ (∀ t ∈ (queryS q w r ⟨[], 0, 0⟩).out, (spell fmtI t).length ≤ 100) ∧ joinT fmtI (queryS q w r ⟨[], 0, 0⟩).out ≠ [] := by
 have hw := query_w q w r
 have hout : (queryS q w r ⟨[], 0, 0⟩).out = queryT q w r := by
  by_cases hb : (queryT q w r).length ≤ 400
  ·rw [hw.fits ⟨[], 0, 0⟩ (Nat.le_refl _) (by simpa using hb)]; simp
  ·have := hw.over ⟨[], 0, 0⟩ (Nat.le_refl _) (by simp; omega)
   omega
 rw [hout]
 have hb := queryT_b h hi ht
 exact ⟨fun t ht => (hb t ht).ok, fun t ht => (hb t ht).len, joinT_ne q w r⟩
end Go.Proofs.YtfglgpbjjpoimaaGreatDoor
/- SaveEncodes: the reference's level, operand. -/
set_option linter.unusedVariables false
namespace Go.Proofs.YtfglgpbjjpoimaaGreatDoor
open Go.RowKit Sv
theorem bs_append (a b : Str) : (⟨a.toArray⟩ : ByteArray) ++ ⟨b.toArray⟩ = ⟨(a ++ b).toArray⟩ := by
 apply ByteArray.ext
 simp [ByteArray.data_append]
theorem bal {base : Nat} {w w' : World} (h : Below base w w') (hb : base ≤ w.heap.size) (o : Obj) : Below base w (w'.alloc o) := h.alloc (Nat.le_trans hb h.size) o
theorem rlevel_any (o : Int) (ho : o ≤ 26) (w : World) : Calls Tryz.prog 129 #[.int .i64 o] w fun e w' => e = .returned (.int .i64 (lev o)) ∧ w' = w := by
 by_cases h : o < 12
 ·have hv : lev o = 8 := if_pos h
  rw [hv]
  clear hv
  have h26 : (o == 26) = false := by simp; omega
  have h25 : (o == 25) = false := by simp; omega
  have h13 : (o == 13) = false := by simp; omega
  have h14 : (o == 14) = false := by simp; omega
  have h15 : (o == 15) = false := by simp; omega
  have h16 : (o == 16) = false := by simp; omega
  have h17 : (o == 17) = false := by simp; omega
  have h18 : (o == 18) = false := by simp; omega
  have h12 : (o == 12) = false := by simp; omega
  have h19 : ¬ 19 ≤ o := by omega
  go_enter Tryz.func129, Tryz.ntmps129
  go_wp2_with fail
  go_ret
  exact ⟨rfl, rfl⟩
 ·have : o = 12 ∨ o = 13 ∨ o = 14 ∨ o = 15 ∨ o = 16 ∨ o = 17 ∨ o = 18 ∨ o = 19 ∨ o = 20 ∨ o = 21 ∨ o = 22 ∨ o = 23 ∨ o = 24 ∨ o = 25 ∨ o = 26 := by omega
  rcases this with rfl | rfl | rfl | rfl | rfl | rfl | rfl | rfl | rfl | rfl | rfl | rfl | rfl | rfl | rfl
  all_goals (
   go_enter Tryz.func129, Tryz.ntmps129
   go_wp2_with fail
   go_ret
   exact ⟨rfl, rfl⟩)
def tlc (x : Tl) : List Value := [T x.text, .int .i64 x.toks, .int .i64 x.deep]
def tlv (x : Tl) : Value := .agg (tlc x).toArray
/-- What is told is no longer than a trillion. -/
def Sm (m : Nat) (x : Tl) : Prop := x.text.length ≤ m ∧ x.toks ≤ m ∧ x.deep ≤ m
set_option maxHeartbeats 1000000 in
theorem roperand_any (x : Tl) (o n : Int) (ho : o ≤ 26) (w : World) (hx : Sm 1000000000000 x) : Calls Tryz.prog 128 #[tlv x, .int .i64 o, .int .i64 n] w fun e w' => e = .returned (tlv (operandR x o n)) ∧ Below w.heap.size w w' := by
 obtain ⟨tx, tk, dp⟩ := x
 obtain ⟨h1, h2, h3⟩ := hx
 dsimp only at h1 h2 h3
 simp only [tlv, tlc, T]
 by_cases hl : n ≤ lev o
 ·have HO := Lib.hid (show operandR ⟨tx, tk, dp⟩ o n = ⟨tx, tk, dp⟩ from if_pos hl)
  go_enter Tryz.func128, Tryz.ntmps128
  go_wp2_with fail
  refine (rlevel_any o ho _).mono ?_
  rintro e w1 ⟨rfl, rfl⟩
  go_wp2_with fail
  go_returns
  exact ⟨by first | (rw [HO.out]; done) | (rw [HO.out]; simp [bs_append]), bal (bal (Below.refl w.heap.size w) (Nat.le_refl _) _) (Nat.le_refl _) _⟩
 ·have HO := Lib.hid (show operandR ⟨tx, tk, dp⟩ o n = ⟨[40, 32] ++ tx ++ [32, 41], tk + 2, dp + 1⟩ from if_neg hl)
  have hA1 : ¬ 9223372036854775807 < 2 + tx.length := by omega
  have hA2 : ¬ 9223372036854775807 < 2 + tx.length + 2 := by omega
  go_enter Tryz.func128, Tryz.ntmps128
  go_wp2_with fail
  refine (rlevel_any o ho _).mono ?_
  rintro e w1 ⟨rfl, rfl⟩
  go_wp2_with fail
  go_returns
  exact ⟨by first | (rw [HO.out]; done) | (rw [HO.out]; simp [bs_append]), bal (bal (Below.refl w.heap.size w) (Nat.le_refl _) _) (Nat.le_refl _) _⟩
end Go.Proofs.YtfglgpbjjpoimaaGreatDoor
