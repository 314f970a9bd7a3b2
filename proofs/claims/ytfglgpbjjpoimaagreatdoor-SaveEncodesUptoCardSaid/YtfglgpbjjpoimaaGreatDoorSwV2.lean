/- SaveEncodes: item. -/
import Derived.Test.YtfglgpbjjpoimaaGreatDoorSwGK
set_option linter.unusedVariables false
namespace Go.Proofs.YtfglgpbjjpoimaaGreatDoor
open Go.RowKit Sv
theorem types_bd : ∀ (l : List Str) (i : Nat) (s : S), (typesS l i s).1.out.length ≤ max s.out.length 401 + 1 ∧ (typesS l i s).1.op = s.op ∧ (typesS l i s).1.deep = s.deep := by
 intro l
 induction l with
 | nil => intro i s; exact ⟨by simp only [typesS]; omega, rfl, rfl⟩
 | cons t r ih =>
  intro i s
  have hbar : (barT i).length ≤ 1 := by unfold barT; split <;> simp
  unfold typesS
  split
  ·refine ⟨?_, rfl, rfl⟩
   simp only [S.add, List.length_append]; omega
  ·rename_i hf
   rw [S.full_iff, S.add_len] at hf
   have h := ih (i + 1) ((s.add (barT i)).add [nme t])
   refine ⟨?_, h.2.1, h.2.2⟩
   have := h.1
   rw [S.add_len, S.add_len] at this
   simp only [List.length_cons, List.length_nil] at this
   omega
theorem tailT_six (x : It) : (tailT x).length ≤ 6 := by
 unfold tailT
 repeat' split
 all_goals simp
theorem manyT_one (x : It) (k : Int) : (manyT x k).length ≤ 1 := by unfold manyT; split <;> simp
theorem item_bd (x : It) (s : S) : (itemS x s).out.length ≤ max s.out.length 401 + 20 ∧ (itemS x s).op = s.op ∧ (itemS x s).deep = s.deep := by
 have h := types_bd x.types 0 (headS x s)
 have hh := headS_eq x s
 have h1 := h.1
 have h2 := h.2.1
 have h3 := h.2.2
 have hl : (headS x s).out.length ≤ s.out.length + 2 := by
  rw [hh, S.add_len, List.length_append]
  have := manyT_one x 3
  split <;> simp <;> omega
 have ho : (headS x s).op = s.op := by rw [hh]; rfl
 have hd : (headS x s).deep = s.deep := by rw [hh]; rfl
 unfold itemS
 cases hq : typesS x.types 0 (headS x s) with
 | mk s' b =>
  rw [hq] at h1 h2 h3
  dsimp only at h1 h2 h3
  have := manyT_one x 4
  have := tailT_six x
  cases b with
  | true => exact ⟨by dsimp only; omega, by dsimp only; omega, by dsimp only; omega⟩
  | false =>
   refine ⟨?_, ?_, ?_⟩
   ·dsimp only; rw [S.add_len, S.add_len]; omega
   ·show s'.op = s.op; omega
   ·show s'.deep = s.deep; omega
theorem Fr.ci {g k : Nat} {w w' : World} {t : TypeId} {cs : List Value} {base : Nat} {s : S} (h : WtP base g s w w') (hk : Blk w k t cs) (ho : Off g k w) : Blk w' k t cs ∧ Off g k w' := h.2.2.blk hk ho
set_option maxHeartbeats 4000000 in
set_option maxRecDepth 20000 in
theorem witem_any (base g : Nat) (x : Im) (s : S) (w : World) (hb : base ≤ w.heap.size) (h : Wt base g s w) (old : ∀ w', Below base w w' → RdS w' x.a x.i.types) (hN : x.i.types.length ≤ 1048576) (o1 : s.out.length ≤ 1000000) :
  Calls Tryz.prog 64 #[.pointer (some ⟨g, 0, none⟩), .agg (imc x).toArray] w (NodeR base g (itemS x.i s) w) := by
 obtain ⟨⟨neg, types, var, lo, hi⟩, a, c⟩ := x
 dsimp only at old hN
 simp only [imc, T]
 have hits : itemS ⟨neg, types, var, lo, hi⟩ s = match typesS types 0 (headS ⟨neg, types, var, lo, hi⟩ s) with
  | (s', true) => s' | (s', false) => (s'.add (manyT ⟨neg, types, var, lo, hi⟩ 4)).add (tailT ⟨neg, types, var, lo, hi⟩) := rfl
 have HIT := Lib.hid hits
 have HOLD := Lib.hid old
 obtain ⟨n, hn⟩ : ∃ n, n = types.length := ⟨_, rfl⟩
 rw [← hn] at hN ⊢
 have HN := Lib.hid hn
 obtain ⟨w0, hw0⟩ : ∃ w0, w0 = w.alloc (.cells #[.bool neg, .slice a n c, .string ⟨var.toArray⟩, .int .i64 lo, .int .i64 hi] 105) := ⟨_, rfl⟩
 have hb0 : Below w.heap.size w w0 := by rw [hw0]; exact (Below.refl _ _).alloc (Nat.le_refl _) _
 have hE0 : Blk w0 w.heap.size 105 [.bool neg, .slice a n c, .string ⟨var.toArray⟩, .int .i64 lo, .int .i64 hi] := by rw [hw0]; exact Blk.new w _ 105
 have hO0 := h.off hb0 w.heap.size (Nat.le_refl _)
 have HP := Lib.hid (WtP.of h hb hb0)
 have c0 := hE0.ci 0 rfl
 have HK := Lib.hid hE0
 have HO := Lib.hid hO0
 obtain ⟨gi, hgi⟩ : ∃ gi, gi = w.heap.size := ⟨_, rfl⟩
 rw [← hgi] at HK HO c0
 clear hits old hn hb0 hE0 hO0 h
 go_enter Tryz.func64, Tryz.ntmps64
 have hhead : ∃ (sh : S) (wh : World), sh = headS ⟨neg, types, var, lo, hi⟩ s ∧ True := ⟨_, w, rfl, trivial⟩
 clear hhead
 cases neg with
 | false =>
  by_cases h1n : 1 < n
  ·have HSH := Lib.hid (show s.add [tk 3] = headS ⟨false, types, var, lo, hi⟩ s by unfold headS manyT; rw [if_pos (show 1 < types.length by rw [← HN.out]; exact h1n)]; rfl)
   have h1i : (1 : Int) < n := by omega
   have c1 := HK.out.ci 1 rfl
   go_wp2_with fail
   rw [← hw0, ← hgi]
   clear hw0 hgi
   refine (mark_any' 3 w0).mono ?_
   rintro e w3 ⟨rfl, hb1⟩
   have HB1 := Lib.hid hb1
   clear hb1
   go_wp2_with fail
   refine (add_after base g s [tk 3] [.int .i64 3, .string ⟨#[]⟩, .int .i64 0, .int .i64 0] 1 w0 w3 (Nat.le_trans hb HP.out.2.1.size) HP.out.1 HB1.out rfl rfl (by omega)).mono ?_
   rintro e w4 ⟨rfl, hp2⟩
   have hk2 := hp2.2.2.blk HK.out HO.out
   have HK := Lib.hid hk2.1
   have HO := Lib.hid hk2.2
   have HP := Lib.hid (HP.out.trans hp2)
   clear hp2 hk2
   have c1 := HK.out.ci 1 rfl
   go_wp2_with fail
   go_loopw [23] (fun i wr => ∃ (k : Nat) (s' : S), k ≤ n ∧ i = .int .i64 (k : Int) ∧ typesS types 0 (s.add [tk 3]) = typesS (types.drop k) k s' ∧ WtP base g s' w wr ∧ Blk wr gi 105 [.bool false, .slice a n c, .string ⟨var.toArray⟩, .int .i64 lo, .int .i64 hi] ∧ Off g gi wr ∧ s'.out.length ≤ max (s.add [tk 3]).out.length 401) (fun i _ => n - (intOf i).toNat)
   case atStart => exact ⟨0, (s.add [tk 3]), Nat.zero_le _, rfl, rfl, HP.out, HK.out, HO.out, by omega⟩
   case round =>
    obtain ⟨k, s', hkn, rfl, hty, hp, hk, ho, hlen⟩ := hrel
    have HTY := Lib.hid hty
    have HP := Lib.hid hp
    have HK := Lib.hid hk
    have HO := Lib.hid ho
    have HSL := Lib.hid (show (s.add [tk 3]).out.length ≤ s.out.length + 2 by simp only [S.add, List.length_append, List.length_cons, List.length_nil]; omega)
    have hlen2 : s'.out.length ≤ 1000002 := by have := HSL.out; omega
    have HLEN := Lib.hid hlen
    clear hty hp ho hlen
    by_cases hlt : k < n
    ·have hkl : k < types.length := by rw [← HN.out]; exact hlt
     obtain ⟨b, off, rfl, hc⟩ := (HOLD.out wr HP.out.2.1).at k hkl
     have hlt' : (k : Int) < n := by omega
     have hdrop : types.drop k = types[k] :: types.drop (k + 1) := List.drop_eq_getElem_cons hkl
     obtain ⟨t, ht⟩ : ∃ t, t = types[k] := ⟨_, rfl⟩
     rw [← ht] at hc hdrop
     rw [T] at hc
     have hty2 : typesS types 0 (s.add [tk 3]) = if (s'.add (barT k)).full = true then (s'.add (barT k), true) else typesS (types.drop (k + 1)) (k + 1) ((s'.add (barT k)).add [nme t]) := by
      rw [HTY.out, hdrop]; rfl
     have HTY2 := Lib.hid hty2
     have HME := Lib.hid (meas_lt hlt)
     have HKS := Lib.hid (show k + 1 ≤ n from hlt)
     clear hdrop hty2 ht hk
     by_cases hk0 : k = 0
     ·have hk0' : ¬ (0 : Int) < k := by omega
      have HBAR := Lib.hid (show s'.add (barT k) = s' by rw [hk0]; exact S.add_nil s')
      have HSB := Lib.hid (show s'.out.length ≤ max (s.add [tk 3]).out.length 401 from HLEN.out)
      clear hk0
      go_wp2_with fail
      refine (full_any base g s' wr HP.out.1).mono ?_
      rintro e wf ⟨rfl, hwf⟩
      subst hwf
      cases hf : s'.full with
      | true =>
       have HF := Lib.hid hf
       clear hf
       go_wp2_with fail
       go_returns
       exact ⟨rfl, by rw [HIT.out, ← HSH.out, HTY2.out, HBAR.out, if_pos HF.out]; exact HP.out⟩
      | false =>
       have HF := Lib.hid hf
       have HLE := Lib.hid (show s'.out.length ≤ 400 by
        have : ¬ s'.full = true := by rw [hf]; simp
        rw [S.full_iff] at this
        omega)
       clear hf
       go_wp2_with fail
       refine (name_any' t _).mono ?_
       rintro e w3 ⟨rfl, hb3⟩
       have HB3 := Lib.hid hb3
       clear hb3
       go_wp2_with fail
       refine (add_after base g s' [nme t] [.int .i64 1, .string ⟨t.toArray⟩, .int .i64 0, .int .i64 0] 1 _ w3 (Nat.le_trans hb HP.out.2.1.size) HP.out.1 HB3.out rfl rfl (by have := HLE.out; omega)).mono ?_
       rintro e w4 ⟨rfl, hp4⟩
       have hk4 := hp4.2.2.blk HK.out HO.out
       have HK4 := Lib.hid hk4.1
       have HO4 := Lib.hid hk4.2
       have HP4 := Lib.hid (HP.out.trans hp4)
       clear hp4 hk4
       go_wp2_with fail
       go_roundw
       case rel => exact ⟨k + 1, s'.add [nme t], HKS.out, by go_num, by rw [HTY2.out, HBAR.out, if_neg (by rw [HF.out]; simp)], HP4.out, HK4.out, HO4.out, by have h1 := HLE.out; rw [S.add_len]; simp only [List.length_cons, List.length_nil]; omega⟩
       case measure => exact HME.out
     ·have hk0' : (0 : Int) < k := by omega
      have HBAR := Lib.hid (show s'.add (barT k) = s'.add [tk 10] by unfold barT; rw [if_pos (by omega)])
      clear hk0
      go_wp2_with fail
      refine (mark_any' 10 wr).mono ?_
      rintro e w1 ⟨rfl, hb1⟩
      have HB1 := Lib.hid hb1
      clear hb1
      go_wp2_with fail
      refine (add_after base g s' [tk 10] [.int .i64 10, .string ⟨#[]⟩, .int .i64 0, .int .i64 0] 1 wr w1 (Nat.le_trans hb HP.out.2.1.size) HP.out.1 HB1.out rfl rfl (by omega)).mono ?_
      rintro e w2 ⟨rfl, hp2⟩
      have hk2 := hp2.2.2.blk HK.out HO.out
      have HK := Lib.hid hk2.1
      have HO := Lib.hid hk2.2
      have HP := Lib.hid (HP.out.trans hp2)
      clear hp2 hk2
      go_wp2_with fail
      refine (full_any base g (s'.add [tk 10]) w2 HP.out.1).mono ?_
      rintro e wf ⟨rfl, hwf⟩
      subst hwf
      cases hf : (s'.add [tk 10]).full with
      | true =>
       have HF := Lib.hid hf
       clear hf
       go_wp2_with fail
       go_returns
       exact ⟨rfl, by rw [HIT.out, ← HSH.out, HTY2.out, HBAR.out, if_pos HF.out]; exact HP.out⟩
      | false =>
       have HF := Lib.hid hf
       have HLE := Lib.hid (show (s'.add [tk 10]).out.length ≤ 400 by
        have : ¬ (s'.add [tk 10]).full = true := by rw [hf]; simp
        rw [S.full_iff] at this
        omega)
       clear hf
       go_wp2_with fail
       refine (name_any' t _).mono ?_
       rintro e w3 ⟨rfl, hb3⟩
       have HB3 := Lib.hid hb3
       clear hb3
       go_wp2_with fail
       refine (add_after base g (s'.add [tk 10]) [nme t] [.int .i64 1, .string ⟨t.toArray⟩, .int .i64 0, .int .i64 0] 1 _ w3 (Nat.le_trans hb HP.out.2.1.size) HP.out.1 HB3.out rfl rfl (by have := HLE.out; omega)).mono ?_
       rintro e w4 ⟨rfl, hp4⟩
       have hk4 := hp4.2.2.blk HK.out HO.out
       have HK4 := Lib.hid hk4.1
       have HO4 := Lib.hid hk4.2
       have HP4 := Lib.hid (HP.out.trans hp4)
       clear hp4 hk4
       go_wp2_with fail
       go_roundw
       case rel => exact ⟨k + 1, (s'.add [tk 10]).add [nme t], HKS.out, by go_num, by rw [HTY2.out, HBAR.out, if_neg (by rw [HF.out]; simp)], HP4.out, HK4.out, HO4.out, by have h1 := HLE.out; rw [S.add_len]; simp only [List.length_cons, List.length_nil]; omega⟩
       case measure => exact HME.out
    ·have hk' : ¬ (k : Int) < n := by omega
     have hty2 : typesS types 0 (s.add [tk 3]) = (s', false) := by rw [HTY.out, List.drop_eq_nil_of_le (by rw [← HN.out]; omega)]; rfl
     have HTY2 := Lib.hid hty2
     have c1 := HK.out.ci 1 rfl
     have c3 := HK.out.ci 3 rfl
     have c4 := HK.out.ci 4 rfl
     clear hty2
     have HM4 := Lib.hid (show s'.add (manyT ⟨false, types, var, lo, hi⟩ 4) = s'.add [tk 4] by unfold manyT; rw [if_pos (by show 1 < types.length; rw [← HN.out]; exact h1n)])
     go_wp2_with fail
     refine (mark_any' 4 wr).mono ?_
     rintro e w1 ⟨rfl, hb1⟩
     have HB1 := Lib.hid hb1
     clear hb1
     go_wp2_with fail
     refine (add_after base g s' [tk 4] [.int .i64 4, .string ⟨#[]⟩, .int .i64 0, .int .i64 0] 1 wr w1 (Nat.le_trans hb HP.out.2.1.size) HP.out.1 HB1.out rfl rfl (by omega)).mono ?_
     rintro e w2 ⟨rfl, hp2⟩
     have hk2 := hp2.2.2.blk HK.out HO.out
     have HK := Lib.hid hk2.1
     have HO := Lib.hid hk2.2
     have HP := Lib.hid (HP.out.trans hp2)
     clear hp2 hk2
     have c2 := HK.out.ci 2 rfl
     have c3 := HK.out.ci 3 rfl
     have c4 := HK.out.ci 4 rfl
     by_cases q1 : lo = 1
     ·subst q1
      by_cases q2 : hi = 1
      ·subst q2
       have HTL := Lib.hid (show tailT ⟨false, types, var, 1, 1⟩ = [nme var] from rfl)
       go_wp2_with fail
       refine (name_any' var _).mono ?_
       rintro e w5 ⟨rfl, hb5⟩
       have HB5 := Lib.hid hb5
       clear hb5
       go_wp2_with fail
       refine (add_after base g (s'.add [tk 4]) [nme var] [.int .i64 1, .string ⟨var.toArray⟩, .int .i64 0, .int .i64 0] 1 _ w5 (Nat.le_trans hb HP.out.2.1.size) HP.out.1 HB5.out rfl rfl (by rw [S.add_len]; simp only [List.length_cons, List.length_nil]; omega)).mono ?_
       rintro e w6 ⟨rfl, hp6⟩
       have HP6 := Lib.hid (HP.out.trans hp6)
       clear hp6
       go_wp2_with fail
       go_returns
       exact ⟨rfl, by rw [HIT.out, ← HSH.out, HTY2.out]; dsimp only; rw [HM4.out, HTL.out]; exact HP6.out⟩
      ·have q2' : (hi == 1) = false := by simpa using q2
       by_cases q4 : hi = 4
       ·subst q4
        have HTL := Lib.hid (show tailT ⟨false, types, var, 1, 4⟩ = [tk 11, nme var] from rfl)
        have e2 := HK.out.drew.ci 2 rfl
        have HBW := Lib.hid (show Below w2.heap.size w2 w2.drew from (Below.refl _ _).drew)
        clear q2
        go_wp2_with fail
        go_region_law (first
         | (go_simp; go_at_call 62; refine (mark_any' 11 _).mono ?_; rintro e w5 ⟨rfl, hb5⟩; (have HBW := Lib.hid (HBW.out.trans (hb5.mono HBW.out.size))); (have f2 := (HK.out.below HBW.out).ci 2 rfl); clear hb5)
         | (go_simp; go_at_call 67; refine (name_any' var _).mono ?_; rintro e w5 ⟨rfl, hb5⟩; (have HBW := Lib.hid (HBW.out.trans (hb5.mono HBW.out.size))); (have f2 := (HK.out.below HBW.out).ci 2 rfl); clear hb5)
         | (go_simp; go_at_call 61; refine (add_after base g (s'.add [tk 4]) [tk 11, nme var] [.int .i64 11, .string ⟨#[]⟩, .int .i64 0, .int .i64 0, .int .i64 1, .string ⟨var.toArray⟩, .int .i64 0, .int .i64 0] 2 w2 _ (Nat.le_trans hb HP.out.2.1.size) HP.out.1 HBW.out rfl rfl (by rw [S.add_len]; simp only [List.length_cons, List.length_nil]; omega)).mono ?_; rintro e w6 ⟨rfl, hp6⟩; (have HP6 := Lib.hid (HP.out.trans hp6)); clear hp6))
        all_goals (
         go_wp2_with fail
         go_returns
         exact ⟨rfl, by rw [HIT.out, ← HSH.out, HTY2.out]; dsimp only; rw [HM4.out, HTL.out]; exact HP6.out⟩)
       ·have q4' : (hi == 4) = false := by simpa using q4
        have HTL := Lib.hid (show tailT ⟨false, types, var, 1, hi⟩ = [nme var, tk 5, num 1, tk 7, num hi, tk 6] by unfold tailT; dsimp only; rw [if_neg (fun h => q2 h.2), if_neg (fun h => q4 h.2)])
        clear q2 q4
        have HBW := Lib.hid (show Below w2.heap.size w2 w2.drew from (Below.refl _ _).drew)
        have e2 := HK.out.drew.ci 2 rfl
        have e3 := HK.out.drew.ci 3 rfl
        have e4 := HK.out.drew.ci 4 rfl
        go_wp2_with fail
        go_region_held3 (fun W => W.cell? ⟨gi, 2, none⟩ = some (.string ⟨var.toArray⟩) ∧ W.cell? ⟨gi, 3, none⟩ = some (.int .i64 1) ∧ W.cell? ⟨gi, 4, none⟩ = some (.int .i64 hi)) (first | exact ⟨e2, e3, e4⟩ | (refine ⟨?_, ?_, ?_⟩ <;> first | assumption | exact f2a _ | exact f3a _ | exact f4a _)) (first
         | (go_at_call 62; refine (mark_any' _ _).mono ?_; rintro e w5 ⟨rfl, hb5⟩; (have HBW := Lib.hid (HBW.out.trans (hb5.mono HBW.out.size))); (have f2 := (HK.out.below HBW.out).ci 2 rfl); (have f3 := (HK.out.below HBW.out).ci 3 rfl); (have f4 := (HK.out.below HBW.out).ci 4 rfl); (have f2a := fun o => ((HK.out.below HBW.out).alloc o).ci 2 rfl); (have f3a := fun o => ((HK.out.below HBW.out).alloc o).ci 3 rfl); (have f4a := fun o => ((HK.out.below HBW.out).alloc o).ci 4 rfl); clear hb5)
         | (go_at_call 67; refine (name_any' var _).mono ?_; rintro e w5 ⟨rfl, hb5⟩; (have HBW := Lib.hid (HBW.out.trans (hb5.mono HBW.out.size))); (have f2 := (HK.out.below HBW.out).ci 2 rfl); (have f3 := (HK.out.below HBW.out).ci 3 rfl); (have f4 := (HK.out.below HBW.out).ci 4 rfl); (have f2a := fun o => ((HK.out.below HBW.out).alloc o).ci 2 rfl); (have f3a := fun o => ((HK.out.below HBW.out).alloc o).ci 3 rfl); (have f4a := fun o => ((HK.out.below HBW.out).alloc o).ci 4 rfl); clear hb5)
         | (go_at_call 66; refine (number_any' _ _).mono ?_; rintro e w5 ⟨rfl, hb5⟩; (have HBW := Lib.hid (HBW.out.trans (hb5.mono HBW.out.size))); (have f2 := (HK.out.below HBW.out).ci 2 rfl); (have f3 := (HK.out.below HBW.out).ci 3 rfl); (have f4 := (HK.out.below HBW.out).ci 4 rfl); (have f2a := fun o => ((HK.out.below HBW.out).alloc o).ci 2 rfl); (have f3a := fun o => ((HK.out.below HBW.out).alloc o).ci 3 rfl); (have f4a := fun o => ((HK.out.below HBW.out).alloc o).ci 4 rfl); clear hb5)
         | (go_at_call 61; refine (add_after base g (s'.add [tk 4]) [nme var, tk 5, num 1, tk 7, num hi, tk 6] [.int .i64 1, .string ⟨var.toArray⟩, .int .i64 0, .int .i64 0, .int .i64 5, .string ⟨#[]⟩, .int .i64 0, .int .i64 0, .int .i64 2, .string ⟨#[]⟩, .int .i64 1, .int .i64 0, .int .i64 7, .string ⟨#[]⟩, .int .i64 0, .int .i64 0, .int .i64 2, .string ⟨#[]⟩, .int .i64 hi, .int .i64 0, .int .i64 6, .string ⟨#[]⟩, .int .i64 0, .int .i64 0] 6 w2 _ (Nat.le_trans hb HP.out.2.1.size) HP.out.1 HBW.out rfl rfl (by rw [S.add_len]; simp only [List.length_cons, List.length_nil]; omega)).mono ?_; rintro e w6 ⟨rfl, hp6⟩; (have hk6 := hp6.2.2.blk HK.out HO.out); (have g2 := hk6.1.ci 2 rfl); (have g3 := hk6.1.ci 3 rfl); (have g4 := hk6.1.ci 4 rfl); (have HP6 := Lib.hid (HP.out.trans hp6)); clear hp6 hk6))
        go_wp2_with fail
        go_returns
        exact ⟨rfl, by rw [HIT.out, ← HSH.out, HTY2.out]; dsimp only; rw [HM4.out, HTL.out]; exact HP6.out⟩
     ·have q1' : (lo == 1) = false := by simpa using q1
      have HTL := Lib.hid (show tailT ⟨false, types, var, lo, hi⟩ = [nme var, tk 5, num lo, tk 7, num hi, tk 6] by unfold tailT; dsimp only; rw [if_neg (fun h => q1 h.1), if_neg (fun h => q1 h.1)])
      clear q1
      have HBW := Lib.hid (show Below w2.heap.size w2 w2.drew from (Below.refl _ _).drew)
      have e2 := HK.out.drew.ci 2 rfl
      have e3 := HK.out.drew.ci 3 rfl
      have e4 := HK.out.drew.ci 4 rfl
      go_wp2_with fail
      go_region_held3 (fun W => W.cell? ⟨gi, 2, none⟩ = some (.string ⟨var.toArray⟩) ∧ W.cell? ⟨gi, 3, none⟩ = some (.int .i64 lo) ∧ W.cell? ⟨gi, 4, none⟩ = some (.int .i64 hi)) (first | exact ⟨e2, e3, e4⟩ | (refine ⟨?_, ?_, ?_⟩ <;> first | assumption | exact f2a _ | exact f3a _ | exact f4a _)) (first
       | (go_at_call 62; refine (mark_any' _ _).mono ?_; rintro e w5 ⟨rfl, hb5⟩; (have HBW := Lib.hid (HBW.out.trans (hb5.mono HBW.out.size))); (have f2 := (HK.out.below HBW.out).ci 2 rfl); (have f3 := (HK.out.below HBW.out).ci 3 rfl); (have f4 := (HK.out.below HBW.out).ci 4 rfl); (have f2a := fun o => ((HK.out.below HBW.out).alloc o).ci 2 rfl); (have f3a := fun o => ((HK.out.below HBW.out).alloc o).ci 3 rfl); (have f4a := fun o => ((HK.out.below HBW.out).alloc o).ci 4 rfl); clear hb5)
       | (go_at_call 67; refine (name_any' var _).mono ?_; rintro e w5 ⟨rfl, hb5⟩; (have HBW := Lib.hid (HBW.out.trans (hb5.mono HBW.out.size))); (have f2 := (HK.out.below HBW.out).ci 2 rfl); (have f3 := (HK.out.below HBW.out).ci 3 rfl); (have f4 := (HK.out.below HBW.out).ci 4 rfl); (have f2a := fun o => ((HK.out.below HBW.out).alloc o).ci 2 rfl); (have f3a := fun o => ((HK.out.below HBW.out).alloc o).ci 3 rfl); (have f4a := fun o => ((HK.out.below HBW.out).alloc o).ci 4 rfl); clear hb5)
       | (go_at_call 66; refine (number_any' _ _).mono ?_; rintro e w5 ⟨rfl, hb5⟩; (have HBW := Lib.hid (HBW.out.trans (hb5.mono HBW.out.size))); (have f2 := (HK.out.below HBW.out).ci 2 rfl); (have f3 := (HK.out.below HBW.out).ci 3 rfl); (have f4 := (HK.out.below HBW.out).ci 4 rfl); (have f2a := fun o => ((HK.out.below HBW.out).alloc o).ci 2 rfl); (have f3a := fun o => ((HK.out.below HBW.out).alloc o).ci 3 rfl); (have f4a := fun o => ((HK.out.below HBW.out).alloc o).ci 4 rfl); clear hb5)
       | (go_at_call 61; refine (add_after base g (s'.add [tk 4]) [nme var, tk 5, num lo, tk 7, num hi, tk 6] [.int .i64 1, .string ⟨var.toArray⟩, .int .i64 0, .int .i64 0, .int .i64 5, .string ⟨#[]⟩, .int .i64 0, .int .i64 0, .int .i64 2, .string ⟨#[]⟩, .int .i64 lo, .int .i64 0, .int .i64 7, .string ⟨#[]⟩, .int .i64 0, .int .i64 0, .int .i64 2, .string ⟨#[]⟩, .int .i64 hi, .int .i64 0, .int .i64 6, .string ⟨#[]⟩, .int .i64 0, .int .i64 0] 6 w2 _ (Nat.le_trans hb HP.out.2.1.size) HP.out.1 HBW.out rfl rfl (by rw [S.add_len]; simp only [List.length_cons, List.length_nil]; omega)).mono ?_; rintro e w6 ⟨rfl, hp6⟩; (have hk6 := hp6.2.2.blk HK.out HO.out); (have g2 := hk6.1.ci 2 rfl); (have g3 := hk6.1.ci 3 rfl); (have g4 := hk6.1.ci 4 rfl); (have HP6 := Lib.hid (HP.out.trans hp6)); clear hp6 hk6))
      go_wp2_with fail
      go_returns
      exact ⟨rfl, by rw [HIT.out, ← HSH.out, HTY2.out]; dsimp only; rw [HM4.out, HTL.out]; exact HP6.out⟩
  ·have HSH := Lib.hid (show s = headS ⟨false, types, var, lo, hi⟩ s by unfold headS manyT; rw [if_neg (show ¬ 1 < types.length by rw [← HN.out]; exact h1n)]; exact (S.add_nil _).symm)
   have h1i : ¬ (1 : Int) < n := by omega
   have c1 := HK.out.ci 1 rfl
   rw [hw0] at c1
   rw [hw0] at c0
   clear c0
   go_wp2_with fail
   rw [← hw0, ← hgi]
   clear hw0 hgi
   go_loopw [23] (fun i wr => ∃ (k : Nat) (s' : S), k ≤ n ∧ i = .int .i64 (k : Int) ∧ typesS types 0 (s) = typesS (types.drop k) k s' ∧ WtP base g s' w wr ∧ Blk wr gi 105 [.bool false, .slice a n c, .string ⟨var.toArray⟩, .int .i64 lo, .int .i64 hi] ∧ Off g gi wr ∧ s'.out.length ≤ max (s).out.length 401) (fun i _ => n - (intOf i).toNat)
   case atStart => exact ⟨0, (s), Nat.zero_le _, rfl, rfl, HP.out, HK.out, HO.out, by omega⟩
   case round =>
    obtain ⟨k, s', hkn, rfl, hty, hp, hk, ho, hlen⟩ := hrel
    have HTY := Lib.hid hty
    have HP := Lib.hid hp
    have HK := Lib.hid hk
    have HO := Lib.hid ho
    have HSL := Lib.hid (show (s).out.length ≤ s.out.length + 2 by omega)
    have hlen2 : s'.out.length ≤ 1000002 := by have := HSL.out; omega
    have HLEN := Lib.hid hlen
    clear hty hp ho hlen
    by_cases hlt : k < n
    ·have hkl : k < types.length := by rw [← HN.out]; exact hlt
     obtain ⟨b, off, rfl, hc⟩ := (HOLD.out wr HP.out.2.1).at k hkl
     have hlt' : (k : Int) < n := by omega
     have hdrop : types.drop k = types[k] :: types.drop (k + 1) := List.drop_eq_getElem_cons hkl
     obtain ⟨t, ht⟩ : ∃ t, t = types[k] := ⟨_, rfl⟩
     rw [← ht] at hc hdrop
     rw [T] at hc
     have hty2 : typesS types 0 (s) = if (s'.add (barT k)).full = true then (s'.add (barT k), true) else typesS (types.drop (k + 1)) (k + 1) ((s'.add (barT k)).add [nme t]) := by
      rw [HTY.out, hdrop]; rfl
     have HTY2 := Lib.hid hty2
     have HME := Lib.hid (meas_lt hlt)
     have HKS := Lib.hid (show k + 1 ≤ n from hlt)
     clear hdrop hty2 ht hk
     by_cases hk0 : k = 0
     ·have hk0' : ¬ (0 : Int) < k := by omega
      have HBAR := Lib.hid (show s'.add (barT k) = s' by rw [hk0]; exact S.add_nil s')
      have HSB := Lib.hid (show s'.out.length ≤ max (s).out.length 401 from HLEN.out)
      clear hk0
      go_wp2_with fail
      refine (full_any base g s' wr HP.out.1).mono ?_
      rintro e wf ⟨rfl, hwf⟩
      subst hwf
      cases hf : s'.full with
      | true =>
       have HF := Lib.hid hf
       clear hf
       go_wp2_with fail
       go_returns
       exact ⟨rfl, by rw [HIT.out, ← HSH.out, HTY2.out, HBAR.out, if_pos HF.out]; exact HP.out⟩
      | false =>
       have HF := Lib.hid hf
       have HLE := Lib.hid (show s'.out.length ≤ 400 by
        have : ¬ s'.full = true := by rw [hf]; simp
        rw [S.full_iff] at this
        omega)
       clear hf
       go_wp2_with fail
       refine (name_any' t _).mono ?_
       rintro e w3 ⟨rfl, hb3⟩
       have HB3 := Lib.hid hb3
       clear hb3
       go_wp2_with fail
       refine (add_after base g s' [nme t] [.int .i64 1, .string ⟨t.toArray⟩, .int .i64 0, .int .i64 0] 1 _ w3 (Nat.le_trans hb HP.out.2.1.size) HP.out.1 HB3.out rfl rfl (by have := HLE.out; omega)).mono ?_
       rintro e w4 ⟨rfl, hp4⟩
       have hk4 := hp4.2.2.blk HK.out HO.out
       have HK4 := Lib.hid hk4.1
       have HO4 := Lib.hid hk4.2
       have HP4 := Lib.hid (HP.out.trans hp4)
       clear hp4 hk4
       go_wp2_with fail
       go_roundw
       case rel => exact ⟨k + 1, s'.add [nme t], HKS.out, by go_num, by rw [HTY2.out, HBAR.out, if_neg (by rw [HF.out]; simp)], HP4.out, HK4.out, HO4.out, by have h1 := HLE.out; rw [S.add_len]; simp only [List.length_cons, List.length_nil]; omega⟩
       case measure => exact HME.out
     ·exfalso; omega
    ·have hk' : ¬ (k : Int) < n := by omega
     have hty2 : typesS types 0 (s) = (s', false) := by rw [HTY.out, List.drop_eq_nil_of_le (by rw [← HN.out]; omega)]; rfl
     have HTY2 := Lib.hid hty2
     have c1 := HK.out.ci 1 rfl
     have c3 := HK.out.ci 3 rfl
     have c4 := HK.out.ci 4 rfl
     clear hty2
     have HM4 := Lib.hid (show s'.add (manyT ⟨false, types, var, lo, hi⟩ 4) = s' by unfold manyT; rw [if_neg (by show ¬ 1 < types.length; rw [← HN.out]; exact h1n)]; exact S.add_nil s')
     have c2 := HK.out.ci 2 rfl
     have c3 := HK.out.ci 3 rfl
     have c4 := HK.out.ci 4 rfl
     by_cases q1 : lo = 1
     ·subst q1
      by_cases q2 : hi = 1
      ·subst q2
       have HTL := Lib.hid (show tailT ⟨false, types, var, 1, 1⟩ = [nme var] from rfl)
       go_wp2_with fail
       refine (name_any' var _).mono ?_
       rintro e w5 ⟨rfl, hb5⟩
       have HB5 := Lib.hid hb5
       clear hb5
       go_wp2_with fail
       refine (add_after base g s' [nme var] [.int .i64 1, .string ⟨var.toArray⟩, .int .i64 0, .int .i64 0] 1 _ w5 (Nat.le_trans hb HP.out.2.1.size) HP.out.1 HB5.out rfl rfl (by omega)).mono ?_
       rintro e w6 ⟨rfl, hp6⟩
       have HP6 := Lib.hid (HP.out.trans hp6)
       clear hp6
       go_wp2_with fail
       go_returns
       exact ⟨rfl, by rw [HIT.out, ← HSH.out, HTY2.out]; dsimp only; rw [HM4.out, HTL.out]; exact HP6.out⟩
      ·have q2' : (hi == 1) = false := by simpa using q2
       by_cases q4 : hi = 4
       ·subst q4
        have HTL := Lib.hid (show tailT ⟨false, types, var, 1, 4⟩ = [tk 11, nme var] from rfl)
        have e2 := HK.out.drew.ci 2 rfl
        have HBW := Lib.hid (show Below wr.heap.size wr wr.drew from (Below.refl _ _).drew)
        clear q2
        go_wp2_with fail
        go_region_law (first
         | (go_simp; go_at_call 62; refine (mark_any' 11 _).mono ?_; rintro e w5 ⟨rfl, hb5⟩; (have HBW := Lib.hid (HBW.out.trans (hb5.mono HBW.out.size))); (have f2 := (HK.out.below HBW.out).ci 2 rfl); clear hb5)
         | (go_simp; go_at_call 67; refine (name_any' var _).mono ?_; rintro e w5 ⟨rfl, hb5⟩; (have HBW := Lib.hid (HBW.out.trans (hb5.mono HBW.out.size))); (have f2 := (HK.out.below HBW.out).ci 2 rfl); clear hb5)
         | (go_simp; go_at_call 61; refine (add_after base g s' [tk 11, nme var] [.int .i64 11, .string ⟨#[]⟩, .int .i64 0, .int .i64 0, .int .i64 1, .string ⟨var.toArray⟩, .int .i64 0, .int .i64 0] 2 wr _ (Nat.le_trans hb HP.out.2.1.size) HP.out.1 HBW.out rfl rfl (by omega)).mono ?_; rintro e w6 ⟨rfl, hp6⟩; (have HP6 := Lib.hid (HP.out.trans hp6)); clear hp6))
        all_goals (
         go_wp2_with fail
         go_returns
         exact ⟨rfl, by rw [HIT.out, ← HSH.out, HTY2.out]; dsimp only; rw [HM4.out, HTL.out]; exact HP6.out⟩)
       ·have q4' : (hi == 4) = false := by simpa using q4
        have HTL := Lib.hid (show tailT ⟨false, types, var, 1, hi⟩ = [nme var, tk 5, num 1, tk 7, num hi, tk 6] by unfold tailT; dsimp only; rw [if_neg (fun h => q2 h.2), if_neg (fun h => q4 h.2)])
        clear q2 q4
        have HBW := Lib.hid (show Below wr.heap.size wr wr.drew from (Below.refl _ _).drew)
        have e2 := HK.out.drew.ci 2 rfl
        have e3 := HK.out.drew.ci 3 rfl
        have e4 := HK.out.drew.ci 4 rfl
        go_wp2_with fail
        go_region_held3 (fun W => W.cell? ⟨gi, 2, none⟩ = some (.string ⟨var.toArray⟩) ∧ W.cell? ⟨gi, 3, none⟩ = some (.int .i64 1) ∧ W.cell? ⟨gi, 4, none⟩ = some (.int .i64 hi)) (first | exact ⟨e2, e3, e4⟩ | (refine ⟨?_, ?_, ?_⟩ <;> first | assumption | exact f2a _ | exact f3a _ | exact f4a _)) (first
         | (go_at_call 62; refine (mark_any' _ _).mono ?_; rintro e w5 ⟨rfl, hb5⟩; (have HBW := Lib.hid (HBW.out.trans (hb5.mono HBW.out.size))); (have f2 := (HK.out.below HBW.out).ci 2 rfl); (have f3 := (HK.out.below HBW.out).ci 3 rfl); (have f4 := (HK.out.below HBW.out).ci 4 rfl); (have f2a := fun o => ((HK.out.below HBW.out).alloc o).ci 2 rfl); (have f3a := fun o => ((HK.out.below HBW.out).alloc o).ci 3 rfl); (have f4a := fun o => ((HK.out.below HBW.out).alloc o).ci 4 rfl); clear hb5)
         | (go_at_call 67; refine (name_any' var _).mono ?_; rintro e w5 ⟨rfl, hb5⟩; (have HBW := Lib.hid (HBW.out.trans (hb5.mono HBW.out.size))); (have f2 := (HK.out.below HBW.out).ci 2 rfl); (have f3 := (HK.out.below HBW.out).ci 3 rfl); (have f4 := (HK.out.below HBW.out).ci 4 rfl); (have f2a := fun o => ((HK.out.below HBW.out).alloc o).ci 2 rfl); (have f3a := fun o => ((HK.out.below HBW.out).alloc o).ci 3 rfl); (have f4a := fun o => ((HK.out.below HBW.out).alloc o).ci 4 rfl); clear hb5)
         | (go_at_call 66; refine (number_any' _ _).mono ?_; rintro e w5 ⟨rfl, hb5⟩; (have HBW := Lib.hid (HBW.out.trans (hb5.mono HBW.out.size))); (have f2 := (HK.out.below HBW.out).ci 2 rfl); (have f3 := (HK.out.below HBW.out).ci 3 rfl); (have f4 := (HK.out.below HBW.out).ci 4 rfl); (have f2a := fun o => ((HK.out.below HBW.out).alloc o).ci 2 rfl); (have f3a := fun o => ((HK.out.below HBW.out).alloc o).ci 3 rfl); (have f4a := fun o => ((HK.out.below HBW.out).alloc o).ci 4 rfl); clear hb5)
         | (go_at_call 61; refine (add_after base g s' [nme var, tk 5, num 1, tk 7, num hi, tk 6] [.int .i64 1, .string ⟨var.toArray⟩, .int .i64 0, .int .i64 0, .int .i64 5, .string ⟨#[]⟩, .int .i64 0, .int .i64 0, .int .i64 2, .string ⟨#[]⟩, .int .i64 1, .int .i64 0, .int .i64 7, .string ⟨#[]⟩, .int .i64 0, .int .i64 0, .int .i64 2, .string ⟨#[]⟩, .int .i64 hi, .int .i64 0, .int .i64 6, .string ⟨#[]⟩, .int .i64 0, .int .i64 0] 6 wr _ (Nat.le_trans hb HP.out.2.1.size) HP.out.1 HBW.out rfl rfl (by omega)).mono ?_; rintro e w6 ⟨rfl, hp6⟩; (have hk6 := hp6.2.2.blk HK.out HO.out); (have g2 := hk6.1.ci 2 rfl); (have g3 := hk6.1.ci 3 rfl); (have g4 := hk6.1.ci 4 rfl); (have HP6 := Lib.hid (HP.out.trans hp6)); clear hp6 hk6))
        go_wp2_with fail
        go_returns
        exact ⟨rfl, by rw [HIT.out, ← HSH.out, HTY2.out]; dsimp only; rw [HM4.out, HTL.out]; exact HP6.out⟩
     ·have q1' : (lo == 1) = false := by simpa using q1
      have HTL := Lib.hid (show tailT ⟨false, types, var, lo, hi⟩ = [nme var, tk 5, num lo, tk 7, num hi, tk 6] by unfold tailT; dsimp only; rw [if_neg (fun h => q1 h.1), if_neg (fun h => q1 h.1)])
      clear q1
      have HBW := Lib.hid (show Below wr.heap.size wr wr.drew from (Below.refl _ _).drew)
      have e2 := HK.out.drew.ci 2 rfl
      have e3 := HK.out.drew.ci 3 rfl
      have e4 := HK.out.drew.ci 4 rfl
      go_wp2_with fail
      go_region_held3 (fun W => W.cell? ⟨gi, 2, none⟩ = some (.string ⟨var.toArray⟩) ∧ W.cell? ⟨gi, 3, none⟩ = some (.int .i64 lo) ∧ W.cell? ⟨gi, 4, none⟩ = some (.int .i64 hi)) (first | exact ⟨e2, e3, e4⟩ | (refine ⟨?_, ?_, ?_⟩ <;> first | assumption | exact f2a _ | exact f3a _ | exact f4a _)) (first
       | (go_at_call 62; refine (mark_any' _ _).mono ?_; rintro e w5 ⟨rfl, hb5⟩; (have HBW := Lib.hid (HBW.out.trans (hb5.mono HBW.out.size))); (have f2 := (HK.out.below HBW.out).ci 2 rfl); (have f3 := (HK.out.below HBW.out).ci 3 rfl); (have f4 := (HK.out.below HBW.out).ci 4 rfl); (have f2a := fun o => ((HK.out.below HBW.out).alloc o).ci 2 rfl); (have f3a := fun o => ((HK.out.below HBW.out).alloc o).ci 3 rfl); (have f4a := fun o => ((HK.out.below HBW.out).alloc o).ci 4 rfl); clear hb5)
       | (go_at_call 67; refine (name_any' var _).mono ?_; rintro e w5 ⟨rfl, hb5⟩; (have HBW := Lib.hid (HBW.out.trans (hb5.mono HBW.out.size))); (have f2 := (HK.out.below HBW.out).ci 2 rfl); (have f3 := (HK.out.below HBW.out).ci 3 rfl); (have f4 := (HK.out.below HBW.out).ci 4 rfl); (have f2a := fun o => ((HK.out.below HBW.out).alloc o).ci 2 rfl); (have f3a := fun o => ((HK.out.below HBW.out).alloc o).ci 3 rfl); (have f4a := fun o => ((HK.out.below HBW.out).alloc o).ci 4 rfl); clear hb5)
       | (go_at_call 66; refine (number_any' _ _).mono ?_; rintro e w5 ⟨rfl, hb5⟩; (have HBW := Lib.hid (HBW.out.trans (hb5.mono HBW.out.size))); (have f2 := (HK.out.below HBW.out).ci 2 rfl); (have f3 := (HK.out.below HBW.out).ci 3 rfl); (have f4 := (HK.out.below HBW.out).ci 4 rfl); (have f2a := fun o => ((HK.out.below HBW.out).alloc o).ci 2 rfl); (have f3a := fun o => ((HK.out.below HBW.out).alloc o).ci 3 rfl); (have f4a := fun o => ((HK.out.below HBW.out).alloc o).ci 4 rfl); clear hb5)
       | (go_at_call 61; refine (add_after base g s' [nme var, tk 5, num lo, tk 7, num hi, tk 6] [.int .i64 1, .string ⟨var.toArray⟩, .int .i64 0, .int .i64 0, .int .i64 5, .string ⟨#[]⟩, .int .i64 0, .int .i64 0, .int .i64 2, .string ⟨#[]⟩, .int .i64 lo, .int .i64 0, .int .i64 7, .string ⟨#[]⟩, .int .i64 0, .int .i64 0, .int .i64 2, .string ⟨#[]⟩, .int .i64 hi, .int .i64 0, .int .i64 6, .string ⟨#[]⟩, .int .i64 0, .int .i64 0] 6 wr _ (Nat.le_trans hb HP.out.2.1.size) HP.out.1 HBW.out rfl rfl (by omega)).mono ?_; rintro e w6 ⟨rfl, hp6⟩; (have hk6 := hp6.2.2.blk HK.out HO.out); (have g2 := hk6.1.ci 2 rfl); (have g3 := hk6.1.ci 3 rfl); (have g4 := hk6.1.ci 4 rfl); (have HP6 := Lib.hid (HP.out.trans hp6)); clear hp6 hk6))
      go_wp2_with fail
      go_returns
      exact ⟨rfl, by rw [HIT.out, ← HSH.out, HTY2.out]; dsimp only; rw [HM4.out, HTL.out]; exact HP6.out⟩
 | true =>
  go_wp2_with fail
  rw [← hw0, ← hgi]
  clear hw0 hgi
  refine (mark_any' 9 w0).mono ?_
  rintro e w1 ⟨rfl, hb1⟩
  have HB1 := Lib.hid hb1
  clear hb1
  go_wp2_with fail
  refine (add_after base g s [tk 9] [.int .i64 9, .string ⟨#[]⟩, .int .i64 0, .int .i64 0] 1 w0 w1 (Nat.le_trans hb HP.out.2.1.size) HP.out.1 HB1.out rfl rfl (by omega)).mono ?_
  rintro e w2 ⟨rfl, hp2⟩
  have hk2 := hp2.2.2.blk HK.out HO.out
  have HK := Lib.hid hk2.1
  have HO := Lib.hid hk2.2
  have HP := Lib.hid (HP.out.trans hp2)
  clear hp2 hk2
  have c1 := HK.out.ci 1 rfl
  by_cases h1n : 1 < n
  ·have HSH := Lib.hid (show (s.add [tk 9]).add [tk 3] = headS ⟨true, types, var, lo, hi⟩ s by unfold headS manyT; rw [if_pos (show 1 < types.length by rw [← HN.out]; exact h1n)]; rfl)
   have h1i : (1 : Int) < n := by omega
   go_wp2_with fail
   refine (mark_any' 3 w2).mono ?_
   rintro e w3 ⟨rfl, hb1⟩
   have HB1 := Lib.hid hb1
   clear hb1
   go_wp2_with fail
   refine (add_after base g (s.add [tk 9]) [tk 3] [.int .i64 3, .string ⟨#[]⟩, .int .i64 0, .int .i64 0] 1 w2 w3 (Nat.le_trans hb HP.out.2.1.size) HP.out.1 HB1.out rfl rfl (by rw [S.add_len]; simp only [List.length_cons, List.length_nil]; omega)).mono ?_
   rintro e w4 ⟨rfl, hp2⟩
   have hk2 := hp2.2.2.blk HK.out HO.out
   have HK := Lib.hid hk2.1
   have HO := Lib.hid hk2.2
   have HP := Lib.hid (HP.out.trans hp2)
   clear hp2 hk2
   have c1 := HK.out.ci 1 rfl
   go_wp2_with fail
   go_loopw [23] (fun i wr => ∃ (k : Nat) (s' : S), k ≤ n ∧ i = .int .i64 (k : Int) ∧ typesS types 0 ((s.add [tk 9]).add [tk 3]) = typesS (types.drop k) k s' ∧ WtP base g s' w wr ∧ Blk wr gi 105 [.bool true, .slice a n c, .string ⟨var.toArray⟩, .int .i64 lo, .int .i64 hi] ∧ Off g gi wr ∧ s'.out.length ≤ max ((s.add [tk 9]).add [tk 3]).out.length 401) (fun i _ => n - (intOf i).toNat)
   case atStart => exact ⟨0, ((s.add [tk 9]).add [tk 3]), Nat.zero_le _, rfl, rfl, HP.out, HK.out, HO.out, by omega⟩
   case round =>
    obtain ⟨k, s', hkn, rfl, hty, hp, hk, ho, hlen⟩ := hrel
    have HTY := Lib.hid hty
    have HP := Lib.hid hp
    have HK := Lib.hid hk
    have HO := Lib.hid ho
    have HSL := Lib.hid (show ((s.add [tk 9]).add [tk 3]).out.length ≤ s.out.length + 2 by simp only [S.add, List.length_append, List.length_cons, List.length_nil]; omega)
    have hlen2 : s'.out.length ≤ 1000002 := by have := HSL.out; omega
    have HLEN := Lib.hid hlen
    clear hty hp ho hlen
    by_cases hlt : k < n
    ·have hkl : k < types.length := by rw [← HN.out]; exact hlt
     obtain ⟨b, off, rfl, hc⟩ := (HOLD.out wr HP.out.2.1).at k hkl
     have hlt' : (k : Int) < n := by omega
     have hdrop : types.drop k = types[k] :: types.drop (k + 1) := List.drop_eq_getElem_cons hkl
     obtain ⟨t, ht⟩ : ∃ t, t = types[k] := ⟨_, rfl⟩
     rw [← ht] at hc hdrop
     rw [T] at hc
     have hty2 : typesS types 0 ((s.add [tk 9]).add [tk 3]) = if (s'.add (barT k)).full = true then (s'.add (barT k), true) else typesS (types.drop (k + 1)) (k + 1) ((s'.add (barT k)).add [nme t]) := by
      rw [HTY.out, hdrop]; rfl
     have HTY2 := Lib.hid hty2
     have HME := Lib.hid (meas_lt hlt)
     have HKS := Lib.hid (show k + 1 ≤ n from hlt)
     clear hdrop hty2 ht hk
     by_cases hk0 : k = 0
     ·have hk0' : ¬ (0 : Int) < k := by omega
      have HBAR := Lib.hid (show s'.add (barT k) = s' by rw [hk0]; exact S.add_nil s')
      have HSB := Lib.hid (show s'.out.length ≤ max ((s.add [tk 9]).add [tk 3]).out.length 401 from HLEN.out)
      clear hk0
      go_wp2_with fail
      refine (full_any base g s' wr HP.out.1).mono ?_
      rintro e wf ⟨rfl, hwf⟩
      subst hwf
      cases hf : s'.full with
      | true =>
       have HF := Lib.hid hf
       clear hf
       go_wp2_with fail
       go_returns
       exact ⟨rfl, by rw [HIT.out, ← HSH.out, HTY2.out, HBAR.out, if_pos HF.out]; exact HP.out⟩
      | false =>
       have HF := Lib.hid hf
       have HLE := Lib.hid (show s'.out.length ≤ 400 by
        have : ¬ s'.full = true := by rw [hf]; simp
        rw [S.full_iff] at this
        omega)
       clear hf
       go_wp2_with fail
       refine (name_any' t _).mono ?_
       rintro e w3 ⟨rfl, hb3⟩
       have HB3 := Lib.hid hb3
       clear hb3
       go_wp2_with fail
       refine (add_after base g s' [nme t] [.int .i64 1, .string ⟨t.toArray⟩, .int .i64 0, .int .i64 0] 1 _ w3 (Nat.le_trans hb HP.out.2.1.size) HP.out.1 HB3.out rfl rfl (by have := HLE.out; omega)).mono ?_
       rintro e w4 ⟨rfl, hp4⟩
       have hk4 := hp4.2.2.blk HK.out HO.out
       have HK4 := Lib.hid hk4.1
       have HO4 := Lib.hid hk4.2
       have HP4 := Lib.hid (HP.out.trans hp4)
       clear hp4 hk4
       go_wp2_with fail
       go_roundw
       case rel => exact ⟨k + 1, s'.add [nme t], HKS.out, by go_num, by rw [HTY2.out, HBAR.out, if_neg (by rw [HF.out]; simp)], HP4.out, HK4.out, HO4.out, by have h1 := HLE.out; rw [S.add_len]; simp only [List.length_cons, List.length_nil]; omega⟩
       case measure => exact HME.out
     ·have hk0' : (0 : Int) < k := by omega
      have HBAR := Lib.hid (show s'.add (barT k) = s'.add [tk 10] by unfold barT; rw [if_pos (by omega)])
      clear hk0
      go_wp2_with fail
      refine (mark_any' 10 wr).mono ?_
      rintro e w1 ⟨rfl, hb1⟩
      have HB1 := Lib.hid hb1
      clear hb1
      go_wp2_with fail
      refine (add_after base g s' [tk 10] [.int .i64 10, .string ⟨#[]⟩, .int .i64 0, .int .i64 0] 1 wr w1 (Nat.le_trans hb HP.out.2.1.size) HP.out.1 HB1.out rfl rfl (by omega)).mono ?_
      rintro e w2 ⟨rfl, hp2⟩
      have hk2 := hp2.2.2.blk HK.out HO.out
      have HK := Lib.hid hk2.1
      have HO := Lib.hid hk2.2
      have HP := Lib.hid (HP.out.trans hp2)
      clear hp2 hk2
      go_wp2_with fail
      refine (full_any base g (s'.add [tk 10]) w2 HP.out.1).mono ?_
      rintro e wf ⟨rfl, hwf⟩
      subst hwf
      cases hf : (s'.add [tk 10]).full with
      | true =>
       have HF := Lib.hid hf
       clear hf
       go_wp2_with fail
       go_returns
       exact ⟨rfl, by rw [HIT.out, ← HSH.out, HTY2.out, HBAR.out, if_pos HF.out]; exact HP.out⟩
      | false =>
       have HF := Lib.hid hf
       have HLE := Lib.hid (show (s'.add [tk 10]).out.length ≤ 400 by
        have : ¬ (s'.add [tk 10]).full = true := by rw [hf]; simp
        rw [S.full_iff] at this
        omega)
       clear hf
       go_wp2_with fail
       refine (name_any' t _).mono ?_
       rintro e w3 ⟨rfl, hb3⟩
       have HB3 := Lib.hid hb3
       clear hb3
       go_wp2_with fail
       refine (add_after base g (s'.add [tk 10]) [nme t] [.int .i64 1, .string ⟨t.toArray⟩, .int .i64 0, .int .i64 0] 1 _ w3 (Nat.le_trans hb HP.out.2.1.size) HP.out.1 HB3.out rfl rfl (by have := HLE.out; omega)).mono ?_
       rintro e w4 ⟨rfl, hp4⟩
       have hk4 := hp4.2.2.blk HK.out HO.out
       have HK4 := Lib.hid hk4.1
       have HO4 := Lib.hid hk4.2
       have HP4 := Lib.hid (HP.out.trans hp4)
       clear hp4 hk4
       go_wp2_with fail
       go_roundw
       case rel => exact ⟨k + 1, (s'.add [tk 10]).add [nme t], HKS.out, by go_num, by rw [HTY2.out, HBAR.out, if_neg (by rw [HF.out]; simp)], HP4.out, HK4.out, HO4.out, by have h1 := HLE.out; rw [S.add_len]; simp only [List.length_cons, List.length_nil]; omega⟩
       case measure => exact HME.out
    ·have hk' : ¬ (k : Int) < n := by omega
     have hty2 : typesS types 0 ((s.add [tk 9]).add [tk 3]) = (s', false) := by rw [HTY.out, List.drop_eq_nil_of_le (by rw [← HN.out]; omega)]; rfl
     have HTY2 := Lib.hid hty2
     have c1 := HK.out.ci 1 rfl
     have c3 := HK.out.ci 3 rfl
     have c4 := HK.out.ci 4 rfl
     clear hty2
     have HM4 := Lib.hid (show s'.add (manyT ⟨true, types, var, lo, hi⟩ 4) = s'.add [tk 4] by unfold manyT; rw [if_pos (by show 1 < types.length; rw [← HN.out]; exact h1n)])
     go_wp2_with fail
     refine (mark_any' 4 wr).mono ?_
     rintro e w1 ⟨rfl, hb1⟩
     have HB1 := Lib.hid hb1
     clear hb1
     go_wp2_with fail
     refine (add_after base g s' [tk 4] [.int .i64 4, .string ⟨#[]⟩, .int .i64 0, .int .i64 0] 1 wr w1 (Nat.le_trans hb HP.out.2.1.size) HP.out.1 HB1.out rfl rfl (by omega)).mono ?_
     rintro e w2 ⟨rfl, hp2⟩
     have hk2 := hp2.2.2.blk HK.out HO.out
     have HK := Lib.hid hk2.1
     have HO := Lib.hid hk2.2
     have HP := Lib.hid (HP.out.trans hp2)
     clear hp2 hk2
     have c2 := HK.out.ci 2 rfl
     have c3 := HK.out.ci 3 rfl
     have c4 := HK.out.ci 4 rfl
     by_cases q1 : lo = 1
     ·subst q1
      by_cases q2 : hi = 1
      ·subst q2
       have HTL := Lib.hid (show tailT ⟨true, types, var, 1, 1⟩ = [nme var] from rfl)
       go_wp2_with fail
       refine (name_any' var _).mono ?_
       rintro e w5 ⟨rfl, hb5⟩
       have HB5 := Lib.hid hb5
       clear hb5
       go_wp2_with fail
       refine (add_after base g (s'.add [tk 4]) [nme var] [.int .i64 1, .string ⟨var.toArray⟩, .int .i64 0, .int .i64 0] 1 _ w5 (Nat.le_trans hb HP.out.2.1.size) HP.out.1 HB5.out rfl rfl (by rw [S.add_len]; simp only [List.length_cons, List.length_nil]; omega)).mono ?_
       rintro e w6 ⟨rfl, hp6⟩
       have HP6 := Lib.hid (HP.out.trans hp6)
       clear hp6
       go_wp2_with fail
       go_returns
       exact ⟨rfl, by rw [HIT.out, ← HSH.out, HTY2.out]; dsimp only; rw [HM4.out, HTL.out]; exact HP6.out⟩
      ·have q2' : (hi == 1) = false := by simpa using q2
       by_cases q4 : hi = 4
       ·subst q4
        have HTL := Lib.hid (show tailT ⟨true, types, var, 1, 4⟩ = [tk 11, nme var] from rfl)
        have e2 := HK.out.drew.ci 2 rfl
        have HBW := Lib.hid (show Below w2.heap.size w2 w2.drew from (Below.refl _ _).drew)
        clear q2
        go_wp2_with fail
        go_region_law (first
         | (go_simp; go_at_call 62; refine (mark_any' 11 _).mono ?_; rintro e w5 ⟨rfl, hb5⟩; (have HBW := Lib.hid (HBW.out.trans (hb5.mono HBW.out.size))); (have f2 := (HK.out.below HBW.out).ci 2 rfl); clear hb5)
         | (go_simp; go_at_call 67; refine (name_any' var _).mono ?_; rintro e w5 ⟨rfl, hb5⟩; (have HBW := Lib.hid (HBW.out.trans (hb5.mono HBW.out.size))); (have f2 := (HK.out.below HBW.out).ci 2 rfl); clear hb5)
         | (go_simp; go_at_call 61; refine (add_after base g (s'.add [tk 4]) [tk 11, nme var] [.int .i64 11, .string ⟨#[]⟩, .int .i64 0, .int .i64 0, .int .i64 1, .string ⟨var.toArray⟩, .int .i64 0, .int .i64 0] 2 w2 _ (Nat.le_trans hb HP.out.2.1.size) HP.out.1 HBW.out rfl rfl (by rw [S.add_len]; simp only [List.length_cons, List.length_nil]; omega)).mono ?_; rintro e w6 ⟨rfl, hp6⟩; (have HP6 := Lib.hid (HP.out.trans hp6)); clear hp6))
        all_goals (
         go_wp2_with fail
         go_returns
         exact ⟨rfl, by rw [HIT.out, ← HSH.out, HTY2.out]; dsimp only; rw [HM4.out, HTL.out]; exact HP6.out⟩)
       ·have q4' : (hi == 4) = false := by simpa using q4
        have HTL := Lib.hid (show tailT ⟨true, types, var, 1, hi⟩ = [nme var, tk 5, num 1, tk 7, num hi, tk 6] by unfold tailT; dsimp only; rw [if_neg (fun h => q2 h.2), if_neg (fun h => q4 h.2)])
        clear q2 q4
        have HBW := Lib.hid (show Below w2.heap.size w2 w2.drew from (Below.refl _ _).drew)
        have e2 := HK.out.drew.ci 2 rfl
        have e3 := HK.out.drew.ci 3 rfl
        have e4 := HK.out.drew.ci 4 rfl
        go_wp2_with fail
        go_region_held3 (fun W => W.cell? ⟨gi, 2, none⟩ = some (.string ⟨var.toArray⟩) ∧ W.cell? ⟨gi, 3, none⟩ = some (.int .i64 1) ∧ W.cell? ⟨gi, 4, none⟩ = some (.int .i64 hi)) (first | exact ⟨e2, e3, e4⟩ | (refine ⟨?_, ?_, ?_⟩ <;> first | assumption | exact f2a _ | exact f3a _ | exact f4a _)) (first
         | (go_at_call 62; refine (mark_any' _ _).mono ?_; rintro e w5 ⟨rfl, hb5⟩; (have HBW := Lib.hid (HBW.out.trans (hb5.mono HBW.out.size))); (have f2 := (HK.out.below HBW.out).ci 2 rfl); (have f3 := (HK.out.below HBW.out).ci 3 rfl); (have f4 := (HK.out.below HBW.out).ci 4 rfl); (have f2a := fun o => ((HK.out.below HBW.out).alloc o).ci 2 rfl); (have f3a := fun o => ((HK.out.below HBW.out).alloc o).ci 3 rfl); (have f4a := fun o => ((HK.out.below HBW.out).alloc o).ci 4 rfl); clear hb5)
         | (go_at_call 67; refine (name_any' var _).mono ?_; rintro e w5 ⟨rfl, hb5⟩; (have HBW := Lib.hid (HBW.out.trans (hb5.mono HBW.out.size))); (have f2 := (HK.out.below HBW.out).ci 2 rfl); (have f3 := (HK.out.below HBW.out).ci 3 rfl); (have f4 := (HK.out.below HBW.out).ci 4 rfl); (have f2a := fun o => ((HK.out.below HBW.out).alloc o).ci 2 rfl); (have f3a := fun o => ((HK.out.below HBW.out).alloc o).ci 3 rfl); (have f4a := fun o => ((HK.out.below HBW.out).alloc o).ci 4 rfl); clear hb5)
         | (go_at_call 66; refine (number_any' _ _).mono ?_; rintro e w5 ⟨rfl, hb5⟩; (have HBW := Lib.hid (HBW.out.trans (hb5.mono HBW.out.size))); (have f2 := (HK.out.below HBW.out).ci 2 rfl); (have f3 := (HK.out.below HBW.out).ci 3 rfl); (have f4 := (HK.out.below HBW.out).ci 4 rfl); (have f2a := fun o => ((HK.out.below HBW.out).alloc o).ci 2 rfl); (have f3a := fun o => ((HK.out.below HBW.out).alloc o).ci 3 rfl); (have f4a := fun o => ((HK.out.below HBW.out).alloc o).ci 4 rfl); clear hb5)
         | (go_at_call 61; refine (add_after base g (s'.add [tk 4]) [nme var, tk 5, num 1, tk 7, num hi, tk 6] [.int .i64 1, .string ⟨var.toArray⟩, .int .i64 0, .int .i64 0, .int .i64 5, .string ⟨#[]⟩, .int .i64 0, .int .i64 0, .int .i64 2, .string ⟨#[]⟩, .int .i64 1, .int .i64 0, .int .i64 7, .string ⟨#[]⟩, .int .i64 0, .int .i64 0, .int .i64 2, .string ⟨#[]⟩, .int .i64 hi, .int .i64 0, .int .i64 6, .string ⟨#[]⟩, .int .i64 0, .int .i64 0] 6 w2 _ (Nat.le_trans hb HP.out.2.1.size) HP.out.1 HBW.out rfl rfl (by rw [S.add_len]; simp only [List.length_cons, List.length_nil]; omega)).mono ?_; rintro e w6 ⟨rfl, hp6⟩; (have hk6 := hp6.2.2.blk HK.out HO.out); (have g2 := hk6.1.ci 2 rfl); (have g3 := hk6.1.ci 3 rfl); (have g4 := hk6.1.ci 4 rfl); (have HP6 := Lib.hid (HP.out.trans hp6)); clear hp6 hk6))
        go_wp2_with fail
        go_returns
        exact ⟨rfl, by rw [HIT.out, ← HSH.out, HTY2.out]; dsimp only; rw [HM4.out, HTL.out]; exact HP6.out⟩
     ·have q1' : (lo == 1) = false := by simpa using q1
      have HTL := Lib.hid (show tailT ⟨true, types, var, lo, hi⟩ = [nme var, tk 5, num lo, tk 7, num hi, tk 6] by unfold tailT; dsimp only; rw [if_neg (fun h => q1 h.1), if_neg (fun h => q1 h.1)])
      clear q1
      have HBW := Lib.hid (show Below w2.heap.size w2 w2.drew from (Below.refl _ _).drew)
      have e2 := HK.out.drew.ci 2 rfl
      have e3 := HK.out.drew.ci 3 rfl
      have e4 := HK.out.drew.ci 4 rfl
      go_wp2_with fail
      go_region_held3 (fun W => W.cell? ⟨gi, 2, none⟩ = some (.string ⟨var.toArray⟩) ∧ W.cell? ⟨gi, 3, none⟩ = some (.int .i64 lo) ∧ W.cell? ⟨gi, 4, none⟩ = some (.int .i64 hi)) (first | exact ⟨e2, e3, e4⟩ | (refine ⟨?_, ?_, ?_⟩ <;> first | assumption | exact f2a _ | exact f3a _ | exact f4a _)) (first
       | (go_at_call 62; refine (mark_any' _ _).mono ?_; rintro e w5 ⟨rfl, hb5⟩; (have HBW := Lib.hid (HBW.out.trans (hb5.mono HBW.out.size))); (have f2 := (HK.out.below HBW.out).ci 2 rfl); (have f3 := (HK.out.below HBW.out).ci 3 rfl); (have f4 := (HK.out.below HBW.out).ci 4 rfl); (have f2a := fun o => ((HK.out.below HBW.out).alloc o).ci 2 rfl); (have f3a := fun o => ((HK.out.below HBW.out).alloc o).ci 3 rfl); (have f4a := fun o => ((HK.out.below HBW.out).alloc o).ci 4 rfl); clear hb5)
       | (go_at_call 67; refine (name_any' var _).mono ?_; rintro e w5 ⟨rfl, hb5⟩; (have HBW := Lib.hid (HBW.out.trans (hb5.mono HBW.out.size))); (have f2 := (HK.out.below HBW.out).ci 2 rfl); (have f3 := (HK.out.below HBW.out).ci 3 rfl); (have f4 := (HK.out.below HBW.out).ci 4 rfl); (have f2a := fun o => ((HK.out.below HBW.out).alloc o).ci 2 rfl); (have f3a := fun o => ((HK.out.below HBW.out).alloc o).ci 3 rfl); (have f4a := fun o => ((HK.out.below HBW.out).alloc o).ci 4 rfl); clear hb5)
       | (go_at_call 66; refine (number_any' _ _).mono ?_; rintro e w5 ⟨rfl, hb5⟩; (have HBW := Lib.hid (HBW.out.trans (hb5.mono HBW.out.size))); (have f2 := (HK.out.below HBW.out).ci 2 rfl); (have f3 := (HK.out.below HBW.out).ci 3 rfl); (have f4 := (HK.out.below HBW.out).ci 4 rfl); (have f2a := fun o => ((HK.out.below HBW.out).alloc o).ci 2 rfl); (have f3a := fun o => ((HK.out.below HBW.out).alloc o).ci 3 rfl); (have f4a := fun o => ((HK.out.below HBW.out).alloc o).ci 4 rfl); clear hb5)
       | (go_at_call 61; refine (add_after base g (s'.add [tk 4]) [nme var, tk 5, num lo, tk 7, num hi, tk 6] [.int .i64 1, .string ⟨var.toArray⟩, .int .i64 0, .int .i64 0, .int .i64 5, .string ⟨#[]⟩, .int .i64 0, .int .i64 0, .int .i64 2, .string ⟨#[]⟩, .int .i64 lo, .int .i64 0, .int .i64 7, .string ⟨#[]⟩, .int .i64 0, .int .i64 0, .int .i64 2, .string ⟨#[]⟩, .int .i64 hi, .int .i64 0, .int .i64 6, .string ⟨#[]⟩, .int .i64 0, .int .i64 0] 6 w2 _ (Nat.le_trans hb HP.out.2.1.size) HP.out.1 HBW.out rfl rfl (by rw [S.add_len]; simp only [List.length_cons, List.length_nil]; omega)).mono ?_; rintro e w6 ⟨rfl, hp6⟩; (have hk6 := hp6.2.2.blk HK.out HO.out); (have g2 := hk6.1.ci 2 rfl); (have g3 := hk6.1.ci 3 rfl); (have g4 := hk6.1.ci 4 rfl); (have HP6 := Lib.hid (HP.out.trans hp6)); clear hp6 hk6))
      go_wp2_with fail
      go_returns
      exact ⟨rfl, by rw [HIT.out, ← HSH.out, HTY2.out]; dsimp only; rw [HM4.out, HTL.out]; exact HP6.out⟩
  ·have HSH := Lib.hid (show (s.add [tk 9]) = headS ⟨true, types, var, lo, hi⟩ s by unfold headS manyT; rw [if_neg (show ¬ 1 < types.length by rw [← HN.out]; exact h1n)]; exact (S.add_nil _).symm)
   have h1i : ¬ (1 : Int) < n := by omega
   have c1 := HK.out.ci 1 rfl
   go_wp2_with fail
   go_loopw [23] (fun i wr => ∃ (k : Nat) (s' : S), k ≤ n ∧ i = .int .i64 (k : Int) ∧ typesS types 0 ((s.add [tk 9])) = typesS (types.drop k) k s' ∧ WtP base g s' w wr ∧ Blk wr gi 105 [.bool true, .slice a n c, .string ⟨var.toArray⟩, .int .i64 lo, .int .i64 hi] ∧ Off g gi wr ∧ s'.out.length ≤ max ((s.add [tk 9])).out.length 401) (fun i _ => n - (intOf i).toNat)
   case atStart => exact ⟨0, ((s.add [tk 9])), Nat.zero_le _, rfl, rfl, HP.out, HK.out, HO.out, by omega⟩
   case round =>
    obtain ⟨k, s', hkn, rfl, hty, hp, hk, ho, hlen⟩ := hrel
    have HTY := Lib.hid hty
    have HP := Lib.hid hp
    have HK := Lib.hid hk
    have HO := Lib.hid ho
    have HSL := Lib.hid (show ((s.add [tk 9])).out.length ≤ s.out.length + 2 by simp only [S.add, List.length_append, List.length_cons, List.length_nil]; omega)
    have hlen2 : s'.out.length ≤ 1000002 := by have := HSL.out; omega
    have HLEN := Lib.hid hlen
    clear hty hp ho hlen
    by_cases hlt : k < n
    ·have hkl : k < types.length := by rw [← HN.out]; exact hlt
     obtain ⟨b, off, rfl, hc⟩ := (HOLD.out wr HP.out.2.1).at k hkl
     have hlt' : (k : Int) < n := by omega
     have hdrop : types.drop k = types[k] :: types.drop (k + 1) := List.drop_eq_getElem_cons hkl
     obtain ⟨t, ht⟩ : ∃ t, t = types[k] := ⟨_, rfl⟩
     rw [← ht] at hc hdrop
     rw [T] at hc
     have hty2 : typesS types 0 ((s.add [tk 9])) = if (s'.add (barT k)).full = true then (s'.add (barT k), true) else typesS (types.drop (k + 1)) (k + 1) ((s'.add (barT k)).add [nme t]) := by
      rw [HTY.out, hdrop]; rfl
     have HTY2 := Lib.hid hty2
     have HME := Lib.hid (meas_lt hlt)
     have HKS := Lib.hid (show k + 1 ≤ n from hlt)
     clear hdrop hty2 ht hk
     by_cases hk0 : k = 0
     ·have hk0' : ¬ (0 : Int) < k := by omega
      have HBAR := Lib.hid (show s'.add (barT k) = s' by rw [hk0]; exact S.add_nil s')
      have HSB := Lib.hid (show s'.out.length ≤ max ((s.add [tk 9])).out.length 401 from HLEN.out)
      clear hk0
      go_wp2_with fail
      refine (full_any base g s' wr HP.out.1).mono ?_
      rintro e wf ⟨rfl, hwf⟩
      subst hwf
      cases hf : s'.full with
      | true =>
       have HF := Lib.hid hf
       clear hf
       go_wp2_with fail
       go_returns
       exact ⟨rfl, by rw [HIT.out, ← HSH.out, HTY2.out, HBAR.out, if_pos HF.out]; exact HP.out⟩
      | false =>
       have HF := Lib.hid hf
       have HLE := Lib.hid (show s'.out.length ≤ 400 by
        have : ¬ s'.full = true := by rw [hf]; simp
        rw [S.full_iff] at this
        omega)
       clear hf
       go_wp2_with fail
       refine (name_any' t _).mono ?_
       rintro e w3 ⟨rfl, hb3⟩
       have HB3 := Lib.hid hb3
       clear hb3
       go_wp2_with fail
       refine (add_after base g s' [nme t] [.int .i64 1, .string ⟨t.toArray⟩, .int .i64 0, .int .i64 0] 1 _ w3 (Nat.le_trans hb HP.out.2.1.size) HP.out.1 HB3.out rfl rfl (by have := HLE.out; omega)).mono ?_
       rintro e w4 ⟨rfl, hp4⟩
       have hk4 := hp4.2.2.blk HK.out HO.out
       have HK4 := Lib.hid hk4.1
       have HO4 := Lib.hid hk4.2
       have HP4 := Lib.hid (HP.out.trans hp4)
       clear hp4 hk4
       go_wp2_with fail
       go_roundw
       case rel => exact ⟨k + 1, s'.add [nme t], HKS.out, by go_num, by rw [HTY2.out, HBAR.out, if_neg (by rw [HF.out]; simp)], HP4.out, HK4.out, HO4.out, by have h1 := HLE.out; rw [S.add_len]; simp only [List.length_cons, List.length_nil]; omega⟩
       case measure => exact HME.out
     ·exfalso; omega
    ·have hk' : ¬ (k : Int) < n := by omega
     have hty2 : typesS types 0 ((s.add [tk 9])) = (s', false) := by rw [HTY.out, List.drop_eq_nil_of_le (by rw [← HN.out]; omega)]; rfl
     have HTY2 := Lib.hid hty2
     have c1 := HK.out.ci 1 rfl
     have c3 := HK.out.ci 3 rfl
     have c4 := HK.out.ci 4 rfl
     clear hty2
     have HM4 := Lib.hid (show s'.add (manyT ⟨true, types, var, lo, hi⟩ 4) = s' by unfold manyT; rw [if_neg (by show ¬ 1 < types.length; rw [← HN.out]; exact h1n)]; exact S.add_nil s')
     have c2 := HK.out.ci 2 rfl
     have c3 := HK.out.ci 3 rfl
     have c4 := HK.out.ci 4 rfl
     by_cases q1 : lo = 1
     ·subst q1
      by_cases q2 : hi = 1
      ·subst q2
       have HTL := Lib.hid (show tailT ⟨true, types, var, 1, 1⟩ = [nme var] from rfl)
       go_wp2_with fail
       refine (name_any' var _).mono ?_
       rintro e w5 ⟨rfl, hb5⟩
       have HB5 := Lib.hid hb5
       clear hb5
       go_wp2_with fail
       refine (add_after base g s' [nme var] [.int .i64 1, .string ⟨var.toArray⟩, .int .i64 0, .int .i64 0] 1 _ w5 (Nat.le_trans hb HP.out.2.1.size) HP.out.1 HB5.out rfl rfl (by omega)).mono ?_
       rintro e w6 ⟨rfl, hp6⟩
       have HP6 := Lib.hid (HP.out.trans hp6)
       clear hp6
       go_wp2_with fail
       go_returns
       exact ⟨rfl, by rw [HIT.out, ← HSH.out, HTY2.out]; dsimp only; rw [HM4.out, HTL.out]; exact HP6.out⟩
      ·have q2' : (hi == 1) = false := by simpa using q2
       by_cases q4 : hi = 4
       ·subst q4
        have HTL := Lib.hid (show tailT ⟨true, types, var, 1, 4⟩ = [tk 11, nme var] from rfl)
        have e2 := HK.out.drew.ci 2 rfl
        have HBW := Lib.hid (show Below wr.heap.size wr wr.drew from (Below.refl _ _).drew)
        clear q2
        go_wp2_with fail
        go_region_law (first
         | (go_simp; go_at_call 62; refine (mark_any' 11 _).mono ?_; rintro e w5 ⟨rfl, hb5⟩; (have HBW := Lib.hid (HBW.out.trans (hb5.mono HBW.out.size))); (have f2 := (HK.out.below HBW.out).ci 2 rfl); clear hb5)
         | (go_simp; go_at_call 67; refine (name_any' var _).mono ?_; rintro e w5 ⟨rfl, hb5⟩; (have HBW := Lib.hid (HBW.out.trans (hb5.mono HBW.out.size))); (have f2 := (HK.out.below HBW.out).ci 2 rfl); clear hb5)
         | (go_simp; go_at_call 61; refine (add_after base g s' [tk 11, nme var] [.int .i64 11, .string ⟨#[]⟩, .int .i64 0, .int .i64 0, .int .i64 1, .string ⟨var.toArray⟩, .int .i64 0, .int .i64 0] 2 wr _ (Nat.le_trans hb HP.out.2.1.size) HP.out.1 HBW.out rfl rfl (by omega)).mono ?_; rintro e w6 ⟨rfl, hp6⟩; (have HP6 := Lib.hid (HP.out.trans hp6)); clear hp6))
        all_goals (
         go_wp2_with fail
         go_returns
         exact ⟨rfl, by rw [HIT.out, ← HSH.out, HTY2.out]; dsimp only; rw [HM4.out, HTL.out]; exact HP6.out⟩)
       ·have q4' : (hi == 4) = false := by simpa using q4
        have HTL := Lib.hid (show tailT ⟨true, types, var, 1, hi⟩ = [nme var, tk 5, num 1, tk 7, num hi, tk 6] by unfold tailT; dsimp only; rw [if_neg (fun h => q2 h.2), if_neg (fun h => q4 h.2)])
        clear q2 q4
        have HBW := Lib.hid (show Below wr.heap.size wr wr.drew from (Below.refl _ _).drew)
        have e2 := HK.out.drew.ci 2 rfl
        have e3 := HK.out.drew.ci 3 rfl
        have e4 := HK.out.drew.ci 4 rfl
        go_wp2_with fail
        go_region_held3 (fun W => W.cell? ⟨gi, 2, none⟩ = some (.string ⟨var.toArray⟩) ∧ W.cell? ⟨gi, 3, none⟩ = some (.int .i64 1) ∧ W.cell? ⟨gi, 4, none⟩ = some (.int .i64 hi)) (first | exact ⟨e2, e3, e4⟩ | (refine ⟨?_, ?_, ?_⟩ <;> first | assumption | exact f2a _ | exact f3a _ | exact f4a _)) (first
         | (go_at_call 62; refine (mark_any' _ _).mono ?_; rintro e w5 ⟨rfl, hb5⟩; (have HBW := Lib.hid (HBW.out.trans (hb5.mono HBW.out.size))); (have f2 := (HK.out.below HBW.out).ci 2 rfl); (have f3 := (HK.out.below HBW.out).ci 3 rfl); (have f4 := (HK.out.below HBW.out).ci 4 rfl); (have f2a := fun o => ((HK.out.below HBW.out).alloc o).ci 2 rfl); (have f3a := fun o => ((HK.out.below HBW.out).alloc o).ci 3 rfl); (have f4a := fun o => ((HK.out.below HBW.out).alloc o).ci 4 rfl); clear hb5)
         | (go_at_call 67; refine (name_any' var _).mono ?_; rintro e w5 ⟨rfl, hb5⟩; (have HBW := Lib.hid (HBW.out.trans (hb5.mono HBW.out.size))); (have f2 := (HK.out.below HBW.out).ci 2 rfl); (have f3 := (HK.out.below HBW.out).ci 3 rfl); (have f4 := (HK.out.below HBW.out).ci 4 rfl); (have f2a := fun o => ((HK.out.below HBW.out).alloc o).ci 2 rfl); (have f3a := fun o => ((HK.out.below HBW.out).alloc o).ci 3 rfl); (have f4a := fun o => ((HK.out.below HBW.out).alloc o).ci 4 rfl); clear hb5)
         | (go_at_call 66; refine (number_any' _ _).mono ?_; rintro e w5 ⟨rfl, hb5⟩; (have HBW := Lib.hid (HBW.out.trans (hb5.mono HBW.out.size))); (have f2 := (HK.out.below HBW.out).ci 2 rfl); (have f3 := (HK.out.below HBW.out).ci 3 rfl); (have f4 := (HK.out.below HBW.out).ci 4 rfl); (have f2a := fun o => ((HK.out.below HBW.out).alloc o).ci 2 rfl); (have f3a := fun o => ((HK.out.below HBW.out).alloc o).ci 3 rfl); (have f4a := fun o => ((HK.out.below HBW.out).alloc o).ci 4 rfl); clear hb5)
         | (go_at_call 61; refine (add_after base g s' [nme var, tk 5, num 1, tk 7, num hi, tk 6] [.int .i64 1, .string ⟨var.toArray⟩, .int .i64 0, .int .i64 0, .int .i64 5, .string ⟨#[]⟩, .int .i64 0, .int .i64 0, .int .i64 2, .string ⟨#[]⟩, .int .i64 1, .int .i64 0, .int .i64 7, .string ⟨#[]⟩, .int .i64 0, .int .i64 0, .int .i64 2, .string ⟨#[]⟩, .int .i64 hi, .int .i64 0, .int .i64 6, .string ⟨#[]⟩, .int .i64 0, .int .i64 0] 6 wr _ (Nat.le_trans hb HP.out.2.1.size) HP.out.1 HBW.out rfl rfl (by omega)).mono ?_; rintro e w6 ⟨rfl, hp6⟩; (have hk6 := hp6.2.2.blk HK.out HO.out); (have g2 := hk6.1.ci 2 rfl); (have g3 := hk6.1.ci 3 rfl); (have g4 := hk6.1.ci 4 rfl); (have HP6 := Lib.hid (HP.out.trans hp6)); clear hp6 hk6))
        go_wp2_with fail
        go_returns
        exact ⟨rfl, by rw [HIT.out, ← HSH.out, HTY2.out]; dsimp only; rw [HM4.out, HTL.out]; exact HP6.out⟩
     ·have q1' : (lo == 1) = false := by simpa using q1
      have HTL := Lib.hid (show tailT ⟨true, types, var, lo, hi⟩ = [nme var, tk 5, num lo, tk 7, num hi, tk 6] by unfold tailT; dsimp only; rw [if_neg (fun h => q1 h.1), if_neg (fun h => q1 h.1)])
      clear q1
      have HBW := Lib.hid (show Below wr.heap.size wr wr.drew from (Below.refl _ _).drew)
      have e2 := HK.out.drew.ci 2 rfl
      have e3 := HK.out.drew.ci 3 rfl
      have e4 := HK.out.drew.ci 4 rfl
      go_wp2_with fail
      go_region_held3 (fun W => W.cell? ⟨gi, 2, none⟩ = some (.string ⟨var.toArray⟩) ∧ W.cell? ⟨gi, 3, none⟩ = some (.int .i64 lo) ∧ W.cell? ⟨gi, 4, none⟩ = some (.int .i64 hi)) (first | exact ⟨e2, e3, e4⟩ | (refine ⟨?_, ?_, ?_⟩ <;> first | assumption | exact f2a _ | exact f3a _ | exact f4a _)) (first
       | (go_at_call 62; refine (mark_any' _ _).mono ?_; rintro e w5 ⟨rfl, hb5⟩; (have HBW := Lib.hid (HBW.out.trans (hb5.mono HBW.out.size))); (have f2 := (HK.out.below HBW.out).ci 2 rfl); (have f3 := (HK.out.below HBW.out).ci 3 rfl); (have f4 := (HK.out.below HBW.out).ci 4 rfl); (have f2a := fun o => ((HK.out.below HBW.out).alloc o).ci 2 rfl); (have f3a := fun o => ((HK.out.below HBW.out).alloc o).ci 3 rfl); (have f4a := fun o => ((HK.out.below HBW.out).alloc o).ci 4 rfl); clear hb5)
       | (go_at_call 67; refine (name_any' var _).mono ?_; rintro e w5 ⟨rfl, hb5⟩; (have HBW := Lib.hid (HBW.out.trans (hb5.mono HBW.out.size))); (have f2 := (HK.out.below HBW.out).ci 2 rfl); (have f3 := (HK.out.below HBW.out).ci 3 rfl); (have f4 := (HK.out.below HBW.out).ci 4 rfl); (have f2a := fun o => ((HK.out.below HBW.out).alloc o).ci 2 rfl); (have f3a := fun o => ((HK.out.below HBW.out).alloc o).ci 3 rfl); (have f4a := fun o => ((HK.out.below HBW.out).alloc o).ci 4 rfl); clear hb5)
       | (go_at_call 66; refine (number_any' _ _).mono ?_; rintro e w5 ⟨rfl, hb5⟩; (have HBW := Lib.hid (HBW.out.trans (hb5.mono HBW.out.size))); (have f2 := (HK.out.below HBW.out).ci 2 rfl); (have f3 := (HK.out.below HBW.out).ci 3 rfl); (have f4 := (HK.out.below HBW.out).ci 4 rfl); (have f2a := fun o => ((HK.out.below HBW.out).alloc o).ci 2 rfl); (have f3a := fun o => ((HK.out.below HBW.out).alloc o).ci 3 rfl); (have f4a := fun o => ((HK.out.below HBW.out).alloc o).ci 4 rfl); clear hb5)
       | (go_at_call 61; refine (add_after base g s' [nme var, tk 5, num lo, tk 7, num hi, tk 6] [.int .i64 1, .string ⟨var.toArray⟩, .int .i64 0, .int .i64 0, .int .i64 5, .string ⟨#[]⟩, .int .i64 0, .int .i64 0, .int .i64 2, .string ⟨#[]⟩, .int .i64 lo, .int .i64 0, .int .i64 7, .string ⟨#[]⟩, .int .i64 0, .int .i64 0, .int .i64 2, .string ⟨#[]⟩, .int .i64 hi, .int .i64 0, .int .i64 6, .string ⟨#[]⟩, .int .i64 0, .int .i64 0] 6 wr _ (Nat.le_trans hb HP.out.2.1.size) HP.out.1 HBW.out rfl rfl (by omega)).mono ?_; rintro e w6 ⟨rfl, hp6⟩; (have hk6 := hp6.2.2.blk HK.out HO.out); (have g2 := hk6.1.ci 2 rfl); (have g3 := hk6.1.ci 3 rfl); (have g4 := hk6.1.ci 4 rfl); (have HP6 := Lib.hid (HP.out.trans hp6)); clear hp6 hk6))
      go_wp2_with fail
      go_returns
      exact ⟨rfl, by rw [HIT.out, ← HSH.out, HTY2.out]; dsimp only; rw [HM4.out, HTL.out]; exact HP6.out⟩
end Go.Proofs.YtfglgpbjjpoimaaGreatDoor
