/- SaveEncodes: the reference's names, Shaped. -/
import Derived.Test.YtfglgpbjjpoimaaGreatDoorSwGN
import Derived.Test.YtfglgpbjjpoimaaGreatDoorSwGG
set_option linter.unusedVariables false
namespace Go.Proofs.YtfglgpbjjpoimaaGreatDoor
open Go.RowKit Sv
set_option maxHeartbeats 2000000 in
theorem rnames_any (a : Option Addr) (c n : Nat) (l : List Str) (w : World) (hn : n = l.length) (hN : n ≤ 1048576) (hk : Kw w) (h : RdS w a l) :
  Calls Tryz.prog 106 #[.slice a n c] w fun e w' => e = .returned (.bool (!l.isEmpty && l.all (nameB kwsL))) ∧ Below w.heap.size w w' := by
 obtain ⟨F, hF⟩ : ∃ F, F = (!l.isEmpty && l.all (nameB kwsL)) := ⟨_, rfl⟩
 rw [← hF]
 have HF := Lib.hid hF
 have HN := Lib.hid hn
 have HK := Lib.hid hk
 have HR := Lib.hid h
 clear hF hn hk h
 go_enter Tryz.func106, Tryz.ntmps106
 go_wp2_with fail
 go_loopw [3] (fun i wr => ∃ k : Nat, k ≤ n ∧ i = .int .i64 (k : Int) ∧ (l.take k).all (nameB kwsL) = true ∧ Below w.heap.size w wr) (fun i _ => n - (intOf i).toNat)
 case atStart => exact ⟨0, Nat.zero_le _, rfl, by simp, Below.refl _ _⟩
 case round =>
  obtain ⟨k, hkn, rfl, hal, hbw⟩ := hrel
  have HBW := Lib.hid hbw
  have HAL := Lib.hid hal
  by_cases hlt : k < n
  ·have hkl : k < l.length := by rw [← HN.out]; exact hlt
   obtain ⟨b, off, rfl, e0⟩ := (HR.out.below hbw).at k hkl
   have hlt' : (k : Int) < n := by omega
   have hno := @all_noG Str l (nameB kwsL) k hkl
   have hst := fun h => all_stepG (p := nameB kwsL) hkl HAL.out h
   obtain ⟨y, hy⟩ : ∃ y, y = l[k] := ⟨_, rfl⟩
   rw [← hy] at e0 hno hst
   rw [T] at e0
   have HNOF := Lib.hid hno
   have HSTF := Lib.hid hst
   have HME := Lib.hid (meas_lt hlt)
   have HKS := Lib.hid (show k + 1 ≤ n from hlt)
   have hkw := HK.out.below hbw
   clear hal hno hst hy hbw
   go_wp2_with fail
   refine (rIsName_any ⟨y.toArray⟩ wr hkw).mono ?_
   rintro e w3 ⟨rfl, hb3⟩
   rw [sl_T]
   have HB3 := Lib.hid (HBW.out.trans (hb3.mono HBW.out.size))
   clear hb3
   cases hv : nameB kwsL y with
   | false =>
    have HNO := Lib.hid (show F = false by rw [HF.out, HNOF.out hv]; simp)
    clear hv
    go_wp2_with fail
    go_ret
    exact ⟨by rw [HNO.out]; rfl, HB3.out⟩
   | true =>
    have HST := Lib.hid (HSTF.out hv)
    clear hv
    go_wp2_with fail
    go_roundw
    case rel => exact ⟨k + 1, HKS.out, by go_num, HST.out, HB3.out⟩
    case measure => exact HME.out
  ·have hk' : ¬ (k : Int) < n := by omega
   have hall : l.all (nameB kwsL) = true := by
    rw [List.take_of_length_le (by rw [← HN.out]; omega)] at hal
    exact hal
   by_cases hz : n = 0
   ·have HNO := Lib.hid (show F = false by
     have : l = [] := List.eq_nil_of_length_eq_zero (by rw [← HN.out]; exact hz)
     rw [HF.out, this]; rfl)
    subst hz
    clear hal hall
    go_wp2_with fail
    go_ret
    exact ⟨by rw [HNO.out]; rfl, HBW.out⟩
   ·have hz2 : (0 : Int) < n := by omega
    have hz3 : decide (0 < n) = true := by simp; omega
    have HNO := Lib.hid (show F = true by
     have : l.isEmpty = false := by cases l with
      | nil => exact absurd HN.out hz
      | cons _ _ => rfl
     rw [HF.out, this, hall]; rfl)
    clear hal hall
    go_wp2_with fail
    go_ret
    exact ⟨by rw [HNO.out]; rfl, HBW.out⟩
theorem shapedQ_eqR (x : Qm) : shapedQ (nameB kwsL) x.q = (!x.items.isEmpty && decide (0 ≤ x.mode) && decide (x.mode ≤ 2) && decide (0 ≤ x.after) && decide (x.after ≤ 3) && decide (0 ≤ x.within) &&
  x.items.all (fun y => shapedIt (nameB kwsL) y.i) && (x.wher.isEmpty || treeR (nameB kwsL) x.wher) && (x.by_.isEmpty || nameB kwsL x.by_) && x.ret.all (fun y => treeR (nameB kwsL) y.t)) := by
 rw [shapedQ_eq]
 simp only [tree_same]
set_option maxHeartbeats 4000000 in
set_option maxRecDepth 20000 in
theorem rshaped_any (x : Qm) (w : World) (hk : Kw w) (h : RdQ w x) (hB : QB x) :
  Calls Tryz.prog 84 #[.agg (qmc x).toArray] w fun e w' => e = .returned (.bool (shapedQ (nameB kwsL) x.q)) ∧ Below w.heap.size w w' := by
 have hsh := shapedQ_eqR x
 have bn := hB.items
 have bt := hB.types
 have bw := hB.wher
 have br := hB.ret
 have brt := hB.trees
 obtain ⟨hRI, hRN, hRR⟩ := h
 generalize hQ : shapedQ (nameB kwsL) x.q = SQ at hsh ⊢
 clear hQ hB
 obtain ⟨items, ia, ic, mode, after, wher, wa, wc, within, by_, ret, ra, rc⟩ := x
 dsimp only at hsh hRI hRN hRR bn bt bw br brt
 simp only [qmc, T]
 have HBT := Lib.hid bt
 have HBRT := Lib.hid brt
 have HSH := Lib.hid hsh
 have HRI := Lib.hid hRI
 have HRN := Lib.hid hRN
 have HRR := Lib.hid hRR
 clear bt brt hsh hRI hRN hRR
 obtain ⟨n, hn⟩ : ∃ n, n = items.length := ⟨_, rfl⟩
 obtain ⟨nw, hnw⟩ : ∃ n, n = wher.length := ⟨_, rfl⟩
 obtain ⟨nr, hnr⟩ : ∃ n, n = ret.length := ⟨_, rfl⟩
 rw [← hn] at bn ⊢
 rw [← hnw] at bw ⊢
 rw [← hnr] at br ⊢
 have HN := Lib.hid hn
 have HNW := Lib.hid hnw
 have HNR := Lib.hid hnr
 clear hn hnw hnr
 obtain ⟨w0, hw0⟩ : ∃ w0, w0 = w.alloc (.cells #[.slice ia n ic, .int .i64 mode, .int .i64 after, .slice wa nw wc, .int .i64 within, .string ⟨by_.toArray⟩, .slice ra nr rc] 31) := ⟨_, rfl⟩
 have hb0 : Below w.heap.size w w0 := by rw [hw0]; exact (Below.refl _ _).alloc (Nat.le_refl _) _
 have hE0 : Blk w0 w.heap.size 31 [.slice ia n ic, .int .i64 mode, .int .i64 after, .slice wa nw wc, .int .i64 within, .string ⟨by_.toArray⟩, .slice ra nr rc] := by rw [hw0]; exact Blk.new w _ 31
 have HK := Lib.hid hk
 have HE := Lib.hid hE0
 have HB0 := Lib.hid hb0
 clear hE0 hk hb0
 go_enter Tryz.func84, Tryz.ntmps84
 go_wp2_with fail
 rw [← hw0]
 clear hw0
 go_loopw [3] (fun i wr => ∃ k : Nat, k ≤ n ∧ i = .int .i64 (k : Int) ∧ (items.take k).all (fun y => shapedIt (nameB kwsL) y.i) = true ∧ Below w0.heap.size w0 wr) (fun i _ => n - (intOf i).toNat)
 case atStart => exact ⟨0, Nat.zero_le _, rfl, by simp, Below.refl _ _⟩
 case round =>
  obtain ⟨k, hkn, rfl, hal, hbw⟩ := hrel
  have HBW := Lib.hid hbw
  have HAL := Lib.hid hal
  have HB2 := Lib.hid (HB0.out.trans (hbw.mono HB0.out.size))
  have c0 := (HE.out.below hbw).ci 0 rfl
  by_cases hlt : k < n
  ·have hkl : k < items.length := by rw [← HN.out]; exact hlt
   obtain ⟨b, off, rfl, e0, e1, e2, e3, e4⟩ := (HRI.out.below HB2.out).at k hkl
   have hrs := (HRI.out.below HB2.out).2 _ (List.getElem_mem hkl)
   have hlt' : (k : Int) < n := by omega
   have hno := @all_noG Im items (fun y => shapedIt (nameB kwsL) y.i) k hkl
   have hst := fun h => all_stepG (p := fun y : Im => shapedIt (nameB kwsL) y.i) hkl HAL.out h
   have hbt := HBT.out _ (List.getElem_mem hkl)
   obtain ⟨y, hy⟩ : ∃ y, y = items[k] := ⟨_, rfl⟩
   rw [← hy] at e0 e1 e2 e3 e4 hno hst hrs hbt
   try dsimp only at hno hst
   obtain ⟨⟨neg, types, var, lo, hi⟩, ta, tc⟩ := y
   dsimp only at e0 e1 e2 e3 e4 hrs hbt
   obtain ⟨m, hm⟩ : ∃ m, m = types.length := ⟨_, rfl⟩
   rw [← hm] at e1 hbt
   rw [T] at e2
   have HNOF := Lib.hid hno
   have HSTF := Lib.hid hst
   have HME := Lib.hid (meas_lt hlt)
   have HKS := Lib.hid (show k + 1 ≤ n from hlt)
   obtain ⟨wb, hwb⟩ : ∃ wb, wb = wr.alloc (.cells #[.bool neg, .slice ta m tc, .string ⟨var.toArray⟩, .int .i64 lo, .int .i64 hi] 105) := ⟨_, rfl⟩
   obtain ⟨gb, hgb⟩ : ∃ gb, gb = wr.heap.size := ⟨_, rfl⟩
   have hEb : Blk wb gb 105 [.bool neg, .slice ta m tc, .string ⟨var.toArray⟩, .int .i64 lo, .int .i64 hi] := by rw [hwb, hgb]; exact Blk.new wr _ 105
   have hbb : Below wr.heap.size wr wb := by rw [hwb]; exact (Below.refl _ _).alloc (Nat.le_refl _) _
   have hSI := Lib.hid (rnames_any ta tc m types wb hm hbt ((HK.out.below HB2.out).below hbb) (hrs.below hbb))
   have HBB := Lib.hid (HBW.out.trans (hbb.mono HBW.out.size))
   have HEB := Lib.hid hEb
   have HNA := Lib.hid (show shapedIt (nameB kwsL) ⟨neg, types, var, lo, hi⟩ = ((!types.isEmpty && types.all (nameB kwsL)) && nameB kwsL var && decide (0 ≤ lo) && decide (0 ≤ hi) && (!neg || (decide (lo = 1) && decide (hi = 1)))) from rfl)
   clear hal hbw hno hst hy hrs hbt hbb hm hEb
   go_wp2_with fail
   rw [← hwb]
   try rw [← hgb]
   clear hwb hgb e0 e1 e2 e3 e4
   refine (hSI.out).mono ?_
   rintro e w3 ⟨rfl, hb3⟩
   have HB3 := Lib.hid (HBB.out.trans (hb3.mono HBB.out.size))
   have HEB3 := Lib.hid (HEB.out.below hb3)
   have f2 := HEB3.out.ci 2 rfl
   have hkw := HK.out.below (HB0.out.trans (HB3.out.mono HB0.out.size))
   clear hb3
   cases hv : (!types.isEmpty && types.all (nameB kwsL)) with
   | false =>
    have HNO := Lib.hid (show SQ = false by rw [HSH.out, HNOF.out (by rw [HNA.out, hv]; simp)]; simp)
    clear hv
    go_wp2_with fail
    go_ret
    exact ⟨by rw [HNO.out]; rfl, HB0.out.trans (HB3.out.mono HB0.out.size)⟩
   | true =>
   have HV := Lib.hid hv
   clear hv
   go_wp2_with fail
   refine (rIsName_any ⟨var.toArray⟩ w3 hkw).mono ?_
   rintro e w4 ⟨rfl, hb4⟩
   rw [sl_T]
   have HB4 := Lib.hid (HB3.out.trans (hb4.mono HB3.out.size))
   have HEB4 := Lib.hid (HEB3.out.below hb4)
   have f0 := HEB4.out.ci 0 rfl
   have f3 := HEB4.out.ci 3 rfl
   have f4 := HEB4.out.ci 4 rfl
   clear hb4 hkw
   cases hw : nameB kwsL var with
   | false =>
    have HNO := Lib.hid (show SQ = false by rw [HSH.out, HNOF.out (by rw [HNA.out, hw]; simp)]; simp)
    clear hw
    go_wp2_with fail
    go_ret
    exact ⟨by rw [HNO.out]; rfl, HB0.out.trans (HB4.out.mono HB0.out.size)⟩
   | true =>
   have HW := Lib.hid hw
   clear hw
   by_cases hlo : lo < 0
   ·have HNO := Lib.hid (show SQ = false by rw [HSH.out, HNOF.out (by rw [HNA.out, show decide (0 ≤ lo) = false by simpa using hlo]; simp)]; simp)
    go_wp2_with fail
    go_ret
    exact ⟨by rw [HNO.out]; rfl, HB0.out.trans (HB4.out.mono HB0.out.size)⟩
   by_cases hhi : hi < 0
   ·have HNO := Lib.hid (show SQ = false by rw [HSH.out, HNOF.out (by rw [HNA.out, show decide (0 ≤ hi) = false by simpa using hhi]; simp)]; simp)
    go_wp2_with fail
    go_ret
    exact ⟨by rw [HNO.out]; rfl, HB0.out.trans (HB4.out.mono HB0.out.size)⟩
   have HLO := Lib.hid (show decide (0 ≤ lo) = true by simpa using hlo)
   have HHI := Lib.hid (show decide (0 ≤ hi) = true by simpa using hhi)
   cases neg with
   | false =>
    have HST := Lib.hid (HSTF.out (by rw [HNA.out, HV.out, HW.out, HLO.out, HHI.out]; rfl))
    go_wp2_with fail
    go_roundw
    case rel => exact ⟨k + 1, HKS.out, by go_num, HST.out, HB4.out⟩
    case measure => exact HME.out
   | true =>
    by_cases h1 : lo = 1
    ·by_cases h2 : hi = 1
     ·have HST := Lib.hid (HSTF.out (by rw [HNA.out, HV.out, HW.out, HLO.out, HHI.out, h1, h2]; rfl))
      subst h1 h2
      go_wp2_with fail
      go_roundw
      case rel => exact ⟨k + 1, HKS.out, by go_num, HST.out, HB4.out⟩
      case measure => exact HME.out
     ·have HNO := Lib.hid (show SQ = false by rw [HSH.out, HNOF.out (by rw [HNA.out, show decide (hi = 1) = false by simpa using h2]; simp)]; simp)
      have h3 : (hi == 1) = false := by simpa using h2
      have h4 : (hi != 1) = true := by simpa using h2
      subst h1
      clear h2
      go_wp2_with fail
      go_ret
      exact ⟨by rw [HNO.out]; rfl, HB0.out.trans (HB4.out.mono HB0.out.size)⟩
    ·have HNO := Lib.hid (show SQ = false by rw [HSH.out, HNOF.out (by rw [HNA.out, show decide (lo = 1) = false by simpa using h1]; simp)]; simp)
     have h3 : (lo == 1) = false := by simpa using h1
     have h4 : (lo != 1) = true := by simpa using h1
     clear h1
     go_wp2_with fail
     go_ret
     exact ⟨by rw [HNO.out]; rfl, HB0.out.trans (HB4.out.mono HB0.out.size)⟩
  ·have hk' : ¬ (k : Int) < n := by omega
   have HAT := Lib.hid (show items.all (fun y => shapedIt (nameB kwsL) y.i) = true by
    rw [List.take_of_length_le (by rw [← HN.out]; omega)] at hal
    exact hal)
   have HE2 := Lib.hid (HE.out.below hbw)
   have HBR := Lib.hid (Below.refl wr.heap.size wr)
   have e6 := HE2.out.ci 6 rfl
   clear hal hbw
   go_wp2_with fail
   go_loopw [5] (fun i wz => ∃ j : Nat, j ≤ nr ∧ i = .int .i64 (j : Int) ∧ (ret.take j).all (fun y => treeR (nameB kwsL) y.t) = true ∧ Below wr.heap.size wr wz) (fun i _ => nr - (intOf i).toNat)
   case atStart => exact ⟨0, Nat.zero_le _, rfl, by simp, HBR.out⟩
   case round =>
    obtain ⟨j, hjn, rfl, hal, hbz⟩ := hrel
    have HBZ := Lib.hid hbz
    have HAL2 := Lib.hid hal
    have HB5 := Lib.hid (HB2.out.trans (hbz.mono HB2.out.size))
    have HE5 := Lib.hid (HE2.out.below hbz)
    have d6 := HE5.out.ci 6 rfl
    by_cases hlj : j < nr
    ·have hjl : j < ret.length := by rw [← HNR.out]; exact hlj
     obtain ⟨b, off, hav, e0⟩ := (HRR.out.below HB5.out).at j hjl
     have hrs := (HRR.out.below HB5.out).2 _ (List.getElem_mem hjl)
     have hlj' : (j : Int) < nr := by omega
     have hno := @all_noG Tr ret (fun y => treeR (nameB kwsL) y.t) j hjl
     have hst := fun h => all_stepG (p := fun y : Tr => treeR (nameB kwsL) y.t) hjl HAL2.out h
     have hbt := HBRT.out _ (List.getElem_mem hjl)
     obtain ⟨y, hy⟩ : ∃ y, y = ret[j] := ⟨_, rfl⟩
     rw [← hy] at e0 hno hst hrs hbt
     try dsimp only at hno hst
     obtain ⟨t, ta, tc⟩ := y
     dsimp only at e0 hrs hbt hno hst
     have HNOF := Lib.hid hno
     have HSTF := Lib.hid hst
     have HME := Lib.hid (meas_lt hlj)
     have HKS := Lib.hid (show j + 1 ≤ nr from hlj)
     obtain ⟨m, hm⟩ : ∃ m, m = t.length := ⟨_, rfl⟩
     rw [← hm] at e0 hbt
     have hTC := Lib.hid (rtree_any ta tc m t _ hm.symm (by omega) (HK.out.below HB5.out) hrs)
     clear hal hbz hno hst hy hrs hm
     subst hav
     go_wp2_with fail
     refine (hTC.out).mono ?_
     rintro e w6 ⟨rfl, hb6⟩
     have HB6 := Lib.hid (HBZ.out.trans (hb6.mono HBZ.out.size))
     clear hb6 e0
     cases hv : treeR (nameB kwsL) t with
     | false =>
      have HNO := Lib.hid (show SQ = false by rw [HSH.out, HNOF.out hv]; simp)
      clear hv
      go_wp2_with fail
      go_ret
      exact ⟨by rw [HNO.out]; rfl, HB2.out.trans (HB6.out.mono HB2.out.size)⟩
     | true =>
      have HST := Lib.hid (HSTF.out hv)
      clear hv
      go_wp2_with fail
      go_roundw
      case rel => exact ⟨j + 1, HKS.out, by go_num, HST.out, HB6.out⟩
      case measure => exact HME.out
    ·have hj' : ¬ (j : Int) < nr := by omega
     have HRT := Lib.hid (show ret.all (fun y => treeR (nameB kwsL) y.t) = true by
      rw [List.take_of_length_le (by rw [← HNR.out]; omega)] at hal
      exact hal)
     have d0 := HE5.out.ci 0 rfl
     have d1 := HE5.out.ci 1 rfl
     have d2 := HE5.out.ci 2 rfl
     have d3 := HE5.out.ci 3 rfl
     have d4 := HE5.out.ci 4 rfl
     have d5 := HE5.out.ci 5 rfl
     have hkw := HK.out.below HB5.out
     have HTR := Lib.hid (rtree_any wa wc nw wher _ HNW.out.symm (by omega) hkw (HRN.out.below HB5.out))
     clear hal hbz
     by_cases q0 : n = 0
     ·have HNO := Lib.hid (show SQ = false by
       have : items.isEmpty = true := by rw [List.isEmpty_iff]; exact List.eq_nil_of_length_eq_zero (by rw [← HN.out]; exact q0)
       rw [HSH.out, this]; simp)
      subst q0
      go_wp2_with fail
      go_ret
      exact ⟨by rw [HNO.out]; rfl, HB5.out⟩
     have q0b : ((n : Int) == 0) = false := by simpa using q0
     have HNE := Lib.hid (show items.isEmpty = false by cases items with | nil => exact absurd HN.out q0 | cons _ _ => rfl)
     clear q0
     by_cases q5 : within < 0
     ·have HNO := Lib.hid (show SQ = false by
       have : decide (0 ≤ within) = false := by simpa using q5
       rw [HSH.out, this]; simp)
      go_wp2_with fail
      go_ret
      exact ⟨by rw [HNO.out]; rfl, HB5.out⟩
     have HW0 := Lib.hid (show decide (0 ≤ within) = true by simpa using q5)
     have HRES := Lib.hid (show SQ = (decide (0 ≤ mode) && decide (mode ≤ 2) && decide (0 ≤ after) && decide (after ≤ 3) && (wher.isEmpty || treeR (nameB kwsL) wher) && (by_.isEmpty || nameB kwsL by_)) by
      rw [HSH.out, HNE.out, HW0.out, HAT.out, HRT.out]; simp)
     by_cases hw : nw = 0
     ·have HWT := Lib.hid (show (wher.isEmpty || treeR (nameB kwsL) wher) = true by
       have : wher = [] := List.eq_nil_of_length_eq_zero (by rw [← HNW.out]; exact hw)
       rw [this]; rfl)
      subst hw
      by_cases hb : by_ = []
      ·have HBT2 := Lib.hid (show (by_.isEmpty || nameB kwsL by_) = true by rw [hb]; rfl)
       subst hb
       have HSQ := Lib.hid (show SQ = (decide (0 ≤ mode) && decide (mode ≤ 2) && decide (0 ≤ after) && decide (after ≤ 3)) by rw [HRES.out, HWT.out, HBT2.out]; simp)
       by_cases ha : after = 0 ∨ after = 1 ∨ after = 2 ∨ after = 3
       ·by_cases hm : mode = 0 ∨ mode = 1 ∨ mode = 2
        ·have HNO := Lib.hid (show SQ = true by rw [HSQ.out]; rcases ha with rfl | rfl | rfl | rfl <;> rcases hm with rfl | rfl | rfl <;> rfl)
         clear HSQ
         rcases ha with rfl | rfl | rfl | rfl <;> rcases hm with rfl | rfl | rfl
         all_goals (
          go_wp2_with fail
          go_ret
          exact ⟨by rw [HNO.out]; rfl, HB5.out⟩)
        ·have HNO := Lib.hid (show SQ = false by
          have h1 : ¬ (0 ≤ mode ∧ mode ≤ 2) := by omega
          rw [HSQ.out, ← Bool.not_eq_true]
          simp only [Bool.and_eq_true, decide_eq_true_eq]
          omega)
         have m0 : (mode == 0) = false := by simp; omega
         have m1 : (mode == 1) = false := by simp; omega
         have m2 : (mode == 2) = false := by simp; omega
         clear HSQ hm
         rcases ha with rfl | rfl | rfl | rfl
         all_goals (
          go_wp2_with fail
          go_ret
          exact ⟨by rw [HNO.out]; rfl, HB5.out⟩)
       ·have HNO := Lib.hid (show SQ = false by
         rw [HSQ.out, ← Bool.not_eq_true]
         simp only [Bool.and_eq_true, decide_eq_true_eq]
         omega)
        have m0 : (after == 0) = false := by simp; omega
        have m1 : (after == 1) = false := by simp; omega
        have m2 : (after == 2) = false := by simp; omega
        have m3 : (after == 3) = false := by simp; omega
        have n0 : (after != 0) = true := by simp; omega
        have n1 : (after != 1) = true := by simp; omega
        have n2 : (after != 2) = true := by simp; omega
        have n3 : (after != 3) = true := by simp; omega
        clear HSQ ha
        go_wp2_with fail
        go_ret
        exact ⟨by rw [HNO.out]; rfl, HB5.out⟩
      ·have hb' := (nil_facts by_ hb).1
       have HBE := Lib.hid (nil_facts by_ hb).2
       clear hb
       go_wp2_with fail
       refine (rIsName_any ⟨by_.toArray⟩ _ hkw).mono ?_
       rintro e w7 ⟨rfl, hb7⟩
       rw [sl_T]
       have HB7 := Lib.hid (HB5.out.trans (hb7.mono HB5.out.size))
       have HE7 := Lib.hid (HE5.out.below hb7)
       have d1 := HE7.out.ci 1 rfl
       have d2 := HE7.out.ci 2 rfl
       clear hb7
       cases hv : nameB kwsL by_ with
       | false =>
        have HNO := Lib.hid (show SQ = false by rw [HRES.out, HBE.out, hv]; simp)
        clear hv
        go_wp2_with fail
        go_ret
        exact ⟨by rw [HNO.out]; rfl, HB7.out⟩
       | true =>
        have HBT2 := Lib.hid (show (by_.isEmpty || nameB kwsL by_) = true by rw [hv]; simp)
        clear hv
        have HSQ := Lib.hid (show SQ = (decide (0 ≤ mode) && decide (mode ≤ 2) && decide (0 ≤ after) && decide (after ≤ 3)) by rw [HRES.out, HWT.out, HBT2.out]; simp)
        by_cases ha : after = 0 ∨ after = 1 ∨ after = 2 ∨ after = 3
        ·by_cases hm : mode = 0 ∨ mode = 1 ∨ mode = 2
         ·have HNO := Lib.hid (show SQ = true by rw [HSQ.out]; rcases ha with rfl | rfl | rfl | rfl <;> rcases hm with rfl | rfl | rfl <;> rfl)
          clear HSQ
          rcases ha with rfl | rfl | rfl | rfl <;> rcases hm with rfl | rfl | rfl
          all_goals (
           go_wp2_with fail
           go_ret
           exact ⟨by rw [HNO.out]; rfl, HB7.out⟩)
         ·have HNO := Lib.hid (show SQ = false by
           have h1 : ¬ (0 ≤ mode ∧ mode ≤ 2) := by omega
           rw [HSQ.out, ← Bool.not_eq_true]
           simp only [Bool.and_eq_true, decide_eq_true_eq]
           omega)
          have m0 : (mode == 0) = false := by simp; omega
          have m1 : (mode == 1) = false := by simp; omega
          have m2 : (mode == 2) = false := by simp; omega
          clear HSQ hm
          rcases ha with rfl | rfl | rfl | rfl
          all_goals (
           go_wp2_with fail
           go_ret
           exact ⟨by rw [HNO.out]; rfl, HB7.out⟩)
        ·have HNO := Lib.hid (show SQ = false by
          rw [HSQ.out, ← Bool.not_eq_true]
          simp only [Bool.and_eq_true, decide_eq_true_eq]
          omega)
         have m0 : (after == 0) = false := by simp; omega
         have m1 : (after == 1) = false := by simp; omega
         have m2 : (after == 2) = false := by simp; omega
         have m3 : (after == 3) = false := by simp; omega
         have n0 : (after != 0) = true := by simp; omega
         have n1 : (after != 1) = true := by simp; omega
         have n2 : (after != 2) = true := by simp; omega
         have n3 : (after != 3) = true := by simp; omega
         clear HSQ ha
         go_wp2_with fail
         go_ret
         exact ⟨by rw [HNO.out]; rfl, HB7.out⟩
     ·have hw1 : (0 : Int) < nw := by omega
      have HWE := Lib.hid (show wher.isEmpty = false by cases wher with
       | nil => exact absurd HNW.out hw
       | cons _ _ => rfl)
      clear hw
      go_wp2_with fail
      refine (HTR.out).mono ?_
      rintro e w6 ⟨rfl, hb6⟩
      have HB6 := Lib.hid (HB5.out.trans (hb6.mono HB5.out.size))
      have HE6 := Lib.hid (HE5.out.below hb6)
      have d1 := HE6.out.ci 1 rfl
      have d2 := HE6.out.ci 2 rfl
      have d5 := HE6.out.ci 5 rfl
      have hkw := HK.out.below HB6.out
      clear hb6
      cases hv : treeR (nameB kwsL) wher with
      | false =>
       have HNO := Lib.hid (show SQ = false by rw [HRES.out, HWE.out, hv]; simp)
       clear hv
       go_wp2_with fail
       go_ret
       exact ⟨by rw [HNO.out]; rfl, HB6.out⟩
      | true =>
       have HWT := Lib.hid (show (wher.isEmpty || treeR (nameB kwsL) wher) = true by rw [hv]; simp)
       clear hv
       by_cases hb : by_ = []
       ·have HBT2 := Lib.hid (show (by_.isEmpty || nameB kwsL by_) = true by rw [hb]; rfl)
        subst hb
        have HSQ := Lib.hid (show SQ = (decide (0 ≤ mode) && decide (mode ≤ 2) && decide (0 ≤ after) && decide (after ≤ 3)) by rw [HRES.out, HWT.out, HBT2.out]; simp)
        by_cases ha : after = 0 ∨ after = 1 ∨ after = 2 ∨ after = 3
        ·by_cases hm : mode = 0 ∨ mode = 1 ∨ mode = 2
         ·have HNO := Lib.hid (show SQ = true by rw [HSQ.out]; rcases ha with rfl | rfl | rfl | rfl <;> rcases hm with rfl | rfl | rfl <;> rfl)
          clear HSQ
          rcases ha with rfl | rfl | rfl | rfl <;> rcases hm with rfl | rfl | rfl
          all_goals (
           go_wp2_with fail
           go_ret
           exact ⟨by rw [HNO.out]; rfl, HB6.out⟩)
         ·have HNO := Lib.hid (show SQ = false by
           have h1 : ¬ (0 ≤ mode ∧ mode ≤ 2) := by omega
           rw [HSQ.out, ← Bool.not_eq_true]
           simp only [Bool.and_eq_true, decide_eq_true_eq]
           omega)
          have m0 : (mode == 0) = false := by simp; omega
          have m1 : (mode == 1) = false := by simp; omega
          have m2 : (mode == 2) = false := by simp; omega
          clear HSQ hm
          rcases ha with rfl | rfl | rfl | rfl
          all_goals (
           go_wp2_with fail
           go_ret
           exact ⟨by rw [HNO.out]; rfl, HB6.out⟩)
        ·have HNO := Lib.hid (show SQ = false by
          rw [HSQ.out, ← Bool.not_eq_true]
          simp only [Bool.and_eq_true, decide_eq_true_eq]
          omega)
         have m0 : (after == 0) = false := by simp; omega
         have m1 : (after == 1) = false := by simp; omega
         have m2 : (after == 2) = false := by simp; omega
         have m3 : (after == 3) = false := by simp; omega
         have n0 : (after != 0) = true := by simp; omega
         have n1 : (after != 1) = true := by simp; omega
         have n2 : (after != 2) = true := by simp; omega
         have n3 : (after != 3) = true := by simp; omega
         clear HSQ ha
         go_wp2_with fail
         go_ret
         exact ⟨by rw [HNO.out]; rfl, HB6.out⟩
       ·have hb' := (nil_facts by_ hb).1
        have HBE := Lib.hid (nil_facts by_ hb).2
        clear hb
        go_wp2_with fail
        refine (rIsName_any ⟨by_.toArray⟩ _ hkw).mono ?_
        rintro e w7 ⟨rfl, hb7⟩
        rw [sl_T]
        have HB7 := Lib.hid (HB6.out.trans (hb7.mono HB6.out.size))
        have HE7 := Lib.hid (HE6.out.below hb7)
        have d1 := HE7.out.ci 1 rfl
        have d2 := HE7.out.ci 2 rfl
        clear hb7
        cases hv : nameB kwsL by_ with
        | false =>
         have HNO := Lib.hid (show SQ = false by rw [HRES.out, HBE.out, hv]; simp)
         clear hv
         go_wp2_with fail
         go_ret
         exact ⟨by rw [HNO.out]; rfl, HB7.out⟩
        | true =>
         have HBT2 := Lib.hid (show (by_.isEmpty || nameB kwsL by_) = true by rw [hv]; simp)
         clear hv
         have HSQ := Lib.hid (show SQ = (decide (0 ≤ mode) && decide (mode ≤ 2) && decide (0 ≤ after) && decide (after ≤ 3)) by rw [HRES.out, HWT.out, HBT2.out]; simp)
         by_cases ha : after = 0 ∨ after = 1 ∨ after = 2 ∨ after = 3
         ·by_cases hm : mode = 0 ∨ mode = 1 ∨ mode = 2
          ·have HNO := Lib.hid (show SQ = true by rw [HSQ.out]; rcases ha with rfl | rfl | rfl | rfl <;> rcases hm with rfl | rfl | rfl <;> rfl)
           clear HSQ
           rcases ha with rfl | rfl | rfl | rfl <;> rcases hm with rfl | rfl | rfl
           all_goals (
            go_wp2_with fail
            go_ret
            exact ⟨by rw [HNO.out]; rfl, HB7.out⟩)
          ·have HNO := Lib.hid (show SQ = false by
            have h1 : ¬ (0 ≤ mode ∧ mode ≤ 2) := by omega
            rw [HSQ.out, ← Bool.not_eq_true]
            simp only [Bool.and_eq_true, decide_eq_true_eq]
            omega)
           have m0 : (mode == 0) = false := by simp; omega
           have m1 : (mode == 1) = false := by simp; omega
           have m2 : (mode == 2) = false := by simp; omega
           clear HSQ hm
           rcases ha with rfl | rfl | rfl | rfl
           all_goals (
            go_wp2_with fail
            go_ret
            exact ⟨by rw [HNO.out]; rfl, HB7.out⟩)
         ·have HNO := Lib.hid (show SQ = false by
           rw [HSQ.out, ← Bool.not_eq_true]
           simp only [Bool.and_eq_true, decide_eq_true_eq]
           omega)
          have m0 : (after == 0) = false := by simp; omega
          have m1 : (after == 1) = false := by simp; omega
          have m2 : (after == 2) = false := by simp; omega
          have m3 : (after == 3) = false := by simp; omega
          have n0 : (after != 0) = true := by simp; omega
          have n1 : (after != 1) = true := by simp; omega
          have n2 : (after != 2) = true := by simp; omega
          have n3 : (after != 3) = true := by simp; omega
          clear HSQ ha
          go_wp2_with fail
          go_ret
          exact ⟨by rw [HNO.out]; rfl, HB7.out⟩
end Go.Proofs.YtfglgpbjjpoimaaGreatDoor
