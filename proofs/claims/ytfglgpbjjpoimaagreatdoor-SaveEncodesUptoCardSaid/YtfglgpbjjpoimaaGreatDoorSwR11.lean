/- SaveEncodes: the reference's Print. -/
import Derived.Test.YtfglgpbjjpoimaaGreatDoorSwGM
import Derived.Test.YtfglgpbjjpoimaaGreatDoorSwR3
import Derived.Test.YtfglgpbjjpoimaaGreatDoorSwGO
set_option linter.unusedVariables false
namespace Go.Proofs.YtfglgpbjjpoimaaGreatDoor
open Go.RowKit Sv
theorem shQ {q : Qy} (h : shapedQ (nameB kwsL) q = true) : (0 ≤ q.mode ∧ q.mode ≤ 2) ∧ (0 ≤ q.after ∧ q.after ≤ 3) ∧ (∀ x ∈ q.items, shapedIt (nameB kwsL) x = true) ∧ (q.wher = [] ∨ treeB (nameB kwsL) q.wher = true) ∧ (q.by_.length ≤ 16) ∧ (∀ t ∈ q.ret, treeB (nameB kwsL) t = true) := by
 unfold shapedQ at h
 simp only [Bool.and_eq_true, decide_eq_true_eq, Bool.or_eq_true, List.all_eq_true, List.isEmpty_iff] at h
 obtain ⟨⟨⟨⟨⟨⟨⟨⟨⟨_, h1⟩, h2⟩, h3⟩, h4⟩, h5⟩, h6⟩, h7⟩, h8⟩, h9⟩ := h
 refine ⟨⟨h1, h2⟩, ⟨h3, h4⟩, h6, h7, ?_, h9⟩
 rcases h8 with h8 | h8
 ·rw [h8]; simp
 ·exact nm16 h8
theorem large_parts {q : Qy} (h : ¬ 1200 < largeN q) : q.items.length ≤ 1200 ∧ q.ret.length ≤ 1200 := by
 unfold largeN at h
 omega
set_option maxHeartbeats 4000000 in
set_option maxRecDepth 20000 in
theorem rprint_any (x : Qm) (w : World) (hl : Ld w) (h : RdQ w x) (hB : QB x) (hi : QI x.q) : Calls Tryz.prog 41 #[.agg (qmc x).toArray] w (PrintR x.q w) := by
 obtain ⟨w0', hw0'⟩ : ∃ w0', w0' = w.alloc (.cells (qmc x).toArray 31) := ⟨_, rfl⟩
 have hlg : ∀ W, Below w.heap.size w W → Calls Tryz.prog 85 #[.agg (qmc x).toArray] W fun e w' => e = .returned (.bool (decide (1200 < largeN x.q))) ∧ Below W.heap.size W w' := fun W hb => rlarge_any x W (h.below hb) hB
 clear hw0'
 have hBn := hB.items
 have hBw := hB.wher
 have hBr := hB.ret
 obtain ⟨w0, hw0⟩ : ∃ w0, w0 = w.alloc (.cells (qmc x).toArray 31) := ⟨_, rfl⟩
 have hb0 : Below w.heap.size w w0 := by rw [hw0]; exact (Below.refl _ _).alloc (Nat.le_refl _) _
 have hE0 : Blk w0 w.heap.size 31 (qmc x) := by rw [hw0]; exact Blk.new w _ 31
 have hshp := rshaped_any x w0 (hl.kw.below hb0) (h.below hb0) hB
 have HL := Lib.hid (hl.below hb0)
 have HR := Lib.hid (h.below hb0)
 have HQB := Lib.hid hB
 have HQI := Lib.hid hi
 obtain ⟨q, hq⟩ : ∃ q, q = x.q := ⟨_, rfl⟩
 have HQ := Lib.hid hq
 rw [← hq] at hshp hlg ⊢
 clear hb0 hl h hB hi hq
 obtain ⟨items, ia, ic, mode, after, wher, wwa, wcap, within, by_, ret, ra, rc⟩ := x
 dsimp only at hBn hBw hBr
 obtain ⟨n, hn⟩ : ∃ n, n = items.length := ⟨_, rfl⟩
 obtain ⟨nw, hnw⟩ : ∃ n, n = wher.length := ⟨_, rfl⟩
 obtain ⟨nr, hnr⟩ : ∃ n, n = ret.length := ⟨_, rfl⟩
 simp only [qmc, T, ← hn, ← hnw, ← hnr] at hshp hlg hE0 hw0 ⊢
 rw [← hn] at hBn
 rw [← hnw] at hBw
 rw [← hnr] at hBr
 have HN := Lib.hid hn
 have HNW := Lib.hid hnw
 have HNR := Lib.hid hnr
 have HE := Lib.hid hE0
 have HSHP := Lib.hid hshp
 have HLG := Lib.hid hlg
 obtain ⟨gq, hgq⟩ : ∃ gq, gq = w.heap.size := ⟨_, rfl⟩
 have HGQ := Lib.hid hgq
 have HB0 := Lib.hid (show Below w.heap.size w w0 by rw [hw0]; exact (Below.refl _ _).alloc (Nat.le_refl _) _)
 clear hn hnw hnr hE0 hshp hlg
 go_enter Tryz.func41, Tryz.ntmps41
 go_wp2_with fail
 rw [← hw0]
 refine (HSHP.out).mono ?_
 rintro e w1 ⟨rfl, hb1⟩
 cases hsp : shapedQ (nameB kwsL) q with
 | false =>
  have HSP := Lib.hid hsp
  have HB1 := Lib.hid (HB0.out.trans (hb1.mono HB0.out.size))
  clear hsp hb1 hw0
  go_wp2_with fail
  go_ret2
  exact ⟨50, [], rfl, ⟨fun h => absurd h (by decide), fun h => absurd h.1 (by rw [HSP.out]; simp)⟩, fun h => absurd h (by decide), HB1.out⟩
 | true =>
 have HSP := Lib.hid hsp
 have HB1 := Lib.hid (HB0.out.trans (hb1.mono HB0.out.size))
 have hE1 := HE.out.below hb1
 clear hgq
 have b0 := hE1.ci 0 rfl
 have b1 := hE1.ci 1 rfl
 have b2 := hE1.ci 2 rfl
 have b3 := hE1.ci 3 rfl
 have b4 := hE1.ci 4 rfl
 have b5 := hE1.ci 5 rfl
 have b6 := hE1.ci 6 rfl
 go_wp2_with fail
 refine (HLG.out w1 HB1.out).mono ?_
 rintro e w1b ⟨rfl, hb1b⟩
 have HB1B := Lib.hid (HB1.out.trans (hb1b.mono HB1.out.size))
 clear b0 b1 b2 b3 b4 b5 b6 hE1
 by_cases hlar : 1200 < largeN q
 ·have HLAR := Lib.hid hlar
  rw [show decide (1200 < largeN q) = true by simpa using hlar]
  clear hlar hsp hb1 hb1b hw0
  go_wp2_with fail
  go_ret2
  exact ⟨51, [], rfl, ⟨fun h => absurd h (by decide), fun h => absurd h.2 (by unfold ansR; rw [if_pos HLAR.out]; simp)⟩, fun h => absurd h (by decide), HB1B.out⟩
 rw [show decide (1200 < largeN q) = false by simpa using hlar]
 have HLAR := Lib.hid hlar
 have HLP := Lib.hid (large_parts hlar)
 have HSQ := Lib.hid (shQ hsp)
 have hb1 := hb1.trans (hb1b.mono hb1.size)
 obtain ⟨w1, rfl⟩ : ∃ w1, w1 = w1b := ⟨_, rfl⟩
 have HB1 := HB1B
 obtain ⟨w2, hw2⟩ : ∃ w2, w2 = w1.alloc (.cells #[.string ⟨#[80, 65, 84, 84, 69, 82, 78, 32, 83, 69, 81, 32, 40]⟩, .int .i64 3, .int .i64 0] 172) := ⟨_, rfl⟩
 have hb2 : Below w1.heap.size w1 w2 := by rw [hw2]; exact (Below.refl _ _).alloc (Nat.le_refl _) _
 obtain ⟨g, hg⟩ : ∃ g, g = w1.heap.size := ⟨_, rfl⟩
 have hxw0 : XW g w2 1 startR w2 := ⟨Below.refl _ _, by rw [hw2, hg]; exact Blk.new w1 (tlc startR) 172, ⟨by decide, by decide, by decide⟩⟩
 have HG := Lib.hid (show g ≤ w2.heap.size by rw [hg]; exact hb2.size)
 have HOLD := Lib.hid (show ∀ w', Below g w2 w' → Below w1.heap.size w1 w' from fun w' hb => by rw [hg] at hb; exact hb2.trans hb)
 have HOQ := Lib.hid (show ∀ w', Below g w2 w' → Ld w' ∧ RdQ w' ⟨items, ia, ic, mode, after, wher, wwa, wcap, within, by_, ret, ra, rc⟩ ∧ Blk w' gq 31 [.slice ia n ic, .int .i64 mode, .int .i64 after, .slice wwa nw wcap, .int .i64 within, .string ⟨by_.toArray⟩, .slice ra nr rc] from fun w' hb => by
  have h1 := HOLD.out w' hb
  have h2 := hb1.trans (h1.mono hb1.size)
  exact ⟨HL.out.below h2, HR.out.below h2, by rw [HGQ.out]; exact HE.out.below h2⟩)
 have HFB := Lib.hid (show ∀ w', Below g w2 w' → Below w.heap.size w w' from fun w' hb => HB1.out.trans ((HOLD.out w' hb).mono HB1.out.size))
 have HQF := Lib.hid (show q.items = items.map (·.i) ∧ q.mode = mode ∧ q.after = after ∧ q.wher = wher ∧ q.within = within ∧ q.by_ = by_ ∧ q.ret = ret.map (·.t) by rw [HQ.out]; exact ⟨rfl, rfl, rfl, rfl, rfl, rfl, rfl⟩)
 have HXW := Lib.hid hxw0
 have HIB := Lib.hid (show QI q by rw [HQ.out]; exact HQI.out)
 obtain ⟨X0, hX0⟩ : ∃ X0, X0 = startR := ⟨_, rfl⟩
 rw [← hX0] at HXW
 have HX0 := Lib.hid hX0
 clear hsp hb1 hb1b hb2 hw0 hlar hxw0 hX0 HB1B
 go_upto_block 0 with fail
 rw [← hw2, ← hg, ← HGQ.out]
 clear hw2 hg
 go_cut [] from 7 (fun wx => XW g w2 2500 (itemsR fmtI q.items 0 X0) wx)
 case first =>
  go_wp2_with fail
  go_loopw [5] (fun i wr => ∃ (k : Nat) (x : Tl), k ≤ n ∧ i = .int .i64 (k : Int) ∧ itemsR fmtI q.items 0 X0 = itemsR fmtI (q.items.drop k) k x ∧ XW g w2 (2 * k + 1) x wr) (fun i _ => n - (intOf i).toNat)
  case atStart => exact ⟨0, X0, Nat.zero_le _, rfl, rfl, HXW.out⟩
  case round =>
   obtain ⟨k, x, hkn, rfl, hlo, hxw⟩ := hrel
   have HLO := Lib.hid hlo
   have HXW := Lib.hid hxw
   have HNL := Lib.hid (show n ≤ 1200 by have := HLP.out.1; rw [HQF.out.1, List.length_map, ← HN.out] at this; exact this)
   have hOQ := HOQ.out wr hxw.1
   have q0 := hOQ.2.2.ci 0 rfl
   clear hlo hxw
   by_cases hlt : k < n
   ·have hkl : k < items.length := by rw [← HN.out]; exact hlt
    have hlt' : (k : Int) < n := by omega
    have hk0 : (0 : Int) ≤ k := by omega
    have hdrop : q.items.drop k = items[k].i :: q.items.drop (k + 1) := by
     rw [HQF.out.1, List.drop_eq_getElem_cons (by simpa using hkl), List.getElem_map]
    have hmem : items[k].i ∈ q.items := by rw [HQF.out.1]; exact List.mem_map_of_mem (List.getElem_mem hkl)
    have hsh := shIt (HSQ.out.2.2.1 _ hmem)
    have hii := HIB.out.items _ hmem
    have hbt := HQB.out.types _ (List.getElem_mem hkl)
    try dsimp only at hbt
    have hold : ∀ w', Below g w2 w' → ∃ b off, ia = some ⟨b, off, none⟩ ∧ w'.cell? ⟨b, off + k * 5, none⟩ = some (.bool items[k].i.neg) ∧ w'.cell? ⟨b, off + k * 5 + 1, none⟩ = some (.slice items[k].a items[k].i.types.length items[k].c) ∧ w'.cell? ⟨b, off + k * 5 + 2, none⟩ = some (T items[k].i.var) ∧ w'.cell? ⟨b, off + k * 5 + 3, none⟩ = some (.int .i64 items[k].i.lo) ∧ w'.cell? ⟨b, off + k * 5 + 4, none⟩ = some (.int .i64 items[k].i.hi) := fun w' hb => (HOQ.out w' hb).2.1.1.at k hkl
    have hrds : ∀ w', Below g w2 w' → RdS w' items[k].a items[k].i.types := fun w' hb => (HOQ.out w' hb).2.1.1.2 _ (List.getElem_mem hkl)
    obtain ⟨b, off, hia, _⟩ := hold w2 (Below.refl _ _)
    obtain ⟨y, hy⟩ : ∃ y, y = items[k] := ⟨_, rfl⟩
    rw [← hy] at hdrop hsh hii hbt hold hrds
    have hcl : ∀ W, Below g w2 W → Calls Tryz.prog 87 #[.agg #[.bool y.i.neg, .slice y.a y.i.types.length y.c, .string ⟨y.i.var.toArray⟩, .int .i64 y.i.lo, .int .i64 y.i.hi]] W (BhR (itemR fmtI y.i) W) := fun W hb => it_tl y W (HOQ.out W hb).1 (hrds W hb) hsh.1 hbt hsh.2.1 hsh.2.2 hii.1 hii.2
    have hcells : ∀ w', Below g w2 w' → w'.cell? ⟨b, off + k * 5, none⟩ = some (.bool y.i.neg) ∧ w'.cell? ⟨b, off + k * 5 + 1, none⟩ = some (.slice y.a y.i.types.length y.c) ∧ w'.cell? ⟨b, off + k * 5 + 2, none⟩ = some (.string ⟨y.i.var.toArray⟩) ∧ w'.cell? ⟨b, off + k * 5 + 3, none⟩ = some (.int .i64 y.i.lo) ∧ w'.cell? ⟨b, off + k * 5 + 4, none⟩ = some (.int .i64 y.i.hi) := fun w' hb => by
     obtain ⟨b', off', h1, h2⟩ := hold w' hb
     rw [hia] at h1
     cases h1
     exact h2
    have HISM := Lib.hid (item_sm hsh.2.1 hbt hsh.2.2 hii.1 hii.2)
    have HCL := Lib.hid hcl
    have HCELLS := Lib.hid hcells
    have HME := Lib.hid (meas_lt hlt)
    have HKS := Lib.hid (show k + 1 ≤ n from hlt)
    have HLO2 := Lib.hid (show itemsR fmtI q.items 0 X0 = itemsR fmtI (q.items.drop (k + 1)) (k + 1) (behindR (if 0 < k then behindR x ⟨[44], 1, 0⟩ else x) (itemR fmtI y.i)) by rw [HLO.out, hdrop]; rfl)
    obtain ⟨YI, hYI⟩ : ∃ YI, YI = itemR fmtI y.i := ⟨_, rfl⟩
    rw [← hYI] at HISM HCL HLO2
    clear hdrop hmem hsh hii hbt hold hrds hcl hcells hYI hy hOQ
    subst hia
    have hN1200 := HNL.out
    obtain ⟨z0, z1, z2, c0, c1, c2⟩ := HXW.out.f
    by_cases hk00 : k = 0
    ·have hk0' : ¬ (0 : Int) < k := by omega
     have HLO3 := Lib.hid (show itemsR fmtI q.items 0 X0 = itemsR fmtI (q.items.drop (k + 1)) (k + 1) (behindR x YI) by rw [HLO2.out, if_neg (by omega)])
     clear hk00
     obtain ⟨X2, hX2⟩ : ∃ X, X = behindR x YI := ⟨_, rfl⟩
     have HX2 := Lib.hid hX2
     have hbh := bh_tl x YI (smK_ok HXW.out.2.2 (by omega)) (sm_up HISM.out)
     rw [← hX2] at hbh
     have HSX := Lib.hid (show SmK ((2 * k + 1) + 1) X2 by rw [hX2]; exact smK_behind HXW.out.2.2 HISM.out)
     have HBH := Lib.hid hbh
     have HBW := Lib.hid (show Below wr.heap.size wr wr.drew from (Below.refl _ _).drew)
     clear hX2 hbh
     go_wp2_with fail
     clear z0 z1 z2 c0 c1 c2
     obtain ⟨z0, z1, z2, c0, c1, c2⟩ := (HXW.out.below HBW.out).f
     have q0 := (HOQ.out _ (HXW.out.1.trans (HBW.out.mono (Nat.le_of_lt HXW.out.2.1.lt)))).2.2.ci 0 rfl
     obtain ⟨i0, i1, i2, i3, i4⟩ := HCELLS.out _ (HXW.out.1.trans (HBW.out.mono (Nat.le_of_lt HXW.out.2.1.lt)))
     go_region_law (first
      | (go_simp; go_at_call 86; refine (HBH.out _).mono ?_; rintro e wN ⟨rfl, hbN⟩; (have HBW := Lib.hid (HBW.out.trans (hbN.mono HBW.out.size))); (have HXN := Lib.hid (HXW.out.below HBW.out)); clear z0 z1 z2 c0 c1 c2 hbN; obtain ⟨z0, z1, z2, c0, c1, c2⟩ := HXN.out.f; (have HXS := Lib.hid (HXN.out.set X2 HSX.out)))
      | (go_simp; go_at_call 87; refine (HCL.out _ (HXW.out.1.trans (HBW.out.mono (Nat.le_of_lt HXW.out.2.1.lt)))).mono ?_; rintro e wM ⟨rfl, hbM⟩; (have HBW := Lib.hid (HBW.out.trans (hbM.mono HBW.out.size))); clear z0 z1 z2 c0 c1 c2 hbM; obtain ⟨z0, z1, z2, c0, c1, c2⟩ := (HXW.out.below HBW.out).f))
     all_goals (
      go_wp2_with fail
      go_roundw
      case rel => exact ⟨k + 1, X2, HKS.out, by go_num, by rw [HLO3.out, HX2.out], HXS.out.weak (by omega)⟩
      case measure => exact HME.out)
    ·have hk0' : (0 : Int) < k := by omega
     obtain ⟨X1, hX1⟩ : ∃ X, X = behindR x ⟨[44], 1, 0⟩ := ⟨_, rfl⟩
     have HX1 := Lib.hid hX1
     have hbh := bh_lit x ([44]) 1 1 rfl (smK_ok HXW.out.2.2 (by omega)) (by decide) (by decide)
     rw [← hX1] at hbh
     have HSX := Lib.hid (show SmK ((2 * k + 1) + 1) X1 by rw [hX1]; exact smK_behind HXW.out.2.2 (smK_lit (by decide) (by decide)))
     have HBH := Lib.hid hbh
     clear hX1 hbh
     go_wp2_with fail
     refine (HBH.out _).mono ?_
     rintro e wN ⟨rfl, hbN⟩
     have HXN := Lib.hid (HXW.out.below hbN)
     clear z0 z1 z2 c0 c1 c2 hbN
     obtain ⟨z0, z1, z2, c0, c1, c2⟩ := HXN.out.f
     have HXS := Lib.hid (HXN.out.set X1 HSX.out)
     have HLO3 := Lib.hid (show itemsR fmtI q.items 0 X0 = itemsR fmtI (q.items.drop (k + 1)) (k + 1) (behindR X1 YI) by rw [HLO2.out, if_pos (by omega), HX1.out])
     clear hk00
     obtain ⟨wS, hwS⟩ : ∃ v, v = (((wN.setCell ⟨g, 0, none⟩ (.string ⟨X1.text.toArray⟩)).setCell ⟨g, 1, none⟩ (.int .i64 X1.toks)).setCell ⟨g, 2, none⟩ (.int .i64 X1.deep)) := ⟨_, rfl⟩
     rw [← hwS] at HXS
     go_upto_region 11 with fail
     rw [← hwS]
     clear hwS z0 z1 z2 c0 c1 c2
     have HXW := HXS
     obtain ⟨z0, z1, z2, c0, c1, c2⟩ := HXW.out.f
     have q0 := (HOQ.out wS HXW.out.1).2.2.ci 0 rfl
     obtain ⟨X2, hX2⟩ : ∃ X, X = behindR X1 YI := ⟨_, rfl⟩
     have HX2 := Lib.hid hX2
     have hbh := bh_tl X1 YI (smK_ok HXW.out.2.2 (by omega)) (sm_up HISM.out)
     rw [← hX2] at hbh
     have HSX := Lib.hid (show SmK ((2 * k + 1 + 1) + 1) X2 by rw [hX2]; exact smK_behind HXW.out.2.2 HISM.out)
     have HBH := Lib.hid hbh
     have HBW := Lib.hid (show Below wS.heap.size wS wS.drew from (Below.refl _ _).drew)
     clear hX2 hbh
     go_wp2_with fail
     clear z0 z1 z2 c0 c1 c2
     obtain ⟨z0, z1, z2, c0, c1, c2⟩ := (HXW.out.below HBW.out).f
     have q0 := (HOQ.out _ (HXW.out.1.trans (HBW.out.mono (Nat.le_of_lt HXW.out.2.1.lt)))).2.2.ci 0 rfl
     obtain ⟨i0, i1, i2, i3, i4⟩ := HCELLS.out _ (HXW.out.1.trans (HBW.out.mono (Nat.le_of_lt HXW.out.2.1.lt)))
     go_region_law (first
      | (go_simp; go_at_call 86; refine (HBH.out _).mono ?_; rintro e wN ⟨rfl, hbN⟩; (have HBW := Lib.hid (HBW.out.trans (hbN.mono HBW.out.size))); (have HXN := Lib.hid (HXW.out.below HBW.out)); clear z0 z1 z2 c0 c1 c2 hbN; obtain ⟨z0, z1, z2, c0, c1, c2⟩ := HXN.out.f; (have HXS := Lib.hid (HXN.out.set X2 HSX.out)))
      | (go_simp; go_at_call 87; refine (HCL.out _ (HXW.out.1.trans (HBW.out.mono (Nat.le_of_lt HXW.out.2.1.lt)))).mono ?_; rintro e wM ⟨rfl, hbM⟩; (have HBW := Lib.hid (HBW.out.trans (hbM.mono HBW.out.size))); clear z0 z1 z2 c0 c1 c2 hbM; obtain ⟨z0, z1, z2, c0, c1, c2⟩ := (HXW.out.below HBW.out).f))
     all_goals (
      go_wp2_with fail
      go_roundw
      case rel => exact ⟨k + 1, X2, HKS.out, by go_num, by rw [HLO3.out, HX2.out], HXS.out.weak (by omega)⟩
      case measure => exact HME.out)
   ·have hk' : ¬ (k : Int) < n := by omega
    have HL2 := Lib.hid (show itemsR fmtI q.items 0 X0 = x by
     rw [HLO.out, List.drop_eq_nil_of_le (by rw [HQF.out.1, List.length_map, ← HN.out]; omega)]; rfl)
    go_wp2_with fail
    go_meet
    case rel => rw [HL2.out]; exact HXW.out.weak (by have := HNL.out; omega)
 case rest =>
  obtain ⟨XA, hXA⟩ : ∃ X, X = itemsR fmtI q.items 0 X0 := ⟨_, rfl⟩
  rw [← hXA] at hcut
  have HXA := Lib.hid hXA
  have HXW := Lib.hid hcut
  clear hcut hXA
  obtain ⟨z0, z1, z2, c0, c1, c2⟩ := HXW.out.f
  obtain ⟨XB, hXB⟩ : ∃ X, X = behindR XA ⟨[41], 1, 0⟩ := ⟨_, rfl⟩
  have HXB := Lib.hid hXB
  have hbh := bh_lit XA ([41]) 1 1 rfl (smK_ok HXW.out.2.2 (by omega)) (by decide) (by decide)
  rw [← hXB] at hbh
  have HSX := Lib.hid (show SmK (2500 + 1) XB by rw [hXB]; exact smK_behind HXW.out.2.2 (smK_lit (by decide) (by decide)))
  have HBH := Lib.hid hbh
  clear hXB hbh
  go_wp2_with fail
  refine (HBH.out _).mono ?_
  rintro e wN ⟨rfl, hbN⟩
  have HXN := Lib.hid (HXW.out.below hbN)
  clear z0 z1 z2 c0 c1 c2 hbN
  obtain ⟨z0, z1, z2, c0, c1, c2⟩ := HXN.out.f
  have HXS := Lib.hid (HXN.out.set XB HSX.out)
  obtain ⟨wS, hwS⟩ : ∃ v, v = (((wN.setCell ⟨g, 0, none⟩ (.string ⟨XB.text.toArray⟩)).setCell ⟨g, 1, none⟩ (.int .i64 XB.toks)).setCell ⟨g, 2, none⟩ (.int .i64 XB.deep)) := ⟨_, rfl⟩
  rw [← hwS] at HXS
  go_upto_region 13 with fail
  rw [← hwS]
  clear hwS z0 z1 z2 c0 c1 c2
  have HXW := HXS
  obtain ⟨z0, z1, z2, c0, c1, c2⟩ := HXW.out.f
  have hm := HSQ.out.1
  rw [HQF.out.2.1] at hm
  have q1 := (HOQ.out wS HXW.out.1).2.2.ci 1 rfl
  go_upto_block 2 with fail
  go_cut [] from 7 (fun wx => XW g w2 2502 (modeR q XB) wx)
  case first =>
   have hmc : mode = 0 ∨ mode = 1 ∨ mode = 2 := by omega
   clear hm
   rcases hmc with rfl | rfl | rfl
   ·have HM := Lib.hid (show modeR q XB = XB by unfold modeR; rw [HQF.out.2.1]; rfl)
    go_wp2_with fail
    go_meet
    case rel => rw [HM.out]; exact HXW.out.weak (by omega)
   ·have HM := Lib.hid (show modeR q XB = behindR XB ⟨[85, 83, 73, 78, 71, 32, 78, 69, 88, 84], 2, 0⟩ by unfold modeR; rw [HQF.out.2.1]; rfl)
    obtain ⟨X2, hX2⟩ : ∃ X, X = behindR XB ⟨[85, 83, 73, 78, 71, 32, 78, 69, 88, 84], 2, 0⟩ := ⟨_, rfl⟩
    have HX2 := Lib.hid hX2
    have hbh := bh_lit XB ([85, 83, 73, 78, 71, 32, 78, 69, 88, 84]) 2 2 rfl (smK_ok HXW.out.2.2 (by omega)) (by decide) (by decide)
    rw [← hX2] at hbh
    have HSX := Lib.hid (show SmK (2501 + 1) X2 by rw [hX2]; exact smK_behind HXW.out.2.2 (smK_lit (by decide) (by decide)))
    have HBH := Lib.hid hbh
    clear hX2 hbh
    go_wp2_with fail
    refine (HBH.out _).mono ?_
    rintro e wN ⟨rfl, hbN⟩
    have HXN := Lib.hid (HXW.out.below hbN)
    clear z0 z1 z2 c0 c1 c2 hbN
    obtain ⟨z0, z1, z2, c0, c1, c2⟩ := HXN.out.f
    have HXS := Lib.hid (HXN.out.set X2 HSX.out)
    go_wp2_with fail
    go_meet
    case rel => rw [HM.out, ← HX2.out]; exact HXS.out.weak (by omega)
   ·have HM := Lib.hid (show modeR q XB = behindR XB ⟨[85, 83, 73, 78, 71, 32, 83, 84, 82, 73, 67, 84], 2, 0⟩ by unfold modeR; rw [HQF.out.2.1]; rfl)
    obtain ⟨X2, hX2⟩ : ∃ X, X = behindR XB ⟨[85, 83, 73, 78, 71, 32, 83, 84, 82, 73, 67, 84], 2, 0⟩ := ⟨_, rfl⟩
    have HX2 := Lib.hid hX2
    have hbh := bh_lit XB ([85, 83, 73, 78, 71, 32, 83, 84, 82, 73, 67, 84]) 2 2 rfl (smK_ok HXW.out.2.2 (by omega)) (by decide) (by decide)
    rw [← hX2] at hbh
    have HSX := Lib.hid (show SmK (2501 + 1) X2 by rw [hX2]; exact smK_behind HXW.out.2.2 (smK_lit (by decide) (by decide)))
    have HBH := Lib.hid hbh
    clear hX2 hbh
    go_wp2_with fail
    refine (HBH.out _).mono ?_
    rintro e wN ⟨rfl, hbN⟩
    have HXN := Lib.hid (HXW.out.below hbN)
    clear z0 z1 z2 c0 c1 c2 hbN
    obtain ⟨z0, z1, z2, c0, c1, c2⟩ := HXN.out.f
    have HXS := Lib.hid (HXN.out.set X2 HSX.out)
    go_wp2_with fail
    go_meet
    case rel => rw [HM.out, ← HX2.out]; exact HXS.out.weak (by omega)
  case rest =>
   obtain ⟨XC, hXC⟩ : ∃ X, X = modeR q XB := ⟨_, rfl⟩
   rw [← hXC] at hcut
   have HXC := Lib.hid hXC
   have HXW := Lib.hid hcut
   clear hcut hXC hm q1 z0 z1 z2 c0 c1 c2
   obtain ⟨z0, z1, z2, c0, c1, c2⟩ := HXW.out.f
   have hm := HSQ.out.2.1
   rw [HQF.out.2.2.1] at hm
   have q2 := (HOQ.out wc HXW.out.1).2.2.ci 2 rfl
   go_upto_block 3 with fail
   go_cut [] from 7 (fun wx => XW g w2 2503 (afterR q XC) wx)
   case first =>
    have hmc : after = 0 ∨ after = 1 ∨ after = 2 ∨ after = 3 := by omega
    clear hm
    rcases hmc with rfl | rfl | rfl | rfl
    ·have HM := Lib.hid (show afterR q XC = XC by unfold afterR; rw [HQF.out.2.2.1]; rfl)
     go_wp2_with fail
     go_meet
     case rel => rw [HM.out]; exact HXW.out.weak (by omega)
    ·have HM := Lib.hid (show afterR q XC = behindR XC ⟨[65, 70, 84, 69, 82, 32, 78, 69, 88, 84], 2, 0⟩ by unfold afterR; rw [HQF.out.2.2.1]; rfl)
     obtain ⟨X2, hX2⟩ : ∃ X, X = behindR XC ⟨[65, 70, 84, 69, 82, 32, 78, 69, 88, 84], 2, 0⟩ := ⟨_, rfl⟩
     have HX2 := Lib.hid hX2
     have hbh := bh_lit XC ([65, 70, 84, 69, 82, 32, 78, 69, 88, 84]) 2 2 rfl (smK_ok HXW.out.2.2 (by omega)) (by decide) (by decide)
     rw [← hX2] at hbh
     have HSX := Lib.hid (show SmK (2502 + 1) X2 by rw [hX2]; exact smK_behind HXW.out.2.2 (smK_lit (by decide) (by decide)))
     have HBH := Lib.hid hbh
     clear hX2 hbh
     go_wp2_with fail
     refine (HBH.out _).mono ?_
     rintro e wN ⟨rfl, hbN⟩
     have HXN := Lib.hid (HXW.out.below hbN)
     clear z0 z1 z2 c0 c1 c2 hbN
     obtain ⟨z0, z1, z2, c0, c1, c2⟩ := HXN.out.f
     have HXS := Lib.hid (HXN.out.set X2 HSX.out)
     go_wp2_with fail
     go_meet
     case rel => rw [HM.out, ← HX2.out]; exact HXS.out.weak (by omega)
    ·have HM := Lib.hid (show afterR q XC = behindR XC ⟨[65, 70, 84, 69, 82, 32, 80, 65, 83, 84], 2, 0⟩ by unfold afterR; rw [HQF.out.2.2.1]; rfl)
     obtain ⟨X2, hX2⟩ : ∃ X, X = behindR XC ⟨[65, 70, 84, 69, 82, 32, 80, 65, 83, 84], 2, 0⟩ := ⟨_, rfl⟩
     have HX2 := Lib.hid hX2
     have hbh := bh_lit XC ([65, 70, 84, 69, 82, 32, 80, 65, 83, 84]) 2 2 rfl (smK_ok HXW.out.2.2 (by omega)) (by decide) (by decide)
     rw [← hX2] at hbh
     have HSX := Lib.hid (show SmK (2502 + 1) X2 by rw [hX2]; exact smK_behind HXW.out.2.2 (smK_lit (by decide) (by decide)))
     have HBH := Lib.hid hbh
     clear hX2 hbh
     go_wp2_with fail
     refine (HBH.out _).mono ?_
     rintro e wN ⟨rfl, hbN⟩
     have HXN := Lib.hid (HXW.out.below hbN)
     clear z0 z1 z2 c0 c1 c2 hbN
     obtain ⟨z0, z1, z2, c0, c1, c2⟩ := HXN.out.f
     have HXS := Lib.hid (HXN.out.set X2 HSX.out)
     go_wp2_with fail
     go_meet
     case rel => rw [HM.out, ← HX2.out]; exact HXS.out.weak (by omega)
    ·have HM := Lib.hid (show afterR q XC = behindR XC ⟨[65, 70, 84, 69, 82, 32, 79, 78, 67, 69], 2, 0⟩ by unfold afterR; rw [HQF.out.2.2.1]; rfl)
     obtain ⟨X2, hX2⟩ : ∃ X, X = behindR XC ⟨[65, 70, 84, 69, 82, 32, 79, 78, 67, 69], 2, 0⟩ := ⟨_, rfl⟩
     have HX2 := Lib.hid hX2
     have hbh := bh_lit XC ([65, 70, 84, 69, 82, 32, 79, 78, 67, 69]) 2 2 rfl (smK_ok HXW.out.2.2 (by omega)) (by decide) (by decide)
     rw [← hX2] at hbh
     have HSX := Lib.hid (show SmK (2502 + 1) X2 by rw [hX2]; exact smK_behind HXW.out.2.2 (smK_lit (by decide) (by decide)))
     have HBH := Lib.hid hbh
     clear hX2 hbh
     go_wp2_with fail
     refine (HBH.out _).mono ?_
     rintro e wN ⟨rfl, hbN⟩
     have HXN := Lib.hid (HXW.out.below hbN)
     clear z0 z1 z2 c0 c1 c2 hbN
     obtain ⟨z0, z1, z2, c0, c1, c2⟩ := HXN.out.f
     have HXS := Lib.hid (HXN.out.set X2 HSX.out)
     go_wp2_with fail
     go_meet
     case rel => rw [HM.out, ← HX2.out]; exact HXS.out.weak (by omega)
   case rest =>
    obtain ⟨XD, hXD⟩ : ∃ X, X = afterR q XC := ⟨_, rfl⟩
    rw [← hXD] at hcut
    have HXD := Lib.hid hXD
    have HXW := Lib.hid hcut
    clear hcut hXD hm q2 z0 z1 z2 c0 c1 c2
    obtain ⟨z0, z1, z2, c0, c1, c2⟩ := HXW.out.f
    have q3 := (HOQ.out wc HXW.out.1).2.2.ci 3 rfl
    go_upto_if 68 with fail
    go_cut [] from 7 (fun wx => XW g w2 2505 (whereR fmtI q XD) wx)
    case first =>
     by_cases hw : nw = 0
     ·have HM := Lib.hid (show whereR fmtI q XD = XD by unfold whereR; rw [HQF.out.2.2.2.1, List.eq_nil_of_length_eq_zero (show wher.length = 0 by rw [← HNW.out]; exact hw)]; rfl)
      subst hw
      go_wp2_with fail
      go_meet
      case rel => rw [HM.out]; exact HXW.out.weak (by omega)
     ·have hwt : treeB (nameB kwsL) wher = true := by
       have := HSQ.out.2.2.2.1
       rw [HQF.out.2.2.2.1] at this
       rcases this with h | h
       ·rw [h] at HNW; exact absurd HNW.out hw
       ·exact h
      have hwi : ∀ x ∈ wher, I64' x.n := by have := HIB.out.wher; rw [HQF.out.2.2.2.1] at this; exact this
      have hcw : ∀ W, Below g w2 W → Calls Tryz.prog 88 #[.slice wwa nw wcap] W (BhR (wholeR fmtI wher) W) := fun W hb => wh_tl wwa wcap nw wher W HNW.out.symm hBw (HOQ.out W hb).1 (HOQ.out W hb).2.1.2.1 hwt hwi
      have HYS := Lib.hid (whole_sm hwt hwi (by rw [← HNW.out]; omega))
      obtain ⟨YW, hYW⟩ : ∃ Y, Y = wholeR fmtI wher := ⟨_, rfl⟩
      rw [← hYW] at hcw HYS
      have HCW := Lib.hid hcw
      have HM := Lib.hid (show whereR fmtI q XD = behindR (behindR XD ⟨[87, 72, 69, 82, 69], 1, 0⟩) YW by
       unfold whereR
       rw [HQF.out.2.2.2.1, hYW, if_neg]
       intro h
       rw [List.isEmpty_iff] at h
       rw [h] at HNW
       exact hw HNW.out)
      have hw1 : (0 : Int) < nw := by omega
      clear hw hwt hwi hcw hYW
      obtain ⟨X1, hX1⟩ : ∃ X, X = behindR XD ⟨[87, 72, 69, 82, 69], 1, 0⟩ := ⟨_, rfl⟩
      have HX1 := Lib.hid hX1
      have hbh := bh_lit XD ([87, 72, 69, 82, 69]) 1 1 rfl (smK_ok HXW.out.2.2 (by omega)) (by decide) (by decide)
      rw [← hX1] at hbh
      have HSX := Lib.hid (show SmK (2503 + 1) X1 by rw [hX1]; exact smK_behind HXW.out.2.2 (smK_lit (by decide) (by decide)))
      have HBH := Lib.hid hbh
      clear hX1 hbh
      go_wp2_with fail
      refine (HBH.out _).mono ?_
      rintro e wN ⟨rfl, hbN⟩
      have HXN := Lib.hid (HXW.out.below hbN)
      clear z0 z1 z2 c0 c1 c2 hbN
      obtain ⟨z0, z1, z2, c0, c1, c2⟩ := HXN.out.f
      have HXS := Lib.hid (HXN.out.set X1 HSX.out)
      obtain ⟨wS, hwS⟩ : ∃ v, v = (((wN.setCell ⟨g, 0, none⟩ (.string ⟨X1.text.toArray⟩)).setCell ⟨g, 1, none⟩ (.int .i64 X1.toks)).setCell ⟨g, 2, none⟩ (.int .i64 X1.deep)) := ⟨_, rfl⟩
      rw [← hwS] at HXS
      go_upto_region 27 with fail
      rw [← hwS]
      clear hwS z0 z1 z2 c0 c1 c2
      have HXW := HXS
      obtain ⟨z0, z1, z2, c0, c1, c2⟩ := HXW.out.f
      have q3 := (HOQ.out wS HXW.out.1).2.2.ci 3 rfl
      obtain ⟨X2, hX2⟩ : ∃ X, X = behindR X1 YW := ⟨_, rfl⟩
      have HX2 := Lib.hid hX2
      have hbh := bh_tl X1 YW (smK_ok HXW.out.2.2 (by omega)) (sm_up HYS.out)
      rw [← hX2] at hbh
      have HSX := Lib.hid (show SmK ((2503 + 1) + 1) X2 by rw [hX2]; exact smK_behind HXW.out.2.2 HYS.out)
      have HBH := Lib.hid hbh
      have HBW := Lib.hid (show Below wS.heap.size wS wS.drew from (Below.refl _ _).drew)
      clear hX2 hbh
      go_wp2_with fail
      clear z0 z1 z2 c0 c1 c2
      obtain ⟨z0, z1, z2, c0, c1, c2⟩ := (HXW.out.below HBW.out).f
      have q3 := (HOQ.out _ (HXW.out.1.trans (HBW.out.mono (Nat.le_of_lt HXW.out.2.1.lt)))).2.2.ci 3 rfl
      go_region_law (first
       | (go_simp; go_at_call 86; refine (HBH.out _).mono ?_; rintro e wN ⟨rfl, hbN⟩; (have HBW := Lib.hid (HBW.out.trans (hbN.mono HBW.out.size))); (have HXN := Lib.hid (HXW.out.below HBW.out)); clear z0 z1 z2 c0 c1 c2 hbN; obtain ⟨z0, z1, z2, c0, c1, c2⟩ := HXN.out.f; (have HXS := Lib.hid (HXN.out.set X2 HSX.out)))
       | (go_simp; go_at_call 88; refine (HCW.out _ (HXW.out.1.trans (HBW.out.mono (Nat.le_of_lt HXW.out.2.1.lt)))).mono ?_; rintro e wM ⟨rfl, hbM⟩; (have HBW := Lib.hid (HBW.out.trans (hbM.mono HBW.out.size))); clear z0 z1 z2 c0 c1 c2 hbM; obtain ⟨z0, z1, z2, c0, c1, c2⟩ := (HXW.out.below HBW.out).f))
      all_goals (
       go_wp2_with fail
       go_meet
       case rel => rw [HM.out, ← HX1.out, ← HX2.out]; exact HXS.out.weak (by omega))
    case rest =>
     obtain ⟨XE, hXE⟩ : ∃ X, X = whereR fmtI q XD := ⟨_, rfl⟩
     rw [← hXE] at hcut
     have HXE := Lib.hid hXE
     have HXW := Lib.hid hcut
     clear hcut hXE q3 z0 z1 z2 c0 c1 c2
     obtain ⟨z0, z1, z2, c0, c1, c2⟩ := HXW.out.f
     have hin := HIB.out.within
     rw [HQF.out.2.2.2.2.1] at hin
     have hfl := fmt_len within hin
     obtain ⟨wi1, wi2⟩ := hin
     obtain ⟨XF, hXF⟩ : ∃ X, X = withinR fmtI q XE := ⟨_, rfl⟩
     have HXF := Lib.hid hXF
     obtain ⟨fs, hfs⟩ : ∃ s, s = fmtI within := ⟨_, rfl⟩
     have hbh := bh_lit XE ([87, 73, 84, 72, 73, 78, 32] ++ fs) 2 2 rfl (smK_ok HXW.out.2.2 (by omega)) (by rw [hfs]; simp only [List.length_append, List.length_cons, List.length_nil]; omega) (by decide)
     rw [show behindR XE ⟨[87, 73, 84, 72, 73, 78, 32] ++ fs, 2, 0⟩ = XF by rw [hXF, hfs, ← HQF.out.2.2.2.2.1]; rfl] at hbh
     have hbh : ∀ W, Calls Tryz.prog 86 #[.agg #[.string ⟨XE.text.toArray⟩, .int .i64 XE.toks, .int .i64 XE.deep], .agg #[.string (⟨#[87, 73, 84, 72, 73, 78, 32]⟩ ++ ⟨fs.toArray⟩), .int .i64 2, .int .i64 0]] W (BhR XF W) := fun W => by
      have h := hbh W
      rw [← bs_append] at h
      exact h
     have HSX := Lib.hid (show SmK (2505 + 1) XF by
      rw [hXF]
      exact smK_behind HXW.out.2.2 (smK_lit (by rw [HQF.out.2.2.2.2.1, ← hfs]; rw [← hfs] at hfl; simp only [List.length_append, List.length_cons, List.length_nil]; omega) (by decide)))
     have HBH := Lib.hid hbh
     have HBW := Lib.hid (show Below wc.heap.size wc wc.drew from (Below.refl _ _).drew)
     have HLDX := Lib.hid (fun W hb => (HOQ.out W hb).1)
     have HFM := Lib.hid (show ∀ W, Below g w2 W → Calls Tryz.prog 89 #[.int .i64 within, .int .i64 10] W fun e w' => e = .returned (.string ⟨fs.toArray⟩) ∧ Below W.heap.size W w' from fun W hb => by rw [hfs]; exact fmt_any within wi1 wi2 W (HLDX.out W hb))
     have hA1 : ¬ 9223372036854775807 < 7 + fs.length := by rw [← hfs] at hfl; omega
     clear hXF hfs hbh hfl
     go_upto_region 28 with fail
     go_cut [] from 7 (fun wx => XW g w2 2506 XF wx)
     case first =>
      go_wp2_with fail
      clear z0 z1 z2 c0 c1 c2
      obtain ⟨z0, z1, z2, c0, c1, c2⟩ := (HXW.out.below HBW.out).f
      have q4 := (HOQ.out _ (HXW.out.1.trans (HBW.out.mono (Nat.le_of_lt HXW.out.2.1.lt)))).2.2.ci 4 rfl
      go_region_law (first
       | (go_simp; go_at_call 86; refine (HBH.out _).mono ?_; rintro e wN ⟨rfl, hbN⟩; (have HBW := Lib.hid (HBW.out.trans (hbN.mono HBW.out.size))); (have HXN := Lib.hid (HXW.out.below HBW.out)); clear z0 z1 z2 c0 c1 c2 hbN; obtain ⟨z0, z1, z2, c0, c1, c2⟩ := HXN.out.f; (have HXS := Lib.hid (HXN.out.set XF HSX.out)))
       | (go_simp; go_at_call 89; refine (HFM.out _ (HXW.out.1.trans (HBW.out.mono (Nat.le_of_lt HXW.out.2.1.lt)))).mono ?_; rintro e wM ⟨rfl, hbM⟩; (have HBW := Lib.hid (HBW.out.trans (hbM.mono HBW.out.size))); clear z0 z1 z2 c0 c1 c2 hbM; obtain ⟨z0, z1, z2, c0, c1, c2⟩ := (HXW.out.below HBW.out).f; have q4 := (HOQ.out _ (HXW.out.1.trans (HBW.out.mono (Nat.le_of_lt HXW.out.2.1.lt)))).2.2.ci 4 rfl))
      all_goals (
       go_wp2_with fail
       go_meet
       case rel => exact HXS.out)
     case rest =>
      have HXW := Lib.hid hcut
      clear hcut z0 z1 z2 c0 c1 c2
      obtain ⟨z0, z1, z2, c0, c1, c2⟩ := HXW.out.f
      have q5 := (HOQ.out _ HXW.out.1).2.2.ci 5 rfl
      go_upto_if 86 with fail
      go_cut [] from 7 (fun wx => XW g w2 2507 (byR q XF) wx)
      case first =>
       have hbl := HSQ.out.2.2.2.2.1
       rw [HQF.out.2.2.2.2.2.1] at hbl
       by_cases hb : by_ = []
       ·have HM := Lib.hid (show byR q XF = XF by unfold byR; rw [HQF.out.2.2.2.2.2.1, hb]; rfl)
        subst hb
        go_wp2_with fail
        go_meet
        case rel => rw [HM.out]; exact HXW.out.weak (by omega)
       ·have hb1 := (nil_facts by_ hb).1
        have hb2 : by_.isEmpty = false := (nil_facts by_ hb).2
        have HM := Lib.hid (show byR q XF = behindR XF ⟨[80, 65, 82, 84, 73, 84, 73, 79, 78, 32, 66, 89, 32] ++ by_, 3, 0⟩ by unfold byR; rw [HQF.out.2.2.2.2.2.1, if_neg (by rw [(nil_facts by_ hb).2]; simp)])
        obtain ⟨X2, hX2⟩ : ∃ X, X = behindR XF ⟨[80, 65, 82, 84, 73, 84, 73, 79, 78, 32, 66, 89, 32] ++ by_, 3, 0⟩ := ⟨_, rfl⟩
        have HX2 := Lib.hid hX2
        have hl3 : ([80, 65, 82, 84, 73, 84, 73, 79, 78, 32, 66, 89, 32] ++ by_).length ≤ 1000 := by simp only [List.length_append, List.length_cons, List.length_nil]; omega
        have hbh : ∀ W, Calls Tryz.prog 86 #[.agg #[.string ⟨XF.text.toArray⟩, .int .i64 XF.toks, .int .i64 XF.deep], .agg #[.string (⟨#[80, 65, 82, 84, 73, 84, 73, 79, 78, 32, 66, 89, 32]⟩ ++ ⟨by_.toArray⟩), .int .i64 3, .int .i64 0]] W (BhR X2 W) := fun W => by
         have h := bh_lit XF ([80, 65, 82, 84, 73, 84, 73, 79, 78, 32, 66, 89, 32] ++ by_) 3 3 rfl (smK_ok HXW.out.2.2 (by omega)) hl3 (by decide) W
         rw [← bs_append, ← hX2] at h
         exact h
        have HSX := Lib.hid (show SmK (2506 + 1) X2 by rw [hX2]; exact smK_behind HXW.out.2.2 (smK_lit hl3 (by decide)))
        have HBH := Lib.hid hbh
        have hA1 : ¬ 9223372036854775807 < 13 + by_.length := by omega
        clear hX2 hbh hb hl3
        go_wp2_with fail
        any_goals (rename_i hq; rw [hb2] at hq; cases hq; done)
        refine (HBH.out _).mono ?_
        rintro e wN ⟨rfl, hbN⟩
        have HXN := Lib.hid (HXW.out.below hbN)
        clear z0 z1 z2 c0 c1 c2 hbN
        obtain ⟨z0, z1, z2, c0, c1, c2⟩ := HXN.out.f
        have HXS := Lib.hid (HXN.out.set X2 HSX.out)
        go_wp2_with fail
        go_meet
        case rel => rw [HM.out, ← HX2.out]; exact HXS.out.weak (by omega)
      case rest =>
       obtain ⟨XG, hXG⟩ : ∃ X, X = byR q XF := ⟨_, rfl⟩
       rw [← hXG] at hcut
       have HXG := Lib.hid hXG
       have HXW := Lib.hid hcut
       clear hcut hXG q5 z0 z1 z2 c0 c1 c2
       go_upto_block 4 with fail
       go_cut [] from 7 (fun wx => XW g w2 5200 (retsR fmtI q.ret 0 XG) wx)
       case first =>
        go_wp2_with fail
        go_loopw [6] (fun i wr => ∃ (k : Nat) (x : Tl), k ≤ nr ∧ i = .int .i64 (k : Int) ∧ retsR fmtI q.ret 0 XG = retsR fmtI (q.ret.drop k) k x ∧ XW g w2 (2 * k + 2507) x wr) (fun i _ => nr - (intOf i).toNat)
        case atStart => exact ⟨0, XG, Nat.zero_le _, rfl, rfl, HXW.out⟩
        case round =>
         obtain ⟨k, x, hkn, rfl, hlo, hxw⟩ := hrel
         have HLO := Lib.hid hlo
         have HXW := Lib.hid hxw
         have HNL := Lib.hid (show nr ≤ 1200 by have := HLP.out.2; rw [HQF.out.2.2.2.2.2.2, List.length_map, ← HNR.out] at this; exact this)
         have q6 := (HOQ.out wr hxw.1).2.2.ci 6 rfl
         clear hlo hxw
         by_cases hlt : k < nr
         ·have hkl : k < ret.length := by rw [← HNR.out]; exact hlt
          have hlt' : (k : Int) < nr := by omega
          have hk0 : (0 : Int) ≤ k := by omega
          have hdrop : q.ret.drop k = ret[k].t :: q.ret.drop (k + 1) := by
           rw [HQF.out.2.2.2.2.2.2, List.drop_eq_getElem_cons (by simpa using hkl), List.getElem_map]
          have hmem : ret[k].t ∈ q.ret := by rw [HQF.out.2.2.2.2.2.2]; exact List.mem_map_of_mem (List.getElem_mem hkl)
          have hwt := HSQ.out.2.2.2.2.2 _ hmem
          have hwi := HIB.out.ret _ hmem
          have hbt := HQB.out.trees _ (List.getElem_mem hkl)
          try dsimp only at hbt
          have hold : ∀ w', Below g w2 w' → ∃ b off, ra = some ⟨b, off, none⟩ ∧ w'.cell? ⟨b, off + k, none⟩ = some (.slice ret[k].a ret[k].t.length ret[k].c) := fun w' hb => (HOQ.out w' hb).2.1.2.2.at k hkl
          have hrds : ∀ w', Below g w2 w' → RdN w' ret[k].a ret[k].t := fun w' hb => (HOQ.out w' hb).2.1.2.2.2 _ (List.getElem_mem hkl)
          obtain ⟨b, off, hra, _⟩ := hold w2 (Below.refl _ _)
          obtain ⟨y, hy⟩ : ∃ y, y = ret[k] := ⟨_, rfl⟩
          rw [← hy] at hdrop hwt hwi hbt hold hrds
          obtain ⟨t, ta, tc⟩ := y
          dsimp only at hdrop hwt hwi hbt hold hrds
          obtain ⟨nt, hnt⟩ : ∃ nt, nt = t.length := ⟨_, rfl⟩
          rw [← hnt] at hbt hold
          have hcw : ∀ W, Below g w2 W → Calls Tryz.prog 88 #[.slice ta nt tc] W (BhR (wholeR fmtI t) W) := fun W hb => wh_tl ta tc nt t W hnt.symm hbt (HOQ.out W hb).1 (hrds W hb) hwt hwi
          have hcells : ∀ w', Below g w2 w' → w'.cell? ⟨b, off + k, none⟩ = some (.slice ta nt tc) := fun w' hb => by
           obtain ⟨b', off', h1, h2⟩ := hold w' hb
           rw [hra] at h1
           cases h1
           exact h2
          have HYS := Lib.hid (whole_sm hwt hwi (by rw [← hnt]; omega))
          obtain ⟨YT, hYT⟩ : ∃ Y, Y = wholeR fmtI t := ⟨_, rfl⟩
          rw [← hYT] at hcw HYS
          have HCW := Lib.hid hcw
          have HCELLS := Lib.hid hcells
          have HME := Lib.hid (meas_lt hlt)
          have HKS := Lib.hid (show k + 1 ≤ nr from hlt)
          have HLO2 := Lib.hid (show retsR fmtI q.ret 0 XG = retsR fmtI (q.ret.drop (k + 1)) (k + 1) (behindR (if k = 0 then behindR x ⟨[82, 69, 84, 85, 82, 78], 1, 0⟩ else behindR x ⟨[44], 1, 0⟩) YT) by rw [HLO.out, hdrop, hYT]; rfl)
          clear hdrop hmem hwt hwi hbt hold hrds hcw hcells hYT hy hnt
          subst hra
          have hN1200 := HNL.out
          obtain ⟨z0, z1, z2, c0, c1, c2⟩ := HXW.out.f
          by_cases hk00 : k = 0
          ·have hk1 : ((k : Int) == 0) = true := by simpa using hk00
           have hk2 : (k : Int) = 0 := by omega
           have HK00 := Lib.hid hk00
           clear hk2
           obtain ⟨X1, hX1⟩ : ∃ X, X = behindR x ⟨[82, 69, 84, 85, 82, 78], 1, 0⟩ := ⟨_, rfl⟩
           have HX1 := Lib.hid hX1
           have hbh := bh_lit x ([82, 69, 84, 85, 82, 78]) 1 1 rfl (smK_ok HXW.out.2.2 (by omega)) (by decide) (by decide)
           rw [← hX1] at hbh
           have HSX := Lib.hid (show SmK ((2 * k + 2507) + 1) X1 by rw [hX1]; exact smK_behind HXW.out.2.2 (smK_lit (by decide) (by decide)))
           have HBH := Lib.hid hbh
           clear hX1 hbh
           go_wp2_with fail
           refine (HBH.out _).mono ?_
           rintro e wN ⟨rfl, hbN⟩
           have HXN := Lib.hid (HXW.out.below hbN)
           clear z0 z1 z2 c0 c1 c2 hbN
           obtain ⟨z0, z1, z2, c0, c1, c2⟩ := HXN.out.f
           have HXS := Lib.hid (HXN.out.set X1 HSX.out)
           have HLO3 := Lib.hid (show retsR fmtI q.ret 0 XG = retsR fmtI (q.ret.drop (k + 1)) (k + 1) (behindR X1 YT) by rw [HLO2.out, if_pos HK00.out, HX1.out])
           obtain ⟨wS, hwS⟩ : ∃ v, v = (((wN.setCell ⟨g, 0, none⟩ (.string ⟨X1.text.toArray⟩)).setCell ⟨g, 1, none⟩ (.int .i64 X1.toks)).setCell ⟨g, 2, none⟩ (.int .i64 X1.deep)) := ⟨_, rfl⟩
           rw [← hwS] at HXS
           clear hk00
           go_upto_region 37 with fail
           rw [← hwS]
           clear hwS z0 z1 z2 c0 c1 c2
           have HXW := HXS
           obtain ⟨z0, z1, z2, c0, c1, c2⟩ := HXW.out.f
           have q6 := (HOQ.out wS HXW.out.1).2.2.ci 6 rfl
           obtain ⟨X2, hX2⟩ : ∃ X, X = behindR X1 YT := ⟨_, rfl⟩
           have HX2 := Lib.hid hX2
           have hbh := bh_tl X1 YT (smK_ok HXW.out.2.2 (by omega)) (sm_up HYS.out)
           rw [← hX2] at hbh
           have HSX := Lib.hid (show SmK ((2 * k + 2507 + 1) + 1) X2 by rw [hX2]; exact smK_behind HXW.out.2.2 HYS.out)
           have HBH := Lib.hid hbh
           have HBW := Lib.hid (show Below wS.heap.size wS wS.drew from (Below.refl _ _).drew)
           clear hX2 hbh
           go_wp2_with fail
           clear z0 z1 z2 c0 c1 c2
           obtain ⟨z0, z1, z2, c0, c1, c2⟩ := (HXW.out.below HBW.out).f
           have q6 := (HOQ.out _ (HXW.out.1.trans (HBW.out.mono (Nat.le_of_lt HXW.out.2.1.lt)))).2.2.ci 6 rfl
           have p0 := HCELLS.out _ (HXW.out.1.trans (HBW.out.mono (Nat.le_of_lt HXW.out.2.1.lt)))
           go_region_law (first
            | (go_simp; go_at_call 86; refine (HBH.out _).mono ?_; rintro e wN ⟨rfl, hbN⟩; (have HBW := Lib.hid (HBW.out.trans (hbN.mono HBW.out.size))); (have HXN := Lib.hid (HXW.out.below HBW.out)); clear z0 z1 z2 c0 c1 c2 hbN; obtain ⟨z0, z1, z2, c0, c1, c2⟩ := HXN.out.f; (have HXS := Lib.hid (HXN.out.set X2 HSX.out)))
            | (go_simp; go_at_call 88; refine (HCW.out _ (HXW.out.1.trans (HBW.out.mono (Nat.le_of_lt HXW.out.2.1.lt)))).mono ?_; rintro e wM ⟨rfl, hbM⟩; (have HBW := Lib.hid (HBW.out.trans (hbM.mono HBW.out.size))); clear z0 z1 z2 c0 c1 c2 hbM; obtain ⟨z0, z1, z2, c0, c1, c2⟩ := (HXW.out.below HBW.out).f))
           all_goals (
            go_wp2_with fail
            go_roundw
            case rel => exact ⟨k + 1, X2, HKS.out, by go_num, by rw [HLO3.out, HX2.out], HXS.out.weak (by omega)⟩
            case measure => exact HME.out)
          ·have hk1 : ((k : Int) == 0) = false := by simpa using hk00
           have HK00 := Lib.hid hk00
           obtain ⟨X1, hX1⟩ : ∃ X, X = behindR x ⟨[44], 1, 0⟩ := ⟨_, rfl⟩
           have HX1 := Lib.hid hX1
           have hbh := bh_lit x ([44]) 1 1 rfl (smK_ok HXW.out.2.2 (by omega)) (by decide) (by decide)
           rw [← hX1] at hbh
           have HSX := Lib.hid (show SmK ((2 * k + 2507) + 1) X1 by rw [hX1]; exact smK_behind HXW.out.2.2 (smK_lit (by decide) (by decide)))
           have HBH := Lib.hid hbh
           clear hX1 hbh
           go_wp2_with fail
           refine (HBH.out _).mono ?_
           rintro e wN ⟨rfl, hbN⟩
           have HXN := Lib.hid (HXW.out.below hbN)
           clear z0 z1 z2 c0 c1 c2 hbN
           obtain ⟨z0, z1, z2, c0, c1, c2⟩ := HXN.out.f
           have HXS := Lib.hid (HXN.out.set X1 HSX.out)
           have HLO3 := Lib.hid (show retsR fmtI q.ret 0 XG = retsR fmtI (q.ret.drop (k + 1)) (k + 1) (behindR X1 YT) by rw [HLO2.out, if_neg HK00.out, HX1.out])
           obtain ⟨wS, hwS⟩ : ∃ v, v = (((wN.setCell ⟨g, 0, none⟩ (.string ⟨X1.text.toArray⟩)).setCell ⟨g, 1, none⟩ (.int .i64 X1.toks)).setCell ⟨g, 2, none⟩ (.int .i64 X1.deep)) := ⟨_, rfl⟩
           rw [← hwS] at HXS
           clear hk00
           go_upto_region 37 with fail
           rw [← hwS]
           clear hwS z0 z1 z2 c0 c1 c2
           have HXW := HXS
           obtain ⟨z0, z1, z2, c0, c1, c2⟩ := HXW.out.f
           have q6 := (HOQ.out wS HXW.out.1).2.2.ci 6 rfl
           obtain ⟨X2, hX2⟩ : ∃ X, X = behindR X1 YT := ⟨_, rfl⟩
           have HX2 := Lib.hid hX2
           have hbh := bh_tl X1 YT (smK_ok HXW.out.2.2 (by omega)) (sm_up HYS.out)
           rw [← hX2] at hbh
           have HSX := Lib.hid (show SmK ((2 * k + 2507 + 1) + 1) X2 by rw [hX2]; exact smK_behind HXW.out.2.2 HYS.out)
           have HBH := Lib.hid hbh
           have HBW := Lib.hid (show Below wS.heap.size wS wS.drew from (Below.refl _ _).drew)
           clear hX2 hbh
           go_wp2_with fail
           clear z0 z1 z2 c0 c1 c2
           obtain ⟨z0, z1, z2, c0, c1, c2⟩ := (HXW.out.below HBW.out).f
           have q6 := (HOQ.out _ (HXW.out.1.trans (HBW.out.mono (Nat.le_of_lt HXW.out.2.1.lt)))).2.2.ci 6 rfl
           have p0 := HCELLS.out _ (HXW.out.1.trans (HBW.out.mono (Nat.le_of_lt HXW.out.2.1.lt)))
           go_region_law (first
            | (go_simp; go_at_call 86; refine (HBH.out _).mono ?_; rintro e wN ⟨rfl, hbN⟩; (have HBW := Lib.hid (HBW.out.trans (hbN.mono HBW.out.size))); (have HXN := Lib.hid (HXW.out.below HBW.out)); clear z0 z1 z2 c0 c1 c2 hbN; obtain ⟨z0, z1, z2, c0, c1, c2⟩ := HXN.out.f; (have HXS := Lib.hid (HXN.out.set X2 HSX.out)))
            | (go_simp; go_at_call 88; refine (HCW.out _ (HXW.out.1.trans (HBW.out.mono (Nat.le_of_lt HXW.out.2.1.lt)))).mono ?_; rintro e wM ⟨rfl, hbM⟩; (have HBW := Lib.hid (HBW.out.trans (hbM.mono HBW.out.size))); clear z0 z1 z2 c0 c1 c2 hbM; obtain ⟨z0, z1, z2, c0, c1, c2⟩ := (HXW.out.below HBW.out).f))
           all_goals (
            go_wp2_with fail
            go_roundw
            case rel => exact ⟨k + 1, X2, HKS.out, by go_num, by rw [HLO3.out, HX2.out], HXS.out.weak (by omega)⟩
            case measure => exact HME.out)
         ·have hk' : ¬ (k : Int) < nr := by omega
          have HL2 := Lib.hid (show retsR fmtI q.ret 0 XG = x by
           rw [HLO.out, List.drop_eq_nil_of_le (by rw [HQF.out.2.2.2.2.2.2, List.length_map, ← HNR.out]; omega)]; rfl)
          go_wp2_with fail
          go_meet
          case rel => rw [HL2.out]; exact HXW.out.weak (by have := HNL.out; omega)
       case rest =>
        have hQR : queryR fmtI q = retsR fmtI q.ret 0 XG := by
         rw [HXG.out, HXF.out, HXE.out, HXD.out, HXC.out, HXB.out, HXA.out, HX0.out]; rfl
        rw [← hQR] at hcut
        have HXW := Lib.hid hcut
        have HANS := Lib.hid (show ansR fmtI q = if 400 < (queryR fmtI q).toks then none else if 32 < (queryR fmtI q).deep then none else some (queryR fmtI q).text by unfold ansR; rw [if_neg HLAR.out])
        obtain ⟨x, hx⟩ : ∃ x, x = queryR fmtI q := ⟨_, rfl⟩
        rw [← hx] at HXW HANS
        have HB := Lib.hid (HFB.out wc HXW.out.1)
        clear hcut hQR hx
        obtain ⟨z0, z1, z2, c0, c1, c2⟩ := HXW.out.f
        by_cases h1 : 400 < x.toks
        ·have h1' : (400 : Int) < x.toks := by omega
         have HNO := Lib.hid (show ansR fmtI q = none by rw [HANS.out, if_pos h1])
         clear h1
         go_wp2_with fail
         go_ret2
         exact ⟨51, [], rfl, ⟨fun h => absurd h (by decide), fun h => absurd h.2 (by rw [HNO.out]; simp)⟩, fun h => absurd h (by decide), HB.out⟩
        ·have h1' : ¬ (400 : Int) < x.toks := by omega
         by_cases h2 : 32 < x.deep
         ·have h2' : (32 : Int) < x.deep := by omega
          have HNO := Lib.hid (show ansR fmtI q = none by rw [HANS.out, if_neg h1, if_pos h2])
          clear h1 h2
          go_wp2_with fail
          go_ret2
          exact ⟨41, [], rfl, ⟨fun h => absurd h (by decide), fun h => absurd h.2 (by rw [HNO.out]; simp)⟩, fun h => absurd h (by decide), HB.out⟩
         ·have h2' : ¬ (32 : Int) < x.deep := by omega
          have HNO := Lib.hid (show ansR fmtI q = some x.text by rw [HANS.out, if_neg h1, if_neg h2])
          clear h1 h2
          go_wp2_with fail
          go_ret2
          exact ⟨0, x.text, rfl, ⟨fun _ => ⟨HSP.out, by rw [HNO.out]; rfl⟩, fun _ => rfl⟩, fun _ => HNO.out, HB.out⟩
end Go.Proofs.YtfglgpbjjpoimaaGreatDoor
