/- SaveEncodes: the reference's match. -/
import Derived.Test.YtfglgpbjjpoimaaGreatDoorSwGQ
import Derived.Deep.CutBlock
import Derived.Deep.CutRange
import Derived.Deep.RegionLaw
set_option linter.unusedVariables false
namespace Go.Proofs.YtfglgpbjjpoimaaGreatDoor
open Go.RowKit Sv
theorem bnd20 {a b n m : Nat} (h1 : a = n) (h2 : b = m) (h3 : a ≤ 10) (h4 : b ≤ 10) : n + m ≤ 140737488355000 := by omega
set_option maxHeartbeats 4000000 in
set_option maxRecDepth 20000 in
theorem rmatch_any (x : Mm) (w : World) (h : RdMl w x) (hb : MtB x.m) : Calls Tryz.prog 54 #[.agg (mmc x).toArray] w (By (byMt x.m) w) := by
 obtain ⟨⟨dec, names, lens, vals⟩, na, nc, la, lc, va, vc⟩ := x
 obtain ⟨h1, h2, h3⟩ := h
 have hle := byMt_le hb
 obtain ⟨b1, b2, b3, b4, b5, b6, b7⟩ := hb
 dsimp only at h1 h2 h3 b1 b2 b3 b4 b5 b6 b7 hle ⊢
 obtain ⟨n1, hn1⟩ : ∃ n, n = names.length := ⟨_, rfl⟩
 obtain ⟨n2, hn2⟩ : ∃ n, n = lens.length := ⟨_, rfl⟩
 obtain ⟨n3, hn3⟩ : ∃ n, n = vals.length := ⟨_, rfl⟩
 obtain ⟨w0, hw0⟩ : ∃ w0, w0 = w.alloc (.cells #[.int .i64 dec, .slice na n1 nc, .slice la n2 lc, .slice va n3 vc] 62) := ⟨_, rfl⟩
 have hE : Blk w0 w.heap.size 62 [.int .i64 dec, .slice na n1 nc, .slice la n2 lc, .slice va n3 vc] := by rw [hw0]; exact Blk.new w _ 62
 have HB0 := Lib.hid (show Below w.heap.size w w0 by rw [hw0]; exact bal (Below.refl _ _) (Nat.le_refl _) _)
 have HE := Lib.hid hE
 have HNM := Lib.hid (h1.below HB0.out)
 have HLN := Lib.hid (h2.below HB0.out)
 have HVL := Lib.hid (h3.below HB0.out)
 have HN1 := Lib.hid hn1
 have HN2 := Lib.hid hn2
 have HN3 := Lib.hid hn3
 have HNB := Lib.hid b5
 have HLB := Lib.hid b6
 have HVB := Lib.hid b7
 have HU1 := Lib.hid (show (bytesU (zig dec)).length ≤ 10 from bytesI_le dec b1)
 have HU2 := Lib.hid (show (bytesU n1).length ≤ 10 from bytesU_len10 n1 (by omega))
 rw [← hn1] at b2
 rw [← hn2] at b3
 rw [← hn3] at b4
 obtain ⟨RES, hRES⟩ : ∃ RES, RES = byMt ⟨dec, names, lens, vals⟩ := ⟨_, rfl⟩
 rw [← hRES]
 have HRES := Lib.hid (show RES = bytesI dec ++ (bytesU n1 ++ names.flatMap byName) ++ (bytesU n2 ++ lens.flatMap bytesI) ++ (bytesU n3 ++ vals.flatMap byVal) by rw [hRES, hn1, hn2, hn3]; rfl)
 rw [← hRES] at hle
 have HLE := Lib.hid hle
 have HBW := Lib.hid (show Below w0.heap.size w0 w0.drew from (Below.refl _ _).drew)
 have c0 : w0.drew.cell? ⟨w.heap.size, 0, none⟩ = some (.int .i64 dec) := hE.ci 0 rfl
 have c1 : w0.drew.cell? ⟨w.heap.size, 1, none⟩ = some (.slice na n1 nc) := hE.ci 1 rfl
 simp only [mmc, ← hn1, ← hn2, ← hn3]
 clear hE h1 h2 h3 hn1 hn2 hn3 b5 b6 b7 hRES hle
 go_enter Tryz.func54, Tryz.ntmps54
 have hwn1 : IntKind.u64.wrap (n1 : Int) = n1 := by rw [IntKind.wrap_u64]; omega
 go_upto_region 1 with fail
 rw [← hw0]
 clear hw0
 go_cut [3] from 7 (fun v wx => ∃ p k m, v = .slice p m k ∧ (bytesI dec ++ bytesU n1).length = m ∧ wx.ownsRow w.heap.size 5 1 (.slice p m k) m ((bytesI dec ++ bytesU n1).map B) ∧ Below w0.heap.size w0 wx)
 case first =>
  go_wp2_with fail
  go_region_law (first
   | (go_simp; go_at_call 52; refine (rnumber_any dec _ b1).mono ?_; rintro e wA ⟨p1, k1, m1, hm1, rfl, ho1, hbA⟩; (have HBW := Lib.hid (HBW.out.trans (hbA.mono HBW.out.size))); (have c0 := (HE.out.below HBW.out).ci 0 rfl); (have c1 := (HE.out.below HBW.out).ci 1 rfl); (have HR1 := Lib.hid (rd_len ho1)); (try (have HR2 := Lib.hid (HR2.out.below hbA))); (have HM1 := Lib.hid hm1); clear ho1 hbA hm1)
   | (go_simp; go_at_call 51; refine (rcount_any n1 _ (by omega)).mono ?_; rintro e wB ⟨p2, k2, m2, hm2, rfl, ho2, hbB⟩; (have HBW := Lib.hid (HBW.out.trans (hbB.mono HBW.out.size))); (have c0 := (HE.out.below HBW.out).ci 0 rfl); (have c1 := (HE.out.below HBW.out).ci 1 rfl); (try (have HR1 := Lib.hid (HR1.out.below hbB))); (have HR2 := Lib.hid (rd_len ho2)); (have HM2 := Lib.hid hm2); clear ho2 hbB hm2)
   | (go_simp; go_at_call 46; refine (rjoin_any p1 p2 k1 k2 m1 m2 _ _ _ HM1.out HM2.out (bnd20 HM1.out HM2.out HU1.out HU2.out) HR1.out HR2.out).mono ?_; rintro e wC ⟨p3, k3, m3, hm3, rfl, ho3, hbC⟩; (have HO3 := Lib.hid (ownsRow_base ho3 (Nat.le_trans HB0.out.size HBW.out.size))); (have HBW := Lib.hid (HBW.out.trans (hbC.mono HBW.out.size))); (have c0 := (HE.out.below HBW.out).ci 0 rfl); (have c1 := (HE.out.below HBW.out).ci 1 rfl); (have HM3 := Lib.hid hm3); clear ho3 hbC hm3))
  all_goals (
   go_wp2_with fail
   go_meet
   case rel => exact ⟨p3, k3, m3, rfl, HM3.out, HO3.out, HBW.out⟩)
 case rest =>
 clear hwn1
 obtain ⟨p3, k3, m3, rfl, hm3, ho3, hbw3⟩ := hcut
 have HM3 := Lib.hid hm3
 have HO3 := Lib.hid ho3
 have HBW := Lib.hid hbw3
 clear hm3 ho3 hbw3
 obtain ⟨HD, hHD⟩ : ∃ HD, HD = bytesI dec ++ bytesU n1 := ⟨_, rfl⟩
 have HM3 := Lib.hid (show HD.length = m3 by rw [hHD]; exact HM3.out)
 have HO3 := Lib.hid (show wc.ownsRow w.heap.size 5 1 (.slice p3 m3 k3) m3 (HD.map B) by rw [hHD]; exact HO3.out)
 have HRES := Lib.hid (show RES = HD ++ names.flatMap byName ++ (bytesU n2 ++ lens.flatMap bytesI) ++ (bytesU n3 ++ vals.flatMap byVal) by rw [HRES.out, hHD]; simp only [List.append_assoc])
 clear hHD c0 c1
 go_wp2_with fail
 go_loopw [3, 4] (fun v i wr => ∃ (j : Nat) (a' : Option Addr) (c' n' : Nat), j ≤ n1 ∧ i = .int .i64 (j : Int) ∧ v = .slice a' n' c' ∧ (HD ++ (names.take j).flatMap byName).length = n' ∧ wr.ownsRow w.heap.size 5 1 v n' ((HD ++ (names.take j).flatMap byName).map B) ∧ Below w0.heap.size w0 wr) (fun _ i _ => n1 - (intOf i).toNat)
 case atStart => exact ⟨0, p3, k3, m3, Nat.zero_le _, rfl, rfl, by simpa using HM3.out, by simpa using HO3.out, HBW.out⟩
 case round =>
  obtain ⟨j, a', c', n', hjn, rfl, rfl, hln, hown, hbw⟩ := hrel
  have HLNN := Lib.hid hln
  have HOWN := Lib.hid hown
  have HBR := Lib.hid hbw
  have d := (HE.out.below hbw).ci 1 rfl
  clear hln hown
  by_cases hlt : j < n1
  ·have hjl : j < names.length := by rw [← HN1.out]; exact hlt
   obtain ⟨b, off, rfl, e0, e1⟩ := (HNM.out.below hbw).at j hjl
   have htk : (names.take (j + 1)).flatMap byName = (names.take j).flatMap byName ++ byName names[j] := by
    rw [take_snoc names j hjl, List.flatMap_append]; simp
   have hdr : names.flatMap byName = (names.take j).flatMap byName ++ (byName names[j] ++ (names.drop (j + 1)).flatMap byName) := by
    conv => lhs; rw [← List.take_append_drop j names, List.drop_eq_getElem_cons hjl]
    rw [List.flatMap_append, List.flatMap_cons]
   have hbnd := HNB.out _ (List.getElem_mem hjl)
   obtain ⟨u, hu⟩ : ∃ u, u = names[j] := ⟨_, rfl⟩
   rw [← hu] at htk hdr hbnd e0 e1
   have HNBB := Lib.hid (show n' + (byName u).length ≤ 43000100 by
    have h1 := HLE.out
    have h2 := HLNN.out
    rw [HRES.out, hdr] at h1
    simp only [List.length_append] at h1 h2
    omega)
   have HTK := Lib.hid htk
   have HME := Lib.hid (meas_lt hlt)
   have hlt' : (j : Int) < n1 := by omega
   have hj0 : (0 : Int) ≤ j := by omega
   obtain ⟨uts, uid⟩ := u
   dsimp only at e0 e1
   have HC1 := Lib.hid (rname_any ⟨uts, uid⟩ wr hbnd)
   clear htk hdr hu hbw hbnd
   go_wp2_with fail
   refine (HC1.out).mono ?_
   rintro e wF ⟨p6, k6, m6, hm6, rfl, ho6, hbF⟩
   have HJ2 := Lib.hid (rjoin_any a' p6 c' k6 n' m6 _ _ wF HLNN.out hm6 (by have := HNBB.out; have := hm6; first | omega | (unfold bytesI at *; omega)) ((rd_len HOWN.out).below hbF) (rd_len ho6))
   have HBF := Lib.hid (HBR.out.trans (hbF.mono HBR.out.size))
   clear ho6 hbF hm6 d e0 e1
   go_wp2_with fail
   refine (HJ2.out).mono ?_
   rintro e wG ⟨p7, k7, m7, hm7, rfl, ho7, hbG⟩
   have HO7 := Lib.hid (ownsRow_base ho7 (Nat.le_trans HB0.out.size HBF.out.size))
   have HBG := Lib.hid (HBF.out.trans (hbG.mono HBF.out.size))
   have HM7 := Lib.hid hm7
   clear ho7 hbG hm7
   go_wp2_with fail
   go_roundw
   case rel => exact ⟨j + 1, p7, k7, m7, hlt, by go_num, rfl, by rw [HTK.out, ← List.append_assoc]; exact HM7.out, by rw [HTK.out, ← List.append_assoc]; exact HO7.out, HBG.out⟩
   case measure => exact HME.out
  ·have hk' : ¬ (j : Int) < n1 := by omega
   have HTT := Lib.hid (show names.take j = names by rw [List.take_of_length_le]; rw [← HN1.out]; omega)
   have hl4 := HLNN.out
   rw [HTT.out] at hl4
   have ho4 := HOWN.out
   rw [HTT.out] at ho4
   have d2 := (HE.out.below hbw).ci 2 rfl
   have HBND := Lib.hid (show n' ≤ 43000100 by
    have h1 := HLE.out
    rw [HRES.out] at h1
    rw [← hl4]
    simp only [List.length_append] at h1 ⊢
    omega)
   have HRO := Lib.hid (rd_len ho4)
   have HL4 := Lib.hid hl4
   have hNB : n2 < 18446744073709551616 := by omega
   clear hl4 ho4 hbw
   go_wp2_with fail
   refine (rcount_any n2 _ hNB).mono ?_
   rintro e wP ⟨q1, q2, q3, hq3, rfl, hoq, hbq⟩
   have HJ4 := Lib.hid (rjoin_any a' q1 c' q2 n' q3 _ _ wP HL4.out hq3 (by have := HBND.out; have := bytesU_len10 n2 (by omega); omega) (HRO.out.below hbq) (rd_len hoq))
   have HBP := Lib.hid (HBR.out.trans (hbq.mono HBR.out.size))
   clear hoq hbq hq3 d2 d
   go_wp2_with fail
   refine (HJ4.out).mono ?_
   rintro e wQ ⟨p3, k3, m3, hm3, rfl, ho3, hbQ⟩
   have HBW := Lib.hid (HBP.out.trans (hbQ.mono HBP.out.size))
   obtain ⟨HD2, hHD2⟩ : ∃ X, X = HD ++ names.flatMap byName ++ bytesU n2 := ⟨_, rfl⟩
   have HM3 := Lib.hid (show HD2.length = m3 by rw [hHD2]; exact hm3)
   have HO3 := Lib.hid (show wQ.ownsRow w.heap.size 5 1 (.slice p3 m3 k3) m3 (HD2.map B) by rw [hHD2]; exact ownsRow_base ho3 (Nat.le_trans HB0.out.size HBP.out.size))
   have HRES := Lib.hid (show RES = HD2 ++ lens.flatMap bytesI ++ (bytesU n3 ++ vals.flatMap byVal) by rw [HRES.out, hHD2]; simp only [List.append_assoc])
   clear hHD2 ho3 hm3 hbQ hk' HTT HL4 HRO HJ4 HOWN HLNN HBR HBP HBND
   go_wp2_with fail
   go_loopw [3, 5] (fun v i wr => ∃ (j : Nat) (a' : Option Addr) (c' n' : Nat), j ≤ n2 ∧ i = .int .i64 (j : Int) ∧ v = .slice a' n' c' ∧ (HD2 ++ (lens.take j).flatMap bytesI).length = n' ∧ wr.ownsRow w.heap.size 5 1 v n' ((HD2 ++ (lens.take j).flatMap bytesI).map B) ∧ Below w0.heap.size w0 wr) (fun _ i _ => n2 - (intOf i).toNat)
   case atStart => exact ⟨0, p3, k3, m3, Nat.zero_le _, rfl, rfl, by simpa using HM3.out, by simpa using HO3.out, HBW.out⟩
   case round =>
    obtain ⟨j, a', c', n', hjn, rfl, rfl, hln, hown, hbw⟩ := hrel
    have HLNN := Lib.hid hln
    have HOWN := Lib.hid hown
    have HBR := Lib.hid hbw
    have d := (HE.out.below hbw).ci 2 rfl
    clear hln hown
    by_cases hlt : j < n2
    ·have hjl : j < lens.length := by rw [← HN2.out]; exact hlt
     obtain ⟨b, off, rfl, e0⟩ := (HLN.out.below hbw).at j hjl
     have htk : (lens.take (j + 1)).flatMap bytesI = (lens.take j).flatMap bytesI ++ bytesI lens[j] := by
      rw [take_snoc lens j hjl, List.flatMap_append]; simp
     have hdr : lens.flatMap bytesI = (lens.take j).flatMap bytesI ++ (bytesI lens[j] ++ (lens.drop (j + 1)).flatMap bytesI) := by
      conv => lhs; rw [← List.take_append_drop j lens, List.drop_eq_getElem_cons hjl]
      rw [List.flatMap_append, List.flatMap_cons]
     have hbnd := HLB.out _ (List.getElem_mem hjl)
     obtain ⟨u, hu⟩ : ∃ u, u = lens[j] := ⟨_, rfl⟩
     rw [← hu] at htk hdr hbnd e0
     have HNBB := Lib.hid (show n' + (bytesI u).length ≤ 43000100 by
      have h1 := HLE.out
      have h2 := HLNN.out
      rw [HRES.out, hdr] at h1
      simp only [List.length_append] at h1 h2
      omega)
     have HTK := Lib.hid htk
     have HME := Lib.hid (meas_lt hlt)
     have hlt' : (j : Int) < n2 := by omega
     have hj0 : (0 : Int) ≤ j := by omega
     have HC1 := Lib.hid (rnumber_any u wr hbnd)
     clear htk hdr hu hbw hbnd
     go_wp2_with fail
     refine (HC1.out).mono ?_
     rintro e wF ⟨p6, k6, m6, hm6, rfl, ho6, hbF⟩
     have HJ2 := Lib.hid (rjoin_any a' p6 c' k6 n' m6 _ _ wF HLNN.out hm6 (by have := HNBB.out; have := hm6; first | omega | (unfold bytesI at *; omega)) ((rd_len HOWN.out).below hbF) (rd_len ho6))
     have HBF := Lib.hid (HBR.out.trans (hbF.mono HBR.out.size))
     clear ho6 hbF hm6 d e0
     go_wp2_with fail
     refine (HJ2.out).mono ?_
     rintro e wG ⟨p7, k7, m7, hm7, rfl, ho7, hbG⟩
     have HO7 := Lib.hid (ownsRow_base ho7 (Nat.le_trans HB0.out.size HBF.out.size))
     have HBG := Lib.hid (HBF.out.trans (hbG.mono HBF.out.size))
     have HM7 := Lib.hid hm7
     clear ho7 hbG hm7
     go_wp2_with fail
     go_roundw
     case rel => exact ⟨j + 1, p7, k7, m7, hlt, by go_num, rfl, by rw [HTK.out, ← List.append_assoc]; exact HM7.out, by rw [HTK.out, ← List.append_assoc]; exact HO7.out, HBG.out⟩
     case measure => exact HME.out
    ·have hk' : ¬ (j : Int) < n2 := by omega
     have HTT := Lib.hid (show lens.take j = lens by rw [List.take_of_length_le]; rw [← HN2.out]; omega)
     have hl4 := HLNN.out
     rw [HTT.out] at hl4
     have ho4 := HOWN.out
     rw [HTT.out] at ho4
     have d2 := (HE.out.below hbw).ci 3 rfl
     have HBND := Lib.hid (show n' ≤ 43000100 by
      have h1 := HLE.out
      rw [HRES.out] at h1
      rw [← hl4]
      simp only [List.length_append] at h1 ⊢
      omega)
     have HRO := Lib.hid (rd_len ho4)
     have HL4 := Lib.hid hl4
     have hNB : n3 < 18446744073709551616 := by omega
     clear hl4 ho4 hbw
     go_wp2_with fail
     refine (rcount_any n3 _ hNB).mono ?_
     rintro e wP ⟨q1, q2, q3, hq3, rfl, hoq, hbq⟩
     have HJ4 := Lib.hid (rjoin_any a' q1 c' q2 n' q3 _ _ wP HL4.out hq3 (by have := HBND.out; have := bytesU_len10 n3 (by omega); omega) (HRO.out.below hbq) (rd_len hoq))
     have HBP := Lib.hid (HBR.out.trans (hbq.mono HBR.out.size))
     clear hoq hbq hq3 d2 d
     go_wp2_with fail
     refine (HJ4.out).mono ?_
     rintro e wQ ⟨p3, k3, m3, hm3, rfl, ho3, hbQ⟩
     have HBW := Lib.hid (HBP.out.trans (hbQ.mono HBP.out.size))
     obtain ⟨HD3, hHD2⟩ : ∃ X, X = HD2 ++ lens.flatMap bytesI ++ bytesU n3 := ⟨_, rfl⟩
     have HM3 := Lib.hid (show HD3.length = m3 by rw [hHD2]; exact hm3)
     have HO3 := Lib.hid (show wQ.ownsRow w.heap.size 5 1 (.slice p3 m3 k3) m3 (HD3.map B) by rw [hHD2]; exact ownsRow_base ho3 (Nat.le_trans HB0.out.size HBP.out.size))
     have HRES := Lib.hid (show RES = HD3 ++ vals.flatMap byVal by rw [HRES.out, hHD2]; simp only [List.append_assoc])
     clear hHD2 ho3 hm3 hbQ hk' HTT HL4 HRO HJ4 HOWN HLNN HBR HBP HBND
     go_wp2_with fail
     go_loopw [3, 6] (fun v i wr => ∃ (j : Nat) (a' : Option Addr) (c' n' : Nat), j ≤ n3 ∧ i = .int .i64 (j : Int) ∧ v = .slice a' n' c' ∧ (HD3 ++ (vals.take j).flatMap byVal).length = n' ∧ wr.ownsRow w.heap.size 5 1 v n' ((HD3 ++ (vals.take j).flatMap byVal).map B) ∧ Below w0.heap.size w0 wr) (fun _ i _ => n3 - (intOf i).toNat)
     case atStart => exact ⟨0, p3, k3, m3, Nat.zero_le _, rfl, rfl, by simpa using HM3.out, by simpa using HO3.out, HBW.out⟩
     case round =>
      obtain ⟨j, a', c', n', hjn, rfl, rfl, hln, hown, hbw⟩ := hrel
      have HLNN := Lib.hid hln
      have HOWN := Lib.hid hown
      have HBR := Lib.hid hbw
      have d := (HE.out.below hbw).ci 3 rfl
      clear hln hown
      by_cases hlt : j < n3
      ·have hjl : j < vals.length := by rw [← HN3.out]; exact hlt
       obtain ⟨b, off, rfl, e0, e1⟩ := (HVL.out.below hbw).at j hjl
       have htk : (vals.take (j + 1)).flatMap byVal = (vals.take j).flatMap byVal ++ byVal vals[j] := by
        rw [take_snoc vals j hjl, List.flatMap_append]; simp
       have hdr : vals.flatMap byVal = (vals.take j).flatMap byVal ++ (byVal vals[j] ++ (vals.drop (j + 1)).flatMap byVal) := by
        conv => lhs; rw [← List.take_append_drop j vals, List.drop_eq_getElem_cons hjl]
        rw [List.flatMap_append, List.flatMap_cons]
       have hbnd := HVB.out _ (List.getElem_mem hjl)
       obtain ⟨u, hu⟩ : ∃ u, u = vals[j] := ⟨_, rfl⟩
       rw [← hu] at htk hdr hbnd e0 e1
       have HNBB := Lib.hid (show n' + (byVal u).length ≤ 43000100 by
        have h1 := HLE.out
        have h2 := HLNN.out
        rw [HRES.out, hdr] at h1
        simp only [List.length_append] at h1 h2
        omega)
       have HTK := Lib.hid htk
       have HME := Lib.hid (meas_lt hlt)
       have hlt' : (j : Int) < n3 := by omega
       have hj0 : (0 : Int) ≤ j := by omega
       obtain ⟨uk, un⟩ := u
       dsimp only at e0 e1
       have HC1 := Lib.hid (rvalue_any ⟨uk, un⟩ wr hbnd)
       clear htk hdr hu hbw hbnd
       go_wp2_with fail
       refine (HC1.out).mono ?_
       rintro e wF ⟨p6, k6, m6, hm6, rfl, ho6, hbF⟩
       have HJ2 := Lib.hid (rjoin_any a' p6 c' k6 n' m6 _ _ wF HLNN.out hm6 (by have := HNBB.out; have := hm6; first | omega | (unfold bytesI at *; omega)) ((rd_len HOWN.out).below hbF) (rd_len ho6))
       have HBF := Lib.hid (HBR.out.trans (hbF.mono HBR.out.size))
       clear ho6 hbF hm6 d e0 e1
       go_wp2_with fail
       refine (HJ2.out).mono ?_
       rintro e wG ⟨p7, k7, m7, hm7, rfl, ho7, hbG⟩
       have HO7 := Lib.hid (ownsRow_base ho7 (Nat.le_trans HB0.out.size HBF.out.size))
       have HBG := Lib.hid (HBF.out.trans (hbG.mono HBF.out.size))
       have HM7 := Lib.hid hm7
       clear ho7 hbG hm7
       go_wp2_with fail
       go_roundw
       case rel => exact ⟨j + 1, p7, k7, m7, hlt, by go_num, rfl, by rw [HTK.out, ← List.append_assoc]; exact HM7.out, by rw [HTK.out, ← List.append_assoc]; exact HO7.out, HBG.out⟩
       case measure => exact HME.out
      ·have hk' : ¬ (j : Int) < n3 := by omega
       have HTT := Lib.hid (show vals.take j = vals by rw [List.take_of_length_le]; rw [← HN3.out]; omega)
       have hl4 := HLNN.out
       rw [HTT.out, ← HRES.out] at hl4
       have ho4 := HOWN.out
       rw [HTT.out, ← HRES.out] at ho4
       have HO4 := Lib.hid ho4
       have HL4 := Lib.hid hl4
       have d2 := (HE.out.below hbw).ci 3 rfl
       clear hl4 ho4 hbw
       go_wp2_with fail
       go_ret
       exact ⟨a', c', n', HL4.out, rfl, HO4.out, HB0.out.trans (HBR.out.mono HB0.out.size)⟩
end Go.Proofs.YtfglgpbjjpoimaaGreatDoor
/- SaveEncodes: the order of names; the reference's before, clean; the program's Name.Before, Event.Name, Event.Before. -/
set_option linter.unusedVariables false
namespace Go.Proofs.YtfglgpbjjpoimaaGreatDoor
open Go.RowKit Sv
def nmLt (a b : Nm) : Bool := if a.ts = b.ts then decide (a.id < b.id) else decide (a.ts < b.ts)
theorem nm_cases (t u : Int) (i j : Nat) : (t = u ∧ (i : Int) < j ∧ nmLt ⟨t, i⟩ ⟨u, j⟩ = true) ∨ (t = u ∧ ¬ (i : Int) < j ∧ nmLt ⟨t, i⟩ ⟨u, j⟩ = false) ∨ (¬ t = u ∧ t < u ∧ nmLt ⟨t, i⟩ ⟨u, j⟩ = true) ∨ (¬ t = u ∧ ¬ t < u ∧ nmLt ⟨t, i⟩ ⟨u, j⟩ = false) := by
 unfold nmLt
 dsimp only
 by_cases h : t = u
 ·rw [if_pos h]
  by_cases h2 : i < j
  ·exact .inl ⟨h, by omega, by simpa using h2⟩
  ·exact .inr (.inl ⟨h, by omega, by simpa using h2⟩)
 ·rw [if_neg h]
  by_cases h2 : t < u
  ·exact .inr (.inr (.inl ⟨h, h2, by simpa using h2⟩))
  ·exact .inr (.inr (.inr ⟨h, h2, by simpa using h2⟩))
set_option maxHeartbeats 1000000 in
theorem rbefore_any (a b : Nm) (w : World) : Calls Tryz.prog 44 #[.agg (nmc a).toArray, .agg (nmc b).toArray] w fun e w' => e = .returned (.bool (nmLt a b)) ∧ Below w.heap.size w w' := by
 obtain ⟨t, i⟩ := a
 obtain ⟨u, j⟩ := b
 obtain ⟨F, hF⟩ : ∃ F, F = nmLt ⟨t, i⟩ ⟨u, j⟩ := ⟨_, rfl⟩
 rw [← hF]
 have hc := nm_cases t u i j
 rw [← hF] at hc
 simp only [nmc]
 clear hF
 rcases hc with ⟨rfl, h1, rfl⟩ | ⟨rfl, h1, rfl⟩ | ⟨h1, h2, rfl⟩ | ⟨h1, h2, rfl⟩
 ·go_enter Tryz.func44, Tryz.ntmps44
  go_wp2_with fail
  go_ret
  exact ⟨rfl, bal (bal (Below.refl w.heap.size w) (Nat.le_refl _) _) (Nat.le_refl _) _⟩
 ·go_enter Tryz.func44, Tryz.ntmps44
  go_wp2_with fail
  go_ret
  exact ⟨rfl, bal (bal (Below.refl w.heap.size w) (Nat.le_refl _) _) (Nat.le_refl _) _⟩
 ·have h3 : (t == u) = false := by simpa using h1
  have h4 : (t != u) = true := by simpa using h1
  clear h1
  go_enter Tryz.func44, Tryz.ntmps44
  go_wp2_with fail
  go_ret
  exact ⟨rfl, bal (bal (Below.refl w.heap.size w) (Nat.le_refl _) _) (Nat.le_refl _) _⟩
 ·have h3 : (t == u) = false := by simpa using h1
  have h4 : (t != u) = true := by simpa using h1
  clear h1
  go_enter Tryz.func44, Tryz.ntmps44
  go_wp2_with fail
  go_ret
  exact ⟨rfl, bal (bal (Below.refl w.heap.size w) (Nat.le_refl _) _) (Nat.le_refl _) _⟩
set_option maxHeartbeats 1000000 in
theorem nmbefore_any (a b : Nm) (w : World) : Calls Tryz.prog 72 #[.agg (nmc a).toArray, .agg (nmc b).toArray] w fun e w' => e = .returned (.bool (nmLt a b)) ∧ Below w.heap.size w w' := by
 obtain ⟨t, i⟩ := a
 obtain ⟨u, j⟩ := b
 obtain ⟨F, hF⟩ : ∃ F, F = nmLt ⟨t, i⟩ ⟨u, j⟩ := ⟨_, rfl⟩
 rw [← hF]
 have hc := nm_cases t u i j
 rw [← hF] at hc
 simp only [nmc]
 clear hF
 rcases hc with ⟨rfl, h1, rfl⟩ | ⟨rfl, h1, rfl⟩ | ⟨h1, h2, rfl⟩ | ⟨h1, h2, rfl⟩
 ·have h5 : ¬ t < t := by omega
  go_enter Tryz.func72, Tryz.ntmps72
  go_wp2_with fail
  go_ret
  exact ⟨rfl, bal (bal (Below.refl w.heap.size w) (Nat.le_refl _) _) (Nat.le_refl _) _⟩
 ·have h5 : ¬ t < t := by omega
  go_enter Tryz.func72, Tryz.ntmps72
  go_wp2_with fail
  go_ret
  exact ⟨rfl, bal (bal (Below.refl w.heap.size w) (Nat.le_refl _) _) (Nat.le_refl _) _⟩
 ·go_enter Tryz.func72, Tryz.ntmps72
  go_wp2_with fail
  go_ret
  exact ⟨rfl, bal (bal (Below.refl w.heap.size w) (Nat.le_refl _) _) (Nat.le_refl _) _⟩
 ·have h3 : (t == u) = false := by simpa using h1
  clear h1
  go_enter Tryz.func72, Tryz.ntmps72
  go_wp2_with fail
  go_ret
  exact ⟨rfl, bal (bal (Below.refl w.heap.size w) (Nat.le_refl _) _) (Nat.le_refl _) _⟩
def evL (ts id typ a0 a1 a2 a3 a4 a5 a6 a7 : Int) : Array Value := #[.int .i64 ts, .int .u64 id, .int .i64 typ, .int .i64 a0, .int .i64 a1, .int .i64 a2, .int .i64 a3, .int .i64 a4, .int .i64 a5, .int .i64 a6, .int .i64 a7]
set_option maxHeartbeats 1000000 in
theorem evname_any (ts id typ a0 a1 a2 a3 a4 a5 a6 a7 : Int) (w : World) : Calls Tryz.prog 73 #[.agg #[.int .i64 ts, .int .u64 id, .int .i64 typ, .int .i64 a0, .int .i64 a1, .int .i64 a2, .int .i64 a3, .int .i64 a4, .int .i64 a5, .int .i64 a6, .int .i64 a7]] w fun e w' => e = .returned (.agg #[.int .i64 ts, .int .u64 id]) ∧ Below w.heap.size w w' := by
 go_enter Tryz.func73, Tryz.ntmps73
 go_wp2_with fail
 go_returns
 exact ⟨rfl, bal (bal (Below.refl w.heap.size w) (Nat.le_refl _) _) (Nat.le_refl _) _⟩
def cleanB (l : List (Bool × Int)) : Bool := l.all fun v => v.1 || decide (v.2 = 0)
set_option maxHeartbeats 1000000 in
theorem rclean_any (a : Option Addr) (c n : Nat) (l : List (Bool × Int)) (w : World) (hn : n = l.length) (hN : n ≤ 1048576) (h : RdV w a l) :
  Calls Tryz.prog 42 #[.slice a n c] w fun e w' => e = .returned (.bool (cleanB l)) ∧ w' = w := by
 obtain ⟨F, hF⟩ : ∃ F, F = cleanB l := ⟨_, rfl⟩
 rw [← hF]
 have HF := Lib.hid hF
 have HN := Lib.hid hn
 have HR := Lib.hid h
 clear hF hn h
 go_enter Tryz.func42, Tryz.ntmps42
 go_wp2_with fail
 go_loopw [3] (fun i wr => ∃ k : Nat, k ≤ n ∧ i = .int .i64 (k : Int) ∧ (l.take k).all (fun v => v.1 || decide (v.2 = 0)) = true ∧ wr = w) (fun i _ => n - (intOf i).toNat)
 case atStart => exact ⟨0, Nat.zero_le _, rfl, by simp, rfl⟩
 case round =>
  obtain ⟨k, hkn, rfl, hal, rfl⟩ := hrel
  have HAL := Lib.hid hal
  by_cases hlt : k < n
  ·have hkl : k < l.length := by rw [← HN.out]; exact hlt
   obtain ⟨b, off, rfl, e0, e1⟩ := HR.out.at k hkl
   have hlt' : (k : Int) < n := by omega
   have hk0 : (0 : Int) ≤ k := by omega
   have hno := @all_noG (Bool × Int) l (fun v => v.1 || decide (v.2 = 0)) k hkl
   have hst := fun h => all_stepG (p := fun v : Bool × Int => v.1 || decide (v.2 = 0)) hkl HAL.out h
   obtain ⟨y, hy⟩ : ∃ y, y = l[k] := ⟨_, rfl⟩
   rw [← hy] at e0 e1 hno hst
   obtain ⟨kn, nn⟩ := y
   dsimp only at e0 e1 hno hst
   have HNOF := Lib.hid hno
   have HSTF := Lib.hid hst
   have HME := Lib.hid (meas_lt hlt)
   have HKS := Lib.hid (show k + 1 ≤ n from hlt)
   clear hal hno hst hy
   cases kn with
   | true =>
    have HST := Lib.hid (HSTF.out rfl)
    go_wp2_with fail
    go_roundw
    case rel => exact ⟨k + 1, HKS.out, by go_num, HST.out, trivial⟩
    case measure => exact HME.out
   | false =>
    by_cases hz : nn = 0
    ·subst hz
     have HST := Lib.hid (HSTF.out rfl)
     go_wp2_with fail
     go_roundw
     case rel => exact ⟨k + 1, HKS.out, by go_num, HST.out, trivial⟩
     case measure => exact HME.out
    ·have h1 : (nn == 0) = false := by simpa using hz
     have h2 : (nn != 0) = true := by simpa using hz
     have HNO := Lib.hid (show F = false by rw [HF.out]; exact HNOF.out (by simpa using hz))
     clear hz
     go_wp2_with fail
     go_ret
     exact ⟨by rw [HNO.out]; rfl, rfl⟩
  ·have hk' : ¬ (k : Int) < n := by omega
   have HNO := Lib.hid (show F = true by
    rw [List.take_of_length_le (by rw [← HN.out]; omega)] at hal
    rw [HF.out]; exact hal)
   clear hal
   go_wp2_with fail
   go_ret
   exact ⟨by rw [HNO.out]; rfl, rfl⟩
end Go.Proofs.YtfglgpbjjpoimaaGreatDoor
