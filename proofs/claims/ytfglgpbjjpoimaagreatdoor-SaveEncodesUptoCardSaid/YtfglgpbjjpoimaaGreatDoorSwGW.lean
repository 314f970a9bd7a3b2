/- SaveEncodes: the program's writer of bytes: match. -/
import Derived.Test.YtfglgpbjjpoimaaGreatDoorSwGV
import Derived.Deep.CutBlock
set_option linter.unusedVariables false
namespace Go.Proofs.YtfglgpbjjpoimaaGreatDoor
open Go.RowKit Sv
/-- The writer, and a block beside it. -/
def BtK (base g : Nat) (l : List UInt8) (k : Nat) (t : TypeId) (cs : List Value) (w w' : World) : Prop := BtP base g l w w' ∧ Blk w' k t cs ∧ Off g k w'
theorem BtK.step {base g : Nat} {l l' : List UInt8} {k : Nat} {t : TypeId} {cs : List Value} {w w1 w2 : World} (h : BtK base g l k t cs w w1) (hp : BtP base g l' w1 w2) : BtK base g l' k t cs w w2 := by
 have hb := hp.2.2.blk h.2.1 h.2.2
 exact ⟨h.1.trans hp, hb.1, hb.2⟩
theorem BtK.below {base g : Nat} {l : List UInt8} {k : Nat} {t : TypeId} {cs : List Value} {w w1 w2 : World} (h : BtK base g l k t cs w w1) (hb : base ≤ w.heap.size) (hbb : Below w1.heap.size w1 w2) : BtK base g l k t cs w w2 :=
 ⟨h.1.trans (BtP.of h.1.1 (Nat.le_trans hb h.1.2.1.size) hbb), h.2.1.below hbb, Off.below h.1.1.lt hbb h.2.2⟩
set_option maxHeartbeats 4000000 in
set_option maxRecDepth 20000 in
theorem smatch_any (base g : Nat) (x : Mm) (l : List UInt8) (w : World) (hR : ∀ w', Below base w w' → RdMl w' x) (hB : MtB x.m) (hl : l.length ≤ 80000000000000) (hb : base ≤ w.heap.size) (h : Bt base g l w) :
  Calls Tryz.prog 27 #[.pointer (some ⟨g, 0, none⟩), .agg (mmc x).toArray] w fun e w' => e = .returned (.tuple #[]) ∧ BtP base g (l ++ byMt x.m) w w' := by
 obtain ⟨⟨dec, names, lens, vals⟩, na, nc, la, lc, va, vc⟩ := x
 obtain ⟨b1, b2, b3, b4, b5, b6, b7⟩ := hB
 dsimp only at b1 b2 b3 b4 b5 b6 b7 hR ⊢
 obtain ⟨n1, hn1⟩ : ∃ n, n = names.length := ⟨_, rfl⟩
 obtain ⟨n2, hn2⟩ : ∃ n, n = lens.length := ⟨_, rfl⟩
 obtain ⟨n3, hn3⟩ : ∃ n, n = vals.length := ⟨_, rfl⟩
 obtain ⟨w0, hw0⟩ : ∃ w0, w0 = w.alloc (.cells #[.int .i64 dec, .slice na n1 nc, .slice la n2 lc, .slice va n3 vc] 62) := ⟨_, rfl⟩
 obtain ⟨k, hk⟩ : ∃ k, k = w.heap.size := ⟨_, rfl⟩
 have hbb : Below w.heap.size w w0 := by rw [hw0]; exact bal (Below.refl _ _) (Nat.le_refl _) _
 have hK0 : BtK base g l k 62 [.int .i64 dec, .slice na n1 nc, .slice la n2 lc, .slice va n3 vc] w w0 := ⟨BtP.of h hb hbb, by rw [hw0, hk]; exact Blk.new w _ 62, by rw [hk]; exact h.off hbb w.heap.size (Nat.le_refl _)⟩
 have HK := Lib.hid hK0
 have HB := Lib.hid hb
 have HLL := Lib.hid hl
 have HRR := Lib.hid hR
 have HN1 := Lib.hid hn1
 have HN2 := Lib.hid hn2
 have HN3 := Lib.hid hn3
 have HNB := Lib.hid b5
 have HLB := Lib.hid b6
 have HVB := Lib.hid b7
 have HU1 := Lib.hid (bytesI_le dec b1)
 rw [← hn1] at b2
 rw [← hn2] at b3
 rw [← hn3] at b4
 obtain ⟨RES, hRES⟩ : ∃ RES, RES = l ++ byMt ⟨dec, names, lens, vals⟩ := ⟨_, rfl⟩
 rw [← hRES]
 have HRES := Lib.hid (show RES = l ++ bytesI dec ++ bytesU n1 ++ names.flatMap byName ++ bytesU n2 ++ lens.flatMap bytesI ++ bytesU n3 ++ vals.flatMap byVal by rw [hRES, hn1, hn2, hn3]; unfold byMt byNames; simp only [List.append_assoc])
 have c0 := hK0.2.1.ci 0 rfl
 simp only [mmc, ← hn1, ← hn2, ← hn3]
 clear h hb hl hR hn1 hn2 hn3 b5 b6 b7 hRES hbb hK0
 go_enter Tryz.func27, Tryz.ntmps27
 go_upto_region 1 with fail
 rw [← hw0, ← hk]
 clear hw0 hk
 go_wp2_with fail
 refine (wnumber_any base g dec l w0 b1 (by have := HLL.out; omega) (Nat.le_trans HB.out HK.out.1.2.1.size) HK.out.1.1).mono ?_
 rintro e w1 ⟨rfl, hp1⟩
 have HK := Lib.hid (HK.out.step hp1)
 obtain ⟨L1, hL1⟩ : ∃ L, L = l ++ bytesI dec := ⟨_, rfl⟩
 rw [← hL1] at HK
 have HL1 := Lib.hid hL1
 have HB1 := Lib.hid (show L1.length ≤ 80000000000010 by rw [hL1, List.length_append]; have := HLL.out; have := HU1.out; omega)
 clear hp1 hL1 c0
 have c1 := HK.out.2.1.ci 1 rfl
 go_wp2_with fail
 refine (wcount_any base g n1 L1 _ (by omega) (by have := HB1.out; omega) (Nat.le_trans HB.out HK.out.1.2.1.size) HK.out.1.1).mono ?_
 rintro e wc1 ⟨rfl, hp⟩
 have HK := Lib.hid (HK.out.step hp)
 obtain ⟨L2, hL⟩ : ∃ L, L = L1 ++ bytesU n1 := ⟨_, rfl⟩
 rw [← hL] at HK
 have HL2 := Lib.hid hL
 have HB2 := Lib.hid (show L2.length ≤ 80000000000100 by rw [hL, List.length_append]; have := HB1.out; have := bytesU_len10 n1 (by omega); omega)
 clear hp hL c1
 have c1 := HK.out.2.1.ci 1 rfl
 go_wp2_with fail
 go_loopw [23] (fun i wr => ∃ j : Nat, j ≤ n1 ∧ i = .int .i64 (j : Int) ∧ BtK base g (L2 ++ (names.take j).flatMap byName) k 62 [.int .i64 dec, .slice na n1 nc, .slice la n2 lc, .slice va n3 vc] w wr) (fun i _ => n1 - (intOf i).toNat)
 case atStart => exact ⟨0, Nat.zero_le _, rfl, by simpa using HK.out⟩
 case round =>
  obtain ⟨j, hjn, rfl, hk⟩ := hrel
  have HKJ := Lib.hid hk
  clear hk
  by_cases hlt : j < n1
  ·have hjl : j < names.length := by rw [← HN1.out]; exact hlt
   have htk : (names.take (j + 1)).flatMap byName = (names.take j).flatMap byName ++ byName names[j] := by
    rw [take_snoc names j hjl, List.flatMap_append]; simp
   obtain ⟨b, off, rfl, e0, e1⟩ := (HRR.out wr HKJ.out.1.2.1).1.at j hjl
   have hub := HNB.out _ (List.getElem_mem hjl)
   obtain ⟨u, hu⟩ : ∃ u, u = names[j] := ⟨_, rfl⟩
   rw [← hu] at htk e0 e1 hub
   have HTK := Lib.hid htk
   have HME := Lib.hid (meas_lt hlt)
   have HKS := Lib.hid (show j + 1 ≤ n1 from hlt)
   have hlt' : (j : Int) < n1 := by omega
   have hj0 : (0 : Int) ≤ j := by omega
   have HFL := Lib.hid (show (L2 ++ (names.take j).flatMap byName).length ≤ 80000021500000 by
    have h1 := flat_le byName 20 (names.take j) (fun v hv => byName_le (HNB.out v (List.mem_of_mem_take hv)))
    have h2 := List.length_take_le j names
    have h3 := HB2.out
    rw [List.length_append]; omega)
   clear htk hu
   obtain ⟨ut, ui⟩ := u
   dsimp only at e0 e1
   obtain ⟨wb, hwb⟩ : ∃ wb, wb = wr.alloc (.cells #[.int .i64 ut, .int .u64 (ui : Int)] 82) := ⟨_, rfl⟩
   have HKB := Lib.hid (HKJ.out.below HB.out (show Below wr.heap.size wr wb by rw [hwb]; exact bal (Below.refl _ _) (Nat.le_refl _) _))
   have HC := Lib.hid (sname_any base g ⟨ut, ui⟩ _ wb hub (by have := HFL.out; omega) (Nat.le_trans HB.out HKB.out.1.2.1.size) HKB.out.1.1)
   clear hub
   go_wp2_with fail
   rw [← hwb]
   clear hwb e0 e1
   refine (HC.out).mono ?_
   rintro e w9 ⟨rfl, hp9⟩
   have HK9 := Lib.hid (HKB.out.step hp9)
   clear hp9
   go_wp2_with fail
   go_roundw
   case rel => exact ⟨j + 1, HKS.out, by go_num, by rw [HTK.out, ← List.append_assoc]; exact HK9.out⟩
   case measure => exact HME.out
  ·have hk' : ¬ (j : Int) < n1 := by omega
   have hje : names.take j = names := by rw [List.take_of_length_le]; rw [← HN1.out]; omega
   obtain ⟨L3, hL⟩ : ∃ L, L = L2 ++ names.flatMap byName := ⟨_, rfl⟩
   have HK := Lib.hid (show BtK base g L3 k 62 [.int .i64 dec, .slice na n1 nc, .slice la n2 lc, .slice va n3 vc] w wr by have h := HKJ.out; rw [hje, ← hL] at h; exact h)
   have HL3 := Lib.hid hL
   have HB3 := Lib.hid (show L3.length ≤ 80000021500000 by
    have h1 := flat_le byName 20 names (fun v hv => byName_le (HNB.out v hv))
    have h3 := HB2.out
    have h4 := HN1.out
    rw [hL, List.length_append]; omega)
   obtain ⟨wL3, rfl⟩ : ∃ v, v = wr := ⟨_, rfl⟩
   clear hL hje HKJ
   have c2 := HK.out.2.1.ci 2 rfl
   go_wp2_with fail
   refine (wcount_any base g n2 L3 _ (by omega) (by have := HB3.out; omega) (Nat.le_trans HB.out HK.out.1.2.1.size) HK.out.1.1).mono ?_
   rintro e wc3 ⟨rfl, hp⟩
   have HK := Lib.hid (HK.out.step hp)
   obtain ⟨L4, hL⟩ : ∃ L, L = L3 ++ bytesU n2 := ⟨_, rfl⟩
   rw [← hL] at HK
   have HL4 := Lib.hid hL
   have HB4 := Lib.hid (show L4.length ≤ 80000022000000 by rw [hL, List.length_append]; have := HB3.out; have := bytesU_len10 n2 (by omega); omega)
   clear hp hL c2
   have c2 := HK.out.2.1.ci 2 rfl
   go_wp2_with fail
   go_loopw [40] (fun i wr => ∃ j : Nat, j ≤ n2 ∧ i = .int .i64 (j : Int) ∧ BtK base g (L4 ++ (lens.take j).flatMap bytesI) k 62 [.int .i64 dec, .slice na n1 nc, .slice la n2 lc, .slice va n3 vc] w wr) (fun i _ => n2 - (intOf i).toNat)
   case atStart => exact ⟨0, Nat.zero_le _, rfl, by simpa using HK.out⟩
   case round =>
    obtain ⟨j, hjn, rfl, hk⟩ := hrel
    have HKJ := Lib.hid hk
    clear hk
    by_cases hlt : j < n2
    ·have hjl : j < lens.length := by rw [← HN2.out]; exact hlt
     have htk : (lens.take (j + 1)).flatMap bytesI = (lens.take j).flatMap bytesI ++ bytesI lens[j] := by
      rw [take_snoc lens j hjl, List.flatMap_append]; simp
     obtain ⟨b, off, rfl, e0⟩ := (HRR.out wr HKJ.out.1.2.1).2.1.at j hjl
     have hub := HLB.out _ (List.getElem_mem hjl)
     obtain ⟨u, hu⟩ : ∃ u, u = lens[j] := ⟨_, rfl⟩
     rw [← hu] at htk e0 hub
     have HTK := Lib.hid htk
     have HME := Lib.hid (meas_lt hlt)
     have HKS := Lib.hid (show j + 1 ≤ n2 from hlt)
     have hlt' : (j : Int) < n2 := by omega
     have hj0 : (0 : Int) ≤ j := by omega
     have HFL := Lib.hid (show (L4 ++ (lens.take j).flatMap bytesI).length ≤ 80000033000000 by
      have h1 := flat_le bytesI 10 (lens.take j) (fun v hv => bytesI_le v (HLB.out v (List.mem_of_mem_take hv)))
      have h2 := List.length_take_le j lens
      have h3 := HB4.out
      rw [List.length_append]; omega)
     clear htk hu
     have HC := Lib.hid (wnumber_any base g u _ wr hub (by have := HFL.out; omega) (Nat.le_trans HB.out HKJ.out.1.2.1.size) HKJ.out.1.1)
     clear hub
     go_wp2_with fail
     clear e0
     refine (HC.out).mono ?_
     rintro e w9 ⟨rfl, hp9⟩
     have HK9 := Lib.hid (HKJ.out.step hp9)
     clear hp9
     go_wp2_with fail
     go_roundw
     case rel => exact ⟨j + 1, HKS.out, by go_num, by rw [HTK.out, ← List.append_assoc]; exact HK9.out⟩
     case measure => exact HME.out
    ·have hk' : ¬ (j : Int) < n2 := by omega
     have hje : lens.take j = lens := by rw [List.take_of_length_le]; rw [← HN2.out]; omega
     obtain ⟨L5, hL⟩ : ∃ L, L = L4 ++ lens.flatMap bytesI := ⟨_, rfl⟩
     have HK := Lib.hid (show BtK base g L5 k 62 [.int .i64 dec, .slice na n1 nc, .slice la n2 lc, .slice va n3 vc] w wr by have h := HKJ.out; rw [hje, ← hL] at h; exact h)
     have HL5 := Lib.hid hL
     have HB5 := Lib.hid (show L5.length ≤ 80000033000000 by
      have h1 := flat_le bytesI 10 lens (fun v hv => bytesI_le v (HLB.out v hv))
      have h3 := HB4.out
      have h4 := HN2.out
      rw [hL, List.length_append]; omega)
     obtain ⟨wL5, rfl⟩ : ∃ v, v = wr := ⟨_, rfl⟩
     clear hL hje HKJ
     have c3 := HK.out.2.1.ci 3 rfl
     go_wp2_with fail
     refine (wcount_any base g n3 L5 _ (by omega) (by have := HB5.out; omega) (Nat.le_trans HB.out HK.out.1.2.1.size) HK.out.1.1).mono ?_
     rintro e wc5 ⟨rfl, hp⟩
     have HK := Lib.hid (HK.out.step hp)
     obtain ⟨L6, hL⟩ : ∃ L, L = L5 ++ bytesU n3 := ⟨_, rfl⟩
     rw [← hL] at HK
     have HL6 := Lib.hid hL
     have HB6 := Lib.hid (show L6.length ≤ 80000040000000 by rw [hL, List.length_append]; have := HB5.out; have := bytesU_len10 n3 (by omega); omega)
     clear hp hL c3
     have c3 := HK.out.2.1.ci 3 rfl
     go_wp2_with fail
     go_loopw [57] (fun i wr => ∃ j : Nat, j ≤ n3 ∧ i = .int .i64 (j : Int) ∧ BtK base g (L6 ++ (vals.take j).flatMap byVal) k 62 [.int .i64 dec, .slice na n1 nc, .slice la n2 lc, .slice va n3 vc] w wr) (fun i _ => n3 - (intOf i).toNat)
     case atStart => exact ⟨0, Nat.zero_le _, rfl, by simpa using HK.out⟩
     case round =>
      obtain ⟨j, hjn, rfl, hk⟩ := hrel
      have HKJ := Lib.hid hk
      clear hk
      by_cases hlt : j < n3
      ·have hjl : j < vals.length := by rw [← HN3.out]; exact hlt
       have htk : (vals.take (j + 1)).flatMap byVal = (vals.take j).flatMap byVal ++ byVal vals[j] := by
        rw [take_snoc vals j hjl, List.flatMap_append]; simp
       obtain ⟨b, off, rfl, e0, e1⟩ := (HRR.out wr HKJ.out.1.2.1).2.2.at j hjl
       have hub := HVB.out _ (List.getElem_mem hjl)
       obtain ⟨u, hu⟩ : ∃ u, u = vals[j] := ⟨_, rfl⟩
       rw [← hu] at htk e0 e1 hub
       have HTK := Lib.hid htk
       have HME := Lib.hid (meas_lt hlt)
       have HKS := Lib.hid (show j + 1 ≤ n3 from hlt)
       have hlt' : (j : Int) < n3 := by omega
       have hj0 : (0 : Int) ≤ j := by omega
       have HFL := Lib.hid (show (L6 ++ (vals.take j).flatMap byVal).length ≤ 80000060000000 by
        have h1 := flat_le byVal 11 (vals.take j) (fun v hv => byVal_le (HVB.out v (List.mem_of_mem_take hv)))
        have h2 := List.length_take_le j vals
        have h3 := HB6.out
        rw [List.length_append]; omega)
       clear htk hu
       obtain ⟨uk, un⟩ := u
       dsimp only at e0 e1 hub
       obtain ⟨wb, hwb⟩ : ∃ wb, wb = wr.alloc (.cells #[.bool uk, .int .i64 un] 64) := ⟨_, rfl⟩
       obtain ⟨gb, hgb⟩ : ∃ gb, gb = wr.heap.size := ⟨_, rfl⟩
       have hbb : Below wr.heap.size wr wb := by rw [hwb]; exact bal (Below.refl _ _) (Nat.le_refl _) _
       have hFb : Blk wb gb 64 [.bool uk, .int .i64 un] := by rw [hwb, hgb]; exact Blk.new wr _ 64
       have HKB := Lib.hid (HKJ.out.below HB.out hbb)
       have HOB := Lib.hid (show Off g gb wb by rw [hgb]; exact HKJ.out.1.1.off hbb wr.heap.size (Nat.le_refl _))
       have HFB := Lib.hid hFb
       have HC := Lib.hid (wflag_any base g uk _ wb (by have := HFL.out; omega) (Nat.le_trans HB.out HKB.out.1.2.1.size) HKB.out.1.1)
       have f0 := hFb.ci 0 rfl
       clear hbb hFb
       go_upto_region 18 with fail
       rw [← hwb, ← hgb]
       clear hwb hgb e0 e1
       go_wp2_with fail
       refine (HC.out).mono ?_
       rintro e w9 ⟨rfl, hp9⟩
       have hfb := hp9.2.2.blk HFB.out HOB.out
       have HK9 := Lib.hid (HKB.out.step hp9)
       have d0 := hfb.1.ci 0 rfl
       have d1 := hfb.1.ci 1 rfl
       clear f0 hfb hp9
       cases uk with
       | false =>
        go_wp2_with fail
        go_roundw
        case rel => exact ⟨j + 1, HKS.out, by go_num, by rw [HTK.out, ← List.append_assoc]; exact HK9.out⟩
        case measure => exact HME.out
       | true =>
        have HC2 := Lib.hid (wnumber_any base g un _ w9 hub (by have := HFL.out; rw [List.length_append]; have : (closedB true).length = 1 := rfl; omega) (Nat.le_trans HB.out HK9.out.1.2.1.size) HK9.out.1.1)
        clear hub
        go_wp2_with fail
        refine (HC2.out).mono ?_
        rintro e w10 ⟨rfl, hp10⟩
        have HK10 := Lib.hid (HK9.out.step hp10)
        clear hp10 d0 d1
        go_wp2_with fail
        go_roundw
        case rel => exact ⟨j + 1, HKS.out, by go_num, by
         have h := HK10.out
         rw [List.append_assoc] at h
         rw [HTK.out, ← List.append_assoc]
         exact h⟩
        case measure => exact HME.out
      ·have hk' : ¬ (j : Int) < n3 := by omega
       have hje : vals.take j = vals := by rw [List.take_of_length_le]; rw [← HN3.out]; omega
       obtain ⟨L7, hL⟩ : ∃ L, L = L6 ++ vals.flatMap byVal := ⟨_, rfl⟩
       have HK := Lib.hid (show BtK base g L7 k 62 [.int .i64 dec, .slice na n1 nc, .slice la n2 lc, .slice va n3 vc] w wr by have h := HKJ.out; rw [hje, ← hL] at h; exact h)
       have HL7 := Lib.hid hL
       have HB7 := Lib.hid (show L7.length ≤ 80000060000000 by
        have h1 := flat_le byVal 11 vals (fun v hv => byVal_le (HVB.out v hv))
        have h3 := HB6.out
        have h4 := HN3.out
        rw [hL, List.length_append]; omega)
       obtain ⟨wL7, rfl⟩ : ∃ v, v = wr := ⟨_, rfl⟩
       clear hL hje HKJ
       have HRE := Lib.hid (show RES = L7 by rw [HRES.out, HL7.out, HL6.out, HL5.out, HL4.out, HL3.out, HL2.out, HL1.out])
       go_wp2_with fail
       go_end0
       exact ⟨rfl, by rw [HRE.out]; exact HK.out.1⟩
end Go.Proofs.YtfglgpbjjpoimaaGreatDoor
/- SaveEncodes: the program's writer of bytes: events. -/
set_option linter.unusedVariables false
namespace Go.Proofs.YtfglgpbjjpoimaaGreatDoor
open Go.RowKit Sv
theorem beside_step {base g : Nat} {l' : List UInt8} {k : Nat} {t : TypeId} {cs : List Value} {w1 w2 : World} (h : Blk w1 k t cs ∧ Off g k w1) (hp : BtP base g l' w1 w2) : Blk w2 k t cs ∧ Off g k w2 := hp.2.2.blk h.1 h.2
theorem beside_below {base g : Nat} {l : List UInt8} {k : Nat} {t : TypeId} {cs : List Value} {w1 w2 : World} (hb : Bt base g l w1) (h : Blk w1 k t cs ∧ Off g k w1) (hbb : Below w1.heap.size w1 w2) : Blk w2 k t cs ∧ Off g k w2 := ⟨h.1.below hbb, Off.below hb.lt hbb h.2⟩
set_option maxHeartbeats 4000000 in
set_option maxRecDepth 20000 in
theorem sevents_any (base g : Nat) (a : Option Addr) (c n : Nat) (ts_ : List Tp) (ea : Option Addr) (ec m : Nat) (evs : List Ev) (l : List UInt8) (w : World) (hn : ts_.length = n) (hm : evs.length = m) (hM : m ≤ 1048576) (hR : ∀ w', Below base w w' → RdT w' a ts_ ∧ RdE w' ea evs)
  (hok : ∀ e ∈ evs, EvOK (tys ts_) e) (hbv : ∀ e ∈ evs, EvB e) (hl : l.length ≤ 10000000000) (hb : base ≤ w.heap.size) (h : Bt base g l w) :
  Calls Tryz.prog 26 #[.pointer (some ⟨g, 0, none⟩), .agg #[.slice a n c], .slice ea m ec] w fun e w' => e = .returned (.tuple #[]) ∧ BtP base g (l ++ byEvs (tys ts_) evs) w w' := by
 obtain ⟨w0, hw0⟩ : ∃ w0, w0 = w.alloc (.cells #[.slice a n c] 24) := ⟨_, rfl⟩
 obtain ⟨k, hk⟩ : ∃ k, k = w.heap.size := ⟨_, rfl⟩
 have hbb : Below w.heap.size w w0 := by rw [hw0]; exact bal (Below.refl _ _) (Nat.le_refl _) _
 have hK0 : BtK base g l k 24 [.slice a n c] w w0 := ⟨BtP.of h hb hbb, by rw [hw0, hk]; exact Blk.new w _ 24, by rw [hk]; exact h.off hbb w.heap.size (Nat.le_refl _)⟩
 have HK := Lib.hid hK0
 have HB := Lib.hid hb
 have HLL := Lib.hid hl
 have HRR := Lib.hid hR
 have HNN := Lib.hid hn
 have HM := Lib.hid hm
 have HOK := Lib.hid hok
 have HBV := Lib.hid hbv
 obtain ⟨RES, hRES⟩ : ∃ RES, RES = l ++ byEvs (tys ts_) evs := ⟨_, rfl⟩
 rw [← hRES]
 have HRES := Lib.hid (show RES = l ++ bytesU m ++ evs.flatMap (byEv (tys ts_)) by rw [hRES, ← hm]; unfold byEvs; rw [List.append_assoc])
 clear h hb hl hR hn hm hok hbv hRES hbb hK0
 go_enter Tryz.func26, Tryz.ntmps26
 go_upto_region 1 with fail
 rw [← hw0, ← hk]
 clear hw0 hk
 go_wp2_with fail
 refine (wcount_any base g m l w0 (by omega) (by have := HLL.out; omega) (Nat.le_trans HB.out HK.out.1.2.1.size) HK.out.1.1).mono ?_
 rintro e w1 ⟨rfl, hp1⟩
 have HK := Lib.hid (HK.out.step hp1)
 obtain ⟨L1, hL1⟩ : ∃ L, L = l ++ bytesU m := ⟨_, rfl⟩
 rw [← hL1] at HK
 have HL1 := Lib.hid hL1
 have HB1 := Lib.hid (show L1.length ≤ 10000000010 by rw [hL1, List.length_append]; have := HLL.out; have := bytesU_len10 m (by omega); omega)
 clear hp1 hL1
 go_wp2_with fail
 go_loopw [16] (fun i wr => ∃ j : Nat, j ≤ m ∧ i = .int .i64 (j : Int) ∧ BtK base g (L1 ++ (evs.take j).flatMap (byEv (tys ts_))) k 24 [.slice a n c] w wr) (fun i _ => m - (intOf i).toNat)
 case atStart => exact ⟨0, Nat.zero_le _, rfl, by simpa using HK.out⟩
 case round =>
  obtain ⟨j, hjn, rfl, hk⟩ := hrel
  have HKJ := Lib.hid hk
  clear hk
  by_cases hlt : j < m
  ·have hjl : j < evs.length := by rw [HM.out]; exact hlt
   have hmem : evs[j] ∈ evs := List.getElem_mem hjl
   have htk : (evs.take (j + 1)).flatMap (byEv (tys ts_)) = (evs.take j).flatMap (byEv (tys ts_)) ++ byEv (tys ts_) evs[j] := by
    rw [take_snoc evs j hjl, List.flatMap_append]; simp
   have hebv := HBV.out _ hmem
   obtain ⟨q, hq, hql, hq8⟩ := ok_ats (HOK.out _ hmem)
   have hre := (HRR.out wr HKJ.out.1.2.1).2
   obtain ⟨b, off, hea⟩ := hre.some j hjl
   obtain ⟨a0, a1, a2, a3, a4, a5, a6, a7, hat⟩ := at8 hebv.len
   obtain ⟨ts, id, typ, at_, hev⟩ : ∃ ts id typ at_, evs[j] = ⟨ts, id, typ, at_⟩ := ⟨_, _, _, _, rfl⟩
   rw [hev] at hat hq hebv htk
   dsimp only at hat hq
   obtain ⟨hb1, hb2, hb3, hb4, hb5⟩ := hebv
   dsimp only at hb1 hb2 hb3 hb4 hb5
   obtain ⟨id, rfl⟩ : ∃ i : Nat, id = i := ⟨id.toNat, by omega⟩
   subst hq
   have hid : id < 18446744073709551616 := by omega
   have hqb : q < 18446744073709551616 := by have := hb3.2; omega
   have hbe : byEv (tys ts_) ⟨ts, (id : Int), (q : Int), at_⟩ = bytesI ts ++ bytesU id ++ bytesU q ++ (at_.take ts_[q].attrs.length).flatMap bytesI := by
    unfold byEv
    dsimp only
    rw [Int.toNat_natCast, Int.toNat_natCast, tys_at hql]; rfl
   have HAT := Lib.hid hb5
   have HL8 := Lib.hid hb4
   have hcells := hre.cells j hjl ts (id : Int) (q : Int) a0 a1 a2 a3 a4 a5 a6 a7 (by rw [hev, hat]) b off hea
   obtain ⟨na, hna⟩ : ∃ na, na = ts_[q].attrs.length := ⟨_, rfl⟩
   rw [← hna] at hbe hq8
   rw [hbe] at htk
   have HTK := Lib.hid htk
   have HNA := Lib.hid hna
   have HQL := Lib.hid hql
   have HME := Lib.hid (meas_lt hlt)
   have HKS := Lib.hid (show j + 1 ≤ m from hlt)
   have hlt' : (j : Int) < m := by omega
   have hj0 : (0 : Int) ≤ j := by omega
   have HFL := Lib.hid (show (L1 ++ (evs.take j).flatMap (byEv (tys ts_))).length ≤ 10200000000 by
    have h1 := flat_le (byEv (tys ts_)) 110 (evs.take j) (fun v hv => byEv_le (HBV.out v (List.mem_of_mem_take hv)))
    have h2 := List.length_take_le j evs
    have h3 := HB1.out
    rw [List.length_append]; omega)
   have HU1 := Lib.hid (bytesI_le ts hb1)
   have HU2 := Lib.hid (bytesU_len10 id hid)
   have HU3 := Lib.hid (bytesU_len10 q hqb)
   obtain ⟨D, hD⟩ : ∃ D, D = L1 ++ (evs.take j).flatMap (byEv (tys ts_)) := ⟨_, rfl⟩
   have HKJ := Lib.hid (show BtK base g D k 24 [.slice a n c] w wr by rw [hD]; exact HKJ.out)
   have HFL := Lib.hid (show D.length ≤ 10200000000 by rw [hD]; exact HFL.out)
   have HD := Lib.hid hD
   obtain ⟨wb, hwb⟩ : ∃ wb, wb = wr.alloc (.cells #[.int .i64 ts, .int .u64 (id : Int), .int .i64 (q : Int), .int .i64 a0, .int .i64 a1, .int .i64 a2, .int .i64 a3, .int .i64 a4, .int .i64 a5, .int .i64 a6, .int .i64 a7] 108) := ⟨_, rfl⟩
   obtain ⟨gb, hgb⟩ : ∃ gb, gb = wr.heap.size := ⟨_, rfl⟩
   have hbb : Below wr.heap.size wr wb := by rw [hwb]; exact bal (Below.refl _ _) (Nat.le_refl _) _
   have hFb : Blk wb gb 108 (evc ⟨ts, (id : Int), (q : Int), at_⟩) := by rw [hwb, hgb, hat]; exact Blk.new wr (evc ⟨ts, (id : Int), (q : Int), [a0, a1, a2, a3, a4, a5, a6, a7]⟩) 108
   have HKB := Lib.hid (HKJ.out.below HB.out hbb)
   have HFB := Lib.hid (show Blk wb gb 108 (evc ⟨ts, (id : Int), (q : Int), at_⟩) ∧ Off g gb wb from ⟨hFb, by rw [hgb]; exact HKJ.out.1.1.off hbb wr.heap.size (Nat.le_refl _)⟩)
   obtain ⟨e0, e1, e2, e3, e4, e5, e6, e7, e8, e9, e10⟩ := hcells
   have f0 := hFb.ci 0 rfl
   have f1 := hFb.ci 1 rfl
   have f2 := hFb.ci 2 rfl
   have f3 := hFb.ci 3 (by rw [hat]; rfl)
   have f4 := hFb.ci 4 (by rw [hat]; rfl)
   have f5 := hFb.ci 5 (by rw [hat]; rfl)
   have f6 := hFb.ci 6 (by rw [hat]; rfl)
   have f7 := hFb.ci 7 (by rw [hat]; rfl)
   have f8 := hFb.ci 8 (by rw [hat]; rfl)
   have f9 := hFb.ci 9 (by rw [hat]; rfl)
   have f10 := hFb.ci 10 (by rw [hat]; rfl)
   subst hea
   clear hmem htk hre hat hbb hFb hna hD hev hbe hb2 hb3 hb4 hb5
   go_upto_region 5 with fail
   rw [← hwb, ← hgb]
   clear hwb hgb e0 e1 e2 e3 e4 e5 e6 e7 e8 e9 e10
   go_wp2_with fail
   refine (evname_any ts (id : Int) (q : Int) _ _ _ _ _ _ _ _ wb).mono ?_
   rintro e wn ⟨rfl, hbn⟩
   have HKN := Lib.hid (HKB.out.below HB.out hbn)
   have HFN := Lib.hid (beside_below HKB.out.1.1 HFB.out hbn)
   have HC := Lib.hid (sname_any base g ⟨ts, id⟩ D wn ⟨hb1, hid⟩ (by have := HFL.out; omega) (Nat.le_trans HB.out HKN.out.1.2.1.size) HKN.out.1.1)
   clear hbn f0 f1 f2 f3 f4 f5 f6 f7 f8 f9 f10
   go_wp2_with fail
   refine (HC.out).mono ?_
   rintro e w9 ⟨rfl, hp9⟩
   have HK9 := Lib.hid (HKN.out.step hp9)
   have HF9 := Lib.hid (beside_step HFN.out hp9)
   obtain ⟨D2, hD2⟩ : ∃ D2, D2 = D ++ byName ⟨ts, id⟩ := ⟨_, rfl⟩
   rw [← hD2] at HK9
   have HD2 := Lib.hid hD2
   have HFL2 := Lib.hid (show D2.length ≤ 10200000020 by rw [hD2, List.length_append]; have := HFL.out; have := byName_le (n := ⟨ts, id⟩) ⟨hb1, hid⟩; omega)
   have t2 := HF9.out.1.ci 2 rfl
   have HC2 := Lib.hid (wcount_any base g q D2 w9 hqb (by have := HFL2.out; omega) (Nat.le_trans HB.out HK9.out.1.2.1.size) HK9.out.1.1)
   clear hp9 hD2
   go_wp2_with fail
   refine (HC2.out).mono ?_
   rintro e wA ⟨rfl, hpA⟩
   have HKA := Lib.hid (HK9.out.step hpA)
   have HFA := Lib.hid (beside_step HF9.out hpA)
   obtain ⟨D3, hD3⟩ : ∃ D3, D3 = D2 ++ bytesU q := ⟨_, rfl⟩
   rw [← hD3] at HKA
   have HD3 := Lib.hid hD3
   have HFL3 := Lib.hid (show D3.length ≤ 10200000030 by rw [hD3, List.length_append]; have := HFL2.out; have := HU3.out; omega)
   have t2 := HFA.out.1.ci 2 rfl
   have k0 := HKA.out.2.1.ci 0 rfl
   obtain ⟨bt, ot, rfl, _, et⟩ := (HRR.out wA HKA.out.1.2.1).1.at q HQL.out
   rw [← HNA.out] at et
   have hq0 : (0 : Int) ≤ q := by omega
   have hqn : (q : Int) < n := by have := HQL.out; rw [HNN.out] at this; omega
   clear hpA hD3
   go_wp2_with fail
   clear t2 k0 et
   go_loopw [37] (fun i wz => ∃ p : Nat, p ≤ na ∧ i = .int .i64 (p : Int) ∧ BtK base g (D3 ++ (at_.take p).flatMap bytesI) k 24 [.slice (some ⟨bt, ot, none⟩) n c] w wz ∧ Blk wz gb 108 (evc ⟨ts, (id : Int), (q : Int), at_⟩) ∧ Off g gb wz) (fun i _ => na - (intOf i).toNat)
   case atStart => exact ⟨0, Nat.zero_le _, rfl, by simpa using HKA.out, HFA.out⟩
   case round =>
    obtain ⟨p, hpn, rfl, hk, hf⟩ := hrel
    have HKP := Lib.hid hk
    have HFP := Lib.hid hf
    clear hk hf
    by_cases hlp : p < na
    ·have hpl : p < at_.length := by rw [HL8.out]; omega
     have q3 := HFP.out.1.ci (3 + p) (evc_at ⟨ts, (id : Int), (q : Int), at_⟩ p hpl)
     have hg : at_.getD p 0 = at_[p] := by rw [List.getD_eq_getElem?_getD, List.getElem?_eq_getElem hpl]; rfl
     dsimp only at q3
     rw [hg] at q3
     have hin := HAT.out _ (List.getElem_mem hpl)
     have htp : (at_.take (p + 1)).flatMap bytesI = (at_.take p).flatMap bytesI ++ bytesI at_[p] := by
      rw [take_snoc at_ p hpl, List.flatMap_append]; simp
     obtain ⟨u, hu⟩ : ∃ u, u = at_[p] := ⟨_, rfl⟩
     rw [← hu] at q3 hin htp
     have HTP := Lib.hid htp
     have HMP := Lib.hid (meas_lt hlp)
     have HPS := Lib.hid (show p + 1 ≤ na from hlp)
     have hlp' : (p : Int) < na := by omega
     have hp0 : (0 : Int) ≤ p := by omega
     have hp8 : (p : Int) < 8 := by omega
     have HC3 := Lib.hid (wnumber_any base g u (D3 ++ (at_.take p).flatMap bytesI) _ hin (by
      have h1 := flat_le bytesI 10 (at_.take p) (fun v hv => bytesI_le v (HAT.out v (List.mem_of_mem_take hv)))
      have h2 := List.length_take_le p at_
      have h3 := HFL3.out
      rw [List.length_append]; omega) (Nat.le_trans HB.out HKP.out.1.2.1.size) HKP.out.1.1)
     clear hg htp hu hin
     go_wp2_with fail
     refine (HC3.out).mono ?_
     rintro e wE ⟨rfl, hpE⟩
     have HKE := Lib.hid (HKP.out.step hpE)
     have HFE := Lib.hid (beside_step HFP.out hpE)
     clear hpE q3
     go_wp2_with fail
     go_roundw
     case rel => exact ⟨p + 1, HPS.out, by go_num, by rw [HTP.out, ← List.append_assoc]; exact HKE.out, HFE.out⟩
     case measure => exact HMP.out
    ·have hp' : ¬ (p : Int) < na := by omega
     have HKF := Lib.hid (show BtK base g (L1 ++ (evs.take (j + 1)).flatMap (byEv (tys ts_))) k 24 [.slice (some ⟨bt, ot, none⟩) n c] w wr by
      have h := HKP.out
      rw [show p = na by omega, HD3.out, HD2.out, HD.out] at h
      rw [HTK.out]
      unfold byName at h
      simpa only [List.append_assoc] using h)
     go_wp2_with fail
     go_roundw
     case rel => exact ⟨j + 1, HKS.out, by go_num, HKF.out⟩
     case measure => exact HME.out
  ·have hk' : ¬ (j : Int) < m := by omega
   have HRE := Lib.hid (show BtP base g RES w wr by
    have h := HKJ.out.1
    rw [List.take_of_length_le (by rw [HM.out]; omega), HL1.out, ← HRES.out] at h
    exact h)
   go_wp2_with fail
   go_end0
   exact ⟨rfl, HRE.out⟩
end Go.Proofs.YtfglgpbjjpoimaaGreatDoor
