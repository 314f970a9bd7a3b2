/- The walk of the writer's method for a match. -/
import Derived.Test.YtaipnbpefdcejaaWr3
set_option linter.unusedVariables false
namespace Go.Proofs.Ytaipnbpefdcejaa
open Go.RowKit
theorem flat_take_le {α : Type} (f : α → List UInt8) (c k N : Nat) (l : List α) (hl : l.length ≤ N) (h : ∀ v ∈ l, (f v).length ≤ c) : ((l.take k).flatMap f).length ≤ N * c := by
  have h1 := flat_le f c (l.take k) fun v hv => h v (List.mem_of_mem_take hv)
  have h2 : (l.take k).length ≤ N := by rw [List.length_take]; omega
  exact Nat.le_trans h1 (Nat.mul_le_mul_right _ h2)
theorem Rd.nat {w : World} {a : Option Addr} {l : List (Int × Int)} (h : Rd w a (ncells l)) (i : Nat) (hi : i < l.length) :
    ∃ b off, a = some ⟨b, off, none⟩ ∧ w.cell? ⟨b, off + i * 2, none⟩ = some (.int .i64 l[i].1) ∧ w.cell? ⟨b, off + i * 2 + 1, none⟩ = some (.int .u64 l[i].2) := by
  have hg : ∀ (l : List (Int × Int)) (i : Nat) (hi : i < l.length), (ncells l)[i * 2]? = some (.int .i64 l[i].1) ∧ (ncells l)[i * 2 + 1]? = some (.int .u64 l[i].2) := by
    intro l
    induction l with
    | nil => intro i hi; simp at hi
    | cons v l ih =>
      intro i hi
      cases i with
      | zero => exact ⟨rfl, rfl⟩
      | succ i =>
        have := ih i (by simpa using hi)
        rw [show (i + 1) * 2 = (i * 2 + 1) + 1 by omega]
        exact this
  obtain ⟨g1, g2⟩ := hg l i hi
  rcases h with h | ⟨b, off, rfl, hc⟩
  · rw [h] at g1; cases g1
  · exact ⟨b, off, rfl, hc _ _ g1, hc _ _ g2⟩
theorem Rd.zat {w : World} {a : Option Addr} {l : List Int} (h : Rd w a (zcells l)) (i : Nat) (hi : i < l.length) :
    ∃ b off, a = some ⟨b, off, none⟩ ∧ w.cell? ⟨b, off + i, none⟩ = some (.int .i64 l[i]) := by
  have g1 : (zcells l)[i]? = some (.int .i64 l[i]) := by simp [zcells, hi]
  rcases h with h | ⟨b, off, rfl, hc⟩
  · rw [h] at g1; cases g1
  · exact ⟨b, off, rfl, hc _ _ g1⟩
theorem flat_take_snoc {α : Type} (f : α → List UInt8) (l : List α) (k : Nat) (h : k < l.length) : (l.take (k + 1)).flatMap f = (l.take k).flatMap f ++ f l[k] := by
  rw [List.take_succ_eq_append_getElem h, List.flatMap_append]
  simp
set_option maxHeartbeats 2000000 in
set_option maxRecDepth 20000 in
theorem wm_match (w0 : World) (g gm : Nat) (l : List UInt8) (m : M) (p : Ps) (w : World) (hwf : WfM m) (hh : 0 ≤ m.handle) (hl : l.length ≤ 100000000000000) (hb0 : Below w0.heap.size w0 w) (h : Wr w0.heap.size g l w) (hk : Blk w0 gm 50 (cellsM m p)) (hr : MRd w0 m p) :
    Calls Try.prog 99 #[.pointer (some ⟨g, 0, none⟩), .pointer (some ⟨gm, 0, none⟩)] w (WPostF w0 g (l ++ encF "sluice/wire.match" m) w) := by
  obtain ⟨nn, hnn⟩ : ∃ n, n = m.names.length := ⟨_, rfl⟩
  obtain ⟨nl, hnl⟩ : ∃ n, n = m.lens.length := ⟨_, rfl⟩
  obtain ⟨nv, hnv⟩ : ∃ n, n = m.vals.length := ⟨_, rfl⟩
  have bn := hwf.nl
  have bl := hwf.ll
  have bv := hwf.vl
  rw [← hnn] at bn
  rw [← hnl] at bl
  rw [← hnv] at bv
  have q1 := bytesI_le _ hwf.dec
  have q2 := bytesU_le nn (by omega)
  have q3 := bytesU_le nl (by omega)
  have q4 := bytesU_le nv (by omega)
  have c14 : ∀ w' : World, Below w0.heap.size w0 w' → w'.cell? ⟨gm, 14, none⟩ = some (.int .i64 m.dec) := fun _ hb => (hk.below hb).cell 14 (by rw [cellsM_len]; omega)
  have c15 : ∀ w' : World, Below w0.heap.size w0 w' → w'.cell? ⟨gm, 15, none⟩ = some (.slice p.an nn p.cn) := fun _ hb => by rw [hnn]; exact (hk.below hb).cell 15 (by rw [cellsM_len]; omega)
  have c16 : ∀ w' : World, Below w0.heap.size w0 w' → w'.cell? ⟨gm, 16, none⟩ = some (.slice p.al nl p.cl) := fun _ hb => by rw [hnl]; exact (hk.below hb).cell 16 (by rw [cellsM_len]; omega)
  have c17 : ∀ w' : World, Below w0.heap.size w0 w' → w'.cell? ⟨gm, 17, none⟩ = some (.slice p.av nv p.cv) := fun _ hb => by rw [hnv]; exact (hk.below hb).cell 17 (by rw [cellsM_len]; omega)
  have C14 := Lib.hid c14
  have C15 := Lib.hid c15
  have C16 := Lib.hid c16
  have C17 := Lib.hid c17
  have hfin : l ++ encF "sluice/wire.match" m = (((((l ++ bytesI m.dec) ++ bytesU nn) ++ m.names.flatMap encName) ++ bytesU nl) ++ m.lens.flatMap bytesI) ++ bytesU nv ++ m.vals.flatMap encVal := by
    rw [hnn, hnl, hnv, show encF "sluice/wire.match" m = encMatch m from rfl, encMatch, encNames, encLens, encVals]
    simp only [List.append_assoc]
  have HF := Lib.hid hfin
  have HNN := Lib.hid hnn
  have HNL := Lib.hid hnl
  have HNV := Lib.hid hnv
  clear hfin hnn hnl hnv c14 c15 c16 c17
  have d14 := C14.out _ hb0
  go_enter Try.func99, Try.ntmps99
  go_wp2_with fail
  refine (wr_intF w0 g l m.dec w hwf.dec (by omega) hb0 h).mono ?_
  rintro e w1 ⟨⟨rfl, h1, hb1⟩, hf1⟩
  have HF1 := Lib.hid hf1
  clear hf1
  have d15 := C15.out _ hb1
  clear d14 hb0 h
  go_wp2_with fail
  refine (wr_uintF w0 g _ nn nn w1 rfl (by omega) (by rw [List.length_append]; omega) hb1 h1).mono ?_
  rintro e w2 ⟨⟨rfl, h2, hb2⟩, hf2⟩
  have HF2 := Lib.hid (HF1.out.trans hf2)
  clear hf2
  have e15 := C15.out _ hb2
  clear d15 hb1 h1
  obtain ⟨la, hla⟩ : ∃ la, la = l ++ bytesI m.dec ++ bytesU nn := ⟨_, rfl⟩
  have hlal : la.length ≤ 100000000000100 := by rw [hla]; simp only [List.length_append]; omega
  have hfin := HF.out
  rw [← hla] at h2 hfin
  have HFA := Lib.hid hfin
  clear hla hfin HF q1 q2 hk hl hh
  go_wp2_with fail
  go_loopw [32] (fun i wr => ∃ k : Nat, k ≤ nn ∧ i = .int .i64 (k : Int) ∧ Wr w0.heap.size g (la ++ (m.names.take k).flatMap encName) wr ∧ Below w0.heap.size w0 wr ∧ Fr g w wr) (fun i _ => nn - (intOf i).toNat)
  case atStart => exact ⟨0, Nat.zero_le _, rfl, by simpa using h2, hb2, HF2.out⟩
  case round =>
    clear e15 h2 hb2
    obtain ⟨k, hk, rfl, hw, hbw, hfw⟩ := hrel
    have HFW := Lib.hid hfw
    clear hfw
    have hll : (la ++ (m.names.take k).flatMap encName).length ≤ 100030000000000 := by
      have := flat_take_le encName 20 k nn m.names (by rw [← HNN.out]; exact Nat.le_refl _) fun v hv => by
        have := bytesI_le v.1 (hwf.names v hv).1
        have hu := (hwf.names v hv).2
        have := bytesU_le v.2.toNat (by unfold U64 at hu; omega)
        rw [encName, List.length_append]
        omega
      rw [List.length_append]
      omega
    by_cases hlt : k < nn
    · have hkl : k < m.names.length := by rw [← HNN.out]; exact hlt
      obtain ⟨b, off, hav, hc1, hc2⟩ := (hr.1.below hbw).nat k hkl
      have hlt' : (k : Int) < nn := by omega
      have hst := flat_take_snoc encName m.names k hkl
      have hwx := hwf.names m.names[k] (List.getElem_mem hkl)
      obtain ⟨⟨ts, id⟩, hx⟩ : ∃ v, v = m.names[k] := ⟨_, rfl⟩
      rw [← hx] at hc1 hc2 hst hwx
      dsimp only at hc1 hc2 hwx
      have HST := Lib.hid hst
      have HME := Lib.hid (meas_lt hlt)
      have hid : (id.toNat : Int) = id := by have := hwx.2; unfold U64 at this; omega
      have hidb : id.toNat < 18446744073709551616 := by have := hwx.2; unfold U64 at this; omega
      have HI := Lib.hid hid
      have HIB := Lib.hid hidb
      have qt := bytesI_le ts hwx.1
      clear hst hx hid hidb
      obtain ⟨wa, hwa⟩ : ∃ wa, wa = wr.alloc (.cells #[.int .i64 ts, .int .u64 id] 89) := ⟨_, rfl⟩
      have hra : Wr w0.heap.size g (la ++ (m.names.take k).flatMap encName) wa := by rw [hwa]; exact hw.alloc _
      have hba : Below w0.heap.size w0 wa := by rw [hwa]; exact hbw.alloc hbw.size _
      have hka : Blk wa wr.heap.size 89 [.int .i64 ts, .int .u64 id] := by rw [hwa]; exact Blk.new wr _ 89
      have hoa : Off g wr.heap.size wa := by rw [hwa]; exact hw.off _
      have hfa : Fr g wr wa := by rw [hwa]; exact hw.fr _
      have HFA9 := Lib.hid (HFW.out.trans hfa)
      clear hfa
      rw [hav]
      go_wp2_with fail
      rw [← hwa]
      obtain ⟨ga, hga⟩ : ∃ ga, ga = wr.heap.size := ⟨_, rfl⟩
      rw [← hga] at hka hoa ⊢
      clear hwa hga hw hbw hc1 hc2
      refine (wr_intF w0 g _ ts wa hwx.1 (by omega) hba hra).mono ?_
      rintro e w5 ⟨⟨rfl, h5, hb5⟩, hf5⟩
      obtain ⟨hk5, ho5⟩ := hf5.blk hka hoa
      have hd5 : w5.cell? ⟨ga, 1, none⟩ = some (.int .u64 id) := hk5.cell 1 (by simp)
      have HF5 := Lib.hid (HFA9.out.trans hf5)
      clear hf5 hka hoa hra hba
      go_wp2_with fail
      refine (wr_uintF w0 g _ id id.toNat w5 HI.out.symm HIB.out (by rw [List.length_append]; omega) hb5 h5).mono ?_
      rintro e w6 ⟨⟨rfl, h6, hb6⟩, hf6⟩
      have HF6 := Lib.hid (HF5.out.trans hf6)
      clear hf6
      clear hk5 ho5 hd5 h5 hb5
      go_wp2
      go_roundw
      case rel => exact ⟨k + 1, hlt, by go_num, by rw [HST.out, encName, ← List.append_assoc, ← List.append_assoc]; exact h6, hb6, HF6.out⟩
      case measure => exact HME.out
    · have hlt' : ¬ (k : Int) < nn := by omega
      have htk : m.names.take k = m.names := List.take_of_length_le (by rw [← HNN.out]; omega)
      rw [htk] at hw hll
      obtain ⟨lb, hlb⟩ : ∃ lb, lb = la ++ m.names.flatMap encName := ⟨_, rfl⟩
      have hfin := HFA.out
      rw [← hlb] at hw hll hfin
      have HFB := Lib.hid hfin
      clear hfin HFA hlb htk hlt hk hlal
      have d16 := C16.out _ hbw
      go_wp2_with fail
      refine (wr_uintF w0 g _ nl nl wr rfl (by omega) (by omega) hbw hw).mono ?_
      rintro e w3 ⟨⟨rfl, h3, hb3⟩, hf3⟩
      have HF3 := Lib.hid (HFW.out.trans hf3)
      clear hf3
      have e16 := C16.out _ hb3
      obtain ⟨lc, hlc⟩ : ∃ lc, lc = lb ++ bytesU nl := ⟨_, rfl⟩
      have hlcl : lc.length ≤ 100030000000100 := by rw [hlc]; simp only [List.length_append]; omega
      have hfin := HFB.out
      rw [← hlc] at h3 hfin
      have HFC := Lib.hid hfin
      clear hfin HFB hlc hll hw hbw d16
      go_wp2_with fail
      go_loopw [60] (fun i wr => ∃ k : Nat, k ≤ nl ∧ i = .int .i64 (k : Int) ∧ Wr w0.heap.size g (lc ++ (m.lens.take k).flatMap bytesI) wr ∧ Below w0.heap.size w0 wr ∧ Fr g w wr) (fun i _ => nl - (intOf i).toNat)
      case atStart => exact ⟨0, Nat.zero_le _, rfl, by simpa using h3, hb3, HF3.out⟩
      case round =>
        clear e16 h3 hb3
        obtain ⟨k, hk, rfl, hw, hbw, hfw⟩ := hrel
        have HFW := Lib.hid hfw
        clear hfw
        have hll : (lc ++ (m.lens.take k).flatMap bytesI).length ≤ 100050000000000 := by
          have := flat_take_le bytesI 10 k nl m.lens (by rw [← HNL.out]; exact Nat.le_refl _) fun v hv => bytesI_le v (hwf.lens v hv)
          rw [List.length_append]
          omega
        by_cases hlt : k < nl
        · have hkl : k < m.lens.length := by rw [← HNL.out]; exact hlt
          obtain ⟨b, off, hav, hc1⟩ := (hr.2.1.below hbw).zat k hkl
          have hlt' : (k : Int) < nl := by omega
          have hst := flat_take_snoc bytesI m.lens k hkl
          have hwx := hwf.lens m.lens[k] (List.getElem_mem hkl)
          obtain ⟨x, hx⟩ : ∃ v, v = m.lens[k] := ⟨_, rfl⟩
          rw [← hx] at hc1 hst hwx
          have HST := Lib.hid hst
          have HME := Lib.hid (meas_lt hlt)
          clear hst hx
          rw [hav]
          go_wp2_with fail
          refine (wr_intF w0 g _ x wr hwx (by omega) hbw hw).mono ?_
          rintro e w5 ⟨⟨rfl, h5, hb5⟩, hf5⟩
          have HF5 := Lib.hid (HFW.out.trans hf5)
          clear hf5
          clear hw hbw hc1
          go_wp2
          go_roundw
          case rel => exact ⟨k + 1, hlt, by go_num, by rw [HST.out, ← List.append_assoc]; exact h5, hb5, HF5.out⟩
          case measure => exact HME.out
        · have hlt' : ¬ (k : Int) < nl := by omega
          have htk : m.lens.take k = m.lens := List.take_of_length_le (by rw [← HNL.out]; omega)
          rw [htk] at hw hll
          obtain ⟨ld, hld⟩ : ∃ ld, ld = lc ++ m.lens.flatMap bytesI := ⟨_, rfl⟩
          have hfin := HFC.out
          rw [← hld] at hw hll hfin
          have HFD := Lib.hid hfin
          clear hfin HFC hld htk hlt hk hlcl
          have d17 := C17.out _ hbw
          go_wp2_with fail
          refine (wr_uintF w0 g _ nv nv wr rfl (by omega) (by omega) hbw hw).mono ?_
          rintro e w4 ⟨⟨rfl, h4, hb4⟩, hf4⟩
          have HF4 := Lib.hid (HFW.out.trans hf4)
          clear hf4
          have e17 := C17.out _ hb4
          obtain ⟨le, hle⟩ : ∃ le, le = ld ++ bytesU nv := ⟨_, rfl⟩
          have hlel : le.length ≤ 100050000000100 := by rw [hle]; simp only [List.length_append]; omega
          have hfin := HFD.out
          rw [← hle] at h4 hfin
          have HFE := Lib.hid hfin
          clear hfin HFD hle hll hw hbw d17
          go_wp2_with fail
          go_loopw [83] (fun i wr => ∃ k : Nat, k ≤ nv ∧ i = .int .i64 (k : Int) ∧ Wr w0.heap.size g (le ++ (m.vals.take k).flatMap encVal) wr ∧ Below w0.heap.size w0 wr ∧ Fr g w wr) (fun i _ => nv - (intOf i).toNat)
          case atStart => exact ⟨0, Nat.zero_le _, rfl, by simpa using h4, hb4, HF4.out⟩
          case round =>
            clear e17 h4 hb4
            obtain ⟨k, hk, rfl, hw, hbw, hfw⟩ := hrel
            have HFW := Lib.hid hfw
            clear hfw
            have hll : (le ++ (m.vals.take k).flatMap encVal).length ≤ 100070000000000 := by
              have := flat_take_le encVal 11 k nv m.vals (by rw [← HNV.out]; exact Nat.le_refl _) fun v hv => encVal_le (hwf.vals v hv)
              rw [List.length_append]
              omega
            by_cases hlt : k < nv
            · have hkl : k < m.vals.length := by rw [← HNV.out]; exact hlt
              obtain ⟨b, off, hav, hc1, hc2⟩ := (hr.2.2.1.below hbw).vat k hkl
              have hlt' : (k : Int) < nv := by omega
              have hst := flat_take_snoc encVal m.vals k hkl
              have hwx := hwf.vals m.vals[k] (List.getElem_mem hkl)
              obtain ⟨⟨kn, x⟩, hx⟩ : ∃ v, v = m.vals[k] := ⟨_, rfl⟩
              rw [← hx] at hc1 hc2 hst hwx
              dsimp only at hc1 hc2 hwx
              have HST := Lib.hid hst
              have HME := Lib.hid (meas_lt hlt)
              clear hst hx
              obtain ⟨wa, hwa⟩ : ∃ wa, wa = wr.alloc (.cells #[.bool kn, .int .i64 x] 74) := ⟨_, rfl⟩
              have hra : Wr w0.heap.size g (le ++ (m.vals.take k).flatMap encVal) wa := by rw [hwa]; exact hw.alloc _
              have hba : Below w0.heap.size w0 wa := by rw [hwa]; exact hbw.alloc hbw.size _
              have hka : Blk wa wr.heap.size 74 [.bool kn, .int .i64 x] := by rw [hwa]; exact Blk.new wr _ 74
              have hoa : Off g wr.heap.size wa := by rw [hwa]; exact hw.off _
              have hfa : Fr g wr wa := by rw [hwa]; exact hw.fr _
              have HFA9 := Lib.hid (HFW.out.trans hfa)
              clear hfa
              rw [hav]
              go_wp2_with fail
              rw [← hwa]
              obtain ⟨ga, hga⟩ : ∃ ga, ga = wr.heap.size := ⟨_, rfl⟩
              rw [← hga] at hka hoa ⊢
              clear hwa hga hw hbw hc1 hc2
              refine (wr_truthF w0 g _ kn wa (by omega) hba hra).mono ?_
              rintro e w5 ⟨⟨rfl, h5, hb5⟩, hf5⟩
              obtain ⟨hk5, ho5⟩ := hf5.blk hka hoa
              have hd5 : w5.cell? ⟨ga, 0, none⟩ = some (.bool kn) := hk5.cell 0 (by simp)
              have hd6 : w5.cell? ⟨ga, 1, none⟩ = some (.int .i64 x) := hk5.cell 1 (by simp)
              have HF5 := Lib.hid (HFA9.out.trans hf5)
              clear hf5 hka hoa hra hba
              cases kn
              · go_wp2_with fail
                go_roundw
                case rel => exact ⟨k + 1, hlt, by go_num, by rw [HST.out, encVal, ← List.append_assoc, ← List.append_assoc, if_neg (by simp), List.append_nil]; exact h5, hb5, HF5.out⟩
                case measure => exact HME.out
              · go_wp2_with fail
                refine (wr_intF w0 g _ x w5 hwx (by rw [List.length_append, byT_len]; omega) hb5 h5).mono ?_
                rintro e w6 ⟨⟨rfl, h6, hb6⟩, hf6⟩
                have HF6 := Lib.hid (HF5.out.trans hf6)
                clear hf6
                clear hk5 ho5 hd5 hd6 h5 hb5
                go_wp2
                go_roundw
                case rel => exact ⟨k + 1, hlt, by go_num, by rw [HST.out, encVal, ← List.append_assoc, ← List.append_assoc, if_pos rfl]; exact h6, hb6, HF6.out⟩
                case measure => exact HME.out
            · have hlt' : ¬ (k : Int) < nv := by omega
              have htk : m.vals.take k = m.vals := List.take_of_length_le (by rw [← HNV.out]; omega)
              rw [htk] at hw
              go_wp2_with fail
              go_end0
              rw [HFE.out]
              exact ⟨⟨rfl, hw, hbw⟩, HFW.out⟩
#print axioms wm_match
end Go.Proofs.Ytaipnbpefdcejaa
