/- The walk of the reference's putMatch. -/
import Derived.Test.YtaipnbpefdcejaaRPut
import Derived.Test.YtaipnbpefdcejaaWr4
set_option linter.unusedVariables false
namespace Go.Proofs.Ytaipnbpefdcejaa
open Go.RowKit
def cellsK (m : M) (p : Ps) : List Value := [.int .i64 m.dec, .slice p.an m.names.length p.cn, .slice p.al m.lens.length p.cl, .slice p.av m.vals.length p.cv]
set_option maxHeartbeats 2000000 in
set_option maxRecDepth 20000 in
theorem rmatch_any (w0 : World) (l : List UInt8) (m : M) (p : Ps) (a : Option Addr) (n c : Nat) (w : World) (hwf : WfM m) (hl : l.length ≤ 100000000000000) (hn : l.length = n) (hown : w.ownsRow w0.heap.size 5 1 (.slice a n c) n (l.map B)) (hb : Below w0.heap.size w0 w) (hr : MRd w0 m p) :
    Calls Try.prog 62 #[.slice a n c, .agg (cellsK m p).toArray] w (PRF w0 w (.slice a n c) (l ++ encMatch m)) := by
  obtain ⟨nn, hnn⟩ : ∃ n, n = m.names.length := ⟨_, rfl⟩
  obtain ⟨nl, hnl⟩ : ∃ n, n = m.lens.length := ⟨_, rfl⟩
  obtain ⟨nv, hnv⟩ : ∃ n, n = m.vals.length := ⟨_, rfl⟩
  have bn := hwf.nl
  have bl := hwf.ll
  have bv := hwf.vl
  rw [← hnn] at bn
  rw [← hnl] at bl
  rw [← hnv] at bv
  have q1 := bytesI_le _ hwf.dec
  have q2 := bytesU_le nn (by omega)
  have q3 := bytesU_le nl (by omega)
  have q4 := bytesU_le nv (by omega)
  have hst := St.start 44 (cellsK m p) hn hown hb
  have hfin : l ++ encMatch m = (((((l ++ bytesI m.dec) ++ bytesU nn) ++ m.names.flatMap encName) ++ bytesU nl) ++ m.lens.flatMap bytesI) ++ bytesU nv ++ m.vals.flatMap encVal := by
    rw [hnn, hnl, hnv, encMatch, encNames, encLens, encVals]
    simp only [List.append_assoc]
  obtain ⟨cs, hcs⟩ : ∃ cs, cs = cellsK m p := ⟨_, rfl⟩
  have c0 : ∀ (h : 0 < cs.length), cs[0] = .int .i64 m.dec := by subst hcs; intro _; rfl
  have c1 : ∀ (h : 1 < cs.length), cs[1] = .slice p.an nn p.cn := by subst hcs; intro _; rw [hnn]; rfl
  have c2 : ∀ (h : 2 < cs.length), cs[2] = .slice p.al nl p.cl := by subst hcs; intro _; rw [hnl]; rfl
  have c3 : ∀ (h : 3 < cs.length), cs[3] = .slice p.av nv p.cv := by subst hcs; intro _; rw [hnv]; rfl
  have h4 : cs.length = 4 := by subst hcs; rfl
  rw [← hcs] at hst ⊢
  have hfold : cs.toArray = #[.int .i64 m.dec, .slice p.an nn p.cn, .slice p.al nl p.cl, .slice p.av nv p.cv] := by rw [hcs, hnn, hnl, hnv]; rfl
  obtain ⟨w1, hw1⟩ : ∃ w1, w1 = w.alloc (.cells cs.toArray 44) := ⟨_, rfl⟩
  rw [← hw1] at hst
  rw [hfold] at hw1 ⊢
  obtain ⟨gm, hgm⟩ : ∃ g, g = w.heap.size := ⟨_, rfl⟩
  rw [← hgm] at hst
  have K0 : ∀ l (w' : World) a n c, St w0 w (.slice a n c) gm 44 cs l w' a n c → True := fun _ _ _ _ _ _ => trivial
  have C0 := Lib.hid c0
  have C1 := Lib.hid c1
  have C2 := Lib.hid c2
  have C3 := Lib.hid c3
  have H4 := Lib.hid h4
  have HF := Lib.hid hfin
  have HNN := Lib.hid hnn
  have HNL := Lib.hid hnl
  have HNV := Lib.hid hnv
  have d0 : w1.cell? ⟨gm, 0, none⟩ = some (.int .i64 m.dec) := by rw [hst.cell 0 (by rw [H4.out]; omega), C0.out]
  clear hfin hnn hnl hnv c0 c1 c2 c3 hfold hcs hown hn K0 h4
  obtain ⟨vI, hvI⟩ : ∃ v, v = Value.slice a n c := ⟨_, rfl⟩
  have hvI2 := hvI
  have HVI := Lib.hid hvI
  rw [← hvI] at hst
  clear hvI hvI2
  go_enter Try.func62, Try.ntmps62
  go_wp2_with fail
  rw [← hw1, ← hgm]
  clear hw1 hgm
  refine (hst.int m.dec hwf.dec (by omega)).mono ?_
  rintro e w2 ⟨a2, n2, k2, rfl, hst2⟩
  have d1 : w2.cell? ⟨gm, 1, none⟩ = some (.slice p.an nn p.cn) := by rw [hst2.cell 1 (by rw [H4.out]; omega), C1.out]
  clear d0 hst
  go_wp2_with fail
  refine (hst2.uint _ nn rfl (by omega) (by rw [List.length_append]; omega)).mono ?_
  rintro e w3 ⟨a3, n3, k3, rfl, hst3⟩
  clear d1 hst2
  obtain ⟨la, hla⟩ : ∃ la, la = l ++ bytesI m.dec ++ bytesU nn := ⟨_, rfl⟩
  have hlal : la.length ≤ 100000000000100 := by rw [hla]; simp only [List.length_append]; omega
  have hfin := HF.out
  rw [← hla] at hst3 hfin
  have HFA := Lib.hid hfin
  clear hla hfin HF q1 q2 hl
  go_wp2_with fail
  go_loopw [0, 5] (fun v i wr => ∃ (k : Nat) (a : Option Addr) (n c : Nat), k ≤ nn ∧ v = .slice a n c ∧ i = .int .i64 (k : Int) ∧ St w0 w vI gm 44 cs (la ++ (m.names.take k).flatMap encName) wr a n c) (fun _ i _ => nn - (intOf i).toNat)
  case atStart => exact ⟨0, _, _, _, Nat.zero_le _, rfl, rfl, by simpa using hst3⟩
  case round =>
    clear hst3
    obtain ⟨k, a4, n4, k4, hk, rfl, rfl, hst⟩ := hrel
    have d1 : wr.cell? ⟨gm, 1, none⟩ = some (.slice p.an nn p.cn) := by rw [hst.cell 1 (by rw [H4.out]; omega), C1.out]
    have hll : (la ++ (m.names.take k).flatMap encName).length ≤ 100030000000000 := by
      have := flat_take_le encName 20 k nn m.names (by rw [← HNN.out]; exact Nat.le_refl _) fun v hv => by
        have := bytesI_le v.1 (hwf.names v hv).1
        have hu := (hwf.names v hv).2
        have := bytesU_le v.2.toNat (by unfold U64 at hu; omega)
        rw [encName, List.length_append]
        omega
      rw [List.length_append]
      omega
    by_cases hlt : k < nn
    · have hkl : k < m.names.length := by rw [← HNN.out]; exact hlt
      obtain ⟨b, off, hav, hc1, hc2⟩ := (hr.1.below hst.2.2.1).nat k hkl
      have hlt' : (k : Int) < nn := by omega
      have hsn := flat_take_snoc encName m.names k hkl
      have hwx := hwf.names m.names[k] (List.getElem_mem hkl)
      have hv2 := (hr.1).nat k hkl
      obtain ⟨⟨ts, id⟩, hx⟩ : ∃ v, v = m.names[k] := ⟨_, rfl⟩
      rw [← hx] at hc1 hc2 hsn hwx hv2
      dsimp only at hc1 hc2 hwx hv2
      have HST := Lib.hid hsn
      have HME := Lib.hid (meas_lt hlt)
      have hid : (id.toNat : Int) = id := by have := hwx.2; unfold U64 at this; omega
      have hidb : id.toNat < 18446744073709551616 := by have := hwx.2; unfold U64 at this; omega
      have HI := Lib.hid hid
      have HIB := Lib.hid hidb
      have qt := bytesI_le ts hwx.1
      obtain ⟨b', off', hav', hz1, hz2⟩ := hv2
      rw [hav] at hav'
      obtain ⟨rfl, rfl⟩ : b = b' ∧ off = off' := by cases hav'; exact ⟨rfl, rfl⟩
      have HZ2 := Lib.hid hz2
      have HAV := Lib.hid hav
      clear hsn hx hid hidb hav' hz1 hz2
      rw [hav] at d1
      clear hav
      go_wp2_with fail
      refine (hst.int ts hwx.1 (by omega)).mono ?_
      rintro e w5 ⟨a5, n5, k5, rfl, hst5⟩
      have d5 : w5.cell? ⟨gm, 1, none⟩ = some (.slice (some ⟨b, off, none⟩) nn p.cn) := by rw [hst5.cell 1 (by rw [H4.out]; omega), C1.out, HAV.out]
      have e5 : w5.cell? ⟨b, off + k * 2 + 1, none⟩ = some (.int .u64 id) := by
        have := HZ2.out
        rw [hst5.2.2.1.cell (World.block_lt_of_cell? w0 _ this)]
        exact this
      clear hst d1 hc1 hc2
      go_wp2_with fail
      refine (hst5.uint id id.toNat HI.out.symm HIB.out (by rw [List.length_append]; omega)).mono ?_
      rintro e w6 ⟨a6, n6, k6, rfl, hst6⟩
      clear d5 e5 hst5
      go_wp2
      go_roundw
      case rel => exact ⟨k + 1, _, _, _, hlt, rfl, by go_num, by rw [HST.out, encName, ← List.append_assoc, ← List.append_assoc]; exact hst6⟩
      case measure => exact HME.out
    · have hlt' : ¬ (k : Int) < nn := by omega
      have htk : m.names.take k = m.names := List.take_of_length_le (by rw [← HNN.out]; omega)
      rw [htk] at hst hll
      obtain ⟨lb, hlb⟩ : ∃ lb, lb = la ++ m.names.flatMap encName := ⟨_, rfl⟩
      have hfin := HFA.out
      rw [← hlb] at hst hll hfin
      have HFB := Lib.hid hfin
      clear hfin HFA hlb htk hlt hk hlal
      have d2 : wr.cell? ⟨gm, 2, none⟩ = some (.slice p.al nl p.cl) := by rw [hst.cell 2 (by rw [H4.out]; omega), C2.out]
      go_wp2_with fail
      refine (hst.uint _ nl rfl (by omega) (by omega)).mono ?_
      rintro e w3 ⟨a3, n3, k3, rfl, hst3⟩
      obtain ⟨lc, hlc⟩ : ∃ lc, lc = lb ++ bytesU nl := ⟨_, rfl⟩
      have hlcl : lc.length ≤ 100030000000100 := by rw [hlc]; simp only [List.length_append]; omega
      have hfin := HFB.out
      rw [← hlc] at hst3 hfin
      have HFC := Lib.hid hfin
      clear hfin HFB hlc hll hst d1 d2
      go_wp2_with fail
      go_loopw [0, 6] (fun v i wr => ∃ (k : Nat) (a : Option Addr) (n c : Nat), k ≤ nl ∧ v = .slice a n c ∧ i = .int .i64 (k : Int) ∧ St w0 w vI gm 44 cs (lc ++ (m.lens.take k).flatMap bytesI) wr a n c) (fun _ i _ => nl - (intOf i).toNat)
      case atStart => exact ⟨0, _, _, _, Nat.zero_le _, rfl, rfl, by simpa using hst3⟩
      case round =>
        clear hst3
        obtain ⟨k, a4, n4, k4, hk, rfl, rfl, hst⟩ := hrel
        have d2 : wr.cell? ⟨gm, 2, none⟩ = some (.slice p.al nl p.cl) := by rw [hst.cell 2 (by rw [H4.out]; omega), C2.out]
        have hll : (lc ++ (m.lens.take k).flatMap bytesI).length ≤ 100050000000000 := by
          have := flat_take_le bytesI 10 k nl m.lens (by rw [← HNL.out]; exact Nat.le_refl _) fun v hv => bytesI_le v (hwf.lens v hv)
          rw [List.length_append]
          omega
        by_cases hlt : k < nl
        · have hkl : k < m.lens.length := by rw [← HNL.out]; exact hlt
          obtain ⟨b, off, hav, hc1⟩ := (hr.2.1.below hst.2.2.1).zat k hkl
          have hlt' : (k : Int) < nl := by omega
          have hsn := flat_take_snoc bytesI m.lens k hkl
          have hwx := hwf.lens m.lens[k] (List.getElem_mem hkl)
          obtain ⟨x, hx⟩ : ∃ v, v = m.lens[k] := ⟨_, rfl⟩
          rw [← hx] at hc1 hsn hwx
          have HST := Lib.hid hsn
          have HME := Lib.hid (meas_lt hlt)
          clear hsn hx
          rw [hav] at d2
          clear hav
          go_wp2_with fail
          refine (hst.int x hwx (by omega)).mono ?_
          rintro e w5 ⟨a5, n5, k5, rfl, hst5⟩
          clear hst d2 hc1
          go_wp2
          go_roundw
          case rel => exact ⟨k + 1, _, _, _, hlt, rfl, by go_num, by rw [HST.out, ← List.append_assoc]; exact hst5⟩
          case measure => exact HME.out
        · have hlt' : ¬ (k : Int) < nl := by omega
          have htk : m.lens.take k = m.lens := List.take_of_length_le (by rw [← HNL.out]; omega)
          rw [htk] at hst hll
          obtain ⟨ld, hld⟩ : ∃ ld, ld = lc ++ m.lens.flatMap bytesI := ⟨_, rfl⟩
          have hfin := HFC.out
          rw [← hld] at hst hll hfin
          have HFD := Lib.hid hfin
          clear hfin HFC hld htk hlt hk hlcl
          have d3 : wr.cell? ⟨gm, 3, none⟩ = some (.slice p.av nv p.cv) := by rw [hst.cell 3 (by rw [H4.out]; omega), C3.out]
          go_wp2_with fail
          refine (hst.uint _ nv rfl (by omega) (by omega)).mono ?_
          rintro e w3 ⟨a3, n3, k3, rfl, hst3⟩
          obtain ⟨le, hle⟩ : ∃ le, le = ld ++ bytesU nv := ⟨_, rfl⟩
          have hlel : le.length ≤ 100050000000100 := by rw [hle]; simp only [List.length_append]; omega
          have hfin := HFD.out
          rw [← hle] at hst3 hfin
          have HFE := Lib.hid hfin
          clear hfin HFD hle hll hst d2 d3
          go_wp2_with fail
          go_loopw [0, 7] (fun v i wr => ∃ (k : Nat) (a : Option Addr) (n c : Nat), k ≤ nv ∧ v = .slice a n c ∧ i = .int .i64 (k : Int) ∧ St w0 w vI gm 44 cs (le ++ (m.vals.take k).flatMap encVal) wr a n c) (fun _ i _ => nv - (intOf i).toNat)
          case atStart => exact ⟨0, _, _, _, Nat.zero_le _, rfl, rfl, by simpa using hst3⟩
          case round =>
            clear hst3
            obtain ⟨k, a4, n4, k4, hk, rfl, rfl, hst⟩ := hrel
            have d3 : wr.cell? ⟨gm, 3, none⟩ = some (.slice p.av nv p.cv) := by rw [hst.cell 3 (by rw [H4.out]; omega), C3.out]
            have hll : (le ++ (m.vals.take k).flatMap encVal).length ≤ 100070000000000 := by
              have := flat_take_le encVal 11 k nv m.vals (by rw [← HNV.out]; exact Nat.le_refl _) fun v hv => encVal_le (hwf.vals v hv)
              rw [List.length_append]
              omega
            by_cases hlt : k < nv
            · have hkl : k < m.vals.length := by rw [← HNV.out]; exact hlt
              obtain ⟨b, off, hav, hc1, hc2⟩ := (hr.2.2.1.below hst.2.2.1).vat k hkl
              have hlt' : (k : Int) < nv := by omega
              have hsn := flat_take_snoc encVal m.vals k hkl
              have hwx := hwf.vals m.vals[k] (List.getElem_mem hkl)
              have hv2 := (hr.2.2.1).vat k hkl
              obtain ⟨⟨kn, x⟩, hx⟩ : ∃ v, v = m.vals[k] := ⟨_, rfl⟩
              rw [← hx] at hc1 hc2 hsn hwx hv2
              dsimp only at hc1 hc2 hwx hv2
              have HST := Lib.hid hsn
              have HME := Lib.hid (meas_lt hlt)
              obtain ⟨b', off', hav', hz1, hz2⟩ := hv2
              rw [hav] at hav'
              obtain ⟨rfl, rfl⟩ : b = b' ∧ off = off' := by cases hav'; exact ⟨rfl, rfl⟩
              have HZ2 := Lib.hid hz2
              have HAV := Lib.hid hav
              clear hsn hx hav' hz1 hz2
              rw [hav] at d3
              clear hav
              obtain ⟨y, hy⟩ : ∃ y : UInt8, y = if kn then 1 else 0 := ⟨_, rfl⟩
              go_wp2_with fail
              refine (rtruth_any kn wr).mono ?_
              rintro e w5 ⟨rfl, rfl⟩
              have hbw := hst.2.2.1.size
              have hnb : n4 ≤ 100070000000000 := by rw [← hst.1]; exact hll
              have hown4 := hst.2.1
              have HS := Lib.hid hst
              clear hst
              cases kn
              · go_wp2_with (first | (at_builtin; refine app_b1 wr rfl _ _ rfl w0.heap.size (.slice a4 n4 k4) n4 _ rfl hown4 _ 0 rfl rfl (by omega) (by omega) ?_; intro a5 k5 w5 hown5 hb5 hm5) | fail)
                have hst5 := HS.out.moved (l' := (le ++ (m.vals.take k).flatMap encVal) ++ [0]) (by rw [List.length_append, HS.out.1]; rfl) hown5 hb5 hm5.mv.alloc
                clear hown4 HS d3 hc1 hc2
                go_roundw
                case rel => exact ⟨k + 1, _, _, _, hlt, rfl, by go_num, by rw [HST.out, encVal, ← List.append_assoc, ← List.append_assoc, if_neg (by simp), List.append_nil]; exact hst5⟩
                case measure => exact HME.out
              · go_wp2_with (first | (at_builtin; refine app_b1 wr rfl _ _ rfl w0.heap.size (.slice a4 n4 k4) n4 _ rfl hown4 _ 1 rfl rfl (by omega) (by omega) ?_; intro a5 k5 w5 hown5 hb5 hm5; have hst5 := HS.out.moved (l' := (le ++ (m.vals.take k).flatMap encVal) ++ [1]) (by rw [List.length_append, HS.out.1]; rfl) hown5 hb5 hm5.mv.alloc; have d5 : w5.cell? ⟨gm, 3, none⟩ = some (.slice (some ⟨b, off, none⟩) nv p.cv) := by { rw [hst5.cell 3 (by rw [H4.out]; omega), C3.out, HAV.out] }; have e5 : w5.cell? ⟨b, off + k * 2 + 1, none⟩ = some (.int .i64 x) := by { have := HZ2.out; rw [hst5.2.2.1.cell (World.block_lt_of_cell? w0 _ this)]; exact this }) | fail)
                refine (hst5.int x hwx (by rw [List.length_append, List.length_singleton]; omega)).mono ?_
                rintro e w6 ⟨a6, n6, k6, rfl, hst6⟩
                clear hown4 HS d3 hc1 hc2 d5 e5 hst5 hown5 hm5 hb5
                go_wp2
                go_roundw
                case rel => exact ⟨k + 1, _, _, _, hlt, rfl, by go_num, by rw [HST.out, encVal, ← List.append_assoc, ← List.append_assoc, if_pos rfl]; exact hst6⟩
                case measure => exact HME.out
            · have hlt' : ¬ (k : Int) < nv := by omega
              have htk : m.vals.take k = m.vals := List.take_of_length_le (by rw [← HNV.out]; omega)
              rw [htk] at hst
              go_wp2_with fail
              go_ret
              rw [HFE.out]
              have := hst.fin
              rw [HVI.out] at this
              exact this
#print axioms rmatch_any
end Go.Proofs.Ytaipnbpefdcejaa
