/- The walk of ReplicaCounts. -/
import Derived.Test.YtgpefemnabjfcaaW6
set_option linter.unusedVariables false
namespace Go.Proofs.Ytgpefemnabjfcaa
open Go.RowKit

set_option maxRecDepth 20000 in
set_option maxHeartbeats 8000000 in
theorem counts_walk (a : Option Addr) (cap n : Nat) (zs : List Int) (q : Int) (d : Option Addr) (capd m : Nat) (l : List UInt8) (at_ most : Int) (w : World) (hn : zs.length = n) (hnb : n * 8 ≤ 140737488351232) (h : Rd w a (zs.map Z))
    (hm : l.length = m) (hmb : m ≤ 140737488351232) (hd : Rd w d (l.map B)) (hat : at_ ≤ 9223372036854775807) :
    Calls Try.prog 3 #[.slice a n cap, .int .i64 q, .slice d m capd, .int .i64 at_, .int .i64 most] w fun e w' => e = .returned (.bool true) ∧ Below w.heap.size w w' := by
  have HN := Lib.hid hn
  have HM := Lib.hid hm
  have hn1 : n ≤ 17592186043904 := by omega
  obtain ⟨av, hav⟩ : ∃ av, av = ackedZ zs q := ⟨_, rfl⟩
  have HAV := Lib.hid hav.symm
  have hvv : (av != av) = false := by simp
  obtain ⟨ch, hch⟩ : ∃ ch, ch = chunkB l at_ most := ⟨_, rfl⟩
  obtain ⟨K, hK⟩ : ∃ K, K = ch.length := ⟨_, rfl⟩
  have HCH := Lib.hid hch.symm
  have HK := Lib.hid hK.symm
  have hKm : K ≤ m := by have := chunkB_le l at_ most; rw [← hch, ← hK, hm] at this; exact this
  clear hn hm hav hch hK
  go_enter Try.func3, Try.ntmps3
  go_wp2
  go_loopw [11, 12] (fun v i wr => ∃ (k : Nat) (a1 : Option Addr) (c1 : Nat), k ≤ n ∧ i = .int .i64 (k : Int) ∧ v = .slice a1 k c1 ∧ wr.ownsRow w.heap.size 3 1 v k ((zs.take k).map Z) ∧ Below w.heap.size w wr) (fun _ i _ => n - (intOf i).toNat)
  case atStart => exact ⟨0, none, 0, Nat.zero_le _, rfl, rfl, World.ownsRow_nil _ _ _ _, Below.refl _ _⟩
  case round =>
    obtain ⟨k, a1, c1, hk, rfl, rfl, hown, hb⟩ := hrel
    by_cases hlt : k < n
    · have hkl : k < zs.length := by rw [HN.out]; exact hlt
      obtain ⟨bb, off, rfl, hc⟩ := (h.below hb).cells (by intro h0; simp at h0; subst h0; simp at hkl)
      have hc' := hc k (by simpa using hkl)
      rw [List.getElem_map, Z] at hc'
      have hlt' : (k : Int) < n := by omega
      have hsz := hb.size
      have hts := take_snoc zs k hkl
      obtain ⟨u, hu⟩ : ∃ u, u = zs[k] := ⟨_, rfl⟩
      rw [← hu] at hc' hts
      have HT := Lib.hid hts
      clear hc hts hu
      go_wp2_with (first | (at_builtin; refine app_z1 wr rfl _ _ rfl w.heap.size (.slice a1 k c1) k (zs.take k) rfl hown u rfl (by omega) hsz ?_; intro a2 c2 w2 hown2 hb2 hmv2) | fail)
      have hb3 := hb.trans hb2
      rw [← HT.out] at hown2
      have HO := Lib.hid hown2
      have HB := Lib.hid hb3
      clear hown2 hb2 hmv2 hb3 hown
      go_wp2
      go_roundw
      case rel => exact ⟨k + 1, a2, c2, by omega, by go_num, rfl, HO.out, HB.out⟩
      case measure => exact meas_lt hlt
    · have hke : k = n := by omega
      have hge : ¬ (k : Int) < n := by omega
      subst hke
      rw [List.take_of_length_le (by rw [HN.out]; exact Nat.le_refl _)] at hown
      have HO := Lib.hid hown
      have hwas := ownsRow_rd hown
      have hhav := h.below hb
      have hdsk := hd.below hb
      have hcw := own_cap hown
      clear hown hk hlt h hd
      go_wp2_with fail
      refine (acked_v a cap k zs q av wr HN.out (by omega) hhav HAV.out).mono ?_
      rintro e w1 ⟨rfl, hb1⟩
      have hkk : ((k : Int) != (k : Int)) = false := by simp
      go_wp2_with fail
      refine (racked_v a1 c1 k zs q av w1 HN.out (by omega) (hwas.below hb1) HAV.out).mono ?_
      rintro e w2 ⟨rfl, rfl⟩
      have hb2 := hb.trans (hb1.mono hb.size)
      have hwas1 := hwas.below hb1
      have hhav1 := hhav.below hb1
      have hdsk1 := hdsk.below hb1
      have HO1 := Lib.hid (ownsRow_below HO.out hb1)
      clear hwas hhav hdsk HO hb hb1
      obtain ⟨W1, hW1⟩ : ∃ W1, W1 = w1 := ⟨_, rfl⟩
      rw [← hW1] at hb2 hwas1 hhav1 hdsk1 HO1 ⊢
      clear hW1
      go_wp2
      go_loopw [14] (fun i wr => ∃ j t : Nat, j ≤ k ∧ i = .int .i64 (j : Int) ∧ wr = W1.drewN t) (fun i _ => k - (intOf i).toNat)
      case atStart => exact ⟨0, 0, Nat.zero_le _, rfl, rfl⟩
      case round =>
        obtain ⟨j, t, hj, rfl, rfl⟩ := hrel
        by_cases hlt : j < k
        · have hjl : j < zs.length := by rw [HN.out]; exact hlt
          obtain ⟨b1, off1, rfl, hc⟩ := hhav1.cells (by intro h0; simp at h0; subst h0; simp at hjl)
          have hc' := hc j (by simpa using hjl)
          rw [List.getElem_map, Z] at hc'
          obtain ⟨b2, off2, rfl, hd⟩ := hwas1.cells (by intro h0; simp at h0; subst h0; simp at hjl)
          have hd' := hd j (by simpa using hjl)
          rw [List.getElem_map, Z] at hd'
          clear hc hd
          obtain ⟨u, hu⟩ : ∃ u, u = zs[j] := ⟨_, rfl⟩
          rw [← hu] at hc' hd'
          have hlt' : (j : Int) < k := by omega
          have huu : (u != u) = false := by simp
          clear hu
          go_wp2_with (go_quiet (fail))
          go_roundw
          case rel => exact ⟨j + 1, _, by omega, by go_num, rfl⟩
          case measure => exact meas_lt hlt
        · have hlt' : ¬ (j : Int) < k := by omega
          have hbd : Below W1.heap.size W1 (W1.drewN t) := below_draws W1
          obtain ⟨V0, hV0⟩ : ∃ V0, V0 = W1.drewN t := ⟨_, rfl⟩
          rw [← hV0] at hbd ⊢
          have hbV := hb2.trans (hbd.mono hb2.size)
          have hwasV := hwas1.below hbd
          have hdV := hdsk1.below hbd
          have HOV := Lib.hid (ownsRow_below HO1.out hbd)
          have hzV := hbV.size
          clear hV0 hbd hwas1 hhav1 hdsk1 HO1 hb2 hj hlt hvv
          go_wp2_with fail
          refine (marked_n d capd m l V0 HM.out (by omega) hdV).mono ?_
          rintro e x1 ⟨af, cf, rfl, hownf, hb3⟩
          have hcf := own_cap hownf
          have hd1 := hdV.below hb3
          have hf1 := ownsRow_rd hownf
          have hfm := hf1.take m
          rw [← List.map_take, List.take_left' HM.out] at hfm
          have hsl := slice_to af (m + 8) cf m (by omega)
          have hmm8 : (m : Int) ≤ ((m + 8 : Nat) : Int) := by omega
          have hz1 := hb3.size
          have hbV1 := hbV.trans (hb3.mono hzV)
          have HF1 := Lib.hid hownf
          clear hdV hownf
          go_wp2_with fail
          refine (chunk_v af cf m K l ch at_ most x1 HM.out (by omega) (by omega) hfm HCH.out HK.out).mono ?_
          rintro e x2 ⟨ac, cc, rfl, hownc, hb4⟩
          have hd2 := hd1.below hb4
          have hf2 := hf1.below hb4
          have hz2 := hb4.size
          go_wp2_with fail
          refine (rchunk_v d capd m K l ch at_ most x2 HM.out (by omega) hd2 hat HCH.out HK.out).mono ?_
          rintro e x3 ⟨aw, cw, rfl, hownw, hb5⟩
          have hc3 := ownsRow_below hownc hb5
          have hb13 := hb4.trans (hb5.mono hz2)
          have hrc3 := ownsRow_rd hc3
          have hrw3 := ownsRow_rd hownw
          have hd3 := hd1.below hb13
          have hf3 := hf1.below hb13
          have hz3 := hb13.size
          clear hownc hownw hd2 hf2 hb4 hb5
          go_wp2_with fail
          refine (same_n ac aw cc cw K K ch ch x3 HK.out HK.out (by omega) hrc3 hrw3).mono ?_
          rintro e x4 ⟨rfl, hb6⟩
          rw [beq_self_eq_true]
          go_wp2_with fail
          refine (whole_n af d cf capd m l x4 HM.out (by omega) hcf (hf3.below hb6) (hd3.below hb6)).mono ?_
          rintro e x5 ⟨rfl, hb7⟩
          have hb35 := hb6.trans (hb7.mono hb6.size)
          have hc5 := ownsRow_below hc3 hb35
          have HB15 := Lib.hid (hb13.trans (hb35.mono hz3))
          have HC5 := Lib.hid hc5
          have hz5 := HB15.out.size
          have hll : (ch.map B).length = K := by rw [List.length_map]; exact HK.out
          have hl7 : ((List.replicate K (77 : UInt8)).map B).length = K := by simp
          have HLL := Lib.hid hll
          have HL7 := Lib.hid hl7
          clear hc3 hrc3 hrw3 hd3 hf3 hb6 hb7 hb35 hb13 hc5 hll hl7 hz3
          obtain ⟨X5, hX5⟩ : ∃ X5, X5 = x5 := ⟨_, rfl⟩
          rw [← hX5] at HB15 HC5 hz5 ⊢
          clear hX5
          go_wp2
          go_loopw [18] (fun i wr => ∃ j : Nat, j ≤ K ∧ i = .int .i64 (j : Int) ∧ wr.ownsRow x1.heap.size 5 1 (.slice ac K cc) K (turned (ch.map B) ((List.replicate K (77 : UInt8)).map B) j) ∧ Below x1.heap.size x1 wr) (fun i _ => K - (intOf i).toNat)
          case atStart => exact ⟨0, Nat.zero_le _, rfl, by rw [turned_zero]; exact HC5.out, HB15.out⟩
          case round =>
            obtain ⟨j, hj, rfl, hro, hbw⟩ := hrel
            by_cases hjk : j < K
            · have hjk' : (j : Int) < K := Int.ofNat_lt.2 hjk
              obtain ⟨g, rfl, hg1, hg2⟩ := own_some hro (Nat.lt_of_le_of_lt (Nat.zero_le _) hjk)
              have hc := hro.cellAt j (by rw [Nat.mul_one]; exact hjk)
              have hfr := hro.frozenAt j
              have hst := hro.stored j (B 77)
              rw [turned_get HLL.out HL7.out hjk] at hc
              have hset := turned_set HLL.out HL7.out hjk
              rw [List.getElem_map, List.getElem_replicate] at hset
              rw [hset] at hst
              obtain ⟨y, hy⟩ : ∃ y, y = (ch.map B)[j]'(by rw [HLL.out]; exact hjk) := ⟨_, rfl⟩
              rw [← hy] at hc
              have hsb : Below x1.heap.size x1 (wr.setCell ⟨g, j, none⟩ (B 77)) := hbw.setCell (p := ⟨g, j, none⟩) hg1 _
              have HO := Lib.hid hst.1
              have HS := Lib.hid hsb
              have HJ := Lib.hid (show j + 1 ≤ K from hjk)
              have HME := Lib.hid (meas_lt hjk)
              unfold B at HO HS
              clear hst hset hy hsb hro hbw
              go_wp2
              go_roundw
              case rel => exact ⟨j + 1, HJ.out, by go_num, HO.out, HS.out⟩
              case measure => exact HME.out
            · have hje : j = K := Nat.le_antisymm hj (Nat.not_lt.1 hjk)
              have hjk' : ¬ (j : Int) < K := fun h => hjk (Int.ofNat_lt.1 h)
              rw [hje, turned_all HLL.out HL7.out] at hro
              have HRO := Lib.hid hro
              have HBW := Lib.hid hbw
              have hzw := hbw.size
              clear hje hbw hj hjk
              have hal : Below wr.heap.size wr (wr.alloc (.cells #[.int .u8 78, .int .u8 79] 5)) := (Below.refl _ _).alloc (Nat.le_refl _) _
              have hown' := hro.alloc (.cells #[.int .u8 78, .int .u8 79] 5)
              have hrd2 : Rd (wr.alloc (.cells #[.int .u8 78, .int .u8 79] 5)) (some ⟨wr.heap.size, 0, none⟩) (([78, 79] : List UInt8).map B) := rd_new wr #[B 78, B 79] 5
              have hza := hal.size
              clear hro
              go_wp2_with (first | (at_builtin; refine app_b _ rfl _ _ rfl x1.heap.size (.slice ac K cc) K (List.replicate K 77) rfl hown' (some ⟨wr.heap.size, 0, none⟩) 2 2 [78, 79] rfl rfl hrd2 (by omega) (by omega) ?_; intro al2 cl2 y1 hown2 hby1 _) | fail)
              have b1y : Below x1.heap.size x1 y1 := HBW.out.trans (((hal.mono hzw)).trans hby1)
              have hf_y := hf1.below b1y
              have hd_y := hd1.below b1y
              have hzy := b1y.size
              have BY1 := Lib.hid b1y
              have hKK : (((K + 2 : Nat) : Int) != (K : Int) + 2) = false := by simp
              clear hal hown' hrd2 hza hown2 hby1 b1y HRO HBW hzw
              go_wp2_with fail
              refine (whole_n af d cf capd m l y1 HM.out (by omega) hcf hf_y hd_y).mono ?_
              rintro e y2 ⟨rfl, hb9⟩
              have b1y2 := BY1.out.trans (hb9.mono hzy)
              have hfm2 := hfm.below b1y2
              have hzy2 := b1y2.size
              clear hf_y hd_y hb9 BY1 hzy
              go_wp2_with fail
              refine (chunk_v af cf m K l ch at_ most y2 HM.out (by omega) (by omega) hfm2 HCH.out HK.out).mono ?_
              rintro e y3 ⟨ad, cd, rfl, hownd, hb10⟩
              have b1y3 := b1y2.trans (hb10.mono hzy2)
              have hf3 := ownsRow_below HF1.out b1y3
              have hbV3 := hb3.trans (b1y3.mono hz1)
              have hzV3 := hbV3.size
              have HBV3 := Lib.hid hbV3
              have HF3 := Lib.hid hf3
              have hxl : ((l ++ marks).map B).length = m + 8 := by simp [marks, HM.out]
              have hyl : (((l.map inv255) ++ marks).map B).length = m + 8 := by simp [marks, HM.out]
              have HXL := Lib.hid hxl
              have HYL := Lib.hid hyl
              clear b1y2 hfm2 hzy2 hownd hb10 b1y3 hf3 hbV3 hxl hyl hKK HC5 HB15
              obtain ⟨Y3, hY3⟩ : ∃ Y3, Y3 = y3 := ⟨_, rfl⟩
              rw [← hY3] at HBV3 HF3 hzV3 ⊢
              clear hY3
              go_wp2
              go_loopw [20] (fun i wr => ∃ j : Nat, j ≤ m ∧ i = .int .i64 (j : Int) ∧ wr.ownsRow V0.heap.size 5 1 (.slice af (m + 8) cf) (m + 8) (turned ((l ++ marks).map B) (((l.map inv255) ++ marks).map B) j) ∧ Below V0.heap.size V0 wr) (fun i _ => m - (intOf i).toNat)
              case atStart => exact ⟨0, Nat.zero_le _, rfl, by rw [turned_zero]; exact HF3.out, HBV3.out⟩
              case round =>
                obtain ⟨j, hj, rfl, hro, hbw⟩ := hrel
                by_cases hjm : j < m
                · have hjm' : (j : Int) < m := Int.ofNat_lt.2 hjm
                  have hjm8 : j < m + 8 := Nat.lt_of_lt_of_le hjm (Nat.le_add_right _ _)
                  have hjm8' : (j : Int) < ((m + 8 : Nat) : Int) := Int.ofNat_lt.2 hjm8
                  have hjl : j < l.length := by rw [HM.out]; exact hjm
                  obtain ⟨g, rfl, hg1, hg2⟩ := own_some hro (Nat.lt_of_le_of_lt (Nat.zero_le _) hjm8)
                  have hc := hro.cellAt j (by rw [Nat.mul_one]; exact hjm8)
                  have hfr := hro.frozenAt j
                  have hst := hro.stored j (B (inv255 l[j]))
                  rw [turned_get HXL.out HYL.out hjm8] at hc
                  have hset := turned_set HXL.out HYL.out hjm8
                  rw [List.getElem_map, List.getElem_append_left (by rw [List.length_map]; exact hjl), List.getElem_map] at hset
                  rw [hset] at hst
                  rw [List.getElem_map, List.getElem_append_left hjl] at hc
                  have hv := inv255_val l[j]
                  obtain ⟨u, hu⟩ : ∃ u, u = l[j] := ⟨_, rfl⟩
                  rw [← hu] at hc hv hst
                  have hub := u.toNat_lt
                  have hsb : Below V0.heap.size V0 (wr.setCell ⟨g, j, none⟩ (B (inv255 u))) := hbw.setCell (p := ⟨g, j, none⟩) hg1 _
                  have HV := Lib.hid hv
                  have HO := Lib.hid hst.1
                  have HS := Lib.hid hsb
                  have HJ := Lib.hid (show j + 1 ≤ m from hjm)
                  have HME := Lib.hid (meas_lt hjm)
                  unfold B at hc
                  clear hst hset hu hsb hro hbw hv
                  go_wp2
                  rw [HV.out]
                  go_roundw
                  case rel => exact ⟨j + 1, HJ.out, by go_num, HO.out, HS.out⟩
                  case measure => exact HME.out
                · have hje : j = m := Nat.le_antisymm hj (Nat.not_lt.1 hjm)
                  have hjm' : ¬ (j : Int) < m := fun h => hjm (Int.ofNat_lt.1 h)
                  rw [hje, turned_same (by rw [← List.map_drop, ← List.map_drop, List.drop_left' HM.out, List.drop_left' (by rw [List.length_map]; exact HM.out)])] at hro
                  have hwas9 := (ownsRow_rd HOV.out).below hbw
                  have hw9 := ownsRow_below HOV.out hbw
                  have hzw := hbw.size
                  have HRO := Lib.hid hro
                  have HBW := Lib.hid hbw
                  clear hje hbw hj hjm hro HF3 HBV3
                  go_wp2_with fail
                  refine (acked_v a1 c1 k zs q av wr HN.out (by omega) hwas9 HAV.out).mono ?_
                  rintro e z1 ⟨rfl, hb11⟩
                  have hbVz := HBW.out.trans (hb11.mono hzw)
                  have hfz := ownsRow_below HRO.out hb11
                  have hwz := ownsRow_below hw9 hb11
                  have hbz := hbV.trans (hbVz.mono hzV)
                  have HFZ := Lib.hid hfz
                  have HWZ := Lib.hid hwz
                  have HBZ := Lib.hid hbz
                  have hzz1 := hbz.size
                  clear hbVz hfz hwz hbz hb11 hwas9 hw9 HRO HBW hzw
                  obtain ⟨Z1, hZ1⟩ : ∃ Z1, Z1 = z1 := ⟨_, rfl⟩
                  rw [← hZ1] at HFZ HWZ HBZ hzz1 ⊢
                  clear hZ1
                  go_wp2
                  go_loopw [21] (fun i wr => ∃ (j : Nat) (zs2 : List Int), j ≤ k ∧ zs2.length = k ∧ i = .int .i64 (j : Int) ∧ wr.ownsRow w.heap.size 3 1 (.slice a1 k c1) k (zs2.map Z) ∧
                    wr.ownsRow V0.heap.size 5 1 (.slice af (m + 8) cf) (m + 8) (((l.map inv255) ++ marks).map B) ∧ Below w.heap.size w wr) (fun i _ => k - (intOf i).toNat)
                  case atStart => exact ⟨0, zs, Nat.zero_le _, HN.out, rfl, HWZ.out, HFZ.out, HBZ.out⟩
                  case round =>
                    obtain ⟨j, zs2, hj, hz2l, rfl, hwo, hfo, hbw⟩ := hrel
                    by_cases hjk : j < k
                    · have hjk' : (j : Int) < k := Int.ofNat_lt.2 hjk
                      obtain ⟨g, rfl, hg1, hg2⟩ := own_some hwo (Nat.lt_of_le_of_lt (Nat.zero_le _) hjk)
                      have hjz : j < zs2.length := by rw [hz2l]; exact hjk
                      have hc := hwo.cellAt j (by rw [Nat.mul_one]; exact hjk)
                      have hfr := hwo.frozenAt j
                      rw [List.getElem?_map, List.getElem?_eq_getElem hjz, Option.map_some, Z] at hc
                      have hset : ∀ x : Int, (zs2.map Z).set j (Z x) = (zs2.set j x).map Z := fun x => by rw [List.map_set]
                      have hst : ∀ x : Int, (wr.setCell ⟨g, j, none⟩ (.int .i64 x)).ownsRow w.heap.size 3 1 (.slice (some ⟨g, 0, none⟩) k c1) k ((zs2.set j x).map Z) := fun x => by
                        have := (hwo.stored j (Z x)).1
                        rw [hset] at this
                        exact this
                      have hfk : ∀ x : Int, (wr.setCell ⟨g, j, none⟩ (.int .i64 x)).ownsRow V0.heap.size 5 1 (.slice af (m + 8) cf) (m + 8) (((l.map inv255) ++ marks).map B) := fun x =>
                        hfo.kept (hwo.stored j (Z x)).2 (own_ne hfo hwo (by decide))
                      have hsb : ∀ x : Int, Below w.heap.size w (wr.setCell ⟨g, j, none⟩ (.int .i64 x)) := fun x => hbw.setCell (p := ⟨g, j, none⟩) hg1 _
                      have HO := Lib.hid hst
                      have HF := Lib.hid hfk
                      have HS := Lib.hid hsb
                      have HZ2 := Lib.hid hz2l
                      have HJ := Lib.hid (show j + 1 ≤ k from hjk)
                      have HME := Lib.hid (meas_lt hjk)
                      obtain ⟨y, hy⟩ : ∃ y, y = zs2[j] := ⟨_, rfl⟩
                      rw [← hy] at hc
                      clear hst hset hfk hsb hy hwo hfo hbw hz2l
                      go_wp2
                      go_roundw
                      case rel => exact ⟨j + 1, _, HJ.out, by rw [List.length_set]; exact HZ2.out, by go_num, HO.out _, HF.out _, HS.out _⟩
                      case measure => exact HME.out
                    · have hjk' : ¬ (j : Int) < k := fun h => hjk (Int.ofNat_lt.1 h)
                      obtain ⟨av2, hav2⟩ : ∃ av2, av2 = ackedZ zs2 q := ⟨_, rfl⟩
                      have HAV2 := Lib.hid hav2.symm
                      obtain ⟨l2, hl2⟩ : ∃ l2, l2 = l.map inv255 := ⟨_, rfl⟩
                      have hl2m : l2.length = m := by rw [hl2, List.length_map]; exact HM.out
                      rw [← hl2] at hfo
                      obtain ⟨ch2, hch2⟩ : ∃ ch, ch = chunkB l2 at_ most := ⟨_, rfl⟩
                      obtain ⟨K2, hK2⟩ : ∃ K, K = ch2.length := ⟨_, rfl⟩
                      have hK2m : K2 ≤ m := by have := chunkB_le l2 at_ most; rw [← hch2, ← hK2, hl2m] at this; exact this
                      have HCH2 := Lib.hid hch2.symm
                      have HK2 := Lib.hid hK2.symm
                      have HL2 := Lib.hid hl2m
                      have HZ2 := Lib.hid hz2l
                      have hwr := ownsRow_rd hwo
                      have hfr := (ownsRow_rd hfo).take m
                      rw [← List.map_take, List.take_left' hl2m] at hfr
                      have hlit := World.ownsRow_lit (base := wr.heap.size) (e := 3) (size := 1) wr #[] 0 (Nat.le_refl _) (by decide) rfl
                      have hal : Below wr.heap.size wr (wr.alloc (.cells #[] 3)) := (Below.refl _ _).alloc (Nat.le_refl _) _
                      have hza := hal.size
                      have HBW := Lib.hid hbw
                      have hzw := hbw.size
                      have hvv2 : (av2 == av2) = true := by simp
                      have hwr2 := hwr.below hal
                      clear hav2 hl2 hl2m hch2 hK2 hz2l hwo hfo hbw hj hjk HXL HYL HLL HL7 HF1 hf1 hd1 HWZ HBZ HFZ
                      go_wp2_with (first | (at_builtin; refine app_z _ rfl _ _ rfl wr.heap.size (.slice (some ⟨wr.heap.size, 0, none⟩) 0 0) 0 [] rfl hlit a1 k c1 zs2 rfl HZ2.out hwr2 (by omega) hza ?_; intro ao co u1 hown2 hbu1 _; simp only [Nat.zero_add, List.nil_append] at hown2 ⊢) | fail)
                      have hbu : Below wr.heap.size wr u1 := hal.trans hbu1
                      have hfu := hfr.below hbu
                      have hwu := hwr.below hbu
                      have hou := ownsRow_rd hown2
                      have hzu := hbu.size
                      have HBU := Lib.hid (HBW.out.trans (hbu.mono hzw))
                      clear hlit hal hza hwr2 hown2 hbu1 hfr hwr hbu HBW hzw
                      go_wp2_with fail
                      refine (chunk_v af cf m K2 l2 ch2 at_ most u1 HL2.out (by omega) (by omega) hfu HCH2.out HK2.out).mono ?_
                      rintro e u2 ⟨ag, cg, rfl, howng, hb20⟩
                      have hg2 := ownsRow_rd howng
                      have hf20 := hfu.below hb20
                      have hw20 := hwu.below hb20
                      have ho20 := hou.below hb20
                      have HB2 := Lib.hid (HBU.out.trans (hb20.mono HBU.out.size))
                      clear howng hb20 hfu hwu hou HBU
                      go_wp2_with fail
                      refine (twin_n af cf m l2 u2 HL2.out (by omega) hf20).mono ?_
                      rintro e u3 ⟨at2, ct, rfl, hownt, hb21⟩
                      have hg3 := hg2.below hb21
                      have hw21 := hw20.below hb21
                      have ho21 := ho20.below hb21
                      have ht3 := ownsRow_rd hownt
                      have HB3 := Lib.hid (HB2.out.trans (hb21.mono HB2.out.size))
                      clear hg2 hf20 hw20 ho20 hownt hb21 HB2
                      go_wp2_with fail
                      refine (rchunk_v at2 ct m K2 l2 ch2 at_ most u3 HL2.out (by omega) ht3 hat HCH2.out HK2.out).mono ?_
                      rintro e u4 ⟨ar, cr, rfl, hownr, hb22⟩
                      have hg4 := hg3.below hb22
                      have hw22 := hw21.below hb22
                      have ho22 := ho21.below hb22
                      have hr4 := ownsRow_rd hownr
                      have HB4 := Lib.hid (HB3.out.trans (hb22.mono HB3.out.size))
                      clear hg3 hw21 ho21 ht3 hownr hb22 HB3
                      go_wp2_with fail
                      refine (same_n ag ar cg cr K2 K2 ch2 ch2 u4 HK2.out HK2.out (by omega) hg4 hr4).mono ?_
                      rintro e u5 ⟨rfl, hb23⟩
                      rw [beq_self_eq_true]
                      have hw23 := hw22.below hb23
                      have ho23 := ho22.below hb23
                      have HB5 := Lib.hid (HB4.out.trans (hb23.mono HB4.out.size))
                      clear hg4 hr4 hw22 ho22 hb23 HB4
                      go_wp2_with fail
                      refine (acked_v a1 c1 k zs2 q av2 u5 HZ2.out (by omega) hw23 HAV2.out).mono ?_
                      rintro e u6 ⟨rfl, hb24⟩
                      have ho24 := ho23.below hb24
                      have HB6 := Lib.hid (HB5.out.trans (hb24.mono HB5.out.size))
                      go_wp2_with fail
                      refine (racked_v ao co k zs2 q av2 u6 HZ2.out (by omega) ho24 HAV2.out).mono ?_
                      rintro e u7 ⟨rfl, rfl⟩
                      go_wp2
                      go_ret
                      exact ⟨rfl, HB6.out⟩

theorem counts_law {w : World} (a : Option Addr) (n cap : Nat) (zs : List Int) (hn : zs.length = n) (h : Rd w a (zs.map Z)) (hnb : n * 8 ≤ 140737488351232) (q : Int) (hq : (Lit.int .i64 q).wf = true)
    (d : Option Addr) (m capd : Nat) (l : List UInt8) (hm : l.length = m) (hd : Rd w d (l.map B)) (hmb : m ≤ 140737488351232) (at_ : Int) (hat : (Lit.int .i64 at_).wf = true) (most : Int) (hmo : (Lit.int .i64 most).wf = true) (w' : World) (hw : w = w') :
    Calls Try.prog 3 #[.slice a n cap, .int .i64 q, .slice d m capd, .int .i64 at_, .int .i64 most] w' fun e W' => e = .returned (.bool true) ∧ Below w'.heap.size w' W' := by
  subst hw
  refine counts_walk a cap n zs q d capd m l at_ most w hn hnb h hm hmb hd ?_
  simp [Lit.wf, IntKind.min, IntKind.max, IntKind.bits, IntKind.signed] at hat
  exact hat.2
#print axioms counts_law
end Go.Proofs.Ytgpefemnabjfcaa
