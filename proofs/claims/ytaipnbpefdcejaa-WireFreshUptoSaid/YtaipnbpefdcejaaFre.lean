/- The walk of the law WireFresh. -/
import Derived.Test.YtaipnbpefdcejaaFrO
import Derived.Test.YtaipnbpefdcejaaRDec
import Derived.StillTailTactics
set_option linter.unusedVariables false
namespace Go.Proofs.Ytaipnbpefdcejaa
open Go.RowKit
theorem map_one {ms : List (M × Ps)} {m : M} (h : ms.map (·.1) = [m]) : ∃ q1, ms = [(m, q1)] := by
  rcases ms with _ | ⟨⟨x, q1⟩, _ | ⟨y, ms⟩⟩
  · cases h
  · simp only [List.map_cons, List.map_nil, List.cons.injEq, and_true] at h
    subst h
    exact ⟨q1, rfl⟩
  · simp at h
theorem OwnM.toB {lo : Nat} {w : World} {m : M} {q : Ps} (h : OwnM lo w m q) : OwnB lo w.heap.size w m q := ⟨h, fun a ha x hx => (h.lts a ha x hx).2⟩
set_option maxHeartbeats 4000000 in
set_option maxRecDepth 20000 in
theorem fresh_walk (m m2 : M) (p q : Ps) (N : Nat) (w : World) (hN : N < 18446744073709551616) (hwf : WfM m) (hwf2 : WfM m2) (hr : MRd w m p) (hr2 : MRd w m2 q) : Calls Try.prog 13 #[valM m p, valM m2 q, .int .u64 (N : Int)] w fun e w' => e = .returned (.bool true) ∧ Below w.heap.size w w' := by
  obtain ⟨v0, hv0⟩ : ∃ v, v = valM m p := ⟨_, rfl⟩
  obtain ⟨v1, hv1⟩ : ∃ v, v = valM m2 q := ⟨_, rfl⟩
  obtain ⟨w1, hw1⟩ : ∃ w1, w1 = (w.alloc (.cells (cellsM m p).toArray 50)).alloc (.cells (cellsM m2 q).toArray 50) := ⟨_, rfl⟩
  have hb1 : Below w.heap.size w w1 := by rw [hw1]; exact ((Below.refl _ _).alloc (Nat.le_refl _) _).alloc (by simp) _
  have hk1 : Blk w1 w.heap.size 50 (cellsM m p) := by rw [hw1]; exact (Blk.new w _ 50).alloc _
  have hj1 : Blk w1 (w.heap.size + 1) 50 (cellsM m2 q) := by
    have := Blk.new (w.alloc (.cells (cellsM m p).toArray 50)) (cellsM m2 q) 50
    rw [World.size_alloc] at this
    rw [hw1]
    exact this
  have hr1 := hr.below hb1
  have hr12 := hr2.below hb1
  unfold cellsM at hw1
  unfold valM cellsM at hv0 hv1
  unfold valM cellsM
  go_enter Try.func13, Try.ntmps13
  go_upto_region 1 with fail
  rw [← hw1, ← hv0, ← hv1]
  clear hw1 hv0 hv1 hr hr2
  obtain ⟨ga, hga⟩ : ∃ g, g = w.heap.size := ⟨_, rfl⟩
  rw [← hga] at hk1 hj1 ⊢
  have HT1 : Hid (TT w m m2 p q ga (ga + 1) w1) := Lib.hid ⟨hk1, hj1, hr1, hr12, hb1⟩
  clear hk1 hj1 hb1 hr1 hr12 hga
  go_wp2_with (first | ((with_reducible refine at_dst 49 ?_); refine wpList_load_midg rfl 50 (.tmp 3) rfl ga 0 rfl (cellsM m p) _ HT1.out.1.whole Try.underlying50 rfl (by kernel_rfl) ?_) | ((with_reducible refine at_dst 50 ?_); refine wpList_load_midg rfl 50 (.tmp 4) rfl (ga + 1) 0 rfl (cellsM m2 q) _ HT1.out.2.1.whole Try.underlying50 rfl (by kernel_rfl) ?_) | fail)
  refine (together_any m m2 p q w1 hwf hwf2 HT1.out.2.2.1 HT1.out.2.2.2.1).mono ?_
  rintro e w2 ⟨rfl, hb2⟩
  have HT2 := Lib.hid (HT1.out.below hb2)
  clear hb2 HT1
  go_wp2_with (first | ((with_reducible refine at_dst 55 ?_); refine wpList_load_midg rfl 50 (.tmp 3) rfl ga 0 rfl (cellsM m p) _ HT2.out.1.whole Try.underlying50 rfl (by kernel_rfl) ?_) | fail)
  refine (encoded_any m p w2 hwf HT2.out.2.2.1).mono ?_
  rintro e w3 ⟨a1, c1, rfl, hown1, hb1⟩
  have HT3 := Lib.hid (HT2.out.below hb1)
  have HO3 := Lib.hid (ownsRow_rd hown1)
  have hcap1 := own_cap hown1
  have hl1 := encA_len m
  have HE := Lib.hid (enc_okM hwf)
  obtain ⟨n1, hn1⟩ : ∃ n, n = (encA m).1.length := ⟨_, rfl⟩
  rw [← hn1] at hl1 hcap1 ⊢
  have HN1 := Lib.hid hn1
  clear hown1 hb1 HT2 hn1
  go_wp2_with fail
  refine (alive_any w3).mono ?_
  rintro e w4 ⟨rfl, hb4⟩
  have HT4 := Lib.hid (HT3.out.below hb4)
  have HO4 := Lib.hid (HO3.out.below hb4)
  clear hb4 HT3 HO3
  have hcase : n1 = 0 ∨ (n1 ≠ 0 ∧ (encA m).1 = frameM m ∧ okM m) := by
    have h3 := HN1.out
    rcases HE.out with ⟨g1, g2, g3⟩ | ⟨_, g2⟩
    · rw [g2] at h3
      dsimp only at h3
      exact .inr ⟨by omega, by rw [g2], g1⟩
    · rw [g2] at h3; exact .inl h3
  clear HE
  rcases hcase with h0 | ⟨h0, h3, h6⟩
  · have h0' : ¬ (n1 : Int) > 0 := by omega
    have h0'' : n1 = 0 := h0
    go_upto_region 48 with fail
    have HW : Hid (Below w.heap.size w w4) := Lib.hid HT4.out.2.2.2.2
    obtain ⟨wz, hwz⟩ : ∃ x, x = w4 := ⟨_, rfl⟩
    rw [← hwz] at HW ⊢
    have HWS : Hid (w.heap.size ≤ wz.heap.size) := Lib.hid HW.out.size
    clear hwz HT4 HO4 HN1 h0 h0' h0'' hl1 hcap1
    obtain ⟨wa, hwa⟩ : ∃ x, x = wz.alloc (.cells (roomL.map B).toArray 5) := ⟨_, rfl⟩
    obtain ⟨gR, hgR⟩ : ∃ g, g = wz.heap.size := ⟨_, rfl⟩
    have hrm : Rd wa (some ⟨gR, 0, none⟩) (roomL.map B) := by rw [hwa, hgR]; exact lit_rd _ _ _
    have hba : Below wz.heap.size wz wa := by rw [hwa]; exact (Below.refl _ _).alloc (Nat.le_refl _) _
    have HWS : Hid (w.heap.size ≤ wa.heap.size) := Lib.hid (Nat.le_trans HWS.out hba.size)
    have hgl : gR < wa.heap.size := by rw [hwa, hgR, World.size_alloc]; omega
    have hwa' : wz.alloc (.cells #[.int .u8 1, .int .u8 2, .int .u8 3, .int .u8 4, .int .u8 5, .int .u8 6, .int .u8 7, .int .u8 8, .int .u8 9, .int .u8 10, .int .u8 11, .int .u8 12, .int .u8 13, .int .u8 14, .int .u8 15, .int .u8 16] 5) = wa := hwa.symm
    have HWA := Lib.hid hwa'
    have HRM := Lib.hid hrm
    have HA := Lib.hid (HW.out.trans (hba.mono HW.out.size))
    have HGR := Lib.hid hgR
    clear hrm hwa hwa' hba hgR HW
    go_upto_region 49 with fail
    rw [HWA.out, ← HGR.out]
    clear HWA HGR
    have hr2' : Rd wa (some ⟨gR, 0, none⟩) (([1, 2] : List UInt8).map B) := rd_take HRM.out 2
    go_wp2_with fail
    refine (putuint_any (some ⟨gR, 0, none⟩) 16 2 [1, 2] N wa rfl hN (by omega) hr2').mono ?_
    rintro e wb ⟨ab, cb, rfl, hownb, hbb⟩
    obtain ⟨nP, hnP⟩ : ∃ n, n = ([1, 2] : List UInt8).length + (bytesU N).length := ⟨_, rfl⟩
    have hp1 := bytesU_pos N
    rw [← hnP] at hownb ⊢
    have hp2 : 3 ≤ nP := by rw [hnP]; simp only [List.length_cons, List.length_nil]; omega
    have HPL : Hid (([1, 2] ++ bytesU N : List UInt8).length = nP) := Lib.hid (by rw [List.length_append, hnP])
    have HP := Lib.hid (ORow.of_own hownb HPL.out)
    have HPU : Hid (∀ k, SB ab nP k → wa.heap.size ≤ k ∧ k < wb.heap.size) := Lib.hid (fun k hk => HP.out.rng hk)
    have HRM1 := Lib.hid (HRM.out.below hbb)
    have HB1 := Lib.hid (HA.out.trans (hbb.mono HA.out.size))
    have HZ1 := Lib.hid hbb.size
    clear hr2' HRM hownb hbb HA hnP hp1
    have hr3' : Rd wb (some ⟨gR, 0, none⟩) (([1, 2, 3] : List UInt8).map B) := rd_take HRM1.out 3
    have hir : -9223372036854775808 ≤ wrap64 (N : Int) ∧ wrap64 (N : Int) ≤ 9223372036854775807 := by unfold wrap64; omega
    go_wp2_with fail
    refine (putint_any (some ⟨gR, 0, none⟩) 16 3 [1, 2, 3] (wrap64 (N : Int)) wb rfl hir (by omega) hr3').mono ?_
    rintro e wc ⟨ac, cc, rfl, hownc, hbc⟩
    obtain ⟨nQ, hnQ⟩ : ∃ n, n = ([1, 2, 3] : List UInt8).length + (bytesU (zig (wrap64 (N : Int)))).length := ⟨_, rfl⟩
    have hq1 := bytesU_pos (zig (wrap64 (N : Int)))
    rw [← hnQ] at hownc ⊢
    have hq2 : 4 ≤ nQ := by rw [hnQ]; simp only [List.length_cons, List.length_nil]; omega
    have HQL : Hid (([1, 2, 3] ++ bytesU (zig (wrap64 (N : Int))) : List UInt8).length = nQ) := Lib.hid (by rw [List.length_append, hnQ])
    have HQ := Lib.hid (ORow.of_own hownc HQL.out)
    have HP1 := Lib.hid (HP.out.below hbc)
    have HRM2 := Lib.hid (HRM1.out.below hbc)
    have HB2 := Lib.hid (HB1.out.trans (hbc.mono HB1.out.size))
    have HZ2 := Lib.hid hbc.size
    clear hr3' hir HRM1 hownc hbc HB1 hnQ hq1 HP
    have ip0 : (0 : Int) < (nP : Int) := by omega
    have iq0 : (0 : Int) < (nQ : Int) := by omega
    have ip1 : (1 : Int) < (nP : Int) := by omega
    have iq1 : (2 : Int) < (nQ : Int) := by omega
    have ip2 : (nP : Int) > 2 := by omega
    have iq2 : (nQ : Int) > 3 := by omega
    obtain ⟨gP, xp, hgP, cp, x0, x1, xu, fp, hput⟩ := HP1.out.open 0 (by omega)
    subst hgP
    clear x0 x1 xu
    have hs := hput 77 (by omega) (by omega)
    obtain ⟨wd, hwd⟩ : ∃ x, x = wc.setCell ⟨gP, 0, none⟩ (.int .u8 77) := ⟨_, rfl⟩
    rw [← hwd] at hs
    have HWD := Lib.hid hwd
    have hpr := HPU.out gP (SB.mk' rfl (show 0 < nP by omega))
    have ho1 : Offs (fun k => k = gP) wc wd := (Offs.refl _ _).grown hs.2 (fun k hk => by cases hk; exact .inl rfl)
    have HP3 := Lib.hid hs.1
    have HQ3 := Lib.hid (HQ.out.offs ho1 (fun k hk e => by have h1 := (HQ.out.rng hk).1; omega))
    have HRM3 := Lib.hid (ho1.rd HRM2.out (fun x hx e => by cases hx; dsimp only at e; omega))
    have HB3 := Lib.hid (HB2.out.trans (ho1.toBelow (b := w.heap.size) (fun k hk => by have h2 := HB2.out.size; have h3 := HWS.out; omega) HB2.out.size))
    have HPR := Lib.hid hpr
    clear hput hs hwd ho1 HP1 HQ HRM2 HB2 hpr
    go_upto_region 52 with fail
    rw [← HWD.out]
    clear HWD cp fp
    obtain ⟨gQ, xq, hgQ, cq, x0, x1, xu, fq, hput⟩ := HQ3.out.open 0 (by omega)
    subst hgQ
    clear x0 x1 xu
    have hs := hput 78 (by omega) (by omega)
    obtain ⟨we, hwe⟩ : ∃ x, x = wd.setCell ⟨gQ, 0, none⟩ (.int .u8 78) := ⟨_, rfl⟩
    rw [← hwe] at hs
    have HWE := Lib.hid hwe
    have hqr := (HQ3.out.rng (SB.mk' rfl (show 0 < nQ by omega))).1
    have ho1 : Offs (fun k => k = gQ) wd we := (Offs.refl _ _).grown hs.2 (fun k hk => by cases hk; exact .inl rfl)
    have HQ4 := Lib.hid hs.1
    have HP4 := Lib.hid (HP3.out.offs ho1 (fun k hk e => by have h1 := HPU.out k hk; omega))
    have HRM4 := Lib.hid (ho1.rd HRM3.out (fun x hx e => by cases hx; dsimp only at e; have h1 := HZ1.out; omega))
    have HB4 := Lib.hid (HB3.out.trans (ho1.toBelow (b := w.heap.size) (fun k hk => by have h1 := HZ1.out; have h3 := HWS.out; omega) HB3.out.size))
    clear hput hs hwe ho1 HP3 HQ3 HRM3 HB3 hqr
    go_upto_region 53 with fail
    rw [← HWE.out]
    clear HWE cq fq
    go_wp2_with fail
    obtain ⟨W3, hW3⟩ : ∃ x, x = we := ⟨_, rfl⟩
    rw [← hW3] at HP4 HQ4 HRM4 HB4 ⊢
    clear hW3
    go_loopw [48] (fun i wr => ∃ (j : Nat), i = .int .i64 (j : Int) ∧ j ≤ 16 ∧ wr = W3) (fun i _ => 16 - (intOf i).toNat)
    case atStart => exact ⟨0, rfl, Nat.zero_le _, rfl⟩
    case round =>
      obtain ⟨j, rfl, hj, hwr⟩ := hrel
      subst wr
      by_cases hlt : j < 16
      · have hlt' : (j : Int) < 16 := by omega
        have hj0 : 0 ≤ (j : Int) := by omega
        have cj := room_cell HRM4.out j hlt
        have hw1 : wrap64 ((j : Int) + 1) = (j : Int) + 1 := by unfold wrap64; omega
        have HME := Lib.hid (meas_lt hlt)
        have HREL : Hid (∃ (j' : Nat), Value.int .i64 ((j : Int) + 1) = .int .i64 (j' : Int) ∧ j' ≤ 16 ∧ True) := Lib.hid ⟨j + 1, rfl, hlt, trivial⟩
        have hne : ((j : Int) + 1 != (j : Int) + 1) = false := by simp
        have HW1 : Hid (wrap64 ((j : Int) + 1) = (j : Int) + 1) := Lib.hid hw1
        go_wp2
        go_roundw
        case rel => first | exact HREL.out | (rw [HW1.out]; exact HREL.out)
        case measure => first | exact HME.out | (rw [HW1.out]; exact HME.out)
      · have hlt' : ¬ (j : Int) < 16 := by omega
        obtain ⟨gP', y1, hg1, cy1, z0, z1, hy1, z2, z3⟩ := HP4.out.open 1 (by omega)
        cases hg1
        obtain rfl : y1 = 2 := hy1 2 (by rw [List.getElem?_set_ne (by omega)]; rfl)
        obtain ⟨gQ', y2, hg2, cy2, z4, z5, hy2, z6, z7⟩ := HQ4.out.open 2 (by omega)
        cases hg2
        obtain rfl : y2 = 3 := hy2 3 (by rw [List.getElem?_set_ne (by omega)]; rfl)
        have hfin := HB4.out
        clear hy1 hy2 z0 z1 z2 z3 z4 z5 z6 z7
        go_wp2
        go_ret
        exact ⟨rfl, hfin⟩
  · have h0' : (n1 : Int) > 0 := by omega
    have hn0 : 0 < n1 := by omega
    rw [h3] at HN1 HO4
    have HK := Lib.hid h6
    obtain ⟨L1, hL1⟩ : ∃ L, L = frameM m := ⟨_, rfl⟩
    rw [← hL1] at HN1 HO4
    have HL1 := Lib.hid hL1
    clear h3 h6 h0 hL1
    have hrd4 := HO4.out
    go_wp2_with fail
    refine (copied_n a1 c1 n1 L1 w4 HN1.out.symm (by omega) hrd4).mono ?_
    rintro e w5 ⟨a5, c5, rfl, hown5, hb5⟩
    have hcap5 := own_cap hown5
    obtain ⟨gi, cs5, rfl, _⟩ := own_form2 hown5 (by omega)
    have hrow5 := ORow.of_own hown5 HN1.out.symm
    have HI5 := Lib.hid hrow5
    have hi5 := hrow5.rd
    have HB5 := Lib.hid hb5
    clear hown5 hb5 hrd4 hrow5
    go_wp2_with fail
    refine (decode_any (some ⟨gi, 0, none⟩) n1 c5 L1 w5 HN1.out.symm (by omega) hcap5 hi5).mono ?_
    rintro e w6 ⟨x6, qa, n6, c6, rfl, hR6, hown6, hb6⟩
    obtain ⟨rfl, rfl, rfl⟩ : c6 = 0 ∧ m = x6 ∧ n1 = n6 := by
      have h9 := HK.out
      rw [HL1.out, show frameM m = frameM m ++ [] by simp] at hR6
      obtain ⟨k1, k2, k3⟩ := dec_frame h9.1 h9.2.1 h9.2.2 hR6
      exact ⟨k1, k2.symm, by rw [HN1.out, HL1.out, k3]⟩
    have HA6 := Lib.hid hown6.toB
    have HI6 := Lib.hid (HI5.out.below hb6)
    have HB6 := Lib.hid (HB5.out.trans (hb6.mono HB5.out.size))
    have HS6 := Lib.hid (⟨HB5.out.size, hb6.size⟩ : w4.heap.size ≤ w5.heap.size ∧ w5.heap.size ≤ w6.heap.size)
    clear hi5 hown6 hb6 hR6 HB5
    obtain ⟨hkk, hkb, hth⟩ := new_msg w6 m qa
    obtain ⟨w7, hw7⟩ : ∃ wb, wb = (w6.alloc (.cells cellsZ.toArray 50)).setCells w6.heap.size 0 (cellsM m qa) := ⟨_, rfl⟩
    rw [← hw7] at hkk hkb
    unfold cellsZ at hth hw7
    have HW7 := Lib.hid hw7
    clear hw7
    go_upto_region 10 with (first | ((with_reducible refine at_store ?_); refine wpList_store_mid rfl 50 _ _ rfl w6.heap.size 0 (cellsM m qa).toArray rfl rfl hth (by kernel_rfl) (by kernel_rfl) ?_; rw [← HW7.out]) | fail)
    obtain ⟨gA, hgA⟩ : ∃ g, g = w6.heap.size := ⟨_, rfl⟩
    rw [← hgA] at hkk ⊢
    have HKA7 := Lib.hid hkk
    have HA7 := Lib.hid (⟨HA6.out.1.below hkb, HA6.out.2⟩ : OwnB w5.heap.size w6.heap.size w7 m qa)
    have HI7 := Lib.hid (HI6.out.below hkb)
    have HB7 := Lib.hid (HB6.out.trans (hkb.mono HB6.out.size))
    have HS7 := Lib.hid (⟨HS6.out.1, HS6.out.2, hgA, hkk.lt⟩ : w4.heap.size ≤ w5.heap.size ∧ w5.heap.size ≤ w6.heap.size ∧ gA = w6.heap.size ∧ gA < w7.heap.size)
    clear hkk hkb hth HW7 hgA HA6 HI6 HB6 HS6
    have hi7 := HI7.out.rd
    go_wp2_with fail
    refine (decode_any (some ⟨gi, 0, none⟩) n1 c5 L1 w7 HN1.out.symm (by omega) hcap5 hi7).mono ?_
    rintro e w8 ⟨x8, qx, n8, c8, rfl, hR8, hown8, hb8⟩
    obtain ⟨rfl, rfl, rfl⟩ : c8 = 0 ∧ m = x8 ∧ n1 = n8 := by
      have h9 := HK.out
      rw [HL1.out, show frameM m = frameM m ++ [] by simp] at hR8
      obtain ⟨k1, k2, k3⟩ := dec_frame h9.1 h9.2.1 h9.2.2 hR8
      exact ⟨k1, k2.symm, by rw [HN1.out, HL1.out, k3]⟩
    have HX8 := Lib.hid hown8.toB
    have HI8 := Lib.hid (HI7.out.below hb8)
    have HB8 := Lib.hid (HB7.out.trans (hb8.mono HB7.out.size))
    have HKA8 := Lib.hid (HKA7.out.below hb8)
    have HA8 := Lib.hid (⟨HA7.out.1.below hb8, HA7.out.2⟩ : OwnB w5.heap.size w6.heap.size w8 m qa)
    have HZ8 := Lib.hid hb8.size
    clear hi7 hown8 hb8 hR8 HI7 HB7 HKA7 HA7
    obtain ⟨hkk, hkb, hth⟩ := new_msg w8 m qx
    obtain ⟨w9, hw9⟩ : ∃ wb, wb = (w8.alloc (.cells cellsZ.toArray 50)).setCells w8.heap.size 0 (cellsM m qx) := ⟨_, rfl⟩
    rw [← hw9] at hkk hkb
    unfold cellsZ at hth hw9
    have HW9 := Lib.hid hw9
    clear hw9
    go_upto_region 11 with (first | ((with_reducible refine at_store ?_); refine wpList_store_mid rfl 50 _ _ rfl w8.heap.size 0 (cellsM m qx).toArray rfl rfl hth (by kernel_rfl) (by kernel_rfl) ?_; rw [← HW9.out]) | fail)
    obtain ⟨gX, hgX⟩ : ∃ g, g = w8.heap.size := ⟨_, rfl⟩
    rw [← hgX] at hkk ⊢
    have HKX9 := Lib.hid hkk
    have HX9 := Lib.hid (⟨HX8.out.1.below hkb, HX8.out.2⟩ : OwnB w7.heap.size w8.heap.size w9 m qx)
    have HI9 := Lib.hid (HI8.out.below hkb)
    have HKA9 := Lib.hid (HKA8.out.below hkb)
    have HA9 := Lib.hid (⟨HA8.out.1.below hkb, HA8.out.2⟩ : OwnB w5.heap.size w6.heap.size w9 m qa)
    have HB9 := Lib.hid (HB8.out.trans (hkb.mono HB8.out.size))
    have HS9 := Lib.hid (⟨HS7.out.1, HS7.out.2.1, HS7.out.2.2.1, HS7.out.2.2.2, HZ8.out, hgX, hkk.lt⟩ : w4.heap.size ≤ w5.heap.size ∧ w5.heap.size ≤ w6.heap.size ∧ gA = w6.heap.size ∧ gA < w7.heap.size ∧ w7.heap.size ≤ w8.heap.size ∧ gX = w8.heap.size ∧ gX < w9.heap.size)
    clear hkk hkb hth HW9 hgX HX8 HI8 HKA8 HA8 HB8 HS7 HZ8
    have hi9 := HI9.out.rd
    go_wp2_with fail
    refine (all_any2 (some ⟨gi, 0, none⟩) n1 c5 L1 w9 HN1.out.symm (by omega) hcap5 hi9).mono ?_
    rintro e w10 ⟨ms, a10, c10, n10, er, rfl, hR, hO, hch, hb10⟩
    rw [HL1.out, show frameM m = flatF [m] ++ [] by simp [flatF]] at hR
    obtain ⟨k1, k2, k3⟩ := all_cut [m] [] _ _ _ (fun x hx => by rw [List.mem_singleton.1 hx]; exact HK.out) (.inl rfl) hR
    obtain ⟨ql, rfl⟩ := map_one k1
    obtain rfl : er = 0 := by
      rcases k3 with ⟨_, g⟩ | ⟨g, _⟩
      · exact g
      · exact (g rfl).elim
    have hlen1 : [(m, ql)].length = 1 := rfl
    obtain ⟨mid, hm1, ⟨o1, bb1⟩, hm3⟩ := hch
    have hOr := hO.1
    rw [hlen1] at hOr
    obtain ⟨gl, csl, rfl, _, _, hgl⟩ := own_form2 hOr (by omega)
    have HLL := Lib.hid (show OwnB w9.heap.size w10.heap.size w10 m ql from ⟨o1, fun a ha x hx => Nat.lt_of_lt_of_le (bb1 a ha x hx) hm3⟩)
    have HROW := Lib.hid (ownsRow_rd hOr)
    have hglt : w9.heap.size ≤ gl := hgl
    rw [hlen1]
    have HS10 := Lib.hid (⟨HS9.out, hgl, hb10.size⟩ : (w4.heap.size ≤ w5.heap.size ∧ w5.heap.size ≤ w6.heap.size ∧ gA = w6.heap.size ∧ gA < w7.heap.size ∧ w7.heap.size ≤ w8.heap.size ∧ gX = w8.heap.size ∧ gX < w9.heap.size) ∧ w9.heap.size ≤ gl ∧ w9.heap.size ≤ w10.heap.size)
    have HI10 := Lib.hid (HI9.out.below hb10)
    have HKA10 := Lib.hid (HKA9.out.below hb10)
    have HA10 := Lib.hid (⟨HA9.out.1.below hb10, HA9.out.2⟩ : OwnB w5.heap.size w6.heap.size w10 m qa)
    have HKX10 := Lib.hid (HKX9.out.below hb10)
    have HX10 := Lib.hid (⟨HX9.out.1.below hb10, HX9.out.2⟩ : OwnB w7.heap.size w8.heap.size w10 m qx)
    have HB10 := Lib.hid (HB9.out.trans (hb10.mono HB9.out.size))
    have HG := Lib.hid (show w4.heap.size ≤ gi ∧ gi < w5.heap.size from HI5.out.rng (SB.mk' rfl hn0))
    clear hi9 hR k1 k2 k3 hO hOr hlen1 hm1 o1 bb1 hm3 hgl hglt hb10 HI9 HKA9 HA9 HKX9 HX9 HB9 HS9 HI5
    go_wp2_with fail
    obtain ⟨W0, hW0⟩ : ∃ x, x = w10 := ⟨_, rfl⟩
    rw [← hW0] at HI10 HKA10 HA10 HKX10 HX10 HLL HROW HB10 HS10 ⊢
    clear hW0
    go_loopw [20] (fun i wr => ∃ (j : Nat) (L : List UInt8), i = .int .i64 (j : Int) ∧ j ≤ n1 ∧ ORow w4.heap.size wr (some ⟨gi, 0, none⟩) n1 L ∧ Offs (fun k => k = gi) W0 wr) (fun i _ => n1 - (intOf i).toNat)
    case atStart => exact ⟨0, L1, rfl, Nat.zero_le _, HI10.out, Offs.refl _ _⟩
    case round =>
      obtain ⟨j, L, rfl, hj, hI, hof⟩ := hrel
      by_cases hlt : j < n1
      · have hlt' : (j : Int) < n1 := by omega
        obtain ⟨g', x, hg', cj, x0, x1, xu, fj, hput⟩ := hI.open j hlt
        cases hg'
        have hs := hput 255 (by omega) (by omega)
        have HREL : Hid (∃ (j' : Nat) (L' : List UInt8), Value.int .i64 ((j : Int) + 1) = .int .i64 (j' : Int) ∧ j' ≤ n1 ∧ ORow w4.heap.size (wr.setCell ⟨gi, j, none⟩ (.int .u8 255)) (some ⟨gi, 0, none⟩) n1 L' ∧ Offs (fun k => k = gi) W0 (wr.setCell ⟨gi, j, none⟩ (.int .u8 255))) :=
          Lib.hid ⟨j + 1, _, rfl, hlt, hs.1, hof.grown hs.2 (fun k hk => by cases hk; exact .inl rfl)⟩
        have HME := Lib.hid (meas_lt hlt)
        clear hI hof hput hs x0 x1 xu
        go_wp2
        go_roundw
        case rel => exact HREL.out
        case measure => exact HME.out
      · have hlt' : ¬ (j : Int) < n1 := by omega
        obtain ⟨w11, hw11⟩ : ∃ x, x = wr := ⟨_, rfl⟩
        subst hw11
        have HI11 := Lib.hid hI
        have HOF := Lib.hid hof
        have HKA11 := Lib.hid (hof.blk HKA10.out (by have h1 := HS10.out; have h2 := HG.out; omega))
        have HA11 := Lib.hid (hof.ownM HA10.out.1 (fun k hk hs => by have h1 := (LB.rng HA10.out hk).1; have h2 := HG.out; omega))
        clear hI hof hj
        go_wp2_with (first | ((with_reducible refine at_dst 97 ?_); refine wpList_load_midg rfl 50 (.tmp 11) rfl gA 0 rfl (cellsM m qa) _ HKA11.out.whole Try.underlying50 rfl (by kernel_rfl) ?_) | fail)
        refine (spoil_any m qa w5.heap.size w11 hwf HA11.out).mono ?_
        rintro e w12 ⟨rfl, hoff⟩
        have hall : Offs (fun k => k = gi ∨ LB qa k) W0 w12 := (HOF.out.mono (fun k hk => .inl hk)).trans (hoff.mono (fun k hk => .inr hk))
        have hI12 := HI11.out.offs hoff (fun k hk hs => by
          have h1 := (LB.rng HA10.out hs).1
          have h2 := HG.out
          obtain ⟨_, y, hy, rfl⟩ := hk
          cases hy
          dsimp only at h1
          omega)
        have hb12 : Below w4.heap.size w4 w12 := HB10.out.trans (hall.toBelow (fun k hk => by
          rcases hk with rfl | hk
          · exact HG.out.1
          · have h1 := (LB.rng HA10.out hk).1
            have h2 := HS10.out
            omega) HB10.out.size)
        have hkx12 := hall.blk HKX10.out (fun hs => by
          have h2 := HS10.out
          have h3 := HG.out
          rcases hs with h1 | hs
          · omega
          · have h1 := (LB.rng HA10.out hs).2.1
            omega)
        have hmx12 := hall.mrd HX10.out.1.rd (fun k hk hs => by
          have h2 := HS10.out
          have h3 := HG.out
          have h4 := (LB.rng HX10.out hk).1
          rcases hs with h1 | hs
          · omega
          · have h1 := (LB.rng HA10.out hs).2.1
            omega)
        have hml12 := hall.mrd HLL.out.1.rd (fun k hk hs => by
          have h2 := HS10.out
          have h3 := HG.out
          have h4 := (LB.rng HLL.out hk).1
          rcases hs with h1 | hs
          · omega
          · have h1 := (LB.rng HA10.out hs).2.1
            omega)
        have hrl12 := hall.rd HROW.out (fun x hx hs => by
          have h2 := HS10.out
          have h3 := HG.out
          cases hx
          dsimp only at hs
          rcases hs with h1 | hs
          · omega
          · have h1 := (LB.rng HA10.out hs).2.1
            omega)
        have HI12 := Lib.hid hI12
        have HB12 := Lib.hid hb12
        have HT12 := Lib.hid (HT4.out.below hb12)
        have HKX12 := Lib.hid hkx12
        have HMX12 := Lib.hid hmx12
        have HML12 := Lib.hid hml12
        have HRL12 := Lib.hid hrl12
        clear hoff hall hI12 hb12 hkx12 hmx12 hml12 hrl12 HKA11 HA11 HI11 HOF HKA10 HA10 HKX10 HX10 HLL HROW HB10 HI10
        go_wp2_with (first | ((with_reducible refine at_dst 99 ?_); refine wpList_load_midg rfl 50 (.tmp 14) rfl gX 0 rfl (cellsM m qx) _ HKX12.out.whole Try.underlying50 rfl (by kernel_rfl) ?_) | ((with_reducible refine at_dst 100 ?_); refine wpList_load_midg rfl 50 (.tmp 3) rfl ga 0 rfl (cellsM m p) _ HT12.out.1.whole Try.underlying50 rfl (by kernel_rfl) ?_) | fail)
        refine (alike_any m m qx p w12 hwf hwf HMX12.out HT12.out.2.2.1).mono ?_
        rintro e w13 ⟨b13, rfl, hb13, hbe13⟩
        obtain rfl : b13 = true := hb13.2 rfl
        have HI13 := Lib.hid (HI12.out.below hbe13)
        have HB13 := Lib.hid (HB12.out.trans (hbe13.mono HB12.out.size))
        have HT13 := Lib.hid (HT12.out.below hbe13)
        have hml13 := HML12.out.below hbe13
        have hrl13 := HRL12.out.below hbe13
        have hg0 : w13.rangeAt gl 0 (cellsM m ql) := rd_row_at hrl13 0 (by simp)
        clear hb13 hbe13 HI12 HB12 HT12 HKX12 HMX12 HML12 HRL12 hrl13
        go_upto_region 20 with fail
        refine wp_region_class (fun W => Below w13.heap.size w13 W) (by kernel_rfl) (by kernel_rfl) (below_draws w13) ?_
        refine qc_move rfl (.tmp 17) (.inl rfl) ?_
        refine wpq_hide (fun K hK => ?_)
        go_simp
        refine hK _ ?_
        clear hK K
        refine qc_index rfl 62 50 (.tmp 117) (.const (.int .i64 0)) rfl Try.underlying62 31 (by kernel_rfl) gl 0 1 c10 0 .i64 rfl rfl (by decide) ?_
        refine wpq_hide (fun K hK => ?_)
        go_simp
        refine hK _ ?_
        clear hK K
        refine qc_load rfl 50 (.tmp 118) rfl gl 0 rfl (cellsM m ql) _ (fun W hW => range_below hg0 hW) Try.underlying50 rfl (by kernel_rfl) ?_
        refine wpq_hide (fun K hK => ?_)
        go_simp
        refine hK _ ?_
        clear hK K
        refine qc_load rfl 50 (.tmp 3) rfl ga 0 rfl (cellsM m p) _ (fun W hW => range_below HT13.out.1.whole hW) Try.underlying50 rfl (by kernel_rfl) ?_
        refine wpq_hide (fun K hK => ?_)
        go_simp
        refine hK _ ?_
        clear hK K
        refine qc_call2 rfl 29 (by kernel_rfl) (.tmp 119) (.tmp 120) #[50, 50] rfl (valM m ql) (valM m p) rfl rfl (.bool true) (fun W hW => ?_) ?_
        · refine (alike_any m m ql p W hwf hwf (hml13.below hW) (HT13.out.2.2.1.below hW)).mono ?_
          rintro e W' ⟨b3, rfl, h3, h4⟩
          refine ⟨?_, hW.trans (h4.mono hW.size)⟩
          rw [show b3 = true from h3.2 rfl]
        refine wpq_hide (fun K hK => ?_)
        go_simp
        refine hK _ ?_
        clear hK K
        refine qc_move rfl (.tmp 121) (.inr rfl) ?_
        refine wpq_hide (fun K hK => ?_)
        go_simp
        refine hK _ ?_
        clear hK K
        refine wpQuiet_nil ?_
        intro w14 hb14
        have HI14 := Lib.hid (HI13.out.below hb14)
        have HB14 := Lib.hid (HB13.out.trans (hb14.mono HB13.out.size))
        have HIU : Hid (∀ k, SB (some ⟨gi, 0, none⟩) n1 k → k < w14.heap.size) := Lib.hid (fun k hk => (HI14.out.rng hk).2)
        clear hb14 HI13 HB13 HT13 hml13 hg0 HG HS10
        have hrd14 := HO4.out.below HB14.out
        have HT14 := Lib.hid (HT4.out.below HB14.out)
        go_wp2_with fail
        refine (copied_n a1 c1 n1 L1 w14 HN1.out.symm (by omega) hrd14).mono ?_
        rintro e w15 ⟨a15, c15, rfl, hown15, hb15⟩
        have HG15 := Lib.hid (ORow.of_own hown15 HN1.out.symm)
        have HGU : Hid (∀ k, SB a15 n1 k → k < w15.heap.size) := Lib.hid (fun k hk => (HG15.out.rng hk).2)
        have HT15 := Lib.hid (HT14.out.below hb15)
        have HI15 := Lib.hid (HI14.out.below hb15)
        have HB15 := Lib.hid (HB14.out.trans (hb15.mono HB14.out.size))
        have HS15 := Lib.hid (⟨HB14.out.size, hb15.size⟩ : w4.heap.size ≤ w14.heap.size ∧ w14.heap.size ≤ w15.heap.size)
        obtain ⟨ni, hni⟩ : ∃ n, n = m.image.length := ⟨_, rfl⟩
        have hil := hwf.il
        rw [← hni] at hil
        have cb : w15.cell? ⟨ga, 30, none⟩ = some (.slice p.ai ni p.ci) := by rw [hni]; exact HT15.out.1.cell 30 (by rw [cellsM_len]; omega)
        have HNI := Lib.hid hni
        clear hrd14 HT14 HI14 HB14 hown15 hb15 hni
        have him := HT15.out.2.2.1.2.2.2
        go_wp2_with fail
        refine (copied_n p.ai p.ci ni m.image w15 HNI.out.symm (by omega) him).mono ?_
        rintro e w16 ⟨a16, c16, rfl, hown16, hb16⟩
        have HM16 := Lib.hid (ORow.of_own hown16 HNI.out.symm)
        have HMU : Hid (∀ k, SB a16 ni k → k < w16.heap.size) := Lib.hid (fun k hk => (HM16.out.rng hk).2)
        have HG16 := Lib.hid (HG15.out.below hb16)
        have HT16 := Lib.hid (HT15.out.below hb16)
        have HI16 := Lib.hid (HI15.out.below hb16)
        have HB16 := Lib.hid (HB15.out.trans (hb16.mono HB15.out.size))
        have HS16 := Lib.hid (⟨HS15.out, hb16.size⟩ : (w4.heap.size ≤ w14.heap.size ∧ w14.heap.size ≤ w15.heap.size) ∧ w15.heap.size ≤ w16.heap.size)
        clear him cb HG15 HT15 HI15 HB15 HS15 hown16 hb16
        obtain ⟨hkk, hkb, hth⟩ := new_msg w16 m p
        obtain ⟨w17, hw17⟩ : ∃ wb, wb = (w16.alloc (.cells cellsZ.toArray 50)).setCells w16.heap.size 0 (cellsM m p) := ⟨_, rfl⟩
        rw [← hw17] at hkk hkb
        unfold cellsZ at hth hw17
        have HW17 := Lib.hid hw17
        clear hw17
        go_upto_region 26 with (first | ((with_reducible refine at_dst 129 ?_); refine wpList_load_midg rfl 50 (.tmp 3) rfl ga 0 rfl (cellsM m p) _ HT16.out.1.whole Try.underlying50 rfl (by kernel_rfl) ?_) | ((with_reducible refine at_store ?_); refine wpList_store_mid rfl 50 _ _ rfl w16.heap.size 0 (cellsM m p).toArray rfl rfl hth (by kernel_rfl) (by kernel_rfl) ?_; rw [← HW17.out]) | fail)
        obtain ⟨gY, hgY⟩ : ∃ g, g = w16.heap.size := ⟨_, rfl⟩
        rw [← hgY] at hkk ⊢
        have fY := hkk.frozen 30
        obtain ⟨cY, hcY⟩ : ∃ x, w17.cell? ⟨gY, 30, none⟩ = some x := ⟨_, hkk.cell 30 (by rw [cellsM_len]; omega)⟩
        have hset := hkk.setCell 30 (.slice a16 ni c16)
        have hset1 := hset.1
        rw [HNI.out, show (cellsM m p).set 30 (.slice a16 m.image.length c16) = cellsM m { p with ai := a16, ci := c16 } from img_set (m := m) (q := p) m.image rfl a16 c16, ← HNI.out] at hset1
        have hb18 : Below w16.heap.size w16 (w17.setCell ⟨gY, 30, none⟩ (.slice a16 ni c16)) := ((Offs.refl (fun k => w16.heap.size ≤ k) w16).below hkb |>.grown hset.2 (fun k hk => by cases hk; exact .inl (by omega))).toBelow (fun k hk => hk) (Nat.le_refl _)
        obtain ⟨w18, hw18⟩ : ∃ x, x = w17.setCell ⟨gY, 30, none⟩ (.slice a16 ni c16) := ⟨_, rfl⟩
        rw [← hw18] at hset1 hb18
        have HW18 := Lib.hid hw18
        obtain ⟨p', hp'⟩ : ∃ x : Ps, x = { p with ai := a16, ci := c16 } := ⟨_, rfl⟩
        rw [← hp'] at hset1
        have HP' := Lib.hid hp'
        have HKY18 := Lib.hid hset1
        have HM18 := Lib.hid (HM16.out.below hb18)
        have HG18 := Lib.hid (HG16.out.below hb18)
        have HT18 := Lib.hid (HT16.out.below hb18)
        have HI18 := Lib.hid (HI16.out.below hb18)
        have HB18 := Lib.hid (HB16.out.trans (hb18.mono HB16.out.size))
        have HS18 := Lib.hid (⟨HS16.out, hgY, hset1.lt, hb18.size⟩ : ((w4.heap.size ≤ w14.heap.size ∧ w14.heap.size ≤ w15.heap.size) ∧ w15.heap.size ≤ w16.heap.size) ∧ gY = w16.heap.size ∧ gY < w18.heap.size ∧ w16.heap.size ≤ w18.heap.size)
        have HR18 : Hid (MRd w18 m p') := Lib.hid (by rw [hp']; exact ⟨HT18.out.2.2.1.1, HT18.out.2.2.1.2.1, HT18.out.2.2.1.2.2.1, HM18.out.rd⟩)
        have HEA : Hid (encA m = (L1, 0)) := Lib.hid (by rw [HL1.out]; unfold encA; rw [if_pos HK.out.2.1, if_pos HK.out.2.2])
        clear hkk hkb hth HW17 hgY hset hset1 hb18 hw18 hp' HM16 HG16 HT16 HI16 HB16 HS16
        go_upto_region 27 with fail
        rw [← HW18.out]
        clear HW18 fY hcY
        go_wp2_with (first | ((with_reducible refine at_dst 133 ?_); refine wpList_load_midg rfl 50 (.tmp 25) rfl gY 0 rfl (cellsM m p') _ HKY18.out.whole Try.underlying50 rfl (by kernel_rfl) ?_) | fail)
        refine (encode_any m p' w18 hwf HR18.out).mono ?_
        rintro e w19 ⟨a19, c19, rfl, hown19, hb19⟩
        rw [HEA.out] at hown19 ⊢
        dsimp only at hown19 ⊢
        rw [← HN1.out] at hown19 ⊢
        have HC19 := Lib.hid (ORow.of_own hown19 HN1.out.symm)
        have HCU : Hid (∀ k, SB a19 n1 k → k < w19.heap.size) := Lib.hid (fun k hk => (HC19.out.rng hk).2)
        have HKY19 := Lib.hid (HKY18.out.below hb19)
        have HR19 := Lib.hid (HR18.out.below hb19)
        have HM19 := Lib.hid (HM18.out.below hb19)
        have HG19 := Lib.hid (HG18.out.below hb19)
        have HT19 := Lib.hid (HT18.out.below hb19)
        have HI19 := Lib.hid (HI18.out.below hb19)
        have HB19 := Lib.hid (HB18.out.trans (hb19.mono HB18.out.size))
        have HS19 := Lib.hid (⟨HS18.out, hb19.size⟩ : (((w4.heap.size ≤ w14.heap.size ∧ w14.heap.size ≤ w15.heap.size) ∧ w15.heap.size ≤ w16.heap.size) ∧ gY = w16.heap.size ∧ gY < w18.heap.size ∧ w16.heap.size ≤ w18.heap.size) ∧ w18.heap.size ≤ w19.heap.size)
        clear hown19 hb19 HKY18 HR18 HM18 HG18 HT18 HI18 HB18 HS18
        go_wp2_with (first | ((with_reducible refine at_dst 138 ?_); refine wpList_load_midg rfl 50 (.tmp 25) rfl gY 0 rfl (cellsM m p') _ HKY19.out.whole Try.underlying50 rfl (by kernel_rfl) ?_) | fail)
        refine (encode_any m p' w19 hwf HR19.out).mono ?_
        rintro e w20 ⟨a20, c20, rfl, hown20, hb20⟩
        rw [HEA.out] at hown20 ⊢
        dsimp only at hown20 ⊢
        rw [← HN1.out] at hown20 ⊢
        have HD20 := Lib.hid (ORow.of_own hown20 HN1.out.symm)
        have HC20 := Lib.hid (HC19.out.below hb20)
        have HKY20 := Lib.hid (HKY19.out.below hb20)
        have HM20 := Lib.hid (HM19.out.below hb20)
        have HG20 := Lib.hid (HG19.out.below hb20)
        have HT20 := Lib.hid (HT19.out.below hb20)
        have HI20 := Lib.hid (HI19.out.below hb20)
        have HB20 := Lib.hid (HB19.out.trans (hb20.mono HB19.out.size))
        have HS20 := Lib.hid (⟨HS19.out, hb20.size⟩ : ((((w4.heap.size ≤ w14.heap.size ∧ w14.heap.size ≤ w15.heap.size) ∧ w15.heap.size ≤ w16.heap.size) ∧ gY = w16.heap.size ∧ gY < w18.heap.size ∧ w16.heap.size ≤ w18.heap.size) ∧ w18.heap.size ≤ w19.heap.size) ∧ w19.heap.size ≤ w20.heap.size)
        clear hown20 hb20 HC19 HKY19 HR19 HM19 HG19 HT19 HI19 HB19 HS19
        go_wp2_with fail
        obtain ⟨W1, hW1⟩ : ∃ x, x = w20 := ⟨_, rfl⟩
        rw [← hW1] at HD20 HC20 HKY20 HM20 HG20 HT20 HI20 HB20 HS20 ⊢
        clear hW1
        go_loopw [30] (fun i wr => ∃ (j : Nat) (L' : List UInt8), i = .int .i64 (j : Int) ∧ j ≤ ni ∧ ORow w15.heap.size wr a16 ni L' ∧ Offs (SB a16 ni) W1 wr) (fun i _ => ni - (intOf i).toNat)
        case atStart => exact ⟨0, m.image, rfl, Nat.zero_le _, HM20.out, Offs.refl _ _⟩
        case round =>
          obtain ⟨j, LI, rfl, hj, hI, hof⟩ := hrel
          by_cases hlt : j < ni
          · have hlt' : (j : Int) < ni := by omega
            have hj0 : 0 ≤ (j : Int) := by omega
            obtain ⟨g', x, rfl, cj, x0, x1, xu, fj, hput⟩ := hI.open j hlt
            have hs := hput _ (wrap_u8_rng (x + 1)).1 (wrap_u8_rng (x + 1)).2
            have HREL : Hid (∃ (j' : Nat) (L' : List UInt8), Value.int .i64 ((j : Int) + 1) = .int .i64 (j' : Int) ∧ j' ≤ ni ∧ ORow w15.heap.size (wr.setCell ⟨g', j, none⟩ (.int .u8 (IntKind.u8.wrap (x + 1)))) (some ⟨g', 0, none⟩) ni L' ∧ Offs (SB (some ⟨g', 0, none⟩) ni) W1 (wr.setCell ⟨g', j, none⟩ (.int .u8 (IntKind.u8.wrap (x + 1))))) :=
              Lib.hid ⟨j + 1, _, rfl, hlt, hs.1, hof.grown hs.2 (fun k hk => by cases hk; exact .inl (SB.mk' rfl hlt))⟩
            have HME := Lib.hid (meas_lt hlt)
            clear hI hof hput hs x0 x1 xu
            go_wp2
            go_roundw
            case rel => exact HREL.out
            case measure => exact HME.out
          · have hlt' : ¬ (j : Int) < ni := by omega
            obtain ⟨w21, hw21⟩ : ∃ x, x = wr := ⟨_, rfl⟩
            subst hw21
            have HOF := Lib.hid hof
            have HM21 := Lib.hid hI
            have HSA := Lib.hid (⟨⟨HS20.out.1.1.1.1.1, HS20.out.1.1.1.1.2⟩, HS20.out.1.1.1.2, HS20.out.1.1.2.1, HS20.out.1.1.2.2.1, HS20.out.1.1.2.2.2, HS20.out.1.2, HS20.out.2⟩ : (w4.heap.size ≤ w14.heap.size ∧ w14.heap.size ≤ w15.heap.size) ∧ w15.heap.size ≤ w16.heap.size ∧ gY = w16.heap.size ∧ gY < w18.heap.size ∧ w16.heap.size ≤ w18.heap.size ∧ w18.heap.size ≤ w19.heap.size ∧ w19.heap.size ≤ W1.heap.size)
            have HD21 := Lib.hid (HD20.out.offs hof (fun k hk hs => by
              have h1 := (HD20.out.rng hk).1
              have h2 := HMU.out k hs
              have h3 := HSA.out
              omega))
            clear hI hof hj HS20
            go_wp2_with fail
            obtain ⟨W2, hW2⟩ : ∃ x, x = w21 := ⟨_, rfl⟩
            rw [← hW2] at HD21 HOF HM21 ⊢
            clear hW2
            go_loopw [31] (fun i wr => ∃ (j : Nat) (L' : List UInt8), i = .int .i64 (j : Int) ∧ j ≤ n1 ∧ ORow w19.heap.size wr a20 n1 L' ∧ Offs (SB a20 n1) W2 wr) (fun i _ => n1 - (intOf i).toNat)
            case atStart => exact ⟨0, L1, rfl, Nat.zero_le _, HD21.out, Offs.refl _ _⟩
            case round =>
              obtain ⟨j3, LD, rfl, hj3, hI, hof⟩ := hrel
              by_cases hlt : j3 < n1
              · have hlt' : (j3 : Int) < n1 := by omega
                have hj0 : 0 ≤ (j3 : Int) := by omega
                obtain ⟨g', x, rfl, cj, x0, x1, xu, fj, hput⟩ := hI.open j3 hlt
                have hs := hput _ (bits_u8 x 85).1 (bits_u8 x 85).2
                have HREL : Hid (∃ (j' : Nat) (L' : List UInt8), Value.int .i64 ((j3 : Int) + 1) = .int .i64 (j' : Int) ∧ j' ≤ n1 ∧ ORow w19.heap.size (wr.setCell ⟨g', j3, none⟩ (.int .u8 (bits .xor .u8 x 85))) (some ⟨g', 0, none⟩) n1 L' ∧ Offs (SB (some ⟨g', 0, none⟩) n1) W2 (wr.setCell ⟨g', j3, none⟩ (.int .u8 (bits .xor .u8 x 85)))) :=
                  Lib.hid ⟨j3 + 1, _, rfl, hlt, hs.1, hof.grown hs.2 (fun k hk => by cases hk; exact .inl (SB.mk' rfl hlt))⟩
                have HME := Lib.hid (meas_lt hlt)
                clear hI hof hput hs x0 x1 xu
                go_wp2
                go_roundw
                case rel => exact HREL.out
                case measure => exact HME.out
              · have hlt' : ¬ (j3 : Int) < n1 := by omega
                obtain ⟨w22, hw22⟩ : ∃ x, x = wr := ⟨_, rfl⟩
                subst hw22
                have hmlo : ∀ k, SB a16 ni k → w15.heap.size ≤ k := fun k hk => (HM20.out.rng hk).1
                have hdlo : ∀ k, SB a20 n1 k → w19.heap.size ≤ k := fun k hk => (HD20.out.rng hk).1
                have hall : Offs (fun k => SB a16 ni k ∨ SB a20 n1 k) W1 w22 := (HOF.out.mono (fun k hk => .inl hk)).trans (hof.mono (fun k hk => .inr hk))
                have hb22 : Below w4.heap.size w4 w22 := HB20.out.trans (hall.toBelow (fun k hk => by
                  have h3 := HSA.out
                  rcases hk with hk | hk
                  · have := hmlo k hk; omega
                  · have := hdlo k hk; omega) HB20.out.size)
                have hg22 := HG20.out.offs hall (fun k hk hs => by
                  have h3 := HSA.out
                  have h1 := HGU.out k hk
                  rcases hs with hs | hs
                  · have := hmlo k hs; omega
                  · have := hdlo k hs; omega)
                have hi22 := HI20.out.offs hall (fun k hk hs => by
                  have h3 := HSA.out
                  have h1 := HIU.out k hk
                  rcases hs with hs | hs
                  · have := hmlo k hs; omega
                  · have := hdlo k hs; omega)
                have hc22 := HC20.out.offs hall (fun k hk hs => by
                  have h3 := HSA.out
                  have h1 := HCU.out k hk
                  have h2 := (HC20.out.rng hk).1
                  rcases hs with hs | hs
                  · have := HMU.out k hs; omega
                  · have := hdlo k hs; omega)
                have hky22 := hall.blk HKY20.out (fun hs => by
                  have h3 := HSA.out
                  rcases hs with hs | hs
                  · have := HMU.out _ hs; omega
                  · have := hdlo _ hs; omega)
                have hm22 := HM21.out.offs hof (fun k hk hs => by
                  have h3 := HSA.out
                  have h1 := HMU.out k hk
                  have := hdlo k hs
                  omega)
                have hlen : LI.length = m.image.length := hm22.1.trans HNI.out
                have hwf' := wfImg hwf LI hlen
                have hmr22 : MRd w22 { m with image := LI } p' := by
                  have ht := HT4.out.below hb22
                  rw [HP'.out]
                  exact ⟨ht.2.2.1.1, ht.2.2.1.2.1, ht.2.2.1.2.2.1, hm22.rd⟩
                have hcel : cellsM m p' = cellsM { m with image := LI } p' := by unfold cellsM; rw [← hlen]
                rw [hcel] at hky22
                obtain ⟨m', hm'⟩ : ∃ x : M, x = { m with image := LI } := ⟨_, rfl⟩
                rw [← hm'] at hky22 hmr22 hwf'
                have HG22 := Lib.hid hg22
                have HI22 := Lib.hid hi22
                have HC22 := Lib.hid hc22
                have HKY22 := Lib.hid hky22
                have HMR22 := Lib.hid hmr22
                have HB22 := Lib.hid hb22
                clear hmlo hdlo hall hg22 hi22 hc22 hky22 hmr22 hm22 hb22 hlen hcel hm' hI hof hj3 HOF HM21 HSA HD21 HD20 HC20 HKY20 HM20 HG20 HT20 HI20 HB20 HIU HGU HMU HCU
                go_wp2_with fail
                refine (same_n a19 a15 c19 c15 n1 n1 L1 L1 w22 HN1.out.symm HN1.out.symm (by omega) HC22.out.rd HG22.out.rd).mono ?_
                rintro e w23 ⟨rfl, hb23⟩
                rw [beq_self_eq_true]
                have HI23 := Lib.hid (HI22.out.below hb23)
                have HKY23 := Lib.hid (HKY22.out.below hb23)
                have HMR23 := Lib.hid (HMR22.out.below hb23)
                have HB23 := Lib.hid (HB22.out.trans (hb23.mono HB22.out.size))
                clear hb23 HI22 HKY22 HMR22 HB22 HG22 HC22
                have hl2 := encA_len m'
                obtain ⟨n2, hn2⟩ : ∃ n, n = (encA m').1.length := ⟨_, rfl⟩
                obtain ⟨L2, hL2⟩ : ∃ L, L = (encA m').1 := ⟨_, rfl⟩
                obtain ⟨e2, he2⟩ : ∃ L, L = (encA m').2 := ⟨_, rfl⟩
                rw [← hn2] at hl2
                go_wp2_with (first | ((with_reducible refine at_dst 176 ?_); refine wpList_load_midg rfl 50 (.tmp 25) rfl gY 0 rfl (cellsM m' p') _ HKY23.out.whole Try.underlying50 rfl (by kernel_rfl) ?_) | fail)
                refine (encode_any m' p' w23 hwf' HMR23.out).mono ?_
                rintro e w24 ⟨a24, c24, rfl, hown24, hb24⟩
                rw [← hn2, ← hL2] at hown24
                rw [← hn2, ← he2]
                have HP24 := Lib.hid (ownsRow_rd hown24)
                have HI24 := Lib.hid (HI23.out.below hb24)
                have HKY24 := Lib.hid (HKY23.out.below hb24)
                have HMR24 := Lib.hid (HMR23.out.below hb24)
                have HB24 := Lib.hid (HB23.out.trans (hb24.mono HB23.out.size))
                have HN2 := Lib.hid hn2
                have HL2 := Lib.hid hL2
                have HE2 := Lib.hid he2
                clear hown24 hb24 HI23 HKY23 HMR23 HB23 hn2 hL2 he2
                go_wp2_with (first | ((with_reducible refine at_dst 181 ?_); refine wpList_load_midg rfl 50 (.tmp 25) rfl gY 0 rfl (cellsM m' p') _ HKY24.out.whole Try.underlying50 rfl (by kernel_rfl) ?_) | fail)
                refine (rencode_any m' p' w24 hwf' HMR24.out).mono ?_
                rintro e w25 ⟨a25, c25, rfl, hown25, hb25⟩
                rw [← HN2.out, ← HL2.out] at hown25
                rw [← HN2.out, ← HE2.out]
                have HQ25 := Lib.hid (ownsRow_rd hown25)
                have HP25 := Lib.hid (HP24.out.below hb25)
                have HI25 := Lib.hid (HI24.out.below hb25)
                have HB25 := Lib.hid (HB24.out.trans (hb25.mono HB24.out.size))
                clear hown25 hb25 HI24 HKY24 HMR24 HB24 HP24
                have hi25 := HI25.out.rd
                go_wp2_with fail
                refine (decode_any (some ⟨gi, 0, none⟩) n1 c5 L w25 HI25.out.1 (by omega) hcap5 hi25).mono ?_
                rintro e w26 ⟨x6, q6, n6, e6, rfl, hR6, hown6, hb26⟩
                have HR6 := Lib.hid hR6
                have HX26 := Lib.hid hown6.rd
                have HQ26 := Lib.hid (HQ25.out.below hb26)
                have HP26 := Lib.hid (HP25.out.below hb26)
                have HI26 := Lib.hid (HI25.out.below hb26)
                have HB26 := Lib.hid (HB25.out.trans (hb26.mono HB25.out.size))
                clear hi25 hR6 hown6 hb26 HQ25 HP25 HI25 HB25
                obtain ⟨hkk, hkb, hth⟩ := new_msg w26 x6 q6
                obtain ⟨w27, hw27⟩ : ∃ wb, wb = (w26.alloc (.cells cellsZ.toArray 50)).setCells w26.heap.size 0 (cellsM x6 q6) := ⟨_, rfl⟩
                rw [← hw27] at hkk hkb
                unfold cellsZ at hth hw27
                have HW27 := Lib.hid hw27
                clear hw27
                go_upto_region 43 with (first | ((with_reducible refine at_store ?_); refine wpList_store_mid rfl 50 _ _ rfl w26.heap.size 0 (cellsM x6 q6).toArray rfl rfl hth (by kernel_rfl) (by kernel_rfl) ?_; rw [← HW27.out]) | fail)
                obtain ⟨gU, hgU⟩ : ∃ g, g = w26.heap.size := ⟨_, rfl⟩
                rw [← hgU] at hkk ⊢
                have HKU27 := Lib.hid hkk
                have HX27 := Lib.hid (HX26.out.below hkb)
                have HQ27 := Lib.hid (HQ26.out.below hkb)
                have HP27 := Lib.hid (HP26.out.below hkb)
                have HI27 := Lib.hid (HI26.out.below hkb)
                have HB27 := Lib.hid (HB26.out.trans (hkb.mono HB26.out.size))
                clear hkk hkb hth HW27 hgU HX26 HQ26 HP26 HI26 HB26
                have hi27 := HI27.out.rd
                go_wp2_with fail
                refine (rdecode_any (some ⟨gi, 0, none⟩) n1 c5 L w27 HI27.out.1 (by omega) hcap5 hi27).mono ?_
                rintro e w28 ⟨x8, q8, n8, e8, rfl, hR8, hown8, hb28⟩
                obtain ⟨rfl, rfl, rfl⟩ := dec_det HR6.out hR8
                have HY28 := Lib.hid hown8.rd
                have HKU28 := Lib.hid (HKU27.out.below hb28)
                have HX28 := Lib.hid (HX27.out.below hb28)
                have HQ28 := Lib.hid (HQ27.out.below hb28)
                have HP28 := Lib.hid (HP27.out.below hb28)
                have HB28 := Lib.hid (HB27.out.trans (hb28.mono HB27.out.size))
                clear hi27 hR8 hown8 hb28 HKU27 HX27 HQ27 HP27 HI27 HB27
                obtain ⟨hkk, hkb, hth⟩ := new_msg w28 x6 q8
                obtain ⟨w29, hw29⟩ : ∃ wb, wb = (w28.alloc (.cells cellsZ.toArray 50)).setCells w28.heap.size 0 (cellsM x6 q8) := ⟨_, rfl⟩
                rw [← hw29] at hkk hkb
                unfold cellsZ at hth hw29
                have HW29 := Lib.hid hw29
                clear hw29
                go_upto_region 44 with (first | ((with_reducible refine at_store ?_); refine wpList_store_mid rfl 50 _ _ rfl w28.heap.size 0 (cellsM x6 q8).toArray rfl rfl hth (by kernel_rfl) (by kernel_rfl) ?_; rw [← HW29.out]) | fail)
                obtain ⟨gV, hgV⟩ : ∃ g, g = w28.heap.size := ⟨_, rfl⟩
                rw [← hgV] at hkk ⊢
                have HKV29 := Lib.hid hkk
                have HKU29 := Lib.hid (HKU28.out.below hkb)
                have HX29 := Lib.hid (HX28.out.below hkb)
                have HY29 := Lib.hid (HY28.out.below hkb)
                have HQ29 := Lib.hid (HQ28.out.below hkb)
                have HP29 := Lib.hid (HP28.out.below hkb)
                have HB29 := Lib.hid (HB28.out.trans (hkb.mono HB28.out.size))
                clear hkk hkb hth HW29 hgV HKU28 HX28 HY28 HQ28 HP28 HB28
                have HLN2 : Hid (L2.length = n2) := Lib.hid (by rw [HL2.out, HN2.out])
                go_wp2_with fail
                refine (same_n a24 a25 c24 c25 n2 n2 L2 L2 w29 HLN2.out HLN2.out (by omega) HP29.out HQ29.out).mono ?_
                rintro e w30 ⟨rfl, hb30⟩
                rw [beq_self_eq_true]
                have HKV30 := Lib.hid (HKV29.out.below hb30)
                have HKU30 := Lib.hid (HKU29.out.below hb30)
                have HX30 := Lib.hid (HX29.out.below hb30)
                have HY30 := Lib.hid (HY29.out.below hb30)
                have HB30 := Lib.hid (HB29.out.trans (hb30.mono HB29.out.size))
                clear hb30 HKV29 HKU29 HX29 HY29 HQ29 HP29 HB29
                have hwx := dec_wf HR6.out
                go_wp2_with (first | ((with_reducible refine at_dst 200 ?_); refine wpList_load_midg rfl 50 (.tmp 37) rfl gU 0 rfl (cellsM x6 q6) _ HKU30.out.whole Try.underlying50 rfl (by kernel_rfl) ?_) | ((with_reducible refine at_dst 201 ?_); refine wpList_load_midg rfl 50 (.tmp 40) rfl gV 0 rfl (cellsM x6 q8) _ HKV30.out.whole Try.underlying50 rfl (by kernel_rfl) ?_) | fail)
                refine (alike_any x6 x6 q6 q8 w30 hwx hwx HX30.out HY30.out).mono ?_
                rintro e w31 ⟨b31, rfl, hb31, hbe31⟩
                obtain rfl : b31 = true := hb31.2 rfl
                have HB31 := Lib.hid (HB30.out.trans (hbe31.mono HB30.out.size))
                have HW : Hid (Below w.heap.size w w31) := Lib.hid (HT4.out.2.2.2.2.trans (HB31.out.mono HT4.out.2.2.2.2.size))
                clear hb31 hbe31 HKV30 HKU30 HX30 HY30 HB30 hwx
                have he20 : (e2 != e2) = false := by simp
                go_upto_region 48 with fail
                obtain ⟨wz, hwz⟩ : ∃ x, x = w31 := ⟨_, rfl⟩
                rw [← hwz] at HW ⊢
                have HWS : Hid (w.heap.size ≤ wz.heap.size) := Lib.hid HW.out.size
                clear hwz HB31 HR6 HLN2 HN2 HL2 HE2 hl2 HT4 HO4 HN1 HL1 HK hl1 hcap1 hcap5 h0' hn0 hlt' hil he20 hwf'
                obtain ⟨wa, hwa⟩ : ∃ x, x = wz.alloc (.cells (roomL.map B).toArray 5) := ⟨_, rfl⟩
                obtain ⟨gR, hgR⟩ : ∃ g, g = wz.heap.size := ⟨_, rfl⟩
                have hrm : Rd wa (some ⟨gR, 0, none⟩) (roomL.map B) := by rw [hwa, hgR]; exact lit_rd _ _ _
                have hba : Below wz.heap.size wz wa := by rw [hwa]; exact (Below.refl _ _).alloc (Nat.le_refl _) _
                have HWS : Hid (w.heap.size ≤ wa.heap.size) := Lib.hid (Nat.le_trans HWS.out hba.size)
                have hgl : gR < wa.heap.size := by rw [hwa, hgR, World.size_alloc]; omega
                have hwa' : wz.alloc (.cells #[.int .u8 1, .int .u8 2, .int .u8 3, .int .u8 4, .int .u8 5, .int .u8 6, .int .u8 7, .int .u8 8, .int .u8 9, .int .u8 10, .int .u8 11, .int .u8 12, .int .u8 13, .int .u8 14, .int .u8 15, .int .u8 16] 5) = wa := hwa.symm
                have HWA := Lib.hid hwa'
                have HRM := Lib.hid hrm
                have HA := Lib.hid (HW.out.trans (hba.mono HW.out.size))
                have HGR := Lib.hid hgR
                clear hrm hwa hwa' hba hgR HW
                go_upto_region 49 with fail
                rw [HWA.out, ← HGR.out]
                clear HWA HGR
                have hr2' : Rd wa (some ⟨gR, 0, none⟩) (([1, 2] : List UInt8).map B) := rd_take HRM.out 2
                go_wp2_with fail
                refine (putuint_any (some ⟨gR, 0, none⟩) 16 2 [1, 2] N wa rfl hN (by omega) hr2').mono ?_
                rintro e wb ⟨ab, cb, rfl, hownb, hbb⟩
                obtain ⟨nP, hnP⟩ : ∃ n, n = ([1, 2] : List UInt8).length + (bytesU N).length := ⟨_, rfl⟩
                have hp1 := bytesU_pos N
                rw [← hnP] at hownb ⊢
                have hp2 : 3 ≤ nP := by rw [hnP]; simp only [List.length_cons, List.length_nil]; omega
                have HPL : Hid (([1, 2] ++ bytesU N : List UInt8).length = nP) := Lib.hid (by rw [List.length_append, hnP])
                have HP := Lib.hid (ORow.of_own hownb HPL.out)
                have HPU : Hid (∀ k, SB ab nP k → wa.heap.size ≤ k ∧ k < wb.heap.size) := Lib.hid (fun k hk => HP.out.rng hk)
                have HRM1 := Lib.hid (HRM.out.below hbb)
                have HB1 := Lib.hid (HA.out.trans (hbb.mono HA.out.size))
                have HZ1 := Lib.hid hbb.size
                clear hr2' HRM hownb hbb HA hnP hp1
                have hr3' : Rd wb (some ⟨gR, 0, none⟩) (([1, 2, 3] : List UInt8).map B) := rd_take HRM1.out 3
                have hir : -9223372036854775808 ≤ wrap64 (N : Int) ∧ wrap64 (N : Int) ≤ 9223372036854775807 := by unfold wrap64; omega
                go_wp2_with fail
                refine (putint_any (some ⟨gR, 0, none⟩) 16 3 [1, 2, 3] (wrap64 (N : Int)) wb rfl hir (by omega) hr3').mono ?_
                rintro e wc ⟨ac, cc, rfl, hownc, hbc⟩
                obtain ⟨nQ, hnQ⟩ : ∃ n, n = ([1, 2, 3] : List UInt8).length + (bytesU (zig (wrap64 (N : Int)))).length := ⟨_, rfl⟩
                have hq1 := bytesU_pos (zig (wrap64 (N : Int)))
                rw [← hnQ] at hownc ⊢
                have hq2 : 4 ≤ nQ := by rw [hnQ]; simp only [List.length_cons, List.length_nil]; omega
                have HQL : Hid (([1, 2, 3] ++ bytesU (zig (wrap64 (N : Int))) : List UInt8).length = nQ) := Lib.hid (by rw [List.length_append, hnQ])
                have HQ := Lib.hid (ORow.of_own hownc HQL.out)
                have HP1 := Lib.hid (HP.out.below hbc)
                have HRM2 := Lib.hid (HRM1.out.below hbc)
                have HB2 := Lib.hid (HB1.out.trans (hbc.mono HB1.out.size))
                have HZ2 := Lib.hid hbc.size
                clear hr3' hir HRM1 hownc hbc HB1 hnQ hq1 HP
                have ip0 : (0 : Int) < (nP : Int) := by omega
                have iq0 : (0 : Int) < (nQ : Int) := by omega
                have ip1 : (1 : Int) < (nP : Int) := by omega
                have iq1 : (2 : Int) < (nQ : Int) := by omega
                have ip2 : (nP : Int) > 2 := by omega
                have iq2 : (nQ : Int) > 3 := by omega
                obtain ⟨gP, xp, hgP, cp, x0, x1, xu, fp, hput⟩ := HP1.out.open 0 (by omega)
                subst hgP
                clear x0 x1 xu
                have hs := hput 77 (by omega) (by omega)
                obtain ⟨wd, hwd⟩ : ∃ x, x = wc.setCell ⟨gP, 0, none⟩ (.int .u8 77) := ⟨_, rfl⟩
                rw [← hwd] at hs
                have HWD := Lib.hid hwd
                have hpr := HPU.out gP (SB.mk' rfl (show 0 < nP by omega))
                have ho1 : Offs (fun k => k = gP) wc wd := (Offs.refl _ _).grown hs.2 (fun k hk => by cases hk; exact .inl rfl)
                have HP3 := Lib.hid hs.1
                have HQ3 := Lib.hid (HQ.out.offs ho1 (fun k hk e => by have h1 := (HQ.out.rng hk).1; omega))
                have HRM3 := Lib.hid (ho1.rd HRM2.out (fun x hx e => by cases hx; dsimp only at e; omega))
                have HB3 := Lib.hid (HB2.out.trans (ho1.toBelow (b := w.heap.size) (fun k hk => by have h2 := HB2.out.size; have h3 := HWS.out; omega) HB2.out.size))
                have HPR := Lib.hid hpr
                clear hput hs hwd ho1 HP1 HQ HRM2 HB2 hpr
                go_upto_region 52 with fail
                rw [← HWD.out]
                clear HWD cp fp
                obtain ⟨gQ, xq, hgQ, cq, x0, x1, xu, fq, hput⟩ := HQ3.out.open 0 (by omega)
                subst hgQ
                clear x0 x1 xu
                have hs := hput 78 (by omega) (by omega)
                obtain ⟨we, hwe⟩ : ∃ x, x = wd.setCell ⟨gQ, 0, none⟩ (.int .u8 78) := ⟨_, rfl⟩
                rw [← hwe] at hs
                have HWE := Lib.hid hwe
                have hqr := (HQ3.out.rng (SB.mk' rfl (show 0 < nQ by omega))).1
                have ho1 : Offs (fun k => k = gQ) wd we := (Offs.refl _ _).grown hs.2 (fun k hk => by cases hk; exact .inl rfl)
                have HQ4 := Lib.hid hs.1
                have HP4 := Lib.hid (HP3.out.offs ho1 (fun k hk e => by have h1 := HPU.out k hk; omega))
                have HRM4 := Lib.hid (ho1.rd HRM3.out (fun x hx e => by cases hx; dsimp only at e; have h1 := HZ1.out; omega))
                have HB4 := Lib.hid (HB3.out.trans (ho1.toBelow (b := w.heap.size) (fun k hk => by have h1 := HZ1.out; have h3 := HWS.out; omega) HB3.out.size))
                clear hput hs hwe ho1 HP3 HQ3 HRM3 HB3 hqr
                go_upto_region 53 with fail
                rw [← HWE.out]
                clear HWE cq fq
                go_wp2_with fail
                obtain ⟨W3, hW3⟩ : ∃ x, x = we := ⟨_, rfl⟩
                rw [← hW3] at HP4 HQ4 HRM4 HB4 ⊢
                clear hW3
                go_loopw [48] (fun i wr => ∃ (j : Nat), i = .int .i64 (j : Int) ∧ j ≤ 16 ∧ wr = W3) (fun i _ => 16 - (intOf i).toNat)
                case atStart => exact ⟨0, rfl, Nat.zero_le _, rfl⟩
                case round =>
                  obtain ⟨j, rfl, hj, hwr⟩ := hrel
                  subst wr
                  by_cases hlt : j < 16
                  · have hlt' : (j : Int) < 16 := by omega
                    have hj0 : 0 ≤ (j : Int) := by omega
                    have cj := room_cell HRM4.out j hlt
                    have hw1 : wrap64 ((j : Int) + 1) = (j : Int) + 1 := by unfold wrap64; omega
                    have HME := Lib.hid (meas_lt hlt)
                    have HREL : Hid (∃ (j' : Nat), Value.int .i64 ((j : Int) + 1) = .int .i64 (j' : Int) ∧ j' ≤ 16 ∧ True) := Lib.hid ⟨j + 1, rfl, hlt, trivial⟩
                    have hne : ((j : Int) + 1 != (j : Int) + 1) = false := by simp
                    have HW1 : Hid (wrap64 ((j : Int) + 1) = (j : Int) + 1) := Lib.hid hw1
                    go_wp2
                    go_roundw
                    case rel => first | exact HREL.out | (rw [HW1.out]; exact HREL.out)
                    case measure => first | exact HME.out | (rw [HW1.out]; exact HME.out)
                  · have hlt' : ¬ (j : Int) < 16 := by omega
                    obtain ⟨gP', y1, hg1, cy1, z0, z1, hy1, z2, z3⟩ := HP4.out.open 1 (by omega)
                    cases hg1
                    obtain rfl : y1 = 2 := hy1 2 (by rw [List.getElem?_set_ne (by omega)]; rfl)
                    obtain ⟨gQ', y2, hg2, cy2, z4, z5, hy2, z6, z7⟩ := HQ4.out.open 2 (by omega)
                    cases hg2
                    obtain rfl : y2 = 3 := hy2 3 (by rw [List.getElem?_set_ne (by omega)]; rfl)
                    have hfin := HB4.out
                    clear hy1 hy2 z0 z1 z2 z3 z4 z5 z6 z7
                    go_wp2
                    go_ret
                    exact ⟨rfl, hfin⟩
#print axioms fresh_walk
end Go.Proofs.Ytaipnbpefdcejaa
