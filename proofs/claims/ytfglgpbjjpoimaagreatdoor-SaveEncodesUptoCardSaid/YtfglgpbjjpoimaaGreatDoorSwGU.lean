/- SaveEncodes: the reference's body, Encode. -/
import Derived.Test.YtfglgpbjjpoimaaGreatDoorSwGT
import Derived.Deep.CutBlock
import Derived.Deep.CutRange
set_option linter.unusedVariables false
namespace Go.Proofs.YtfglgpbjjpoimaaGreatDoor
open Go.RowKit Sv
theorem flag_app (b : Bool) : closedB b = [if b then 1 else 0] := rfl
theorem ev_all {L : List Ty} {l : List Ev} (h : LOk L l l.length) : ∀ e ∈ l, EvOK L e := fun e he => by
 obtain ⟨i, hi, rfl⟩ := List.getElem_of_mem he
 exact h.1 i hi hi
set_option maxHeartbeats 4000000 in
set_option maxRecDepth 20000 in
theorem rbody_any (x : Stm) (tx : Str) (w : World) (hl : Ld w) (h : RdSt w x) (hb : StB x) (hok : StOK x) (htx : ansR fmtI x.q.q = some tx) : Calls Tryz.prog 17 #[.agg (stc x).toArray] w fun e w' => By (bodyL x tx) w e w' ∧ (bodyL x tx).length ≤ 46000000000000 := by
 obtain ⟨w0, hw0⟩ : ∃ w0, w0 = w.alloc (.cells (stc x).toArray 36) := ⟨_, rfl⟩
 have hE : Blk w0 w.heap.size 36 (stc x) := by rw [hw0]; exact Blk.new w _ 36
 have HB0 := Lib.hid (show Below w.heap.size w w0 by rw [hw0]; exact bal (Below.refl _ _) (Nat.le_refl _) _)
 have HL := Lib.hid (hl.below HB0.out)
 have HR := Lib.hid (h.below HB0.out)
 have HSB := Lib.hid hb
 have HSCH := Lib.hid (fun W (hW : Below w0.heap.size w0 W) => rPrintSchema_any x.ta x.tc x.types.length x.types W rfl (HL.out.below hW).kw (HR.out.below hW).types)
 have HPR := Lib.hid (fun W (hW : Below w0.heap.size w0 W) => rprint_any x.q W (HL.out.below hW) (HR.out.below hW).q hb.qb hb.qi)
 have HEH := Lib.hid (fun W (hW : Below w0.heap.size w0 W) => revents_any x.ta x.tc x.types.length x.types x.ha x.hc x.held.length x.held W rfl rfl hb.hl (HR.out.below hW).types (HR.out.below hW).held (ev_all hok.held) hb.hb)
 have HEK := Lib.hid (fun W (hW : Below w0.heap.size w0 W) => revents_any x.ta x.tc x.types.length x.types x.ka x.kc x.kept.length x.kept W rfl rfl hb.kl (HR.out.below hW).types (HR.out.below hW).kept (ev_all hok.kept) hb.kb)
 have HMTS := Lib.hid (fun W (hW : Below w0.heap.size w0 W) (k : Nat) (hk : k < x.waiting.length) => rmatch_any x.waiting[k] W ((HR.out.below hW).waiting.2 _ (List.getElem_mem hk)) (hb.wb _ (List.getElem_mem hk)))
 have HUSD := Lib.hid (fun W (k : Nat) (hk : k < x.used.length) => rname_any x.used[k] W (hb.ub _ (List.getElem_mem hk)))
 have hschl := schema_len hok.schema
 have HOK := Lib.hid hok
 have htxl := ans_len hok.query.1 hb.qi htx
 have HQT := Lib.hid htx
 have HEVL := Lib.hid (show ∀ l : List Ev, (∀ e ∈ l, EvB e) → l.length ≤ 1048576 → (byEvs (tys x.types) l).length ≤ 115343400 from fun l h1 h2 => by
  have h3 := flat_le (byEv (tys x.types)) 110 l (fun v hv => byEv_le (h1 v hv))
  have h4 := bytesU_len10 l.length (by omega)
  unfold byEvs
  rw [List.length_append]; omega)
 have HLH := Lib.hid (HEVL.out x.held hb.hb hb.hl)
 have HLK := Lib.hid (HEVL.out x.kept hb.kb hb.kl)
 have HLU := Lib.hid (byNames_le hb.ul hb.ub)
 have HLW := Lib.hid (show ∀ k, ((x.waiting.take k).flatMap fun y => byMt y.m).length ≤ k * 43000100 from fun k => by
  have h3 := flat_le (fun y : Mm => byMt y.m) 43000100 (x.waiting.take k) (fun v hv => byMt_le (hb.wb v (List.mem_of_mem_take hv)))
  have h4 := List.length_take_le k x.waiting
  exact Nat.le_trans h3 (Nat.mul_le_mul_right _ h4))
 have hwl := hb.wl
 have hul := hb.ul
 have hcapb := hok.cap
 have hmarkb := hb.mark
 obtain ⟨RES, hRES⟩ : ∃ R, R = bodyL x tx := ⟨_, rfl⟩
 rw [← hRES]
 have HRES := Lib.hid hRES
 clear hRES
 obtain ⟨types, ta, tc, ⟨items, ia, ic, mode, after, wher, wwa, wcap, within, by_, ret, ra, rc⟩, cap, mark, closed, held, ha, hc, kept, ka, kc, waiting, wa, wc', used, ua, uc⟩ := x
 dsimp only at hwl hul hcapb hmarkb HSCH HEH HEK hschl
 obtain ⟨nt, hnt⟩ : ∃ n, n = types.length := ⟨_, rfl⟩
 obtain ⟨ni, hni⟩ : ∃ n, n = items.length := ⟨_, rfl⟩
 obtain ⟨nwh, hnwh⟩ : ∃ n, n = wher.length := ⟨_, rfl⟩
 obtain ⟨nr, hnr⟩ : ∃ n, n = ret.length := ⟨_, rfl⟩
 obtain ⟨nh, hnh⟩ : ∃ n, n = held.length := ⟨_, rfl⟩
 obtain ⟨nk, hnk⟩ : ∃ n, n = kept.length := ⟨_, rfl⟩
 obtain ⟨nw, hnw⟩ : ∃ n, n = waiting.length := ⟨_, rfl⟩
 obtain ⟨nu, hnu⟩ : ∃ n, n = used.length := ⟨_, rfl⟩
 simp only [stc, qmc, T, ← hnt, ← hni, ← hnwh, ← hnr, ← hnh, ← hnk, ← hnw, ← hnu] at hE hw0 hwl hul HSCH HPR HEH HEK ⊢
 have HE := Lib.hid hE
 have HNT := Lib.hid hnt
 have HNW := Lib.hid hnw
 have HNU := Lib.hid hnu
 have s0 := hE.ci 0 rfl
 obtain ⟨hcp1, hcp2⟩ := hcapb
 obtain ⟨cp, rfl⟩ : ∃ cp : Nat, cap = cp := ⟨cap.toNat, by omega⟩
 clear hl h hb hok hE hnt hni hnwh hnr hnh hnk hnw hnu
 go_enter Tryz.func17, Tryz.ntmps17
 go_wp2_with fail
 rw [← hw0]
 clear hw0
 refine (HSCH.out w0 (Below.refl _ _)).mono ?_
 rintro e w1 ⟨r1, sc, rfl, _, hsc, hb1⟩
 have hscs := hsc HOK.out.schema
 have HBW := Lib.hid hb1
 have s1 := (HE.out.below HBW.out).ci 1 rfl
 have s2 := (HE.out.below HBW.out).ci 2 rfl
 have s3 := (HE.out.below HBW.out).ci 3 rfl
 have s4 := (HE.out.below HBW.out).ci 4 rfl
 have s5 := (HE.out.below HBW.out).ci 5 rfl
 have s6 := (HE.out.below HBW.out).ci 6 rfl
 have s7 := (HE.out.below HBW.out).ci 7 rfl
 have HSC := Lib.hid hscs
 have HSCL := Lib.hid (show sc.length ≤ 4000 by rw [hscs]; exact hschl)
 clear hsc hb1 s0 hscs
 go_wp2_with fail
 refine (HPR.out w1 HBW.out).mono ?_
 rintro e w2 ⟨r2, tx', rfl, hr2, htx2, hb2⟩
 have hteq : tx' = tx := by
  have h1 := htx2 (hr2.2 HOK.out.query)
  have h2 := HQT.out
  rw [h1] at h2
  exact Option.some.inj h2
 subst hteq
 have HBW := Lib.hid (HBW.out.trans (hb2.mono HBW.out.size))
 have HRT1 := Lib.hid (rtext_any sc w2 (by have := HSCL.out; omega))
 have HTXL := Lib.hid htxl
 clear hr2 htx2 hb2 s1 s2 s3 s4 s5 s6 s7
 simp only [T]
 go_wp2_with fail
 refine (HRT1.out).mono ?_
 rintro e w3 ⟨p0, k0, m0, hm0, rfl, ho0, hb3⟩
 have HO0 := Lib.hid (ownsRow_base ho0 (Nat.le_trans HB0.out.size HBW.out.size))
 have HBW := Lib.hid (HBW.out.trans (hb3.mono HBW.out.size))
 obtain ⟨L0, hL0⟩ : ∃ X, X = byText sc := ⟨_, rfl⟩
 have HM0 := Lib.hid (show L0.length = m0 by rw [hL0]; exact hm0)
 have HO0 := Lib.hid (show w3.ownsRow w.heap.size 5 1 (.slice p0 m0 k0) m0 (L0.map B) by rw [hL0]; exact HO0.out)
 have HMB0 := Lib.hid (show m0 ≤ 5000 by
  have := bytesU_len10 sc.length (by have := HSCL.out; omega)
  have := HSCL.out
  rw [← hm0]; unfold byText; rw [List.length_append]; omega)
 have HL0 := Lib.hid hL0
 clear hm0 ho0 hb3 hL0 HRT1
 go_wp2_with fail
 refine (rtext_any tx' _ (by have := HTXL.out; omega)).mono ?_
 rintro e wA0 ⟨y0, yk0, ym0, hym, rfl, hyo, hyb⟩
 have HYL0 := Lib.hid (show ym0 ≤ 60000 by rw [← hym]; have := HTXL.out; have := bytesU_len10 tx'.length (by omega); unfold byText; rw [List.length_append]; omega)
 have HJ0 := Lib.hid (rjoin_any p0 y0 k0 yk0 m0 ym0 L0 (byText tx') wA0 HM0.out hym (by have := HMB0.out; have := HYL0.out; omega) ((rd_len HO0.out).below hyb) (rd_len hyo))
 have HBA := Lib.hid (HBW.out.trans (hyb.mono HBW.out.size))
 have HYM0 := Lib.hid hym
 clear hym hyo hyb 
 go_wp2_with fail
 refine (HJ0.out).mono ?_
 rintro e wB0 ⟨p1, k1, m1, hm, rfl, ho, hb⟩
 have HBW := Lib.hid (HBA.out.trans (hb.mono HBA.out.size))
 obtain ⟨L1, hL⟩ : ∃ X, X = L0 ++ (byText tx') := ⟨_, rfl⟩
 have HM1 := Lib.hid (show L1.length = m1 by rw [hL]; exact hm)
 have HO1 := Lib.hid (show wB0.ownsRow w.heap.size 5 1 (.slice p1 m1 k1) m1 (L1.map B) by rw [hL]; exact ownsRow_base ho (Nat.le_trans HB0.out.size HBA.out.size))
 have HOZ1 := Lib.hid (show wB0.ownsRow w0.heap.size 5 1 (.slice p1 m1 k1) m1 (L1.map B) by rw [hL]; exact ownsRow_base ho HBA.out.size)
 have HMB1 := Lib.hid (show m1 ≤ 70000 by have h1 := HM0.out; have h2 := HMB0.out; have h3 := HYL0.out; have h4 := HYM0.out; rw [← hm, List.length_append]; omega)
 have HL1 := Lib.hid hL
 clear hm ho hb hL HJ0 HM0 HO0 HMB0 HYL0 HYM0
 have s8 := (HE.out.below HBW.out).ci 8 rfl
 go_wp2_with fail
 refine (rcount_any cp _ (by omega)).mono ?_
 rintro e wA1 ⟨y1, yk1, ym1, hym, rfl, hyo, hyb⟩
 have HYL1 := Lib.hid (show ym1 ≤ 10 by rw [← hym]; exact bytesU_len10 cp (by omega))
 have HJ1 := Lib.hid (rjoin_any p1 y1 k1 yk1 m1 ym1 L1 (bytesU cp) wA1 HM1.out hym (by have := HMB1.out; have := HYL1.out; omega) ((rd_len HO1.out).below hyb) (rd_len hyo))
 have HBA := Lib.hid (HBW.out.trans (hyb.mono HBW.out.size))
 have HYM1 := Lib.hid hym
 clear hym hyo hyb s8
 go_wp2_with fail
 refine (HJ1.out).mono ?_
 rintro e wB1 ⟨p2, k2, m2, hm, rfl, ho, hb⟩
 have HBW := Lib.hid (HBA.out.trans (hb.mono HBA.out.size))
 obtain ⟨L2, hL⟩ : ∃ X, X = L1 ++ (bytesU cp) := ⟨_, rfl⟩
 have HM2 := Lib.hid (show L2.length = m2 by rw [hL]; exact hm)
 have HO2 := Lib.hid (show wB1.ownsRow w.heap.size 5 1 (.slice p2 m2 k2) m2 (L2.map B) by rw [hL]; exact ownsRow_base ho (Nat.le_trans HB0.out.size HBA.out.size))
 have HOZ2 := Lib.hid (show wB1.ownsRow w0.heap.size 5 1 (.slice p2 m2 k2) m2 (L2.map B) by rw [hL]; exact ownsRow_base ho HBA.out.size)
 have HMB2 := Lib.hid (show m2 ≤ 71000 by have h1 := HM1.out; have h2 := HMB1.out; have h3 := HYL1.out; have h4 := HYM1.out; rw [← hm, List.length_append]; omega)
 have HL2 := Lib.hid hL
 clear hm ho hb hL HJ1 HM1 HO1 HMB1 HYL1 HYM1
 have s9 := (HE.out.below HBW.out).ci 9 rfl
 go_wp2_with fail
 refine (rnumber_any mark _ hmarkb).mono ?_
 rintro e wA2 ⟨y2, yk2, ym2, hym, rfl, hyo, hyb⟩
 have HYL2 := Lib.hid (show ym2 ≤ 10 by rw [← hym]; exact bytesI_le mark hmarkb)
 have HJ2 := Lib.hid (rjoin_any p2 y2 k2 yk2 m2 ym2 L2 (bytesU (zig mark)) wA2 HM2.out hym (by have := HMB2.out; have := HYL2.out; omega) ((rd_len HO2.out).below hyb) (rd_len hyo))
 have HBA := Lib.hid (HBW.out.trans (hyb.mono HBW.out.size))
 have HYM2 := Lib.hid hym
 clear hym hyo hyb s9
 go_wp2_with fail
 refine (HJ2.out).mono ?_
 rintro e wB2 ⟨p3, k3, m3, hm, rfl, ho, hb⟩
 have HBW := Lib.hid (HBA.out.trans (hb.mono HBA.out.size))
 obtain ⟨L3, hL⟩ : ∃ X, X = L2 ++ (bytesU (zig mark)) := ⟨_, rfl⟩
 have HM3 := Lib.hid (show L3.length = m3 by rw [hL]; exact hm)
 have HO3 := Lib.hid (show wB2.ownsRow w.heap.size 5 1 (.slice p3 m3 k3) m3 (L3.map B) by rw [hL]; exact ownsRow_base ho (Nat.le_trans HB0.out.size HBA.out.size))
 have HOZ3 := Lib.hid (show wB2.ownsRow w0.heap.size 5 1 (.slice p3 m3 k3) m3 (L3.map B) by rw [hL]; exact ownsRow_base ho HBA.out.size)
 have HMB3 := Lib.hid (show m3 ≤ 72000 by have h1 := HM2.out; have h2 := HMB2.out; have h3 := HYL2.out; have h4 := HYM2.out; rw [← hm, List.length_append]; omega)
 have HL3 := Lib.hid hL
 clear hm ho hb hL HJ2 HM2 HO2 HMB2 HYL2 HYM2
 have s10 := (HE.out.below HBW.out).ci 10 rfl
 go_upto_if 39 with fail
 go_cut [7] from 10 (fun v wx => ∃ p4 k4 m4, v = .slice p4 m4 k4 ∧ (L3 ++ closedB closed).length = m4 ∧ wx.ownsRow w.heap.size 5 1 (.slice p4 m4 k4) m4 ((L3 ++ closedB closed).map B) ∧ Below w0.heap.size w0 wx)
 case first =>
  have hown := HOZ3.out
  have hbs : w0.heap.size ≤ wB2.heap.size := HBW.out.size
  have hm3 := HMB3.out
  have HLN := Lib.hid (show ∀ b, (L3 ++ closedB b).length = m3 + 1 from fun b => by rw [List.length_append, HM3.out]; rfl)
  have HY1 := Lib.hid (show Value.int .u8 1 = B 1 from rfl)
  have HY0 := Lib.hid (show Value.int .u8 0 = B 0 from rfl)
  cases closed with
  | true =>
   go_wp2_with (first | (at_builtin; refine app_b1 wB2 rfl _ _ rfl w0.heap.size (.slice p3 m3 k3) m3 L3 rfl hown _ 1 HY1.out rfl (by omega) (by omega) ?_; intro a2 c2 w9 hown9 hb9 hmv9) | fail)
   go_meet
   case rel => exact ⟨a2, c2, m3 + 1, rfl, HLN.out true, ownsRow_base hown9 HB0.out.size, HBW.out.trans hb9⟩
  | false =>
   go_wp2_with (first | (at_builtin; refine app_b1 wB2 rfl _ _ rfl w0.heap.size (.slice p3 m3 k3) m3 L3 rfl hown _ 0 HY0.out rfl (by omega) (by omega) ?_; intro a2 c2 w9 hown9 hb9 hmv9) | fail)
   go_meet
   case rel => exact ⟨a2, c2, m3 + 1, rfl, HLN.out false, ownsRow_base hown9 HB0.out.size, HBW.out.trans hb9⟩
 case rest =>
 obtain ⟨p4, k4, m4, rfl, hm4, ho4, hbw4⟩ := hcut
 obtain ⟨L4, hL4⟩ : ∃ X, X = L3 ++ closedB closed := ⟨_, rfl⟩
 have HM4 := Lib.hid (show L4.length = m4 by rw [hL4]; exact hm4)
 have HO4 := Lib.hid (show wc.ownsRow w.heap.size 5 1 (.slice p4 m4 k4) m4 (L4.map B) by rw [hL4]; exact ho4)
 have HMB4 := Lib.hid (show m4 ≤ 73000 by have h1 := HM3.out; have h2 := HMB3.out; rw [← hm4, List.length_append]; have : (closedB closed).length = 1 := rfl; omega)
 have HL4 := Lib.hid hL4
 have HBW := Lib.hid hbw4
 clear hm4 ho4 hbw4 hL4 HM3 HO3 HMB3 s10
 have s0 := (HE.out.below HBW.out).ci 0 rfl
 have s11 := (HE.out.below HBW.out).ci 11 rfl
 go_wp2_with fail
 refine (HEH.out _ HBW.out).mono ?_
 rintro e wA4 ⟨y4, yk4, ym4, hym, rfl, hyo, hyb⟩
 have HYL4 := Lib.hid (show ym4 ≤ 115343400 by rw [← hym]; exact HLH.out)
 have HJ4 := Lib.hid (rjoin_any p4 y4 k4 yk4 m4 ym4 L4 (byEvs (tys types) held) wA4 HM4.out hym (by have := HMB4.out; have := HYL4.out; omega) ((rd_len HO4.out).below hyb) (rd_len hyo))
 have HBA := Lib.hid (HBW.out.trans (hyb.mono HBW.out.size))
 have HYM4 := Lib.hid hym
 clear hym hyo hyb s0 s11
 go_wp2_with fail
 refine (HJ4.out).mono ?_
 rintro e wB4 ⟨p5, k5, m5, hm, rfl, ho, hb⟩
 have HBW := Lib.hid (HBA.out.trans (hb.mono HBA.out.size))
 obtain ⟨L5, hL⟩ : ∃ X, X = L4 ++ (byEvs (tys types) held) := ⟨_, rfl⟩
 have HM5 := Lib.hid (show L5.length = m5 by rw [hL]; exact hm)
 have HO5 := Lib.hid (show wB4.ownsRow w.heap.size 5 1 (.slice p5 m5 k5) m5 (L5.map B) by rw [hL]; exact ownsRow_base ho (Nat.le_trans HB0.out.size HBA.out.size))
 have HOZ5 := Lib.hid (show wB4.ownsRow w0.heap.size 5 1 (.slice p5 m5 k5) m5 (L5.map B) by rw [hL]; exact ownsRow_base ho HBA.out.size)
 have HMB5 := Lib.hid (show m5 ≤ 115500000 by have h1 := HM4.out; have h2 := HMB4.out; have h3 := HYL4.out; have h4 := HYM4.out; rw [← hm, List.length_append]; omega)
 have HL5 := Lib.hid hL
 clear hm ho hb hL HJ4 HM4 HO4 HMB4 HYL4 HYM4
 have s0 := (HE.out.below HBW.out).ci 0 rfl
 have s12 := (HE.out.below HBW.out).ci 12 rfl
 go_wp2_with fail
 refine (HEK.out _ HBW.out).mono ?_
 rintro e wA5 ⟨y5, yk5, ym5, hym, rfl, hyo, hyb⟩
 have HYL5 := Lib.hid (show ym5 ≤ 115343400 by rw [← hym]; exact HLK.out)
 have HJ5 := Lib.hid (rjoin_any p5 y5 k5 yk5 m5 ym5 L5 (byEvs (tys types) kept) wA5 HM5.out hym (by have := HMB5.out; have := HYL5.out; omega) ((rd_len HO5.out).below hyb) (rd_len hyo))
 have HBA := Lib.hid (HBW.out.trans (hyb.mono HBW.out.size))
 have HYM5 := Lib.hid hym
 clear hym hyo hyb s0 s12
 go_wp2_with fail
 refine (HJ5.out).mono ?_
 rintro e wB5 ⟨p6, k6, m6, hm, rfl, ho, hb⟩
 have HBW := Lib.hid (HBA.out.trans (hb.mono HBA.out.size))
 obtain ⟨L6, hL⟩ : ∃ X, X = L5 ++ (byEvs (tys types) kept) := ⟨_, rfl⟩
 have HM6 := Lib.hid (show L6.length = m6 by rw [hL]; exact hm)
 have HO6 := Lib.hid (show wB5.ownsRow w.heap.size 5 1 (.slice p6 m6 k6) m6 (L6.map B) by rw [hL]; exact ownsRow_base ho (Nat.le_trans HB0.out.size HBA.out.size))
 have HOZ6 := Lib.hid (show wB5.ownsRow w0.heap.size 5 1 (.slice p6 m6 k6) m6 (L6.map B) by rw [hL]; exact ownsRow_base ho HBA.out.size)
 have HMB6 := Lib.hid (show m6 ≤ 231000000 by have h1 := HM5.out; have h2 := HMB5.out; have h3 := HYL5.out; have h4 := HYM5.out; rw [← hm, List.length_append]; omega)
 have HL6 := Lib.hid hL
 clear hm ho hb hL HJ5 HM5 HO5 HMB5 HYL5 HYM5
 have s13 := (HE.out.below HBW.out).ci 13 rfl
 go_wp2_with fail
 refine (rcount_any nw _ (by omega)).mono ?_
 rintro e wA6 ⟨y6, yk6, ym6, hym, rfl, hyo, hyb⟩
 have HYL6 := Lib.hid (show ym6 ≤ 10 by rw [← hym]; exact bytesU_len10 nw (by omega))
 have HJ6 := Lib.hid (rjoin_any p6 y6 k6 yk6 m6 ym6 L6 (bytesU nw) wA6 HM6.out hym (by have := HMB6.out; have := HYL6.out; omega) ((rd_len HO6.out).below hyb) (rd_len hyo))
 have HBA := Lib.hid (HBW.out.trans (hyb.mono HBW.out.size))
 have HYM6 := Lib.hid hym
 clear hym hyo hyb s13
 go_wp2_with fail
 refine (HJ6.out).mono ?_
 rintro e wB6 ⟨p7, k7, m7, hm, rfl, ho, hb⟩
 have HBW := Lib.hid (HBA.out.trans (hb.mono HBA.out.size))
 obtain ⟨L7, hL⟩ : ∃ X, X = L6 ++ (bytesU nw) := ⟨_, rfl⟩
 have HM7 := Lib.hid (show L7.length = m7 by rw [hL]; exact hm)
 have HO7 := Lib.hid (show wB6.ownsRow w.heap.size 5 1 (.slice p7 m7 k7) m7 (L7.map B) by rw [hL]; exact ownsRow_base ho (Nat.le_trans HB0.out.size HBA.out.size))
 have HOZ7 := Lib.hid (show wB6.ownsRow w0.heap.size 5 1 (.slice p7 m7 k7) m7 (L7.map B) by rw [hL]; exact ownsRow_base ho HBA.out.size)
 have HMB7 := Lib.hid (show m7 ≤ 231000100 by have h1 := HM6.out; have h2 := HMB6.out; have h3 := HYL6.out; have h4 := HYM6.out; rw [← hm, List.length_append]; omega)
 have HL7 := Lib.hid hL
 clear hm ho hb hL HJ6 HM6 HO6 HMB6 HYL6 HYM6
 have s13 := (HE.out.below HBW.out).ci 13 rfl
 go_wp2_with fail
 go_loopw [7, 8] (fun v i wr => ∃ (j : Nat) (a' : Option Addr) (c' n' : Nat), j ≤ nw ∧ i = .int .i64 (j : Int) ∧ v = .slice a' n' c' ∧ (L7 ++ (waiting.take j).flatMap (fun y => byMt y.m)).length = n' ∧ n' ≤ 231000100 + j * 43000100 ∧ wr.ownsRow w.heap.size 5 1 v n' ((L7 ++ (waiting.take j).flatMap (fun y => byMt y.m)).map B) ∧ Below w0.heap.size w0 wr) (fun _ i _ => nw - (intOf i).toNat)
 case atStart => exact ⟨0, p7, k7, m7, Nat.zero_le _, rfl, rfl, by simpa using HM7.out, by have := HMB7.out; omega, by simpa using HO7.out, HBW.out⟩
 case round =>
  obtain ⟨j, a', c', n', hjn, rfl, rfl, hln, hnb, hown, hbw⟩ := hrel
  have HLN := Lib.hid hln
  have HNB := Lib.hid hnb
  have HOWN := Lib.hid hown
  have HBR := Lib.hid hbw
  have s13 := (HE.out.below hbw).ci 13 rfl
  clear hln hown hnb
  by_cases hlt : j < nw
  ·have hjl : j < waiting.length := by rw [← HNW.out]; exact hlt
   obtain ⟨b, off, hwa, e0, e1, e2, e3⟩ := (show RdM _ wa waiting from (HR.out.below hbw).waiting).at j hjl
   have hcon : ∀ W, Below w0.heap.size w0 W → Calls Tryz.prog 54 #[.agg (mmc waiting[j]).toArray] W (By (byMt waiting[j].m) W) := fun W hW => HMTS.out W hW j hjl
   have hper := byMt_le (HSB.out.wb _ (List.getElem_mem (l := waiting) hjl))
   subst hwa
   have htk : (waiting.take (j + 1)).flatMap (fun y => byMt y.m) = (waiting.take j).flatMap (fun y => byMt y.m) ++ (fun y => byMt y.m) waiting[j] := by
    rw [take_snoc waiting j hjl, List.flatMap_append]; simp
   obtain ⟨u, hu⟩ : ∃ u, u = waiting[j] := ⟨_, rfl⟩
   rw [← hu] at htk hcon hper e0 e1 e2 e3
   have HTK := Lib.hid htk
   have HME := Lib.hid (meas_lt hlt)
   have hlt' : (j : Int) < nw := by omega
   have hj0 : (0 : Int) ≤ j := by omega
   have HCON := Lib.hid hcon
   have HPER := Lib.hid hper
   obtain ⟨⟨ud, un, ul, uv⟩, una, unc, ula, ulc, uva, uvc⟩ := u
   dsimp only at e0 e1 e2 e3
   clear htk hu hbw hcon hper
   go_wp2_with fail
   refine (HCON.out _ HBR.out).mono ?_
   rintro e wF ⟨p9, k9, m9, hm9, rfl, ho9, hb9⟩
   have HMN := Lib.hid (show n' + m9 ≤ 231000100 + (j + 1) * 43000100 by have h1 := HNB.out; have h2 := HPER.out; rw [← hm9]; omega)
   have HJ2 := Lib.hid (rjoin_any a' p9 c' k9 n' m9 _ _ wF HLN.out hm9 (by have := HMN.out; omega) ((rd_len HOWN.out).below hb9) (rd_len ho9))
   have HBF := Lib.hid (HBR.out.trans (hb9.mono HBR.out.size))
   have HM9 := Lib.hid hm9
   clear ho9 hb9 hm9 s13 e0 e1 e2 e3
   go_wp2_with fail
   refine (HJ2.out).mono ?_
   rintro e wG ⟨p7, k7, m7, hm7, rfl, ho7, hbG⟩
   have HO7 := Lib.hid (ownsRow_base ho7 (Nat.le_trans HB0.out.size HBF.out.size))
   have HBG := Lib.hid (HBF.out.trans (hbG.mono HBF.out.size))
   have HM7 := Lib.hid hm7
   have HM7B := Lib.hid (show m7 ≤ 231000100 + (j + 1) * 43000100 by have h1 := HMN.out; have h2 := HLN.out; have h3 := HM9.out; rw [← hm7, List.length_append]; omega)
   clear ho7 hbG hm7
   go_wp2_with fail
   go_roundw
   case rel => exact ⟨j + 1, p7, k7, m7, hlt, by go_num, rfl, by rw [HTK.out, ← List.append_assoc]; exact HM7.out, HM7B.out, by rw [HTK.out, ← List.append_assoc]; exact HO7.out, HBG.out⟩
   case measure => exact HME.out
  ·have hk' : ¬ (j : Int) < nw := by omega
   have HTT := Lib.hid (show waiting.take j = waiting by rw [List.take_of_length_le]; rw [← HNW.out]; omega)
   obtain ⟨L8, hL⟩ : ∃ X, X = L7 ++ waiting.flatMap (fun y => byMt y.m) := ⟨_, rfl⟩
   have hm9 := HLN.out
   have ho9 := HOWN.out
   rw [HTT.out, ← hL] at hm9 ho9
   have HM8 := Lib.hid hm9
   have HO8 := Lib.hid ho9
   have HMB8 := Lib.hid (show n' ≤ 45100000000000 by have := HNB.out; omega)
   have HL8 := Lib.hid hL
   have HBW := Lib.hid hbw
   obtain ⟨p8, rfl⟩ : ∃ p, p = a' := ⟨_, rfl⟩
   obtain ⟨k8, rfl⟩ : ∃ p, p = c' := ⟨_, rfl⟩
   obtain ⟨m8, rfl⟩ : ∃ p, p = n' := ⟨_, rfl⟩
   obtain ⟨wL8, rfl⟩ : ∃ p, p = wr := ⟨_, rfl⟩
   clear hm9 ho9 hL hbw HLN HNB HOWN HTT
   have s14 := (HE.out.below HBW.out).ci 14 rfl
   go_wp2_with fail
   refine (rcount_any nu _ (by omega)).mono ?_
   rintro e wA8 ⟨y8, yk8, ym8, hym, rfl, hyo, hyb⟩
   have HYL8 := Lib.hid (show ym8 ≤ 10 by rw [← hym]; exact bytesU_len10 nu (by omega))
   have HJ8 := Lib.hid (rjoin_any p8 y8 k8 yk8 m8 ym8 L8 (bytesU nu) wA8 HM8.out hym (by have := HMB8.out; have := HYL8.out; omega) ((rd_len HO8.out).below hyb) (rd_len hyo))
   have HBA := Lib.hid (HBW.out.trans (hyb.mono HBW.out.size))
   have HYM8 := Lib.hid hym
   clear hym hyo hyb s14
   go_wp2_with fail
   refine (HJ8.out).mono ?_
   rintro e wB8 ⟨p9, k9, m9, hm, rfl, ho, hb⟩
   have HBW := Lib.hid (HBA.out.trans (hb.mono HBA.out.size))
   obtain ⟨L9, hL⟩ : ∃ X, X = L8 ++ (bytesU nu) := ⟨_, rfl⟩
   have HM9 := Lib.hid (show L9.length = m9 by rw [hL]; exact hm)
   have HO9 := Lib.hid (show wB8.ownsRow w.heap.size 5 1 (.slice p9 m9 k9) m9 (L9.map B) by rw [hL]; exact ownsRow_base ho (Nat.le_trans HB0.out.size HBA.out.size))
   have HOZ9 := Lib.hid (show wB8.ownsRow w0.heap.size 5 1 (.slice p9 m9 k9) m9 (L9.map B) by rw [hL]; exact ownsRow_base ho HBA.out.size)
   have HMB9 := Lib.hid (show m9 ≤ 45200000000000 by have h1 := HM8.out; have h2 := HMB8.out; have h3 := HYL8.out; have h4 := HYM8.out; rw [← hm, List.length_append]; omega)
   have HL9 := Lib.hid hL
   clear hm ho hb hL HJ8 HM8 HO8 HMB8 HYL8 HYM8
   have s14 := (HE.out.below HBW.out).ci 14 rfl
   go_wp2_with fail
   go_loopw [7, 9] (fun v i wr => ∃ (j : Nat) (a' : Option Addr) (c' n' : Nat), j ≤ nu ∧ i = .int .i64 (j : Int) ∧ v = .slice a' n' c' ∧ (L9 ++ (used.take j).flatMap byName).length = n' ∧ n' ≤ 45200000000000 + j * 20 ∧ wr.ownsRow w.heap.size 5 1 v n' ((L9 ++ (used.take j).flatMap byName).map B) ∧ Below w0.heap.size w0 wr) (fun _ i _ => nu - (intOf i).toNat)
   case atStart => exact ⟨0, p9, k9, m9, Nat.zero_le _, rfl, rfl, by simpa using HM9.out, by have := HMB9.out; omega, by simpa using HO9.out, HBW.out⟩
   case round =>
    obtain ⟨j, a', c', n', hjn, rfl, rfl, hln, hnb, hown, hbw⟩ := hrel
    have HLN := Lib.hid hln
    have HNB := Lib.hid hnb
    have HOWN := Lib.hid hown
    have HBR := Lib.hid hbw
    have s14 := (HE.out.below hbw).ci 14 rfl
    clear hln hown hnb
    by_cases hlt : j < nu
    ·have hjl : j < used.length := by rw [← HNU.out]; exact hlt
     obtain ⟨b, off, hua, e0, e1⟩ := (show RdNm _ ua used from (HR.out.below hbw).used).at j hjl
     have hcon : ∀ W, Calls Tryz.prog 55 #[.agg (nmc used[j]).toArray] W (By (byName used[j]) W) := fun W => HUSD.out W j hjl
     have hper := byName_le (HSB.out.ub _ (List.getElem_mem (l := used) hjl))
     subst hua
     have htk : (used.take (j + 1)).flatMap byName = (used.take j).flatMap byName ++ byName used[j] := by
      rw [take_snoc used j hjl, List.flatMap_append]; simp
     obtain ⟨u, hu⟩ : ∃ u, u = used[j] := ⟨_, rfl⟩
     rw [← hu] at htk hcon hper e0 e1
     have HTK := Lib.hid htk
     have HME := Lib.hid (meas_lt hlt)
     have hlt' : (j : Int) < nu := by omega
     have hj0 : (0 : Int) ≤ j := by omega
     have HCON := Lib.hid hcon
     have HPER := Lib.hid hper
     obtain ⟨ut, ui⟩ := u
     dsimp only at e0 e1
     clear htk hu hbw hcon hper
     go_wp2_with fail
     refine (HCON.out _).mono ?_
     rintro e wF ⟨p9, k9, m9, hm9, rfl, ho9, hb9⟩
     have HMN := Lib.hid (show n' + m9 ≤ 45200000000000 + (j + 1) * 20 by have h1 := HNB.out; have h2 := HPER.out; rw [← hm9]; omega)
     have HJ2 := Lib.hid (rjoin_any a' p9 c' k9 n' m9 _ _ wF HLN.out hm9 (by have := HMN.out; omega) ((rd_len HOWN.out).below hb9) (rd_len ho9))
     have HBF := Lib.hid (HBR.out.trans (hb9.mono HBR.out.size))
     have HM9 := Lib.hid hm9
     clear ho9 hb9 hm9 s14 e0 e1
     go_wp2_with fail
     refine (HJ2.out).mono ?_
     rintro e wG ⟨p7, k7, m7, hm7, rfl, ho7, hbG⟩
     have HO7 := Lib.hid (ownsRow_base ho7 (Nat.le_trans HB0.out.size HBF.out.size))
     have HBG := Lib.hid (HBF.out.trans (hbG.mono HBF.out.size))
     have HM7 := Lib.hid hm7
     have HM7B := Lib.hid (show m7 ≤ 45200000000000 + (j + 1) * 20 by have h1 := HMN.out; have h2 := HLN.out; have h3 := HM9.out; rw [← hm7, List.length_append]; omega)
     clear ho7 hbG hm7
     go_wp2_with fail
     go_roundw
     case rel => exact ⟨j + 1, p7, k7, m7, hlt, by go_num, rfl, by rw [HTK.out, ← List.append_assoc]; exact HM7.out, HM7B.out, by rw [HTK.out, ← List.append_assoc]; exact HO7.out, HBG.out⟩
     case measure => exact HME.out
    ·have hk' : ¬ (j : Int) < nu := by omega
     have HTT := Lib.hid (show used.take j = used by rw [List.take_of_length_le]; rw [← HNU.out]; omega)
     obtain ⟨L10, hL⟩ : ∃ X, X = L9 ++ used.flatMap byName := ⟨_, rfl⟩
     have hm9 := HLN.out
     have ho9 := HOWN.out
     rw [HTT.out, ← hL] at hm9 ho9
     have HM10 := Lib.hid hm9
     have HO10 := Lib.hid ho9
     have HMB10 := Lib.hid (show n' ≤ 45300000000000 by have := HNB.out; omega)
     have HL10 := Lib.hid hL
     have HBW := Lib.hid hbw
     obtain ⟨p10, rfl⟩ : ∃ p, p = a' := ⟨_, rfl⟩
     obtain ⟨k10, rfl⟩ : ∃ p, p = c' := ⟨_, rfl⟩
     obtain ⟨m10, rfl⟩ : ∃ p, p = n' := ⟨_, rfl⟩
     obtain ⟨wL10, rfl⟩ : ∃ p, p = wr := ⟨_, rfl⟩
     clear hm9 ho9 hL hbw HLN HNB HOWN HTT
     go_wp2_with fail
     go_ret
     have hre : RES = L10 := by
      rw [HRES.out, HL10.out, HL9.out, HL8.out, HL7.out, HL6.out, HL5.out, HL4.out, HL3.out, HL2.out, HL1.out, HL0.out, HSC.out]
      unfold bodyL byMts byNames bytesI
      dsimp only
      rw [← HNW.out, ← HNU.out, Int.toNat_natCast]
      simp only [List.append_assoc]
     refine ⟨⟨p10, k10, m10, by rw [hre]; exact HM10.out, rfl, by rw [hre]; exact HO10.out, HB0.out.trans (HBW.out.mono HB0.out.size)⟩, by rw [hre, HM10.out]; have := HMB10.out; omega⟩
end Go.Proofs.YtfglgpbjjpoimaaGreatDoor
/- SaveEncodes: the reference's Encode. -/
set_option linter.unusedVariables false
namespace Go.Proofs.YtfglgpbjjpoimaaGreatDoor
open Go.RowKit Sv
/-- What the reference's Encode answers. -/
def EncR (x : Stm) (w : World) (e : Ending) (w' : World) : Prop :=
 ((¬ StOK x ∧ e = .returned (.tuple #[.slice none 0 0, .int .i64 160])) ∨ ∃ tx a c n, StOK x ∧ ansR fmtI x.q.q = some tx ∧ (imageL (bodyL x tx)).length = n ∧ e = .returned (.tuple #[.slice a n c, .int .i64 0]) ∧ Rd w' a ((imageL (bodyL x tx)).map B)) ∧ Below w.heap.size w w'
set_option maxHeartbeats 2000000 in
set_option maxRecDepth 20000 in
theorem rencode_any (x : Stm) (w : World) (hl : Ld w) (h : RdSt w x) (hb : StB x) : Calls Tryz.prog 6 #[.agg (stc x).toArray] w (EncR x w) := by
 obtain ⟨w0, hw0⟩ : ∃ w0, w0 = w.alloc (.cells (stc x).toArray 36) := ⟨_, rfl⟩
 have hE : Blk w0 w.heap.size 36 (stc x) := by rw [hw0]; exact Blk.new w _ 36
 have HB0 := Lib.hid (show Below w.heap.size w w0 by rw [hw0]; exact bal (Below.refl _ _) (Nat.le_refl _) _)
 have HL := Lib.hid (hl.below HB0.out)
 have HR := Lib.hid (h.below HB0.out)
 have HSB := Lib.hid hb
 have HPL := Lib.hid (rplain_any x w0 HL.out HR.out hb)
 have HBD := Lib.hid (fun tx W (hW : Below w0.heap.size w0 W) (hok : StOK x) (ht : ansR fmtI x.q.q = some tx) => rbody_any x tx W (HL.out.below hW) (HR.out.below hW) hb hok ht)
 obtain ⟨X, hX⟩ : ∃ X, X = x := ⟨_, rfl⟩
 suffices H : Calls Tryz.prog 6 #[.agg (stc x).toArray] w (EncR X w) by rw [hX] at H; exact H
 rw [← hX] at HPL HBD
 have HX := Lib.hid hX
 clear hX hl h hb
 obtain ⟨types, ta, tc, ⟨items, ia, ic, mode, after, wher, wwa, wcap, within, by_, ret, ra, rc⟩, cap, mark, closed, held, ha, hc, kept, ka, kc, waiting, wa, wc', used, ua, uc⟩ := x
 have hsx : stc X = stc ⟨types, ta, tc, ⟨items, ia, ic, mode, after, wher, wwa, wcap, within, by_, ret, ra, rc⟩, cap, mark, closed, held, ha, hc, kept, ka, kc, waiting, wa, wc', used, ua, uc⟩ := by rw [HX.out]
 rw [hsx] at HPL HBD
 clear hsx
 obtain ⟨nt, hnt⟩ : ∃ n, n = types.length := ⟨_, rfl⟩
 obtain ⟨ni, hni⟩ : ∃ n, n = items.length := ⟨_, rfl⟩
 obtain ⟨nwh, hnwh⟩ : ∃ n, n = wher.length := ⟨_, rfl⟩
 obtain ⟨nr, hnr⟩ : ∃ n, n = ret.length := ⟨_, rfl⟩
 obtain ⟨nh, hnh⟩ : ∃ n, n = held.length := ⟨_, rfl⟩
 obtain ⟨nk, hnk⟩ : ∃ n, n = kept.length := ⟨_, rfl⟩
 obtain ⟨nw, hnw⟩ : ∃ n, n = waiting.length := ⟨_, rfl⟩
 obtain ⟨nu, hnu⟩ : ∃ n, n = used.length := ⟨_, rfl⟩
 simp only [stc, T, ← hnt, ← hni, ← hnwh, ← hnr, ← hnh, ← hnk, ← hnw, ← hnu] at hE hw0 HPL HBD ⊢
 have HE := Lib.hid hE
 clear hE hnt hni hnwh hnr hnh hnk hnw hnu
 go_enter Tryz.func6, Tryz.ntmps6
 go_wp2_with fail
 rw [← hw0]
 clear hw0
 refine (HPL.out).mono ?_
 rintro e w1 ⟨r, rfl, hr, hb1⟩
 have HBW := Lib.hid (HB0.out.trans (hb1.mono HB0.out.size))
 have HB1 := Lib.hid hb1
 cases hrb : r with
 | false =>
  have HNO := Lib.hid (show ¬ StOK X from fun h => by have := hr.2 h; rw [hrb] at this; cases this)
  clear hr hb1 hrb
  go_wp2_with fail
  go_ret2
  exact ⟨.inl ⟨HNO.out, rfl⟩, HBW.out⟩
 | true =>
  have hok := hr.1 hrb
  obtain ⟨tx, htx⟩ : ∃ tx, ansR fmtI X.q.q = some tx := Option.isSome_iff_exists.1 hok.query.2
  have HBC := Lib.hid (HBD.out tx w1 hb1 hok htx)
  have HOK := Lib.hid hok
  have HTX := Lib.hid htx
  have s0 := (HE.out.below hb1).ci 0 rfl
  have s1 := (HE.out.below hb1).ci 1 rfl
  have s2 := (HE.out.below hb1).ci 2 rfl
  have s3 := (HE.out.below hb1).ci 3 rfl
  have s4 := (HE.out.below hb1).ci 4 rfl
  have s5 := (HE.out.below hb1).ci 5 rfl
  have s6 := (HE.out.below hb1).ci 6 rfl
  have s7 := (HE.out.below hb1).ci 7 rfl
  have s8 := (HE.out.below hb1).ci 8 rfl
  have s9 := (HE.out.below hb1).ci 9 rfl
  have s10 := (HE.out.below hb1).ci 10 rfl
  have s11 := (HE.out.below hb1).ci 11 rfl
  have s12 := (HE.out.below hb1).ci 12 rfl
  have s13 := (HE.out.below hb1).ci 13 rfl
  have s14 := (HE.out.below hb1).ci 14 rfl
  clear hr hb1 hrb hok htx
  go_wp2_with fail
  refine (HBC.out).mono ?_
  rintro e w2 ⟨⟨a, c, n, hn, rfl, ho, hb2⟩, hlen⟩
  have HI := Lib.hid (rimage_any a c n (bodyL X tx) w2 (HL.out.below (HB1.out.trans (hb2.mono HB1.out.size))) hn (by rw [← hn]; omega) (rd_len ho))
  have HBW := Lib.hid (HBW.out.trans (hb2.mono HBW.out.size))
  clear hn ho hb2 hlen s0 s1 s2 s3 s4 s5 s6 s7 s8 s9 s10 s11 s12 s13 s14
  go_wp2_with fail
  refine (HI.out).mono ?_
  rintro e w3 ⟨a', c', n', hn', rfl, ho', hb3⟩
  have HBW := Lib.hid (HBW.out.trans (hb3.mono HBW.out.size))
  have HN := Lib.hid hn'
  have HRD := Lib.hid (rd_len ho')
  clear hn' ho' hb3
  go_wp2_with fail
  go_ret2
  exact ⟨.inr ⟨tx, a', c', n', HOK.out, HTX.out, HN.out, rfl, HRD.out⟩, HBW.out⟩
end Go.Proofs.YtfglgpbjjpoimaaGreatDoor
