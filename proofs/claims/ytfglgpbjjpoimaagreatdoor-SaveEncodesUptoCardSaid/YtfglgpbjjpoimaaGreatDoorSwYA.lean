/- SaveEncodes: a state in memory; the reference's Plain. -/
import Derived.Test.YtfglgpbjjpoimaaGreatDoorSwGS
import Derived.Deep.CutBlock
import Derived.Deep.CutRange
set_option linter.unusedVariables false
namespace Go.Proofs.YtfglgpbjjpoimaaGreatDoor
open Go.RowKit Sv
/-- A state in memory. -/
structure Stm where
 types : List Tp
 ta : Option Addr
 tc : Nat
 q : Qm
 cap : Int
 mark : Int
 closed : Bool
 held : List Ev
 ha : Option Addr
 hc : Nat
 kept : List Ev
 ka : Option Addr
 kc : Nat
 waiting : List Mm
 wa : Option Addr
 wc : Nat
 used : List Nm
 ua : Option Addr
 uc : Nat
def stc (x : Stm) : List Value := [.slice x.ta x.types.length x.tc, .slice x.q.ia x.q.items.length x.q.ic, .int .i64 x.q.mode, .int .i64 x.q.after, .slice x.q.wa x.q.wher.length x.q.wc, .int .i64 x.q.within, T x.q.by_, .slice x.q.ra x.q.ret.length x.q.rc,
 .int .i64 x.cap, .int .i64 x.mark, .bool x.closed, .slice x.ha x.held.length x.hc, .slice x.ka x.kept.length x.kc, .slice x.wa x.waiting.length x.wc, .slice x.ua x.used.length x.uc]
structure RdSt (w : World) (x : Stm) : Prop where
 types : RdT w x.ta x.types
 q : RdQ w x.q
 held : RdE w x.ha x.held
 kept : RdE w x.ka x.kept
 waiting : RdM w x.wa x.waiting
 used : RdNm w x.ua x.used
theorem RdSt.below {w w' : World} {x : Stm} (h : RdSt w x) (hb : Below w.heap.size w w') : RdSt w' x := ⟨h.types.below hb, h.q.below hb, h.held.below hb, h.kept.below hb, h.waiting.below hb, h.used.below hb⟩
structure StB (x : Stm) : Prop where
 tl : x.types.length ≤ 1048576
 tcap : ∀ t ∈ x.types, t.attrs.length ≤ t.c
 qb : QB x.q
 qi : QI x.q.q
 cap : I64' x.cap
 mark : I64' x.mark
 hl : x.held.length ≤ 1048576
 kl : x.kept.length ≤ 1048576
 wl : x.waiting.length ≤ 1048576
 ul : x.used.length ≤ 1048576
 hb : ∀ e ∈ x.held, EvB e
 kb : ∀ e ∈ x.kept, EvB e
 wb : ∀ m ∈ x.waiting, MtB m.m
 ub : ∀ n ∈ x.used, NmB n
def MOk (l : List Mm) (k : Nat) : Prop := (∀ i (h : i < l.length), i < k → cleanB l[i].m.vals = true) ∧ ∀ i (h : i + 1 < l.length), i + 1 < k → mtLt l[i].m l[i + 1].m = true
def UOk (l : List Nm) (k : Nat) : Prop := ∀ i (h : i + 1 < l.length), i + 1 < k → nmLt l[i] l[i + 1] = true
structure StOK (x : Stm) : Prop where
 schema : SchemaOK (tys x.types)
 query : shapedQ (nameB kwsL) x.q.q = true ∧ (ansR fmtI x.q.q).isSome = true
 cap : 1 ≤ x.cap ∧ x.cap ≤ 4096
 mark : -1152921504606846977 ≤ x.mark ∧ x.mark ≤ 1152921504606846976
 waiting : MOk x.waiting x.waiting.length
 used : UOk x.used x.used.length
 held : LOk (tys x.types) x.held x.held.length
 kept : LOk (tys x.types) x.kept x.kept.length
theorem MOk.no1 {l : List Mm} {i k : Nat} (h : i < l.length) (hk : i < k) (hn : cleanB l[i].m.vals = false) : ¬ MOk l k := fun hs => by
 have := hs.1 i h hk
 rw [hn] at this; cases this
theorem MOk.no2 {l : List Mm} {i k : Nat} (h : i + 1 < l.length) (hk : i + 1 < k) (hn : mtLt l[i].m l[i + 1].m = false) : ¬ MOk l k := fun hs => by
 have := hs.2 i h hk
 rw [hn] at this; cases this
theorem MOk.one {l : List Mm} (h : 0 < l.length) (h1 : cleanB l[0].m.vals = true) : MOk l 1 :=
 ⟨fun i hi hk => by obtain rfl : i = 0 := (by omega); exact h1, fun i hi hk => by omega⟩
theorem MOk.step {l : List Mm} {m : Nat} (h : m + 1 < l.length) (hs : MOk l (m + 1)) (h1 : cleanB l[m + 1].m.vals = true) (h2 : mtLt l[m].m l[m + 1].m = true) : MOk l (m + 1 + 1) :=
 ⟨fun i hi hk => by
  by_cases hi2 : i < m + 1
  ·exact hs.1 i hi hi2
  ·obtain rfl : i = m + 1 := by omega
   exact h1, fun i hi hk => by
  by_cases hi2 : i + 1 < m + 1
  ·exact hs.2 i hi hi2
  ·obtain rfl : i = m := by omega
   exact h2⟩
theorem UOk.no2 {l : List Nm} {i k : Nat} (h : i + 1 < l.length) (hk : i + 1 < k) (hn : nmLt l[i] l[i + 1] = false) : ¬ UOk l k := fun hs => by
 have := hs i h hk
 rw [hn] at this; cases this
theorem UOk.step {l : List Nm} {m : Nat} (h : m + 1 < l.length) (hs : UOk l (m + 1)) (h2 : nmLt l[m] l[m + 1] = true) : UOk l (m + 1 + 1) := fun i hi hk => by
  by_cases hi2 : i + 1 < m + 1
  ·exact hs i hi hi2
  ·obtain rfl : i = m := by omega
   exact h2
theorem RdM.cells {w : World} {a : Option Addr} {l : List Mm} (h : RdM w a l) (i : Nat) (hi : i < l.length) (b off : Nat) (ha : a = some ⟨b, off, none⟩) (y : Mm) (hy : y = l[i]) :
  w.cell? ⟨b, off + i * 4, none⟩ = some (.int .i64 y.m.dec) ∧ w.cell? ⟨b, off + i * 4 + 1, none⟩ = some (.slice y.na y.m.names.length y.nc) ∧ w.cell? ⟨b, off + i * 4 + 2, none⟩ = some (.slice y.la y.m.lens.length y.lc) ∧ w.cell? ⟨b, off + i * 4 + 3, none⟩ = some (.slice y.va y.m.vals.length y.vc) := by
 obtain ⟨b', off', h1, h2⟩ := h.at i hi
 rw [ha] at h1
 cases h1
 rw [hy]
 exact h2
set_option maxHeartbeats 4000000 in
set_option maxRecDepth 20000 in
theorem rplain_any (x : Stm) (w : World) (hl : Ld w) (h : RdSt w x) (hb : StB x) : Calls Tryz.prog 15 #[.agg (stc x).toArray] w (Tel (StOK x) w) := by
 obtain ⟨w0, hw0⟩ : ∃ w0, w0 = w.alloc (.cells (stc x).toArray 36) := ⟨_, rfl⟩
 have hE : Blk w0 w.heap.size 36 (stc x) := by rw [hw0]; exact Blk.new w _ 36
 have HB0 := Lib.hid (show Below w.heap.size w w0 by rw [hw0]; exact bal (Below.refl _ _) (Nat.le_refl _) _)
 have HL := Lib.hid (hl.below HB0.out)
 have HR := Lib.hid (h.below HB0.out)
 have HSB := Lib.hid hb
 have HSCH := Lib.hid (fun W (hW : Below w0.heap.size w0 W) => rCheckSchema_any x.ta x.tc x.types.length x.types W rfl (HL.out.below hW).kw (HR.out.below hW).types)
 have HPR := Lib.hid (fun W (hW : Below w0.heap.size w0 W) => rprint_any x.q W (HL.out.below hW) (HR.out.below hW).q hb.qb hb.qi)
 have HLH := Lib.hid (fun W (hW : Below w0.heap.size w0 W) => rlist_any x.ta x.tc x.types.length x.types x.ha x.hc x.held.length x.held W rfl rfl hb.hl (HL.out.below hW).kw (HR.out.below hW).types (HR.out.below hW).held hb.hb)
 have HLK := Lib.hid (fun W (hW : Below w0.heap.size w0 W) => rlist_any x.ta x.tc x.types.length x.types x.ka x.kc x.kept.length x.kept W rfl rfl hb.kl (HL.out.below hW).kw (HR.out.below hW).types (HR.out.below hW).kept hb.kb)
 obtain ⟨P, hP⟩ : ∃ P : Prop, P = StOK x := ⟨_, rfl⟩
 rw [← hP]
 have HP := Lib.hid hP
 have hwl := hb.wl
 have hul := hb.ul
 obtain ⟨types, ta, tc, ⟨items, ia, ic, mode, after, wher, wwa, wcap, within, by_, ret, ra, rc⟩, cap, mark, closed, held, ha, hc, kept, ka, kc, waiting, wa, wc', used, ua, uc⟩ := x
 dsimp only at hwl hul HSCH HLH HLK
 obtain ⟨nt, hnt⟩ : ∃ n, n = types.length := ⟨_, rfl⟩
 obtain ⟨ni, hni⟩ : ∃ n, n = items.length := ⟨_, rfl⟩
 obtain ⟨nwh, hnwh⟩ : ∃ n, n = wher.length := ⟨_, rfl⟩
 obtain ⟨nr, hnr⟩ : ∃ n, n = ret.length := ⟨_, rfl⟩
 obtain ⟨nh, hnh⟩ : ∃ n, n = held.length := ⟨_, rfl⟩
 obtain ⟨nk, hnk⟩ : ∃ n, n = kept.length := ⟨_, rfl⟩
 obtain ⟨nw, hnw⟩ : ∃ n, n = waiting.length := ⟨_, rfl⟩
 obtain ⟨nu, hnu⟩ : ∃ n, n = used.length := ⟨_, rfl⟩
 simp only [stc, qmc, T, ← hnt, ← hni, ← hnwh, ← hnr, ← hnh, ← hnk, ← hnw, ← hnu] at hE hw0 hwl hul HSCH HPR HLH HLK ⊢
 have HE := Lib.hid hE
 have HNW := Lib.hid hnw
 have HNU := Lib.hid hnu
 have HNH := Lib.hid hnh
 have HNK := Lib.hid hnk
 have s0 := hE.ci 0 rfl
 clear hl h hb hE hP hnt hni hnwh hnr hnh hnk hnw hnu
 go_enter Tryz.func15, Tryz.ntmps15
 go_wp2_with fail
 rw [← hw0]
 clear hw0
 refine (HSCH.out w0 (Below.refl _ _)).mono ?_
 rintro e w1 ⟨r, rfl, hr, hb1⟩
 have HR1 := Lib.hid hr
 have HB1 := Lib.hid hb1
 have HE1 := Lib.hid (HE.out.below hb1)
 clear s0 hr hb1
 by_cases hr0 : r = 0
 rotate_left
 ·have HNO := Lib.hid (show ¬ P by rw [HP.out]; exact fun hs => hr0 (HR1.out.2 hs.schema))
  have h1 : (r == 0) = false := by simpa using hr0
  have h2 : (r != 0) = true := by simpa using hr0
  clear hr0
  go_wp2_with fail
  go_ret
  exact .no rfl HNO.out (HB0.out.trans (HB1.out.mono HB0.out.size))
 have HSCHEMA := Lib.hid (HR1.out.1 hr0)
 subst hr0
 have s1 := HE1.out.ci 1 rfl
 have s2 := HE1.out.ci 2 rfl
 have s3 := HE1.out.ci 3 rfl
 have s4 := HE1.out.ci 4 rfl
 have s5 := HE1.out.ci 5 rfl
 have s6 := HE1.out.ci 6 rfl
 have s7 := HE1.out.ci 7 rfl
 go_wp2_with fail
 refine (HPR.out w1 HB1.out).mono ?_
 rintro e w2 ⟨r2, tx, rfl, hr2, _, hb2⟩
 have HR2 := Lib.hid hr2
 have HB2 := Lib.hid (HB1.out.trans (hb2.mono HB1.out.size))
 have HE2 := Lib.hid (HE1.out.below hb2)
 have c8 := HE2.out.ci 8 rfl
 have c9 := HE2.out.ci 9 rfl
 clear s1 s2 s3 s4 s5 s6 s7 hr2 hb2
 by_cases hr0 : r2 = 0
 rotate_left
 ·have HNO := Lib.hid (show ¬ P by rw [HP.out]; exact fun hs => hr0 (HR2.out.2 hs.query))
  have h1 : (r2 == 0) = false := by simpa using hr0
  have h2 : (r2 != 0) = true := by simpa using hr0
  clear hr0
  go_wp2_with fail
  go_ret
  exact .no rfl HNO.out (HB0.out.trans (HB2.out.mono HB0.out.size))
 have HQUERY := Lib.hid (HR2.out.1 hr0)
 subst hr0
 by_cases hc1 : cap < 1
 ·have HNO := Lib.hid (show ¬ P by rw [HP.out]; exact fun hs => by have := hs.cap.1; dsimp only at this; omega)
  go_wp2_with fail
  go_ret
  exact .no rfl HNO.out (HB0.out.trans (HB2.out.mono HB0.out.size))
 by_cases hc2 : 4096 < cap
 ·have HNO := Lib.hid (show ¬ P by rw [HP.out]; exact fun hs => by have := hs.cap.2; dsimp only at this; omega)
  go_wp2_with fail
  go_ret
  exact .no rfl HNO.out (HB0.out.trans (HB2.out.mono HB0.out.size))
 have HCAP := Lib.hid (show 1 ≤ cap ∧ cap ≤ 4096 by omega)
 obtain ⟨BM, hBM⟩ : ∃ B : Bool, B = decide (¬ (-1152921504606846977 ≤ mark ∧ mark ≤ 1152921504606846976)) := ⟨_, rfl⟩
 have HBM := Lib.hid hBM
 clear hBM
 go_upto_region 6 with fail
 go_cut [41] from 42 (fun v wx => v = .bool BM ∧ wx = w2)
 case first =>
  have hmc : (mark = -1152921504606846977 ∧ BM = false) ∨ (¬ mark = -1152921504606846977 ∧ mark < -1152921504606846976 ∧ BM = true) ∨ (¬ mark = -1152921504606846977 ∧ ¬ mark < -1152921504606846976 ∧ 1152921504606846976 < mark ∧ BM = true) ∨ (¬ mark = -1152921504606846977 ∧ ¬ mark < -1152921504606846976 ∧ ¬ 1152921504606846976 < mark ∧ BM = false) := by
   rw [HBM.out]
   simp only [decide_eq_false_iff_not, decide_eq_true_eq]
   omega
  rcases hmc with ⟨rfl, rfl⟩ | ⟨h1, h2, rfl⟩ | ⟨h1, h2, h3, rfl⟩ | ⟨h1, h2, h3, rfl⟩
  ·go_wp2_with fail
   go_meet
   case rel => exact ⟨rfl, rfl⟩
  all_goals (
   have h5 : (mark == -1152921504606846977) = false := by simpa using h1
   have h6 : (mark != -1152921504606846977) = true := by simpa using h1
   clear h1
   go_wp2_with fail
   go_meet
   case rel => exact ⟨rfl, rfl⟩)
 case rest =>
  obtain ⟨rfl, rfl⟩ := hcut
  cases hbm : BM with
  | true =>
   have HNO := Lib.hid (show ¬ P by
    rw [HP.out]
    intro hs
    have h1 := hs.mark
    dsimp only at h1
    have h2 := HBM.out
    rw [hbm] at h2
    have := of_decide_eq_true h2.symm
    exact this h1)
   clear hbm
   go_wp2_with fail
   go_ret
   exact .no rfl HNO.out (HB0.out.trans (HB2.out.mono HB0.out.size))
  | false =>
   have HMK := Lib.hid (show -1152921504606846977 ≤ mark ∧ mark ≤ 1152921504606846976 by
    have h2 := HBM.out
    rw [hbm] at h2
    have := of_decide_eq_false h2.symm
    exact Decidable.not_not.1 this)
   clear hbm c8 c9 hc1 hc2
   obtain ⟨MK, hMK⟩ : ∃ M : Nat → Prop, M = MOk waiting := ⟨_, rfl⟩
   obtain ⟨UK, hUK⟩ : ∃ M : Nat → Prop, M = UOk used := ⟨_, rfl⟩
   have HMKD := Lib.hid hMK
   have HUKD := Lib.hid hUK
   have s13 := HE2.out.ci 13 rfl
   clear hMK hUK
   go_wp2_with fail
   go_loopw [5] (fun i wr => ∃ k : Nat, k ≤ nw ∧ i = .int .i64 (k : Int) ∧ MK k ∧ Below w0.heap.size w0 wr) (fun i _ => nw - (intOf i).toNat)
   case atStart => exact ⟨0, Nat.zero_le _, rfl, by rw [HMKD.out]; exact ⟨fun i hi hk => by omega, fun i hi hk => by omega⟩, HB2.out⟩
   case round =>
    obtain ⟨k, hkn, rfl, hmk, hbw⟩ := hrel
    have HMKK := Lib.hid hmk
    have HBR := Lib.hid hbw
    have s13 := (HE.out.below hbw).ci 13 rfl
    clear hmk
    by_cases hlt : k < nw
    ·have hjl : k < waiting.length := by rw [← HNW.out]; exact hlt
     have hWR := (HR.out.below hbw).waiting
     dsimp only at hWR
     obtain ⟨b, off, hwa⟩ : ∃ b off, wa = some ⟨b, off, none⟩ := by
      obtain ⟨b, off, h, _⟩ := hWR.at k hjl
      exact ⟨b, off, h⟩
     obtain ⟨y, hy⟩ : ∃ y, y = waiting[k] := ⟨_, rfl⟩
     have hcl := hWR.cells k hjl b off hwa y hy
     have hyb := HSB.out.wb _ (List.getElem_mem (l := waiting) hjl)
     have hyl := hWR.2 _ (List.getElem_mem hjl)
     rw [← hy] at hyb hyl
     have HCELLS := Lib.hid (fun W (hW : Below w0.heap.size w0 W) => ((HR.out.below hW).waiting : RdM W wa waiting).cells k hjl b off hwa y hy)
     have HY := Lib.hid hy
     have HYB := Lib.hid hyb
     have HYL := Lib.hid (fun W (hW : Below w0.heap.size w0 W) => show RdMl W y by
      have h : RdM W wa waiting := (HR.out.below hW).waiting
      rw [hy]; exact h.2 _ (List.getElem_mem hjl))
     obtain ⟨⟨yd, yn, yl, yv⟩, yna, ync, yla, ylc, yva, yvc⟩ := y
     obtain ⟨nv, hnv⟩ : ∃ n, n = yv.length := ⟨_, rfl⟩
     obtain ⟨e0, e1, e2, e3⟩ := hcl
     dsimp only at e0 e1 e2 e3
     rw [← hnv] at e3
     have HCLN := Lib.hid (rclean_any yva yvc nv yv wr hnv (by have := hyb.vals; dsimp only at this; omega) hyl.2.2)
     have HME := Lib.hid (meas_lt hlt)
     have hlt' : (k : Int) < nw := by omega
     have hj0 : (0 : Int) ≤ k := by omega
     have HWA := Lib.hid hwa
     subst hwa
     clear hWR hy hyb hyl hbw hnv e0 e1 e2
     go_wp2_with fail
     refine (HCLN.out).mono ?_
     rintro e wv ⟨rfl, rfl⟩
     cases hcv : cleanB yv with
     | false =>
      have HNO := Lib.hid (show ¬ P by
       rw [HP.out]
       exact fun hs => MOk.no1 hjl (show k < waiting.length from hjl) (by rw [← HY.out]; exact hcv) hs.waiting)
      clear hcv
      go_wp2_with fail
      go_ret
      exact .no rfl HNO.out (HB0.out.trans (HBR.out.mono HB0.out.size))
     | true =>
      by_cases hk0 : k = 0
      ·have HPS := Lib.hid (show MK (k + 1) by
        rw [HMKD.out]
        have h : cleanB waiting[k].m.vals = true := by rw [← HY.out]; exact hcv
        subst hk0
        exact MOk.one hjl h)
       have h00 : ¬ (0 : Int) < k := by omega
       have h02 : ¬ 0 < k := by omega
       have h03 : decide (0 < k) = false := by simpa using h02
       clear hk0 hcv
       go_wp2_with fail
       go_quiet (fail)
       go_wp2_with fail
       go_roundw
       case rel => exact ⟨k + 1, hlt, by go_num, HPS.out, HBR.out.trans ((below_draws wv).mono HBR.out.size)⟩
       case measure => exact HME.out
      ·obtain ⟨p, rfl⟩ : ∃ p, k = p + 1 := ⟨k - 1, by omega⟩
       clear hk0
       have hjl2 : p < waiting.length := by omega
       obtain ⟨z, hz⟩ : ∃ z, z = waiting[p] := ⟨_, rfl⟩
       have HCELLZ := Lib.hid (fun W (hW : Below w0.heap.size w0 W) => ((HR.out.below hW).waiting : RdM W _ waiting).cells p hjl2 b off rfl z hz)
       have HZL := Lib.hid (fun W (hW : Below w0.heap.size w0 W) => show RdMl W z by
        have h : RdM W _ waiting := (HR.out.below hW).waiting
        rw [hz]; exact h.2 _ (List.getElem_mem hjl2))
       have hzb := HSB.out.wb _ (List.getElem_mem (l := waiting) hjl2)
       rw [← hz] at hzb
       have HBF := Lib.hid (fun W (hW : Below w0.heap.size w0 W) => rmbefore_any z ⟨⟨yd, yn, yl, yv⟩, yna, ync, yla, ylc, yva, yvc⟩ W (HZL.out W hW) (HYL.out W hW) hzb.names hzb.lens HYB.out.names HYB.out.lens)
       have HZ := Lib.hid hz
       obtain ⟨⟨zd, zn, zl, zv⟩, zna, znc, zla, zlc, zva, zvc⟩ := z
       have HBQ := Lib.hid (show Below wv.heap.size wv wv.drew from (Below.refl _ _).drew)
       obtain ⟨g0, g1, g2, g3⟩ := HCELLZ.out wv.drew (HBR.out.trans (HBQ.out.mono HBR.out.size))
       obtain ⟨f0, f1, f2, f3⟩ := HCELLS.out wv.drew (HBR.out.trans (HBQ.out.mono HBR.out.size))
       have t13 := (HE.out.below (HBR.out.trans (HBQ.out.mono HBR.out.size))).ci 13 rfl
       dsimp only at g0 g1 g2 g3 f0 f1 f2 f3
       have hp1 : (0 : Int) < (p : Int) + 1 := by omega
       have hp1' : decide ((0 : Int) < (p : Int) + 1) = true := by simp; try omega
       have hp2 : (p : Int) < nw := by omega
       have hp3 : (0 : Int) ≤ p := by omega
       have hp4 : IntKind.i64.wrap ((p : Int) + 1 - 1) = p := by rw [IntKind.wrap_i64]; omega
       have hp5 : IntKind.i64.wrap (p : Int) = p := by rw [IntKind.wrap_i64]; omega
       have hp6 : wrap64 (p : Int) = p := by unfold wrap64; omega
       have hp7 : (p : Int) + 1 < nw := by omega
       have hp8 : (0 : Int) ≤ (p : Int) + 1 := by omega
       have HCV := Lib.hid hcv
       simp only [mmc] at HBF
       clear hzb hz e3 s13 hcv
       go_wp2_with fail
       go_region_held3 (fun W => W.cell? ⟨w.heap.size, 13, none⟩ = some (.slice (some ⟨b, off, none⟩) nw wc') ∧ W.cell? ⟨b, off + p * 4, none⟩ = some (.int .i64 zd) ∧ W.cell? ⟨b, off + p * 4 + 1, none⟩ = some (.slice zna zn.length znc) ∧ W.cell? ⟨b, off + p * 4 + 2, none⟩ = some (.slice zla zl.length zlc) ∧ W.cell? ⟨b, off + p * 4 + 3, none⟩ = some (.slice zva zv.length zvc) ∧
         W.cell? ⟨b, off + (p + 1) * 4, none⟩ = some (.int .i64 yd) ∧ W.cell? ⟨b, off + (p + 1) * 4 + 1, none⟩ = some (.slice yna yn.length ync) ∧ W.cell? ⟨b, off + (p + 1) * 4 + 2, none⟩ = some (.slice yla yl.length ylc) ∧ W.cell? ⟨b, off + (p + 1) * 4 + 3, none⟩ = some (.slice yva yv.length yvc))
        (first | exact ⟨t13, g0, g1, g2, g3, f0, f1, f2, f3⟩ | (refine ⟨?_, ?_, ?_, ?_, ?_, ?_, ?_, ?_, ?_⟩ <;> assumption)) (first
        | (go_at_call 43; refine (HBF.out _ (HBR.out.trans (HBQ.out.mono HBR.out.size))).mono ?_; rintro e wD ⟨rfl, hbD⟩; (have HBQ := Lib.hid (HBQ.out.trans (hbD.mono HBQ.out.size))); (obtain ⟨g0, g1, g2, g3⟩ := HCELLZ.out _ (HBR.out.trans (HBQ.out.mono HBR.out.size))); (obtain ⟨f0, f1, f2, f3⟩ := HCELLS.out _ (HBR.out.trans (HBQ.out.mono HBR.out.size))); (have t13 := (HE.out.below (HBR.out.trans (HBQ.out.mono HBR.out.size))).ci 13 rfl); clear hbD))
       have HB3 := Lib.hid (HBR.out.trans (HBQ.out.mono HBR.out.size))
       clear g0 g1 g2 g3 f0 f1 f2 f3 t13
       cases hlt2 : mtLt ⟨zd, zn, zl, zv⟩ ⟨yd, yn, yl, yv⟩ with
       | true =>
        have HPS := Lib.hid (show MK (p + 1 + 1) by
         rw [HMKD.out]
         exact MOk.step hjl (by have := HMKK.out; rw [HMKD.out] at this; exact this) (by rw [← HY.out]; exact HCV.out) (by rw [← HY.out, ← HZ.out]; exact hlt2))
        clear hlt2
        go_wp2_with fail
        go_roundw
        case rel => exact ⟨p + 1 + 1, hlt, by go_num, HPS.out, HB3.out⟩
        case measure => exact HME.out
       | false =>
        have HNO := Lib.hid (show ¬ P by
         rw [HP.out]
         exact fun hs => MOk.no2 hjl (show p + 1 < waiting.length from hjl) (by rw [← HY.out, ← HZ.out]; exact hlt2) hs.waiting)
        clear hlt2
        go_wp2_with fail
        go_ret
        exact .no rfl HNO.out (HB0.out.trans (HB3.out.mono HB0.out.size))
    ·have hk' : ¬ (k : Int) < nw := by omega
     have HMW := Lib.hid (show MOk waiting waiting.length by
      have h := HMKK.out
      rw [HMKD.out, show k = waiting.length by rw [← HNW.out]; omega] at h
      exact h)
     have s14 := (HE.out.below hbw).ci 14 rfl
     obtain ⟨wv, rfl⟩ : ∃ wv, wv = wr := ⟨_, rfl⟩
     clear hbw
     go_wp2_with fail
     have HBV := Lib.hid HBR.out
     go_loopw [6] (fun i wr => ∃ k : Nat, 1 ≤ k ∧ (k ≤ nu ∨ k = 1) ∧ i = .int .i64 (k : Int) ∧ UK k ∧ Below w0.heap.size w0 wr) (fun i _ => nu - (intOf i).toNat)
     case atStart => exact ⟨1, Nat.le_refl _, .inr rfl, rfl, by rw [HUKD.out]; exact fun i hi hk => by omega, HBV.out⟩
     case round =>
      obtain ⟨k, hk1, hkn, rfl, huk, hbw⟩ := hrel
      have HUKK := Lib.hid huk
      have HBR := Lib.hid hbw
      have s14 := (HE.out.below hbw).ci 14 rfl
      clear huk
      by_cases hlt : k < nu
      ·obtain ⟨p, rfl⟩ : ∃ p, k = p + 1 := ⟨k - 1, by omega⟩
       have hjl : p + 1 < used.length := by rw [← HNU.out]; exact hlt
       have hjl2 : p < used.length := by omega
       have hlt' : (p : Int) + 1 < nu := by omega
       obtain ⟨b, off, hua⟩ : ∃ b off, ua = some ⟨b, off, none⟩ := by
        obtain ⟨b, off, h, _⟩ := (show RdNm _ ua used from (HR.out.below hbw).used).at p hjl2
        exact ⟨b, off, h⟩
       obtain ⟨y, hy⟩ : ∃ y, y = used[p + 1] := ⟨_, rfl⟩
       obtain ⟨z, hz⟩ : ∃ z, z = used[p] := ⟨_, rfl⟩
       have HCELLS := Lib.hid (fun W (hW : Below w0.heap.size w0 W) => show W.cell? ⟨b, off + p * 2, none⟩ = some (.int .i64 z.ts) ∧ W.cell? ⟨b, off + p * 2 + 1, none⟩ = some (.int .u64 (z.id : Int)) ∧ W.cell? ⟨b, off + (p + 1) * 2, none⟩ = some (.int .i64 y.ts) ∧ W.cell? ⟨b, off + (p + 1) * 2 + 1, none⟩ = some (.int .u64 (y.id : Int)) by
        have hu : RdNm W ua used := (HR.out.below hW).used
        obtain ⟨b1, o1, q1, q2, q3⟩ := hu.at p hjl2
        obtain ⟨b2, o2, r1, r2, r3⟩ := hu.at (p + 1) hjl
        rw [hua] at q1 r1
        cases q1; cases r1
        rw [hy, hz]
        exact ⟨q2, q3, r2, r3⟩)
       have HYZ := Lib.hid (And.intro hy hz)
       obtain ⟨yt, yi⟩ := y
       obtain ⟨zt, zi⟩ := z
       dsimp only at HCELLS
       have HME := Lib.hid (meas_lt hlt)
       have HBQ := Lib.hid (show Below wr.heap.size wr wr.drew from (Below.refl _ _).drew)
       obtain ⟨g0, g1, f0, f1⟩ := HCELLS.out wr.drew (HBR.out.trans (HBQ.out.mono HBR.out.size))
       have t14 := (HE.out.below (HBR.out.trans (HBQ.out.mono HBR.out.size))).ci 14 rfl
       have hp2 : (p : Int) < nu := by omega
       have hp3 : (0 : Int) ≤ p := by omega
       have hp4 : IntKind.i64.wrap ((p : Int) + 1 - 1) = p := by rw [IntKind.wrap_i64]; omega
       have hp5 : IntKind.i64.wrap (p : Int) = p := by rw [IntKind.wrap_i64]; omega
       have hp6 : wrap64 (p : Int) = p := by unfold wrap64; omega
       have hp8 : (0 : Int) ≤ (p : Int) + 1 := by omega
       subst hua
       clear hy hz hbw
       go_wp2_with fail
       clear s14
       go_region_held3 (fun W => W.cell? ⟨w.heap.size, 14, none⟩ = some (.slice (some ⟨b, off, none⟩) nu uc) ∧ W.cell? ⟨b, off + p * 2, none⟩ = some (.int .i64 zt) ∧ W.cell? ⟨b, off + p * 2 + 1, none⟩ = some (.int .u64 (zi : Int)) ∧ W.cell? ⟨b, off + (p + 1) * 2, none⟩ = some (.int .i64 yt) ∧ W.cell? ⟨b, off + (p + 1) * 2 + 1, none⟩ = some (.int .u64 (yi : Int)))
        (first | exact ⟨t14, g0, g1, f0, f1⟩ | (refine ⟨?_, ?_, ?_, ?_, ?_⟩ <;> assumption)) (first
        | (go_at_call 44; refine (rbefore_any ⟨zt, zi⟩ ⟨yt, yi⟩ _).mono ?_; rintro e wD ⟨rfl, hbD⟩; (have HBQ := Lib.hid (HBQ.out.trans (hbD.mono HBQ.out.size))); (obtain ⟨g0, g1, f0, f1⟩ := HCELLS.out _ (HBR.out.trans (HBQ.out.mono HBR.out.size))); (have t14 := (HE.out.below (HBR.out.trans (HBQ.out.mono HBR.out.size))).ci 14 rfl); clear hbD))
       have HB3 := Lib.hid (HBR.out.trans (HBQ.out.mono HBR.out.size))
       clear g0 g1 f0 f1 t14
       cases hlt2 : nmLt ⟨zt, zi⟩ ⟨yt, yi⟩ with
       | true =>
        have HPS := Lib.hid (show UK (p + 1 + 1) by
         rw [HUKD.out]
         exact UOk.step hjl (by have := HUKK.out; rw [HUKD.out] at this; exact this) (by rw [← HYZ.out.1, ← HYZ.out.2]; exact hlt2))
        clear hlt2
        go_wp2_with fail
        go_roundw
        case rel => exact ⟨p + 1 + 1, by omega, .inl (by omega), by go_num, HPS.out, HB3.out⟩
        case measure => exact HME.out
       | false =>
        have HNO := Lib.hid (show ¬ P by
         rw [HP.out]
         exact fun hs => UOk.no2 hjl (show p + 1 < used.length from hjl) (by rw [← HYZ.out.1, ← HYZ.out.2]; exact hlt2) hs.used)
        clear hlt2
        go_wp2_with fail
        go_ret
        exact .no rfl HNO.out (HB0.out.trans (HB3.out.mono HB0.out.size))
      ·have hk' : ¬ (k : Int) < nu := by omega
       have HUW := Lib.hid (show UOk used used.length by
        have h := HUKK.out
        rw [HUKD.out] at h
        rcases hkn with hkn | hkn
        ·rw [show k = used.length by rw [← HNU.out]; omega] at h
         exact h
        ·exact fun i hi hk => by rw [← HNU.out] at hi; omega)
       have s0 := (HE.out.below hbw).ci 0 rfl
       have s11 := (HE.out.below hbw).ci 11 rfl
       have HLHc := Lib.hid (HLH.out _ hbw)
       clear hbw
       go_wp2_with fail
       refine (HLHc.out).mono ?_
       rintro e wx ⟨rh, rfl, hrh, hbx⟩
       have HRH := Lib.hid (show rh = true ↔ LOk (tys types) held held.length by rw [← HNH.out]; exact hrh)
       have HBX := Lib.hid (HBR.out.trans (hbx.mono HBR.out.size))
       have t0 := (HE.out.below HBX.out).ci 0 rfl
       have t12 := (HE.out.below HBX.out).ci 12 rfl
       clear hrh hbx s0 s11 s14
       cases hrb : rh with
       | false =>
        have HNO := Lib.hid (show ¬ P by
         rw [HP.out]
         intro hs
         have h1 := hs.held
         dsimp only at h1
         have h2 := HRH.out.2 h1
         rw [hrb] at h2; cases h2)
        clear hrb
        go_wp2_with fail
        go_ret
        exact .no rfl HNO.out (HB0.out.trans (HBX.out.mono HB0.out.size))
       | true =>
        have HHELD := Lib.hid (HRH.out.1 hrb)
        clear hrb
        go_wp2_with fail
        refine (HLK.out _ HBX.out).mono ?_
        rintro e wz ⟨rk, rfl, hrk, hbz⟩
        have HBZ := Lib.hid (HB0.out.trans ((HBX.out.trans (hbz.mono HBX.out.size)).mono HB0.out.size))
        have hrk := (show rk = true ↔ LOk (tys types) kept kept.length by rw [← HNK.out]; exact hrk)
        have HIFF := Lib.hid (show rk = true ↔ P by
         rw [HP.out]
         exact ⟨fun h => ⟨HSCHEMA.out, HQUERY.out, HCAP.out, HMK.out, HMW.out, HUW.out, HHELD.out, hrk.1 h⟩, fun hs => hrk.2 hs.kept⟩)
        clear hrk hbz t0 t12
        go_wp2_with fail
        go_ret
        exact ⟨rk, rfl, HIFF.out, HBZ.out⟩
end Go.Proofs.YtfglgpbjjpoimaaGreatDoor
