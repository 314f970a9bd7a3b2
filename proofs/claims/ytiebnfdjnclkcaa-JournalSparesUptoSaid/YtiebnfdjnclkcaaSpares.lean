/- The walk of JournalSpares. -/
import Derived.Test.YtiebnfdjnclkcaaReads
import Derived.Test.YtiebnfdjnclkcaaW15
import Derived.Test.YtiebnfdjnclkcaaW16
import Derived.IntWalk
set_option linter.unusedVariables false
namespace Go.Proofs.Ytiebnfdjnclkcaa
open Go.RowKit

theorem scanIs_ex (l : List UInt8) : ∃ rs k, ScanIs l rs k := by
  obtain ⟨n, hn⟩ : ∃ n, l.length ≤ n := ⟨_, Nat.le_refl _⟩
  induction n generalizing l with
  | zero => exact ⟨[], 0, rfl, l, by simp [logOf_nil], by simp, standB_short l (by omega)⟩
  | succ n ih =>
    cases h : standB l with
    | none => exact ⟨[], 0, rfl, l, by simp [logOf_nil], by simp, h⟩
    | some r =>
      obtain ⟨h0, rest, rfl⟩ := standB_some h
      rw [List.length_append, recB_len] at hn
      obtain ⟨rs, k, _, rest2, e, h1, h2⟩ := ih rest (by omega)
      refine ⟨r :: rs, _, rfl, rest2, by rw [logOf_cons, e, List.append_assoc], fun x hx => ?_, h2⟩
      rcases List.mem_cons.1 hx with rfl | hx
      · exact h0
      · exact h1 x hx
theorem mark_u8 (n : Nat) : (n : Int) % 256 = ((UInt8.ofNat n).toNat : Int) := by
  rw [UInt8.toNat_ofNat']
  omega

theorem wrap_u8 (n : Nat) : IntKind.u8.wrap (n : Int) = ((UInt8.ofNat n).toNat : Int) := by
  rw [← mark_u8]
  simp [IntKind.wrap]
  rfl
theorem num_le {p nv : Nat} (h1 : p ≤ 82595524) (h2 : nv ≤ 82595524) : 2 + p + nv + p ≤ 4294967296 := by omega
theorem le_big {k : Nat} (h : k ≤ 2147483646) : k ≤ 4294967296 := by omega
theorem meas_lt {q k : Nat} (h : q < k) : k - (intOf (.int .i64 ((q : Int) + 1))).toNat < k - (intOf (.int .i64 (q : Int))).toNat := by
  simp [intOf]
  omega
theorem full_x (a : Option Addr) (cap n : Nat) (u : UInt8) (x : Int) (w : World) (hmax : n ≤ 140737488355328) (h : Rd w a ((List.replicate n u).map B)) (hx : x = (u.toNat : Int)) :
    Calls Try.prog 28 #[.slice a n cap, .int .u8 x] w fun e w' => e = .returned (.bool true) ∧ w = w' := by
  subst hx
  exact full_any a cap n u w hmax h

set_option maxRecDepth 20000 in
set_option maxHeartbeats 8000000 in
theorem spares_walk (a b : Option Addr) (cap n cap2 m : Nat) (rs : List (List UInt8)) (bl : List UInt8) (w : World) (hn : rs.length = n) (hB : logBound rs ≤ 1073741823) (h : RdR w a rs)
    (hm : bl.length = m) (hm2 : m ≤ 1073741823) (hb : Rd w b (bl.map B)) :
    Calls Try.prog 9 #[.slice a n cap, .slice b m cap2] w fun e w' => e = .returned (.bool true) ∧ Below w.heap.size w w' := by
  have HN := Lib.hid hn
  have HM := Lib.hid hm
  have hkb := logBound_keep rs
  have HB := Lib.hid hB
  have hnB : n ≤ 1073741823 := by have := logBound_len rs; omega
  clear hn hm
  go_enter Try.func9, Try.ntmps9
  go_wp2_with fail
  refine (beyond_small a cap n rs w HN.out (by have := HB.out; omega) h).mono ?_
  rintro e w1 ⟨rfl, rfl⟩
  go_wp2_with fail
  refine (written_any a cap n rs w HN.out (by have := HB.out; omega) h).mono ?_
  rintro e w1 ⟨a1, c1, vs, a2, c2, a3, c3, rfl, hown1, hkept, hown2, hown3, hb1⟩
  have hlen : (logOf (keep rs)).length ≤ 1073741823 := by omega
  obtain ⟨ks, hks⟩ : ∃ ks, ks = keep rs := ⟨_, rfl⟩
  have hne : ∀ r ∈ ks, r ≠ [] := by rw [hks]; exact keep_ne
  rw [← hks] at hown1 hkept hown2 hown3 hlen ⊢
  have hkl := logOf_len ks hne
  obtain ⟨L, hL⟩ : ∃ L, L = (logOf ks).length := ⟨_, rfl⟩
  obtain ⟨M, hM⟩ : ∃ M, M = ks.length := ⟨_, rfl⟩
  rw [← hL] at hown2 hlen hkl ⊢
  rw [← hM] at hown3 hkl ⊢
  have hl1 := ownsRow_rd hown2
  have hb_1 := hb.below hb1
  have HLn := Lib.hid hL
  have HMn := Lib.hid hM
  have HNE := Lib.hid hne
  have hMb : M ≤ 1073741823 := by omega
  clear hown1 hown2 hown3 hkept hks hL hM hne hkl hkb hB
  go_wp2_with fail
  refine (twin_n a2 c2 L (logOf ks) w1 HLn.out.symm (by omega) hl1).mono ?_
  rintro e w2 ⟨a7, c7, rfl, hown7, hb2⟩
  have hb_2 := hb_1.below hb2
  have hz2 := hb2.size
  clear hl1 hb_1
  go_wp2_with (first | (at_builtin; refine app_b w2 rfl _ _ rfl w1.heap.size (.slice a7 L c7) L (logOf ks) rfl hown7 b m cap2 bl rfl HM.out hb_2 (by omega) hz2 ?_; intro a10 c10 w3 hown10 hb3 hmv3) | fail)
  have bb2 := hb2.trans hb3
  have bb3 := hb1.trans (bb2.mono hb1.size)
  have hr3 := ownsRow_rd hown10
  have hc10 := own_cap hown10
  obtain ⟨lg, hlg⟩ : ∃ lg, lg = logOf ks ++ bl := ⟨_, rfl⟩
  rw [← hlg] at hr3
  have hbl : lg.length = L + m := by rw [hlg, List.length_append, ← HLn.out, HM.out]
  obtain ⟨T, hT⟩ : ∃ T, T = L + m := ⟨_, rfl⟩
  rw [← hT] at hc10 hbl ⊢
  have HBL := Lib.hid hbl
  have HLG := Lib.hid hlg
  have hTb : T ≤ 2147483646 := by omega
  clear hlg hbl hT hown7 hown10 hmv3 hb2 hb3 hb_2 hz2 bb2
  go_wp2_with fail
  refine (twin_n a10 c10 T lg w3 HBL.out (by omega) hr3).mono ?_
  rintro e w4 ⟨a11, c11, rfl, hown11, hb4⟩
  have hr4 := hr3.below hb4
  have hg4 := ownsRow_rd hown11
  have bb4 := bb3.trans (hb4.mono bb3.size)
  have hz4 := bb4.size
  clear hr3 hown11 hb4 bb3
  go_wp2_with fail
  refine (scan_any a10 c10 T lg w4 HBL.out hc10 (by omega) hr4).mono ?_
  rintro e w5 ⟨a12, c12, vs12, rs12, k12, rfl, hown12, hrecs12, hdis12, hscan12, hb5⟩
  have HR4 := Lib.hid hr4
  have HG4 := Lib.hid hg4
  have b45 := hb5
  have hr5 := hr4.below hb5
  have hg5 := hg4.below hb5
  have bb5 := bb4.trans (hb5.mono bb4.size)
  have hz5 := hb5.size
  have hMr : M ≤ rs12.length := by
    obtain ⟨ls, k8, hs8⟩ := scanIs_ex bl
    have hsc := scan_ahead HNE.out hs8
    rw [← HLG.out] at hsc
    obtain ⟨hre, -⟩ := hscan12.unique hsc (by rw [HBL.out]; simp only [big]; omega)
    rw [hre, List.length_append, HMn.out]
    omega
  obtain ⟨ts, hts, htl, hwi, htn⟩ := hrecs12.within hdis12
  have hlne := hscan12.2.choose_spec.2.1
  have hkeq := hscan12.1
  have hkle := hscan12.le
  have hll := logOf_len rs12 hlne
  have hsm := scan_small hscan12 HBL.out (by omega)
  rw [← hkeq] at hll
  rw [HBL.out] at hkle
  obtain ⟨Q, hQ⟩ : ∃ Q, Q = rs12.length := ⟨_, rfl⟩
  rw [← hQ] at hown12 htl hMr hll ⊢
  have hown12' : w5.ownsRow w4.heap.size 22 1 (.slice a12 Q c12) Q (ts.map It.val) := by rw [← hts]; exact hown12
  have hSC := Lib.hid hscan12
  have HSM := Lib.hid hsm
  have HLNE := Lib.hid hlne
  have HKE := Lib.hid hkeq
  have HQ := Lib.hid hQ
  have HTL := Lib.hid htl
  have HWI := Lib.hid hwi
  have HTN := Lib.hid htn
  have hQb : Q ≤ 2147483646 := by omega
  clear hr4 hg4 hown12 hrecs12 hdis12 hscan12 hb5 bb4 hsm hlne hkeq hQ htl hwi htn hts
  go_wp2_with fail
  refine (scan_any a10 c10 T lg w5 HBL.out hc10 (by omega) hr5).mono ?_
  rintro e w6 ⟨a13, c13, vs13, rs13, k13, rfl, hown13, hrecs13, hdis13, hscan13, hb6⟩
  obtain ⟨hre, hke⟩ := hscan13.unique hSC.out (by rw [HBL.out]; simp only [big]; omega)
  subst hre
  rw [hke]
  rw [← HQ.out] at hown13 ⊢
  have hr6 := hr5.below hb6
  have hg6 := hg5.below hb6
  have bb6 := bb5.trans (hb6.mono bb5.size)
  have b46 := b45.trans (hb6.mono hz5)
  have hl6 := ownsRow_below hown12' hb6
  have hz6 := hb6.size
  have HW6 := Lib.hid (HWI.out.below hb6)
  clear hke hdis13 hscan13 hr5 hg5 hown12' HWI bb5 hb6
  go_wp2_with fail
  refine (repair_any a10 c10 T lg w6 HBL.out hc10 (by omega) hr6).mono ?_
  rintro e w7 ⟨a14, c14, rs14, k14, hscan14, rfl, hown14, hb7⟩
  obtain ⟨hre, hke⟩ := hscan14.unique hSC.out (by rw [HBL.out]; simp only [big]; omega)
  rw [hke, hre] at hown14
  rw [hke]
  have hr7 := hr6.below hb7
  have hg7 := hg6.below hb7
  have bb7 := bb6.trans (hb7.mono bb6.size)
  have b47 := b46.trans (hb7.mono b46.size)
  have hl7 := ownsRow_below hl6 hb7
  have hk7 := ownsRow_below hown13 hb7
  have hkr7 := hrecs13.below hb7
  have hz7 := hb7.size
  have HW7 := Lib.hid (HW6.out.below hb7)
  have HE1 := Lib.hid hre
  have hQQ : ((Q : Int) != (Q : Int)) = false := by simp
  have hkk : ((k12 : Int) != (k12 : Int)) = false := by simp
  have hMQ : ¬ (Q : Int) < (M : Int) := by omega
  have hrr7 := ownsRow_rd hown14
  clear hke hre hscan14 hr6 hg6 hl6 hown13 hrecs13 HW6 bb6 hb7
  go_wp2_with fail
  refine (twin_n a14 c14 k12 (logOf rs13) w7 HKE.out.symm (by omega) hrr7).mono ?_
  rintro e w8 ⟨a15, c15, rfl, hown15, hb8⟩
  have hr8 := hr7.below hb8
  have hg8 := hg7.below hb8
  have bb8 := bb7.trans (hb8.mono bb7.size)
  have b48 := b47.trans (hb8.mono b47.size)
  have hl8 := ownsRow_below hl7 hb8
  have hk8 := ownsRow_below hk7 hb8
  have hkr8 := hkr7.below hb8
  have hz8 := hb8.size
  have HW8 := Lib.hid (HW7.out.below hb8)
  have ho14 := ownsRow_below hown14 hb8
  have HO145 := Lib.hid (off_range (a := a14) (b := a15) (fun g hg => hown14.lt g (by rw [own_blk hown14]; exact hg)) (fun g hg => hown15.lt g (by rw [own_blk hown15]; exact hg)) (.inl (Nat.le_refl _)))
  clear hr7 hg7 hl7 hk7 hkr7 HW7 bb7 hb8 hrr7 hown14 hQQ hkk hMQ b45 b46 b47 hr8 hg8
  have hmk0 : Marked w8 w4.heap.size 0 ts := ⟨fun t ht => (HW8.out.1 t ht).1, fun i hi h0 => by omega⟩
  obtain ⟨lo, hlo⟩ : ∃ lo, lo = w4.heap.size := ⟨_, rfl⟩
  obtain ⟨hi', hhi⟩ : ∃ hi', hi' = w5.heap.size := ⟨_, rfl⟩
  have HRG := Lib.hid (fun t ht => (HW8.out.1 t ht).2)
  have HOFF := Lib.hid HW8.out.offs
  rw [← hlo, ← hhi] at HRG
  rw [← hlo] at hmk0 hl8 hz5 hz4
  rw [← hhi] at hz6 hk8 hkr8 hz5
  have htnb : ∀ t ∈ ts, t.n ≤ 2147483646 := by
    intro t ht
    obtain ⟨r, hr, e⟩ := HTN.out t ht
    have := logOf_mem_len hr
    have := HKE.out
    omega
  have HTNB := Lib.hid htnb
  have hle : ∀ r ∈ rs13, r.length ≤ 2147483646 := by
    intro r hr
    have := logOf_mem_len hr
    have := HKE.out
    omega
  have HLE := Lib.hid hle
  have HK12B := Lib.hid (show k12 ≤ 2147483646 by omega)
  clear hle
  have hlow8 : lo ≤ w8.heap.size := by omega
  have HLO := Lib.hid hlo
  have hz4' : w.heap.size ≤ w4.heap.size := by rw [← hlo]; exact hz4
  have B48 := Lib.hid b48
  clear hlo hhi htnb HW8 b48
  go_wp2
  go_loopw [16] (fun i wr => ∃ q : Nat, q ≤ Q ∧ i = .int .i64 (q : Int) ∧ Marked wr lo q ts ∧ wr.ownsRow lo 22 1 (.slice a12 Q c12) Q (ts.map It.val) ∧ Only lo hi' w8 wr) (fun i _ => Q - (intOf i).toNat)
  case atStart => exact ⟨0, Nat.zero_le _, rfl, hmk0, hl8, Only.refl _ _ _⟩
  case round =>
    obtain ⟨q, hq, rfl, hmk, hl, hon⟩ := hrel
    by_cases hqk : q < Q
    · have hqk' : (q : Int) < Q := by omega
      have hql : q < ts.length := by rw [HTL.out]; exact hqk
      obtain ⟨g0, rfl, hg0, hg0'⟩ := own_some hl (by omega)
      have hcell := hl.cellAt q (by omega)
      rw [List.getElem?_map, List.getElem?_eq_getElem hql, Option.map_some, It.val] at hcell
      obtain ⟨t, ht⟩ : ∃ t, t = ts[q] := ⟨_, rfl⟩
      rw [← ht] at hcell
      have htm : t ∈ ts := by rw [ht]; exact List.getElem_mem hql
      have hnb := HTNB.out t htm
      obtain ⟨xl, hxl, hxo⟩ := hmk.1 t htm
      have HT := Lib.hid ht
      have HMK := Lib.hid hmk
      have HON := Lib.hid hon
      have HL := Lib.hid hl
      have hwu := mark_u8 (q + 1)
      obtain ⟨u, hu⟩ : ∃ u, u = UInt8.ofNat (q + 1) := ⟨_, rfl⟩
      rw [← hu] at hwu
      have HWU := Lib.hid hwu
      have HU := Lib.hid hu
      clear ht hmk hon hu htm hwu
      obtain ⟨wo, hwo⟩ : ∃ wo, wo = wr := ⟨_, rfl⟩
      subst hwo
      go_wp2
      go_loopw [17] (fun i w1 => ∃ p : Nat, p ≤ t.n ∧ i = .int .i64 (p : Int) ∧ w1.ownsRow lo 5 1 (.slice t.a t.n t.c) t.n ((List.replicate p u).map B ++ (xl.map B).drop p) ∧ wo.grownBy w1 (blk t.a)) (fun i _ => t.n - (intOf i).toNat)
      case atStart => exact ⟨0, Nat.zero_le _, rfl, by simpa using hxo, grown_refl _ _⟩
      case round =>
        obtain ⟨p, hp, rfl, hop, hg⟩ := hrel
        have hlr := own22_kept HL.out ⟨t.c, hxo⟩ hg
        have hcell2 := cell_again hqk HL.out hlr hcell
        by_cases hpk : p < t.n
        · have hpk' : (p : Int) < t.n := by omega
          obtain ⟨ta, tn, tc⟩ := t
          dsimp only at hop hg hcell2 hpk hpk' hnb hxl hxo hcell hp
          obtain ⟨g, rfl, hg1, hg2⟩ := own_some hop (by omega)
          have hc := hop.cellAt p (by omega)
          have hfr := hop.frozenAt p
          have hst := hop.stored p (B u)
          have hlk : ((List.replicate p u).map B).length = p := by simp
          have hpx : p < (xl.map B).length := by simp [hxl, hpk]
          have hset : (((List.replicate p u).map B) ++ (xl.map B).drop p).set p (B u) = ((List.replicate (p + 1) u).map B) ++ (xl.map B).drop (p + 1) := by
            rw [List.set_append_right _ _ (by omega), hlk, Nat.sub_self, List.drop_eq_getElem_cons hpx, List.set_cons_zero, List.replicate_succ', List.map_append]
            simp
          rw [hset] at hst
          rw [List.getElem?_append_right (by omega), hlk, Nat.sub_self, List.getElem?_drop, Nat.add_zero, List.getElem?_eq_getElem hpx] at hc
          obtain ⟨y, hy⟩ : ∃ y, y = (xl.map B)[p] := ⟨_, rfl⟩
          rw [← hy] at hc
          have HO := Lib.hid hst.1
          have HG := Lib.hid (grown_trans hg hst.2)
          have HXO := Lib.hid hxo
          have hq0 : (0 : Int) ≤ (q : Int) := by omega
          unfold B at HO HG
          clear hst hset hy hlk hop hg hxo hlr hcell hpx
          go_wp2
          have hwu2 : ((q : Int) + 1) % 256 = (u.toNat : Int) := HWU.out
          rw [hwu2]
          go_roundw
          case rel => exact ⟨p + 1, by omega, by go_num, HO.out, HG.out⟩
          case measure => simp [intOf]; omega
        · have hpe : p = t.n := by omega
          have hpk' : ¬ (p : Int) < t.n := by omega
          rw [hpe, List.drop_eq_nil_of_le (by simp [hxl]), List.append_nil] at hop
          have hxs : (List.replicate t.n u).map B = Xs q t.n := by rw [HU.out]; rfl
          rw [hxs] at hop
          have hmk2 : Marked wr lo (q + 1) ts := by
            have h1 := HMK.out
            have hg2 := hg
            have hop2 := hop
            rw [HT.out] at hg2 hop2
            exact Marked.step h1 HOFF.out hql hg2 hop2
          have hon2 := HON.out.grown hg fun g hgg => .inl (HRG.out t (by rw [HT.out]; exact List.getElem_mem hql) g hgg)
          have HMK2 := Lib.hid hmk2
          have HON2 := Lib.hid hon2
          have HLR := Lib.hid hlr
          clear hop hmk2 hon2 hg hlr hpe hp hxs
          go_wp2
          go_roundw
          case rel => exact ⟨q + 1, by omega, by go_num, HMK2.out, HLR.out, HON2.out⟩
          case measure => simp [intOf]; omega
    · have hqe : q = Q := by omega
      have hqk' : ¬ (q : Int) < Q := by omega
      subst hqe
      have hmore := More.start (by rw [HTL.out]; exact hmk)
      have htwo := TwoOk.start (N := q) hmk.1 HOFF.out
      have HM0 := Lib.hid hmore
      have HT0 := Lib.hid htwo
      have hzr := hon.size
      have hbr := hon.below hlow8
      have HON := Lib.hid hon
      clear hmk hmore htwo hqk hq hmk0
      rename_i wr0 _
      obtain ⟨W0, hW0⟩ : ∃ W0, W0 = wr := ⟨_, rfl⟩
      rw [← hW0] at hl HM0 HT0 HON hzr hbr ⊢
      clear hW0
      go_wp2
      go_loopw [18, 19] (fun v i wr => ∃ (k : Nat) (am : Option Addr) (cm : Nat) (vm : List Value) (TT : Nat → Two), k ≤ q ∧ i = .int .i64 (k : Int) ∧ v = .slice am k cm ∧ wr.ownsRow W0.heap.size 22 1 v k vm ∧ LongAt vm k TT ∧ TwoOk wr lo q k ts TT ∧ More wr lo k ts TT ∧
        wr.ownsRow lo 22 1 (.slice a12 q c12) q (ts.map It.val) ∧ Off am a12 ∧ Only lo hi' W0 wr) (fun _ i _ => q - (intOf i).toNat)
      case atStart => exact ⟨0, none, 0, [], T0 ts, Nat.zero_le _, rfl, rfl, World.ownsRow_nil _ _ _ _, ⟨rfl, fun i h => by omega⟩, HT0.out, HM0.out, hl, .inl rfl, Only.refl _ _ _⟩
      case round =>
        obtain ⟨k, am, cm, vm, TT, hk, rfl, rfl, hlong, hat, hok, hmo, hout, hoa, hon⟩ := hrel
        by_cases hlt : k < q
        · have hkl : k < ts.length := by rw [HTL.out]; exact hlt
          obtain ⟨g0, rfl, hg0, hg0'⟩ := own_some hout (by omega)
          have hcell := hout.cellAt k (by omega)
          rw [List.getElem?_map, List.getElem?_eq_getElem hkl, Option.map_some, It.val] at hcell
          have hlt' : (k : Int) < q := by omega
          obtain ⟨t, ht⟩ : ∃ t, t = ts[k] := ⟨_, rfl⟩
          have hx := hmo.2 k hkl (Nat.le_refl _)
          rw [← ht] at hcell hx
          have htn := HTNB.out t (by rw [ht]; exact List.getElem_mem hkl)
          have hmu := mark_u8 (k + 101)
          obtain ⟨u, hu⟩ : ∃ u, u = UInt8.ofNat (k + 101) := ⟨_, rfl⟩
          rw [← hu] at hmu
          have HMU := Lib.hid (show ((k : Int) + 101) % 256 = (u.toNat : Int) from hmu)
          have HU := Lib.hid hu
          have HT := Lib.hid ht
          have HOK := Lib.hid hok
          have HAT := Lib.hid hat
          have HMO := Lib.hid hmo
          have HL1 := Lib.hid hlong
          have HO1 := Lib.hid hout
          have HN1 := Lib.hid hon
          have HOA := Lib.hid hoa
          have hz0 := hon.size
          clear ht hok hat hmo hu hmu hlong hout hon hoa hk
          go_wp2_with fail
          rw [HMU.out]
          refine (long_any lo t.a t.c t.n u (List.replicate t.n (UInt8.ofNat (k + 1))) wr (by omega) (by omega) hx).mono ?_
          rintro e w9 ⟨a1', c1', rfl, hlg⟩
          have hcap := own_capn hlg.1
          have hys : (List.replicate 99 u).map B = Ys k := by rw [HU.out]; rfl
          rw [hys] at hlg
          have hokr : TwoOk w9 lo q (k + 1) ts (upd TT k ⟨t.a, t.n, a1', t.n + 99⟩) := by
            have h0 := HOK.out
            have hl3 := hlg
            rw [HT.out] at hl3 ⊢
            exact TwoOk.step hkl h0 hl3 (by omega)
          have hmor : More w9 lo (k + 1) ts (upd TT k ⟨t.a, t.n, a1', t.n + 99⟩) := by
            have h0 := HMO.out
            have hl3 : Lng lo t.a t.n (Xs k t.n) wr w9 a1' (t.n + 99) c1' (Ys k) := hlg
            rw [HT.out] at hl3 ⊢
            exact More.step hkl h0 HOK.out hl3
          have hta : OwnA wr lo t.a t.n (Xs k t.n) := ⟨t.c, hx⟩
          have hlong2 := own22_kept HL1.out hta hlg.2.2.1
          have hout2 := own22_kept HO1.out hta hlg.2.2.1
          have hon2 := HN1.out.grown hlg.2.2.1 fun g hgg => .inl (HRG.out t (by rw [HT.out]; exact List.getElem_mem hkl) g hgg)
          have hz1 := hon2.size
          have HOKR := Lib.hid hokr
          have HMOR := Lib.hid hmor
          have HO2 := Lib.hid hout2
          have HN2 := Lib.hid hon2
          have HLO2 := Lib.hid hlong2
          clear hlg hokr hmor hta hcell hout2 hon2 hx hys HOK HMO HL1 HO1 HN1
          go_wp2_with (first | (at_builtin; refine app_s1 w9 rfl _ _ rfl W0.heap.size (.slice am k cm) k vm rfl hlong2 a1' (t.n + 99) c1' rfl (by omega) (by omega) ?_; intro a3' c3' w10 hown2 hb2 hmv2) | fail)
          have hlt2 : ∀ g, (Value.slice am k cm).ownBlock = some g → g < w9.heap.size := fun g hg => (HLO2.out.lt g hg).2
          obtain ⟨hg2, hbl2⟩ := moved_grown hmv2 hlt2
          have hb1 := own_blk HLO2.out
          have hb3 := own_blk hown2
          have hok3 := HOKR.out.kept hg2 (own22_off HLO2.out)
          have hmo3 := HMOR.out.kept hg2 (own22_off HLO2.out)
          rw [hb1] at hg2 hbl2
          rw [hb3] at hbl2
          have hblo := own_blk HO2.out
          have hout3 := HO2.out.kept hg2 (by rw [hblo]; exact HOA.out.symm)
          have hoa3 : Off a3' (some ⟨g0, 0, none⟩) := by
            rcases hbl2 with e | ⟨g, hg, e⟩
            · have := HOA.out; unfold Off at this ⊢; rw [e]; exact this
            · right
              rw [e]
              intro e2
              have := (HO2.out.lt g (by rw [hblo]; exact e2.symm)).2
              omega
          have hn3 := HN2.out.grown hg2 fun g hg => .inr (HLO2.out.lt g (by rw [hb1]; exact hg)).1
          have HAT2 := Lib.hid (LongAt.step HAT.out ⟨t.a, t.n, a1', t.n + 99⟩ c1' (by show t.n + 99 ≤ _; omega) hcap)
          have H1 := Lib.hid hok3
          have H2 := Lib.hid hout3
          have H3 := Lib.hid hoa3
          have H4 := Lib.hid hn3
          have H5 := Lib.hid hown2
          have H6 := Lib.hid hmo3
          clear hok3 hout3 hoa3 hn3 hown2 hb2 hmv2 hg2 hbl2 hb1 hb3 hblo hlt2 hlong2 hmo3
          go_wp2
          go_roundw
          case rel => exact ⟨k + 1, a3', c3', _, _, by omega, by go_num, rfl, H5.out, HAT2.out, H1.out, H6.out, H2.out, H3.out, H4.out⟩
          case measure => simp [intOf]; omega
        · have hke : k = q := by omega
          have hlt' : ¬ (k : Int) < q := by omega
          subst hke
          have hon8 := HON.out.trans hon
          have hkr := hkr8.only hon8 (Nat.le_refl _)
          have hkk := ownsRow_only hk8 hon8 (Nat.le_refl _)
          have hwas := ownsRow_only hown15 hon8 (by omega)
          have hrr := ownsRow_only ho14 hon8 (by omega)
          have b4r : Below lo w4 wr := by
            have h1 := B48.out
            rw [← HLO.out] at h1
            exact h1.trans (hon8.below hlow8)
          have B4R := Lib.hid (show Below w4.heap.size w4 wr from HLO.out ▸ b4r)
          have hlg4 : Rd wr a10 (lg.map B) := HR4.out.below (by rw [← HLO.out]; exact b4r)
          have hgv4 : Rd wr a11 (lg.map B) := HG4.out.below (by rw [← HLO.out]; exact b4r)
          have bbr : Below w.heap.size w wr := bb8.trans ((hon8.below hlow8).mono hz4)
          have hzz := hon8.size
          have HOK := Lib.hid hok
          have HAT := Lib.hid hat
          have HMO := Lib.hid hmo
          have HL1 := Lib.hid (ownsRow_base hlong (show lo ≤ W0.heap.size by omega))
          have HO1 := Lib.hid hout
          have HKR := Lib.hid hkr
          have HKK := Lib.hid hkk
          have HWAS := Lib.hid hwas
          have HRR := Lib.hid hrr
          have HLG4 := Lib.hid hlg4
          have HGV4 := Lib.hid hgv4
          have BBR := Lib.hid bbr
          clear hon8 hkr hkk hwas hrr b4r hlg4 hgv4 bbr hok hat hmo hlong hout hoa hon HON HM0 HT0 hl8 hk8 hl hqk' hk hlt hkr8 ho14 hown15 bb8 B48
          obtain ⟨W2, hW2⟩ : ∃ W2, W2 = wr := ⟨_, rfl⟩
          rw [← hW2] at HOK HMO HL1 HO1 HKR HKK HWAS HRR HLG4 HGV4 BBR B4R hzz ⊢
          clear hW2
          rename_i wr0' _
          go_wp2
          go_loopw [20] (fun i w1 => ∃ p : Nat, p ≤ k ∧ i = .int .i64 (p : Int) ∧ Below W2.heap.size W2 w1) (fun i _ => k - (intOf i).toNat)
          case atStart => exact ⟨0, Nat.zero_le _, rfl, Below.refl _ _⟩
          case round =>
            obtain ⟨p, hp, rfl, hb12⟩ := hrel
            by_cases hpk : p < k
            · have hpk' : (p : Int) < k := by omega
              have hpl : p < ts.length := by rw [HTL.out]; exact hpk
              obtain ⟨g1, g2, ca, cb, rfl, rfl, hd1, hd2, hdm, hdm2, hcb⟩ := at_index (c2 := cm) (cl := c12) hpk HTL.out HOK.out.1 (fun t ht => by have := HTNB.out t ht; omega) HAT.out.2 (ownsRow_below HL1.out hb12) (ownsRow_below HO1.out hb12)
              obtain ⟨hfa, hfb, hmn⟩ := HMO.out.1 p hpl hpk
              have hnn := (HOK.out.1 p hpl).2
              rw [← hnn] at hfa hfb hmn
              obtain ⟨rt, hrt⟩ : ∃ t, t = TT p := ⟨_, rfl⟩
              obtain ⟨pa, pn, pb, pm⟩ := rt
              rw [← hrt] at hd1 hd2 hdm hdm2 hfa hfb hmn hcb
              have hra := hfa.rd.below hb12
              have hrb := hfb.rd.below hb12
              clear hfa hfb hrt hnn
              dsimp only at hd1 hd2 hdm hdm2 hra hrb hmn hcb
              obtain ⟨u1, hu1⟩ : ∃ u, u = UInt8.ofNat (p + 1) := ⟨_, rfl⟩
              obtain ⟨u2, hu2⟩ : ∃ u, u = UInt8.ofNat (p + 101) := ⟨_, rfl⟩
              have HM1 := Lib.hid (show IntKind.u8.wrap ((p : Int) + 1) = (u1.toNat : Int) by rw [hu1]; exact wrap_u8 (p + 1))
              have HM2 := Lib.hid (show IntKind.u8.wrap ((p : Int) + 101) = (u2.toNat : Int) by rw [hu2]; exact wrap_u8 (p + 101))
              have hra' : Rd wr pa ((List.replicate pn u1).map B) := by rw [hu1]; exact hra
              have hrb' : Rd wr pb ((List.replicate pn u1).map B ++ (List.replicate 99 u2).map B) := by rw [hu1, hu2]; exact hrb
              have hs1 := slice_to pb pm cb pn (by omega)
              obtain ⟨px, hs2, hs2r⟩ := slice_from pb pm cb pn (by omega) hcb
              have hrc := hrb'.take pn
              have hrd := hs2r wr _ (by simp; omega) hrb'
              rw [List.take_append_of_le_length (by simp), List.take_of_length_le (by simp)] at hrc
              rw [List.drop_append_of_le_length (by simp), List.drop_of_length_le (by simp), List.nil_append] at hrd
              have hpm : pm - pn = 99 := by omega
              rw [hpm] at hs2
              have HS2 := Lib.hid hs2
              have HRD := Lib.hid hrd
              have hp0 : (0 : Int) ≤ (pn : Int) := by omega
              have hp1 : (pn : Int) ≤ (pm : Int) := by omega
              clear hra hrb hrb' hs2r hu1 hu2 hmn hpm hrd
              have hs2 := HS2.out
              clear HS2
              have hA : Rd wr.drew pa ((List.replicate pn u1).map B) := hra'
              have hB9 : Rd wr.drew pb ((List.replicate pn u1).map B) := hrc
              have hC : Rd wr.drew px ((List.replicate 99 u2).map B) := HRD.out
              have HA := Lib.hid hA
              have HB9 := Lib.hid hB9
              have HC := Lib.hid hC
              have hw1 : IntKind.i64.wrap ((p : Int) + 1) = (p : Int) + 1 := IntWalk.i64_in _ (by omega)
              have hw2 : IntKind.i64.wrap ((p : Int) + 101) = (p : Int) + 101 := IntWalk.i64_in _ (by omega)
              have hp2 : (0 : Int) ≤ (p : Int) := by omega
              clear hra' hrc HRD hA hB9 hC
              go_wp2
              have hd1' : wr.drew.cell? ⟨g1, p, none⟩ = some (.slice pb pm cb) := hd1
              have hd2' : wr.drew.cell? ⟨g2, p, none⟩ = some (.slice pa pn ca) := hd2
              go_region_held3 (fun W => W.cell? ⟨g1, p, none⟩ = some (.slice pb pm cb) ∧ W.cell? ⟨g2, p, none⟩ = some (.slice pa pn ca)) (first | exact ⟨hd1', hd2'⟩ | (refine ⟨?_, ?_⟩ <;> assumption))
                (first | (go_at_call 28; with_reducible refine (full_x pa ca pn u1 _ _ (by omega) HA.out HM1.out).mono ?_; rintro e w3 ⟨rfl, rfl⟩) |
                  (go_at_call 28; with_reducible refine (full_x pb cb pn u1 _ _ (by omega) HB9.out HM1.out).mono ?_; rintro e w3 ⟨rfl, rfl⟩) |
                  (go_at_call 28; with_reducible refine (full_x px _ 99 u2 _ _ (by omega) HC.out HM2.out).mono ?_; rintro e w3 ⟨rfl, rfl⟩))
              have hb12' := hb12.drew
              clear hd1' hd2' hw1 hw2 hs1 hs2
              go_wp2
              go_roundw
              case rel => exact ⟨p + 1, by omega, by go_num, hb12'⟩
              case measure => simp [intOf]; omega
            · have hpe : p = k := by omega
              have hpk' : ¬ (p : Int) < k := by omega
              subst hpe
              have hkr := HKR.out.below hb12
              have hkk := ownsRow_below HKK.out hb12
              have hwas := ownsRow_below HWAS.out hb12
              have hrr := ownsRow_below HRR.out hb12
              have hlg := HLG4.out.below hb12
              have hgv := HGV4.out.below hb12
              have bbr := BBR.out.trans (hb12.mono BBR.out.size)
              have hzr2 := hb12.size
              have B4V := Lib.hid (B4R.out.trans (hb12.mono (by have := B4R.out.size; omega)))
              have hrdk := hkr.rdR (by rw [← HQ.out]; exact hkk)
              have hckk := own_cap hkk
              have HLG2 := Lib.hid hlg
              have HGV2 := Lib.hid hgv
              have HRDK := Lib.hid hrdk
              have HWA2 := Lib.hid hwas
              have HRR2 := Lib.hid hrr
              have BBR2 := Lib.hid bbr
              have hwz : w.heap.size ≤ wr.heap.size := bbr.size
              obtain ⟨V, hV⟩ : ∃ V, V = wr := ⟨_, rfl⟩
              rw [← hV] at hzr2 B4V HLG2 HGV2 HRDK HWA2 HRR2 BBR2 hwz hlg ⊢
              clear hV HOK HMO HL1 HO1 HKR HKK HWAS HRR HLG4 HGV4 BBR HAT hb12 hp hpk hkr hkk HRG HOFF HTN HTL hgv hwas hrr bbr hrdk
              go_wp2_with fail
              refine (scan_any a10 c10 T lg V HBL.out hc10 (by omega) hlg).mono ?_
              rintro e x1 ⟨b1, d1, us, rs21, k21, rfl, hown21, hrecs21, hdis21, hscan21, hb21⟩
              obtain ⟨hre, hke⟩ := hscan21.unique hSC.out (by rw [HBL.out]; simp only [big]; omega)
              have hre' := hre.symm
              subst hre'
              rw [← HQ.out] at hown21 ⊢
              obtain ⟨tu, htu, htul, hwu, htun⟩ := hrecs21.within hdis21
              have hlg1 := hlg.below hb21
              have hq2 : ((T : Int).tdiv 2) = ((T / 2 : Nat) : Int) := by rw [Int.tdiv_eq_ediv_of_nonneg (by omega)]; omega
              have hsl := slice_to a10 T c10 (T / 2) (by omega)
              have hz21 := hb21.size
              have HB21 := Lib.hid hb21
              have HWU := Lib.hid hwu
              have hou := hown21
              rw [htu] at hou
              have HTUN := Lib.hid htun
              rw [← HQ.out] at htul
              have HTUL := Lib.hid htul
              have hT2 : ((T / 2 : Nat) : Int) ≤ (T : Int) := by omega
              have hT0 : (0 : Int) ≤ ((T / 2 : Nat) : Int) := by omega
              clear hown21 hrecs21 hdis21 hscan21 hb21 hlg hwu htun htul hke htu
              go_wp2_with fail
              have hlgT : (lg.take (T / 2)).length = T / 2 := by rw [List.length_take, HBL.out]; omega
              have hrdT : Rd x1 a10 ((lg.take (T / 2)).map B) := by rw [List.map_take]; exact hlg1.take _
              refine (scan_any a10 c10 (T / 2) (lg.take (T / 2)) x1 hlgT (by omega) (by omega) hrdT).mono ?_
              rintro e x2 ⟨b2, d2, vv, rs22, k22, rfl, hown22, hrecs22, hdis22, hscan22, hb22⟩
              obtain ⟨tv, htv, htvl, hwv, htvn⟩ := hrecs22.within hdis22
              have hk22 := hscan22.le
              rw [hlgT] at hk22
              have hl22 := logOf_len rs22 hscan22.2.choose_spec.2.1
              have he22 := hscan22.1
              rw [← he22] at hl22
              have htvb : ∀ t ∈ tv, t.n ≤ 2147483646 := by
                intro t ht
                obtain ⟨r, hr, e⟩ := htvn t ht
                have := logOf_mem_len hr
                omega
              obtain ⟨nv, hnv⟩ : ∃ nv, nv = rs22.length := ⟨_, rfl⟩
              rw [← hnv] at hown22 hl22 htvl ⊢
              have hlg2 := hlg1.below hb22
              have hou2 := ownsRow_below hou hb22
              have hov2 := hown22
              rw [htv] at hov2
              have hz22 := hb22.size
              have HB22 := Lib.hid (HB21.out.trans (hb22.mono hz21))
              have HWU2 := Lib.hid (HWU.out.below hb22)
              have HWV := Lib.hid hwv
              have HTVB := Lib.hid htvb
              have HTVL := Lib.hid htvl
              clear hlg1 hou hown22 hrecs22 hdis22 hscan22 hb22 HB21 HWU hwv htv htvl htvn he22 htvb hnv hlgT hrdT hsl hq2
              go_wp2_with fail
              refine (scan_any a10 c10 T lg x2 HBL.out hc10 (by omega) hlg2).mono ?_
              rintro e x3 ⟨b3, d3, ww, rs23, k23, rfl, hown23, hrecs23, hdis23, hscan23, hb23⟩
              obtain ⟨hre, hke⟩ := hscan23.unique hSC.out (by rw [HBL.out]; simp only [big]; omega)
              obtain ⟨tw, htw, htwl, hww, htwn⟩ := hrecs23.within hdis23
              rw [hre] at htwl htwn
              rw [hre, ← HQ.out] at hown23
              rw [hre, ← HQ.out]
              rw [← HQ.out] at htwl
              have hlg3 := hlg2.below hb23
              have hou3 := ownsRow_below hou2 hb23
              have hov3 := ownsRow_below hov2 hb23
              have how3 := hown23
              rw [htw] at how3
              have hz23 := hb23.size
              have HB23 := Lib.hid (HB22.out.trans (hb23.mono HB22.out.size))
              have HWU3 := Lib.hid (HWU2.out.below hb23)
              have HWV3 := Lib.hid (HWV.out.below hb23)
              have HWW := Lib.hid hww
              have HTWN := Lib.hid htwn
              have HTWL := Lib.hid htwl
              clear hlg2 hou2 hov2 hown23 hrecs23 hdis23 hscan23 hb23 HB22 HWU2 HWV hww htw htwl htwn hke hre
              go_wp2_with fail
              refine (repair_any a10 c10 T lg x3 HBL.out hc10 (by omega) hlg3).mono ?_
              rintro e x4 ⟨b4, d4, rs24, k24, hscan24, rfl, hown24, hb24⟩
              obtain ⟨hre, hke⟩ := hscan24.unique hSC.out (by rw [HBL.out]; simp only [big]; omega)
              rw [hke, hre] at hown24
              rw [hke]
              have hlg4 := hlg3.below hb24
              have hou4 := ownsRow_below hou3 hb24
              have hov4 := ownsRow_below hov3 hb24
              have how4 := ownsRow_below how3 hb24
              have hz24 := hb24.size
              have HB24 := Lib.hid (HB23.out.trans (hb24.mono HB23.out.size))
              have HWU4 := Lib.hid (HWU3.out.below hb24)
              have HWV4 := Lib.hid (HWV3.out.below hb24)
              have HWW4 := Lib.hid (HWW.out.below hb24)
              have HWX := Lib.hid (Within.one hown24 HKE.out.symm)
              clear hlg3 hou3 hov3 how3 hscan24 hb24 HB23 HWU3 HWV3 HWW hke hre
              go_wp2_with fail
              refine (repair_any a10 c10 T lg x4 HBL.out hc10 (by omega) hlg4).mono ?_
              rintro e x5 ⟨b5, d5, rs25, k25, hscan25, rfl, hown25, hb25⟩
              obtain ⟨hre, hke⟩ := hscan25.unique hSC.out (by rw [HBL.out]; simp only [big]; omega)
              rw [hke, hre] at hown25
              rw [hke]
              have hou5 := ownsRow_below hou4 hb25
              have hov5 := ownsRow_below hov4 hb25
              have how5 := ownsRow_below how4 hb25
              have hx5 := ownsRow_rd (ownsRow_below hown24 hb25)
              have hy5 := ownsRow_rd hown25
              have hz25 := hb25.size
              have HB25 := Lib.hid (HB24.out.trans (hb25.mono HB24.out.size))
              have HWU5 := Lib.hid (HWU4.out.below hb25)
              have HWV5 := Lib.hid (HWV4.out.below hb25)
              have HWW5 := Lib.hid (HWW4.out.below hb25)
              have HWX5 := Lib.hid (HWX.out.below hb25)
              have HWY := Lib.hid (Within.one hown25 HKE.out.symm)
              have hwas5 := ownsRow_rd (ownsRow_below HWA2.out HB25.out)
              have hpp : ((p : Int) != (p : Int)) = false := by simp
              clear hlg4 hou4 hov4 how4 hscan25 hb25 HB24 HWU4 HWV4 HWW4 HWX hke hre hown24 hown25
              go_wp2_with fail
              refine (same_n b4 a15 d4 c15 k12 k12 _ _ x5 HKE.out.symm HKE.out.symm (by omega) hx5 hwas5).mono ?_
              rintro e x6 ⟨rfl, hb26⟩
              rw [beq_self_eq_true]
              go_wp2_with fail
              refine (same_n b5 a15 d5 c15 k12 k12 _ _ x6 HKE.out.symm HKE.out.symm (by omega) (hy5.below hb26) (hwas5.below hb26)).mono ?_
              rintro e x7 ⟨rfl, hb27⟩
              rw [beq_self_eq_true]
              have b57 := hb26.trans (hb27.mono hb26.size)
              have hou7 := ownsRow_below hou5 b57
              have hov7 := ownsRow_below hov5 b57
              have how7 := ownsRow_below how5 b57
              have hz27 := b57.size
              have HB27 := Lib.hid (HB25.out.trans (b57.mono HB25.out.size))
              have h1 : Within x7 x3.heap.size x5.heap.size ([⟨b4, k12, d4⟩] ++ [⟨b5, k12, d5⟩]) := (HWX5.out.below b57).append (HWY.out.below b57) (.inl (by omega)) (by omega) (by omega) (by omega) (by omega)
              have h2 : Within x7 V.heap.size x2.heap.size (tu ++ tv) := (HWU5.out.below b57).append (HWV5.out.below b57) (.inl (by omega)) (by omega) (by omega) (by omega) (by omega)
              have hWX := Lib.hid h1
              have hWU := Lib.hid (HWU5.out.below b57)
              have hWV := Lib.hid (HWV5.out.below b57)
              have hWW := Lib.hid (HWW5.out.below b57)
              have hlit := World.ownsRow_lit (base := x7.heap.size) (e := 22) (size := 1) x7 #[.slice b4 k12 d4, .slice b5 k12 d5] 2 (by omega) (by decide) rfl
              have hru := ownsRow_rd (hou7.alloc (.cells #[.slice b4 k12 d4, .slice b5 k12 d5] 22))
              have hal : Below x7.heap.size x7 (x7.alloc (.cells #[.slice b4 k12 d4, .slice b5 k12 d5] 22)) := (Below.refl _ _).alloc (Nat.le_refl _) _
              have hzal := hal.size
              have HLIT := Lib.hid hlit
              have hpb : p ≤ 82595524 := by omega
              have hnb : nv ≤ 82595524 := by omega
              clear h1 h2 hou5 hov5 how5 HB25 HWU5 HWV5 HWW5 HWX5 HWY hx5 hy5 hwas5 hb26 hb27 b57 hpp
              go_wp2_with (first | (at_builtin; refine app_s _ rfl _ _ rfl x7.heap.size (.slice b9 (2 + p + nv) d9) (2 + p + nv) _ rfl hown9 b3 p d3 tw rfl HTWL.out (ownsRow_rd (ownsRow_below how7 ((hal.trans hb8).trans hb9))) (by omega) (((hal.trans hb8).trans hb9).size) ?_; intro b10 d10 x10 hown10 hb10 hmv10) |
                (at_builtin; refine app_s _ rfl _ _ rfl x7.heap.size (.slice b6 (2 + p) d6) (2 + p) _ rfl hown8 b2 nv d2 tv rfl HTVL.out (ownsRow_rd (ownsRow_below hov7 (hal.trans hb8))) (by omega) ((hal.trans hb8).size) ?_; intro b9 d9 x9 hown9 hb9 hmv9) |
                (at_builtin; refine app_s _ rfl _ _ rfl x7.heap.size (.slice (some ⟨x7.heap.size, 0, none⟩) 2 2) 2 _ rfl hlit b1 p d1 tu rfl HTUL.out hru (by omega) (by omega) ?_; intro b6 d6 x8 hown8 hb8 hmv8) | fail)
              have hb710 := (hal.trans hb8).trans (hb9.trans hb10)
              have h710 := hb710.size
              obtain ⟨tall, htall⟩ : ∃ l, l = allOf b4 b5 k12 d4 d5 tu tv tw := ⟨_, rfl⟩
              have hall : Within x10 V.heap.size x5.heap.size tall := by
                rw [htall]
                exact allOf_within (hWX.out.below hb710) (hWU.out.below hb710) (hWV.out.below hb710) (hWW.out.below hb710) hz21 hz22 hz23 (Nat.le_trans hz24 hz25)
              have hown10' : x10.ownsRow V.heap.size 22 1 (.slice b10 (2 + p + nv + p) d10) (2 + p + nv + p) (tall.map It.val) := by
                rw [htall, ← allOf_map]
                exact ownsRow_base hown10 HB27.out.size
              have hallb : ∀ t ∈ tall, t.n ≤ 4294967296 := by
                rw [htall]
                refine allOf_le (le_big HK12B.out) (fun t ht => ?_) (fun t ht => le_big (HTVB.out t ht)) (fun t ht => ?_)
                · obtain ⟨r, hr, e⟩ := HTUN.out t ht
                  rw [e]
                  exact le_big (HLE.out r hr)
                · obtain ⟨r, hr, e⟩ := HTWN.out t ht
                  rw [e]
                  exact le_big (HLE.out r hr)
              have hallen : tall.length = 2 + p + nv + p := by
                rw [htall]
                exact allOf_len _ _ _ _ _ HTUL.out HTVL.out HTWL.out
              have b7v := HB27.out
              have bv10 := b7v.trans (hb710.mono b7v.size)
              have hvz := bv10.size
              refine (apart_any V.heap.size 0 b10 d10 (2 + p + nv + p) tall x10 hallen (num_le hpb hnb) hallb hvz hown10' (fun t ht => (hall.1 t ht).1) hall.offs).mono ?_
              rintro e x11 ⟨rfl, hb11⟩
              have bv11 := bv10.trans hb11
              have hlg11 := HLG2.out.below bv11
              have hgv11 := HGV2.out.below bv11
              have BV11 := Lib.hid bv11
              have hv11 := bv11.size
              clear hall hallb htall hown10' hown10 hb710 h710 hb8 hb9 hb10 hmv8 hmv9 hmv10 hown8 hown9 hlit hru hal hzal HLIT hWX hWU hWV hWW hou7 hov7 how7 HB27 b7v bv10 hvz hb11 bv11 hallen HTUL HTUN HTVL HTVB HTWL HTWN
              go_wp2_with fail
              refine (same_n a10 a11 c10 c11 T T lg lg x11 HBL.out HBL.out (by omega) hlg11 hgv11).mono ?_
              rintro e x12 ⟨rfl, hb12⟩
              rw [beq_self_eq_true]
              have BV12 := Lib.hid (BV11.out.trans (hb12.mono hv11))
              have hk12 := HRDK.out.below BV12.out
              have hv12 := BV12.out.size
              clear hlg11 hgv11 BV11 hb12
              go_wp2_with fail
              have hlbk : logBound rs13 ≤ 2147483647 := by
                rw [logBound_eq, ← HKE.out]
                exact Nat.le_trans HK12B.out (by decide)
              have hk12m : k12 ≤ 140737488355000 := Nat.le_trans HK12B.out (by decide)
              have hTm : T ≤ 140737488355328 := Nat.le_trans hTb (by decide)
              have hk12m2 : k12 ≤ 140737488355328 := Nat.le_trans HK12B.out (by decide)
              refine (written_any a13 c13 p rs13 x12 HQ.out.symm hlbk hk12).mono ?_
              rintro e x13 ⟨e1, f1, vs31, e2, f2, e3, f3, rfl, hown31, hkept31, hown32, hown33, hb13⟩
              have hkid := keep_id HLNE.out
              rw [hkid, ← HKE.out] at hown32
              rw [hkid, ← HKE.out, ← HQ.out]
              have BV13 := Lib.hid (BV12.out.trans (hb13.mono hv12))
              have hrr13 := ownsRow_below HRR2.out BV13.out
              have HWA13 := Lib.hid (ownsRow_below HWA2.out BV13.out)
              have HAG13 := Lib.hid hown32
              have hv13 := BV13.out.size
              have h6V : w6.heap.size ≤ V.heap.size := Nat.le_trans (Nat.le_trans hz7 hz8) (Nat.le_trans hzz hzr2)
              have h6x := Nat.le_trans h6V hv13
              clear hk12 hown31 hkept31 hown32 hown33 hb13 hkid hlbk
              go_wp2_with fail
              refine (long_any w6.heap.size a14 c14 k12 9 (logOf rs13) x13 hk12m h6x hrr13).mono ?_
              rintro e x14 ⟨ae, ce, rfl, hlng⟩
              have hw6 : w4.heap.size ≤ w6.heap.size := by
                rw [← HLO.out]
                exact Nat.le_trans hz5 hz6
              have hra : OwnA x13 w6.heap.size a14 k12 ((logOf rs13).map B) := ⟨c14, hrr13⟩
              have hr14lt : ∀ g, blk a14 = some g → w6.heap.size ≤ g ∧ g < V.heap.size := fun g hg => HRR2.out.lt g (by rw [own_blk HRR2.out]; exact hg)
              have hwas14 := HWA13.out.kept hlng.2.2.1 (by rw [own_blk HWA13.out]; exact HO145.out.symm)
              have hag14 := HAG13.out.kept hlng.2.2.1 (by
                rw [own_blk HAG13.out]
                exact off_range (fun g hg => HAG13.out.lt g (by rw [own_blk HAG13.out]; exact hg)) hr14lt (.inr hv12))
              have b4_14 : Below w4.heap.size w4 x14 := (B4V.out.trans (BV13.out.mono B4V.out.size)).grown hlng.2.2.1 (Nat.le_trans hw6 h6x) fun g hg => Nat.le_trans hw6 (hr14lt g hg).1
              have bb14 : Below w.heap.size w x14 := (BBR2.out.trans (BV13.out.mono hwz)).grown hlng.2.2.1 (Nat.le_trans hwz hv13) fun g hg => Nat.le_trans hz4' (Nat.le_trans hw6 (hr14lt g hg).1)
              have hwr14 := ownsRow_rd hwas14
              have har14 := ownsRow_rd hag14
              have hrd14 := hlng.2.1.rd
              have hlg14 := HR4.out.below b4_14
              have hgv14 := HG4.out.below b4_14
              have HLNG := Lib.hid hlng
              have HB4 := Lib.hid b4_14
              have HBB := Lib.hid bb14
              clear hlng hra hwas14 hag14 b4_14 bb14 hrr13 HWA13 HAG13
              go_wp2_with fail
              refine (same_n e2 a15 f2 c15 k12 k12 _ _ x14 HKE.out.symm HKE.out.symm hk12m2 har14 hwr14).mono ?_
              rintro e x15 ⟨rfl, hb15⟩
              rw [beq_self_eq_true]
              go_wp2_with fail
              refine (same_n a14 a15 c14 c15 k12 k12 _ _ x15 HKE.out.symm HKE.out.symm hk12m2 (hrd14.below hb15) (hwr14.below hb15)).mono ?_
              rintro e x16 ⟨rfl, hb16⟩
              rw [beq_self_eq_true]
              have b1416 := hb15.trans (hb16.mono hb15.size)
              go_wp2_with fail
              refine (same_n a10 a11 c10 c11 T T _ _ x16 HBL.out HBL.out hTm (hlg14.below b1416) (hgv14.below b1416)).mono ?_
              rintro e x17 ⟨rfl, hb17⟩
              rw [beq_self_eq_true]
              have b1417 := b1416.trans (hb17.mono b1416.size)
              have hown17 := ownsRow_below HLNG.out.1 b1417
              obtain ⟨cr, hor⟩ := HLNG.out.2.1
              have hor17 := ownsRow_below hor b1417
              have HB417 := Lib.hid (HB4.out.trans (b1417.mono HB4.out.size))
              have HBB17 := Lib.hid (HBB.out.trans (b1417.mono HBB.out.size))
              have HOW17 := Lib.hid hown17
              have HOR17 := Lib.hid hor17
              clear hb15 hb16 hb17 b1416 b1417 hown17 hor hor17 hwr14 har14 hrd14 hlg14 hgv14 HLNG HB4 HBB
              go_wp2
              go_loopw [35] (fun i wr => ∃ q : Nat, q ≤ k12 ∧ i = .int .i64 (q : Int) ∧ wr.ownsRow w6.heap.size 5 1 (.slice a14 k12 cr) k12 ((List.replicate q (0 : UInt8)).map B ++ ((logOf rs13).map B).drop q) ∧
                (∃ Z : List Value, Z.length = k12 ∧ wr.ownsRow w6.heap.size 5 1 (.slice ae (k12 + 99) ce) (k12 + 99) (Z ++ (List.replicate 99 (9 : UInt8)).map B)) ∧ Below w4.heap.size w4 wr ∧ Below w.heap.size w wr) (fun i _ => k12 - (intOf i).toNat)
              case atStart => exact ⟨0, Nat.zero_le _, rfl, by simpa using HOR17.out, ⟨_, by rw [List.length_map]; exact HKE.out.symm, HOW17.out⟩, HB417.out, HBB17.out⟩
              case round =>
                obtain ⟨q, hq, rfl, hro, ⟨Z, hZ, hze⟩, hB4, hBB⟩ := hrel
                by_cases hqk : q < k12
                · have hqk' : (q : Int) < k12 := Int.ofNat_lt.2 hqk
                  obtain ⟨g, rfl, hg1, hg2⟩ := own_some hro (Nat.lt_of_le_of_lt (Nat.zero_le _) hqk)
                  have hc := hro.cellAt q (by rw [Nat.mul_one]; exact hqk)
                  have hfr := hro.frozenAt q
                  have hst := hro.stored q (B 0)
                  obtain ⟨Z', hZ', hze'⟩ := ends_step hro hze hZ hqk (B 0)
                  have hll2 : ((logOf rs13).map B).length = k12 := by rw [List.length_map]; exact HKE.out.symm
                  rw [zeros_get _ hll2 hqk] at hc
                  rw [zeros_set _ hll2 hqk] at hst
                  obtain ⟨y, hy⟩ : ∃ y, y = ((logOf rs13).map B)[q]'(by rw [hll2]; exact hqk) := ⟨_, rfl⟩
                  rw [← hy] at hc
                  have hsb : Below w4.heap.size w4 (wr.setCell ⟨g, q, none⟩ (B 0)) := hB4.setCell (p := ⟨g, q, none⟩) (Nat.le_trans hw6 hg1) _
                  have hsb2 : Below w.heap.size w (wr.setCell ⟨g, q, none⟩ (B 0)) := hBB.setCell (p := ⟨g, q, none⟩) (Nat.le_trans hz4' (Nat.le_trans hw6 hg1)) _
                  have HO := Lib.hid hst.1
                  have HE := Lib.hid hze'
                  have HS := Lib.hid hsb
                  have HS2 := Lib.hid hsb2
                  have HK := Lib.hid (show q + 1 ≤ k12 from hqk)
                  unfold B at HO HE HS HS2
                  have HM9 := Lib.hid (meas_lt hqk)
                  clear hst hy hll2 hze' hsb hsb2 hro hze hZ hB4 hBB
                  go_wp2
                  go_roundw
                  case rel => exact ⟨q + 1, HK.out, by go_num, HO.out, ⟨Z', hZ', HE.out⟩, HS.out, HS2.out⟩
                  case measure => exact HM9.out
                · have hqe : q = k12 := Nat.le_antisymm hq (Nat.not_lt.1 hqk)
                  have hqk' : ¬ (q : Int) < k12 := fun h => hqk (Int.ofNat_lt.1 h)
                  have hlg9 := HR4.out.below hB4
                  have hgv9 := HG4.out.below hB4
                  have hcc := own_capn hze
                  obtain ⟨px, hs2, hs2r⟩ := slice_from ae (k12 + 99) ce k12 (Nat.le_add_right _ _) hcc
                  have hnin := hs2r wr (Z ++ (List.replicate 99 (9 : UInt8)).map B) (by rw [List.length_append, hZ]; simp) (ownsRow_rd hze)
                  rw [List.drop_append_of_le_length (by rw [hZ]; exact Nat.le_refl _), List.drop_of_length_le (by rw [hZ]; exact Nat.le_refl _), List.nil_append] at hnin
                  rw [Nat.add_sub_cancel_left] at hs2
                  have HNIN := Lib.hid hnin
                  have HBB := Lib.hid hBB
                  have h99 : (k12 : Int) ≤ ((k12 + 99 : Nat) : Int) := Int.ofNat_le.2 (Nat.le_add_right _ _)
                  have h00 : (0 : Int) ≤ (k12 : Int) := Int.natCast_nonneg _
                  clear hro hze hZ hB4 hBB hqe hnin hs2r hcc hq hqk
                  go_wp2_with fail
                  refine (same_n a10 a11 c10 c11 T T _ _ wr HBL.out HBL.out hTm hlg9 hgv9).mono ?_
                  rintro e y1 ⟨rfl, hby⟩
                  rw [beq_self_eq_true]
                  go_wp2_with fail
                  refine (full_any px _ 99 9 y1 (by decide) (HNIN.out.below hby)).mono ?_
                  rintro e y2 ⟨rfl, rfl⟩
                  go_wp2
                  go_ret
                  exact ⟨rfl, HBB.out.trans (hby.mono HBB.out.size)⟩

theorem spares_law {w : World} (a : Option Addr) (n cap : Nat) (rs : List (List UInt8)) (hn : rs.length = n) (h : RdR w a rs) (hB : logBound rs ≤ 1073741823)
    (b : Option Addr) (m cap2 : Nat) (bl : List UInt8) (hm : bl.length = m) (hb : Rd w b (bl.map B)) (hm2 : m ≤ 1073741823) (w' : World) (hw : w = w') :
    Calls Try.prog 9 #[.slice a n cap, .slice b m cap2] w' fun e W' => e = .returned (.bool true) ∧ Below w'.heap.size w' W' := by
  subst hw
  exact spares_walk a b cap n cap2 m rs bl w hn hB h hm hm2 hb
#print axioms spares_law
end Go.Proofs.Ytiebnfdjnclkcaa
