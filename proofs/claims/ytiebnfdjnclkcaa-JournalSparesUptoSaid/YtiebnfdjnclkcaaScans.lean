/- JournalScans returns true for every list of bytes. No condition. -/
import Derived.Test.YtiebnfdjnclkcaaW7
import Derived.Test.YtiebnfdjnclkcaaSums
set_option linter.unusedVariables false
namespace Go.Proofs.Ytiebnfdjnclkcaa
open Go.RowKit

theorem scan_small {l : List UInt8} {rs : List (List UInt8)} {k n : Nat} (h : ScanIs l rs k) (hl : l.length = n) (hn : n ≤ 140737488355328) : rs.length ≤ 140737488355328 ∧ ∀ x ∈ rs, x.length ≤ 140737488355328 := by
  have h1 := h.le
  obtain ⟨rfl, rest, e, hne, _⟩ := h
  have h2 := logOf_len rs hne
  refine ⟨by omega, fun x hx => ?_⟩
  have := logOf_mem_len hx
  omega

theorem int_neq_self (a : Int) : (a != a) = false := by simp
theorem int_eql_self (a : Int) : (a == a) = true := by simp
theorem own_cap {w : World} {base e size n m : Nat} {a : Option Addr} {c : Nat} {xs : List Value} (h : w.ownsRow base e size (.slice a n c) m xs) : n ≤ c := by
  rcases h.2 with ⟨h1, _⟩ | ⟨g, cap, cur, h1, _, _, hle, _⟩
  · cases h1; exact Nat.le_refl _
  · cases h1; exact hle
theorem RecsAt.set {w : World} {base : Nat} {vs : List Value} {rs : List (List UInt8)} (h : RecsAt w base vs rs) {g : Nat} (hg : g < base) (j : Nat) (u : Value) : RecsAt (w.setCell ⟨g, j, none⟩ u) base vs rs :=
  ⟨h.1, fun i hi => by obtain ⟨a, c, h1, h2⟩ := h.2 i hi; exact ⟨a, c, h1, ownsRow_setCell_below h2 hg u⟩⟩
theorem half_nat (n : Nat) : (n : Int) / 2 = ((n / 2 : Nat) : Int) := by omega
theorem half_tdiv (n : Nat) : (n : Int).tdiv 2 = ((n / 2 : Nat) : Int) := by rw [Int.tdiv_eq_ediv_of_nonneg (by omega)]; omega

set_option maxHeartbeats 2000000 in
theorem scans_walk (a : Option Addr) (cap n : Nat) (l : List UInt8) (w : World) (hn : l.length = n) (hcap : n ≤ cap) (hmax : n ≤ 140737488351232) (h : Rd w a (l.map B)) :
    Calls Try.prog 6 #[.slice a n cap] w fun e w' => e = .returned (.bool true) ∧ Below w.heap.size w w' := by
  have HN := Lib.hid hn
  clear hn
  go_enter Try.func6, Try.ntmps6
  have h0 := h
  go_wp2_with fail
  refine (twin_n a cap n l w HN.out (by omega) h0).mono ?_
  rintro e w1 ⟨a1, c1, rfl, hown1, hb1⟩
  have bb1 := hb1
  have h_1 := h0.below hb1
  clear h0
  have ht1 := ownsRow_rd hown1
  have hct := own_cap hown1
  clear hown1
  go_wp2_with fail
  refine (scan_any a cap n l w1 HN.out hcap (by omega) h_1).mono ?_
  rintro e w2 ⟨a2, c2, vs2, rs, k, rfl, hown2, hrecs2, hdis2, hscan, hb2⟩
  have bb2 := bb1.trans (hb2.mono bb1.size)
  have h_2 := h_1.below hb2
  have ht_2 := ht1.below hb2
  clear h_1 ht1 bb1
  have hl2 := hrecs2.rdR hown2
  clear hown2 hrecs2 hdis2
  have HSC := Lib.hid hscan
  clear hscan
  go_wp2_with fail
  refine (repair_any a cap n l w2 HN.out hcap (by omega) h_2).mono ?_
  rintro e w3 ⟨a3, c3, rs3, k3, hscan3, rfl, hown3, hb3⟩
  have bb3 := bb2.trans (hb3.mono bb2.size)
  have h_3 := h_2.below hb3
  have ht_3 := ht_2.below hb3
  have hl_3 := hl2.below hb3
  clear h_2 ht_2 hl2 bb2
  obtain ⟨hre, hke⟩ := hscan3.unique HSC.out (by rw [HN.out]; simp only [big]; omega)
  rw [hre, hke] at hown3
  rw [hke]
  have hr3 := ownsRow_rd hown3
  clear hown3 hscan3 hre hke
  go_wp2_with fail
  refine (rscan_any a1 c1 n l w3 HN.out hct (by omega) ht_3).mono ?_
  rintro e w4 ⟨a4, c4, vs4, rs4, k4, rfl, hown4, hrecs4, hdis4, hscan4, hb4⟩
  have bb4 := bb3.trans (hb4.mono bb3.size)
  have h_4 := h_3.below hb4
  have ht_4 := ht_3.below hb4
  have hl_4 := hl_3.below hb4
  have hr_4 := hr3.below hb4
  clear h_3 ht_3 hl_3 hr3 bb3
  obtain ⟨hre, hke⟩ := hscan4.unique HSC.out (by rw [HN.out]; simp only [big]; omega)
  rw [hre] at hown4 hrecs4
  rw [hre, hke]
  clear hscan4 hre hke hdis4
  have hk4 := hrecs4.rdR hown4
  clear hown4 hrecs4
  have hkl := HSC.out.1
  have hsm := scan_small HSC.out HN.out (by omega)
  have HSM := Lib.hid hsm.2
  have hsm1 := hsm.1
  have HKL := Lib.hid hkl
  have hkb : k ≤ 140737488355328 := by have := HSC.out.le; rw [HN.out] at this; omega
  clear hkl hsm
  have hkk := int_neq_self (k : Int)
  go_wp2_with fail
  refine (alike_any a2 a4 c2 c4 _ _ _ _ w4 rfl rfl hsm1 HSM.out hl_4 hk4).mono ?_
  rintro e w5 ⟨rfl, hb5⟩
  have bb5 := bb4.trans (hb5.mono bb4.size)
  have h_5 := h_4.below hb5
  have ht_5 := ht_4.below hb5
  have hl_5 := hl_4.below hb5
  have hr_5 := hr_4.below hb5
  have hk_5 := hk4.below hb5
  clear h_4 ht_4 hl_4 hr_4 hk4 bb4
  rw [beq_self_eq_true]
  clear hl_5
  go_wp2_with fail
  refine (rrepair_any a1 c1 n l w5 HN.out hct (by omega) ht_5).mono ?_
  rintro e w6 ⟨a6, c6, rs6, k6, hscan6, rfl, hown6, hb6⟩
  have bb6 := bb5.trans (hb6.mono bb5.size)
  have h_6 := h_5.below hb6
  have ht_6 := ht_5.below hb6
  have hr_6 := hr_5.below hb6
  have hk_6 := hk_5.below hb6
  clear h_5 ht_5 hr_5 hk_5 bb5
  obtain ⟨hre, hke⟩ := hscan6.unique HSC.out (by rw [HN.out]; simp only [big]; omega)
  rw [hre, hke] at hown6
  rw [hke]
  have hx6 := ownsRow_rd hown6
  clear hown6 hscan6 hre hke
  go_wp2_with fail
  refine (same_n a3 a6 c3 c6 k k _ _ w6 HKL.out.symm HKL.out.symm hkb hr_6 hx6).mono ?_
  rintro e w7 ⟨rfl, hb7⟩
  have bb7 := bb6.trans (hb7.mono bb6.size)
  have h_7 := h_6.below hb7
  have ht_7 := ht_6.below hb7
  have hr_7 := hr_6.below hb7
  have hk_7 := hk_6.below hb7
  have hx_7 := hx6.below hb7
  clear h_6 ht_6 hr_6 hk_6 hx6 bb6
  rw [beq_self_eq_true]
  clear hx_7
  go_wp2_with fail
  refine (same_n a a1 cap c1 n n _ _ w7 HN.out HN.out (by omega) h_7 ht_7).mono ?_
  rintro e w8 ⟨rfl, hb8⟩
  have bb8 := bb7.trans (hb8.mono bb7.size)
  have h_8 := h_7.below hb8
  have ht_8 := ht_7.below hb8
  have hr_8 := hr_7.below hb8
  have hk_8 := hk_7.below hb8
  clear h_7 ht_7 hr_7 hk_7 bb7
  rw [beq_self_eq_true]
  clear ht_8
  go_wp2_with fail
  refine (twin_n a cap n l w8 HN.out (by omega) h_8).mono ?_
  rintro e w9 ⟨a9, c9, rfl, hown9, hb9⟩
  have bb9 := hb9
  have hcp := own_cap hown9
  have hown9x := hown9
  go_wp2_with fail
  refine (scan_any a9 c9 n l w9 HN.out hcp (by omega) (ownsRow_rd hown9)).mono ?_
  rintro e w10 ⟨a10, c10, vs10, rs10, k10, rfl, hown10, hrecs10, hdis10, hscan10, hb10⟩
  have bb10 := bb9.trans (hb10.mono bb9.size)
  have hp_10 := ownsRow_below hown9 hb10
  clear hown9
  obtain ⟨hre, hke⟩ := hscan10.unique HSC.out (by rw [HN.out]; simp only [big]; omega)
  rw [hre] at hown10 hrecs10
  rw [hre, hke]
  clear hscan10 hre hke hdis10
  go_wp2_with fail
  refine (repair_any a9 c9 n l w10 HN.out hcp (by omega) (ownsRow_rd hp_10)).mono ?_
  rintro e w11 ⟨a11, c11, rs11, k11, hscan11, rfl, hown11, hb11⟩
  have bb11 := bb10.trans (hb11.mono bb10.size)
  have hp_11 := ownsRow_below hp_10 hb11
  have hao_11 := ownsRow_below hown10 hb11
  have har_11 := hrecs10.below hb11
  clear hp_10 hown10 hrecs10 bb10
  obtain ⟨hre, hke⟩ := hscan11.unique HSC.out (by rw [HN.out]; simp only [big]; omega)
  rw [hre, hke] at hown11
  rw [hke]
  clear hscan11 hre hke
  have hs9 := hb9.size
  have hs10 := hb10.size
  clear h_8
  by_cases hn0 : n = 0
  · have hng : ¬ (0 : Int) < (n : Int) := by omega
    have HN0 := Lib.hid hn0
    clear hn0
    have bbx := bb8.trans (bb11.mono bb8.size)
    have hk11 := hk_8.below bb11
    have hr11 := hr_8.below bb11
    have ha11 := har_11.rdR hao_11
    have hq11 := ownsRow_rd hown11
    have hp11 := ownsRow_rd hp_11
    clear hk_8 hr_8 har_11 hao_11 hown11 hp_11 bb11
    go_wp2_with fail
    refine (scan_any a9 c9 n l w11 HN.out hcp (by omega) hp11).mono ?_
    rintro e w12 ⟨a13, c13, vs13, rs13, k13, rfl, hown12, hrecs12, hdis12, hscd, hb12⟩
    have bb12 := bbx.trans (hb12.mono bbx.size)
    have hk_12 := hk11.below hb12
    have hr_12 := hr11.below hb12
    have ha_12 := ha11.below hb12
    have hq_12 := hq11.below hb12
    have hp_12 := hp11.below hb12
    clear hk11 hr11 ha11 hq11 hp11 bbx
    have hc12 := hrecs12.rdR hown12
    clear hown12 hrecs12 hdis12
    have HSD := Lib.hid hscd
    clear hscd
    go_wp2_with fail
    refine (repair_any a9 c9 n l w12 HN.out hcp (by omega) hp_12).mono ?_
    rintro e w13 ⟨a14, c14, rs14, k14, hscan13, rfl, hown13, hb13⟩
    have bb13 := bb12.trans (hb13.mono bb12.size)
    have hk_13 := hk_12.below hb13
    have hr_13 := hr_12.below hb13
    have ha_13 := ha_12.below hb13
    have hq_13 := hq_12.below hb13
    have hp_13 := hp_12.below hb13
    have hc_13 := hc12.below hb13
    clear hk_12 hr_12 ha_12 hq_12 hp_12 hc12 bb12
    obtain ⟨hre, hke⟩ := hscan13.unique HSD.out (by rw [HN.out]; simp only [big]; omega)
    rw [hre, hke] at hown13
    rw [hke]
    have hd13 := ownsRow_rd hown13
    clear hown13 hscan13 hre hke
    go_wp2_with fail
    refine (twin_n a9 c9 n l w13 HN.out (by omega) hp_13).mono ?_
    rintro e w14 ⟨a15, c15, rfl, hown14, hb14⟩
    have bb14 := bb13.trans (hb14.mono bb13.size)
    have hk_14 := hk_13.below hb14
    have hr_14 := hr_13.below hb14
    have ha_14 := ha_13.below hb14
    have hq_14 := hq_13.below hb14
    have hp_14 := hp_13.below hb14
    have hc_14 := hc_13.below hb14
    have hd_14 := hd13.below hb14
    clear hk_13 hr_13 ha_13 hq_13 hp_13 hc_13 hd13 bb13
    have ht14 := ownsRow_rd hown14
    have hct15 := own_cap hown14
    clear hown14
    go_wp2_with fail
    refine (rscan_any a15 c15 n l w14 HN.out hct15 (by omega) ht14).mono ?_
    rintro e w15 ⟨a16, c16, vs16, rs16, k16, rfl, hown15, hrecs15, hdis15, hscan15, hb15⟩
    have bb15 := bb14.trans (hb15.mono bb14.size)
    have hk_15 := hk_14.below hb15
    have hr_15 := hr_14.below hb15
    have ha_15 := ha_14.below hb15
    have hq_15 := hq_14.below hb15
    have hp_15 := hp_14.below hb15
    have hc_15 := hc_14.below hb15
    have hd_15 := hd_14.below hb15
    have ht_15 := ht14.below hb15
    clear hk_14 hr_14 ha_14 hq_14 hp_14 hc_14 hd_14 ht14 bb14
    obtain ⟨hre, hke⟩ := hscan15.unique HSD.out (by rw [HN.out]; simp only [big]; omega)
    rw [hre] at hown15 hrecs15
    rw [hre, hke]
    have hu15 := hrecs15.rdR hown15
    clear hown15 hrecs15 hdis15 hscan15 hre hke
    have hsmd := scan_small HSD.out HN.out (by omega)
    have HSMD := Lib.hid hsmd.2
    have hsmd1 := hsmd.1
    have HKLD := Lib.hid HSD.out.1
    have hkbd : k13 ≤ 140737488355328 := by have := HSD.out.le; rw [HN.out] at this; omega
    clear hsmd
    have hkkd := int_eql_self (k13 : Int)
    clear ht_15
    go_wp2_with fail
    refine (alike_any a13 a16 c13 c16 _ _ _ _ w15 rfl rfl hsmd1 HSMD.out hc_15 hu15).mono ?_
    rintro e w16 ⟨rfl, hb16⟩
    have bb16 := bb15.trans (hb16.mono bb15.size)
    have hk_16 := hk_15.below hb16
    have hr_16 := hr_15.below hb16
    have ha_16 := ha_15.below hb16
    have hq_16 := hq_15.below hb16
    have hp_16 := hp_15.below hb16
    have hc_16 := hc_15.below hb16
    have hd_16 := hd_15.below hb16
    have hu_16 := hu15.below hb16
    clear hk_15 hr_15 ha_15 hq_15 hp_15 hc_15 hd_15 hu15 bb15
    rw [beq_self_eq_true]
    clear hc_16 hu_16
    go_wp2_with fail
    refine (twin_n a9 c9 n l w16 HN.out (by omega) hp_16).mono ?_
    rintro e w17 ⟨a18, c18, rfl, hown17, hb17⟩
    have bb17 := bb16.trans (hb17.mono bb16.size)
    have hk_17 := hk_16.below hb17
    have hr_17 := hr_16.below hb17
    have ha_17 := ha_16.below hb17
    have hq_17 := hq_16.below hb17
    have hp_17 := hp_16.below hb17
    have hd_17 := hd_16.below hb17
    clear hk_16 hr_16 ha_16 hq_16 hp_16 hd_16 bb16
    have ht17 := ownsRow_rd hown17
    have hct18 := own_cap hown17
    clear hown17
    go_wp2_with fail
    refine (rrepair_any a18 c18 n l w17 HN.out hct18 (by omega) ht17).mono ?_
    rintro e w18 ⟨a19, c19, rs19, k19, hscan18, rfl, hown18, hb18⟩
    have bb18 := bb17.trans (hb18.mono bb17.size)
    have hk_18 := hk_17.below hb18
    have hr_18 := hr_17.below hb18
    have ha_18 := ha_17.below hb18
    have hq_18 := hq_17.below hb18
    have hp_18 := hp_17.below hb18
    have hd_18 := hd_17.below hb18
    have ht_18 := ht17.below hb18
    clear hk_17 hr_17 ha_17 hq_17 hp_17 hd_17 ht17 bb17
    obtain ⟨hre, hke⟩ := hscan18.unique HSD.out (by rw [HN.out]; simp only [big]; omega)
    rw [hre, hke] at hown18
    rw [hke]
    have hz18 := ownsRow_rd hown18
    clear hown18 hscan18 hre hke
    clear ht_18 hp_18
    go_wp2_with fail
    refine (same_n a14 a19 c14 c19 k13 k13 _ _ w18 HKLD.out.symm HKLD.out.symm hkbd hd_18 hz18).mono ?_
    rintro e w19 ⟨rfl, hb19⟩
    have bb19 := bb18.trans (hb19.mono bb18.size)
    have hk_19 := hk_18.below hb19
    have hr_19 := hr_18.below hb19
    have ha_19 := ha_18.below hb19
    have hq_19 := hq_18.below hb19
    have hd_19 := hd_18.below hb19
    have hz_19 := hz18.below hb19
    clear hk_18 hr_18 ha_18 hq_18 hd_18 hz18 bb18
    rw [beq_self_eq_true]
    clear hd_19 hz_19
    go_wp2_with fail
    refine (alike_any a10 a4 c10 c4 _ _ _ _ w19 rfl rfl hsm1 HSM.out ha_19 hk_19).mono ?_
    rintro e w20 ⟨rfl, hb20⟩
    have bb20 := bb19.trans (hb20.mono bb19.size)
    have hk_20 := hk_19.below hb20
    have hr_20 := hr_19.below hb20
    have ha_20 := ha_19.below hb20
    have hq_20 := hq_19.below hb20
    clear hk_19 hr_19 ha_19 hq_19 bb19
    rw [beq_self_eq_true]
    clear ha_20 hk_20
    go_wp2_with fail
    refine (same_n a11 a3 c11 c3 k k _ _ w20 HKL.out.symm HKL.out.symm hkb hq_20 hr_20).mono ?_
    rintro e w21 ⟨rfl, hb21⟩
    have bb21 := bb20.trans (hb21.mono bb20.size)
    have hr_21 := hr_20.below hb21
    have hq_21 := hq_20.below hb21
    clear hr_20 hq_20 bb20
    rw [beq_self_eq_true]
    go_wp2
    go_ret
    exact ⟨rfl, bb21⟩
  · have hng : (0 : Int) < (n : Int) := by omega
    have hj : n / 2 < n := by omega
    obtain ⟨g, rfl, hg1, hg2⟩ := own_some hp_11 (by omega)
    have hg9 : g < w9.heap.size := (own_some hown9x (by omega)).elim (fun g' h => by cases h.1; exact h.2.2)
    have hcell := hp_11.cellAt (n / 2) (by omega)
    have hjl : n / 2 < l.length := by rw [HN.out]; exact hj
    rw [List.getElem?_map, List.getElem?_eq_getElem hjl, Option.map_some, B] at hcell
    have hfr := hp_11.frozenAt (n / 2)
    have hst := (hp_11.stored (n / 2) (B (inv255 l[n / 2]))).1
    rw [← List.map_set] at hst
    obtain ⟨x, hx⟩ : ∃ x, x = l[n / 2] := ⟨_, rfl⟩
    rw [← hx] at hst hcell
    obtain ⟨m, hm⟩ : ∃ m, m = l.set (n / 2) (inv255 x) := ⟨_, rfl⟩
    rw [← hm] at hst
    have hml : m.length = n := by rw [hm, List.length_set, HN.out]
    have HML := Lib.hid hml
    have hxb := x.toNat_lt
    have HX : Hid (Value.int .u8 (255 - (x.toNat : Int)) = B (inv255 x)) := by show _ = _; rw [inv255_val]; rfl
    have hw12 : Below w8.heap.size w8 (w11.setCell ⟨g, n / 2, none⟩ (B (inv255 x))) := bb11.setCell hg1 _
    have hk12 := hk_8.below hw12
    have hr12 := hr_8.below hw12
    have ha12 := (har_11.set hg9 (n / 2) (B (inv255 x))).rdR (ownsRow_setCell_below hao_11 hg9 _)
    have hq12 := ownsRow_rd (ownsRow_setCell_below hown11 (a := ⟨g, n / 2, none⟩) (show g < w10.heap.size by omega) (B (inv255 x)))
    have hp12 := ownsRow_rd hst
    have bb12 := bb8.trans (hw12.mono bb8.size)
    rw [← HX.out] at hk12 hr12 ha12 hq12 hp12 bb12
    have HK12 := Lib.hid hk12
    have HR12 := Lib.hid hr12
    have HA12 := Lib.hid ha12
    have HQ12 := Lib.hid hq12
    have HP12 := Lib.hid hp12
    have HB12 := Lib.hid bb12
    have hh1 := half_nat n
    have hh2 := half_tdiv n
    have hjz : ((n / 2 : Nat) : Int) < (n : Int) := by omega
    obtain ⟨j, hjj⟩ : ∃ j, j = n / 2 := ⟨_, rfl⟩
    rw [← hjj] at HK12 HR12 HA12 HQ12 HP12 HB12 hh1 hh2 hjz hcell hfr
    clear hk12 hr12 ha12 hq12 hp12 bb12 hst hw12 hml hm hx hjl hj hjj hn0 bb11 hk_8 hr_8 har_11 hao_11 hown11 hp_11
    go_wp2_with fail
    obtain ⟨w12, hw⟩ : ∃ w12, w12 = w11.setCell ⟨g, j, none⟩ (Value.int .u8 (255 - (x.toNat : Int))) := ⟨_, rfl⟩
    have hk12 := HK12.out
    have hr12 := HR12.out
    have ha12 := HA12.out
    have hq12 := HQ12.out
    have hp12 := HP12.out
    have bb12 := HB12.out
    rw [← hw] at hk12 hr12 ha12 hq12 hp12 bb12 ⊢
    clear HK12 HR12 HA12 HQ12 HP12 HB12 hw hcell hfr hh1 hh2 hjz
    skip
    refine (scan_any (some ⟨g, 0, none⟩) c9 n m w12 HML.out hcp (by omega) hp12).mono ?_
    rintro e w13 ⟨a13, c13, vs13, rs13, k13, rfl, hown13, hrecs13, hdis13, hscd, hb13⟩
    have bb13 := bb12.trans (hb13.mono bb12.size)
    have hk_13 := hk12.below hb13
    have hr_13 := hr12.below hb13
    have ha_13 := ha12.below hb13
    have hq_13 := hq12.below hb13
    have hp_13 := hp12.below hb13
    clear hk12 hr12 ha12 hq12 hp12 bb12
    have hc13 := hrecs13.rdR hown13
    clear hown13 hrecs13 hdis13
    have HSD := Lib.hid hscd
    clear hscd
    go_wp2_with fail
    refine (repair_any (some ⟨g, 0, none⟩) c9 n m w13 HML.out hcp (by omega) hp_13).mono ?_
    rintro e w14 ⟨a14, c14, rs14, k14, hscan14, rfl, hown14, hb14⟩
    have bb14 := bb13.trans (hb14.mono bb13.size)
    have hk_14 := hk_13.below hb14
    have hr_14 := hr_13.below hb14
    have ha_14 := ha_13.below hb14
    have hq_14 := hq_13.below hb14
    have hp_14 := hp_13.below hb14
    have hc_14 := hc13.below hb14
    clear hk_13 hr_13 ha_13 hq_13 hp_13 hc13 bb13
    obtain ⟨hre, hke⟩ := hscan14.unique HSD.out (by rw [HML.out]; simp only [big]; omega)
    rw [hre, hke] at hown14
    rw [hke]
    have hd14 := ownsRow_rd hown14
    clear hown14 hscan14 hre hke
    go_wp2_with fail
    refine (twin_n (some ⟨g, 0, none⟩) c9 n m w14 HML.out (by omega) hp_14).mono ?_
    rintro e w15 ⟨a15, c15, rfl, hown15, hb15⟩
    have bb15 := bb14.trans (hb15.mono bb14.size)
    have hk_15 := hk_14.below hb15
    have hr_15 := hr_14.below hb15
    have ha_15 := ha_14.below hb15
    have hq_15 := hq_14.below hb15
    have hp_15 := hp_14.below hb15
    have hc_15 := hc_14.below hb15
    have hd_15 := hd14.below hb15
    clear hk_14 hr_14 ha_14 hq_14 hp_14 hc_14 hd14 bb14
    have ht15 := ownsRow_rd hown15
    have hct15 := own_cap hown15
    clear hown15
    go_wp2_with fail
    refine (rscan_any a15 c15 n m w15 HML.out hct15 (by omega) ht15).mono ?_
    rintro e w16 ⟨a16, c16, vs16, rs16, k16, rfl, hown16, hrecs16, hdis16, hscan16, hb16⟩
    have bb16 := bb15.trans (hb16.mono bb15.size)
    have hk_16 := hk_15.below hb16
    have hr_16 := hr_15.below hb16
    have ha_16 := ha_15.below hb16
    have hq_16 := hq_15.below hb16
    have hp_16 := hp_15.below hb16
    have hc_16 := hc_15.below hb16
    have hd_16 := hd_15.below hb16
    have ht_16 := ht15.below hb16
    clear hk_15 hr_15 ha_15 hq_15 hp_15 hc_15 hd_15 ht15 bb15
    obtain ⟨hre, hke⟩ := hscan16.unique HSD.out (by rw [HML.out]; simp only [big]; omega)
    rw [hre] at hown16 hrecs16
    rw [hre, hke]
    have hu16 := hrecs16.rdR hown16
    clear hown16 hrecs16 hdis16 hscan16 hre hke
    have hsmd := scan_small HSD.out HML.out (by omega)
    have HSMD := Lib.hid hsmd.2
    have hsmd1 := hsmd.1
    have HKLD := Lib.hid HSD.out.1
    have hkbd : k13 ≤ 140737488355328 := by have := HSD.out.le; rw [HML.out] at this; omega
    clear hsmd
    have hkkd := int_eql_self (k13 : Int)
    clear ht_16
    go_wp2_with fail
    refine (alike_any a13 a16 c13 c16 _ _ _ _ w16 rfl rfl hsmd1 HSMD.out hc_16 hu16).mono ?_
    rintro e w17 ⟨rfl, hb17⟩
    have bb17 := bb16.trans (hb17.mono bb16.size)
    have hk_17 := hk_16.below hb17
    have hr_17 := hr_16.below hb17
    have ha_17 := ha_16.below hb17
    have hq_17 := hq_16.below hb17
    have hp_17 := hp_16.below hb17
    have hc_17 := hc_16.below hb17
    have hd_17 := hd_16.below hb17
    have hu_17 := hu16.below hb17
    clear hk_16 hr_16 ha_16 hq_16 hp_16 hc_16 hd_16 hu16 bb16
    rw [beq_self_eq_true]
    clear hc_17 hu_17
    go_wp2_with fail
    refine (twin_n (some ⟨g, 0, none⟩) c9 n m w17 HML.out (by omega) hp_17).mono ?_
    rintro e w18 ⟨a18, c18, rfl, hown18, hb18⟩
    have bb18 := bb17.trans (hb18.mono bb17.size)
    have hk_18 := hk_17.below hb18
    have hr_18 := hr_17.below hb18
    have ha_18 := ha_17.below hb18
    have hq_18 := hq_17.below hb18
    have hp_18 := hp_17.below hb18
    have hd_18 := hd_17.below hb18
    clear hk_17 hr_17 ha_17 hq_17 hp_17 hd_17 bb17
    have ht18 := ownsRow_rd hown18
    have hct18 := own_cap hown18
    clear hown18
    go_wp2_with fail
    refine (rrepair_any a18 c18 n m w18 HML.out hct18 (by omega) ht18).mono ?_
    rintro e w19 ⟨a19, c19, rs19, k19, hscan19, rfl, hown19, hb19⟩
    have bb19 := bb18.trans (hb19.mono bb18.size)
    have hk_19 := hk_18.below hb19
    have hr_19 := hr_18.below hb19
    have ha_19 := ha_18.below hb19
    have hq_19 := hq_18.below hb19
    have hp_19 := hp_18.below hb19
    have hd_19 := hd_18.below hb19
    have ht_19 := ht18.below hb19
    clear hk_18 hr_18 ha_18 hq_18 hp_18 hd_18 ht18 bb18
    obtain ⟨hre, hke⟩ := hscan19.unique HSD.out (by rw [HML.out]; simp only [big]; omega)
    rw [hre, hke] at hown19
    rw [hke]
    have hz19 := ownsRow_rd hown19
    clear hown19 hscan19 hre hke
    clear ht_19 hp_19
    go_wp2_with fail
    refine (same_n a14 a19 c14 c19 k13 k13 _ _ w19 HKLD.out.symm HKLD.out.symm hkbd hd_19 hz19).mono ?_
    rintro e w20 ⟨rfl, hb20⟩
    have bb20 := bb19.trans (hb20.mono bb19.size)
    have hk_20 := hk_19.below hb20
    have hr_20 := hr_19.below hb20
    have ha_20 := ha_19.below hb20
    have hq_20 := hq_19.below hb20
    have hd_20 := hd_19.below hb20
    have hz_20 := hz19.below hb20
    clear hk_19 hr_19 ha_19 hq_19 hd_19 hz19 bb19
    rw [beq_self_eq_true]
    clear hd_20 hz_20
    go_wp2_with fail
    refine (alike_any a10 a4 c10 c4 _ _ _ _ w20 rfl rfl hsm1 HSM.out ha_20 hk_20).mono ?_
    rintro e w21 ⟨rfl, hb21⟩
    have bb21 := bb20.trans (hb21.mono bb20.size)
    have hk_21 := hk_20.below hb21
    have hr_21 := hr_20.below hb21
    have ha_21 := ha_20.below hb21
    have hq_21 := hq_20.below hb21
    clear hk_20 hr_20 ha_20 hq_20 bb20
    rw [beq_self_eq_true]
    clear ha_21 hk_21
    go_wp2_with fail
    refine (same_n a11 a3 c11 c3 k k _ _ w21 HKL.out.symm HKL.out.symm hkb hq_21 hr_21).mono ?_
    rintro e w22 ⟨rfl, hb22⟩
    have bb22 := bb21.trans (hb22.mono bb21.size)
    have hr_22 := hr_21.below hb22
    have hq_22 := hq_21.below hb22
    clear hr_21 hq_21 bb21
    rw [beq_self_eq_true]
    go_wp2
    go_ret
    exact ⟨rfl, bb22⟩

theorem scans_law {w : World} (a : Option Addr) (n cap : Nat) (l : List UInt8) (hl : l.length = n) (h : Rd w a (l.map B)) (z : n ≤ 140737488351232) (hc : n ≤ cap) (w' : World) (hw : w = w') :
    Calls Try.prog 6 #[.slice a n cap] w' fun e W' => e = .returned (.bool true) ∧ Below w'.heap.size w' W' := by
  subst hw
  exact scans_walk a cap n l w hl hc z h
#print axioms scans_law
end Go.Proofs.Ytiebnfdjnclkcaa
