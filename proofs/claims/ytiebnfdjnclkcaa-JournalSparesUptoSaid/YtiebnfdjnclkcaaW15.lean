/- The walk of apart. -/
import Derived.Test.YtiebnfdjnclkcaaW14b
set_option linter.unusedVariables false
namespace Go.Proofs.Ytiebnfdjnclkcaa
open Go.RowKit
set_option maxHeartbeats 2000000 in
theorem apart_any (base bo : Nat) (al : Option Addr) (cl N : Nat) (ts : List It) (w : World) (hN : ts.length = N) (hNb : N ≤ 4294967296) (hn : ∀ t ∈ ts, t.n ≤ 4294967296) (hbase : base ≤ w.heap.size)
    (hout : w.ownsRow base 22 1 (.slice al N cl) N (ts.map It.val)) (hown : ∀ t ∈ ts, t.Own w base) (hoff : ∀ i j (hi : i < ts.length) (hj : j < ts.length), i ≠ j → Off ts[i].a ts[j].a) :
    Calls Try.prog 29 #[.slice al N cl] w fun e w' => e = .returned (.bool true) ∧ Below base w w' := by
  go_enter Try.func29, Try.ntmps29
  go_wp2
  go_loopw [3, 4] (fun v i wr => ∃ (k : Nat) (a2 : Option Addr) (c2 : Nat) (vs : List Value) (T : Nat → Two), k ≤ N ∧ i = .int .i64 (k : Int) ∧ v = .slice a2 k c2 ∧ wr.ownsRow base 22 1 v k vs ∧ LongAt vs k T ∧ TwoOk wr base N k ts T ∧
    wr.ownsRow base 22 1 (.slice al N cl) N (ts.map It.val) ∧ Off a2 al ∧ Below base w wr) (fun _ i _ => N - (intOf i).toNat)
  case atStart => exact ⟨0, none, 0, [], T0 ts, Nat.zero_le _, rfl, rfl, World.ownsRow_nil _ _ _ _, ⟨rfl, fun i h => by omega⟩, TwoOk.start hown hoff, hout, .inl rfl, Below.refl _ _⟩
  case round =>
    obtain ⟨k, a2, c2, vs, T, hk, rfl, rfl, hlong, hat, hok, hout1, hoa, hbel⟩ := hrel
    by_cases hlt : k < N
    · have hkl : k < ts.length := by omega
      obtain ⟨g0, rfl, hg0, hg0'⟩ := own_some hout1 (by omega)
      have hcell := hout1.cellAt k (by omega)
      rw [List.getElem?_map, List.getElem?_eq_getElem hkl, Option.map_some, It.val] at hcell
      have hlt' : (k : Int) < N := by omega
      obtain ⟨t, ht⟩ : ∃ t, t = ts[k] := ⟨_, rfl⟩
      rw [← ht] at hcell
      have htn := hn t (by rw [ht]; exact List.getElem_mem hkl)
      obtain ⟨l, hl, htow⟩ := (hok.2.2.2 k hkl (Nat.le_refl _)).2
      rw [← ht] at hl htow
      have HT := Lib.hid ht
      have HOK := Lib.hid hok
      have HAT := Lib.hid hat
      clear ht hok hat
      have hz0 := hbel.size
      go_wp2
      obtain ⟨wo, hwo⟩ : ∃ wo, wo = wr := ⟨_, rfl⟩
      subst hwo
      go_loopw [5, 6] (fun v i w1 => ∃ (q : Nat) (a1 : Option Addr) (c1 : Nat), q ≤ 70 ∧ i = .int .i64 (q : Int) ∧ v = .slice a1 (t.n + q) c1 ∧ Lng base t.a t.n (l.map B) wo w1 a1 (t.n + q) c1 ((List.replicate q (0 : UInt8)).map B)) (fun _ i _ => 70 - (intOf i).toNat)
      case atStart => exact ⟨0, t.a, t.c, by omega, rfl, rfl, Lng.start htow⟩
      case round =>
        obtain ⟨q, a1, c1, hq, rfl, rfl, hlg⟩ := hrel
        by_cases hq70 : q < 70
        · have hq' : (q : Int) < 70 := by omega
          have ho := hlg.1
          rw [← List.map_append] at ho
          have hs := hlg.2.2.1.size
          have HL := Lib.hid hlg
          clear hlg hcell
          go_wp2_with (first | (at_builtin; refine app_b1 wr rfl _ _ rfl base (.slice a1 (t.n + q) c1) (t.n + q) (l ++ List.replicate q 0) rfl ho (.int .u8 0) 0 rfl rfl (by omega) (by omega) ?_; intro a3 c3 w2 hown2 hb2 hmv2) | fail)
          have h3 : Lng base t.a t.n (l.map B) wo w2 a3 (t.n + q + 1) c3 ((List.replicate q (0 : UInt8)).map B ++ [B 0]) := Lng.step ⟨t.c, htow⟩ HL.out (by simpa using hown2) hmv2
          have h4 : (List.replicate q (0 : UInt8)).map B ++ [B 0] = (List.replicate (q + 1) (0 : UInt8)).map B := by rw [List.replicate_succ', List.map_append]; rfl
          rw [h4] at h3
          have H3 := Lib.hid h3
          clear h3 h4 hown2 hb2 hmv2 ho
          go_wp2
          go_roundw
          case rel => exact ⟨q + 1, a3, c3, by omega, by go_num, rfl, H3.out⟩
          case measure => simp [intOf]; omega
        · have hq' : ¬ (q : Int) < 70 := by omega
          have hqe : q = 70 := by omega
          rw [hqe] at hlg ⊢
          clear hqe
          have hokr : TwoOk wr base N (k + 1) ts (upd T k ⟨t.a, t.n, a1, t.n + 70⟩) := by
            have h0 := HOK.out
            have hl3 := hlg
            rw [HT.out] at hl3 ⊢
            exact TwoOk.step hkl h0 hl3 (by omega)
          have hta : OwnA wo base t.a t.n (l.map B) := ⟨t.c, htow⟩
          have hlong2 := own22_kept hlong hta hlg.2.2.1
          have hout2 := own22_kept hout1 hta hlg.2.2.1
          have hbel2 : Below base w wr := hbel.grown hlg.2.2.1 (by omega) fun g hg => (hta.lt g hg).1
          have hz1 := hbel2.size
          have HLG := Lib.hid hlg
          have HOKR := Lib.hid hokr
          have HO2 := Lib.hid hout2
          have HOA := Lib.hid hoa
          have HB2 := Lib.hid hbel2
          have HLO2 := Lib.hid hlong2
          clear hlg hokr hta hcell hout1 hout2 hoa hbel hbel2 hlong htow hq' hq hq70
          go_wp2_with (first | (at_builtin; refine app_s1 wr rfl _ _ rfl base (.slice a2 k c2) k vs rfl hlong2 a1 (t.n + 70) c1 rfl (by omega) (by omega) ?_; intro a3 c3 w2 hown2 hb2 hmv2) | fail)
          have hlt2 : ∀ g, (Value.slice a2 k c2).ownBlock = some g → g < wr.heap.size := fun g hg => (HLO2.out.lt g hg).2
          obtain ⟨hg2, hbl2⟩ := moved_grown hmv2 hlt2
          have hb1 := own_blk HLO2.out
          have hb3 := own_blk hown2
          have hok3 := HOKR.out.kept hg2 (own22_off HLO2.out)
          rw [hb1] at hg2 hbl2
          rw [hb3] at hbl2
          have hblo := own_blk HO2.out
          have hout3 := HO2.out.kept hg2 (by rw [hblo]; exact HOA.out.symm)
          have hoa3 : Off a3 (some ⟨g0, 0, none⟩) := by
            rcases hbl2 with e | ⟨g, hg, e⟩
            · have := HOA.out; unfold Off at this ⊢; rw [e]; exact this
            · right
              rw [e]
              intro e2
              have := (HO2.out.lt g (by rw [hblo]; exact e2.symm)).2
              omega
          have hb3' := HB2.out.grown hg2 (by omega) fun g hg => (HLO2.out.lt g (by rw [hb1]; exact hg)).1
          have HAT2 := Lib.hid (LongAt.step HAT.out ⟨t.a, t.n, a1, t.n + 70⟩ c1 (by show t.n + 70 ≤ _; omega) (own_capn HLG.out.1))
          have H1 := Lib.hid hok3
          have H2 := Lib.hid hout3
          have H3 := Lib.hid hoa3
          have H4 := Lib.hid hb3'
          have H5 := Lib.hid hown2
          clear hok3 hout3 hoa3 hb3' hown2 hb2 hmv2 hg2 hbl2 hb1 hb3 hblo hlt2 hlong2
          go_wp2
          go_roundw
          case rel => exact ⟨k + 1, a3, c3, _, _, by omega, by go_num, rfl, H5.out, HAT2.out, H1.out, H2.out, H3.out, H4.out⟩
          case measure => simp [intOf]; omega
    · have hke : k = N := by omega
      have hlt' : ¬ (k : Int) < N := by omega
      subst hke
      obtain ⟨hsets, hoffs⟩ := hok.sets hN
      have hta := hok.1
      have hat2 := hat.2
      have hvl := hat.1
      have HS0 := Lib.hid hsets
      have HTA := Lib.hid hta
      have HOF := Lib.hid hoffs
      have HAT := Lib.hid hat2
      have hz0 := hbel.size
      clear hok hat hat2 hsets hta hoffs hlt
      obtain ⟨hz, hzz⟩ : ∃ z : Nat, z = wr.heap.size := ⟨_, rfl⟩
      go_wp2
      go_loopw [7] (fun i w1 => ∃ (q : Nat), q ≤ k ∧ i = .int .i64 (q : Int) ∧ w1.ownsRow base 22 1 (.slice a2 k c2) k vs ∧ w1.ownsRow base 22 1 (.slice al k cl) k (ts.map It.val) ∧ Below base w w1 ∧
        ∃ F, Sets w1 base k T F ∧ ∀ i, i < q → F i = some 0) (fun i _ => k - (intOf i).toNat)
      case atStart => exact ⟨0, Nat.zero_le _, rfl, hlong, hout1, hbel, _, HS0.out, fun i hi => by omega⟩
      case round =>
        obtain ⟨q, hq, rfl, hr1, hr2, hb, F, hS, hF⟩ := hrel
        by_cases hqk : q < k
        · have hqk' : (q : Int) < k := by omega
          obtain ⟨g1, g2, ca, cb, rfl, rfl, hc1, hc2, hm, hm2, -⟩ := at_index (c2 := c2) (cl := cl) hqk hN HTA.out hn HAT.out hr1 hr2
          have hz1 := hb.size
          obtain ⟨⟨xs, hx⟩, -⟩ := hS.1 q hqk
          obtain ⟨pt, hpt⟩ : ∃ t, t = T q := ⟨_, rfl⟩
          obtain ⟨pa, pn, pb, pm⟩ := pt
          have HPT := Lib.hid hpt
          rw [← hpt] at hc1 hc2 hm hm2 hx
          have HS := Lib.hid hS
          have HF := Lib.hid hF
          have HR1 := Lib.hid hr1
          have HR2 := Lib.hid hr2
          have HB := Lib.hid hb
          clear hpt hS hF hb hlong hout1 hbel hr1 hr2
          dsimp only at hc1 hc2 hm hm2 hx
          go_wp2_with fail
          refine (filled_any base pa ca pn 0 xs wr (by omega) hx).mono ?_
          rintro e w1 ⟨rfl, hf1⟩
          have hr1' := Filled.row hf1 hx HR1.out
          have hr2' := Filled.row hf1 hx HR2.out
          obtain ⟨-, ⟨ys, hy⟩, -⟩ := (HS.out.1 q hqk).fill_a (u := 0) (w' := w1) (by rw [← HPT.out]; exact hf1)
          rw [← HPT.out] at hy
          dsimp only at hy
          have hb1 := HB.out.trans (Filled.below hf1 hx (by omega))
          have hz2 := hb1.size
          have hc1' := cell_again hqk HR1.out hr1' hc1
          have hc2' := cell_again hqk HR2.out hr2' hc2
          have HF1 := Lib.hid hf1
          have HRA := Lib.hid hr1'
          have HRB := Lib.hid hr2'
          have HB1 := Lib.hid hb1
          clear hf1 hr1' hr2' hb1 hx hc1 hc2
          go_wp2_with fail
          refine (filled_any base pb cb pm 0 ys w1 (by omega) hy).mono ?_
          rintro e w2 ⟨rfl, hf2⟩
          have hr1 := Filled.row hf2 hy HRA.out
          have hr2 := Filled.row hf2 hy HRB.out
          have hb2 := HB1.out.trans (Filled.below hf2 hy (by omega))
          have hz3 := hb2.size
          have hs2 := HS.out.fill HOF.out hqk (u := 0) (w1 := w1) (w2 := w2) (by rw [← HPT.out]; exact HF1.out) (by rw [← HPT.out]; exact hf2)
          have hc1 := cell_again hqk HRA.out hr1 hc1'
          have hc2 := cell_again hqk HRB.out hr2 hc2'
          have HS2 := Lib.hid hs2
          have HR1' := Lib.hid hr1
          have HR2' := Lib.hid hr2
          have HB2 := Lib.hid hb2
          clear hs2 hr1 hr2 hb2 hc1 hc2 hc1' hc2' hf2 hy hm hm2
          go_wp2
          go_roundw
          case rel => exact ⟨q + 1, by omega, by go_num, HR1'.out, HR2'.out, HB2.out, _, HS2.out, fun i hi => by
            by_cases e : i = q
            · rw [e]; exact updF_at
            · rw [updF_ne e]; exact HF.out i (by omega)⟩
          case measure => simp [intOf]; omega
        · have hqe : q = k := by omega
          have hqk' : ¬ (q : Int) < k := by omega
          rw [hqe] at hF hqk' ⊢
          have HF0 := Lib.hid hF
          have HS0 := Lib.hid hS
          have hz1 := hb.size
          clear hF hS hqe hq hlong hout1 hbel hqk
          rename_i wr0 _
          go_wp2
          go_loopw [8] (fun i w1 => ∃ (q : Nat), q ≤ k ∧ i = .int .i64 (q : Int) ∧ w1.ownsRow base 22 1 (.slice a2 k c2) k vs ∧ w1.ownsRow base 22 1 (.slice al k cl) k (ts.map It.val) ∧ Below base w w1 ∧
            ∃ F, Sets w1 base k T F ∧ ∀ i, i < k → F i = some 0) (fun i _ => k - (intOf i).toNat)
          case atStart => exact ⟨0, Nat.zero_le _, rfl, hr1, hr2, hb, _, HS0.out, HF0.out⟩
          case round =>
            obtain ⟨q, hq, rfl, hr1, hr2, hb, F, hS, hF⟩ := hrel
            by_cases hqk : q < k
            · have hqk' : (q : Int) < k := by omega
              obtain ⟨g1, g2, ca, cb, rfl, rfl, hc1, hc2, hm, hm2, -⟩ := at_index (c2 := c2) (cl := cl) hqk hN HTA.out hn HAT.out hr1 hr2
              have hz1 := hb.size
              obtain ⟨⟨xs, hx⟩, -⟩ := hS.1 q hqk
              obtain ⟨pt, hpt⟩ : ∃ t, t = T q := ⟨_, rfl⟩
              obtain ⟨pa, pn, pb, pm⟩ := pt
              have HPT := Lib.hid hpt
              rw [← hpt] at hc1 hc2 hm hm2 hx
              have HS := Lib.hid hS
              have HF := Lib.hid hF
              have HR1 := Lib.hid hr1
              have HR2 := Lib.hid hr2
              have HB := Lib.hid hb
              clear hpt hS hF hb hr1 hr2
              dsimp only at hc1 hc2 hm hm2 hx
              go_wp2_with fail
              refine (filled_any base pa ca pn 1 xs wr (by omega) hx).mono ?_
              rintro e w1 ⟨rfl, hf1⟩
              have hr1' := Filled.row hf1 hx HR1.out
              have hr2' := Filled.row hf1 hx HR2.out
              obtain ⟨-, ⟨ys, hy⟩, -⟩ := (HS.out.1 q hqk).fill_a (u := 1) (w' := w1) (by rw [← HPT.out]; exact hf1)
              rw [← HPT.out] at hy
              dsimp only at hy
              have hb1 := HB.out.trans (Filled.below hf1 hx (by omega))
              have hz2 := hb1.size
              have hc1' := cell_again hqk HR1.out hr1' hc1
              have hc2' := cell_again hqk HR2.out hr2' hc2
              have HF1 := Lib.hid hf1
              have HRA := Lib.hid hr1'
              have HRB := Lib.hid hr2'
              have HB1 := Lib.hid hb1
              clear hf1 hr1' hr2' hb1 hx hc1 hc2
              go_wp2_with fail
              refine (filled_any base pb cb pm 1 ys w1 (by omega) hy).mono ?_
              rintro e w2 ⟨rfl, hf2⟩
              have hr1 := Filled.row hf2 hy HRA.out
              have hr2 := Filled.row hf2 hy HRB.out
              have hb2 := HB1.out.trans (Filled.below hf2 hy (by omega))
              have hz3 := hb2.size
              have hs2 := HS.out.fill HOF.out hqk (u := 1) (w1 := w1) (w2 := w2) (by rw [← HPT.out]; exact HF1.out) (by rw [← HPT.out]; exact hf2)
              have hc1 := cell_again hqk HRA.out hr1 hc1'
              have hc2 := cell_again hqk HRB.out hr2 hc2'
              have hfull : ∀ i, i < k → i ≠ q → (T i).Full w2 base 0 := fun i hi hne => hs2.2 i 0 hi (by rw [updF_ne hne]; exact HF.out i hi)
              have HS2 := Lib.hid hs2
              have HR1' := Lib.hid hr1
              have HR2' := Lib.hid hr2
              have HB2 := Lib.hid hb2
              have HFU := Lib.hid hfull
              clear hs2 hr1 hr2 hb2 hc1' hc2' hf2 hy hfull
              go_wp2
              go_loop [9] (fun i => ∃ p : Nat, p ≤ k ∧ i = .int .i64 (p : Int)) (fun i => k - (intOf i).toNat)
              case atStart => exact ⟨0, Nat.zero_le _, rfl⟩
              case round =>
                obtain ⟨p, hp, rfl⟩ := hrel
                by_cases hpk : p < k
                · have hpk' : (p : Int) < k := by omega
                  by_cases hpq : p = q
                  · subst hpq
                    have hself : ((p : Int) != (p : Int)) = false := by simp
                    go_wp2
                    go_round
                    case rel => exact ⟨p + 1, by omega, by go_num⟩
                    case measure => simp [intOf]; omega
                  · have hne : ((p : Int) != (q : Int)) = true := by simp; omega
                    obtain ⟨g1', g2', ca', cb', e1, e2, hd1, hd2, hdm, hdm2, -⟩ := at_index (c2 := c2) (cl := cl) hpk hN HTA.out hn HAT.out HR1'.out HR2'.out
                    cases e1
                    cases e2
                    have hfu := HFU.out p hpk hpq
                    obtain ⟨rt, hrt⟩ : ∃ t, t = T p := ⟨_, rfl⟩
                    obtain ⟨ra, rn, rb, rm⟩ := rt
                    rw [← hrt] at hd1 hd2 hdm hdm2 hfu
                    obtain ⟨hfa, hfb⟩ := hfu
                    have hra := hfa.rd
                    have hrb := hfb.rd
                    clear hfa hfb hrt
                    dsimp only at hd1 hd2 hdm hdm2 hra hrb
                    go_wp2_with fail
                    refine (holding_any ra ca' rn 0 w2 (by omega) hra).mono ?_
                    rintro e w3 ⟨rfl, rfl⟩
                    go_wp2_with fail
                    refine (holding_any rb cb' rm 0 w2 (by omega) hrb).mono ?_
                    rintro e w3 ⟨rfl, rfl⟩
                    go_wp2
                    go_round
                    case rel => exact ⟨p + 1, by omega, by go_num⟩
                    case measure => simp [intOf]; omega
                · have hpk' : ¬ (p : Int) < k := by omega
                  obtain ⟨⟨xs, hx⟩, -⟩ := HS2.out.1 q hqk
                  rw [← HPT.out] at hx
                  have HR1 := HR1'
                  have HR2 := HR2'
                  have HB := HB2
                  have HS := HS2
                  clear HS2 HR1' HR2' HB2
                  clear hp hpk
                  dsimp only at hc1 hc2 hm hm2 hx
                  go_wp2_with fail
                  refine (filled_any base pa ca pn 0 xs w2 (by omega) hx).mono ?_
                  rintro e w5 ⟨rfl, hf1⟩
                  have hr1' := Filled.row hf1 hx HR1.out
                  have hr2' := Filled.row hf1 hx HR2.out
                  obtain ⟨-, ⟨ys, hy⟩, -⟩ := (HS.out.1 q hqk).fill_a (u := 0) (w' := w5) (by rw [← HPT.out]; exact hf1)
                  rw [← HPT.out] at hy
                  dsimp only at hy
                  have hb1 := HB.out.trans (Filled.below hf1 hx (by omega))
                  have hz2 := hb1.size
                  have hc1' := cell_again hqk HR1.out hr1' hc1
                  have hc2' := cell_again hqk HR2.out hr2' hc2
                  have HF1 := Lib.hid hf1
                  have HRA := Lib.hid hr1'
                  have HRB := Lib.hid hr2'
                  have HB1 := Lib.hid hb1
                  clear hf1 hr1' hr2' hb1 hx hc1 hc2
                  go_wp2_with fail
                  refine (filled_any base pb cb pm 0 ys w5 (by omega) hy).mono ?_
                  rintro e w6 ⟨rfl, hf2⟩
                  have hr1 := Filled.row hf2 hy HRA.out
                  have hr2 := Filled.row hf2 hy HRB.out
                  have hb2 := HB1.out.trans (Filled.below hf2 hy (by omega))
                  have hz3 := hb2.size
                  have hs2 := HS.out.fill HOF.out hqk (u := 0) (w1 := w5) (w2 := w6) (by rw [← HPT.out]; exact HF1.out) (by rw [← HPT.out]; exact hf2)
                  skip
                  skip
                  have HS9 := Lib.hid hs2
                  clear hs2 hc1' hc2' hf2 hy
                  go_wp2
                  go_roundw
                  case rel => exact ⟨q + 1, by omega, by go_num, hr1, hr2, hb2, _, HS9.out, fun i hi => by
                    by_cases e : i = q
                    · rw [e]; exact updF_at
                    · rw [updF_ne e, updF_ne e]; exact HF.out i (by omega)⟩
                  case measure => simp [intOf]; omega
            · have hqk' : ¬ (q : Int) < k := by omega
              go_wp2
              go_ret
              exact ⟨rfl, hb⟩
#print axioms apart_any
end Go.Proofs.Ytiebnfdjnclkcaa
