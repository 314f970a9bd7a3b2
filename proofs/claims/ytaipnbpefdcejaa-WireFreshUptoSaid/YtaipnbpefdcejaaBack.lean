/- The walk of the law WireBack. -/
import Derived.Test.YtaipnbpefdcejaaMK
set_option linter.unusedVariables false
namespace Go.Proofs.Ytaipnbpefdcejaa
open Go.RowKit
theorem rd_take {w : World} {a : Option Addr} {l : List UInt8} (h : Rd w a (l.map B)) (k : Nat) : Rd w a ((l.take k).map B) := by
  rcases h with h | ⟨b, off, h1, h2⟩
  · refine .inl ?_
    have : l = [] := by simpa using h
    simp [this]
  · refine .inr ⟨b, off, h1, fun i u hu => h2 i u ?_⟩
    rw [List.map_take] at hu
    rw [List.getElem?_take] at hu
    split at hu
    · exact hu
    · cases hu
set_option maxHeartbeats 4000000 in
set_option maxRecDepth 20000 in
theorem back_walk (m : M) (p : Ps) (ar : Option Addr) (nr cr : Nat) (rest : List UInt8) (k : Int) (w : World) (hwf : WfM m) (hr : MRd w m p) (hn : rest.length = nr) (hmax : nr ≤ 1073741824) (hcr : nr ≤ cr) (hrr : Rd w ar (rest.map B)) (hk : -9223372036854775808 ≤ k ∧ k ≤ 9223372036854775807) :
    Calls Try.prog 8 #[valM m p, .slice ar nr cr, .int .i64 k] w fun e w' => e = .returned (.bool true) ∧ Below w.heap.size w w' := by
  have HNR := Lib.hid hn
  clear hn
  obtain ⟨v0, hv0⟩ : ∃ v, v = valM m p := ⟨_, rfl⟩
  obtain ⟨wa, hwa⟩ : ∃ wa, wa = w.alloc (.cells (cellsM m p).toArray 50) := ⟨_, rfl⟩
  have hba : Below w.heap.size w wa := by rw [hwa]; exact (Below.refl _ _).alloc (Nat.le_refl _) _
  have hka : Blk wa w.heap.size 50 (cellsM m p) := by rw [hwa]; exact Blk.new w _ 50
  have hra := hr.below hba
  have hrra := hrr.below hba
  unfold cellsM at hwa
  unfold valM cellsM at hv0
  unfold valM cellsM
  go_enter Try.func8, Try.ntmps8
  go_upto_region 1 with fail
  rw [← hwa]
  obtain ⟨gm, hgm⟩ : ∃ g, g = w.heap.size := ⟨_, rfl⟩
  rw [← hgm] at hka ⊢
  have hrg : wa.rangeAt gm 0 (cellsM m p) := hka.whole
  clear hwa hv0 hgm hr hrr
  go_wp2_with (first | ((with_reducible refine at_dst 19 ?_); refine wpList_load_midg rfl _ _ rfl _ _ rfl _ _ hrg Try.underlying50 rfl (by kernel_rfl) ?_) | fail)
  refine (encoded_any m p wa hwf hra).mono ?_
  rintro e w1 ⟨a1, c1, rfl, hown1, hb1⟩
  have hk1 := hka.below hb1
  have hr1 := hra.below hb1
  have hrr1 := hrra.below hb1
  have bb1 := hba.trans (hb1.mono hba.size)
  have HB1 := Lib.hid hb1
  clear hka hra hrra hrg hb1
  rcases encA_cases m hwf with ⟨_, h2⟩ | ⟨hp, hl, h2, h3⟩ | ⟨_, _, h2, _⟩
  · rw [h2] at hown1 ⊢
    dsimp only [List.length_nil] at hown1 ⊢
    clear hown1 h2
    go_wp2_with fail
    refine (alive_any w1).mono ?_
    rintro e w2 ⟨rfl, hb2⟩
    have hfin := bb1.trans (hb2.mono bb1.size)
    go_wp2
    go_ret
    exact ⟨rfl, hfin⟩
  · rw [h2] at hown1 ⊢
    dsimp only at hown1 ⊢
    obtain ⟨n, hn⟩ : ∃ n, n = (frameM m).length := ⟨_, rfl⟩
    have hnb : n ≤ 1048600 := by have := encA_len m; rw [h2] at this; rw [hn]; exact this
    rw [← hn] at hown1 h3 ⊢
    have HN := Lib.hid hn
    have hcap := own_cap hown1
    have hf1 := ownsRow_rd hown1
    have HVX := Lib.hid (VX.of hwf hp)
    have HP := Lib.hid hp
    have HL := Lib.hid hl
    clear hown1 h2 hn hp hl
    have hn0 : ¬ (n : Int) = 0 := by omega
    go_wp2_with fail
    refine (copied_n a1 c1 n _ w1 HN.out.symm (by omega) hf1).mono ?_
    rintro e w2 ⟨a2, c2, rfl, hown2, hb2⟩
    have hrr2 := hrr1.below hb2
    have hz2 := hb2.size
    go_wp2_with (first | (at_builtin; refine app_b w2 rfl _ _ rfl w1.heap.size (.slice a2 n c2) n _ rfl hown2 ar nr cr rest rfl HNR.out hrr2 (by omega) hz2 ?_; intro a3 c3 w3 hown3 hb3 hmv3) | fail)
    have hb13 := hb2.trans hb3
    have hk3 := hk1.below hb13
    have hr3 := hr1.below hb13
    have hf3 := hf1.below hb13
    have bb3 := bb1.trans (hb13.mono bb1.size)
    have hA3 := ownsRow_rd hown3
    have hcap3 := own_cap hown3
    have hlA : (frameM m ++ rest).length = n + nr := by rw [List.length_append, HN.out, HNR.out]
    have HLA := Lib.hid hlA
    clear hown2 hown3 hmv3 hb2 hb3 hz2 hrr2 hb13 hlA hf1 hrr1 hk1 hr1 bb1
    go_wp2_with fail
    refine (decode_any a3 (n + nr) c3 _ w3 HLA.out (by omega) hcap3 hA3).mono ?_
    rintro e w4 ⟨x, q, n', c, rfl, hR, hown4, hb4⟩
    obtain ⟨rfl, rfl, hn'⟩ := dec_frame HVX.out HP.out HL.out hR
    rw [← HN.out] at hn'
    subst n'
    have hk4 := hk3.below hb4
    have hr4 := hr3.below hb4
    have hf4 := hf3.below hb4
    have bb4 := bb3.trans (hb4.mono bb3.size)
    have hq4 := hown4.rd
    clear hown4 hR hA3 hb4 hk3 hr3 hf3 bb3
    obtain ⟨hkk, hkb, hth⟩ := new_msg w4 x q
    obtain ⟨wb, hwb⟩ : ∃ wb, wb = (w4.alloc (.cells cellsZ.toArray 50)).setCells w4.heap.size 0 (cellsM x q) := ⟨_, rfl⟩
    rw [← hwb] at hkk hkb
    unfold cellsZ at hth hwb
    have HWB := Lib.hid hwb
    clear hwb
    go_upto_region 8 with (first | ((with_reducible refine at_store ?_); refine wpList_store_mid rfl 50 _ _ rfl w4.heap.size 0 (cellsM x q).toArray rfl rfl hth (by kernel_rfl) (by kernel_rfl) ?_; rw [← HWB.out]) | fail)
    obtain ⟨gk, hgk⟩ : ∃ g, g = w4.heap.size := ⟨_, rfl⟩
    rw [← hgk] at hkk ⊢
    have HT : Hid (TW w x p q gm gk wb) := Lib.hid ⟨hk4.below hkb, hkk, hr4.below hkb, hq4.below hkb, bb4.trans (hkb.mono bb4.size)⟩
    have hf5 := hf4.below hkb
    clear hk4 hkk hr4 hq4 bb4 hkb hth HWB hgk hf4
    go_wp2_with (first | ((with_reducible refine at_dst 39 ?_); refine wpList_load_midg rfl 50 (.tmp 10) rfl gk 0 rfl (cellsM x q) _ (HT.out.2.1.whole) Try.underlying50 rfl (by kernel_rfl) ?_) | ((with_reducible refine at_dst 40 ?_); refine wpList_load_midg rfl 50 (.tmp 3) rfl gm 0 rfl (cellsM x p) _ (HT.out.1.whole) Try.underlying50 rfl (by kernel_rfl) ?_) | fail)
    refine (alike_any x x q p wb hwf hwf HT.out.2.2.2.1 HT.out.2.2.1).mono ?_
    rintro e w6 ⟨b6, rfl, hb6, hbe6⟩
    obtain rfl : b6 = true := hb6.2 rfl
    have hf6 := hf5.below hbe6
    have bb6 : Below w.heap.size w w6 := HT.out.2.2.2.2.trans (hbe6.mono HT.out.2.2.2.2.size)
    clear HT hbe6 hb6 hf5
    have hne : ((n : Int) != n) = false := by simp
    have HBB := Lib.hid bb6
    have HF6 := Lib.hid hf6
    clear bb6 hf6
    have hsub : IntKind.i64.wrap ((n : Int) - 1) = ((n - 1 : Nat) : Int) := by rw [IntKind.wrap_i64]; omega
    have hcases : k < 0 ∨ (¬ k < 0 ∧ k ≥ (n : Int)) ∨ ∃ K : Nat, k = (K : Int) ∧ K < n := by
      by_cases h1 : k < 0
      · exact .inl h1
      · by_cases h2 : k ≥ (n : Int)
        · exact .inr (.inl ⟨h1, h2⟩)
        · exact .inr (.inr ⟨k.toNat, by omega, by omega⟩)
    clear hk
    have tail : ∀ K : Nat, K < n → Hid (K < n ∧ (K : Int) ≤ (n : Int) ∧ K ≤ c1 ∧ (0 : Int) ≤ K ∧ (K : Int) ≤ c1) := fun K h => Lib.hid ⟨h, by omega, by omega, by omega, by omega⟩
    rcases hcases with h1 | ⟨h1, h2⟩ | ⟨K, rfl, h1⟩
    · obtain ⟨K, hK⟩ : ∃ K, K = n - 1 := ⟨_, rfl⟩
      rw [← hK] at hsub
      have HK := tail K (by omega)
      clear hK
      obtain ⟨k1, k2, k3, k4, k5⟩ := HK.out
      have hlk : ((frameM x).take K).length = K := by rw [List.length_take, ← HN.out]; omega
      have HLK := Lib.hid hlk
      clear tail hlk
      go_upto_region 13 with fail
      clear hsub hne
      go_wp2_with fail
      refine (decode_any a1 K c1 ((frameM x).take K) w6 HLK.out (by omega) k3 (rd_take HF6.out K)).mono ?_
      rintro e w7 ⟨y, q7, n7, c7, rfl, hR, hown7, hb7⟩
      obtain ⟨rfl, hy, rfl⟩ := dec_cut HL.out (by rw [← HN.out]; exact k1) hR
      have HY := Lib.hid hy
      have hq7 := hown7.rd
      have bb7 := HBB.out.trans (hb7.mono HBB.out.size)
      clear hy hR hown7 hb7 HBB HF6 HK
      obtain ⟨hkk, hkb, hth⟩ := new_msg w7 y q7
      obtain ⟨wc, hwc⟩ : ∃ wc, wc = (w7.alloc (.cells cellsZ.toArray 50)).setCells w7.heap.size 0 (cellsM y q7) := ⟨_, rfl⟩
      rw [← hwc] at hkk hkb
      unfold cellsZ at hth hwc
      have HWC := Lib.hid hwc
      clear hwc
      go_upto_region 14 with (first | ((with_reducible refine at_store ?_); refine wpList_store_mid rfl 50 _ _ rfl w7.heap.size 0 (cellsM y q7).toArray rfl rfl hth (by kernel_rfl) (by kernel_rfl) ?_; rw [← HWC.out]) | fail)
      obtain ⟨gy, hgy⟩ : ∃ g, g = w7.heap.size := ⟨_, rfl⟩
      rw [← hgy] at hkk ⊢
      have hq8 := hq7.below hkb
      have bb8 := bb7.trans (hkb.mono bb7.size)
      clear hq7 hkb hth HWC hgy bb7
      go_wp2_with (first | ((with_reducible refine at_dst 73 ?_); refine wpList_load_midg rfl 50 (.tmp 14) rfl gy 0 rfl (cellsM y q7) _ hkk.whole Try.underlying50 rfl (by kernel_rfl) ?_) | fail)
      refine (alike_any y (zM 0) q7 zP wc (by rw [HY.out]; exact (vxZ 0 (by omega) (by omega)).1) (vxZ 0 (by omega) (by omega)).1 hq8 (rd_Z wc 0)).mono ?_
      rintro e w9 ⟨b9, rfl, hb9, hbe9⟩
      obtain rfl : b9 = true := hb9.2 HY.out
      have hfin := bb8.trans (hbe9.mono bb8.size)
      clear hb9 hbe9 bb8 hq8 hkk
      go_wp2
      go_ret
      exact ⟨rfl, hfin⟩
    · obtain ⟨K, hK⟩ : ∃ K, K = n - 1 := ⟨_, rfl⟩
      rw [← hK] at hsub
      have HK := tail K (by omega)
      clear hK
      obtain ⟨k1, k2, k3, k4, k5⟩ := HK.out
      have hlk : ((frameM x).take K).length = K := by rw [List.length_take, ← HN.out]; omega
      have HLK := Lib.hid hlk
      clear tail hlk
      go_upto_region 13 with fail
      clear hsub hne
      go_wp2_with fail
      refine (decode_any a1 K c1 ((frameM x).take K) w6 HLK.out (by omega) k3 (rd_take HF6.out K)).mono ?_
      rintro e w7 ⟨y, q7, n7, c7, rfl, hR, hown7, hb7⟩
      obtain ⟨rfl, hy, rfl⟩ := dec_cut HL.out (by rw [← HN.out]; exact k1) hR
      have HY := Lib.hid hy
      have hq7 := hown7.rd
      have bb7 := HBB.out.trans (hb7.mono HBB.out.size)
      clear hy hR hown7 hb7 HBB HF6 HK
      obtain ⟨hkk, hkb, hth⟩ := new_msg w7 y q7
      obtain ⟨wc, hwc⟩ : ∃ wc, wc = (w7.alloc (.cells cellsZ.toArray 50)).setCells w7.heap.size 0 (cellsM y q7) := ⟨_, rfl⟩
      rw [← hwc] at hkk hkb
      unfold cellsZ at hth hwc
      have HWC := Lib.hid hwc
      clear hwc
      go_upto_region 14 with (first | ((with_reducible refine at_store ?_); refine wpList_store_mid rfl 50 _ _ rfl w7.heap.size 0 (cellsM y q7).toArray rfl rfl hth (by kernel_rfl) (by kernel_rfl) ?_; rw [← HWC.out]) | fail)
      obtain ⟨gy, hgy⟩ : ∃ g, g = w7.heap.size := ⟨_, rfl⟩
      rw [← hgy] at hkk ⊢
      have hq8 := hq7.below hkb
      have bb8 := bb7.trans (hkb.mono bb7.size)
      clear hq7 hkb hth HWC hgy bb7
      go_wp2_with (first | ((with_reducible refine at_dst 73 ?_); refine wpList_load_midg rfl 50 (.tmp 14) rfl gy 0 rfl (cellsM y q7) _ hkk.whole Try.underlying50 rfl (by kernel_rfl) ?_) | fail)
      refine (alike_any y (zM 0) q7 zP wc (by rw [HY.out]; exact (vxZ 0 (by omega) (by omega)).1) (vxZ 0 (by omega) (by omega)).1 hq8 (rd_Z wc 0)).mono ?_
      rintro e w9 ⟨b9, rfl, hb9, hbe9⟩
      obtain rfl : b9 = true := hb9.2 HY.out
      have hfin := bb8.trans (hbe9.mono bb8.size)
      clear hb9 hbe9 bb8 hq8 hkk
      go_wp2
      go_ret
      exact ⟨rfl, hfin⟩
    · have h2 : ¬ (K : Int) < 0 := by omega
      have h4 : ¬ (K : Int) ≥ n := by omega
      have h5 : ¬ (n : Int) ≤ K := by omega
      have HK := tail K h1
      obtain ⟨k1, k2, k3, k4, k5⟩ := HK.out
      have hlk : ((frameM x).take K).length = K := by rw [List.length_take, ← HN.out]; omega
      have HLK := Lib.hid hlk
      clear tail hlk
      go_upto_region 13 with fail
      clear hsub hne
      go_wp2_with fail
      refine (decode_any a1 K c1 ((frameM x).take K) w6 HLK.out (by omega) k3 (rd_take HF6.out K)).mono ?_
      rintro e w7 ⟨y, q7, n7, c7, rfl, hR, hown7, hb7⟩
      obtain ⟨rfl, hy, rfl⟩ := dec_cut HL.out (by rw [← HN.out]; exact k1) hR
      have HY := Lib.hid hy
      have hq7 := hown7.rd
      have bb7 := HBB.out.trans (hb7.mono HBB.out.size)
      clear hy hR hown7 hb7 HBB HF6 HK
      obtain ⟨hkk, hkb, hth⟩ := new_msg w7 y q7
      obtain ⟨wc, hwc⟩ : ∃ wc, wc = (w7.alloc (.cells cellsZ.toArray 50)).setCells w7.heap.size 0 (cellsM y q7) := ⟨_, rfl⟩
      rw [← hwc] at hkk hkb
      unfold cellsZ at hth hwc
      have HWC := Lib.hid hwc
      clear hwc
      go_upto_region 14 with (first | ((with_reducible refine at_store ?_); refine wpList_store_mid rfl 50 _ _ rfl w7.heap.size 0 (cellsM y q7).toArray rfl rfl hth (by kernel_rfl) (by kernel_rfl) ?_; rw [← HWC.out]) | fail)
      obtain ⟨gy, hgy⟩ : ∃ g, g = w7.heap.size := ⟨_, rfl⟩
      rw [← hgy] at hkk ⊢
      have hq8 := hq7.below hkb
      have bb8 := bb7.trans (hkb.mono bb7.size)
      clear hq7 hkb hth HWC hgy bb7
      go_wp2_with (first | ((with_reducible refine at_dst 73 ?_); refine wpList_load_midg rfl 50 (.tmp 14) rfl gy 0 rfl (cellsM y q7) _ hkk.whole Try.underlying50 rfl (by kernel_rfl) ?_) | fail)
      refine (alike_any y (zM 0) q7 zP wc (by rw [HY.out]; exact (vxZ 0 (by omega) (by omega)).1) (vxZ 0 (by omega) (by omega)).1 hq8 (rd_Z wc 0)).mono ?_
      rintro e w9 ⟨b9, rfl, hb9, hbe9⟩
      obtain rfl : b9 = true := hb9.2 HY.out
      have hfin := bb8.trans (hbe9.mono bb8.size)
      clear hb9 hbe9 bb8 hq8 hkk
      go_wp2
      go_ret
      exact ⟨rfl, hfin⟩
  · rw [h2] at hown1 ⊢
    dsimp only [List.length_nil] at hown1 ⊢
    clear hown1 h2
    go_wp2_with fail
    refine (alive_any w1).mono ?_
    rintro e w2 ⟨rfl, hb2⟩
    have hfin := bb1.trans (hb2.mono bb1.size)
    go_wp2
    go_ret
    exact ⟨rfl, hfin⟩
#print axioms back_walk
end Go.Proofs.Ytaipnbpefdcejaa
