/- The walk of the law WireOneFrame. -/
import Derived.Test.YtaipnbpefdcejaaBack
set_option linter.unusedVariables false
namespace Go.Proofs.Ytaipnbpefdcejaa
open Go.RowKit
theorem enc_ok {m : M} (hp : properM m) (hl : (inM m).length ≤ 1048576) : encA m = (frameM m, 0) := by
  unfold encA
  rw [if_pos hp, if_pos hl]
set_option maxHeartbeats 4000000 in
set_option maxRecDepth 20000 in
theorem one_walk (a : Option Addr) (nb cap : Nat) (l : List UInt8) (w : World) (hn : l.length = nb) (hmax : nb ≤ 140737488355328) (hcap : nb ≤ cap) (hr : Rd w a (l.map B)) :
    Calls Try.prog 9 #[.slice a nb cap] w fun e w' => e = .returned (.bool true) ∧ Below w.heap.size w w' := by
  have HN := Lib.hid hn
  clear hn
  go_enter Try.func9, Try.ntmps9
  go_wp2_with fail
  refine (alive_any w).mono ?_
  rintro e w1 ⟨rfl, hb1⟩
  have hr1 := hr.below hb1
  clear hr
  go_wp2_with fail
  refine (decode_any a nb cap l w1 HN.out hmax hcap hr1).mono ?_
  rintro e w4 ⟨x, q, n, c, rfl, hR, hown4, hb4⟩
  have hr4 := hr1.below hb4
  have bb4 := hb1.trans (hb4.mono hb1.size)
  have hq4 := hown4.rd
  have HR := Lib.hid hR
  clear hown4 hR hb4 hb1 hr1
  obtain ⟨hkk, hkb, hth⟩ := new_msg w4 x q
  obtain ⟨wb, hwb⟩ : ∃ wb, wb = (w4.alloc (.cells cellsZ.toArray 50)).setCells w4.heap.size 0 (cellsM x q) := ⟨_, rfl⟩
  rw [← hwb] at hkk hkb
  unfold cellsZ at hth hwb
  have HWB := Lib.hid hwb
  clear hwb
  go_upto_region 4 with (first | ((with_reducible refine at_store ?_); refine wpList_store_mid rfl 50 _ _ rfl w4.heap.size 0 (cellsM x q).toArray rfl rfl hth (by kernel_rfl) (by kernel_rfl) ?_; rw [← HWB.out]) | fail)
  obtain ⟨gk, hgk⟩ : ∃ g, g = w4.heap.size := ⟨_, rfl⟩
  rw [← hgk] at hkk ⊢
  have hr5 := hr4.below hkb
  have hq5 := hq4.below hkb
  have bb5 := bb4.trans (hkb.mono bb4.size)
  clear hkb hth HWB hgk hq4 hr4 bb4
  by_cases hc : c = 0
  · subst hc
    obtain ⟨hx, px, lx, hnn, ht, hle, h2⟩ := dec_one HR.out
    have hlf : (frameM x).length = n := hnn.symm
    have HLF := Lib.hid hlf
    have HT := Lib.hid ht
    have HX := Lib.hid hx
    have HPX := Lib.hid px
    have HLX := Lib.hid lx
    rw [HN.out] at hle
    clear hx px lx hnn ht hlf
    have i1 : ¬ (n : Int) < 2 := by omega
    have i2 : ¬ (nb : Int) < n := by omega
    have i3 : ¬ (n : Int) > nb := by omega
    go_wp2_with (first | ((with_reducible refine at_dst 40 ?_); refine wpList_load_midg rfl 50 (.tmp 3) rfl gk 0 rfl (cellsM x q) _ hkk.whole Try.underlying50 rfl (by kernel_rfl) ?_) | fail)
    refine (rproper_any x q wb hq5 (by have := HX.out.1.vl; omega)).mono ?_
    rintro e w6 ⟨b, rfl, hpb, hb6⟩
    rw [proper_iff] at hpb
    obtain rfl : b = true := hpb.2 HPX.out
    have hkk6 := hkk.below hb6
    have hr6 := hr5.below hb6
    have hq6 := hq5.below hb6
    have bb6 := bb5.trans (hb6.mono bb5.size)
    clear hpb hkk hr5 hq5 bb5 hb6
    go_wp2_with (first | ((with_reducible refine at_dst 55 ?_); refine wpList_load_midg rfl 50 (.tmp 3) rfl gk 0 rfl (cellsM x q) _ hkk6.whole Try.underlying50 rfl (by kernel_rfl) ?_) | fail)
    refine (encode_any x q w6 HX.out.1 hq6).mono ?_
    rintro e w7 ⟨a7, c7, rfl, hown7, hb7⟩
    rw [enc_ok HPX.out HLX.out] at hown7 ⊢
    dsimp only at hown7 ⊢
    rw [HLF.out] at hown7 ⊢
    have hf7 := ownsRow_rd hown7
    have hr7 := hr6.below hb7
    have bb7 := bb6.trans (hb7.mono bb6.size)
    clear hown7 hb7 hr6 hq6 bb6 hkk6
    have i4 : (n : Int) ≤ cap := by omega
    have i5 : n ≤ cap := by omega
    have HTL : Hid ((l.take n).length = n) := Lib.hid (by rw [List.length_take, HN.out]; omega)
    have hrt := rd_take hr7 n
    clear hr7
    go_wp2_with fail
    refine (same_n a7 a c7 cap n n (frameM x) (l.take n) w7 HLF.out HTL.out (by omega) hf7 hrt).mono ?_
    rintro e w8 ⟨rfl, hb8⟩
    rw [HT.out, beq_self_eq_true]
    have bb8 := bb7.trans (hb8.mono bb7.size)
    clear hb8 bb7
    go_wp2
    go_ret
    exact ⟨rfl, bb8⟩
  · rcases dec_code HR.out with h0 | ⟨h1, h2, h3⟩
    · exact (hc h0).elim
    · subst h2
      have HX := Lib.hid h1
      clear h1
      go_wp2_with (first | ((with_reducible refine at_dst 20 ?_); refine wpList_load_midg rfl 50 (.tmp 3) rfl gk 0 rfl (cellsM x q) _ hkk.whole Try.underlying50 rfl (by kernel_rfl) ?_) | fail)
      refine (alike_any x (zM 0) q zP wb (by rw [HX.out]; exact (vxZ 0 (by omega) (by omega)).1) (vxZ 0 (by omega) (by omega)).1 hq5 (rd_Z wb 0)).mono ?_
      rintro e w9 ⟨b9, rfl, hb9, hbe9⟩
      obtain rfl : b9 = true := hb9.2 HX.out
      have hfin := bb5.trans (hbe9.mono bb5.size)
      clear hb9 hbe9 bb5 hq5 hkk HR hc
      rcases h3 with rfl | rfl | rfl
      · go_wp2
        go_ret
        exact ⟨rfl, hfin⟩
      · go_wp2
        go_ret
        exact ⟨rfl, hfin⟩
      · go_wp2
        go_ret
        exact ⟨rfl, hfin⟩
#print axioms one_walk
end Go.Proofs.Ytaipnbpefdcejaa
