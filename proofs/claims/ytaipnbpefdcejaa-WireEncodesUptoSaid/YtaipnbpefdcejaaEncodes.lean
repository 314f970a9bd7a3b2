/- The walk of the law WireEncodes. -/
import Derived.Test.YtaipnbpefdcejaaAlike
import Derived.Test.YtaipnbpefdcejaaOpen
set_option linter.unusedVariables false
namespace Go.Proofs.Ytaipnbpefdcejaa
open Go.RowKit
theorem bool_iff {b c : Bool} {p : Prop} (h : b = true ↔ p) (g : c = true ↔ p) : b = c := by
  cases b <;> cases c <;> simp_all
theorem encA_len (m : M) : (encA m).1.length ≤ 1048600 := by
  unfold encA frameM
  split
  · split
    · rename_i h
      have := bytesU_le (inM m).length (by omega)
      simp only [List.length_append]
      omega
    · simp
  · simp
/-- Two messages of the same data, each in its block. -/
def TW (w : World) (m : M) (p q : Ps) (gm gk : Nat) (x : World) : Prop := Blk x gm 50 (cellsM m p) ∧ Blk x gk 50 (cellsM m q) ∧ MRd x m p ∧ MRd x m q ∧ Below w.heap.size w x
theorem TW.below {w : World} {m : M} {p q : Ps} {gm gk : Nat} {x x' : World} (h : TW w m p q gm gk x) (hb : Below x.heap.size x x') : TW w m p q gm gk x' :=
  ⟨h.1.below hb, h.2.1.below hb, h.2.2.1.below hb, h.2.2.2.1.below hb, h.2.2.2.2.trans (hb.mono h.2.2.2.2.size)⟩
/-- A struct stored whole into a block just made. -/
theorem new_msg (w : World) (m : M) (q : Ps) : Blk ((w.alloc (.cells cellsZ.toArray 50)).setCells w.heap.size 0 (cellsM m q)) w.heap.size 50 (cellsM m q) ∧ Below w.heap.size w ((w.alloc (.cells cellsZ.toArray 50)).setCells w.heap.size 0 (cellsM m q)) ∧
    (w.alloc (.cells cellsZ.toArray 50)).there w.heap.size 0 31 := by
  have hgz : Blk (w.alloc (.cells cellsZ.toArray 50)) w.heap.size 50 cellsZ := Blk.new w _ 50
  have hst := Blk.setCells (cellsM m q) 0 _ _ hgz (by rw [cellsM_len]; exact Nat.le_refl _)
  rw [spl_all (show (cellsM m q).length = cellsZ.length from rfl)] at hst
  exact ⟨hst.1, ((Below.refl _ _).alloc (Nat.le_refl _) _).grown hst.2 (by simp) (fun k hk => by cases hk; exact Nat.le_refl _), hgz.there 0 31 (Nat.le_refl _)⟩
set_option maxHeartbeats 2000000 in
set_option maxRecDepth 20000 in
theorem encodes_walk (m : M) (p : Ps) (w : World) (hwf : WfM m) (hr : MRd w m p) : Calls Try.prog 6 #[valM m p] w fun e w' => e = .returned (.bool true) ∧ Below w.heap.size w w' := by
  have hv := hwf.vl
  obtain ⟨v0, hv0⟩ : ∃ v, v = valM m p := ⟨_, rfl⟩
  obtain ⟨wa, hwa⟩ : ∃ wa, wa = w.alloc (.cells (cellsM m p).toArray 50) := ⟨_, rfl⟩
  have hba : Below w.heap.size w wa := by rw [hwa]; exact (Below.refl _ _).alloc (Nat.le_refl _) _
  have hka : Blk wa w.heap.size 50 (cellsM m p) := by rw [hwa]; exact Blk.new w _ 50
  have hra := hr.below hba
  unfold cellsM at hwa
  unfold valM cellsM at hv0
  unfold valM cellsM
  go_enter Try.func6, Try.ntmps6
  go_upto_region 1 with fail
  rw [← hwa, ← hv0]
  obtain ⟨gm, hgm⟩ : ∃ g, g = w.heap.size := ⟨_, rfl⟩
  rw [← hgm] at hka ⊢
  have hrg : wa.rangeAt gm 0 (cellsM m p) := hka.whole
  clear hwa hv0 hgm hr
  go_wp2_with (first | ((with_reducible refine at_dst 10 ?_); refine wpList_load_midg rfl _ _ rfl _ _ rfl _ _ hrg Try.underlying50 rfl (by kernel_rfl) ?_) | fail)
  refine (twin_any m p wa hwf hra).mono ?_
  rintro e w1 ⟨q, rfl, hown, hb1⟩
  have hk1 := hka.below hb1
  have hr1 := hra.below hb1
  have hq1 := hown.rd
  have bb1 := hba.trans (hb1.mono hba.size)
  clear hown hrg hka hra hba hb1
  obtain ⟨hkk, hkb, hth⟩ := new_msg w1 m q
  obtain ⟨wb, hwb⟩ : ∃ wb, wb = (w1.alloc (.cells cellsZ.toArray 50)).setCells w1.heap.size 0 (cellsM m q) := ⟨_, rfl⟩
  rw [← hwb] at hkk hkb
  unfold cellsZ at hth hwb
  go_upto_region 2 with (first | ((with_reducible refine at_store ?_); refine wpList_store_mid rfl 50 _ _ rfl w1.heap.size 0 (cellsM m q).toArray rfl rfl hth (by kernel_rfl) (by kernel_rfl) ?_; rw [← hwb]) | fail)
  obtain ⟨gk, hgk⟩ : ∃ g, g = w1.heap.size := ⟨_, rfl⟩
  rw [← hgk] at hkk ⊢
  have HTb : Hid (TW w m p q gm gk wb) := Lib.hid ⟨hk1.below hkb, hkk, hr1.below hkb, hq1.below hkb, bb1.trans (hkb.mono bb1.size)⟩
  clear hk1 hkk hr1 hq1 bb1 hkb hth hwb hgk
  go_wp2_with (first | ((with_reducible refine at_dst 12 ?_); refine wpList_load_midg rfl 50 (.tmp 1) rfl gm 0 rfl (cellsM m p) _ (HTb.out.1.whole) Try.underlying50 rfl (by kernel_rfl) ?_) | ((with_reducible refine at_dst 99 ?_); refine wpList_load_midg rfl 50 (.tmp 3) rfl gk 0 rfl (cellsM m q) _ (HTb.out.2.1.whole) Try.underlying50 rfl (by kernel_rfl) ?_) | fail)
  refine (proper_any m p wb HTb.out.2.2.1 hv).mono ?_
  rintro e w2 ⟨b, rfl, hpb, hb2⟩
  have HT2 := Lib.hid (HTb.out.below hb2)
  clear hb2 HTb
  go_wp2_with (first | ((with_reducible refine at_dst 98 ?_); refine wpList_load_midg rfl 50 (.tmp 1) rfl gm 0 rfl (cellsM m p) _ (HT2.out.1.whole) Try.underlying50 rfl (by kernel_rfl) ?_) | ((with_reducible refine at_dst 15 ?_); refine wpList_load_midg rfl 50 (.tmp 3) rfl gk 0 rfl (cellsM m q) _ (HT2.out.2.1.whole) Try.underlying50 rfl (by kernel_rfl) ?_) | fail)
  refine (rproper_any m q w2 HT2.out.2.2.2.1 hv).mono ?_
  rintro e w3 ⟨b', rfl, hpb', hb3⟩
  rw [proper_iff] at hpb'
  obtain rfl := bool_iff hpb hpb'
  have HT3 := Lib.hid (HT2.out.below hb3)
  clear hpb hpb' hb3 HT2
  have hbn : (b != b) = false := by cases b <;> rfl
  go_wp2_with (first | ((with_reducible refine at_dst 19 ?_); refine wpList_load_midg rfl 50 (.tmp 1) rfl gm 0 rfl (cellsM m p) _ (HT3.out.1.whole) Try.underlying50 rfl (by kernel_rfl) ?_) | ((with_reducible refine at_dst 98 ?_); refine wpList_load_midg rfl 50 (.tmp 3) rfl gk 0 rfl (cellsM m q) _ (HT3.out.2.1.whole) Try.underlying50 rfl (by kernel_rfl) ?_) | fail)
  refine (encode_any m p w3 hwf HT3.out.2.2.1).mono ?_
  rintro e w4 ⟨a4, c4, rfl, hown4, hb4⟩
  have HT4 := Lib.hid (HT3.out.below hb4)
  have hl := encA_len m
  obtain ⟨E, hE⟩ : ∃ E, E = encA m := ⟨_, rfl⟩
  rw [← hE] at hown4 hl ⊢
  obtain ⟨L, er⟩ := E
  dsimp only at hown4 hl ⊢
  obtain ⟨n, hn⟩ : ∃ n, n = L.length := ⟨_, rfl⟩
  rw [← hn] at hown4 hl ⊢
  have HE := Lib.hid hE
  have HN := Lib.hid hn
  have HO4 := Lib.hid (ownsRow_rd hown4)
  clear HT3 hb4 hE hn hown4
  go_wp2_with (first | ((with_reducible refine at_dst 99 ?_); refine wpList_load_midg rfl 50 (.tmp 1) rfl gm 0 rfl (cellsM m p) _ (HT4.out.1.whole) Try.underlying50 rfl (by kernel_rfl) ?_) | ((with_reducible refine at_dst 24 ?_); refine wpList_load_midg rfl 50 (.tmp 3) rfl gk 0 rfl (cellsM m q) _ (HT4.out.2.1.whole) Try.underlying50 rfl (by kernel_rfl) ?_) | fail)
  refine (rencode_any m q w4 hwf HT4.out.2.2.2.1).mono ?_
  rintro e w5 ⟨a5, c5, rfl, hown5, hb5⟩
  have HT5 := Lib.hid (HT4.out.below hb5)
  rw [← HE.out] at hown5 ⊢
  dsimp only at hown5 ⊢
  rw [← HN.out] at hown5 ⊢
  have HO45 := Lib.hid (HO4.out.below hb5)
  have HO5 := Lib.hid (ownsRow_rd hown5)
  clear HT4 hb5 hown5
  go_wp2_with (first | ((with_reducible refine at_dst 28 ?_); refine wpList_load_midg rfl 50 (.tmp 1) rfl gm 0 rfl (cellsM m p) _ (HT5.out.1.whole) Try.underlying50 rfl (by kernel_rfl) ?_) | ((with_reducible refine at_dst 29 ?_); refine wpList_load_midg rfl 50 (.tmp 3) rfl gk 0 rfl (cellsM m q) _ (HT5.out.2.1.whole) Try.underlying50 rfl (by kernel_rfl) ?_) | fail)
  refine (alike_any m m p q w5 hwf hwf HT5.out.2.2.1 HT5.out.2.2.2.1).mono ?_
  rintro e w6 ⟨b6, rfl, hb6, hbe6⟩
  obtain rfl : b6 = true := hb6.2 rfl
  have HT6 := Lib.hid (HT5.out.below hbe6)
  have hO46 := HO45.out.below hbe6
  have hO56 := HO5.out.below hbe6
  clear HT5 hbe6 hb6
  have hee := eql_of (a := er) (b := er) rfl
  go_wp2_with fail
  refine (same_n a4 a5 c4 c5 n n L L w6 HN.out.symm HN.out.symm (by omega) hO46 hO56).mono ?_
  rintro e w7 ⟨rfl, hb7⟩
  rw [beq_self_eq_true]
  have hfin := HT6.out.2.2.2.2.trans (hb7.mono HT6.out.2.2.2.2.size)
  go_wp2
  go_ret
  exact ⟨rfl, hfin⟩
#print axioms encodes_walk
end Go.Proofs.Ytaipnbpefdcejaa
