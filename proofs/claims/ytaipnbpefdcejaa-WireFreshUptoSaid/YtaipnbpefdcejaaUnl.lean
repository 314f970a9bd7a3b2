/- The walk of the law WireUnlike. -/
import Derived.Test.YtaipnbpefdcejaaBack
import Derived.Deep.QuietTactic
set_option linter.unusedVariables false
namespace Go.Proofs.Ytaipnbpefdcejaa
open Go.RowKit
/-- Two messages that come in, each in its block. -/
def TT (w : World) (m m2 : M) (p q : Ps) (gm gk : Nat) (x : World) : Prop := Blk x gm 50 (cellsM m p) ∧ Blk x gk 50 (cellsM m2 q) ∧ MRd x m p ∧ MRd x m2 q ∧ Below w.heap.size w x
theorem TT.below {w : World} {m m2 : M} {p q : Ps} {gm gk : Nat} {x x' : World} (h : TT w m m2 p q gm gk x) (hb : Below x.heap.size x x') : TT w m m2 p q gm gk x' :=
  ⟨h.1.below hb, h.2.1.below hb, h.2.2.1.below hb, h.2.2.2.1.below hb, h.2.2.2.2.trans (hb.mono h.2.2.2.2.size)⟩
/-- What the beginnings of two frames say. -/
theorem frames_part {x y : M} (hx : VX x) (hy : VX y) (px : properM x) (py : properM y) (lx : (inM x).length ≤ 1048576) (ly : (inM y).length ≤ 1048576) (k : Nat) (hk : k = min (frameM x).length (frameM y).length) :
    ((frameM x).take k == (frameM y).take k) = true ↔ x = y := by
  constructor
  · intro he
    rw [beq_iff_eq] at he
    rcases Nat.le_total (frameM x).length (frameM y).length with hl | hl
    · rw [List.take_of_length_le (l := frameM x) (by omega)] at he
      refine (frame_inj (r := (frameM y).drop k) (r' := []) hx hy px py lx ly ?_).1
      rw [List.append_nil, he, List.take_append_drop]
    · rw [List.take_of_length_le (l := frameM y) (by omega)] at he
      refine (frame_inj (r := []) (r' := (frameM x).drop k) hx hy px py lx ly ?_).1
      rw [List.append_nil, ← he, List.take_append_drop]
  · intro h; subst h; simp
theorem bool_of_iff {b c : Bool} {p : Prop} (h : b = true ↔ p) (g : c = true ↔ p) : b = c := by
  cases b <;> cases c <;> simp_all
theorem same_q (a b : Option Addr) (cap cap2 n n2 : Nat) (l m : List UInt8) (w : World) (hn : l.length = n) (hn2 : m.length = n2) (hl : n ≤ 140737488355328) (h : Rd w a (l.map B)) (h2 : Rd w b (m.map B)) :
    Calls Try.prog 19 #[.slice a n cap, .slice b n2 cap2] w fun e w' => e = .returned (.bool (l == m)) ∧ ∃ k, w' = w.drewN k := by
  subst hn; subst hn2; exact same_any a b cap cap2 l m w hl h h2
set_option maxHeartbeats 4000000 in
set_option maxRecDepth 20000 in
theorem unlike_walk (m m2 : M) (p q : Ps) (w : World) (hwf : WfM m) (hwf2 : WfM m2) (hr : MRd w m p) (hr2 : MRd w m2 q) : Calls Try.prog 10 #[valM m p, valM m2 q] w fun e w' => e = .returned (.bool true) ∧ Below w.heap.size w w' := by
  obtain ⟨v0, hv0⟩ : ∃ v, v = valM m p := ⟨_, rfl⟩
  obtain ⟨v1, hv1⟩ : ∃ v, v = valM m2 q := ⟨_, rfl⟩
  obtain ⟨w1, hw1⟩ : ∃ w1, w1 = (w.alloc (.cells (cellsM m p).toArray 50)).alloc (.cells (cellsM m2 q).toArray 50) := ⟨_, rfl⟩
  have hb1 : Below w.heap.size w w1 := by rw [hw1]; exact ((Below.refl _ _).alloc (Nat.le_refl _) _).alloc (by simp) _
  have hk1 : Blk w1 w.heap.size 50 (cellsM m p) := by rw [hw1]; exact (Blk.new w _ 50).alloc _
  have hj1 : Blk w1 (w.heap.size + 1) 50 (cellsM m2 q) := by
    have := Blk.new (w.alloc (.cells (cellsM m p).toArray 50)) (cellsM m2 q) 50
    rw [World.size_alloc] at this
    rw [hw1]
    exact this
  have hr1 := hr.below hb1
  have hr12 := hr2.below hb1
  unfold cellsM at hw1
  unfold valM cellsM at hv0 hv1
  unfold valM cellsM
  go_enter Try.func10, Try.ntmps10
  go_upto_region 1 with fail
  rw [← hw1, ← hv0, ← hv1]
  clear hw1 hv0 hv1 hr hr2
  obtain ⟨ga, hga⟩ : ∃ g, g = w.heap.size := ⟨_, rfl⟩
  rw [← hga] at hk1 hj1 ⊢
  have HT1 : Hid (TT w m m2 p q ga (ga + 1) w1) := Lib.hid ⟨hk1, hj1, hr1, hr12, hb1⟩
  clear hk1 hj1 hb1 hr1 hr12 hga
  go_wp2_with (first | ((with_reducible refine at_dst 13 ?_); refine wpList_load_midg rfl 50 (.tmp 2) rfl ga 0 rfl (cellsM m p) _ HT1.out.1.whole Try.underlying50 rfl (by kernel_rfl) ?_) | fail)
  refine (encoded_any m p w1 hwf HT1.out.2.2.1).mono ?_
  rintro e w2 ⟨a1, c1, rfl, hown1, hb1⟩
  have HT2 := Lib.hid (HT1.out.below hb1)
  have HO1 := Lib.hid (⟨ownsRow_rd hown1, own_cap hown1⟩ : Rd w2 a1 ((encA m).1.map B) ∧ _)
  have HC1 := Lib.hid (encA_cases m hwf)
  have hl1 := encA_len m
  obtain ⟨L1, hL1⟩ : ∃ L, L = (encA m).1 := ⟨_, rfl⟩
  rw [← hL1] at HO1 hl1 ⊢
  obtain ⟨n1, hn1⟩ : ∃ n, n = L1.length := ⟨_, rfl⟩
  rw [← hn1] at HO1 hl1 ⊢
  have HL1 := Lib.hid hL1
  have HN1 := Lib.hid hn1
  clear hown1 hb1 HT1 hL1 hn1
  go_wp2_with (first | ((with_reducible refine at_dst 18 ?_); refine wpList_load_midg rfl 50 (.tmp 3) rfl (ga + 1) 0 rfl (cellsM m2 q) _ HT2.out.2.1.whole Try.underlying50 rfl (by kernel_rfl) ?_) | fail)
  refine (encoded_any m2 q w2 hwf2 HT2.out.2.2.2.1).mono ?_
  rintro e w3 ⟨a2, c2, rfl, hown2, hb2⟩
  have HT3 := Lib.hid (HT2.out.below hb2)
  have HO13 := Lib.hid (HO1.out.1.below hb2)
  have HO2 := Lib.hid (⟨ownsRow_rd hown2, own_cap hown2⟩ : Rd w3 a2 ((encA m2).1.map B) ∧ _)
  have HC2 := Lib.hid (encA_cases m2 hwf2)
  have hl2 := encA_len m2
  obtain ⟨L2, hL2⟩ : ∃ L, L = (encA m2).1 := ⟨_, rfl⟩
  rw [← hL2] at HO2 hl2 ⊢
  obtain ⟨n2, hn2⟩ : ∃ n, n = L2.length := ⟨_, rfl⟩
  rw [← hn2] at HO2 hl2 ⊢
  have HL2 := Lib.hid hL2
  have HN2 := Lib.hid hn2
  clear hown2 hb2 HT2 hL2 hn2
  go_wp2_with (first | ((with_reducible refine at_dst 28 ?_); refine wpList_load_midg rfl 50 (.tmp 2) rfl ga 0 rfl (cellsM m p) _ HT3.out.1.whole Try.underlying50 rfl (by kernel_rfl) ?_) | ((with_reducible refine at_dst 29 ?_); refine wpList_load_midg rfl 50 (.tmp 3) rfl (ga + 1) 0 rfl (cellsM m2 q) _ HT3.out.2.1.whole Try.underlying50 rfl (by kernel_rfl) ?_) | fail)
  refine (alike_any m m2 p q w3 hwf hwf2 HT3.out.2.2.1 HT3.out.2.2.2.1).mono ?_
  rintro e w4 ⟨b, rfl, hb, hbe4⟩
  have HB := Lib.hid hb
  have HO14 := Lib.hid (HO13.out.below hbe4)
  have HO24 := Lib.hid (HO2.out.1.below hbe4)
  have bb4 : Below w.heap.size w w4 := HT3.out.2.2.2.2.trans (hbe4.mono HT3.out.2.2.2.2.size)
  clear HT3 hb hbe4
  have hcase : n1 = 0 ∨ (n1 ≠ 0 ∧ n2 = 0) ∨ (2 ≤ n1 ∧ 2 ≤ n2 ∧ L1 = frameM m ∧ L2 = frameM m2 ∧ properM m ∧ properM m2 ∧ (inM m).length ≤ 1048576 ∧ (inM m2).length ≤ 1048576) := by
    have h1 := HL1.out
    have h2 := HL2.out
    have h3 := HN1.out
    have h4 := HN2.out
    rcases HC1.out with ⟨_, g2⟩ | ⟨p1, l1, g2, g3⟩ | ⟨_, _, g2, _⟩
    · rw [g2] at h1; rw [h1] at h3; exact .inl h3
    · rw [g2] at h1
      dsimp only at h1
      rw [← h1, ← h3] at g3
      rcases HC2.out with ⟨_, k2⟩ | ⟨p2, l2, k2, k3⟩ | ⟨_, _, k2, _⟩
      · rw [k2] at h2; rw [h2] at h4; exact .inr (.inl ⟨by omega, h4⟩)
      · rw [k2] at h2
        dsimp only at h2
        rw [← h2, ← h4] at k3
        exact .inr (.inr ⟨g3, k3, h1, h2, p1, p2, l1, l2⟩)
      · rw [k2] at h2; rw [h2] at h4; exact .inr (.inl ⟨by omega, h4⟩)
    · rw [g2] at h1; rw [h1] at h3; exact .inl h3
  clear HC1 HC2 HL1 HL2
  rcases hcase with h0 | ⟨h0, h00⟩ | ⟨h1, h2, h3, h4, h5, h6, h7, h8⟩
  · have h0' : (n1 : Int) = 0 := by omega
    go_wp2_with fail
    refine (alive_any w4).mono ?_
    rintro e w5 ⟨rfl, hb5⟩
    have hfin := bb4.trans (hb5.mono bb4.size)
    go_wp2
    go_ret
    exact ⟨rfl, hfin⟩
  · have h0' : ¬ (n1 : Int) = 0 := by omega
    have h00' : (n2 : Int) = 0 := by omega
    go_wp2_with fail
    refine (alive_any w4).mono ?_
    rintro e w5 ⟨rfl, hb5⟩
    have hfin := bb4.trans (hb5.mono bb4.size)
    go_wp2
    go_ret
    exact ⟨rfl, hfin⟩
  · have h0' : ¬ (n1 : Int) = 0 := by omega
    have h00' : ¬ (n2 : Int) = 0 := by omega
    have hq1 := eql_of' h0'
    have hq2 := eql_of' h00'
    have hbeg : ∀ K, K = min n1 n2 → (L1.take K == L2.take K) = b := fun K hK => by
      rw [h3, h4]
      exact bool_of_iff (frames_part (VX.of hwf h5) (VX.of hwf2 h6) h5 h6 h7 h8 K (by rw [hK, HN1.out, HN2.out, h3, h4])) HB.out
    have hnn : b = true → n1 = n2 := fun hb => by rw [HN1.out, HN2.out, h3, h4, HB.out.1 hb]
    have HBEG := Lib.hid hbeg
    have HNN := Lib.hid hnn
    have hcap1 : n1 ≤ c1 := HO1.out.2
    have hcap2 : n2 ≤ c2 := HO2.out.2
    clear HB hbeg hnn h3 h4 h5 h6 h7 h8
    by_cases hlt : n2 < n1
    · have hlt' : (n2 : Int) < n1 := by omega
      have HE := Lib.hid (HBEG.out n2 (by omega))
      have HK1 : Hid ((L1.take n2).length = n2) := Lib.hid (by rw [List.length_take, ← HN1.out]; omega)
      have HK2 : Hid ((L2.take n2).length = n2) := Lib.hid (by rw [List.length_take, ← HN2.out]; omega)
      have i1 : (n2 : Int) ≤ c1 := by omega
      have i2 : (n2 : Int) ≤ c2 := by omega
      have i3 : n2 ≤ c1 := by omega
      obtain rfl : b = false := by
        cases b with
        | false => rfl
        | true => have := HNN.out rfl; omega
      clear HBEG HNN
      go_upto_region 11 with fail
      go_quiet ((go_at_call 19; refine Calls.quiet_of (same_q a1 a2 c1 c2 n2 n2 (L1.take n2) (L2.take n2) _ HK1.out HK2.out (by omega) (rd_take (HO14.out.below (below_draws w4)) n2) (rd_take (HO24.out.below (below_draws w4)) n2))))
      rw [HE.out]
      have hfin : Below w.heap.size w (w4.drewN nq) := bb4.trans (below_draws w4)
      clear bb4
      go_wp2
      go_ret
      exact ⟨rfl, hfin⟩
    · have hlt' : ¬ (n2 : Int) < n1 := by omega
      have HE := Lib.hid (HBEG.out n1 (by omega))
      have HK1 : Hid ((L1.take n1).length = n1) := Lib.hid (by rw [List.length_take, ← HN1.out]; omega)
      have HK2 : Hid ((L2.take n1).length = n1) := Lib.hid (by rw [List.length_take, ← HN2.out]; omega)
      have i1 : (n1 : Int) ≤ c1 := by omega
      have i2 : (n1 : Int) ≤ c2 := by omega
      have i3 : n1 ≤ c2 := by omega
      go_upto_region 11 with fail
      go_quiet ((go_at_call 19; refine Calls.quiet_of (same_q a1 a2 c1 c2 n1 n1 (L1.take n1) (L2.take n1) _ HK1.out HK2.out (by omega) (rd_take (HO14.out.below (below_draws w4)) n1) (rd_take (HO24.out.below (below_draws w4)) n1))))
      rw [HE.out]
      have hfin : Below w.heap.size w (w4.drewN nq) := bb4.trans (below_draws w4)
      clear bb4
      cases b with
      | true =>
        obtain rfl : n2 = n1 := (HNN.out rfl).symm
        have hee := eql_of (a := (n2 : Int)) (b := n2) rfl
        go_wp2
        go_ret
        exact ⟨rfl, hfin⟩
      | false =>
        go_wp2
        go_ret
        exact ⟨rfl, hfin⟩
#print axioms unlike_walk
end Go.Proofs.Ytaipnbpefdcejaa
