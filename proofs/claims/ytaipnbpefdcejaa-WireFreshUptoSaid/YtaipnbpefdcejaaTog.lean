/- The laws' together 38. -/
import Derived.Test.YtaipnbpefdcejaaGro
import Derived.Test.YtaipnbpefdcejaaUnl
import Derived.Test.YtaipnbpefdcejaaQC
import Derived.Test.YtaipnbpefdcejaaStrP
set_option linter.unusedVariables false
namespace Go.Proofs.Ytaipnbpefdcejaa
open Go.RowKit
theorem Offs.toBelow {S : Nat → Prop} {w w' : World} {b : Nat} (h : Offs S w w') (hS : ∀ k, S k → b ≤ k) (hb : b ≤ w.heap.size) : Below b w w' :=
  ⟨h.os, h.tape, h.output, h.size, fun k hk => h.block k (by omega) (fun hs => by have := hS k hs; omega)⟩
theorem Offs.own {S : Nat → Prop} {w w' : World} {base e size n : Nat} {v : Value} {xs : List Value} (h : Offs S w w') (ho : w.ownsRow base e size v n xs) (hne : ∀ k, v.ownBlock = some k → ¬ S k) : w'.ownsRow base e size v n xs := by
  refine ⟨ho.1, ?_⟩
  rcases ho.2 with h1 | ⟨g, cap, cur, rfl, hb, hg, h3⟩
  · exact .inl h1
  · exact .inr ⟨g, cap, cur, rfl, hb, (h.block g (Array.getElem?_eq_some_iff.1 hg).1 (hne g rfl)).trans hg, h3⟩
theorem Offs.ownM {S : Nat → Prop} {w w' : World} {lo : Nat} {m : M} {q : Ps} (h : Offs S w w') (ho : OwnM lo w m q) (hne : ∀ k, LB q k → ¬ S k) : OwnM lo w' m q :=
  ⟨h.own ho.1 (fun k hk => hne k (by cases hq : q.an with
    | none => rw [hq] at hk; cases hk
    | some x => rw [hq] at hk; cases hk; exact ⟨x, .inl hq, rfl⟩)), h.own ho.2.1 (fun k hk => hne k (by cases hq : q.al with
    | none => rw [hq] at hk; cases hk
    | some x => rw [hq] at hk; cases hk; exact ⟨x, .inr (.inl hq), rfl⟩)), h.own ho.2.2.1 (fun k hk => hne k (by cases hq : q.av with
    | none => rw [hq] at hk; cases hk
    | some x => rw [hq] at hk; cases hk; exact ⟨x, .inr (.inr (.inl hq)), rfl⟩)), h.own ho.2.2.2 (fun k hk => hne k (by cases hq : q.ai with
    | none => rw [hq] at hk; cases hk
    | some x => rw [hq] at hk; cases hk; exact ⟨x, .inr (.inr (.inr hq)), rfl⟩))⟩
theorem Offs.mrd {S : Nat → Prop} {w w' : World} {m : M} {q : Ps} (h : Offs S w w') (hr : MRd w m q) (hne : ∀ k, LB q k → ¬ S k) : MRd w' m q :=
  ⟨h.rd hr.1 (fun x hx => hne _ ⟨x, .inl hx, rfl⟩), h.rd hr.2.1 (fun x hx => hne _ ⟨x, .inr (.inl hx), rfl⟩), h.rd hr.2.2.1 (fun x hx => hne _ ⟨x, .inr (.inr (.inl hx)), rfl⟩), h.rd hr.2.2.2 (fun x hx => hne _ ⟨x, .inr (.inr (.inr hx)), rfl⟩)⟩
theorem LB.rng {lo hi : Nat} {w : World} {m : M} {q : Ps} (h : OwnB lo hi w m q) {k : Nat} (hk : LB q k) : lo ≤ k ∧ k < hi ∧ k < w.heap.size := by
  obtain ⟨x, hx, rfl⟩ := hk
  rcases hx with hx | hx | hx | hx
  · exact ⟨(h.1.lts _ (.inl rfl) x hx).1, h.2 _ (.inl rfl) x hx, (h.1.lts _ (.inl rfl) x hx).2⟩
  · exact ⟨(h.1.lts _ (.inr (.inl rfl)) x hx).1, h.2 _ (.inr (.inl rfl)) x hx, (h.1.lts _ (.inr (.inl rfl)) x hx).2⟩
  · exact ⟨(h.1.lts _ (.inr (.inr (.inl rfl))) x hx).1, h.2 _ (.inr (.inr (.inl rfl))) x hx, (h.1.lts _ (.inr (.inr (.inl rfl))) x hx).2⟩
  · exact ⟨(h.1.lts _ (.inr (.inr (.inr rfl))) x hx).1, h.2 _ (.inr (.inr (.inr rfl))) x hx, (h.1.lts _ (.inr (.inr (.inr rfl))) x hx).2⟩
theorem row_apart {w : World} {lo lo' n c : Nat} {m : M} {q : Ps} {a : Option Addr} {xs : List Value} (h : OwnM lo w m q) (hr : w.ownsRow lo' 50 31 (.slice a n c) n xs) : ∀ x : Addr, a = some x → ¬ LB q x.block := by
  intro x hx hl
  obtain ⟨y, hy, he⟩ := hl
  rcases hy with hy | hy | hy | hy
  · exact blocks_apart hr h.1 (by decide) x y hx hy he.symm
  · exact blocks_apart hr h.2.1 (by decide) x y hx hy he.symm
  · exact blocks_apart hr h.2.2.1 (by decide) x y hx hy he.symm
  · exact blocks_apart hr h.2.2.2 (by decide) x y hx hy he.symm
theorem own_form2 {w : World} {base n c : Nat} {e : TypeId} {size : Nat} {a : Option Addr} {xs : List Value} (h : w.ownsRow base e size (.slice a n c) n xs) (hn : 0 < n) : ∃ g cs, a = some ⟨g, 0, none⟩ ∧ Blk w g e cs ∧ cs.length = c * size ∧ base ≤ g := by
  rcases h.2 with ⟨h1, h2⟩ | ⟨g, cap, cur, h1, hb, hg, _, _, hs, _⟩
  · omega
  · cases h1
    exact ⟨g, cur.toList, rfl, by unfold Blk; rw [Array.toArray_toList]; exact hg, by rw [Array.length_toList]; exact hs, hb⟩
theorem rd_row_at {w : World} {gl : Nat} {ms : List (M × Ps)} (h : Rd w (some ⟨gl, 0, none⟩) (mcells ms)) (i : Nat) (hi : i < ms.length) : w.rangeAt gl (i * 31) (cellsM ms[i].1 ms[i].2) := by
  rcases h with h0 | ⟨b, off, h1, hc⟩
  · have := congrArg List.length h0
    rw [mcells_len, List.length_nil] at this
    omega
  · cases h1
    intro j v hv
    rw [← mcells_at ms i hi] at hv
    have hj : j < 31 := by
      have := (List.getElem?_eq_some_iff.1 hv).1
      rw [List.length_take] at this
      omega
    rw [List.getElem?_take_of_lt hj, List.getElem?_drop] at hv
    have h2 := hc _ v hv
    rw [Nat.zero_add] at h2
    exact h2
theorem map_two {ms : List (M × Ps)} {m m2 : M} (h : ms.map (·.1) = [m, m2]) : ∃ q1 q2, ms = [(m, q1), (m2, q2)] := by
  rcases ms with _ | ⟨⟨x, q1⟩, _ | ⟨⟨y, q2⟩, _ | ⟨z, ms⟩⟩⟩
  · cases h
  · cases h
  · simp only [List.map_cons, List.map_nil, List.cons.injEq, and_true] at h
    obtain ⟨rfl, rfl⟩ := h
    exact ⟨q1, q2, rfl⟩
  · simp at h
set_option maxHeartbeats 4000000 in
set_option maxRecDepth 20000 in
theorem together_any (m m2 : M) (p q : Ps) (w : World) (hwf : WfM m) (hwf2 : WfM m2) (hr : MRd w m p) (hr2 : MRd w m2 q) : Calls Try.prog 38 #[valM m p, valM m2 q] w fun e w' => e = .returned (.bool true) ∧ Below w.heap.size w w' := by
  obtain ⟨v0, hv0⟩ : ∃ v, v = valM m p := ⟨_, rfl⟩
  obtain ⟨v1, hv1⟩ : ∃ v, v = valM m2 q := ⟨_, rfl⟩
  obtain ⟨w1, hw1⟩ : ∃ w1, w1 = (w.alloc (.cells (cellsM m p).toArray 50)).alloc (.cells (cellsM m2 q).toArray 50) := ⟨_, rfl⟩
  have hb1 : Below w.heap.size w w1 := by rw [hw1]; exact ((Below.refl _ _).alloc (Nat.le_refl _) _).alloc (by simp) _
  have hk1 : Blk w1 w.heap.size 50 (cellsM m p) := by rw [hw1]; exact (Blk.new w _ 50).alloc _
  have hj1 : Blk w1 (w.heap.size + 1) 50 (cellsM m2 q) := by
    have := Blk.new (w.alloc (.cells (cellsM m p).toArray 50)) (cellsM m2 q) 50
    rw [World.size_alloc] at this
    rw [hw1]
    exact this
  have hr1 := hr.below hb1
  have hr12 := hr2.below hb1
  unfold cellsM at hw1
  unfold valM cellsM at hv0 hv1
  unfold valM cellsM
  go_enter Try.func38, Try.ntmps38
  go_upto_region 1 with fail
  rw [← hw1, ← hv0, ← hv1]
  clear hw1 hv0 hv1 hr hr2
  obtain ⟨ga, hga⟩ : ∃ g, g = w.heap.size := ⟨_, rfl⟩
  rw [← hga] at hk1 hj1 ⊢
  have HT1 : Hid (TT w m m2 p q ga (ga + 1) w1) := Lib.hid ⟨hk1, hj1, hr1, hr12, hb1⟩
  clear hk1 hj1 hb1 hr1 hr12 hga
  go_wp2_with (first | ((with_reducible refine at_dst 17 ?_); refine wpList_load_midg rfl 50 (.tmp 2) rfl ga 0 rfl (cellsM m p) _ HT1.out.1.whole Try.underlying50 rfl (by kernel_rfl) ?_) | fail)
  refine (encoded_any m p w1 hwf HT1.out.2.2.1).mono ?_
  rintro e w2 ⟨a1, c1, rfl, hown1, hb1⟩
  have HT2 := Lib.hid (HT1.out.below hb1)
  have HO1 := Lib.hid (ownsRow_rd hown1)
  have hl1 := encA_len m
  obtain ⟨n1, hn1⟩ : ∃ n, n = (encA m).1.length := ⟨_, rfl⟩
  rw [← hn1] at hl1 ⊢
  have HN1 := Lib.hid hn1
  clear hown1 hb1 HT1 hn1
  go_wp2_with (first | ((with_reducible refine at_dst 22 ?_); refine wpList_load_midg rfl 50 (.tmp 3) rfl (ga + 1) 0 rfl (cellsM m2 q) _ HT2.out.2.1.whole Try.underlying50 rfl (by kernel_rfl) ?_) | fail)
  refine (encoded_any m2 q w2 hwf2 HT2.out.2.2.2.1).mono ?_
  rintro e w3 ⟨a2, c2, rfl, hown2, hb2⟩
  have HT3 := Lib.hid (HT2.out.below hb2)
  have HO13 := Lib.hid (HO1.out.below hb2)
  have HO2 := Lib.hid (ownsRow_rd hown2)
  have hl2 := encA_len m2
  obtain ⟨n2, hn2⟩ : ∃ n, n = (encA m2).1.length := ⟨_, rfl⟩
  rw [← hn2] at hl2 ⊢
  have HN2 := Lib.hid hn2
  clear hown2 hb2 HT2 HO1 hn2
  have hcase : (n1 = 0 ∨ (n1 ≠ 0 ∧ n2 = 0)) ∨ (n1 ≠ 0 ∧ n2 ≠ 0 ∧ (encA m).1 = frameM m ∧ (encA m2).1 = frameM m2 ∧ okM m ∧ okM m2) := by
    have h3 := HN1.out
    have h4 := HN2.out
    rcases enc_okM hwf with ⟨g1, g2, g3⟩ | ⟨_, g2⟩
    · rcases enc_okM hwf2 with ⟨k1, k2, k3⟩ | ⟨_, k2⟩
      · rw [g2] at h3
        rw [k2] at h4
        dsimp only at h3 h4
        exact .inr ⟨by omega, by omega, by rw [g2], by rw [k2], g1, k1⟩
      · rw [k2] at h4
        by_cases h0 : n1 = 0
        · exact .inl (.inl h0)
        · exact .inl (.inr ⟨h0, h4⟩)
    · rw [g2] at h3; exact .inl (.inl h3)
  rcases hcase with (h0 | ⟨h0, h00⟩) | ⟨h1, h2, h3, h4, h5, h6⟩
  · have h0' : (n1 : Int) = 0 := by omega
    have hq1 := eql_of h0'
    go_wp2
    go_ret
    exact ⟨rfl, HT3.out.2.2.2.2⟩
  · have h0' : ¬ (n1 : Int) = 0 := by omega
    have h00' : (n2 : Int) = 0 := by omega
    have hq1 := eql_of' h0'
    have hq2 := eql_of h00'
    go_wp2
    go_ret
    exact ⟨rfl, HT3.out.2.2.2.2⟩
  · have h0' : ¬ (n1 : Int) = 0 := by omega
    have h00' : ¬ (n2 : Int) = 0 := by omega
    have hq1 := eql_of' h0'
    have hq2 := eql_of' h00'
    rw [h3] at HN1 HO13
    rw [h4] at HN2 HO2
    have HK1 := Lib.hid h5
    have HK2 := Lib.hid h6
    have hc13 := HO13.out
    have hc2 := HO2.out
    clear h3 h4 h5 h6
    go_wp2_with fail
    refine (copied_n a1 c1 n1 _ w3 HN1.out.symm (by omega) hc13).mono ?_
    rintro e w4 ⟨a4, c4, rfl, hown4, hb4⟩
    have hrr4 := hc2.below hb4
    have hz4 := hb4.size
    go_wp2_with (first | (at_builtin; refine app_b w4 rfl _ _ rfl w3.heap.size (.slice a4 n1 c4) n1 _ rfl hown4 a2 n2 c2 (frameM m2) rfl HN2.out.symm hrr4 (by omega) hz4 ?_; intro a5 c5 w5 hown5 hb5 hmv5) | fail)
    obtain ⟨g3, cs5, rfl, hbk5, hcs5, hg3⟩ := own_form2 hown5 (by omega)
    have hcap5 := own_cap hown5
    have hf5 := ownsRow_rd hown5
    have hb35 : Below w3.heap.size w3 w5 := hb4.trans hb5
    have HB35 := Lib.hid hb35
    have HBK5 := Lib.hid hbk5
    rw [Nat.mul_one] at hcs5
    have HCS5 := Lib.hid hcs5
    have HL5 : Hid ((frameM m ++ frameM m2).length = n1 + n2) := Lib.hid (by rw [List.length_append, HN1.out, HN2.out])
    clear hown4 hown5 hmv5 hb4 hb5 hrr4 hz4 hb35 hbk5 hcs5
    go_wp2_with fail
    refine (all_any2 (some ⟨g3, 0, none⟩) (n1 + n2) c5 _ w5 HL5.out (by omega) hcap5 hf5).mono ?_
    rintro e w6 ⟨ms, a6, c6, n6, er, rfl, hR, hO6, hch, hb6⟩
    rw [show frameM m ++ frameM m2 = flatF [m, m2] ++ [] by simp [flatF]] at hR
    obtain ⟨k1, k2, k3⟩ := all_cut [m, m2] [] _ _ _ (fun x hx => by
      rcases List.mem_cons.1 hx with rfl | hx
      · exact HK1.out
      · rw [List.mem_singleton.1 hx]; exact HK2.out) (.inl rfl) hR
    obtain ⟨q1, q2, rfl⟩ := map_two k1
    obtain rfl : er = 0 := by
      rcases k3 with ⟨_, g⟩ | ⟨g, _⟩
      · exact g
      · exact (g rfl).elim
    have hlen2 : [(m, q1), (m2, q2)].length = 2 := rfl
    obtain ⟨mid, hm1, ⟨o1, bb1⟩, mid2, hm2, ⟨o2, bb2⟩, hm3⟩ := hch
    have hO6r := hO6.1
    rw [hlen2] at hO6r
    obtain ⟨gl, csl, rfl, _, _, hgl⟩ := own_form2 hO6r (by omega)
    have hrow6 := ownsRow_rd hO6r
    have hapr1 := row_apart o1 hO6r
    have hapr2 := row_apart o2 hO6r
    have HO1m := Lib.hid (show OwnB w5.heap.size mid w6 m q1 from ⟨o1, bb1⟩)
    have HO2m := Lib.hid (show OwnB mid mid2 w6 m2 q2 from ⟨o2, bb2⟩)
    have HAP1 := Lib.hid hapr1
    have HAP2 := Lib.hid hapr2
    have HROW := Lib.hid hrow6
    have HB6 := Lib.hid hb6
    have HM := Lib.hid (⟨hm1, hm2, hm3⟩ : w5.heap.size ≤ mid ∧ mid ≤ mid2 ∧ mid2 ≤ w6.heap.size)
    have HG3 := Lib.hid (⟨hg3, HBK5.out.lt, hgl⟩ : w3.heap.size ≤ g3 ∧ g3 < w5.heap.size ∧ w5.heap.size ≤ gl)
    rw [hlen2]
    clear hR k1 k2 k3 hO6 hO6r hrow6 hapr1 hapr2 o1 o2 bb1 bb2 hb6 hm1 hm2 hm3 hlen2 hf5 hg3 hgl
    have hg0 : w6.rangeAt gl 0 (cellsM m q1) := rd_row_at HROW.out 0 (by simp)
    go_wp2_with (first | ((with_reducible refine at_dst 59 ?_); refine wpList_load_midg rfl 50 (.tmp 58) rfl gl 0 rfl (cellsM m q1) _ hg0 Try.underlying50 rfl (by kernel_rfl) ?_) | fail)
    refine (grown_any m q1 201 w5.heap.size w6 hwf HO1m.out.1 HB6.out.size (by omega) (by omega)).mono ?_
    rintro e w7 ⟨rfl, hra, hfa⟩
    have HFA := Lib.hid hfa
    have HRA := Lib.hid hra
    have hrow7 := hfa.rd HROW.out HAP1.out
    have hg1 : w7.rangeAt gl 31 (cellsM m2 q2) := rd_row_at hrow7 1 (by simp)
    have HROW7 := Lib.hid hrow7
    have hsep : ∀ k, LB q2 k → ¬ LB q1 k := fun k hk2 hk1 => by
      have h9 := HO2m.out
      have h10 := (LB.rng h9 hk2).1
      have h11 := (LB.rng HO1m.out hk1).2.1
      omega
    have HSEP := Lib.hid hsep
    have ho27 := hfa.ownM HO2m.out.1 hsep
    clear hra hfa hrow7 hsep hg0
    go_wp2_with (first | ((with_reducible refine at_dst 63 ?_); refine wpList_load_midg rfl 50 (.tmp 62) rfl gl 31 rfl (cellsM m2 q2) _ hg1 Try.underlying50 rfl (by kernel_rfl) ?_) | fail)
    refine (grown_any m2 q2 202 mid w7 hwf2 ho27 (by have h9 := HM.out; have h10 := HFA.out.size; omega) (by omega) (by omega)).mono ?_
    rintro e w8 ⟨rfl, hrb, hfb⟩
    have HFB := Lib.hid hfb
    have HRB := Lib.hid hrb
    have hrow8 := hfb.rd HROW7.out HAP2.out
    have HROW8 := Lib.hid hrow8
    have HRA8 := Lib.hid (hfb.mrd HRA.out (fun k hk hs => HSEP.out k hs hk))
    have hbk8 : Blk w8 g3 5 cs5 := by
      have h6 := HBK5.out.below HB6.out
      have h7 : Blk w7 g3 5 cs5 := by
        unfold Blk
        rw [HFA.out.block g3 h6.lt (fun hs => by have h9 := (LB.rng HO1m.out hs).1; have h10 := HG3.out; omega)]
        exact h6
      unfold Blk
      rw [hfb.block g3 h7.lt (fun hs => by have h9 := (LB.rng HO2m.out hs).1; have h10 := HG3.out; have h11 := HM.out; omega)]
      exact h7
    have HBK8 := Lib.hid hbk8
    have hb38 : Below w3.heap.size w3 w8 := by
      have b1 := HB35.out.trans (HB6.out.mono HB35.out.size)
      have b2 := b1.trans (HFA.out.toBelow (b := w3.heap.size) (fun k hs => by have h9 := (LB.rng HO1m.out hs).1; have h10 := HB35.out.size; omega) b1.size)
      exact b2.trans (HFB.out.toBelow (b := w3.heap.size) (fun k hs => by have h9 := (LB.rng HO2m.out hs).1; have h10 := HM.out; have h11 := HB35.out.size; omega) b2.size)
    have HB38 := Lib.hid hb38
    clear hrb hfb hrow8 hbk8 hb38 hg1 ho27
    go_wp2_with fail
    obtain ⟨W8, hW8⟩ : ∃ x, x = w8 := ⟨_, rfl⟩
    rw [← hW8] at HROW8 HRA8 HRB HBK8 HB38 ⊢
    clear hW8 HFB
    go_loopw [13] (fun i wr => ∃ (j : Nat) (cs : List Value), i = .int .i64 (j : Int) ∧ j ≤ n1 + n2 ∧ Blk wr g3 5 cs ∧ cs.length = c5 ∧ Offs (fun k => k = g3) W8 wr) (fun i _ => n1 + n2 - (intOf i).toNat)
    case atStart => exact ⟨0, cs5, rfl, Nat.zero_le _, HBK8.out, HCS5.out, Offs.refl _ _⟩
    case round =>
      obtain ⟨j, cs, rfl, hj, hbk, hcl, hof⟩ := hrel
      by_cases hlt : j < n1 + n2
      · have hlt' : (j : Int) < (n1 : Int) + n2 := by omega
        have hlt2 : (j : Int) < ((n1 + n2 : Nat) : Int) := by omega
        have cj := hbk.cell j (by omega)
        have fj := hbk.frozen j
        have hs := hbk.setCell j (.int .u8 255)
        have HREL : Hid (∃ (j' : Nat) (cs' : List Value), Value.int .i64 ((j : Int) + 1) = .int .i64 (j' : Int) ∧ j' ≤ n1 + n2 ∧ Blk (wr.setCell ⟨g3, j, none⟩ (.int .u8 255)) g3 5 cs' ∧ cs'.length = c5 ∧ Offs (fun k => k = g3) W8 (wr.setCell ⟨g3, j, none⟩ (.int .u8 255))) :=
          Lib.hid ⟨j + 1, _, rfl, hlt, hs.1, by rw [List.length_set]; exact hcl, hof.grown hs.2 (fun k hk => by cases hk; exact .inl rfl)⟩
        have HME := Lib.hid (meas_lt hlt)
        clear hs hbk hof
        go_wp2
        go_roundw
        case rel => exact HREL.out
        case measure => exact HME.out
      · have hlt' : ¬ (j : Int) < (n1 : Int) + n2 := by omega
        have hlt2 : ¬ (j : Int) < ((n1 + n2 : Nat) : Int) := by omega
        have hrowr := hof.rd HROW8.out (fun x hx hs => by cases hx; dsimp only at hs; have h9 := HG3.out; omega)
        have hra := hof.mrd HRA8.out (fun k hk hs => by subst hs; have h9 := (LB.rng HO1m.out hk).1; have h10 := HG3.out; omega)
        have hrb := hof.mrd HRB.out (fun k hk hs => by subst hs; have h9 := (LB.rng HO2m.out hk).1; have h10 := HG3.out; have h11 := HM.out; omega)
        have hb3r : Below w3.heap.size w3 wr := HB38.out.trans (hof.toBelow (fun k hs => by subst hs; exact HG3.out.1) HB38.out.size)
        have HTR := Lib.hid (HT3.out.below hb3r)
        have hg0 : wr.rangeAt gl 0 (cellsM m q1) := rd_row_at hrowr 0 (by simp)
        have hg1 : wr.rangeAt gl 31 (cellsM m2 q2) := rd_row_at hrowr 1 (by simp)
        clear hbk hof hb3r hrowr HB38 HROW8 HRA8 HRB HBK8
        go_upto_region 17 with fail
        refine wp_region_class (fun W => Below wr.heap.size wr W) (by kernel_rfl) (by kernel_rfl) (below_draws wr) ?_
        refine qc_move rfl (.tmp 10) (.inl rfl) ?_
        refine wpq_hide (fun K hK => ?_)
        go_simp
        refine hK _ ?_
        clear hK K
        refine qc_index rfl 62 50 (.tmp 74) (.const (.int .i64 0)) rfl Try.underlying62 31 (by kernel_rfl) gl 0 2 c6 0 .i64 rfl rfl (by decide) ?_
        refine wpq_hide (fun K hK => ?_)
        go_simp
        refine hK _ ?_
        clear hK K
        refine qc_load rfl 50 (.tmp 75) rfl gl 0 rfl (cellsM m q1) _ (fun W hW => range_below hg0 hW) Try.underlying50 rfl (by kernel_rfl) ?_
        refine wpq_hide (fun K hK => ?_)
        go_simp
        refine hK _ ?_
        clear hK K
        refine qc_load rfl 50 (.tmp 2) rfl ga 0 rfl (cellsM m p) _ (fun W hW => range_below HTR.out.1.whole hW) Try.underlying50 rfl (by kernel_rfl) ?_
        refine wpq_hide (fun K hK => ?_)
        go_simp
        refine hK _ ?_
        clear hK K
        refine qc_call2 rfl 29 (by kernel_rfl) (.tmp 76) (.tmp 77) #[50, 50] rfl (valM m q1) (valM m p) rfl rfl (.bool true) (fun W hW => ?_) ?_
        · refine (alike_any m m q1 p W hwf hwf (hra.below hW) (HTR.out.2.2.1.below hW)).mono ?_
          rintro e W' ⟨b3, rfl, h3, h4⟩
          refine ⟨?_, hW.trans (h4.mono hW.size)⟩
          rw [show b3 = true from h3.2 rfl]
        refine wpq_hide (fun K hK => ?_)
        go_simp
        refine hK _ ?_
        clear hK K
        refine qc_move rfl (.tmp 78) (.inr rfl) ?_
        refine wpq_hide (fun K hK => ?_)
        go_simp
        refine hK _ ?_
        clear hK K
        refine wpQuiet_nil ?_
        intro w9 hbw9
        have hb17 := hbw9
        clear hg0
        go_upto_region 18 with fail
        refine wp_region_class (fun W => Below w9.heap.size w9 W) (by kernel_rfl) (by kernel_rfl) (below_draws w9) ?_
        refine qc_move rfl (.tmp 10) (.inl rfl) ?_
        refine wpq_hide (fun K hK => ?_)
        go_simp
        refine hK _ ?_
        clear hK K
        refine qc_index rfl 62 50 (.tmp 79) (.const (.int .i64 1)) rfl Try.underlying62 31 (by kernel_rfl) gl 0 2 c6 1 .i64 rfl rfl (by decide) ?_
        refine wpq_hide (fun K hK => ?_)
        go_simp
        refine hK _ ?_
        clear hK K
        refine qc_load rfl 50 (.tmp 80) rfl gl 31 rfl (cellsM m2 q2) _ (fun W hW => range_below (range_below hg1 hbw9) hW) Try.underlying50 rfl (by kernel_rfl) ?_
        refine wpq_hide (fun K hK => ?_)
        go_simp
        refine hK _ ?_
        clear hK K
        refine qc_load rfl 50 (.tmp 3) rfl (ga + 1) 0 rfl (cellsM m2 q) _ (fun W hW => range_below ((HTR.out.below hbw9).2.1.whole) hW) Try.underlying50 rfl (by kernel_rfl) ?_
        refine wpq_hide (fun K hK => ?_)
        go_simp
        refine hK _ ?_
        clear hK K
        refine qc_call2 rfl 29 (by kernel_rfl) (.tmp 81) (.tmp 82) #[50, 50] rfl (valM m2 q2) (valM m2 q) rfl rfl (.bool true) (fun W hW => ?_) ?_
        · refine (alike_any m2 m2 q2 q W hwf2 hwf2 ((hrb.below hbw9).below hW) (((HTR.out.below hbw9).2.2.2.1).below hW)).mono ?_
          rintro e W' ⟨b3, rfl, h3, h4⟩
          refine ⟨?_, hW.trans (h4.mono hW.size)⟩
          rw [show b3 = true from h3.2 rfl]
        refine wpq_hide (fun K hK => ?_)
        go_simp
        refine hK _ ?_
        clear hK K
        refine qc_move rfl (.tmp 83) (.inr rfl) ?_
        refine wpq_hide (fun K hK => ?_)
        go_simp
        refine hK _ ?_
        clear hK K
        refine wpQuiet_nil ?_
        intro w10 hbw10
        have hfin : Below w.heap.size w w10 := HTR.out.2.2.2.2.trans ((hbw9.trans (hbw10.mono hbw9.size)).mono HTR.out.2.2.2.2.size)
        go_wp2
        go_ret
        exact ⟨rfl, hfin⟩
#print axioms together_any
end Go.Proofs.Ytaipnbpefdcejaa
