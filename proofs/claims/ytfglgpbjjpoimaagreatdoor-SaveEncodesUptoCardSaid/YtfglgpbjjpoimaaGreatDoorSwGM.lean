/- SaveEncodes: the reference's behind, typed, large. -/
import Derived.Test.YtfglgpbjjpoimaaGreatDoorSwR5
import Derived.Test.YtfglgpbjjpoimaaGreatDoorSwGG
import Derived.Deep.CutBlock
import Derived.Deep.CutRange
set_option linter.unusedVariables false
namespace Go.Proofs.YtfglgpbjjpoimaaGreatDoor
open Go.RowKit Sv
set_option maxHeartbeats 1000000 in
theorem rbehind_any (x y : Tl) (w : World) (hx : Sm 100000000000000000 x) (hy : Sm 100000000000000000 y) : Calls Tryz.prog 86 #[tlv x, tlv y] w fun e w' => e = .returned (tlv (behindR x y)) ∧ Below w.heap.size w w' := by
 obtain ⟨tx, tt, td⟩ := x
 obtain ⟨ux, ut, ud⟩ := y
 obtain ⟨x1, x2, x3⟩ := hx
 obtain ⟨y1, y2, y3⟩ := hy
 dsimp only at x1 x2 x3 y1 y2 y3
 simp only [tlv, tlc, T]
 have hA1 : ¬ 9223372036854775807 < tx.length + 1 := by omega
 have hA2 : ¬ 9223372036854775807 < tx.length + 1 + ux.length := by omega
 by_cases hd : td < ud
 ·have HRR := Lib.hid (show behindR ⟨tx, tt, td⟩ ⟨ux, ut, ud⟩ = ⟨tx ++ [32] ++ ux, tt + ut, ud⟩ by
   unfold behindR; rw [show max td ud = ud by omega])
  have hd' : (td : Int) < ud := by omega
  clear hd
  go_enter Tryz.func86, Tryz.ntmps86
  go_wp2_with fail
  go_returns
  exact ⟨by rw [HRR.out]; simp [bs_append], bal (bal (bal (Below.refl w.heap.size w) (Nat.le_refl _) _) (Nat.le_refl _) _) (Nat.le_refl _) _⟩
 ·have HRR := Lib.hid (show behindR ⟨tx, tt, td⟩ ⟨ux, ut, ud⟩ = ⟨tx ++ [32] ++ ux, tt + ut, td⟩ by
   unfold behindR; rw [show max td ud = td by omega])
  have hd' : ¬ (td : Int) < ud := by omega
  clear hd
  go_enter Tryz.func86, Tryz.ntmps86
  go_wp2_with fail
  go_returns
  exact ⟨by rw [HRR.out]; simp [bs_append], bal (bal (bal (Below.refl w.heap.size w) (Nat.le_refl _) _) (Nat.le_refl _) _) (Nat.le_refl _) _⟩
theorem barsR_snoc (l : List Str) (s : Str) : barsR (l ++ [s]) = barsR l ++ [32, 124, 32] ++ s := by
 induction l with
 | nil => simp [barsR]
 | cons a l ih => simp only [List.cons_append, barsR, ih]; simp
theorem barsR_len (l : List Str) (h : ∀ s ∈ l, s.length ≤ 16) : (barsR l).length ≤ 19 * l.length := by
 induction l with
 | nil => simp [barsR]
 | cons a l ih =>
  have h1 := ih (fun s hs => h s (List.mem_cons_of_mem _ hs))
  have h2 := h a List.mem_cons_self
  simp only [barsR, List.length_append, List.length_cons, List.length_nil] at *
  omega
set_option maxHeartbeats 1000000 in
theorem rtyped_any (a : Option Addr) (c n : Nat) (l : List Str) (w : World) (hn : n = l.length) (hN : n ≤ 1048576) (hp : 1 ≤ n) (h16 : ∀ s ∈ l, s.length ≤ 16) (h : RdS w a l) :
  Calls Tryz.prog 108 #[.slice a n c] w fun e w' => e = .returned (tlv (typedR l)) ∧ Below w.heap.size w w' := by
 obtain ⟨s, r, rfl⟩ : ∃ s r, l = s :: r := by cases l with
  | nil => simp at hn; omega
  | cons s r => exact ⟨s, r, rfl⟩
 obtain ⟨w0, hw0⟩ : ∃ w0, w0 = w.alloc (.cells #[.string ⟨#[]⟩, .int .i64 0, .int .i64 0] 172) := ⟨_, rfl⟩
 have hb0 : Below w.heap.size w w0 := by rw [hw0]; exact bal (Below.refl _ _) (Nat.le_refl _) _
 have h0 := h.below hb0
 have hs16 := h16 s List.mem_cons_self
 obtain ⟨b, off, rfl, e0⟩ := h0.at 0 (by simp)
 rw [List.getElem_cons_zero, T, Nat.add_zero] at e0
 have e1 := e0
 rw [hw0] at e0
 have HR := Lib.hid h0
 have HN := Lib.hid hn
 have H16 := Lib.hid h16
 have HB0 := Lib.hid hb0
 rw [List.length_cons] at hn
 simp only [tlv, tlc, T]
 by_cases h1 : n = 1
 ·have HRR := Lib.hid (show typedR (s :: r) = ⟨s, 1, 0⟩ by unfold typedR; rw [if_pos (by rw [List.length_cons]; omega)]; rfl)
  subst h1
  clear h h0 hn hb0
  go_enter Tryz.func108, Tryz.ntmps108
  go_wp2_with fail
  go_returns
  exact ⟨by rw [HRR.out]; rfl, bal (Below.refl w.heap.size w) (Nat.le_refl _) _⟩
 ·have HRR := Lib.hid (show typedR (s :: r) = ⟨[40, 32] ++ s ++ barsR r ++ [32, 41], 2 * n + 1, 0⟩ by unfold typedR; rw [if_neg (by rw [List.length_cons]; omega), ← HN.out]; rfl)
  have hn1 : ((n : Int) == 1) = false := by simp; omega
  have hn2 : (0 : Int) < n := by omega
  have hA0 : ¬ 9223372036854775807 < 2 + s.length := by omega
  have HNR := Lib.hid hn
  have hrl : (barsR r).length ≤ 19 * r.length := barsR_len r (fun x hx => h16 x (List.mem_cons_of_mem _ hx))
  have HRL := Lib.hid hrl
  clear h h0 h1 hn hrl
  go_enter Tryz.func108, Tryz.ntmps108
  go_wp2_with fail
  rw [← hw0]
  have HW0 := Lib.hid hw0
  clear hw0
  go_loopw [3, 4] (fun v i wr => ∃ (k : Nat) (t : Str), 1 ≤ k ∧ k ≤ n ∧ i = .int .i64 (k : Int) ∧ v = .string ⟨t.toArray⟩ ∧ t = [40, 32] ++ s ++ barsR (r.take (k - 1)) ∧ wr = w0) (fun _ i _ => n - (intOf i).toNat)
  case atStart => exact ⟨1, [40, 32] ++ s, Nat.le_refl _, by omega, rfl, by simp [bs_append], by simp [barsR], rfl⟩
  case round =>
   obtain ⟨k, t, hk1, hkn, rfl, rfl, ht, rfl⟩ := hrel
   have htl : t.length ≤ 18 + 19 * n := by
    have h2 : (barsR (r.take (k - 1))).length ≤ 19 * (r.take (k - 1)).length := barsR_len _ (fun x hx => H16.out x (List.mem_cons_of_mem _ (List.mem_of_mem_take hx)))
    have h3 := List.length_take_le (k - 1) r
    have h4 := List.length_take (i := k - 1) (l := r)
    have := HNR.out
    rw [ht]
    simp only [List.length_append, List.length_cons, List.length_nil]
    omega
   have HT := Lib.hid ht
   clear ht
   by_cases hlt : k < n
   ·obtain ⟨b', off', hab, f0⟩ := HR.out.at k (by rw [← HN.out]; exact hlt)
    cases hab
    have hkr : k - 1 < r.length := by have := HNR.out; omega
    have hg : (s :: r)[k]'(by rw [← HN.out]; exact hlt) = r[k - 1] := by
     obtain ⟨j, rfl⟩ : ∃ j, k = j + 1 := ⟨k - 1, by omega⟩
     simp
    rw [hg, T] at f0
    have hu16 := H16.out _ (List.mem_cons_of_mem _ (List.getElem_mem hkr))
    have htk : barsR (r.take k) = barsR (r.take (k - 1)) ++ [32, 124, 32] ++ r[k - 1] := by
     rw [← barsR_snoc, ← take_snoc r (k - 1) hkr, show k - 1 + 1 = k by omega]
    obtain ⟨u, hu⟩ : ∃ u, u = r[k - 1] := ⟨_, rfl⟩
    rw [← hu] at f0 hu16 htk
    have HTK := Lib.hid htk
    have HME := Lib.hid (meas_lt hlt)
    have hlt' : (k : Int) < n := by omega
    have hk0 : (0 : Int) ≤ k := by omega
    have hA1 : ¬ 9223372036854775807 < t.length + 3 := by omega
    have hA2 : ¬ 9223372036854775807 < t.length + 3 + u.length := by omega
    have HKS := Lib.hid (show 1 ≤ k + 1 ∧ k + 1 ≤ n by omega)
    clear hg htk hu hkr htl
    go_wp2_with fail
    go_roundw
    case rel => exact ⟨k + 1, t ++ [32, 124, 32] ++ u, HKS.out.1, HKS.out.2, by go_num, by simp [bs_append], by rw [Nat.add_sub_cancel, HTK.out, HT.out]; simp, trivial⟩
    case measure => exact HME.out
   ·have hk' : ¬ (k : Int) < n := by omega
    have hA1 : ¬ 9223372036854775807 < t.length + 2 := by omega
    have HRR2 := Lib.hid (show typedR (s :: r) = ⟨t ++ [32, 41], 2 * n + 1, 0⟩ by
     rw [HRR.out, HT.out, List.take_of_length_le (by have := HNR.out; omega)])
    rw [HW0.out]
    clear htl
    go_wp2_with fail
    go_returns
    exact ⟨by rw [HRR2.out]; simp [bs_append], bal (Below.refl w.heap.size w) (Nat.le_refl _) _⟩
set_option maxHeartbeats 2000000 in
theorem rlarge_any (x : Qm) (w : World) (h : RdQ w x) (hB : QB x) : Calls Tryz.prog 85 #[.agg (qmc x).toArray] w fun e w' => e = .returned (.bool (decide (1200 < largeN x.q))) ∧ Below w.heap.size w w' := by
  obtain ⟨w0, hw0⟩ : ∃ w0, w0 = w.alloc (.cells (qmc x).toArray 31) := ⟨_, rfl⟩
  have hb0 : Below w.heap.size w w0 := by rw [hw0]; exact (Below.refl _ _).alloc (Nat.le_refl _) _
  have hE0 : Blk w0 w.heap.size 31 (qmc x) := by rw [hw0]; exact Blk.new w _ 31
  have hI := (h.below hb0).1
  have hR := (h.below hb0).2.2
  obtain ⟨F, hF⟩ : ∃ F, F = decide (1200 < largeN x.q) := ⟨_, rfl⟩
  have hQ : largeN x.q = x.items.length + x.wher.length + x.ret.length + (x.items.map fun y => y.i.types.length).sum + (x.ret.map fun y => y.t.length).sum := by
    unfold largeN Qm.q
    simp only [List.length_map, List.map_map, Function.comp_def]
  rw [hQ] at hF
  rw [hQ, ← hF]
  have HF := Lib.hid hF
  have bI := hB.items
  have bT := hB.types
  have bW := hB.wher
  have bR := hB.ret
  have bTr := hB.trees
  clear hQ hF hB h
  obtain ⟨items, ia, ic, mode, after, wher, wa, wc, within, by_, ret, ra, rc⟩ := x
  dsimp only at bI bT bW bR bTr hI hR HF
  obtain ⟨n, hn⟩ : ∃ n, n = items.length := ⟨_, rfl⟩
  obtain ⟨nw, hnw⟩ : ∃ n, n = wher.length := ⟨_, rfl⟩
  obtain ⟨nr, hnr⟩ : ∃ n, n = ret.length := ⟨_, rfl⟩
  simp only [qmc, T, ← hn, ← hnw, ← hnr] at hE0 hw0 HF ⊢
  rw [← hn] at bI
  rw [← hnw] at bW
  rw [← hnr] at bR
  have c0 := hE0.ci 0 rfl
  have c3 := hE0.ci 3 rfl
  have c6 := hE0.ci 6 rfl
  have HI := Lib.hid hI
  have HR := Lib.hid hR
  have HB0 := Lib.hid hb0
  have HN := Lib.hid hn
  have HNR := Lib.hid hnr
  have HBT := Lib.hid bT
  have HBTR := Lib.hid bTr
  obtain ⟨SI, hSI⟩ : ∃ S, S = (items.map fun y => y.i.types.length).sum := ⟨_, rfl⟩
  obtain ⟨SR, hSR⟩ : ∃ S, S = (ret.map fun y => y.t.length).sum := ⟨_, rfl⟩
  rw [← hSI, ← hSR] at HF
  have HSI := Lib.hid hSI
  have HSR := Lib.hid hSR
  clear hE0 hb0 hn hnw hnr bT bTr hSI hSR hI hR
  go_enter Tryz.func85, Tryz.ntmps85
  go_wp2_with fail
  rw [← hw0]
  clear hw0
  go_loopw [3, 4] (fun v i wr => ∃ k m : Nat, k ≤ n ∧ i = .int .i64 (k : Int) ∧ v = .int .i64 (m : Int) ∧ m = n + nw + nr + ((items.take k).map fun y => y.i.types.length).sum ∧ m ≤ 5000000 ∧ wr = w0) (fun _ i _ => n - (intOf i).toNat)
  case atStart => exact ⟨0, n + nw + nr, Nat.zero_le _, rfl, by go_num, by simp, by omega, rfl⟩
  case round =>
    obtain ⟨k, m, hkn, rfl, rfl, hm, hmb, rfl⟩ := hrel
    have HM := Lib.hid hm
    clear hm
    by_cases hgo : k < n ∧ m ≤ 1200
    · obtain ⟨hlt, hmL⟩ := hgo
      have hkl : k < items.length := by rw [← HN.out]; exact hlt
      obtain ⟨b, off, rfl, e0, e1, e2, e3, e4⟩ := HI.out.at k hkl
      have hbt := HBT.out _ (List.getElem_mem hkl)
      have hsum : ((items.take (k + 1)).map fun y => y.i.types.length).sum = ((items.take k).map fun y => y.i.types.length).sum + items[k].i.types.length := by
        rw [take_snoc items k hkl, List.map_append, List.sum_append]; simp
      obtain ⟨y, hy⟩ : ∃ y, y = items[k].i.types.length := ⟨_, rfl⟩
      rw [← hy] at e1 hbt hsum
      have HS := Lib.hid hsum
      have HME := Lib.hid (meas_lt hlt)
      have hlt' : (k : Int) < n := by omega
      have hmL' : (m : Int) ≤ 1200 := by omega
      have hk0 : (0 : Int) ≤ k := by omega
      have HKS := Lib.hid (show k + 1 ≤ n ∧ m + y ≤ 5000000 by omega)
      clear hsum hy e0 e2 e3 e4
      go_wp2_with fail
      go_roundw
      case rel => exact ⟨k + 1, m + y, HKS.out.1, by go_num, by go_num, by rw [HS.out, HM.out]; omega, HKS.out.2, trivial⟩
      case measure => exact HME.out
    · have HEND := Lib.hid (show (k = n ∧ m = n + nw + nr + SI) ∨ (1200 < m ∧ m ≤ n + nw + nr + SI) by
        have hle : ((items.take k).map fun y => y.i.types.length).sum ≤ SI := by
          rw [HSI.out]
          have h2 : items.map (fun y => y.i.types.length) = (items.take k).map (fun y => y.i.types.length) ++ (items.drop k).map (fun y => y.i.types.length) := by rw [← List.map_append, List.take_append_drop]
          rw [h2, List.sum_append]
          omega
        by_cases hkk : k = n
        · left
          refine ⟨hkk, ?_⟩
          rw [HM.out, HSI.out, List.take_of_length_le (by rw [← HN.out]; omega)]
        · right
          have : ¬ m ≤ 1200 := fun h => hgo ⟨by omega, h⟩
          exact ⟨by omega, by rw [HM.out]; omega⟩)
      have HTEST := Lib.hid (show (¬ (k : Int) < n) ∨ ((k : Int) < n ∧ ¬ (m : Int) ≤ 1200) by omega)
      clear hgo
      rcases HTEST.out with ht1 | ⟨ht1, ht2⟩
      all_goals (
        go_wp2_with fail
        go_loopw [3, 5] (fun v i wz => ∃ j m2 : Nat, j ≤ nr ∧ i = .int .i64 (j : Int) ∧ v = .int .i64 (m2 : Int) ∧ m2 = m + ((ret.take j).map fun y => y.t.length).sum ∧ m2 ≤ 10000000 ∧ wz = wr) (fun _ i _ => nr - (intOf i).toNat)
        case atStart => exact ⟨0, m, Nat.zero_le _, rfl, rfl, by simp, by omega, rfl⟩
        case round =>
          obtain ⟨j, m2, hjn, rfl, rfl, hm2, hmb2, rfl⟩ := hrel
          have HM2 := Lib.hid hm2
          clear hm2
          by_cases hgo : j < nr ∧ m2 ≤ 1200
          · obtain ⟨hlt, hmL⟩ := hgo
            have hkl : j < ret.length := by rw [← HNR.out]; exact hlt
            obtain ⟨b, off, hav, e0⟩ := HR.out.at j hkl
            subst hav
            have hbt := HBTR.out _ (List.getElem_mem hkl)
            have hsum : ((ret.take (j + 1)).map fun y => y.t.length).sum = ((ret.take j).map fun y => y.t.length).sum + ret[j].t.length := by
              rw [take_snoc ret j hkl, List.map_append, List.sum_append]; simp
            obtain ⟨y, hy⟩ : ∃ y, y = ret[j].t.length := ⟨_, rfl⟩
            rw [← hy] at e0 hbt hsum
            have HS := Lib.hid hsum
            have HME := Lib.hid (meas_lt hlt)
            have hlt' : (j : Int) < nr := by omega
            have hmL' : (m2 : Int) ≤ 1200 := by omega
            have hk0 : (0 : Int) ≤ j := by omega
            have HKS := Lib.hid (show j + 1 ≤ nr ∧ m2 + y ≤ 10000000 by omega)
            clear hsum hy
            go_wp2_with fail
            go_roundw
            case rel => exact ⟨j + 1, m2 + y, HKS.out.1, by go_num, by go_num, by rw [HS.out, HM2.out]; omega, HKS.out.2, trivial⟩
            case measure => exact HME.out
          · have hle2 : ((ret.take j).map fun y => y.t.length).sum ≤ SR := by
              rw [HSR.out]
              have h2 : ret.map (fun y => y.t.length) = (ret.take j).map (fun y => y.t.length) ++ (ret.drop j).map (fun y => y.t.length) := by rw [← List.map_append, List.take_append_drop]
              rw [h2, List.sum_append]
              omega
            have hfull : j = nr → ((ret.take j).map fun y => y.t.length).sum = SR := fun h => by
              rw [HSR.out, List.take_of_length_le (by rw [← HNR.out]; omega)]
            have HR2 := Lib.hid (show F = decide (1200 < m2) by
              rw [HF.out, decide_eq_decide]
              have := HM2.out
              have := HEND.out
              by_cases hjj : j = nr
              · have := hfull hjj
                omega
              · omega)
            have HTEST2 := Lib.hid (show (¬ (j : Int) < nr) ∨ ((j : Int) < nr ∧ ¬ (m2 : Int) ≤ 1200) by omega)
            have hres : (1200 < m2 ∧ F = true) ∨ (¬ 1200 < m2 ∧ F = false) := by
              by_cases h : 1200 < m2
              · exact .inl ⟨h, by rw [HR2.out]; simpa using h⟩
              · exact .inr ⟨h, by rw [HR2.out]; simpa using h⟩
            clear hgo hle2 hfull HR2
            rcases HTEST2.out with hu1 | ⟨hu1, hu2⟩ <;> rcases hres with ⟨hr1, rfl⟩ | ⟨hr1, rfl⟩
            all_goals (
              first
                | (exfalso; omega)
                | (have hr2 : (1200 : Int) < m2 := by omega
                   go_wp2_with fail
                   go_ret
                   exact ⟨rfl, HB0.out⟩)
                | (have hr2 : ¬ (1200 : Int) < m2 := by omega
                   go_wp2_with fail
                   go_ret
                   exact ⟨rfl, HB0.out⟩)))
end Go.Proofs.YtfglgpbjjpoimaaGreatDoor
/- SaveEncodes: the reference's item. -/
set_option linter.unusedVariables false
namespace Go.Proofs.YtfglgpbjjpoimaaGreatDoor
open Go.RowKit Sv
theorem typedR_sm (l : List Str) (h16 : ∀ s ∈ l, s.length ≤ 16) (hN : l.length ≤ 1048576) : ∃ ty tk, typedR l = ⟨ty, tk, 0⟩ ∧ ty.length ≤ 50000000 ∧ tk ≤ 3000000 := by
 unfold typedR
 have hh : (l.headD []).length ≤ 16 := by
  cases l with
  | nil => simp
  | cons s r => exact h16 s List.mem_cons_self
 split
 ·exact ⟨_, _, rfl, by omega, by omega⟩
 ·refine ⟨_, _, rfl, ?_, by omega⟩
  have h2 := barsR_len l.tail (fun s hs => h16 s (List.mem_of_mem_tail hs))
  have h3 : l.tail.length ≤ l.length := by simp
  simp only [List.length_append, List.length_cons, List.length_nil]
  omega
theorem fmt_len (n : Int) (h : I64' n) : (fmtI n).length ≤ 30 := by
 have := Lib.itoa_length_le n h.1 h.2
 unfold fmtI; omega
theorem keep5 {w' : World} {g gi gr : Nat} {t ti tr : TypeId} {a0 a1 a2 b0 b1 b2 b3 b4 : Value} {cs : List Value} (h : Blk w' g t [a0, a1, a2]) (hi : Blk w' gi ti [b0, b1, b2, b3, b4]) (hr : Blk w' gr tr cs) (h1 : g ≠ gr) (h2 : gi ≠ gr) (v0 v1 v2 : Value) :
  (((w'.setCell ⟨gr, 0, none⟩ v0).setCell ⟨gr, 1, none⟩ v1).setCell ⟨gr, 2, none⟩ v2).cell? ⟨g, 0, none⟩ = some a0 ∧ (((w'.setCell ⟨gr, 0, none⟩ v0).setCell ⟨gr, 1, none⟩ v1).setCell ⟨gr, 2, none⟩ v2).cell? ⟨g, 1, none⟩ = some a1 ∧
  (((w'.setCell ⟨gr, 0, none⟩ v0).setCell ⟨gr, 1, none⟩ v1).setCell ⟨gr, 2, none⟩ v2).cell? ⟨gi, 2, none⟩ = some b2 ∧ (((w'.setCell ⟨gr, 0, none⟩ v0).setCell ⟨gr, 1, none⟩ v1).setCell ⟨gr, 2, none⟩ v2).cell? ⟨gi, 3, none⟩ = some b3 ∧
  (((w'.setCell ⟨gr, 0, none⟩ v0).setCell ⟨gr, 1, none⟩ v1).setCell ⟨gr, 2, none⟩ v2).cell? ⟨gi, 4, none⟩ = some b4 := by
 have r1 := hr.setCell 0 v0
 have r2 := r1.1.setCell 1 v1
 have r3 := r2.1.setCell 2 v2
 have k := ((h.kept r1.2 (fun e => h1 (by cases e; rfl))).kept r2.2 (fun e => h1 (by cases e; rfl))).kept r3.2 (fun e => h1 (by cases e; rfl))
 have ki := ((hi.kept r1.2 (fun e => h2 (by cases e; rfl))).kept r2.2 (fun e => h2 (by cases e; rfl))).kept r3.2 (fun e => h2 (by cases e; rfl))
 exact ⟨k.ci 0 rfl, k.ci 1 rfl, ki.ci 2 rfl, ki.ci 3 rfl, ki.ci 4 rfl⟩
set_option maxHeartbeats 4000000 in
set_option maxRecDepth 20000 in
theorem ritem_any (x : Im) (w : World) (hl : Ld w) (h : RdS w x.a x.i.types) (hp : 1 ≤ x.i.types.length) (hN : x.i.types.length ≤ 1048576) (h16 : ∀ s ∈ x.i.types, s.length ≤ 16) (hv : x.i.var.length ≤ 16) (hlo : I64' x.i.lo) (hhi : I64' x.i.hi) :
  Calls Tryz.prog 87 #[.agg (imc x).toArray] w fun e w' => e = .returned (tlv (itemR fmtI x.i)) ∧ Below w.heap.size w w' := by
 obtain ⟨⟨neg, types, var, lo, hi⟩, ta, tc⟩ := x
 dsimp only at h hp hN h16 hv hlo hhi
 obtain ⟨n, hn⟩ : ∃ n, n = types.length := ⟨_, rfl⟩
 obtain ⟨R, hR⟩ : ∃ R, R = itemR fmtI ⟨neg, types, var, lo, hi⟩ := ⟨_, rfl⟩
 rw [← hR]
 obtain ⟨ty, tk, hty, ht1, ht2⟩ := typedR_sm types h16 hN
 have HRF := Lib.hid (show R = if neg = true then ⟨[33, 32] ++ ty ++ [32] ++ var, tk + 2, 0⟩ else if lo = 1 ∧ hi = 1 then ⟨ty ++ [32] ++ var, tk + 1, 0⟩ else if lo = 1 ∧ hi = 4 then ⟨ty ++ [32, 43, 32] ++ var, tk + 2, 0⟩
   else ⟨ty ++ [32] ++ var ++ [32, 123, 32] ++ fmtI lo ++ [32, 44, 32] ++ fmtI hi ++ [32, 125], tk + 6, 0⟩ by
  rw [hR]; unfold itemR; rw [hty])
 obtain ⟨w0, hw0⟩ : ∃ w0, w0 = (w.alloc (.cells #[.bool neg, .slice ta n tc, .string ⟨var.toArray⟩, .int .i64 lo, .int .i64 hi] 105)).alloc (.cells #[.string ⟨#[]⟩, .int .i64 0, .int .i64 0] 172) := ⟨_, rfl⟩
 have hb0 : Below w.heap.size w w0 := by rw [hw0]; exact bal (bal (Below.refl _ _) (Nat.le_refl _) _) (Nat.le_refl _) _
 have hE0 : Blk w0 w.heap.size 105 [.bool neg, .slice ta n tc, .string ⟨var.toArray⟩, .int .i64 lo, .int .i64 hi] := by
  rw [hw0]
  exact (Blk.new w _ 105).below (bal (Below.refl _ _) (Nat.le_refl _) _)
 have hE1 : Blk w0 (w.heap.size + 1) 172 [.string ⟨#[]⟩, .int .i64 0, .int .i64 0] := by
  rw [hw0]
  have h := Blk.new (w.alloc (.cells #[.bool neg, .slice ta n tc, .string ⟨var.toArray⟩, .int .i64 lo, .int .i64 hi] 105)) [.string ⟨#[]⟩, .int .i64 0, .int .i64 0] 172
  rw [show (w.alloc (.cells #[.bool neg, .slice ta n tc, .string ⟨var.toArray⟩, .int .i64 lo, .int .i64 hi] 105)).heap.size = w.heap.size + 1 by show Array.size (Array.push _ _) = _; simp] at h
  exact h
 have hTy := rtyped_any ta tc n types w0 hn (by omega) (by omega) h16 (h.below hb0)
 rw [hty] at hTy
 simp only [tlv, tlc, T] at hTy
 have HTY := Lib.hid hTy
 have HE0 := Lib.hid hE0
 have HE1 := Lib.hid hE1
 have HB0 := Lib.hid hb0
 have HL := Lib.hid (hl.below hb0)
 have HZ := Lib.hid (show ∀ w', Below w0.heap.size w0 w' → Res w' (w.heap.size + 1) from fun w' hb => res_of (HE1.out.below hb))
 have HZB := Lib.hid (show ∀ w' v0 v1 v2, Below w0.heap.size w0 w' → Below w.heap.size w (((w'.setCell ⟨w.heap.size + 1, 0, none⟩ v0).setCell ⟨w.heap.size + 1, 1, none⟩ v1).setCell ⟨w.heap.size + 1, 2, none⟩ v2) from
  fun w' v0 v1 v2 hb => set3_below (HE1.out.below hb) (by omega) (HB0.out.trans (hb.mono HB0.out.size)) v0 v1 v2)
 have hf1 := fmt_len lo hlo
 have hf2 := fmt_len hi hhi
 obtain ⟨lo1, lo2⟩ := hlo
 obtain ⟨hi1, hi2⟩ := hhi
 simp only [imc, tlv, tlc, T, ← hn]
 clear hR hty hE0 hE1 hb0 hl h hTy hn hN hp h16
 go_enter Tryz.func87, Tryz.ntmps87
 go_wp2_with fail
 rw [← hw0]
 clear hw0
 refine (HTY.out).mono ?_
 rintro e w1 ⟨rfl, hb1⟩
 obtain ⟨w2, hw2⟩ : ∃ v, v = w1.alloc (.cells #[.string ⟨ty.toArray⟩, .int .i64 tk, .int .i64 0] 172) := ⟨_, rfl⟩
 obtain ⟨g2, hg2⟩ : ∃ v, v = w1.heap.size := ⟨_, rfl⟩
 have hb2 : Below w1.heap.size w1 w2 := by rw [hw2]; exact bal (Below.refl _ _) (Nat.le_refl _) _
 have hF : Blk w2 g2 172 [.string ⟨ty.toArray⟩, .int .i64 tk, .int .i64 0] := by rw [hw2, hg2]; exact Blk.new w1 _ 172
 have HC := Lib.hid (hb1.trans (hb2.mono hb1.size))
 have HF := Lib.hid hF
 have HNG := Lib.hid (show g2 ≠ w.heap.size + 1 by have := HE1.out.lt; have := hb1.size; omega)
 have HI := Lib.hid (HE0.out.below HC.out)
 have HLD := Lib.hid (HL.out.below HC.out)
 have f0 := hF.ci 0 rfl
 have f1 := hF.ci 1 rfl
 have i0 := HI.out.ci 0 rfl
 have i2 := HI.out.ci 2 rfl
 have i3 := HI.out.ci 3 rfl
 have i4 := HI.out.ci 4 rfl
 clear hb1 hb2 hF
 go_upto_region 2 with fail
 rw [← hw2, ← hg2]
 clear hw2 hg2
 cases neg with
 | true =>
  have HRR := Lib.hid (show R = ⟨[33, 32] ++ ty ++ [32] ++ var, tk + 2, 0⟩ by rw [HRF.out, if_pos rfl])
  have hA1 : ¬ 9223372036854775807 < 2 + ty.length := by omega
  have hA2 : ¬ 9223372036854775807 < 2 + ty.length + 1 := by omega
  have hA3 : ¬ 9223372036854775807 < 2 + ty.length + 1 + var.length := by omega
  obtain ⟨z0, z1, z2, z3, z4, z5, z6, z7, z8⟩ := HZ.out _ HC.out
  have HQ0 := Lib.hid z6
  have HQ1 := Lib.hid z7
  have HQ2 := Lib.hid z8
  clear z6 z7 z8
  go_wp2_with fail
  have q0 := HQ0.out (.string (⟨#[33, 32]⟩ ++ ⟨ty.toArray⟩ ++ ⟨#[32]⟩ ++ ⟨var.toArray⟩))
  have q1 := HQ1.out (.string (⟨#[33, 32]⟩ ++ ⟨ty.toArray⟩ ++ ⟨#[32]⟩ ++ ⟨var.toArray⟩)) (.int .i64 ((tk : Int) + 2))
  have q2 := HQ2.out (.string (⟨#[33, 32]⟩ ++ ⟨ty.toArray⟩ ++ ⟨#[32]⟩ ++ ⟨var.toArray⟩)) (.int .i64 ((tk : Int) + 2)) (.int .i64 0)
  refine bodyPost_ret (by simp [results, Tryz.results87, go_sem, q0, q1, q2]; try rfl) rfl ?_
  exact ⟨by rw [HRR.out]; simp [bs_append], HZB.out _ _ _ _ HC.out⟩
 | false =>
  by_cases h1 : lo = 1 ∧ hi = 1
  ·have HRR := Lib.hid (show R = ⟨ty ++ [32] ++ var, tk + 1, 0⟩ by rw [HRF.out, if_neg (by simp), if_pos h1])
   obtain ⟨rfl, rfl⟩ := h1
   have hA1 : ¬ 9223372036854775807 < ty.length + 1 := by omega
   have hA2 : ¬ 9223372036854775807 < ty.length + 1 + var.length := by omega
   obtain ⟨z0, z1, z2, z3, z4, z5, z6, z7, z8⟩ := HZ.out _ HC.out
   have HQ0 := Lib.hid z6
   have HQ1 := Lib.hid z7
   have HQ2 := Lib.hid z8
   clear z6 z7 z8
   go_wp2_with fail
   have q0 := HQ0.out (.string (⟨ty.toArray⟩ ++ ⟨#[32]⟩ ++ ⟨var.toArray⟩))
   have q1 := HQ1.out (.string (⟨ty.toArray⟩ ++ ⟨#[32]⟩ ++ ⟨var.toArray⟩)) (.int .i64 ((tk : Int) + 1))
   have q2 := HQ2.out (.string (⟨ty.toArray⟩ ++ ⟨#[32]⟩ ++ ⟨var.toArray⟩)) (.int .i64 ((tk : Int) + 1)) (.int .i64 0)
   refine bodyPost_ret (by simp [results, Tryz.results87, go_sem, q0, q1, q2]; try rfl) rfl ?_
   exact ⟨by rw [HRR.out]; simp [bs_append], HZB.out _ _ _ _ HC.out⟩
  ·by_cases h2 : lo = 1 ∧ hi = 4
   ·have HRR := Lib.hid (show R = ⟨ty ++ [32, 43, 32] ++ var, tk + 2, 0⟩ by rw [HRF.out, if_neg (by simp), if_neg h1, if_pos h2])
    obtain ⟨rfl, rfl⟩ := h2
    have hA1 : ¬ 9223372036854775807 < ty.length + 3 := by omega
    have hA2 : ¬ 9223372036854775807 < ty.length + 3 + var.length := by omega
    clear h1
    obtain ⟨z0, z1, z2, z3, z4, z5, z6, z7, z8⟩ := HZ.out _ HC.out
    have HQ0 := Lib.hid z6
    have HQ1 := Lib.hid z7
    have HQ2 := Lib.hid z8
    clear z6 z7 z8
    go_wp2_with fail
    have q0 := HQ0.out (.string (⟨ty.toArray⟩ ++ ⟨#[32, 43, 32]⟩ ++ ⟨var.toArray⟩))
    have q1 := HQ1.out (.string (⟨ty.toArray⟩ ++ ⟨#[32, 43, 32]⟩ ++ ⟨var.toArray⟩)) (.int .i64 ((tk : Int) + 2))
    have q2 := HQ2.out (.string (⟨ty.toArray⟩ ++ ⟨#[32, 43, 32]⟩ ++ ⟨var.toArray⟩)) (.int .i64 ((tk : Int) + 2)) (.int .i64 0)
    refine bodyPost_ret (by simp [results, Tryz.results87, go_sem, q0, q1, q2]; try rfl) rfl ?_
    exact ⟨by rw [HRR.out]; simp [bs_append], HZB.out _ _ _ _ HC.out⟩
   ·have HRR := Lib.hid (show R = ⟨ty ++ [32] ++ var ++ [32, 123, 32] ++ fmtI lo ++ [32, 44, 32] ++ fmtI hi ++ [32, 125], tk + 6, 0⟩ by rw [HRF.out, if_neg (by simp), if_neg h1, if_neg h2])
    have hcl : ((lo == 1) = false) ∨ (lo = 1 ∧ (hi == 1) = false ∧ (hi == 4) = false) := by
     by_cases h : lo = 1
     ·exact .inr ⟨h, by simpa using fun e => h1 ⟨h, e⟩, by simpa using fun e => h2 ⟨h, e⟩⟩
     ·exact .inl (by simpa using h)
    have hA1 : ¬ 9223372036854775807 < ty.length + 1 := by omega
    have hA2 : ¬ 9223372036854775807 < ty.length + 1 + var.length := by omega
    have hA3 : ¬ 9223372036854775807 < ty.length + 1 + var.length + 3 := by omega
    have hA4 : ¬ 9223372036854775807 < ty.length + 1 + var.length + 3 + (fmtI lo).length := by omega
    have hA5 : ¬ 9223372036854775807 < ty.length + 1 + var.length + 3 + (fmtI lo).length + 3 := by omega
    have hA6 : ¬ 9223372036854775807 < ty.length + 1 + var.length + 3 + (fmtI lo).length + 3 + (fmtI hi).length := by omega
    have hA7 : ¬ 9223372036854775807 < ty.length + 1 + var.length + 3 + (fmtI lo).length + 3 + (fmtI hi).length + 2 := by omega
    have hw6 : IntKind.i64.wrap ((tk : Int) + 6) = (tk : Int) + 6 := by rw [IntKind.wrap_i64]; omega
    have HBW := Lib.hid (show Below w2.heap.size w2 w2.drew from (Below.refl _ _).drew)
    have j0 : w2.drew.cell? ⟨g2, 0, none⟩ = some (.string ⟨ty.toArray⟩) := f0
    have j1 : w2.drew.cell? ⟨g2, 1, none⟩ = some (.int .i64 tk) := f1
    have j2 : w2.drew.cell? ⟨w.heap.size, 2, none⟩ = some (.string ⟨var.toArray⟩) := i2
    have j3 : w2.drew.cell? ⟨w.heap.size, 3, none⟩ = some (.int .i64 lo) := i3
    have j4 : w2.drew.cell? ⟨w.heap.size, 4, none⟩ = some (.int .i64 hi) := i4
    clear h1 h2
    rcases hcl with hc1 | ⟨rfl, hc2, hc3⟩
    ·go_wp2_with fail
     go_region_held3 (fun W => W.cell? ⟨g2, 0, none⟩ = some (.string ⟨ty.toArray⟩) ∧ W.cell? ⟨g2, 1, none⟩ = some (.int .i64 tk) ∧ W.cell? ⟨w.heap.size, 2, none⟩ = some (.string ⟨var.toArray⟩) ∧ W.cell? ⟨w.heap.size, 3, none⟩ = some (.int .i64 lo) ∧ W.cell? ⟨w.heap.size, 4, none⟩ = some (.int .i64 hi)) (first | exact ⟨j0, j1, j2, j3, j4⟩ | exact HS3.out _ _ _ | (refine ⟨?_, ?_, ?_, ?_, ?_⟩ <;> assumption)) (first
      | (go_at_call 109; refine (itoa_any _ (by first | assumption | decide) (by first | assumption | decide) _ (HLD.out.below HBW.out)).mono ?_; rintro e wj ⟨rfl, hbj⟩; (have HBW := Lib.hid (HBW.out.trans (hbj.mono HBW.out.size))); (have j0 := (HF.out.below HBW.out).ci 0 rfl); (have j1 := (HF.out.below HBW.out).ci 1 rfl); (have j2 := (HI.out.below HBW.out).ci 2 rfl); (have j3 := (HI.out.below HBW.out).ci 3 rfl); (have j4 := (HI.out.below HBW.out).ci 4 rfl); (have HCW := Lib.hid (HC.out.trans (HBW.out.mono HC.out.size))); (obtain ⟨z0, z1, z2, z3, z4, z5, z6, z7, z8⟩ := HZ.out _ HCW.out); (have HQ0 := Lib.hid z6); (have HQ1 := Lib.hid z7); (have HQ2 := Lib.hid z8); (have HS3 := Lib.hid (fun v0 v1 v2 => keep5 (HF.out.below HBW.out) (HI.out.below HBW.out) (HE1.out.below HCW.out) HNG.out (by omega) v0 v1 v2)); clear z6 z7 z8 hbj))
     go_wp2_with fail
     have q0 := HQ0.out (.string (⟨ty.toArray⟩ ++ ⟨#[32]⟩ ++ ⟨var.toArray⟩ ++ ⟨#[32, 123, 32]⟩ ++ ⟨(fmtI lo).toArray⟩ ++ ⟨#[32, 44, 32]⟩ ++ ⟨(fmtI hi).toArray⟩ ++ ⟨#[32, 125]⟩))
     have q1 := HQ1.out (.string (⟨ty.toArray⟩ ++ ⟨#[32]⟩ ++ ⟨var.toArray⟩ ++ ⟨#[32, 123, 32]⟩ ++ ⟨(fmtI lo).toArray⟩ ++ ⟨#[32, 44, 32]⟩ ++ ⟨(fmtI hi).toArray⟩ ++ ⟨#[32, 125]⟩)) (.int .i64 ((tk : Int) + 6))
     have q2 := HQ2.out (.string (⟨ty.toArray⟩ ++ ⟨#[32]⟩ ++ ⟨var.toArray⟩ ++ ⟨#[32, 123, 32]⟩ ++ ⟨(fmtI lo).toArray⟩ ++ ⟨#[32, 44, 32]⟩ ++ ⟨(fmtI hi).toArray⟩ ++ ⟨#[32, 125]⟩)) (.int .i64 ((tk : Int) + 6)) (.int .i64 0)
     refine bodyPost_ret (by simp [results, Tryz.results87, go_sem, q0, q1, q2]; try rfl) rfl ?_
     exact ⟨by rw [HRR.out]; simp [bs_append], HZB.out _ _ _ _ HCW.out⟩
    ·go_wp2_with fail
     go_region_held3 (fun W => W.cell? ⟨g2, 0, none⟩ = some (.string ⟨ty.toArray⟩) ∧ W.cell? ⟨g2, 1, none⟩ = some (.int .i64 tk) ∧ W.cell? ⟨w.heap.size, 2, none⟩ = some (.string ⟨var.toArray⟩) ∧ W.cell? ⟨w.heap.size, 3, none⟩ = some (.int .i64 1) ∧ W.cell? ⟨w.heap.size, 4, none⟩ = some (.int .i64 hi)) (first | exact ⟨j0, j1, j2, j3, j4⟩ | exact HS3.out _ _ _ | (refine ⟨?_, ?_, ?_, ?_, ?_⟩ <;> assumption)) (first
      | (go_at_call 109; refine (itoa_any _ (by first | assumption | decide) (by first | assumption | decide) _ (HLD.out.below HBW.out)).mono ?_; rintro e wj ⟨rfl, hbj⟩; (have HBW := Lib.hid (HBW.out.trans (hbj.mono HBW.out.size))); (have j0 := (HF.out.below HBW.out).ci 0 rfl); (have j1 := (HF.out.below HBW.out).ci 1 rfl); (have j2 := (HI.out.below HBW.out).ci 2 rfl); (have j3 := (HI.out.below HBW.out).ci 3 rfl); (have j4 := (HI.out.below HBW.out).ci 4 rfl); (have HCW := Lib.hid (HC.out.trans (HBW.out.mono HC.out.size))); (obtain ⟨z0, z1, z2, z3, z4, z5, z6, z7, z8⟩ := HZ.out _ HCW.out); (have HQ0 := Lib.hid z6); (have HQ1 := Lib.hid z7); (have HQ2 := Lib.hid z8); (have HS3 := Lib.hid (fun v0 v1 v2 => keep5 (HF.out.below HBW.out) (HI.out.below HBW.out) (HE1.out.below HCW.out) HNG.out (by omega) v0 v1 v2)); clear z6 z7 z8 hbj))
     go_wp2_with fail
     have q0 := HQ0.out (.string (⟨ty.toArray⟩ ++ ⟨#[32]⟩ ++ ⟨var.toArray⟩ ++ ⟨#[32, 123, 32]⟩ ++ ⟨(fmtI 1).toArray⟩ ++ ⟨#[32, 44, 32]⟩ ++ ⟨(fmtI hi).toArray⟩ ++ ⟨#[32, 125]⟩))
     have q1 := HQ1.out (.string (⟨ty.toArray⟩ ++ ⟨#[32]⟩ ++ ⟨var.toArray⟩ ++ ⟨#[32, 123, 32]⟩ ++ ⟨(fmtI 1).toArray⟩ ++ ⟨#[32, 44, 32]⟩ ++ ⟨(fmtI hi).toArray⟩ ++ ⟨#[32, 125]⟩)) (.int .i64 ((tk : Int) + 6))
     have q2 := HQ2.out (.string (⟨ty.toArray⟩ ++ ⟨#[32]⟩ ++ ⟨var.toArray⟩ ++ ⟨#[32, 123, 32]⟩ ++ ⟨(fmtI 1).toArray⟩ ++ ⟨#[32, 44, 32]⟩ ++ ⟨(fmtI hi).toArray⟩ ++ ⟨#[32, 125]⟩)) (.int .i64 ((tk : Int) + 6)) (.int .i64 0)
     refine bodyPost_ret (by simp [results, Tryz.results87, go_sem, q0, q1, q2]; try rfl) rfl ?_
     exact ⟨by rw [HRR.out]; simp [bs_append], HZB.out _ _ _ _ HCW.out⟩
end Go.Proofs.YtfglgpbjjpoimaaGreatDoor
/- SaveEncodes: what the reference tells of a tree is not too long (plain). -/
set_option linter.unusedVariables false
namespace Go.Proofs.YtfglgpbjjpoimaaGreatDoor
open Go.RowKit Sv
theorem sub_at {t : List Nd} {o : Nat} {e : Ex} (h : Sh t o e) : ∀ k, o ≤ k → k < o + e.size → ∃ o' e', Sh t o' e' ∧ o' + e'.size = k + 1 := by
 induction h with
 | leaf h hop ha hb =>
  intro k h1 h2
  rename_i o x
  simp only [Ex.size] at h2
  exact ⟨o, _, .leaf h hop ha hb, by simp only [Ex.size]; omega⟩
 | one he h hop ha hb ih =>
  intro k h1 h2
  rename_i o x e
  simp only [Ex.size] at h2
  by_cases hk : k < o + e.size
  ·exact ih k h1 hk
  ·exact ⟨o, _, .one he h hop ha hb, by simp only [Ex.size]; omega⟩
 | two he hf h hop ha hb ihe ihf =>
  intro k h1 h2
  rename_i o x e f
  simp only [Ex.size] at h2
  by_cases hk : k < o + e.size
  ·exact ihe k h1 hk
  ·by_cases hk2 : k < o + e.size + f.size
   ·exact ihf k (by omega) hk2
   ·exact ⟨o, _, .two he hf h hop ha hb, by simp only [Ex.size]; omega⟩
theorem node_at {t : List Nd} {o : Nat} {e : Ex} {k : Nat} (h : Sh t o e) (hk : o + e.size = k + 1) (hlt : k < t.length) :
  (1 ≤ t[k].op ∧ t[k].op ≤ 26) ∧ ((t[k].a = -1 ∧ t[k].b = -1) ∨ (∃ i : Nat, i < k ∧ t[k].a = i ∧ t[k].b = -1) ∨ (∃ i j : Nat, i < k ∧ j < k ∧ t[k].a = i ∧ t[k].b = j)) := by
 have key : ∀ x : Int, (opsP x = 0 → 1 ≤ x ∧ x ≤ 26) ∧ (opsP x = 1 → 1 ≤ x ∧ x ≤ 26) ∧ (opsP x = 2 → 1 ≤ x ∧ x ≤ 26) := by
  intro x
  unfold opsP
  repeat' split
  all_goals (refine ⟨fun h => by omega, fun h => by omega, fun h => by omega⟩)
 have htop := h.top
 rw [hk, Nat.add_sub_cancel, List.getElem?_eq_getElem hlt, Option.some.injEq] at htop
 rw [htop]
 cases h with
 | leaf h hop ha hb => exact ⟨(key _).1 hop, .inl ⟨ha, hb⟩⟩
 | one he h hop ha hb =>
  rename_i x e
  have := e.size_pos
  simp only [Ex.size] at hk
  exact ⟨(key _).2.1 hop, .inr (.inl ⟨_, by omega, ha, hb⟩)⟩
 | two he hf h hop ha hb =>
  rename_i x e f
  have := e.size_pos
  have := f.size_pos
  simp only [Ex.size] at hk
  exact ⟨(key _).2.2 hop, .inr (.inr ⟨_, _, by omega, by omega, ha, hb⟩)⟩
theorem toks_len (n : Int) (e : Ex) : (toksT n e).length ≤ (bodyT e).length + 2 ∧ toksD n e ≤ bodyD e + 1 := by
 unfold toksT toksD
 split
 ·simp; omega
 ·omega
theorem leafT_len (x : Nd) : (leafT x).length ≤ 6 := by
 unfold leafT fieldT
 repeat' split
 all_goals simp
theorem body_len (e : Ex) : (bodyT e).length ≤ 6 * e.size ∧ bodyD e ≤ 2 * e.size := by
 induction e with
 | leaf x => exact ⟨by simp only [bodyT, Ex.size]; exact leafT_len x, by simp [bodyD]⟩
 | one x e ih =>
  simp only [bodyT, bodyD, Ex.size]
  have h1 := toks_len (if x.op = 12 then 7 else 3) e
  have h2 := toks_len 7 e
  have h3 := toks_len 3 e
  have h4 := toks_len (lev x.op) e
  try split
  all_goals (simp only [List.length_cons, List.length_append, List.length_nil]; omega)
 | two x e f ihe ihf =>
  have e1 : bodyT (.two x e f) = toksT (leftL x.op) e ++ tk (sgn x.op) :: toksT (lev x.op + 1) f := rfl
  have e2 : bodyD (.two x e f) = max (toksD (leftL x.op) e) (toksD (lev x.op + 1) f) := rfl
  rw [e1, e2]
  simp only [Ex.size, List.length_cons, List.length_append]
  have h1 := toks_len (leftL x.op) e
  have h2 := toks_len (lev x.op + 1) f
  omega
theorem joinT_len {l : List Tk} (h : ∀ t ∈ l, (spell fmtI t).length ≤ 100) : (joinT fmtI l).length ≤ 101 * l.length := by
 induction l with
 | nil => simp [joinT]
 | cons a l ih =>
  have h1 := h a List.mem_cons_self
  have h2 := ih (fun t ht => h t (List.mem_cons_of_mem _ ht))
  cases l with
  | nil => simp only [joinT, List.length_cons, List.length_nil]; omega
  | cons b l =>
   simp only [joinT, List.length_append, List.length_cons] at *
   omega
theorem tell_sm {t : List Nd} (ht : ∀ x ∈ t, NdB x) {o : Nat} {e : Ex} (h : Sh t o e) (hs : e.size ≤ 10000000) : Sm 10000000000 (tellE fmtI e) := by
 rw [tell_same fmtI e h.ok]
 have h1 := body_len e
 have h2 := joinT_len (fun t ht' => (bodyT_b ht h t ht').len)
 unfold Sm tlOf
 dsimp only
 omega
theorem runW_sm {t : List Nd} (ht : ∀ x ∈ t, NdB x) {e : Ex} (h : Sh t 0 e) (hs : e.size = t.length) (hN : t.length ≤ 10000000) (k : Nat) (hk : k ≤ t.length) (j : Nat) (hj : j < k) :
  ∃ x, (runW fmtI t (t.take k) [])[j]? = some x ∧ Sm 10000000000 x := by
 obtain ⟨o', e', hs', he'⟩ := sub_at h j (Nat.zero_le _) (by omega)
 have h1 := runW_tells fmtI t k hk o' e' hs' (by omega)
 rw [he', Nat.add_sub_cancel] at h1
 exact ⟨_, h1, tell_sm ht hs' (by omega)⟩
end Go.Proofs.YtfglgpbjjpoimaaGreatDoor
/- SaveEncodes: the reference's whole. -/
set_option linter.unusedVariables false
namespace Go.Proofs.YtfglgpbjjpoimaaGreatDoor
open Go.RowKit Sv
theorem info172 : (Tryz.prog.info? 172).map (fun i => (i.zero, i.size, i.bytes)) = some (some (.agg #[.string ⟨#[]⟩, .int .i64 0, .int .i64 0]), 3, 32) := by kernel_rfl
def tlcs (l : List Tl) : List Value := l.flatMap tlc
theorem tlcs_push (l : List Tl) (x : Tl) : tlcs l ++ (#[.string ⟨x.text.toArray⟩, .int .i64 x.toks, .int .i64 x.deep] : Array Value).toList = tlcs (l ++ [x]) := by
 unfold tlcs; rw [List.flatMap_append]; simp [tlc, T]
theorem own_tl {w : World} {base : Nat} {a : Option Addr} {c n : Nat} {ls : List Tl} (h : w.ownsRow base 172 3 (.slice a n c) n (tlcs ls)) (i : Nat) (hi : i < ls.length) :
  ∃ g, a = some ⟨g, 0, none⟩ ∧ w.cell? ⟨g, i * 3, none⟩ = some (.string ⟨ls[i].text.toArray⟩) ∧ w.cell? ⟨g, i * 3 + 1, none⟩ = some (.int .i64 ls[i].toks) ∧ w.cell? ⟨g, i * 3 + 2, none⟩ = some (.int .i64 ls[i].deep) := by
 have hl : (tlcs ls).length = ls.length * 3 := by
  clear h hi
  unfold tlcs
  induction ls with
  | nil => rfl
  | cons x l ih => rw [List.flatMap_cons, List.length_append, ih, List.length_cons]; simp [tlc]; omega
 have hrd : Rd w a (tlcs ls) := ownsRow_rd h
 obtain ⟨b, off, e, hc⟩ := Rd.piece (f := tlc) (n := 3) (fun _ => rfl) hrd i hi (by omega)
 rcases h.2 with ⟨h1, h2⟩ | ⟨g, cap, cur, h1, h2, h3, h4, h5, h6, h7⟩
 ·have := h.1; omega
 ·cases h1
  cases e
  refine ⟨b, rfl, ?_, ?_, ?_⟩
  ·have := hc 0 (by omega); simpa [tlc, T] using this
  ·have := hc 1 (by omega); simpa [tlc, T] using this
  ·have := hc 2 (by omega); simpa [tlc, T] using this
theorem oldc3 {w : World} {ad : Addr} {v : Value} (o1 o2 o3 : Obj) (h : w.cell? ad = some v) : (((w.alloc o1).alloc o2).alloc o3).cell? ad = some v := by
 have hb : Below w.heap.size w (((w.alloc o1).alloc o2).alloc o3) := bal (bal (bal (Below.refl _ _) (Nat.le_refl _) _) (Nat.le_refl _) _) (Nat.le_refl _) _
 exact (hb.cell (World.block_lt_of_cell? w _ h)).trans h
theorem sm_le {x : Tl} (h : Sm 10000000000 x) : Sm 100000000000 x := ⟨by have := h.1; omega, by have := h.2.1; omega, by have := h.2.2; omega⟩
theorem sm_no : Sm 100000000000 noT := ⟨by simp [noT], by simp [noT], by simp [noT]⟩
set_option maxHeartbeats 4000000 in
set_option maxRecDepth 20000 in
theorem rwhole_any (a : Option Addr) (c n : Nat) (t : List Nd) (w : World) (hn : t.length = n) (hN : n ≤ 10000000) (hp : 1 ≤ n) (hl : Ld w) (h : RdN w a t) (htree : treeB (nameB kwsL) t = true) (hnd : ∀ x ∈ t, NdB x) :
  Calls Tryz.prog 88 #[.slice a n c] w fun e w' => e = .returned (tlv (wholeR fmtI t)) ∧ Below w.heap.size w w' := by
 obtain ⟨e0, hsh, hsz⟩ := tree_shape htree
 have HSM := Lib.hid (fun k hk j hj => runW_sm hnd hsh hsz (by omega) k hk j hj)
 have HNA := Lib.hid (show ∀ k (hk : k < t.length), (1 ≤ t[k].op ∧ t[k].op ≤ 26) ∧ ((t[k].a = -1 ∧ t[k].b = -1) ∨ (∃ i : Nat, i < k ∧ t[k].a = i ∧ t[k].b = -1) ∨ (∃ i j : Nat, i < k ∧ j < k ∧ t[k].a = i ∧ t[k].b = j)) from fun k hk => by
  obtain ⟨o', e', h1, h2⟩ := sub_at hsh k (Nat.zero_le _) (by omega)
  exact node_at h1 h2 hk)
 have HOPS := Lib.hid (show ∀ k (hk : k < t.length), t[k].op ≤ 26 from fun k hk => ((HNA.out k hk).1).2)
 have HNDF := Lib.hid hnd
 obtain ⟨i0, hi9, hz9, hs9, hy9⟩ := info_parts info172
 have hi0 := Lib.hid hi9
 have hz0 := Lib.hid hz9
 have hs0 := Lib.hid hs9
 have hy0 := Lib.hid hy9
 obtain ⟨w0, hw0⟩ : ∃ w0, w0 = w.alloc (.cells #[.string ⟨#[]⟩, .int .i64 0, .int .i64 0] 172) := ⟨_, rfl⟩
 have hb0 : Below w.heap.size w w0 := by rw [hw0]; exact bal (Below.refl _ _) (Nat.le_refl _) _
 have hE0 : Blk w0 w.heap.size 172 [.string ⟨#[]⟩, .int .i64 0, .int .i64 0] := by rw [hw0]; exact Blk.new w _ 172
 have HR := Lib.hid (h.below hb0)
 have HL := Lib.hid (hl.below hb0)
 have HN := Lib.hid hn
 have HZ := Lib.hid (show ∀ w', Below w0.heap.size w0 w' → Res w' w.heap.size from fun w' hb => res_of (hE0.below hb))
 have HZB := Lib.hid (show ∀ w' v0 v1 v2, Below w0.heap.size w0 w' → Below w.heap.size w (((w'.setCell ⟨w.heap.size, 0, none⟩ v0).setCell ⟨w.heap.size, 1, none⟩ v1).setCell ⟨w.heap.size, 2, none⟩ v2) from
  fun w' v0 v1 v2 hb => set3_below (hE0.below hb) (Nat.le_refl _) (hb0.trans (hb.mono hb0.size)) v0 v1 v2)
 clear hi9 hz9 hs9 hy9 hl h hnd htree hsh hsz hE0 hb0
 go_enter Tryz.func88, Tryz.ntmps88
 go_wp2_with fail
 rw [← hw0]
 clear hw0
 go_loopw [3, 4] (fun v i wr => ∃ (k : Nat) (a' : Option Addr) (c' : Nat), k ≤ n ∧ i = .int .i64 (k : Int) ∧ v = .slice a' k c' ∧ wr.ownsRow w0.heap.size 172 3 (.slice a' k c') k (tlcs (runW fmtI t (t.take k) [])) ∧ Below w0.heap.size w0 wr) (fun _ i _ => n - (intOf i).toNat)
 case atStart => exact ⟨0, none, 0, Nat.zero_le _, rfl, rfl, by simpa [tlcs, runW] using World.ownsRow_nil w0 w0.heap.size 172 3, Below.refl _ _⟩
 case round =>
  obtain ⟨k, a', c', hk, rfl, rfl, hown, hbw⟩ := hrel
  have HBW := Lib.hid hbw
  have HOWN := Lib.hid hown
  have HGS := Lib.hid (show w0.heap.size ≤ w0.heap.size from Nat.le_refl _)
  have HGS0 := Lib.hid (show w0.heap.size ≤ w0.heap.size from Nat.le_refl _)
  have hlenR : (runW fmtI t (t.take k) []).length = k := by rw [runW_len, List.length_nil, List.length_take]; omega
  have HLEN := Lib.hid hlenR
  by_cases hlt : k < n
  ·have hkl : k < t.length := by rw [hn]; exact hlt
   obtain ⟨b, off, rfl, e0, e1, e2, e3, e4, e5⟩ := (HR.out.below hbw).at k hkl
   have HRW := Lib.hid (HR.out.below hbw)
   have hlt' : (k : Int) < n := by omega
   have hk0 : (0 : Int) ≤ k := by omega
   have hst : runW fmtI t (t.take (k + 1)) [] = runW fmtI t (t.take k) [] ++ [stepW fmtI t (runW fmtI t (t.take k) []) t[k]] := by
    rw [take_snoc t k hkl, runW_snoc]
   obtain ⟨⟨hop1, hop2⟩, hab⟩ := HNA.out k hkl
   have hnd := HNDF.out _ (List.getElem_mem hkl)
   obtain ⟨xx, hx⟩ : ∃ x, x = t[k] := ⟨_, rfl⟩
   rw [← hx] at e0 e1 e2 e3 e4 e5 hst hab hop1 hop2 hnd
   obtain ⟨op, nn, var, attr, xa, xb⟩ := xx
   dsimp only at e0 e1 e2 e3 e4 e5 hab hop1 hop2
   rw [T] at e2 e3
   have HME := Lib.hid (meas_lt hlt)
   have HKS := Lib.hid (show k + 1 ≤ n from hlt)
   have HKL := Lib.hid hkl
   clear hown hbw hx hlenR
   rcases hab with ⟨rfl, rfl⟩ | ⟨i, hik, rfl, rfl⟩ | ⟨i, j, hik, hjk, rfl, rfl⟩
   ·have HND := Lib.hid hnd
    have HSTEP := Lib.hid hst
    clear hst hnd
    have HBC := Lib.hid (show Below w0.heap.size w0 (((wr.alloc (.cells #[.int .i64 op, .int .i64 nn, .string ⟨var.toArray⟩, .string ⟨attr.toArray⟩, .int .i64 (-1), .int .i64 (-1)] 102)).alloc (.cells #[.string ⟨#[]⟩, .int .i64 0, .int .i64 0] 172)).alloc (.cells #[.string ⟨#[]⟩, .int .i64 0, .int .i64 0] 172)) from bal (bal (bal HBW.out HGS.out _) HGS.out _) HGS.out _)
    have HOC := Lib.hid (show ((((wr.alloc (.cells #[.int .i64 op, .int .i64 nn, .string ⟨var.toArray⟩, .string ⟨attr.toArray⟩, .int .i64 (-1), .int .i64 (-1)] 102)).alloc (.cells #[.string ⟨#[]⟩, .int .i64 0, .int .i64 0] 172)).alloc (.cells #[.string ⟨#[]⟩, .int .i64 0, .int .i64 0] 172))).ownsRow w0.heap.size 172 3 (.slice a' k c') k (tlcs (runW fmtI t (t.take k) [])) from ((HOWN.out.alloc _).alloc _).alloc _)
    obtain ⟨R, hR⟩ : ∃ R, R = toldR fmtI ⟨op, nn, var, attr, (-1), (-1)⟩ noT 1 noT 1 := ⟨_, rfl⟩
    have HRS := Lib.hid (show runW fmtI t (t.take (k + 1)) [] = runW fmtI t (t.take k) [] ++ [R] by rw [HSTEP.out, hR]; simp [stepW])
    have hTC := rtold_any ⟨op, nn, var, attr, (-1), (-1)⟩ noT noT 1 1 (by omega) (by omega) _ (HL.out.below HBC.out) HND.out ⟨hop1, hop2⟩ (by first | exact sm_le HX.out | exact sm_no) (by first | exact sm_le HY.out | exact sm_no)
    rw [← hR] at hTC
    simp only [tlv, tlc, T, ndc, noT] at hTC
    have hTC := Lib.hid hTC
    clear hR
    go_wp2_with fail
    refine (hTC.out).mono ?_
    rintro e w4 ⟨rfl, hb4⟩
    have HB4 := Lib.hid (HBC.out.trans (hb4.mono HBC.out.size))
    have HO4 := Lib.hid (ownsRow_below HOC.out hb4)
    have hbs := HB4.out.size
    have hkN : k + 1 ≤ 10000000 := by have := HKS.out; omega
    clear hb4 hTC
    have how := (HO4.out.alloc (.cells #[.string ⟨R.text.toArray⟩, .int .i64 R.toks, .int .i64 R.deep] 172)).alloc (.cells #[.string ⟨R.text.toArray⟩, .int .i64 R.toks, .int .i64 R.deep] 172)
    have hbs2 : w0.heap.size ≤ ((w4.alloc (.cells #[.string ⟨R.text.toArray⟩, .int .i64 R.toks, .int .i64 R.deep] 172)).alloc (.cells #[.string ⟨R.text.toArray⟩, .int .i64 R.toks, .int .i64 R.deep] 172)).heap.size := Nat.le_trans hbs (bal (bal (Below.refl w4.heap.size w4) (Nat.le_refl _) _) (Nat.le_refl _) _).size
    have hrd2 : Rd ((w4.alloc (.cells #[.string ⟨R.text.toArray⟩, .int .i64 R.toks, .int .i64 R.deep] 172)).alloc (.cells #[.string ⟨R.text.toArray⟩, .int .i64 R.toks, .int .i64 R.deep] 172)) (some ⟨w4.heap.size + 1, 0, none⟩) [.string ⟨R.text.toArray⟩, .int .i64 R.toks, .int .i64 R.deep] := by
     have := rd_new (w4.alloc (.cells #[.string ⟨R.text.toArray⟩, .int .i64 R.toks, .int .i64 R.deep] 172)) #[.string ⟨R.text.toArray⟩, .int .i64 R.toks, .int .i64 R.deep] 172
     simpa using this
    have HB5 := Lib.hid (show Below w0.heap.size w0 ((w4.alloc (.cells #[.string ⟨R.text.toArray⟩, .int .i64 R.toks, .int .i64 R.deep] 172)).alloc (.cells #[.string ⟨R.text.toArray⟩, .int .i64 R.toks, .int .i64 R.deep] 172)) from bal (bal HB4.out HGS0.out _) HGS0.out _)
    go_wp2_with (first | (at_builtin; refine wpList_append_rd ((w4.alloc (.cells #[.string ⟨R.text.toArray⟩, .int .i64 R.toks, .int .i64 R.deep] 172)).alloc (.cells #[.string ⟨R.text.toArray⟩, .int .i64 R.toks, .int .i64 R.deep] 172)) rfl _ _ 208 rfl w0.heap.size 172 i0 _ 3 32 Tryz.underlying208 hi0.out hz0.out hs0.out hy0.out rfl (by decide) (.slice a' k c') k (tlcs (runW fmtI t (t.take k) [])) rfl how (some ⟨w4.heap.size + 1, 0, none⟩) 1 1 [.string ⟨R.text.toArray⟩, .int .i64 R.toks, .int .i64 R.deep] rfl rfl hrd2 (by intro z hz; simp at hz; rcases hz with rfl | rfl | rfl <;> rfl) (by unfold maxLen; omega) (by omega) hbs2 ?_; intro a4 c4 w5 ho5 hb5 hm5) | fail)
    go_roundw
    case rel => exact ⟨k + 1, a4, c4, HKS.out, by go_num, rfl, by
     rw [HRS.out, ← tlcs_push]
     exact ho5, HB5.out.trans hb5⟩
    case measure => exact HME.out
   ·have HND := Lib.hid hnd
    have HSTEP := Lib.hid hst
    have hil : i < t.length := by have := HKL.out; omega
    have hir : i < (runW fmtI t (t.take k) []).length := by rw [HLEN.out]; omega
    obtain ⟨gi, hgi, ri0, ri1, ri2⟩ := own_tl HOWN.out i hir
    obtain ⟨bi, offi, hbi, pi0, _⟩ := HRW.out.at i hil
    cases hbi
    obtain ⟨x, hx, hsx⟩ := HSM.out k (by have := HKL.out; omega) i (by omega)
    have hgei : (runW fmtI t (t.take k) [])[i] = x := by
     rw [List.getElem?_eq_getElem hir, Option.some.injEq] at hx
     exact hx
    have hoi := HOPS.out i hil
    obtain ⟨oi, hooi⟩ : ∃ o, o = t[i].op := ⟨_, rfl⟩
    rw [← hooi] at pi0 hoi
    rw [hgei] at ri0 ri1 ri2
    have HX := Lib.hid hsx
    have HXG := Lib.hid (show (runW fmtI t (t.take k) [])[i]?.getD noT = x by rw [List.getElem?_eq_getElem hir, hgei]; rfl)
    have HXO := Lib.hid (show (t[i]?.getD ⟨0, 0, [], [], 0, 0⟩).op = oi by rw [List.getElem?_eq_getElem hil, hooi]; rfl)
    have si0 := oldc3 (.cells #[.int .i64 op, .int .i64 nn, .string ⟨var.toArray⟩, .string ⟨attr.toArray⟩, .int .i64 (i : Int), .int .i64 (-1)] 102) (.cells #[.string ⟨#[]⟩, .int .i64 0, .int .i64 0] 172) (.cells #[.string ⟨#[]⟩, .int .i64 0, .int .i64 0] 172) ri0
    have si1 := oldc3 (.cells #[.int .i64 op, .int .i64 nn, .string ⟨var.toArray⟩, .string ⟨attr.toArray⟩, .int .i64 (i : Int), .int .i64 (-1)] 102) (.cells #[.string ⟨#[]⟩, .int .i64 0, .int .i64 0] 172) (.cells #[.string ⟨#[]⟩, .int .i64 0, .int .i64 0] 172) ri1
    have si2 := oldc3 (.cells #[.int .i64 op, .int .i64 nn, .string ⟨var.toArray⟩, .string ⟨attr.toArray⟩, .int .i64 (i : Int), .int .i64 (-1)] 102) (.cells #[.string ⟨#[]⟩, .int .i64 0, .int .i64 0] 172) (.cells #[.string ⟨#[]⟩, .int .i64 0, .int .i64 0] 172) ri2
    have si3 := oldc3 (.cells #[.int .i64 op, .int .i64 nn, .string ⟨var.toArray⟩, .string ⟨attr.toArray⟩, .int .i64 (i : Int), .int .i64 (-1)] 102) (.cells #[.string ⟨x.text.toArray⟩, .int .i64 x.toks, .int .i64 x.deep] 172) (.cells #[.string ⟨#[]⟩, .int .i64 0, .int .i64 0] 172) pi0
    have hii0 : (0 : Int) ≤ i := by omega
    have hiik : (i : Int) < k := by omega
    have hiin : (i : Int) < n := by omega
    clear ri0 ri1 ri2 pi0 hgei hooi hx hsx
    subst hgi
    clear hst hnd hik
    have HBC := Lib.hid (show Below w0.heap.size w0 (((wr.alloc (.cells #[.int .i64 op, .int .i64 nn, .string ⟨var.toArray⟩, .string ⟨attr.toArray⟩, .int .i64 (i : Int), .int .i64 (-1)] 102)).alloc (.cells #[.string ⟨x.text.toArray⟩, .int .i64 x.toks, .int .i64 x.deep] 172)).alloc (.cells #[.string ⟨#[]⟩, .int .i64 0, .int .i64 0] 172)) from bal (bal (bal HBW.out HGS.out _) HGS.out _) HGS.out _)
    have HOC := Lib.hid (show ((((wr.alloc (.cells #[.int .i64 op, .int .i64 nn, .string ⟨var.toArray⟩, .string ⟨attr.toArray⟩, .int .i64 (i : Int), .int .i64 (-1)] 102)).alloc (.cells #[.string ⟨x.text.toArray⟩, .int .i64 x.toks, .int .i64 x.deep] 172)).alloc (.cells #[.string ⟨#[]⟩, .int .i64 0, .int .i64 0] 172))).ownsRow w0.heap.size 172 3 (.slice (some ⟨gi, 0, none⟩) k c') k (tlcs (runW fmtI t (t.take k) [])) from ((HOWN.out.alloc _).alloc _).alloc _)
    obtain ⟨R, hR⟩ : ∃ R, R = toldR fmtI ⟨op, nn, var, attr, (i : Int), (-1)⟩ x oi noT 1 := ⟨_, rfl⟩
    have HRS := Lib.hid (show runW fmtI t (t.take (k + 1)) [] = runW fmtI t (t.take k) [] ++ [R] by rw [HSTEP.out, hR]; simp [stepW, HXG.out, HXO.out])
    have hTC := rtold_any ⟨op, nn, var, attr, (i : Int), (-1)⟩ x noT oi 1 (by omega) (by omega) _ (HL.out.below HBC.out) HND.out ⟨hop1, hop2⟩ (by first | exact sm_le HX.out | exact sm_no) (by first | exact sm_le HY.out | exact sm_no)
    rw [← hR] at hTC
    simp only [tlv, tlc, T, ndc, noT] at hTC
    have hTC := Lib.hid hTC
    clear hR
    go_wp2_with fail
    refine (hTC.out).mono ?_
    rintro e w4 ⟨rfl, hb4⟩
    have HB4 := Lib.hid (HBC.out.trans (hb4.mono HBC.out.size))
    have HO4 := Lib.hid (ownsRow_below HOC.out hb4)
    have hbs := HB4.out.size
    have hkN : k + 1 ≤ 10000000 := by have := HKS.out; omega
    clear hb4 hTC
    have how := (HO4.out.alloc (.cells #[.string ⟨R.text.toArray⟩, .int .i64 R.toks, .int .i64 R.deep] 172)).alloc (.cells #[.string ⟨R.text.toArray⟩, .int .i64 R.toks, .int .i64 R.deep] 172)
    have hbs2 : w0.heap.size ≤ ((w4.alloc (.cells #[.string ⟨R.text.toArray⟩, .int .i64 R.toks, .int .i64 R.deep] 172)).alloc (.cells #[.string ⟨R.text.toArray⟩, .int .i64 R.toks, .int .i64 R.deep] 172)).heap.size := Nat.le_trans hbs (bal (bal (Below.refl w4.heap.size w4) (Nat.le_refl _) _) (Nat.le_refl _) _).size
    have hrd2 : Rd ((w4.alloc (.cells #[.string ⟨R.text.toArray⟩, .int .i64 R.toks, .int .i64 R.deep] 172)).alloc (.cells #[.string ⟨R.text.toArray⟩, .int .i64 R.toks, .int .i64 R.deep] 172)) (some ⟨w4.heap.size + 1, 0, none⟩) [.string ⟨R.text.toArray⟩, .int .i64 R.toks, .int .i64 R.deep] := by
     have := rd_new (w4.alloc (.cells #[.string ⟨R.text.toArray⟩, .int .i64 R.toks, .int .i64 R.deep] 172)) #[.string ⟨R.text.toArray⟩, .int .i64 R.toks, .int .i64 R.deep] 172
     simpa using this
    have HB5 := Lib.hid (show Below w0.heap.size w0 ((w4.alloc (.cells #[.string ⟨R.text.toArray⟩, .int .i64 R.toks, .int .i64 R.deep] 172)).alloc (.cells #[.string ⟨R.text.toArray⟩, .int .i64 R.toks, .int .i64 R.deep] 172)) from bal (bal HB4.out HGS0.out _) HGS0.out _)
    go_wp2_with (first | (at_builtin; refine wpList_append_rd ((w4.alloc (.cells #[.string ⟨R.text.toArray⟩, .int .i64 R.toks, .int .i64 R.deep] 172)).alloc (.cells #[.string ⟨R.text.toArray⟩, .int .i64 R.toks, .int .i64 R.deep] 172)) rfl _ _ 208 rfl w0.heap.size 172 i0 _ 3 32 Tryz.underlying208 hi0.out hz0.out hs0.out hy0.out rfl (by decide) (.slice (some ⟨gi, 0, none⟩) k c') k (tlcs (runW fmtI t (t.take k) [])) rfl how (some ⟨w4.heap.size + 1, 0, none⟩) 1 1 [.string ⟨R.text.toArray⟩, .int .i64 R.toks, .int .i64 R.deep] rfl rfl hrd2 (by intro z hz; simp at hz; rcases hz with rfl | rfl | rfl <;> rfl) (by unfold maxLen; omega) (by omega) hbs2 ?_; intro a4 c4 w5 ho5 hb5 hm5) | fail)
    go_roundw
    case rel => exact ⟨k + 1, a4, c4, HKS.out, by go_num, rfl, by
     rw [HRS.out, ← tlcs_push]
     exact ho5, HB5.out.trans hb5⟩
    case measure => exact HME.out
   ·have HND := Lib.hid hnd
    have HSTEP := Lib.hid hst
    have hil : i < t.length := by have := HKL.out; omega
    have hir : i < (runW fmtI t (t.take k) []).length := by rw [HLEN.out]; omega
    obtain ⟨gi, hgi, ri0, ri1, ri2⟩ := own_tl HOWN.out i hir
    obtain ⟨bi, offi, hbi, pi0, _⟩ := HRW.out.at i hil
    cases hbi
    obtain ⟨x, hx, hsx⟩ := HSM.out k (by have := HKL.out; omega) i (by omega)
    have hgei : (runW fmtI t (t.take k) [])[i] = x := by
     rw [List.getElem?_eq_getElem hir, Option.some.injEq] at hx
     exact hx
    have hoi := HOPS.out i hil
    obtain ⟨oi, hooi⟩ : ∃ o, o = t[i].op := ⟨_, rfl⟩
    rw [← hooi] at pi0 hoi
    rw [hgei] at ri0 ri1 ri2
    have HX := Lib.hid hsx
    have HXG := Lib.hid (show (runW fmtI t (t.take k) [])[i]?.getD noT = x by rw [List.getElem?_eq_getElem hir, hgei]; rfl)
    have HXO := Lib.hid (show (t[i]?.getD ⟨0, 0, [], [], 0, 0⟩).op = oi by rw [List.getElem?_eq_getElem hil, hooi]; rfl)
    have si0 := oldc3 (.cells #[.int .i64 op, .int .i64 nn, .string ⟨var.toArray⟩, .string ⟨attr.toArray⟩, .int .i64 (i : Int), .int .i64 (j : Int)] 102) (.cells #[.string ⟨#[]⟩, .int .i64 0, .int .i64 0] 172) (.cells #[.string ⟨#[]⟩, .int .i64 0, .int .i64 0] 172) ri0
    have si1 := oldc3 (.cells #[.int .i64 op, .int .i64 nn, .string ⟨var.toArray⟩, .string ⟨attr.toArray⟩, .int .i64 (i : Int), .int .i64 (j : Int)] 102) (.cells #[.string ⟨#[]⟩, .int .i64 0, .int .i64 0] 172) (.cells #[.string ⟨#[]⟩, .int .i64 0, .int .i64 0] 172) ri1
    have si2 := oldc3 (.cells #[.int .i64 op, .int .i64 nn, .string ⟨var.toArray⟩, .string ⟨attr.toArray⟩, .int .i64 (i : Int), .int .i64 (j : Int)] 102) (.cells #[.string ⟨#[]⟩, .int .i64 0, .int .i64 0] 172) (.cells #[.string ⟨#[]⟩, .int .i64 0, .int .i64 0] 172) ri2
    have si3 := oldc3 (.cells #[.int .i64 op, .int .i64 nn, .string ⟨var.toArray⟩, .string ⟨attr.toArray⟩, .int .i64 (i : Int), .int .i64 (j : Int)] 102) (.cells #[.string ⟨x.text.toArray⟩, .int .i64 x.toks, .int .i64 x.deep] 172) (.cells #[.string ⟨#[]⟩, .int .i64 0, .int .i64 0] 172) pi0
    have hii0 : (0 : Int) ≤ i := by omega
    have hiik : (i : Int) < k := by omega
    have hiin : (i : Int) < n := by omega
    clear ri0 ri1 ri2 pi0 hgei hooi hx hsx
    subst hgi
    have hjl : j < t.length := by have := HKL.out; omega
    have hjr : j < (runW fmtI t (t.take k) []).length := by rw [HLEN.out]; omega
    obtain ⟨gj, hgj, rj0, rj1, rj2⟩ := own_tl HOWN.out j hjr
    obtain ⟨bj, offj, hbj, pj0, _⟩ := HRW.out.at j hjl
    cases hbj
    obtain ⟨y, hy, hsy⟩ := HSM.out k (by have := HKL.out; omega) j (by omega)
    have hgej : (runW fmtI t (t.take k) [])[j] = y := by
     rw [List.getElem?_eq_getElem hjr, Option.some.injEq] at hy
     exact hy
    have hoj := HOPS.out j hjl
    obtain ⟨oj, hooj⟩ : ∃ o, o = t[j].op := ⟨_, rfl⟩
    rw [← hooj] at pj0 hoj
    rw [hgej] at rj0 rj1 rj2
    have HY := Lib.hid hsy
    have HYG := Lib.hid (show (runW fmtI t (t.take k) [])[j]?.getD noT = y by rw [List.getElem?_eq_getElem hjr, hgej]; rfl)
    have HYO := Lib.hid (show (t[j]?.getD ⟨0, 0, [], [], 0, 0⟩).op = oj by rw [List.getElem?_eq_getElem hjl, hooj]; rfl)
    have sj0 := oldc3 (.cells #[.int .i64 op, .int .i64 nn, .string ⟨var.toArray⟩, .string ⟨attr.toArray⟩, .int .i64 (i : Int), .int .i64 (j : Int)] 102) (.cells #[.string ⟨x.text.toArray⟩, .int .i64 x.toks, .int .i64 x.deep] 172) (.cells #[.string ⟨#[]⟩, .int .i64 0, .int .i64 0] 172) rj0
    have sj1 := oldc3 (.cells #[.int .i64 op, .int .i64 nn, .string ⟨var.toArray⟩, .string ⟨attr.toArray⟩, .int .i64 (i : Int), .int .i64 (j : Int)] 102) (.cells #[.string ⟨x.text.toArray⟩, .int .i64 x.toks, .int .i64 x.deep] 172) (.cells #[.string ⟨#[]⟩, .int .i64 0, .int .i64 0] 172) rj1
    have sj2 := oldc3 (.cells #[.int .i64 op, .int .i64 nn, .string ⟨var.toArray⟩, .string ⟨attr.toArray⟩, .int .i64 (i : Int), .int .i64 (j : Int)] 102) (.cells #[.string ⟨x.text.toArray⟩, .int .i64 x.toks, .int .i64 x.deep] 172) (.cells #[.string ⟨#[]⟩, .int .i64 0, .int .i64 0] 172) rj2
    have sj3 := oldc3 (.cells #[.int .i64 op, .int .i64 nn, .string ⟨var.toArray⟩, .string ⟨attr.toArray⟩, .int .i64 (i : Int), .int .i64 (j : Int)] 102) (.cells #[.string ⟨x.text.toArray⟩, .int .i64 x.toks, .int .i64 x.deep] 172) (.cells #[.string ⟨y.text.toArray⟩, .int .i64 y.toks, .int .i64 y.deep] 172) pj0
    have hij0 : (0 : Int) ≤ j := by omega
    have hijk : (j : Int) < k := by omega
    have hijn : (j : Int) < n := by omega
    clear rj0 rj1 rj2 pj0 hgej hooj hy hsy
    cases hgj
    clear hst hnd hik hjk
    have HBC := Lib.hid (show Below w0.heap.size w0 (((wr.alloc (.cells #[.int .i64 op, .int .i64 nn, .string ⟨var.toArray⟩, .string ⟨attr.toArray⟩, .int .i64 (i : Int), .int .i64 (j : Int)] 102)).alloc (.cells #[.string ⟨x.text.toArray⟩, .int .i64 x.toks, .int .i64 x.deep] 172)).alloc (.cells #[.string ⟨y.text.toArray⟩, .int .i64 y.toks, .int .i64 y.deep] 172)) from bal (bal (bal HBW.out HGS.out _) HGS.out _) HGS.out _)
    have HOC := Lib.hid (show ((((wr.alloc (.cells #[.int .i64 op, .int .i64 nn, .string ⟨var.toArray⟩, .string ⟨attr.toArray⟩, .int .i64 (i : Int), .int .i64 (j : Int)] 102)).alloc (.cells #[.string ⟨x.text.toArray⟩, .int .i64 x.toks, .int .i64 x.deep] 172)).alloc (.cells #[.string ⟨y.text.toArray⟩, .int .i64 y.toks, .int .i64 y.deep] 172))).ownsRow w0.heap.size 172 3 (.slice (some ⟨gi, 0, none⟩) k c') k (tlcs (runW fmtI t (t.take k) [])) from ((HOWN.out.alloc _).alloc _).alloc _)
    obtain ⟨R, hR⟩ : ∃ R, R = toldR fmtI ⟨op, nn, var, attr, (i : Int), (j : Int)⟩ x oi y oj := ⟨_, rfl⟩
    have HRS := Lib.hid (show runW fmtI t (t.take (k + 1)) [] = runW fmtI t (t.take k) [] ++ [R] by rw [HSTEP.out, hR]; simp [stepW, HXG.out, HXO.out, HYG.out, HYO.out])
    have hTC := rtold_any ⟨op, nn, var, attr, (i : Int), (j : Int)⟩ x y oi oj (by omega) (by omega) _ (HL.out.below HBC.out) HND.out ⟨hop1, hop2⟩ (by first | exact sm_le HX.out | exact sm_no) (by first | exact sm_le HY.out | exact sm_no)
    rw [← hR] at hTC
    simp only [tlv, tlc, T, ndc] at hTC
    have hTC := Lib.hid hTC
    clear hR
    go_wp2_with fail
    refine (hTC.out).mono ?_
    rintro e w4 ⟨rfl, hb4⟩
    have HB4 := Lib.hid (HBC.out.trans (hb4.mono HBC.out.size))
    have HO4 := Lib.hid (ownsRow_below HOC.out hb4)
    have hbs := HB4.out.size
    have hkN : k + 1 ≤ 10000000 := by have := HKS.out; omega
    clear hb4 hTC
    have how := (HO4.out.alloc (.cells #[.string ⟨R.text.toArray⟩, .int .i64 R.toks, .int .i64 R.deep] 172)).alloc (.cells #[.string ⟨R.text.toArray⟩, .int .i64 R.toks, .int .i64 R.deep] 172)
    have hbs2 : w0.heap.size ≤ ((w4.alloc (.cells #[.string ⟨R.text.toArray⟩, .int .i64 R.toks, .int .i64 R.deep] 172)).alloc (.cells #[.string ⟨R.text.toArray⟩, .int .i64 R.toks, .int .i64 R.deep] 172)).heap.size := Nat.le_trans hbs (bal (bal (Below.refl w4.heap.size w4) (Nat.le_refl _) _) (Nat.le_refl _) _).size
    have hrd2 : Rd ((w4.alloc (.cells #[.string ⟨R.text.toArray⟩, .int .i64 R.toks, .int .i64 R.deep] 172)).alloc (.cells #[.string ⟨R.text.toArray⟩, .int .i64 R.toks, .int .i64 R.deep] 172)) (some ⟨w4.heap.size + 1, 0, none⟩) [.string ⟨R.text.toArray⟩, .int .i64 R.toks, .int .i64 R.deep] := by
     have := rd_new (w4.alloc (.cells #[.string ⟨R.text.toArray⟩, .int .i64 R.toks, .int .i64 R.deep] 172)) #[.string ⟨R.text.toArray⟩, .int .i64 R.toks, .int .i64 R.deep] 172
     simpa using this
    have HB5 := Lib.hid (show Below w0.heap.size w0 ((w4.alloc (.cells #[.string ⟨R.text.toArray⟩, .int .i64 R.toks, .int .i64 R.deep] 172)).alloc (.cells #[.string ⟨R.text.toArray⟩, .int .i64 R.toks, .int .i64 R.deep] 172)) from bal (bal HB4.out HGS0.out _) HGS0.out _)
    go_wp2_with (first | (at_builtin; refine wpList_append_rd ((w4.alloc (.cells #[.string ⟨R.text.toArray⟩, .int .i64 R.toks, .int .i64 R.deep] 172)).alloc (.cells #[.string ⟨R.text.toArray⟩, .int .i64 R.toks, .int .i64 R.deep] 172)) rfl _ _ 208 rfl w0.heap.size 172 i0 _ 3 32 Tryz.underlying208 hi0.out hz0.out hs0.out hy0.out rfl (by decide) (.slice (some ⟨gi, 0, none⟩) k c') k (tlcs (runW fmtI t (t.take k) [])) rfl how (some ⟨w4.heap.size + 1, 0, none⟩) 1 1 [.string ⟨R.text.toArray⟩, .int .i64 R.toks, .int .i64 R.deep] rfl rfl hrd2 (by intro z hz; simp at hz; rcases hz with rfl | rfl | rfl <;> rfl) (by unfold maxLen; omega) (by omega) hbs2 ?_; intro a4 c4 w5 ho5 hb5 hm5) | fail)
    go_roundw
    case rel => exact ⟨k + 1, a4, c4, HKS.out, by go_num, rfl, by
     rw [HRS.out, ← tlcs_push]
     exact ho5, HB5.out.trans hb5⟩
    case measure => exact HME.out
  ·have hke : k = n := by omega
   subst hke
   have hk' : ¬ (k : Int) < k := by omega
   obtain ⟨m, rfl⟩ : ∃ m, k = m + 1 := ⟨k - 1, by omega⟩
   rw [List.take_of_length_le (by rw [hn]; exact Nat.le_refl _)] at hown hlenR
   have hmr : m < (runW fmtI t t []).length := by rw [hlenR]; omega
   obtain ⟨g, hg, r0, r1, r2⟩ := own_tl hown m hmr
   subst hg
   have hwr : wholeR fmtI t = (runW fmtI t t [])[m] := by
    unfold wholeR
    rw [hn, Nat.add_sub_cancel, List.getD_eq_getElem?_getD, List.getElem?_eq_getElem hmr]; rfl
   obtain ⟨x, hx⟩ : ∃ x, x = (runW fmtI t t [])[m] := ⟨_, rfl⟩
   rw [← hx] at r0 r1 r2 hwr
   have HWR := Lib.hid hwr
   have hm0 : (0 : Int) ≤ m := by omega
   have hm1 : (m : Int) < m + 1 := by omega
   obtain ⟨z0, z1, z2, z3, z4, z5, z6, z7, z8⟩ := HZ.out _ hbw
   have HQ0 := Lib.hid z6
   have HQ1 := Lib.hid z7
   have HQ2 := Lib.hid z8
   clear z6 z7 z8 hx hwr hmr hlenR hown hbw
   go_wp2_with fail
   have q0 := HQ0.out (.string ⟨x.text.toArray⟩)
   have q1 := HQ1.out (.string ⟨x.text.toArray⟩) (.int .i64 x.toks)
   have q2 := HQ2.out (.string ⟨x.text.toArray⟩) (.int .i64 x.toks) (.int .i64 x.deep)
   refine bodyPost_ret (by simp [results, Tryz.results88, go_sem, q0, q1, q2]; try rfl) rfl ?_
   exact ⟨by rw [HWR.out]; rfl, HZB.out _ _ _ _ HBW.out⟩
end Go.Proofs.YtfglgpbjjpoimaaGreatDoor
/- SaveEncodes: the reference's query under way. -/
set_option linter.unusedVariables false
namespace Go.Proofs.YtfglgpbjjpoimaaGreatDoor
open Go.RowKit Sv
def SmK (k : Nat) (x : Tl) : Prop := Sm (k * 10000000000000) x
theorem smK_behind {k : Nat} {x y : Tl} (hx : SmK k x) (hy : Sm 1000000000000 y) : SmK (k + 1) (behindR x y) := by
 obtain ⟨h1, h2, h3⟩ := hx
 obtain ⟨g1, g2, g3⟩ := hy
 refine ⟨?_, ?_, ?_⟩ <;> simp only [behindR, List.length_append, List.length_cons, List.length_nil] <;> omega
theorem smK_le {k m : Nat} {x : Tl} (h : SmK k x) (hkm : k ≤ m) : SmK m x := ⟨Nat.le_trans h.1 (Nat.mul_le_mul_right _ hkm), Nat.le_trans h.2.1 (Nat.mul_le_mul_right _ hkm), Nat.le_trans h.2.2 (Nat.mul_le_mul_right _ hkm)⟩
theorem sm_mono {m m' : Nat} {x : Tl} (h : Sm m x) (hm : m ≤ m') : Sm m' x := ⟨Nat.le_trans h.1 hm, Nat.le_trans h.2.1 hm, Nat.le_trans h.2.2 hm⟩
theorem smK_ok {k : Nat} {x : Tl} (h : SmK k x) (hk : k ≤ 9000) : Sm 100000000000000000 x := sm_mono h (by omega)
theorem sm_up {x : Tl} (h : Sm 1000000000000 x) : Sm 100000000000000000 x := sm_mono h (by omega)
theorem smK_lit {s : Str} {t : Nat} (hs : s.length ≤ 1000) (ht : t ≤ 1000) : Sm 1000000000000 ⟨s, t, 0⟩ := ⟨by show s.length ≤ _; omega, by show t ≤ _; omega, Nat.zero_le _⟩
/-- What is told stands in block g; what is older is as it was. -/
def XW (g : Nat) (w2 : World) (k : Nat) (x : Tl) (wx : World) : Prop := Below g w2 wx ∧ Blk wx g 172 (tlc x) ∧ SmK k x
theorem XW.below {g : Nat} {w2 w w' : World} {k : Nat} {x : Tl} (h : XW g w2 k x w) (hb : Below w.heap.size w w') : XW g w2 k x w' :=
 ⟨h.1.trans (hb.mono (Nat.le_of_lt h.2.1.lt)), h.2.1.below hb, h.2.2⟩
theorem XW.set {g : Nat} {w2 w : World} {k k' : Nat} {x : Tl} (h : XW g w2 k x w) (x' : Tl) (hs : SmK k' x') :
  XW g w2 k' x' (((w.setCell ⟨g, 0, none⟩ (.string ⟨x'.text.toArray⟩)).setCell ⟨g, 1, none⟩ (.int .i64 x'.toks)).setCell ⟨g, 2, none⟩ (.int .i64 x'.deep)) := by
 refine ⟨set3_below h.2.1 (Nat.le_refl _) h.1 _ _ _, ?_, hs⟩
 exact ((h.2.1.setCell 0 _).1.setCell 1 _).1.setCell 2 _ |>.1
theorem XW.f {g : Nat} {w2 w : World} {k : Nat} {x : Tl} (h : XW g w2 k x w) : w.frozen? ⟨g, 0, none⟩ = false ∧ w.frozen? ⟨g, 1, none⟩ = false ∧ w.frozen? ⟨g, 2, none⟩ = false ∧
  w.cell? ⟨g, 0, none⟩ = some (.string ⟨x.text.toArray⟩) ∧ w.cell? ⟨g, 1, none⟩ = some (.int .i64 x.toks) ∧ w.cell? ⟨g, 2, none⟩ = some (.int .i64 x.deep) :=
 ⟨h.2.1.frozen 0, h.2.1.frozen 1, h.2.1.frozen 2, h.2.1.ci 0 rfl, h.2.1.ci 1 rfl, h.2.1.ci 2 rfl⟩
theorem XW.weak {g : Nat} {w2 w : World} {k m : Nat} {x : Tl} (h : XW g w2 k x w) (hm : k ≤ m) : XW g w2 m x w := ⟨h.1, h.2.1, smK_le h.2.2 hm⟩
def BhR (x : Tl) (w : World) (e : Ending) (w' : World) : Prop := e = .returned (.agg #[.string ⟨x.text.toArray⟩, .int .i64 x.toks, .int .i64 x.deep]) ∧ Below w.heap.size w w'
theorem bh_tl (x y : Tl) (hx : Sm 100000000000000000 x) (hy : Sm 100000000000000000 y) (w : World) :
  Calls Tryz.prog 86 #[.agg #[.string ⟨x.text.toArray⟩, .int .i64 x.toks, .int .i64 x.deep], .agg #[.string ⟨y.text.toArray⟩, .int .i64 y.toks, .int .i64 y.deep]] w (BhR (behindR x y) w) :=
 rbehind_any x y w hx hy
theorem bh_lit (x : Tl) (s : Str) (t : Nat) (ti : Int) (hti : ti = t) (hx : Sm 100000000000000000 x) (hs : s.length ≤ 1000) (ht : t ≤ 1000) (w : World) :
  Calls Tryz.prog 86 #[.agg #[.string ⟨x.text.toArray⟩, .int .i64 x.toks, .int .i64 x.deep], .agg #[.string ⟨s.toArray⟩, .int .i64 ti, .int .i64 0]] w (BhR (behindR x ⟨s, t, 0⟩) w) := by
 subst hti
 exact bh_tl x ⟨s, t, 0⟩ hx (sm_up (smK_lit hs ht)) w
theorem item_sm {x : It} (h16 : ∀ s ∈ x.types, s.length ≤ 16) (hN : x.types.length ≤ 1048576) (hv : x.var.length ≤ 16) (hlo : I64' x.lo) (hhi : I64' x.hi) : Sm 1000000000000 (itemR fmtI x) := by
 obtain ⟨ty, tk, hty, h1, h2⟩ := typedR_sm x.types h16 hN
 have f1 := fmt_len x.lo hlo
 have f2 := fmt_len x.hi hhi
 unfold itemR
 rw [hty]
 repeat' split
 all_goals (refine ⟨?_, ?_, ?_⟩ <;> simp only [List.length_append, List.length_cons, List.length_nil] <;> omega)
theorem it_tl (x : Im) (w : World) (hl : Ld w) (h : RdS w x.a x.i.types) (hp : 1 ≤ x.i.types.length) (hN : x.i.types.length ≤ 1048576) (h16 : ∀ s ∈ x.i.types, s.length ≤ 16) (hv : x.i.var.length ≤ 16) (hlo : I64' x.i.lo) (hhi : I64' x.i.hi) :
  Calls Tryz.prog 87 #[.agg #[.bool x.i.neg, .slice x.a x.i.types.length x.c, .string ⟨x.i.var.toArray⟩, .int .i64 x.i.lo, .int .i64 x.i.hi]] w (BhR (itemR fmtI x.i) w) :=
 ritem_any x w hl h hp hN h16 hv hlo hhi
theorem nd_of {t : List Nd} (h : treeB (nameB kwsL) t = true) (hi : ∀ x ∈ t, I64' x.n) : ∀ x ∈ t, NdB x := fun x hx => node_small (tree_fields h x hx) (hi x hx)
theorem whole_sm {t : List Nd} (h : treeB (nameB kwsL) t = true) (hi : ∀ x ∈ t, I64' x.n) (hN : t.length ≤ 10000000) : Sm 1000000000000 (wholeR fmtI t) := by
 obtain ⟨e, hs, he⟩ := tree_shape h
 have h1 := whole_same fmtI hs he
 have h2 := tell_sm (nd_of h hi) hs (by omega)
 rw [tell_same fmtI e hs.ok, ← h1] at h2
 exact sm_mono h2 (by omega)
theorem wh_tl (a : Option Addr) (c n : Nat) (t : List Nd) (w : World) (hn : t.length = n) (hN : n ≤ 1048576) (hl : Ld w) (h : RdN w a t) (htree : treeB (nameB kwsL) t = true) (hi : ∀ x ∈ t, I64' x.n) :
  Calls Tryz.prog 88 #[.slice a n c] w (BhR (wholeR fmtI t) w) := by
 have hp : 1 ≤ n := by
  obtain ⟨e, hs, he⟩ := tree_shape htree
  have := e.size_pos
  omega
 exact rwhole_any a c n t w hn (by omega) hp hl h htree (nd_of htree hi)
theorem shIt {x : It} (h : shapedIt (nameB kwsL) x = true) : 1 ≤ x.types.length ∧ (∀ s ∈ x.types, s.length ≤ 16) ∧ x.var.length ≤ 16 := by
 unfold shapedIt at h
 simp only [Bool.and_eq_true] at h
 obtain ⟨⟨⟨⟨⟨h1, h2⟩, h3⟩, _⟩, _⟩, _⟩ := h
 refine ⟨?_, fun s hs => nm16 ((List.all_eq_true.1 h2) s hs), nm16 h3⟩
 cases hx : x.types with
 | nil => rw [hx] at h1; simp at h1
 | cons a l => simp
end Go.Proofs.YtfglgpbjjpoimaaGreatDoor
