/- SaveEncodes: the bound of the document: Beyond, QueryBeyond: they answer. -/
import Derived.Test.YtfglgpbjjpoimaaGreatDoorSwHA
set_option linter.unusedVariables false
namespace Go.Proofs.YtfglgpbjjpoimaaGreatDoor
open Go.RowKit Sv
def SomeB (w : World) (e : Ending) (w' : World) : Prop := ∃ b, e = .returned (.bool b) ∧ Below w.heap.size w w'
set_option maxHeartbeats 4000000 in
set_option maxRecDepth 20000 in
theorem beyond_any (a : Option Addr) (c n : Nat) (t : List Nd) (w : World) (hn : t.length = n) (hN : n ≤ 1048576) (h : RdN w a t) :
  Calls Tryz.prog 11 #[.slice a n c] w (SomeB w) := by
 have HR := Lib.hid h
 have HN := Lib.hid hn
 clear h hn
 go_enter Tryz.func11, Tryz.ntmps11
 go_wp2_with fail
 go_loopw [3, 4] (fun v i wr => ∃ (k : Nat) (l : List Int) (a1 : Option Addr) (c1 : Nat), k ≤ n ∧ l.length = k ∧ (∀ x ∈ l, 0 ≤ x ∧ x ≤ 65536) ∧ i = .int .i64 (k : Int) ∧ v = .slice a1 k c1 ∧ wr.ownsRow w.heap.size 3 1 (.slice a1 k c1) k (l.map Z) ∧ Below w.heap.size w wr) (fun _ i _ => n - (intOf i).toNat)
 case atStart => exact ⟨0, [], none, 0, Nat.zero_le _, rfl, fun x hx => by simp at hx, rfl, rfl, by simpa using World.ownsRow_nil w w.heap.size 3 1, Below.refl _ _⟩
 case round =>
  obtain ⟨k, l, a1, c1, hkn, hll, hlb, rfl, rfl, hown, hbw⟩ := hrel
  have HBW := Lib.hid hbw
  have HOWN := Lib.hid hown
  have HLL := Lib.hid hll
  have HLB := Lib.hid hlb
  clear hown hll hlb
  by_cases hlt : k < n
  ·have hlt' : (k : Int) < n := by omega
   have hk0 : (0 : Int) ≤ k := by omega
   have hjl : k < t.length := by rw [HN.out]; exact hlt
   have HME := Lib.hid (meas_lt hlt)
   obtain ⟨b1, o1, ha, e0, e1, e2, e3, e4, e5⟩ := RdN.at (Rd.below HR.out hbw) k hjl
   obtain ⟨u, hu⟩ : ∃ u, u = t[k] := ⟨_, rfl⟩
   rw [← hu] at e4 e5
   clear e0 e1 e2 e3 hu
   obtain ⟨_, _, _, _, xa, xb⟩ := u
   dsimp only at e4 e5
   subst ha
   clear hbw
   have hB : xb < 0 ∨ (k : Int) ≤ xb ∨ ∃ nb : Nat, xb = nb ∧ nb < k := by
    by_cases h1 : xb < 0
    ·exact .inl h1
    ·by_cases h2 : (k : Int) ≤ xb
     ·exact .inr (.inl h2)
     ·exact .inr (.inr ⟨xb.toNat, by omega, by omega⟩)
   have hA : xa < 0 ∨ (k : Int) ≤ xa ∨ ∃ na : Nat, xa = na ∧ na < k := by
    by_cases h1 : xa < 0
    ·exact .inl h1
    ·by_cases h2 : (k : Int) ≤ xa
     ·exact .inr (.inl h2)
     ·exact .inr (.inr ⟨xa.toNat, by omega, by omega⟩)
   rcases hA with ha1 | ha1 | ⟨na, ha2, ha1⟩
   ·have hp : ¬ (0 : Int) ≤ xa := by omega
    rcases hB with hb1 | hb1 | ⟨nb, hb2, hb1⟩
    ·have hq : ¬ (0 : Int) ≤ xb := by omega
     go_wp2_with (first | (at_builtin; refine app_one wr rfl _ _ 59 3 _ 1 _ inf3 Tryz.underlying59 rfl (by decide) (by decide) rfl w.heap.size (.slice a1 k c1) k _ [.int .i64 1] rfl HOWN.out rfl rfl (by intro z hz; simp only [List.mem_cons, List.not_mem_nil, or_false] at hz; subst hz; rfl) (by omega) HBW.out.size ?_; intro a2 c2 w2 hown2 hb2 hmv2) | fail)
     go_roundw
     case rel => exact ⟨k + 1, l ++ [1], a2, c2, hlt, by simp [HLL.out], fun x hx => by (rcases List.mem_append.1 hx with hx | hx; exact HLB.out x hx; obtain rfl := List.mem_singleton.1 hx; omega), by go_num, rfl, by rw [List.map_append]; exact hown2, HBW.out.trans hb2⟩
     case measure => exact HME.out
    ·have hq : (0 : Int) ≤ xb := by omega
     have hq2 : ¬ xb < k := by omega
     go_wp2_with (first | (at_builtin; refine app_one wr rfl _ _ 59 3 _ 1 _ inf3 Tryz.underlying59 rfl (by decide) (by decide) rfl w.heap.size (.slice a1 k c1) k _ [.int .i64 1] rfl HOWN.out rfl rfl (by intro z hz; simp only [List.mem_cons, List.not_mem_nil, or_false] at hz; subst hz; rfl) (by omega) HBW.out.size ?_; intro a2 c2 w2 hown2 hb2 hmv2) | fail)
     go_roundw
     case rel => exact ⟨k + 1, l ++ [1], a2, c2, hlt, by simp [HLL.out], fun x hx => by (rcases List.mem_append.1 hx with hx | hx; exact HLB.out x hx; obtain rfl := List.mem_singleton.1 hx; omega), by go_num, rfl, by rw [List.map_append]; exact hown2, HBW.out.trans hb2⟩
     case measure => exact HME.out
    ·subst hb2
     have hnb : nb < l.length := by rw [HLL.out]; exact hb1
     have hnb2 : (nb : Int) < k := by omega
     have hnb3 : (0 : Int) ≤ nb := by omega
     obtain ⟨y, hy⟩ : ∃ y, y = l[nb] := ⟨_, rfl⟩
     have hyb := HLB.out _ (List.getElem_mem hnb)
     obtain ⟨b9, o9, hab, c9⟩ := RdZ.at (ownsRow_rd HOWN.out) nb hnb
     rw [← hy] at c9 hyb
     subst hab
     clear hy
     by_cases hc : 0 < y
     ·skip
      by_cases hbig : (65536 : Int) ≤ y
      ·go_wp2_with fail
       go_ret
       exact ⟨true, rfl, HBW.out⟩
      ·skip
       have hwr : wrap64 (y + 1) = y + 1 := by unfold wrap64; omega
       have hwr2 : IntKind.i64.wrap (y + 1) = y + 1 := by rw [IntKind.wrap_i64]; omega
       go_wp2_with (first | (at_builtin; refine app_one wr rfl _ _ 59 3 _ 1 _ inf3 Tryz.underlying59 rfl (by decide) (by decide) rfl w.heap.size (.slice (some ⟨b9, o9, none⟩) k c1) k _ [.int .i64 (y + 1)] rfl HOWN.out rfl rfl (by intro z hz; simp only [List.mem_cons, List.not_mem_nil, or_false] at hz; subst hz; rfl) (by omega) HBW.out.size ?_; intro a2 c2 w2 hown2 hb2 hmv2) | fail)
       go_roundw
       case rel => exact ⟨k + 1, l ++ [(y + 1)], a2, c2, hlt, by simp [HLL.out], fun x hx => by (rcases List.mem_append.1 hx with hx | hx; exact HLB.out x hx; obtain rfl := List.mem_singleton.1 hx; omega), by go_num, rfl, by rw [List.map_append]; exact hown2, HBW.out.trans hb2⟩
       case measure => exact HME.out
     ·skip
      go_wp2_with (first | (at_builtin; refine app_one wr rfl _ _ 59 3 _ 1 _ inf3 Tryz.underlying59 rfl (by decide) (by decide) rfl w.heap.size (.slice (some ⟨b9, o9, none⟩) k c1) k _ [.int .i64 1] rfl HOWN.out rfl rfl (by intro z hz; simp only [List.mem_cons, List.not_mem_nil, or_false] at hz; subst hz; rfl) (by omega) HBW.out.size ?_; intro a2 c2 w2 hown2 hb2 hmv2) | fail)
      go_roundw
      case rel => exact ⟨k + 1, l ++ [1], a2, c2, hlt, by simp [HLL.out], fun x hx => by (rcases List.mem_append.1 hx with hx | hx; exact HLB.out x hx; obtain rfl := List.mem_singleton.1 hx; omega), by go_num, rfl, by rw [List.map_append]; exact hown2, HBW.out.trans hb2⟩
      case measure => exact HME.out
   ·have hp : (0 : Int) ≤ xa := by omega
    have hp2 : ¬ xa < k := by omega
    rcases hB with hb1 | hb1 | ⟨nb, hb2, hb1⟩
    ·have hq : ¬ (0 : Int) ≤ xb := by omega
     go_wp2_with (first | (at_builtin; refine app_one wr rfl _ _ 59 3 _ 1 _ inf3 Tryz.underlying59 rfl (by decide) (by decide) rfl w.heap.size (.slice a1 k c1) k _ [.int .i64 1] rfl HOWN.out rfl rfl (by intro z hz; simp only [List.mem_cons, List.not_mem_nil, or_false] at hz; subst hz; rfl) (by omega) HBW.out.size ?_; intro a2 c2 w2 hown2 hb2 hmv2) | fail)
     go_roundw
     case rel => exact ⟨k + 1, l ++ [1], a2, c2, hlt, by simp [HLL.out], fun x hx => by (rcases List.mem_append.1 hx with hx | hx; exact HLB.out x hx; obtain rfl := List.mem_singleton.1 hx; omega), by go_num, rfl, by rw [List.map_append]; exact hown2, HBW.out.trans hb2⟩
     case measure => exact HME.out
    ·have hq : (0 : Int) ≤ xb := by omega
     have hq2 : ¬ xb < k := by omega
     go_wp2_with (first | (at_builtin; refine app_one wr rfl _ _ 59 3 _ 1 _ inf3 Tryz.underlying59 rfl (by decide) (by decide) rfl w.heap.size (.slice a1 k c1) k _ [.int .i64 1] rfl HOWN.out rfl rfl (by intro z hz; simp only [List.mem_cons, List.not_mem_nil, or_false] at hz; subst hz; rfl) (by omega) HBW.out.size ?_; intro a2 c2 w2 hown2 hb2 hmv2) | fail)
     go_roundw
     case rel => exact ⟨k + 1, l ++ [1], a2, c2, hlt, by simp [HLL.out], fun x hx => by (rcases List.mem_append.1 hx with hx | hx; exact HLB.out x hx; obtain rfl := List.mem_singleton.1 hx; omega), by go_num, rfl, by rw [List.map_append]; exact hown2, HBW.out.trans hb2⟩
     case measure => exact HME.out
    ·subst hb2
     have hnb : nb < l.length := by rw [HLL.out]; exact hb1
     have hnb2 : (nb : Int) < k := by omega
     have hnb3 : (0 : Int) ≤ nb := by omega
     obtain ⟨y, hy⟩ : ∃ y, y = l[nb] := ⟨_, rfl⟩
     have hyb := HLB.out _ (List.getElem_mem hnb)
     obtain ⟨b9, o9, hab, c9⟩ := RdZ.at (ownsRow_rd HOWN.out) nb hnb
     rw [← hy] at c9 hyb
     subst hab
     clear hy
     by_cases hc : 0 < y
     ·skip
      by_cases hbig : (65536 : Int) ≤ y
      ·go_wp2_with fail
       go_ret
       exact ⟨true, rfl, HBW.out⟩
      ·skip
       have hwr : wrap64 (y + 1) = y + 1 := by unfold wrap64; omega
       have hwr2 : IntKind.i64.wrap (y + 1) = y + 1 := by rw [IntKind.wrap_i64]; omega
       go_wp2_with (first | (at_builtin; refine app_one wr rfl _ _ 59 3 _ 1 _ inf3 Tryz.underlying59 rfl (by decide) (by decide) rfl w.heap.size (.slice (some ⟨b9, o9, none⟩) k c1) k _ [.int .i64 (y + 1)] rfl HOWN.out rfl rfl (by intro z hz; simp only [List.mem_cons, List.not_mem_nil, or_false] at hz; subst hz; rfl) (by omega) HBW.out.size ?_; intro a2 c2 w2 hown2 hb2 hmv2) | fail)
       go_roundw
       case rel => exact ⟨k + 1, l ++ [(y + 1)], a2, c2, hlt, by simp [HLL.out], fun x hx => by (rcases List.mem_append.1 hx with hx | hx; exact HLB.out x hx; obtain rfl := List.mem_singleton.1 hx; omega), by go_num, rfl, by rw [List.map_append]; exact hown2, HBW.out.trans hb2⟩
       case measure => exact HME.out
     ·skip
      go_wp2_with (first | (at_builtin; refine app_one wr rfl _ _ 59 3 _ 1 _ inf3 Tryz.underlying59 rfl (by decide) (by decide) rfl w.heap.size (.slice (some ⟨b9, o9, none⟩) k c1) k _ [.int .i64 1] rfl HOWN.out rfl rfl (by intro z hz; simp only [List.mem_cons, List.not_mem_nil, or_false] at hz; subst hz; rfl) (by omega) HBW.out.size ?_; intro a2 c2 w2 hown2 hb2 hmv2) | fail)
      go_roundw
      case rel => exact ⟨k + 1, l ++ [1], a2, c2, hlt, by simp [HLL.out], fun x hx => by (rcases List.mem_append.1 hx with hx | hx; exact HLB.out x hx; obtain rfl := List.mem_singleton.1 hx; omega), by go_num, rfl, by rw [List.map_append]; exact hown2, HBW.out.trans hb2⟩
      case measure => exact HME.out
   ·subst ha2
    have hna : na < l.length := by rw [HLL.out]; exact ha1
    have hna2 : (na : Int) < k := by omega
    have hna3 : (0 : Int) ≤ na := by omega
    obtain ⟨x, hx⟩ : ∃ x, x = l[na] := ⟨_, rfl⟩
    have hxb := HLB.out _ (List.getElem_mem hna)
    obtain ⟨b8, o8, haa, c8⟩ := RdZ.at (ownsRow_rd HOWN.out) na hna
    rw [← hx] at c8 hxb
    subst haa
    clear hx
    rcases hB with hb1 | hb1 | ⟨nb, hb2, hb1⟩
    ·have hq : ¬ (0 : Int) ≤ xb := by omega
     by_cases hbig : (65536 : Int) ≤ x
     ·go_wp2_with fail
      go_ret
      exact ⟨true, rfl, HBW.out⟩
     ·skip
      have hwr : wrap64 (x + 1) = x + 1 := by unfold wrap64; omega
      have hwr2 : IntKind.i64.wrap (x + 1) = x + 1 := by rw [IntKind.wrap_i64]; omega
      go_wp2_with (first | (at_builtin; refine app_one wr rfl _ _ 59 3 _ 1 _ inf3 Tryz.underlying59 rfl (by decide) (by decide) rfl w.heap.size (.slice (some ⟨b8, o8, none⟩) k c1) k _ [.int .i64 (x + 1)] rfl HOWN.out rfl rfl (by intro z hz; simp only [List.mem_cons, List.not_mem_nil, or_false] at hz; subst hz; rfl) (by omega) HBW.out.size ?_; intro a2 c2 w2 hown2 hb2 hmv2) | fail)
      go_roundw
      case rel => exact ⟨k + 1, l ++ [(x + 1)], a2, c2, hlt, by simp [HLL.out], fun x hx => by (rcases List.mem_append.1 hx with hx | hx; exact HLB.out x hx; obtain rfl := List.mem_singleton.1 hx; omega), by go_num, rfl, by rw [List.map_append]; exact hown2, HBW.out.trans hb2⟩
      case measure => exact HME.out
    ·have hq : (0 : Int) ≤ xb := by omega
     have hq2 : ¬ xb < k := by omega
     by_cases hbig : (65536 : Int) ≤ x
     ·go_wp2_with fail
      go_ret
      exact ⟨true, rfl, HBW.out⟩
     ·skip
      have hwr : wrap64 (x + 1) = x + 1 := by unfold wrap64; omega
      have hwr2 : IntKind.i64.wrap (x + 1) = x + 1 := by rw [IntKind.wrap_i64]; omega
      go_wp2_with (first | (at_builtin; refine app_one wr rfl _ _ 59 3 _ 1 _ inf3 Tryz.underlying59 rfl (by decide) (by decide) rfl w.heap.size (.slice (some ⟨b8, o8, none⟩) k c1) k _ [.int .i64 (x + 1)] rfl HOWN.out rfl rfl (by intro z hz; simp only [List.mem_cons, List.not_mem_nil, or_false] at hz; subst hz; rfl) (by omega) HBW.out.size ?_; intro a2 c2 w2 hown2 hb2 hmv2) | fail)
      go_roundw
      case rel => exact ⟨k + 1, l ++ [(x + 1)], a2, c2, hlt, by simp [HLL.out], fun x hx => by (rcases List.mem_append.1 hx with hx | hx; exact HLB.out x hx; obtain rfl := List.mem_singleton.1 hx; omega), by go_num, rfl, by rw [List.map_append]; exact hown2, HBW.out.trans hb2⟩
      case measure => exact HME.out
    ·subst hb2
     have hnb : nb < l.length := by rw [HLL.out]; exact hb1
     have hnb2 : (nb : Int) < k := by omega
     have hnb3 : (0 : Int) ≤ nb := by omega
     obtain ⟨y, hy⟩ : ∃ y, y = l[nb] := ⟨_, rfl⟩
     have hyb := HLB.out _ (List.getElem_mem hnb)
     obtain ⟨b9, o9, hab, c9⟩ := RdZ.at (ownsRow_rd HOWN.out) nb hnb
     rw [← hy] at c9 hyb
     cases hab
     clear hy
     by_cases hc : x < y
     ·skip
      by_cases hbig : (65536 : Int) ≤ y
      ·go_wp2_with fail
       go_ret
       exact ⟨true, rfl, HBW.out⟩
      ·skip
       have hwr : wrap64 (y + 1) = y + 1 := by unfold wrap64; omega
       have hwr2 : IntKind.i64.wrap (y + 1) = y + 1 := by rw [IntKind.wrap_i64]; omega
       go_wp2_with (first | (at_builtin; refine app_one wr rfl _ _ 59 3 _ 1 _ inf3 Tryz.underlying59 rfl (by decide) (by decide) rfl w.heap.size (.slice (some ⟨b8, o8, none⟩) k c1) k _ [.int .i64 (y + 1)] rfl HOWN.out rfl rfl (by intro z hz; simp only [List.mem_cons, List.not_mem_nil, or_false] at hz; subst hz; rfl) (by omega) HBW.out.size ?_; intro a2 c2 w2 hown2 hb2 hmv2) | fail)
       go_roundw
       case rel => exact ⟨k + 1, l ++ [(y + 1)], a2, c2, hlt, by simp [HLL.out], fun x hx => by (rcases List.mem_append.1 hx with hx | hx; exact HLB.out x hx; obtain rfl := List.mem_singleton.1 hx; omega), by go_num, rfl, by rw [List.map_append]; exact hown2, HBW.out.trans hb2⟩
       case measure => exact HME.out
     ·skip
      by_cases hbig : (65536 : Int) ≤ x
      ·go_wp2_with fail
       go_ret
       exact ⟨true, rfl, HBW.out⟩
      ·skip
       have hwr : wrap64 (x + 1) = x + 1 := by unfold wrap64; omega
       have hwr2 : IntKind.i64.wrap (x + 1) = x + 1 := by rw [IntKind.wrap_i64]; omega
       go_wp2_with (first | (at_builtin; refine app_one wr rfl _ _ 59 3 _ 1 _ inf3 Tryz.underlying59 rfl (by decide) (by decide) rfl w.heap.size (.slice (some ⟨b8, o8, none⟩) k c1) k _ [.int .i64 (x + 1)] rfl HOWN.out rfl rfl (by intro z hz; simp only [List.mem_cons, List.not_mem_nil, or_false] at hz; subst hz; rfl) (by omega) HBW.out.size ?_; intro a2 c2 w2 hown2 hb2 hmv2) | fail)
       go_roundw
       case rel => exact ⟨k + 1, l ++ [(x + 1)], a2, c2, hlt, by simp [HLL.out], fun x hx => by (rcases List.mem_append.1 hx with hx | hx; exact HLB.out x hx; obtain rfl := List.mem_singleton.1 hx; omega), by go_num, rfl, by rw [List.map_append]; exact hown2, HBW.out.trans hb2⟩
       case measure => exact HME.out
  ·have hk' : ¬ (k : Int) < n := by omega
   clear hbw
   go_wp2_with fail
   go_ret
   exact ⟨false, rfl, HBW.out⟩
set_option maxHeartbeats 1000000 in
set_option maxRecDepth 20000 in
theorem queryBeyond_any (x : Qm) (w : World) (h : RdQ w x) (hb : QB x) :
  Calls Tryz.prog 4 #[.agg (qmc x).toArray] w (SomeB w) := by
 obtain ⟨w0, hw0⟩ : ∃ w0, w0 = w.alloc (.cells (qmc x).toArray 31) := ⟨_, rfl⟩
 have hE : Blk w0 w.heap.size 31 (qmc x) := by rw [hw0]; exact Blk.new w _ 31
 have HB0 := Lib.hid (show Below w.heap.size w w0 by rw [hw0]; exact bal (Below.refl _ _) (Nat.le_refl _) _)
 have HR := Lib.hid (h.below HB0.out)
 have HBY := Lib.hid (beyond_any x.wa x.wc x.wher.length x.wher w0 rfl hb.wher HR.out.2.1)
 have HTR := Lib.hid (fun (z : Tr) (hz : z ∈ x.ret) W (hW : Below w0.heap.size w0 W) => beyond_any z.a z.c z.t.length z.t W rfl (hb.trees z hz) (Rd.below (HR.out.2.2.2 z hz) hW))
 obtain ⟨items, ia, ic, mode, after, wher, wwa, wcap, within, by_, ret, ra, rc⟩ := x
 obtain ⟨ni, hni⟩ : ∃ n, n = items.length := ⟨_, rfl⟩
 obtain ⟨nwh, hnwh⟩ : ∃ n, n = wher.length := ⟨_, rfl⟩
 obtain ⟨nr, hnr⟩ : ∃ n, n = ret.length := ⟨_, rfl⟩
 dsimp only at HBY HTR
 simp only [qmc, T, ← hni, ← hnwh, ← hnr] at hE hw0 HBY ⊢
 have HE := Lib.hid hE
 have HNR := Lib.hid hnr
 have hnr48 : nr ≤ 1048576 := by have := hb.ret; dsimp only at this; omega
 clear hE hni hnwh hnr h hb
 have s3 := HE.out.ci 3 rfl
 go_enter Tryz.func4, Tryz.ntmps4
 go_upto_region 1 with fail
 rw [← hw0]
 clear hw0
 go_wp2_with fail
 refine (HBY.out).mono ?_
 rintro e w1 ⟨d0, rfl, hb1⟩
 have HB1 := Lib.hid hb1
 clear s3 hb1
 go_wp2_with fail
 go_loopw [3, 4] (fun v i wr => ∃ (k : Nat) (d : Bool), k ≤ nr ∧ v = .bool d ∧ i = .int .i64 (k : Int) ∧ Below w0.heap.size w0 wr) (fun _ i _ => nr - (intOf i).toNat)
 case atStart => exact ⟨0, d0, Nat.zero_le _, rfl, rfl, HB1.out⟩
 case round =>
  obtain ⟨k, d, hkn, rfl, rfl, hbw⟩ := hrel
  have HBW := Lib.hid hbw
  have s6 := (HE.out.below hbw).ci 6 rfl
  by_cases hlt : k < nr
  ·have hlt' : (k : Int) < nr := by omega
   have hk0 : (0 : Int) ≤ k := by omega
   have hjl : k < ret.length := by rw [← HNR.out]; exact hlt
   have HME := Lib.hid (meas_lt hlt)
   obtain ⟨b, o, hra, e0⟩ := RdR.at (HR.out.below hbw).2.2 k hjl
   dsimp only at hra e0
   obtain ⟨y, hy⟩ : ∃ y, y = ret[k] := ⟨_, rfl⟩
   have HC := Lib.hid (HTR.out y (by rw [hy]; exact List.getElem_mem hjl) wr hbw)
   rw [← hy] at e0
   obtain ⟨t, ta, tc⟩ := y
   obtain ⟨nt, hnt⟩ : ∃ n, n = t.length := ⟨_, rfl⟩
   dsimp only at e0 HC
   rw [← hnt] at e0 HC
   subst hra
   clear hbw hy hnt
   go_wp2_with fail
   refine (HC.out).mono ?_
   rintro e w2 ⟨d2, rfl, hb2⟩
   have HB2 := Lib.hid (HBW.out.trans (hb2.mono HBW.out.size))
   clear s6 e0 hb2
   cases d
   all_goals (
    go_wp2_with fail
    go_roundw
    case rel => exact ⟨k + 1, _, hlt, rfl, by go_num, HB2.out⟩
    case measure => exact HME.out)
  ·have hk' : ¬ (k : Int) < nr := by omega
   clear hbw
   go_wp2_with fail
   go_ret
   exact ⟨d, rfl, HB0.out.trans (HBW.out.mono HB0.out.size)⟩
end Go.Proofs.YtfglgpbjjpoimaaGreatDoor
