/- The walk of WireNumbers. -/
import Derived.Test.YtaipnbpefdcejaaPutU
import Derived.Test.YtaipnbpefdcejaaReads
set_option linter.unusedVariables false
namespace Go.Proofs.Ytaipnbpefdcejaa
open Go.RowKit
theorem int_neq_self (a : Int) : (a != a) = false := by simp

theorem upost_put (pre post : List UInt8) (N : Nat) (hN : N < 18446744073709551616) : UPost (pre ++ bytesU N ++ post) (pre.length : Int) (.returned (T3 N ((pre.length + (bytesU N).length : Nat) : Int) 0)) := by
  obtain ⟨j, hj, hl, hlt, hb, hv⟩ := read_bytesU N hN post
  have hd : (pre ++ bytesU N ++ post).drop ((pre.length : Int)).toNat = bytesU N ++ post := by rw [Int.toNat_natCast, List.append_assoc, List.drop_left]
  refine .inr ⟨⟨by omega, by simp only [List.length_append]; omega⟩, j, by rw [hd]; exact hl, ?_⟩
  rw [hd, uAns_ok hlt hb, hv, ← hj]
  congr 1

set_option maxHeartbeats 2000000 in
theorem nums_walk (N : Nat) (i : Int) (a b : Option Addr) (cap p cap2 q : Nat) (pre post : List UInt8) (w : World) (hN : N < 18446744073709551616) (hi : -9223372036854775808 ≤ i ∧ i ≤ 9223372036854775807)
    (hp : pre.length = p) (hq : post.length = q) (hpb : p ≤ 2147483647) (hqb : q ≤ 2147483647) (h : Rd w a (pre.map B)) (h2 : Rd w b (post.map B)) :
    Calls Try.prog 5 #[.int .u64 (N : Int), .int .i64 i, .slice a p cap, .slice b q cap2] w fun e w' => e = .returned (.bool true) ∧ Below w.heap.size w w' := by
  have HP := Lib.hid hp
  have HQ := Lib.hid hq
  have hlu := bytesU_len10 N hN
  have hli := bytesU_len10 (zig i) (zig_lt i hi)
  obtain ⟨lu, hlu'⟩ : ∃ lu, lu = (bytesU N).length := ⟨_, rfl⟩
  obtain ⟨li, hli'⟩ : ∃ li, li = (bytesU (zig i)).length := ⟨_, rfl⟩
  rw [← hlu'] at hlu
  rw [← hli'] at hli
  have HLU := Lib.hid hlu'
  have HLI := Lib.hid hli'
  clear hp hq hlu' hli'
  go_enter Try.func5, Try.ntmps5
  go_wp2_with fail
  refine (copied_n a cap p pre w HP.out (by omega) h).mono ?_
  rintro e w1 ⟨a1, c1, rfl, hown1, hb1⟩
  have hpre1 := h.below hb1
  have hpost1 := h2.below hb1
  have hc1 := ownsRow_rd hown1
  clear hown1 h h2
  go_wp2_with fail
  refine (putuint_any a cap p pre N w1 HP.out hN (by omega) hpre1).mono ?_
  rintro e w2 ⟨a2, c2, rfl, hown2, hb2⟩
  rw [HP.out, ← HLU.out] at hown2 ⊢
  have bb2 := hb1.trans (hb2.mono hb1.size)
  have hpre2 := hpre1.below hb2
  have hpost2 := hpost1.below hb2
  have hc2 := hc1.below hb2
  have hB2 := ownsRow_rd hown2
  clear hown2 hpre1 hpost1 hc1
  go_wp2_with fail
  refine (putint_any a cap p pre i w2 HP.out hi (by omega) hpre2).mono ?_
  rintro e w3 ⟨a3, c3, rfl, hown3, hb3⟩
  rw [HP.out, ← HLI.out] at hown3 ⊢
  have bb3 := bb2.trans (hb3.mono bb2.size)
  have hpre3 := hpre2.below hb3
  have hpost3 := hpost2.below hb3
  have hc3 := hc2.below hb3
  have hB3 := hB2.below hb3
  have hD3 := ownsRow_rd hown3
  clear hown3 hpre2 hpost2 hc2 hB2
  go_wp2_with fail
  refine (rputuint_any a1 c1 p pre N w3 HP.out hN (by omega) hc3).mono ?_
  rintro e w4 ⟨a4, c4, rfl, hown4, hb4⟩
  rw [HP.out, ← HLU.out] at hown4 ⊢
  have bb4 := bb3.trans (hb4.mono bb3.size)
  have hpre4 := hpre3.below hb4
  have hpost4 := hpost3.below hb4
  have hc4 := hc3.below hb4
  have hB4 := hB3.below hb4
  have hD4 := hD3.below hb4
  have hE4 := ownsRow_rd hown4
  clear hown4 hpre3 hpost3 hc3 hB3 hD3
  go_wp2_with fail
  refine (rputint_any a1 c1 p pre i w4 HP.out hi (by omega) hc4).mono ?_
  rintro e w5 ⟨a5, c5, rfl, hown5, hb5⟩
  rw [HP.out, ← HLI.out] at hown5 ⊢
  have bb5 := bb4.trans (hb5.mono bb4.size)
  have hpre5 := hpre4.below hb5
  have hpost5 := hpost4.below hb5
  have hc5 := hc4.below hb5
  have hB5 := hB4.below hb5
  have hD5 := hD4.below hb5
  have hE5 := hE4.below hb5
  have hF5 := ownsRow_rd hown5
  clear hown5 hpre4 hpost4 hc4 hB4 hD4 hE4
  have hlB : (pre ++ bytesU N).length = p + lu := by rw [List.length_append, HP.out, ← HLU.out]
  have hlD : (pre ++ bytesU (zig i)).length = p + li := by rw [List.length_append, HP.out, ← HLI.out]
  have HLB := Lib.hid hlB
  have HLD := Lib.hid hlD
  clear hlB hlD
  go_wp2_with fail
  refine (same_n a2 a4 c2 c4 (p + lu) (p + lu) _ _ w5 HLB.out HLB.out (by omega) hB5 hE5).mono ?_
  rintro e w6 ⟨rfl, hb6⟩
  rw [beq_self_eq_true]
  have bb6 := bb5.trans (hb6.mono bb5.size)
  have hpre6 := hpre5.below hb6
  have hpost6 := hpost5.below hb6
  have hc6 := hc5.below hb6
  have hB6 := hB5.below hb6
  have hD6 := hD5.below hb6
  have hF6 := hF5.below hb6
  clear hpre5 hpost5 hc5 hB5 hD5 hE5 hF5
  go_wp2_with fail
  refine (same_n a3 a5 c3 c5 (p + li) (p + li) _ _ w6 HLD.out HLD.out (by omega) hD6 hF6).mono ?_
  rintro e w7 ⟨rfl, hb7⟩
  rw [beq_self_eq_true]
  have bb7 := bb6.trans (hb7.mono bb6.size)
  have hpre7 := hpre6.below hb7
  have hpost7 := hpost6.below hb7
  have hc7 := hc6.below hb7
  have hB7 := hB6.below hb7
  have hD7 := hD6.below hb7
  clear hpre6 hpost6 hc6 hB6 hD6 hF6
  go_wp2_with fail
  refine (same_n a a1 cap c1 p p pre pre w7 HP.out HP.out (by omega) hpre7 hc7).mono ?_
  rintro e w8 ⟨rfl, hb8⟩
  rw [beq_self_eq_true]
  have bb8 := bb7.trans (hb8.mono bb7.size)
  have hpost8 := hpost7.below hb8
  have hB8 := hB7.below hb8
  have hD8 := hD7.below hb8
  clear hpre7 hpost7 hc7 hB7 hD7
  go_wp2_with fail
  refine (copied_n a2 c2 (p + lu) _ w8 HLB.out (by omega) hB8).mono ?_
  rintro e w9 ⟨a9, c9, rfl, hown9, hb9⟩
  have bb9 := bb8.trans (hb9.mono bb8.size)
  have hpost9 := hpost8.below hb9
  have hz9 := hb9.size
  go_wp2_with (first | (at_builtin; refine app_b w9 rfl _ _ rfl w8.heap.size (.slice a9 (p + lu) c9) (p + lu) _ rfl hown9 b q cap2 post rfl HQ.out hpost9 (by omega) hz9 ?_; intro a10 c10 w10 hown10 hb10 hmv10) | fail)
  have hb810 := hb9.trans hb10
  have bb10 := bb8.trans (hb810.mono bb8.size)
  have hpost10 := hpost8.below hb810
  have hD10 := hD8.below hb810
  have hA10 := ownsRow_rd hown10
  have hlA : (pre ++ bytesU N ++ post).length = p + lu + q := by rw [List.length_append, HLB.out, HQ.out]
  have HLA := Lib.hid hlA
  have hup := upost_put pre post N hN
  rw [HP.out, ← HLU.out] at hup
  have HUP := Lib.hid hup
  clear hlA hup hown9 hown10 hmv10 hb9 hb10 bb9 hpost9 hz9 hpost8 hD8 hB8 hb810
  go_wp2_with fail
  refine (uint_any a10 c10 (p + lu + q) _ (p : Int) w10 HLA.out (by omega) (by omega) hA10).mono ?_
  rintro e _ ⟨hu, rfl⟩
  obtain rfl := hu.unique HUP.out
  clear hu
  unfold T3
  have i1 := int_neq_self (N : Int)
  have i2 := int_neq_self ((p + lu : Nat) : Int)
  have i3 := int_neq_self ((p : Int) + lu)
  go_wp2_with fail
  refine (copied_n a3 c3 (p + li) _ w10 HLD.out (by omega) hD10).mono ?_
  rintro e w11 ⟨a11, c11, rfl, hown11, hb11⟩
  have hpost11 := hpost10.below hb11
  have hz11 := hb11.size
  go_wp2_with (first | (at_builtin; refine app_b w11 rfl _ _ rfl w10.heap.size (.slice a11 (p + li) c11) (p + li) _ rfl hown11 b q cap2 post rfl HQ.out hpost11 (by omega) hz11 ?_; intro a12 c12 w12 hown12 hb12 hmv12) | fail)
  have hb1012 := hb11.trans hb12
  have bb12 := bb10.trans (hb1012.mono bb10.size)
  have hA12 := ownsRow_rd hown12
  have hlA : (pre ++ bytesU (zig i) ++ post).length = p + li + q := by rw [List.length_append, HLD.out, HQ.out]
  have HLA2 := Lib.hid hlA
  have hup := upost_put pre post (zig i) (zig_lt i hi)
  rw [HP.out, ← HLI.out] at hup
  have HUP2 := Lib.hid hup
  clear hlA hup hown11 hown12 hmv12 hb11 hb12 hpost11 hz11 hb1012
  go_wp2_with fail
  refine (int_any a12 c12 (p + li + q) _ (p : Int) w12 HLA2.out (by omega) (by omega) hA12).mono ?_
  rintro e _ ⟨⟨v, en, er, hu, rfl⟩, rfl⟩
  obtain ⟨rfl, rfl, rfl⟩ := T3_inj (hu.unique HUP2.out)
  clear hu
  rw [unz_zig]
  unfold T3i
  have i4 := int_eql_self i
  have i5 := int_eql_self ((p + li : Nat) : Int)
  have i6 := int_eql_self ((p : Int) + li)
  go_wp2
  go_ret
  exact ⟨rfl, bb12⟩

theorem nums_law {w : World} (n : Int) (wn : (Lit.int .u64 n).wf = true) (i : Int) (wi : (Lit.int .i64 i).wf = true) (a : Option Addr) (p cap : Nat) (pre : List UInt8) (hp : pre.length = p) (h : Rd w a (pre.map B)) (hpb : p ≤ 2147483647)
    (b : Option Addr) (q cap2 : Nat) (post : List UInt8) (hq : post.length = q) (h2 : Rd w b (post.map B)) (hqb : q ≤ 2147483647) (w' : World) (hw : w = w') :
    Calls Try.prog 5 #[.int .u64 n, .int .i64 i, .slice a p cap, .slice b q cap2] w' fun e W' => e = .returned (.bool true) ∧ Below w'.heap.size w' W' := by
  subst hw
  have hn : 0 ≤ n ∧ n ≤ 18446744073709551615 := by
    simp [Lit.wf, IntKind.min, IntKind.max, IntKind.bits, IntKind.signed] at wn
    omega
  obtain ⟨N, rfl⟩ : ∃ N : Nat, n = (N : Int) := ⟨n.toNat, by omega⟩
  exact nums_walk N i a b cap p cap2 q pre post w (by omega) (i64_of_wf wi) hp hq hpb hqb h h2
#print axioms nums_law
end Go.Proofs.Ytaipnbpefdcejaa
