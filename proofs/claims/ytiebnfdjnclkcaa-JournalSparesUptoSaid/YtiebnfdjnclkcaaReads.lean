/- The walk of JournalReads. -/
import Derived.Test.YtiebnfdjnclkcaaTells
import Derived.IntWalk
set_option linter.unusedVariables false
namespace Go.Proofs.Ytiebnfdjnclkcaa
open Go.RowKit

theorem keep_id {rs : List (List UInt8)} (h : ∀ r ∈ rs, r ≠ []) : keep rs = rs := by
  rw [keep, List.filter_eq_self]
  intro r hr
  have := h r hr
  simpa using this
theorem logBound_eq (rs : List (List UInt8)) : logBound rs = (logOf rs).length := by
  induction rs with
  | nil => rfl
  | cons r rs ih => rw [logOf_cons, List.length_append, recB_len, ← ih]; simp [logBound]
theorem scan_ahead {ks : List (List UInt8)} {bl : List UInt8} {rs : List (List UInt8)} {k : Nat} (hk : ∀ r ∈ ks, r ≠ []) (h : ScanIs bl rs k) : ScanIs (logOf ks ++ bl) (ks ++ rs) ((logOf ks).length + k) := by
  obtain ⟨rfl, rest, e, h1, h2⟩ := h
  refine ⟨by rw [logOf_append, List.length_append], rest, by rw [logOf_append, e, List.append_assoc], fun r hr => ?_, h2⟩
  rcases List.mem_append.1 hr with h3 | h3
  · exact hk r h3
  · exact h1 r h3

set_option maxHeartbeats 4000000 in
theorem reads_walk (a b : Option Addr) (cap n cap2 m : Nat) (rs : List (List UInt8)) (bl : List UInt8) (w : World) (hn : rs.length = n) (hB : logBound rs ≤ 2147483647) (h : RdR w a rs)
    (hm : bl.length = m) (hm2 : m ≤ 2147483647) (hmc : m ≤ cap2) (hb : Rd w b (bl.map B)) :
    Calls Try.prog 8 #[.slice a n cap, .slice b m cap2] w fun e w' => e = .returned (.bool true) ∧ Below w.heap.size w w' := by
  have HN := Lib.hid hn
  have HM := Lib.hid hm
  have hkb := logBound_keep rs
  have HB := Lib.hid hB
  have hnB : n ≤ 2147483647 := by have := logBound_len rs; omega
  clear hn hm
  go_enter Try.func8, Try.ntmps8
  go_wp2_with fail
  refine (beyond_small a cap n rs w HN.out HB.out h).mono ?_
  rintro e w1 ⟨rfl, rfl⟩
  go_wp2_with fail
  refine (written_any a cap n rs w HN.out HB.out h).mono ?_
  rintro e w1 ⟨a1, c1, vs, a2, c2, a3, c3, rfl, hown1, hkept, hown2, hown3, hb1⟩
  have hlen : (logOf (keep rs)).length ≤ 2147483647 := by omega
  obtain ⟨ks, hks⟩ : ∃ ks, ks = keep rs := ⟨_, rfl⟩
  have hne : ∀ r ∈ ks, r ≠ [] := by rw [hks]; exact keep_ne
  rw [← hks] at hown1 hkept hown2 hown3 hlen ⊢
  have hkl := logOf_len ks hne
  obtain ⟨L, hL⟩ : ∃ L, L = (logOf ks).length := ⟨_, rfl⟩
  obtain ⟨M, hM⟩ : ∃ M, M = ks.length := ⟨_, rfl⟩
  rw [← hL] at hown2 hlen hkl ⊢
  rw [← hM] at hown3 hkl ⊢
  have hk1 := hkept.rdR hown1
  have hl1 := ownsRow_rd hown2
  have hb_1 := hb.below hb1
  have HLn := Lib.hid hL
  have HMn := Lib.hid hM
  have HNE := Lib.hid hne
  have hMb : M ≤ 2147483647 := by omega
  clear hown1 hown2 hown3 hkept hks hL hM hne hkl hkb hB
  go_wp2_with fail
  refine (scan_any b cap2 m bl w1 HM.out hmc (by omega) hb_1).mono ?_
  rintro e w2 ⟨a8, c8, vs8, ls, k8, rfl, hown8, hrecs8, hdis8, hscan8, hb2⟩
  have hkle := hscan8.le
  have htk := hscan8.take
  have hkeq := hscan8.1
  have hlne := hscan8.2.choose_spec.2.1
  have hkid := keep_id hlne
  have hlb := logBound_eq ls
  have hll := logOf_len ls hlne
  rw [HM.out] at hkle
  rw [← hkeq] at hlb hll
  have bb2 := hb1.trans (hb2.mono hb1.size)
  have hk2 := hk1.below hb2
  have hl2 := hl1.below hb2
  have hb_2 := hb_1.below hb2
  have hs2 := hrecs8.rdR hown8
  have hc8 := own_cap hown8
  have hbt2 : Rd w2 b ((logOf ls).map B) := by rw [← htk, List.map_take]; exact hb_2.take k8
  obtain ⟨p, hp⟩ : ∃ p, p = ls.length := ⟨_, rfl⟩
  rw [← hp] at hll hc8 ⊢
  have hpb : p ≤ 2147483647 := by omega
  have hsm := scan_small hscan8 HM.out (by omega)
  have HSM := Lib.hid hsm.2
  have HSC := Lib.hid hscan8
  have HKE := Lib.hid hkeq
  have HP := Lib.hid hp
  have HKI := Lib.hid hkid
  have HLNE := Lib.hid hlne
  have HLB := Lib.hid hlb
  have hk0 : (0 : Int) ≤ (k8 : Int) := by omega
  have hk1' : (k8 : Int) ≤ (m : Int) := by omega
  clear hown8 hrecs8 hdis8 hscan8 hk1 hl1 hb_1 htk hkeq hlne hkid hlb hsm hp hll
  go_wp2_with fail
  refine (written_any a8 c8 p ls w2 HP.out.symm (by rw [HLB.out]; omega) hs2).mono ?_
  rintro e w3 ⟨a4, c4, vs4, a5, c5, a6, c6, rfl, hown4, hkept4, hown5, hown6, hb3⟩
  rw [HKI.out, ← HKE.out] at hown5
  rw [HKI.out, ← HKE.out, ← HP.out]
  have bb3 := bb2.trans (hb3.mono bb2.size)
  have hk3 := hk2.below hb3
  have hl3 := hl2.below hb3
  have hb_3 := hb_2.below hb3
  have hs3 := hs2.below hb3
  have hbt3 := hbt2.below hb3
  have hr3 := ownsRow_rd hown5
  have hsl := slice_to b m cap2 k8 (by omega)
  have hpp := int_neq_self (p : Int)
  clear hown4 hkept4 hown5 hown6 hk2 hl2 hb_2 hs2 hbt2
  have hr3' : Rd w3.drew a5 ((logOf ls).map B) := hr3
  have hbt3' : Rd w3.drew b ((logOf ls).map B) := hbt3
  have hb_3' : Rd w3.drew b (bl.map B) := hb_3
  go_wp2
  go_region_held3 (fun _ => True) (trivial)
    (first | (go_at_call 14; have hr9 := ownsRow_rd hown9; refine (same_n a9 b c9 cap2 k8 k8 (logOf ls) (logOf ls) _ HKE.out.symm HKE.out.symm (by omega) hr9 ((hbt3'.below hb4).below hb5)).mono ?_; rintro e w6 ⟨rfl, hb6⟩; rw [beq_self_eq_true]) |
      (go_at_call 14; refine (same_n a5 b c5 cap2 k8 k8 (logOf ls) (logOf ls) _ HKE.out.symm HKE.out.symm (by omega) hr3' hbt3').mono ?_; rintro e w4 ⟨rfl, hb4⟩; rw [beq_self_eq_true]) |
      (go_at_call 18; refine (repair_any b cap2 m bl _ HM.out hmc (by omega) (hb_3'.below hb4)).mono ?_; rintro e w5 ⟨a9, c9, rs9, k9, hscan9, rfl, hown9, hb5⟩; obtain ⟨hre, hke⟩ := hscan9.unique HSC.out (by rw [HM.out]; simp only [big]; omega); rw [hre, hke] at hown9; rw [hke]))
  have hb4' : Below w3.heap.size w3 w4 := ⟨hb4.os, hb4.tape, hb4.output, hb4.size, hb4.block⟩
  have bb4 := bb3.trans (hb4'.mono bb3.size)
  have bb5 := bb4.trans (hb5.mono bb4.size)
  have bb6 := bb5.trans (hb6.mono bb5.size)
  have hk6 := ((hk3.below hb4').below hb5).below hb6
  have hl6 := ((hl3.below hb4').below hb5).below hb6
  have hb_6 := ((hb_3.below hb4').below hb5).below hb6
  have hs6 := ((hs3.below hb4').below hb5).below hb6
  clear hk3 hl3 hb_3 hs3 hbt3 hr3 hr3' hbt3' hb_3' hown9 hscan9 hre hke hsl hr9
  go_wp2_with fail
  refine (twin_n a2 c2 L (logOf ks) w6 HLn.out.symm (by omega) hl6).mono ?_
  rintro e w7 ⟨a7, c7, rfl, hown7, hb7⟩
  have bb7 := bb6.trans (hb7.mono bb6.size)
  have hb_7 := hb_6.below hb7
  have hz7 := hb7.size
  clear hl6 hb_6
  go_wp2_with (first | (at_builtin; refine app_b w7 rfl _ _ rfl w6.heap.size (.slice a7 L c7) L (logOf ks) rfl hown7 b m cap2 bl rfl HM.out hb_7 (by omega) hz7 ?_; intro a10 c10 w8 hown10 hb8 hmv8) | fail)
  have hb68 := hb7.trans hb8
  have bb8 := bb6.trans (hb68.mono bb6.size)
  have hk8 := hk6.below hb68
  have hs8 := hs6.below hb68
  have hr8 := ownsRow_rd hown10
  have hc10 := own_cap hown10
  have hsc2 := scan_ahead HNE.out HSC.out
  have hbl : (logOf ks ++ bl).length = L + m := by rw [List.length_append, ← HLn.out, HM.out]
  rw [← HLn.out] at hsc2
  have HS2 := Lib.hid hsc2
  have HBL := Lib.hid hbl
  obtain ⟨T, hT⟩ : ∃ T, T = L + m := ⟨_, rfl⟩
  rw [← hT] at hc10 ⊢
  have HT := Lib.hid hT
  have hTb : T ≤ 8589934592 := by omega
  clear hsc2 hbl hT hown7 hown10 hmv8 hb68 hb8 hb7 hb_7 hk6 hs6 bb7
  go_wp2_with fail
  refine (scan_any a10 c10 T (logOf ks ++ bl) w8 (by rw [HBL.out, HT.out]) hc10 (by omega) hr8).mono ?_
  rintro e w9 ⟨a11, c11, vs11, rs11, k11, rfl, hown11, hrecs11, hdis11, hscan11, hb9⟩
  obtain ⟨hre, hke⟩ := hscan11.unique HS2.out (by rw [HBL.out]; simp only [big]; omega)
  subst hre
  rw [hke]
  have bb9 := bb8.trans (hb9.mono bb8.size)
  have hk9 := hk8.below hb9
  have hs9 := hs8.below hb9
  have hx9 := hrecs11.rdR hown11
  have hc11 := own_cap hown11
  have hq : (ks ++ ls).length = M + p := by rw [List.length_append, ← HMn.out, HP.out]
  rw [hq] at hc11 ⊢
  obtain ⟨Q, hQ⟩ : ∃ Q, Q = M + p := ⟨_, rfl⟩
  rw [← hQ] at hc11 hq ⊢
  obtain ⟨Z, hZ⟩ : ∃ Z, Z = L + k8 := ⟨_, rfl⟩
  rw [← hZ]
  have hZc : (Z : Int) = (L : Int) + k8 := by omega
  have htM : (ks ++ ls).take M = ks := by rw [HMn.out, List.take_left]
  have hdM : (ks ++ ls).drop M = ls := by rw [HMn.out, List.drop_left]
  have hxK := hx9.take M
  rw [htM] at hxK
  obtain ⟨a12, hslF, hrF⟩ := slice_fromR a11 Q c11 M (by omega) hc11
  have hxL := hrF w9 (ks ++ ls) hq hx9
  rw [hdM] at hxL
  have hQM : Q - M = p := by omega
  rw [hQM] at hslF
  have hslK := slice_toR a11 Q c11 M (by omega)
  have hlks : ∀ x ∈ ks, x.length ≤ 140737488355328 := by
    intro x hx
    have h1 := logOf_mem_len hx
    rw [← HLn.out] at h1
    omega
  have HLKS := Lib.hid hlks
  have hxK' : RdR w9 a11 ks := hxK
  have hxL' : RdR w9 a12 ls := hxL
  have hk9' : RdR w9 a1 ks := hk9
  have hs9' : RdR w9 a8 ls := hs9
  have hM0 : (0 : Int) ≤ (M : Int) := by omega
  have hMQ : (M : Int) ≤ (Q : Int) := by omega
  have hp1 : p ≤ 140737488355328 := by omega
  have hM1 : M ≤ 140737488355328 := by omega
  have hZZ : ((Z : Int) == (L : Int) + k8) = true := by rw [hZc]; simp
  have hQQ : ((Q : Int) == (M : Int) + p) = true := by rw [hQ]; simp
  have hw1 : IntKind.i64.wrap ((L : Int) + k8) = (L : Int) + k8 := IntWalk.i64_in _ (by omega)
  have hw2 : IntKind.i64.wrap ((M : Int) + p) = (M : Int) + p := IntWalk.i64_in _ (by omega)
  clear hk8 hs8 hr8 hown11 hrecs11 hdis11 hscan11 hke hx9 hq hZc htM hdM hxK hxL hlks hk9 hs9 hrF hQM hQ hZ hkle hM0
  go_wp2_with fail
  refine (alike_any a11 a1 c11 c1 M M ks ks w9 HMn.out.symm HMn.out.symm hM1 HLKS.out hxK' hk9').mono ?_
  rintro e w10 ⟨rfl, hb10⟩
  rw [beq_self_eq_true]
  go_wp2_with fail
  refine (alike_any a12 a8 _ c8 p p ls ls w10 HP.out.symm HP.out.symm hp1 HSM.out (hxL'.below hb10) (hs9'.below hb10)).mono ?_
  rintro e w11 ⟨rfl, hb11⟩
  rw [beq_self_eq_true]
  have hb10' := hb10
  have bb10 := bb9.trans (hb10'.mono bb9.size)
  have bb11 := bb10.trans (hb11.mono bb10.size)
  clear hw1 hw2 hZZ hQQ hslF hslK
  go_wp2
  go_ret
  exact ⟨rfl, bb11⟩

theorem reads_law {w : World} (a : Option Addr) (n cap : Nat) (rs : List (List UInt8)) (hn : rs.length = n) (h : RdR w a rs) (hB : logBound rs ≤ 2147483647)
    (b : Option Addr) (m cap2 : Nat) (bl : List UInt8) (hm : bl.length = m) (hb : Rd w b (bl.map B)) (hm2 : m ≤ 2147483647) (hmc : m ≤ cap2) (w' : World) (hw : w = w') :
    Calls Try.prog 8 #[.slice a n cap, .slice b m cap2] w' fun e W' => e = .returned (.bool true) ∧ Below w'.heap.size w' W' := by
  subst hw
  exact reads_walk a b cap n cap2 m rs bl w hn hB h hm hm2 hmc hb
#print axioms reads_law
end Go.Proofs.Ytiebnfdjnclkcaa
