/- The walk of JournalTears. -/
import Derived.Test.YtiebnfdjnclkcaaTells
import Derived.IntWalk
set_option linter.unusedVariables false
namespace Go.Proofs.Ytiebnfdjnclkcaa
open Go.RowKit

theorem scan_whole (ks : List (List UInt8)) (h : ∀ r ∈ ks, r ≠ []) : ScanIs (logOf ks) ks (logOf ks).length :=
  ⟨rfl, [], by simp, h, standB_short [] (by simp)⟩

set_option maxHeartbeats 4000000 in
theorem tears_walk (a b : Option Addr) (cap n cap2 m : Nat) (rs : List (List UInt8)) (pos : Int) (mo : List UInt8) (w : World) (hn : rs.length = n) (hB : logBound rs ≤ 2147483647) (h : RdR w a rs)
    (hm : mo.length = m) (hm2 : m ≤ 2147483647) (hmo : Rd w b (mo.map B)) (hp : -9223372036854775808 ≤ pos ∧ pos ≤ 9223372036854775807) :
    Calls Try.prog 10 #[.slice a n cap, .int .i64 pos, .slice b m cap2] w fun e w' => e = .returned (.bool true) ∧ Below w.heap.size w w' := by
  have HN := Lib.hid hn
  have HM := Lib.hid hm
  have hkb := logBound_keep rs
  have HB := Lib.hid hB
  have hnB : n ≤ 2147483647 := by have := logBound_len rs; omega
  clear hn hm
  go_enter Try.func10, Try.ntmps10
  go_wp2_with fail
  refine (beyond_small a cap n rs w HN.out HB.out h).mono ?_
  rintro e w1 ⟨rfl, rfl⟩
  go_wp2_with fail
  refine (written_any a cap n rs w HN.out HB.out h).mono ?_
  rintro e w1 ⟨a1, c1, vs, a2, c2, a3, c3, rfl, hown1, hkept, hown2, hown3, hb1⟩
  have hlen : (logOf (keep rs)).length ≤ 2147483647 := by omega
  obtain ⟨ks, hks⟩ : ∃ ks, ks = keep rs := ⟨_, rfl⟩
  have hne : ∀ r ∈ ks, r ≠ [] := by rw [hks]; exact keep_ne
  rw [← hks] at hown1 hkept hown2 hown3 hlen ⊢
  have hkl := logOf_len ks hne
  obtain ⟨L, hL⟩ : ∃ L, L = (logOf ks).length := ⟨_, rfl⟩
  obtain ⟨M, hM⟩ : ∃ M, M = ks.length := ⟨_, rfl⟩
  rw [← hL] at hown2 hlen hkl ⊢
  rw [← hM] at hown3 hkl ⊢
  have hk1 := hkept.rdR hown1
  have hck1 := own_cap hown1
  have hcl1 := own_cap hown2
  rw [← hM] at hck1
  have hl1 := ownsRow_rd hown2
  have he1 := ownsRow_rd hown3
  have hmo1 := hmo.below hb1
  have HLn := Lib.hid hL
  have HMn := Lib.hid hM
  have HNE := Lib.hid hne
  have hen : (endsOf ks).length = M := by rw [endsOf_len, HMn.out]
  have HEN := Lib.hid hen
  obtain ⟨j, hj, hcase⟩ : ∃ j : Nat, j ≤ L ∧ ((pos < 0 ∧ j = L) ∨ ((L : Int) < pos ∧ j = L) ∨ pos = (j : Int)) := by
    by_cases h1 : pos < 0
    · exact ⟨L, Nat.le_refl _, .inl ⟨h1, rfl⟩⟩
    · by_cases h2 : (L : Int) < pos
      · exact ⟨L, Nat.le_refl _, .inr (.inl ⟨h2, rfl⟩)⟩
      · exact ⟨pos.toNat, by omega, .inr (.inr (by omega))⟩
  have hwl := wholeN_le (endsOf ks) (j : Int)
  rw [HEN.out] at hwl
  have hsc := scan_cut ks HNE.out (by have := HLn.out; simp only [big]; omega) j (by rw [← HLn.out]; exact hj)
  obtain ⟨K, hK⟩ : ∃ K, K = wholeN (endsOf ks) (j : Int) := ⟨_, rfl⟩
  rw [← hK] at hwl hsc
  have hUj := hsc.le
  rw [List.length_take] at hUj
  have hjl : ((logOf ks).take j).length = j := by rw [List.length_take, ← HLn.out]; omega
  have htk := hsc.take
  obtain ⟨U, hU⟩ : ∃ U, U = upToN ks K := ⟨_, rfl⟩
  have hUL : (logOf (ks.take K)).length = U := by rw [hU]; rfl
  rw [← hU] at hsc hUj htk
  rw [List.take_take, Nat.min_eq_left (by omega)] at htk
  have hsl := slice_to a2 L c2 j (by omega)
  have hslU := slice_to a2 L c2 U (by omega)
  have hslK := slice_toR a1 M c1 K (by omega)
  have hkk : (ks.take K).length = K := by rw [List.length_take, ← HMn.out]; omega
  have hlr : ∀ x ∈ ks.take K, x.length ≤ 140737488355328 := by
    intro x hx
    have h1 := logOf_mem_len (List.mem_of_mem_take hx)
    rw [← HLn.out] at h1
    omega
  have hneK : ∀ r ∈ ks.take K, r ≠ [] := fun r hr => HNE.out r (List.mem_of_mem_take hr)
  have hlj : Rd w1 a2 (((logOf ks).take j).map B) := by rw [List.map_take]; exact hl1.take j
  have hlU : Rd w1 a2 ((logOf (ks.take K)).map B) := by rw [← htk, List.map_take]; exact hl1.take U
  have hkK := hk1.take K
  have HSC := Lib.hid hsc
  have HJL := Lib.hid hjl
  have HUL := Lib.hid hUL
  have HLR := Lib.hid hlr
  have HKK := Lib.hid hkk
  have HK := Lib.hid hK
  have HNK := Lib.hid hneK
  have HU := Lib.hid hU
  have hUb : U ≤ 2147483647 := by omega
  have hjb : j ≤ 2147483647 := by omega
  have hjc : j ≤ c2 := by omega
  have hwl2 : K ≤ M := hwl
  have hMb : M ≤ 2147483647 := by omega
  clear hown1 hown2 hown3 hkept hks hL hM hne hen hsc hUj hjl htk hU hUL hkk hlr hK hneK hwl hlen hkl hck1 hcl1 hkb HLn hmo hl1 hk1
  clear hB
  rcases hcase with ⟨h1, h2⟩ | ⟨h1, h2⟩ | h2 <;> subst h2
  all_goals (
    go_wp2_with fail
    refine (whole_any a3 c3 M (endsOf ks) (j : Int) w1 HEN.out (by omega) he1).mono ?_
    rintro e _ ⟨rfl, rfl⟩
    rw [← HK.out]
    go_wp2_with fail
    refine (scan_any a2 c2 j ((logOf ks).take j) w1 HJL.out hjc (by omega) hlj).mono ?_
    rintro e w2 ⟨a8, c8, vs8, rs8, k8, rfl, hown8, hrecs8, hdis8, hscan8, hb2⟩
    obtain ⟨hre, hke⟩ := hscan8.unique HSC.out (by rw [HJL.out]; simp only [big]; omega)
    subst hre
    rw [hke]
    clear hke
    have bb2 := hb1.trans (hb2.mono hb1.size)
    have hkK2 := hkK.below hb2
    have he2 := he1.below hb2
    have hlj2 := hlj.below hb2
    have hlU2 := hlU.below hb2
    have hmo2 := hmo1.below hb2
    have hs2 := hrecs8.rdR hown8
    rw [HKK.out]
    clear hkK he1 hlj hlU hmo1 hown8 hrecs8 hdis8 hscan8
    go_wp2_with fail
    refine (alike_any a8 a1 c8 c1 K K (ks.take K) (ks.take K) w2 HKK.out HKK.out (by omega) HLR.out hs2 hkK2).mono ?_
    rintro e w3 ⟨rfl, hb3⟩
    have bb3 := bb2.trans (hb3.mono bb2.size)
    have hkK3 := hkK2.below hb3
    have he3 := he2.below hb3
    have hlj3 := hlj2.below hb3
    have hlU3 := hlU2.below hb3
    have hmo3 := hmo2.below hb3
    clear hkK2 he2 hlj2 hlU2 hmo2 hs2
    rw [beq_self_eq_true]
    have hUU := int_neq_self (U : Int)
    go_wp2_with fail
    refine (upTo_any a3 c3 M K ks w3 HMn.out.symm hwl2 (by omega) he3).mono ?_
    rintro e _ ⟨rfl, rfl⟩
    rw [← HU.out]
    go_wp2_with fail
    refine (repair_any a2 c2 j ((logOf ks).take j) w3 HJL.out hjc (by omega) hlj3).mono ?_
    rintro e w4 ⟨a9, c9, rs9, k9, hscan9, rfl, hown9, hb4⟩
    obtain ⟨hre, hke⟩ := hscan9.unique HSC.out (by rw [HJL.out]; simp only [big]; omega)
    rw [hre, hke] at hown9
    rw [hke]
    have bb4 := bb3.trans (hb4.mono bb3.size)
    have hkK4 := hkK3.below hb4
    have hlU4 := hlU3.below hb4
    have hmo4 := hmo3.below hb4
    have hr4 := ownsRow_rd hown9
    clear hkK3 he3 hlj3 hlU3 hmo3 hown9 hscan9 hre hke
    go_wp2_with fail
    refine (same_n a9 a2 c9 c2 U U _ _ w4 HUL.out HUL.out (by omega) hr4 hlU4).mono ?_
    rintro e w5 ⟨rfl, hb5⟩
    have bb5 := bb4.trans (hb5.mono bb4.size)
    have hkK5 := hkK4.below hb5
    have hmo5 := hmo4.below hb5
    have hr5 := hr4.below hb5
    clear hkK4 hlU4 hmo4 hr4
    rw [beq_self_eq_true]
    by_cases hm0 : m = 0
    · have hmz : ((m : Int) == 0) = true := by rw [hm0]; rfl
      subst hm0
      go_wp2
      go_ret
      exact ⟨rfl, bb5⟩
    · have hmz : ((m : Int) == 0) = false := eql_of' (by omega)
      go_wp2_with fail
      refine (append_some a9 b c9 cap2 U m _ mo w5 HUL.out HM.out (by omega) (by omega) (by omega) hr5 hmo5).mono ?_
      rintro e w6 ⟨a10, c10, rfl, hown10, hb6⟩
      have bb6 := bb5.trans (hb6.mono bb5.size)
      have hkK6 := hkK5.below hb6
      have hmo6 := hmo5.below hb6
      have hAp : appB (logOf (ks.take K)) mo = logOf (ks.take K ++ [mo]) := by rw [logOf_snoc]; rfl
      have hALn : (logOf (ks.take K ++ [mo])).length = U + 25 + m := by rw [logOf_snoc, List.length_append, recB_len, HUL.out, HM.out]; omega
      rw [hAp] at hown10
      have hr6 := ownsRow_rd hown10
      have hc10 := own_cap hown10
      have hsc2 := scan_whole (ks.take K ++ [mo]) (by
        intro r hr
        rcases List.mem_append.1 hr with h1 | h1
        · exact HNK.out r h1
        · simp at h1; subst h1; intro h0; rw [h0] at HM; exact hm0 HM.out.symm)
      rw [hALn] at hsc2
      have HAL := Lib.hid hALn
      have HS2 := Lib.hid hsc2
      obtain ⟨N, hN⟩ : ∃ N, N = U + 25 + m := ⟨_, rfl⟩
      rw [← hN] at hc10 ⊢
      have HNN := Lib.hid hN
      have hNb : N ≤ 8589934592 := by omega
      clear hkK5 hmo5 hr5 hown10 hAp hALn hsc2 hN
      go_wp2_with fail
      refine (scan_any a10 c10 N (logOf (ks.take K ++ [mo])) w6 (by rw [HAL.out, HNN.out]) hc10 (by omega) hr6).mono ?_
      rintro e w7 ⟨a11, c11, vs11, rs11, k11, rfl, hown11, hrecs11, hdis11, hscan11, hb7⟩
      obtain ⟨hre, hke⟩ := hscan11.unique HS2.out (by rw [HAL.out]; simp only [big]; omega)
      subst hre
      rw [← HNN.out] at hke
      rw [hke]
      have bb7 := bb6.trans (hb7.mono bb6.size)
      have hkK7 := hkK6.below hb7
      have hmo7 := hmo6.below hb7
      have hs7 := hrecs11.rdR hown11
      have hc11 := own_cap hown11
      have hl11 : (ks.take K ++ [mo]).length = K + 1 := by rw [List.length_append, HKK.out]; rfl
      obtain ⟨K1, hK1⟩ : ∃ K1, K1 = K + 1 := ⟨_, rfl⟩
      rw [← hK1] at hl11
      rw [hl11] at hc11 ⊢
      have htk11 : (ks.take K ++ [mo]).take K = ks.take K := by rw [List.take_append_of_le_length (by rw [HKK.out]; omega), List.take_of_length_le (by rw [HKK.out]; omega)]
      have hs7K := hs7.take K
      rw [htk11] at hs7K
      obtain ⟨g5, off5, b6, c6, rfl, hc6, hrc6⟩ := hs7.at K (by rw [hl11]; omega)
      have hgt : (ks.take K ++ [mo])[K]'(by rw [hl11]; omega) = mo := by
        have h9 : (ks.take K ++ [mo])[K]? = some mo := by rw [List.getElem?_append_right (by rw [HKK.out]; omega), HKK.out]; simp
        rw [List.getElem?_eq_getElem (by rw [hl11]; omega)] at h9
        exact Option.some.inj h9
      rw [hgt] at hc6 hrc6
      rw [HM.out] at hc6
      have hsl11 := slice_toR (some ⟨g5, off5, none⟩) K1 c11 K (by omega)
      have hNN := int_eql_self (N : Int)
      clear hkK6 hmo6 hown11 hrecs11 hdis11 hscan11 hke hl11 htk11 hs7 hgt hr6
      have hkK7' : RdR w7.drew a1 (ks.take K) := hkK7
      have hs7K' : RdR w7.drew (some ⟨g5, off5, none⟩) (ks.take K) := hs7K
      have hmo7' : Rd w7.drew b (mo.map B) := hmo7
      have hrc6' : Rd w7.drew b6 (mo.map B) := hrc6
      have hblk := World.block_lt_of_cell? w7 _ hc6
      clear hkK7 hs7K hmo7 hrc6
      have hwr : IntKind.i64.wrap ((K : Int) + 1) = (K : Int) + 1 := IntWalk.i64_in _ (by omega)
      have hKK : (((K1 : Nat) : Int) == (K : Int) + 1) = true := by rw [hK1]; simp
      have hix0 : (0 : Int) ≤ (K : Int) := by omega
      have hix : (K : Int) < (K1 : Int) := by omega
      have HK1 := Lib.hid hK1
      clear hK1
      go_wp2
      go_region_held3 (fun W => W.cell? ⟨g5, off5 + K, none⟩ = some (.slice b6 m c6)) (first | exact hc6 | assumption)
        (first | (go_at_call 20; refine (alike_any (some ⟨g5, off5, none⟩) a1 c11 c1 K K (ks.take K) (ks.take K) _ HKK.out HKK.out (by omega) HLR.out hs7K' hkK7').mono ?_; rintro e w8 ⟨rfl, hb8⟩; rw [beq_self_eq_true]; have hc68 := (hb8.cell (p := ⟨g5, off5 + K, none⟩) hblk).trans hc6) |
          (go_at_call 14; refine (same_n b6 b c6 cap2 m m mo mo _ HM.out HM.out (by omega) (hrc6'.below hb8) (hmo7'.below hb8)).mono ?_; rintro e w9 ⟨rfl, hb9⟩; rw [beq_self_eq_true]; have hc69 := (hb9.cell (p := ⟨g5, off5 + K, none⟩) (Nat.lt_of_lt_of_le hblk hb8.size)).trans hc68))
      have hb8' : Below w7.heap.size w7 w8 := ⟨hb8.os, hb8.tape, hb8.output, hb8.size, hb8.block⟩
      have bb8 := bb7.trans (hb8'.mono bb7.size)
      have bb9 := bb8.trans (hb9.mono bb8.size)
      clear hc68 hc69 hc6 hb8 hb9 hwr hKK
      go_wp2
      go_ret
      exact ⟨rfl, bb9⟩)

theorem tears_law {w : World} (a : Option Addr) (n cap : Nat) (rs : List (List UInt8)) (hn : rs.length = n) (h : RdR w a rs) (hB : logBound rs ≤ 2147483647)
    (pos : Int) (wp : (Lit.int .i64 pos).wf = true) (b : Option Addr) (m cap2 : Nat) (mo : List UInt8) (hm : mo.length = m) (hmo : Rd w b (mo.map B)) (hm2 : m ≤ 2147483647) (w' : World) (hw : w = w') :
    Calls Try.prog 10 #[.slice a n cap, .int .i64 pos, .slice b m cap2] w' fun e W' => e = .returned (.bool true) ∧ Below w'.heap.size w' W' := by
  subst hw
  exact tears_walk a b cap n cap2 m rs pos mo w hn hB h hm hm2 hmo (i64_of_wf wp)
#print axioms tears_law
end Go.Proofs.Ytiebnfdjnclkcaa
