/- The walk of JournalTells. -/
import Derived.Test.YtiebnfdjnclkcaaRecs
import Derived.Test.YtiebnfdjnclkcaaTellP
import Derived.Test.YtiebnfdjnclkcaaScans
import Derived.Test.YtiebnfdjnclkcaaSteps
set_option linter.unusedVariables false
namespace Go.Proofs.Ytiebnfdjnclkcaa
open Go.RowKit

theorem scan_one (u : UInt8) : ScanIs (appB [] [u]) [[u]] 26 := by
  refine ⟨by simp [logOf, recB_len], [], by simp [appB, logOf, recB], by simp, standB_short [] (by simp)⟩

set_option maxHeartbeats 2000000 in
theorem tells_walk (a : Option Addr) (cap n : Nat) (rs : List (List UInt8)) (pos : Int) (u : UInt8) (w : World) (hn : rs.length = n) (hmax : n ≤ 140737488351232) (hl : ∀ r ∈ rs, r.length ≤ 140737488351232) (h : RdR w a rs)
    (hp : -9223372036854775808 ≤ pos ∧ pos ≤ 9223372036854775807) :
    Calls Try.prog 7 #[.slice a n cap, .int .i64 pos, .int .u8 (u.toNat : Int)] w fun e w' => e = .returned (.bool true) ∧ Below w.heap.size w w' := by
  have HN := Lib.hid hn
  have HL := Lib.hid hl
  clear hn hl
  go_enter Try.func7, Try.ntmps7
  go_wp2_with fail
  refine (beyond_any a cap n rs w HN.out (by omega) (fun r hr => Nat.le_trans (HL.out r hr) (by omega)) h).mono ?_
  rintro e w1 ⟨rfl, rfl⟩
  by_cases hbig : 2147483647 < logBound rs
  · rw [decide_eq_true hbig]
    clear hbig
    go_wp2_with fail
    refine (begun_any w).mono ?_
    rintro e w1 ⟨rfl, hb1⟩
    go_wp2
    go_ret
    exact ⟨rfl, hb1⟩
  · rw [decide_eq_false hbig]
    go_wp2_with fail
    refine (written_any a cap n rs w HN.out (by omega) h).mono ?_
    rintro e w1 ⟨a1, c1, vs, a2, c2, a3, c3, rfl, hown1, hkept, hown2, hown3, hb1⟩
    have hlen : (logOf (keep rs)).length ≤ 2147483647 := by have := logBound_keep rs; omega
    obtain ⟨ks, hks⟩ : ∃ ks, ks = keep rs := ⟨_, rfl⟩
    have hne : ∀ r ∈ ks, r ≠ [] := by rw [hks]; exact keep_ne
    rw [← hks] at hown1 hkept hown2 hown3 hlen ⊢
    have hkl := logOf_len ks hne
    obtain ⟨L, hL⟩ : ∃ L, L = (logOf ks).length := ⟨_, rfl⟩
    obtain ⟨M, hM⟩ : ∃ M, M = ks.length := ⟨_, rfl⟩
    rw [← hL] at hown2 hlen hkl ⊢
    rw [← hM] at hown3 hkl ⊢
    have hk1 := hkept.rdR hown1
    have hck1 := own_cap hown1
    rw [← hM] at hck1
    have hl1 := ownsRow_rd hown2
    have he1 := ownsRow_rd hown3
    have HKS := Lib.hid hks
    have HLn := Lib.hid hL
    have HMn := Lib.hid hM
    have HNE := Lib.hid hne
    clear hown1 hown2 hown3 hkept hks hL hM hne hbig
    have hrd : Rd (w1.alloc (.cells #[.int .u8 (u.toNat : Int)] 5)) (some ⟨w1.heap.size, 0, none⟩) ([u].map B) := rd_new w1 #[B u] 5
    have hal : Below w1.heap.size w1 (w1.alloc (.cells #[.int .u8 (u.toNat : Int)] 5)) := (Below.refl _ _).alloc (Nat.le_refl _) _
    go_wp2_with fail
    refine (append_some none (some ⟨w1.heap.size, 0, none⟩) 0 1 0 1 [] [u] (w1.alloc (.cells #[.int .u8 (u.toNat : Int)] 5)) rfl rfl (by omega) (by omega) (by omega) (Rd.nil _ _) hrd).mono ?_
    rintro e w2 ⟨a4, c4, rfl, hown4, hb2⟩
    have hb2' : Below w1.heap.size w1 w2 := hal.trans (hb2.mono (by simp))
    have bb2 := hb1.trans (hb2'.mono hb1.size)
    have hk2 := hk1.below hb2'
    have hl2 := hl1.below hb2'
    have he2 := he1.below hb2'
    have ho2 := ownsRow_rd hown4
    have hc4 := own_cap hown4
    clear hk1 hl1 he1 hown4 hrd hal hb2
    rw [show 0 + 25 + 1 = 26 from rfl] at hc4 ⊢
    go_wp2_with fail
    refine (scan_any a4 c4 26 (appB [] [u]) w2 (by simp [appB, headB_len]) hc4 (by omega) ho2).mono ?_
    rintro e w3 ⟨a5, c5, vs5, rs5, k5, rfl, hown5, hrecs5, hdis5, hscan5, hb3⟩
    obtain ⟨hre, hke⟩ := hscan5.unique (scan_one u) (by simp [appB, headB_len, big])
    subst hre
    subst hke
    have bb3 := bb2.trans (hb3.mono bb2.size)
    have hk3 := hk2.below hb3
    have hl3 := hl2.below hb3
    have he3 := he2.below hb3
    have hs3 := hrecs5.rdR hown5
    clear hk2 hl2 he2 ho2 hown5 hrecs5 hdis5 hscan5 hc4
    obtain ⟨g5, off5, b6, c6, rfl, hc6, hr6⟩ := hs3.at 0 (by simp)
    have hr6' : Rd w3 b6 ([u].map B) := hr6
    have hc6' : w3.cell? ⟨g5, off5, none⟩ = some (.slice b6 1 c6) := hc6
    have hrd : Rd (w3.alloc (.cells #[.int .u8 (u.toNat : Int)] 5)) (some ⟨w3.heap.size, 0, none⟩) ([u].map B) := rd_new w3 #[B u] 5
    have hal : Below w3.heap.size w3 (w3.alloc (.cells #[.int .u8 (u.toNat : Int)] 5)) := (Below.refl _ _).alloc (Nat.le_refl _) _
    have hr7 := hr6'.below hal
    have hk3' := hk3.below hal
    have hl3' := hl3.below hal
    have he3' := he3.below hal
    have bb3' := bb3.trans (hal.mono bb3.size)
    go_wp2_with fail
    refine (same_n b6 (some ⟨w3.heap.size, 0, none⟩) c6 1 1 1 [u] [u] (w3.alloc (.cells #[.int .u8 (u.toNat : Int)] 5)) rfl rfl (by omega) hr7 hrd).mono ?_
    rintro e w4 ⟨rfl, hb4⟩
    have bb4 := bb3'.trans (hb4.mono bb3'.size)
    have hk4 := hk3'.below hb4
    have hl4 := hl3'.below hb4
    have he4 := he3'.below hb4
    clear hk3 hl3 he3 hk3' hl3' he3' hr7 hrd hal hc6 hc6' hr6 hr6' hs3 bb3 bb3' hb4 bb2 hb2' hb1 hb3
    rw [beq_self_eq_true]
    by_cases hlo : pos < 0
    · go_wp2
      go_ret
      exact ⟨rfl, bb4⟩
    · obtain ⟨j, rfl⟩ : ∃ j : Nat, pos = (j : Int) := ⟨pos.toNat, by omega⟩
      by_cases hhi : L ≤ j
      · have hge : (L : Int) ≤ j := by omega
        go_wp2
        go_ret
        exact ⟨rfl, bb4⟩
      · have hlt : (j : Int) < L := by omega
        have hjl : j < (logOf ks).length := by rw [← HLn.out]; omega
        obtain ⟨gb, goff, rfl, hcs⟩ := hl4.cells (by intro h0; rw [List.map_eq_nil_iff] at h0; rw [h0] at hjl; simp at hjl)
        have hcj := hcs j (by rw [List.length_map]; exact hjl)
        rw [List.getElem_map, B] at hcj
        by_cases hy : (logOf ks)[j] = u
        · rw [hy] at hcj
          clear hcs
          have huu := int_eql_self (u.toNat : Int)
          go_wp2
          go_ret
          exact ⟨rfl, bb4⟩
        · have hyn : (((logOf ks)[j].toNat : Int) == (u.toNat : Int)) = false := eql_of' (fun hh => hy (UInt8.toNat_inj.1 (by omega)))
          obtain ⟨v, hv⟩ : ∃ v, v = (logOf ks)[j] := ⟨_, rfl⟩
          rw [← hv] at hcj hyn
          have HY := Lib.hid hy
          clear hcs hv hy
          go_wp2_with fail
          refine (twin_n _ c2 L (logOf ks) w4 HLn.out.symm (by omega) hl4).mono ?_
          rintro e w5 ⟨a7, c7, rfl, hown7, hb5⟩
          obtain ⟨g7, rfl, hg7, hg7'⟩ := own_some hown7 (by omega)
          have hcell7 := hown7.cellAt j (by omega)
          rw [List.getElem?_map, List.getElem?_eq_getElem hjl, Option.map_some, B] at hcell7
          have hfr := hown7.frozenAt j
          have hst := (hown7.stored j (B u)).1
          rw [← List.map_set] at hst
          have HST := Lib.hid (ownsRow_rd hst)
          have hcap7 := own_cap hst
          have hb6 := hb5.setCell (p := ⟨g7, j, none⟩) hg7 (B u)
          have hk5 := hk4.below hb6
          have he5 := he4.below hb6
          have bb6 := bb4.trans (hb6.mono bb4.size)
          clear hst hb6 hk4 he4 hl4 hb5 bb4 hown7
          unfold B at HST hk5 he5 bb6
          have hen : (endsOf ks).length = M := by rw [endsOf_len, HMn.out]
          have HEN := Lib.hid hen
          clear hen
          obtain ⟨w6, hw6⟩ : ∃ w6, w6 = w5.setCell ⟨g7, j, none⟩ (Value.int .u8 (u.toNat : Int)) := ⟨_, rfl⟩
          rw [← hw6] at HST hk5 he5 bb6
          go_wp2_with fail
          refine (whole_any a3 c3 M (endsOf ks) (j : Int) _ HEN.out (by omega) (by rw [← hw6]; exact he5)).mono ?_
          rintro e _ ⟨rfl, rfl⟩
          rw [← hw6]
          clear hcell7 hfr hw6
          have hwl := wholeN_le (endsOf ks) (j : Int)
          rw [HEN.out] at hwl
          have hsc := scan_bad ks HNE.out (by have := HLn.out; simp only [big]; omega) j hjl u HY.out
          obtain ⟨K, hK⟩ : ∃ K, K = wholeN (endsOf ks) (j : Int) := ⟨_, rfl⟩
          rw [← hK] at hwl hsc ⊢
          have HSC := Lib.hid hsc
          clear hK hsc
          go_wp2_with fail
          refine (scan_any _ c7 L ((logOf ks).set j u) w6 (by rw [List.length_set]; exact HLn.out.symm) hcap7 (by omega) HST.out).mono ?_
          rintro e w7 ⟨a8, c8, vs8, rs8, k8, rfl, hown8, hrecs8, hdis8, hscan8, hb7⟩
          obtain ⟨hre, hke⟩ := hscan8.unique HSC.out (by rw [List.length_set]; have := HLn.out; simp only [big]; omega)
          subst hre
          subst hke
          have bb7 := bb6.trans (hb7.mono bb6.size)
          have hk7 := hk5.below hb7
          have he7 := he5.below hb7
          have hs7 := hrecs8.rdR hown8
          clear hk5 he5 hown8 hrecs8 hdis8 hscan8
          have hsl := slice_toR a1 M c1 K (by omega)
          have hkk : (ks.take K).length = K := by rw [List.length_take, ← HMn.out]; omega
          have hlr : ∀ x ∈ ks.take K, x.length ≤ 140737488355328 := by
            intro x hx
            have h1 := logOf_mem_len (List.mem_of_mem_take hx)
            rw [← HLn.out] at h1
            omega
          have HLR := Lib.hid hlr
          have hk8 := hk7.take K
          rw [hkk]
          have HKK := Lib.hid hkk
          clear hk7 hlr hkk
          go_wp2_with fail
          refine (alike_any a8 a1 c8 c1 K K (ks.take K) (ks.take K) w7 HKK.out HKK.out (by omega) HLR.out hs7 hk8).mono ?_
          rintro e w8 ⟨rfl, hb8⟩
          have bb8 := bb7.trans (hb8.mono bb7.size)
          have he8 := he7.below hb8
          clear he7 hs7 hk8 bb7 hsl
          rw [beq_self_eq_true]
          go_wp2_with fail
          refine (upTo_any a3 c3 M K ks w8 HMn.out.symm hwl (by omega) he8).mono ?_
          rintro e _ ⟨rfl, rfl⟩
          have huu := int_eql_self (upToN ks K : Int)
          go_wp2
          go_ret
          exact ⟨rfl, bb8⟩

theorem tells_law {w : World} (a : Option Addr) (n cap : Nat) (rs : List (List UInt8)) (hn : rs.length = n) (h : RdR w a rs) (z : rs.length ≤ 140737488351232) (zz : ∀ r ∈ rs, r.length ≤ 140737488351232)
    (pos : Int) (wp : (Lit.int .i64 pos).wf = true) (y : Int) (wy : (Lit.int .u8 y).wf = true) (w' : World) (hw : w = w') :
    Calls Try.prog 7 #[.slice a n cap, .int .i64 pos, .int .u8 y] w' fun e W' => e = .returned (.bool true) ∧ Below w'.heap.size w' W' := by
  subst hw
  obtain ⟨y, rfl⟩ := byte_of_wf wy
  exact tells_walk a cap n rs pos y w hn (by omega) zz h (i64_of_wf wp)
#print axioms tells_law
end Go.Proofs.Ytiebnfdjnclkcaa
