/- The walk of the reference's Uint. -/
import Derived.Test.YtaipnbpefdcejaaUintW
set_option linter.unusedVariables false
namespace Go.Proofs.Ytaipnbpefdcejaa
open Go.RowKit

set_option maxRecDepth 20000 in
set_option maxHeartbeats 1000000 in
theorem ruint_any (a : Option Addr) (cap n : Nat) (l : List UInt8) (pos : Int) (w : World) (hn : l.length = n) (hmax : n ≤ 140737488355328) (hp : -9223372036854775808 ≤ pos ∧ pos ≤ 9223372036854775807) (h : Rd w a (l.map B)) :
    Calls Try.prog 16 #[.slice a n cap, .int .i64 pos] w fun e w' => UPost l pos e ∧ Below w.heap.size w w' := by
  have HN := Lib.hid hn
  clear hn
  by_cases hout : pos < 0 ∨ (n : Int) < pos
  · go_enter Try.func16, Try.ntmps16
    rcases hout with h1 | h1
    · go_wp2
      go_ret3
      exact ⟨.inl ⟨.inl h1, rfl⟩, Below.refl _ _⟩
    · have hg : ¬ pos < 0 := by omega
      go_wp2
      go_ret3
      exact ⟨.inl ⟨.inr (by rw [HN.out]; exact h1), rfl⟩, Below.refl _ _⟩
  · obtain ⟨p, rfl⟩ : ∃ p : Nat, pos = (p : Int) := ⟨pos.toNat, by omega⟩
    have hpn : p ≤ n := by omega
    clear hout
    obtain ⟨s, hs⟩ : ∃ s, s = l.drop p := ⟨_, rfl⟩
    have hsl : s.length + p = n := by rw [hs, List.length_drop, HN.out]; omega
    have HS := Lib.hid hs
    have hin : ∀ e j, IsLast s j → e = .returned (uAns s (p : Int) j) → UPost l (p : Int) e := fun e j h1 h2 => .inr ⟨⟨by omega, by rw [HN.out]; omega⟩, j, by simpa [← HS.out] using h1, by simpa [← HS.out] using h2⟩
    have HIN := Lib.hid hin
    clear hin hs
    have hpp : ¬ (n : Int) < p := by omega
    have hcell : ∀ j, j < s.length → ∃ b off, a = some ⟨b, off, none⟩ ∧ ∀ i (hi : i < s.length), w.cell? ⟨b, off + (p + i), none⟩ = some (.int .u8 (s[i].toNat : Int)) := by
      intro j hj
      have hpl : p + j < l.length := by rw [HN.out]; omega
      obtain ⟨b, off, rfl, hcs⟩ := h.cells (by intro h0; rw [List.map_eq_nil_iff] at h0; rw [h0] at hpl; simp at hpl)
      refine ⟨b, off, rfl, fun i hi => ?_⟩
      have hpi : p + i < l.length := by rw [HN.out]; omega
      have hc := hcs (p + i) (by rw [List.length_map]; exact hpi)
      have hsk : l[p + i] = s[i] := by
        have h1 : s[i]? = l[p + i]? := by rw [HS.out, List.getElem?_drop]
        rw [List.getElem?_eq_getElem hi, List.getElem?_eq_getElem hpi] at h1
        exact (Option.some.inj h1).symm
      rw [List.getElem_map, hsk, B] at hc
      exact hc
    have HCELL := Lib.hid hcell
    clear hcell
    go_enter Try.func16, Try.ntmps16
    go_wp2
    go_loop [7] (fun i => ∃ k : Nat, k ≤ 9 ∧ k + p ≤ n ∧ i = .int .i64 ((p : Int) + k) ∧ (∀ i (h : i < s.length), i < k → 128 ≤ s[i].toNat)) (fun i => p + 10 - (intOf i).toNat)
    case atStart => exact ⟨0, by omega, by omega, by simp, fun i _ h => by omega⟩
    case round =>
      obtain ⟨k, hk9, hkn, rfl, hall⟩ := hrel
      by_cases hlt : k + p < n
      · have hkl : k < s.length := by omega
        obtain ⟨b, off, rfl, hcs⟩ := HCELL.out k hkl
        have hc := hcs k hkl
        have HCS := Lib.hid hcs
        have hcb := (s[k]).toNat_lt
        have hgd : s.getD k 0 = s[k] := by simp [hkl]
        have hlt' : (p : Int) + k < n := by omega
        have htn : ((p : Int) + k).toNat = p + k := by omega
        obtain ⟨c, hcc⟩ : ∃ c, c = s[k] := ⟨_, rfl⟩
        rw [← hcc] at hc hcb hgd
        obtain ⟨x, hx⟩ : ∃ x, x = c.toNat := ⟨_, rfl⟩
        rw [← hx] at hc hcb
        have HX := Lib.hid hx
        have HC := Lib.hid hcc
        have HG := Lib.hid hgd
        have HA := Lib.hid hall
        clear hcs hx hcc hgd hall
        by_cases hgo : k < 9 ∧ 128 ≤ x
        · have hk' : (p : Int) + k < (p : Int) + 9 := by omega
          have hx' : (128 : Int) ≤ x := by omega
          go_wp2
          go_round
          case rel =>
            refine ⟨k + 1, by omega, by omega, by go_num, ?_⟩
            intro i h1 h2
            by_cases h3 : i = k
            · subst h3; rw [← HC.out, ← HX.out]; omega
            · exact HA.out i h1 (by omega)
          case measure => simp [intOf]; omega
        · have hnl := eql_of' (a := (p : Int) + k) (b := (n : Int)) (by omega)
          have hlast : IsLast s k := ⟨by omega, by omega, HA.out, fun _ _ => by rw [← HC.out, ← HX.out]; omega⟩
          have HLAST := Lib.hid hlast
          clear hlast
          by_cases hk : k = 9
          · have hk9e := eql_of (a := (p : Int) + k) (b := (p : Int) + 9) (by omega)
            have hk' : ¬ (p : Int) + k < (p : Int) + 9 := by omega
            have hk0' : (p : Int) < (p : Int) + k := by omega
            have HK := Lib.hid hk
            by_cases hx1 : 1 < x
            · have hx1' : (1 : Int) < x := by omega
              clear hk
              go_wp2_with (go_quiet (fail))
              go_ret3
              refine ⟨HIN.out _ k HLAST.out ?_, by first | exact Below.refl _ _ | exact (Below.refl _ _).drew⟩
              rw [uAns_bad hkl (.inl ⟨HK.out, by rw [HG.out, ← HX.out]; exact hx1⟩)]
              rfl
            · have hx1' : ¬ (1 : Int) < x := by omega
              by_cases hx0 : x = 0
              · have hx0' := eql_of (a := (x : Int)) (b := 0) (by omega)
                have HX0 := Lib.hid hx0
                clear hk hx0
                go_wp2_with (go_quiet (fail))
                go_ret3
                refine ⟨HIN.out _ k HLAST.out ?_, by first | exact Below.refl _ _ | exact (Below.refl _ _).drew⟩
                rw [uAns_bad hkl (.inr ⟨by omega, by rw [HG.out, ← HX.out]; exact HX0.out⟩)]
                rfl
              · have hx0' := eql_of' (a := (x : Int)) (b := 0) (by omega)
                have hnb : ¬ badAt s k := by
                  rintro (⟨h1, h2⟩ | ⟨h1, h2⟩)
                  · rw [HG.out, ← HX.out] at h2; omega
                  · rw [HG.out, ← HX.out] at h2; omega
                have HNB := Lib.hid hnb
                have HSM := Lib.hid (uint_small hk9 hkl hnb)
                clear hnb hk
                go_wp2_with (go_quiet (fail))
                go_loop [8, 9] (fun v i => ∃ (t : Nat) (z : Int), t ≤ k + 1 ∧ i = .int .i64 z ∧ z = (p : Int) + t - 1 ∧ v = .int .u64 (numB ((s.take (k + 1)).drop t) : Int)) (fun _ i => (intOf i + 1).toNat - p)
                case atStart => exact ⟨k + 1, (p : Int) + k, by omega, rfl, by omega, by rw [List.drop_eq_nil_of_le (by rw [List.length_take]; omega)]; rfl⟩
                case round =>
                  obtain ⟨t, z, ht, rfl, hz, rfl⟩ := hrel
                  by_cases h0 : t = 0
                  · have hlt2 : ¬ (p : Int) ≤ z := by omega
                    subst h0
                    clear hz
                    rw [List.drop_zero]
                    go_wp2
                    go_ret3
                    refine ⟨HIN.out _ k HLAST.out ?_, by first | exact Below.refl _ _ | exact (Below.refl _ _).drew⟩
                    rw [uAns_ok hkl HNB.out]
                    simp [T3]
                    omega
                  · obtain ⟨q, rfl⟩ : ∃ q, t = q + 1 := ⟨t - 1, by omega⟩
                    obtain rfl : z = ((p + q : Nat) : Int) := by omega
                    have hqs : q < s.length := by omega
                    have hce := HCS.out q hqs
                    have hqt : q < (s.take (k + 1)).length := by rw [List.length_take]; omega
                    have hdr := numB_drop (s.take (k + 1)) q hqt
                    have hle := numB_drop_le (s.take (k + 1)) q
                    rw [List.getElem_take] at hdr
                    have hsm := HSM.out
                    have hyb := (s[q]).toNat_lt
                    obtain ⟨V, hV⟩ : ∃ V, V = numB ((s.take (k + 1)).drop (q + 1)) := ⟨_, rfl⟩
                    obtain ⟨V2, hV2⟩ : ∃ V2, V2 = numB ((s.take (k + 1)).drop q) := ⟨_, rfl⟩
                    obtain ⟨y, hy⟩ : ∃ y, y = s[q].toNat := ⟨_, rfl⟩
                    rw [← hV, ← hV2, ← hy] at hdr
                    rw [← hV2] at hle
                    rw [← hy] at hce hyb
                    rw [← hV]
                    have HV2 := Lib.hid hV2
                    have hvs : y % 128 + 128 * V < 18446744073709551616 := by omega
                    have HDR := Lib.hid hdr
                    have hge2 : (p : Int) ≤ ((p + q : Nat) : Int) := by omega
                    have hqn : ((p + q : Nat) : Int) < n := by omega
                    clear hz hV hV2 hy hdr hle hsm h0 hqt
                    go_wp2
                    go_round
                    case rel => exact ⟨q, _, by omega, rfl, by go_num, by rw [← HV2.out, HDR.out]; go_num⟩
                    case measure => simp [intOf]; omega
          · have hk' : (p : Int) + k < (p : Int) + 9 := by omega
            have hx' : ¬ (128 : Int) ≤ x := by omega
            have hk9e := eql_of' (a := (p : Int) + k) (b := (p : Int) + 9) (by omega)
            by_cases hk0 : k = 0
            · have hk0' : ¬ (p : Int) < (p : Int) + k := by omega
              have hnb : ¬ badAt s k := by
                rintro (⟨h1, h2⟩ | ⟨h1, h2⟩)
                · rw [HG.out, ← HX.out] at h2; omega
                · rw [HG.out, ← HX.out] at h2; omega
              have HNB := Lib.hid hnb
              have HSM := Lib.hid (uint_small hk9 hkl hnb)
              clear hnb hk0
              go_wp2_with (go_quiet (fail))
              go_loop [8, 9] (fun v i => ∃ (t : Nat) (z : Int), t ≤ k + 1 ∧ i = .int .i64 z ∧ z = (p : Int) + t - 1 ∧ v = .int .u64 (numB ((s.take (k + 1)).drop t) : Int)) (fun _ i => (intOf i + 1).toNat - p)
              case atStart => exact ⟨k + 1, (p : Int) + k, by omega, rfl, by omega, by rw [List.drop_eq_nil_of_le (by rw [List.length_take]; omega)]; rfl⟩
              case round =>
                obtain ⟨t, z, ht, rfl, hz, rfl⟩ := hrel
                by_cases h0 : t = 0
                · have hlt2 : ¬ (p : Int) ≤ z := by omega
                  subst h0
                  clear hz
                  rw [List.drop_zero]
                  go_wp2
                  go_ret3
                  refine ⟨HIN.out _ k HLAST.out ?_, by first | exact Below.refl _ _ | exact (Below.refl _ _).drew⟩
                  rw [uAns_ok hkl HNB.out]
                  simp [T3]
                  omega
                · obtain ⟨q, rfl⟩ : ∃ q, t = q + 1 := ⟨t - 1, by omega⟩
                  obtain rfl : z = ((p + q : Nat) : Int) := by omega
                  have hqs : q < s.length := by omega
                  have hce := HCS.out q hqs
                  have hqt : q < (s.take (k + 1)).length := by rw [List.length_take]; omega
                  have hdr := numB_drop (s.take (k + 1)) q hqt
                  have hle := numB_drop_le (s.take (k + 1)) q
                  rw [List.getElem_take] at hdr
                  have hsm := HSM.out
                  have hyb := (s[q]).toNat_lt
                  obtain ⟨V, hV⟩ : ∃ V, V = numB ((s.take (k + 1)).drop (q + 1)) := ⟨_, rfl⟩
                  obtain ⟨V2, hV2⟩ : ∃ V2, V2 = numB ((s.take (k + 1)).drop q) := ⟨_, rfl⟩
                  obtain ⟨y, hy⟩ : ∃ y, y = s[q].toNat := ⟨_, rfl⟩
                  rw [← hV, ← hV2, ← hy] at hdr
                  rw [← hV2] at hle
                  rw [← hy] at hce hyb
                  rw [← hV]
                  have HV2 := Lib.hid hV2
                  have hvs : y % 128 + 128 * V < 18446744073709551616 := by omega
                  have HDR := Lib.hid hdr
                  have hge2 : (p : Int) ≤ ((p + q : Nat) : Int) := by omega
                  have hqn : ((p + q : Nat) : Int) < n := by omega
                  clear hz hV hV2 hy hdr hle hsm h0 hqt
                  go_wp2
                  go_round
                  case rel => exact ⟨q, _, by omega, rfl, by go_num, by rw [← HV2.out, HDR.out]; go_num⟩
                  case measure => simp [intOf]; omega
            · have hk0' : (p : Int) < (p : Int) + k := by omega
              by_cases hx0 : x = 0
              · have hx0' := eql_of (a := (x : Int)) (b := 0) (by omega)
                have HX0 := Lib.hid hx0
                clear hx0
                go_wp2_with (go_quiet (fail))
                go_ret3
                refine ⟨HIN.out _ k HLAST.out ?_, by first | exact Below.refl _ _ | exact (Below.refl _ _).drew⟩
                rw [uAns_bad hkl (.inr ⟨by omega, by rw [HG.out, ← HX.out]; exact HX0.out⟩)]
                rfl
              · have hx0' := eql_of' (a := (x : Int)) (b := 0) (by omega)
                have hnb : ¬ badAt s k := by
                  rintro (⟨h1, h2⟩ | ⟨h1, h2⟩)
                  · exact hk h1
                  · rw [HG.out, ← HX.out] at h2; exact hx0 h2
                have HNB := Lib.hid hnb
                have HSM := Lib.hid (uint_small hk9 hkl hnb)
                clear hnb
                go_wp2_with (go_quiet (fail))
                go_loop [8, 9] (fun v i => ∃ (t : Nat) (z : Int), t ≤ k + 1 ∧ i = .int .i64 z ∧ z = (p : Int) + t - 1 ∧ v = .int .u64 (numB ((s.take (k + 1)).drop t) : Int)) (fun _ i => (intOf i + 1).toNat - p)
                case atStart => exact ⟨k + 1, (p : Int) + k, by omega, rfl, by omega, by rw [List.drop_eq_nil_of_le (by rw [List.length_take]; omega)]; rfl⟩
                case round =>
                  obtain ⟨t, z, ht, rfl, hz, rfl⟩ := hrel
                  by_cases h0 : t = 0
                  · have hlt2 : ¬ (p : Int) ≤ z := by omega
                    subst h0
                    clear hz
                    rw [List.drop_zero]
                    go_wp2
                    go_ret3
                    refine ⟨HIN.out _ k HLAST.out ?_, by first | exact Below.refl _ _ | exact (Below.refl _ _).drew⟩
                    rw [uAns_ok hkl HNB.out]
                    simp [T3]
                    omega
                  · obtain ⟨q, rfl⟩ : ∃ q, t = q + 1 := ⟨t - 1, by omega⟩
                    obtain rfl : z = ((p + q : Nat) : Int) := by omega
                    have hqs : q < s.length := by omega
                    have hce := HCS.out q hqs
                    have hqt : q < (s.take (k + 1)).length := by rw [List.length_take]; omega
                    have hdr := numB_drop (s.take (k + 1)) q hqt
                    have hle := numB_drop_le (s.take (k + 1)) q
                    rw [List.getElem_take] at hdr
                    have hsm := HSM.out
                    have hyb := (s[q]).toNat_lt
                    obtain ⟨V, hV⟩ : ∃ V, V = numB ((s.take (k + 1)).drop (q + 1)) := ⟨_, rfl⟩
                    obtain ⟨V2, hV2⟩ : ∃ V2, V2 = numB ((s.take (k + 1)).drop q) := ⟨_, rfl⟩
                    obtain ⟨y, hy⟩ : ∃ y, y = s[q].toNat := ⟨_, rfl⟩
                    rw [← hV, ← hV2, ← hy] at hdr
                    rw [← hV2] at hle
                    rw [← hy] at hce hyb
                    rw [← hV]
                    have HV2 := Lib.hid hV2
                    have hvs : y % 128 + 128 * V < 18446744073709551616 := by omega
                    have HDR := Lib.hid hdr
                    have hge2 : (p : Int) ≤ ((p + q : Nat) : Int) := by omega
                    have hqn : ((p + q : Nat) : Int) < n := by omega
                    clear hz hV hV2 hy hdr hle hsm h0 hqt
                    go_wp2
                    go_round
                    case rel => exact ⟨q, _, by omega, rfl, by go_num, by rw [← HV2.out, HDR.out]; go_num⟩
                    case measure => simp [intOf]; omega
      · have hge : ¬ (p : Int) + k < n := by omega
        have hkl : s.length ≤ k := by omega
        have hee := eql_of (a := (p : Int) + k) (b := (n : Int)) (by omega)
        have HEE := Lib.hid (show (p : Int) + k = (n : Int) by omega)
        go_wp2
        go_ret3
        refine ⟨HIN.out _ k ⟨by omega, by omega, hall, fun h => by omega⟩ ?_, Below.refl _ _⟩
        rw [uAns_more hkl]
        rfl
#print axioms ruint_any
end Go.Proofs.Ytaipnbpefdcejaa
