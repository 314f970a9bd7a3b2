/- The walks of wire.Uint and of the reference's Uint. -/
import Derived.Test.YtaipnbpefdcejaaUintP
import Derived.OwnWalk
set_option linter.unusedVariables false
namespace Go.Proofs.Ytaipnbpefdcejaa
open Go.RowKit
def T3 (v e f : Int) : Value := .tuple #[.int .u64 v, .int .i64 e, .int .i64 f]
/-- What a read answers, the last group known. -/
def uAns (s : List UInt8) (pos : Int) (j : Nat) : Value := if (uintOf s j).2.2 = 0 then T3 (uintOf s j).1 (pos + (uintOf s j).2.1) 0 else T3 0 0 (uintOf s j).2.2
def UPost (l : List UInt8) (pos : Int) (e : Ending) : Prop :=
  (pos < 0 ∨ (l.length : Int) < pos) ∧ e = .returned (T3 0 0 210) ∨ (0 ≤ pos ∧ pos ≤ l.length) ∧ ∃ j, IsLast (l.drop pos.toNat) j ∧ e = .returned (uAns (l.drop pos.toNat) pos j)

theorem uAns_more {s : List UInt8} {pos : Int} {j : Nat} (h : s.length ≤ j) : uAns s pos j = T3 0 0 210 := by simp [uAns, uintOf, h]
theorem uAns_bad {s : List UInt8} {pos : Int} {j : Nat} (h : j < s.length) (hb : badAt s j) : uAns s pos j = T3 0 0 211 := by
  simp [uAns, uintOf, hb, Nat.not_le.2 h]
theorem uAns_ok {s : List UInt8} {pos : Int} {j : Nat} (h : j < s.length) (hb : ¬ badAt s j) : uAns s pos j = T3 (numB (s.take (j + 1))) (pos + ((j + 1 : Nat) : Int)) 0 := by
  simp [uAns, uintOf, hb, Nat.not_le.2 h]

set_option maxRecDepth 20000 in
theorem uint_any (a : Option Addr) (cap n : Nat) (l : List UInt8) (pos : Int) (w : World) (hn : l.length = n) (hmax : n ≤ 140737488355328) (hp : -9223372036854775808 ≤ pos ∧ pos ≤ 9223372036854775807) (h : Rd w a (l.map B)) :
    Calls Try.prog 15 #[.slice a n cap, .int .i64 pos] w fun e w' => UPost l pos e ∧ w = w' := by
  have HN := Lib.hid hn
  clear hn
  by_cases hout : pos < 0 ∨ (n : Int) < pos
  · go_enter Try.func15, Try.ntmps15
    rcases hout with h1 | h1
    · go_wp2
      go_ret3
      exact ⟨.inl ⟨.inl h1, rfl⟩, rfl⟩
    · have hg : ¬ pos < 0 := by omega
      go_wp2
      go_ret3
      exact ⟨.inl ⟨.inr (by rw [HN.out]; exact h1), rfl⟩, rfl⟩
  · obtain ⟨p, rfl⟩ : ∃ p : Nat, pos = (p : Int) := ⟨pos.toNat, by omega⟩
    have hpn : p ≤ n := by omega
    clear hout
    obtain ⟨s, hs⟩ : ∃ s, s = l.drop p := ⟨_, rfl⟩
    have hsl : s.length + p = n := by rw [hs, List.length_drop, HN.out]; omega
    have HS := Lib.hid hs
    have hin : ∀ e j, IsLast s j → e = .returned (uAns s (p : Int) j) → UPost l (p : Int) e := fun e j h1 h2 => .inr ⟨⟨by omega, by rw [HN.out]; omega⟩, j, by simpa [← HS.out] using h1, by simpa [← HS.out] using h2⟩
    have HIN := Lib.hid hin
    clear hin hs
    have hpp : ¬ (n : Int) < p := by omega
    go_enter Try.func15, Try.ntmps15
    go_wp2
    go_loop [7, 8, 9] (fun v i _c => ∃ k : Nat, k ≤ 9 ∧ k + p ≤ n ∧ i = .int .i64 (k : Int) ∧ v = .int .u64 (numB (s.take k) : Int) ∧ (∀ i (h : i < s.length), i < k → 128 ≤ s[i].toNat)) (fun _ i _ => 10 - (intOf i).toNat)
    case atStart => exact ⟨0, by omega, by omega, rfl, rfl, fun i _ h => by omega⟩
    case round =>
      obtain ⟨k, hk9, hkn, rfl, rfl, hall⟩ := hrel
      by_cases hlt : k + p < n
      · have hkl : k < s.length := by omega
        have hpl : p + k < l.length := by rw [HN.out]; omega
        obtain ⟨b, off, rfl, hcs⟩ := h.cells (by intro h0; rw [List.map_eq_nil_iff] at h0; rw [h0] at hpl; simp at hpl)
        have hc := hcs (p + k) (by rw [List.length_map]; exact hpl)
        have hsk : l[p + k] = s[k] := by
          have h1 : s[k]? = l[p + k]? := by rw [HS.out, List.getElem?_drop]
          rw [List.getElem?_eq_getElem hkl, List.getElem?_eq_getElem hpl] at h1
          exact (Option.some.inj h1).symm
        rw [List.getElem_map, hsk, B] at hc
        have hcb := (s[k]).toNat_lt
        have hgd : s.getD k 0 = s[k] := by simp [hkl]
        have hnt := numB_take s k hkl
        have hlt' : (p : Int) + k < n := by omega
        have htn : ((p : Int) + k).toNat = p + k := by omega
        obtain ⟨c, hcc⟩ : ∃ c, c = s[k] := ⟨_, rfl⟩
        rw [← hcc] at hc hcb hgd hnt
        obtain ⟨x, hx⟩ : ∃ x, x = c.toNat := ⟨_, rfl⟩
        rw [← hx] at hc hcb hnt
        have HX := Lib.hid hx
        have HC := Lib.hid hcc
        have HG := Lib.hid hgd
        have HT := Lib.hid hnt
        have HA := Lib.hid hall
        clear hcs hsk hx hcc hgd hnt hall
        by_cases hb1 : k = 9 ∧ 1 < x
        · obtain ⟨rfl, h1⟩ := hb1
          have h1' : (1 : Int) < x := by omega
          go_wp2
          go_ret3
          refine ⟨HIN.out _ 9 ⟨by omega, by omega, HA.out, fun _ h => by omega⟩ ?_, rfl⟩
          rw [uAns_bad hkl (.inl ⟨rfl, by rw [HG.out, ← HX.out]; exact h1⟩)]
          rfl
        · by_cases hb2 : 0 < k ∧ x = 0
          · obtain ⟨h1, rfl⟩ := hb2
            have h1' : (0 : Int) < k := by omega
            by_cases hk : k = 9
            · subst hk
              go_wp2
              go_ret3
              refine ⟨HIN.out _ 9 ⟨by omega, by omega, HA.out, fun _ h => by omega⟩ ?_, rfl⟩
              rw [uAns_bad hkl (.inr ⟨by omega, by rw [HG.out, ← HX.out]⟩)]
              rfl
            · have hk' := eql_of' (a := (k : Int)) (b := 9) (by omega)
              go_wp2
              go_ret3
              refine ⟨HIN.out _ k ⟨by omega, by omega, HA.out, fun _ _ => by rw [← HC.out, ← HX.out]; omega⟩ ?_, rfl⟩
              rw [uAns_bad hkl (.inr ⟨by omega, by rw [HG.out, ← HX.out]⟩)]
              rfl
          · have hnb : ¬ badAt s k := by
              rintro (⟨h1, h2⟩ | ⟨h1, h2⟩)
              · rw [HG.out, ← HX.out] at h2; exact hb1 ⟨h1, h2⟩
              · rw [HG.out, ← HX.out] at h2; exact hb2 ⟨h1, h2⟩
            have HNB := Lib.hid hnb
            have hsm := uint_small hk9 hkl hnb
            have hvb : numB (s.take k) < 128 ^ k := by
              have := numB_lt (s.take k)
              rw [List.length_take, Nat.min_eq_left (by omega)] at this
              exact this
            have hgs := group_step (numB (s.take k)) x k (by omega) hvb (by rw [← HT.out]; exact hsm)
            rw [← HT.out] at hgs
            have HGS := Lib.hid hgs
            clear hsm hvb hgs
            by_cases hx128 : x < 128
            · have hx' : (x : Int) < 128 := by omega
              have hfin : IsLast s k := ⟨by omega, by omega, HA.out, fun _ _ => by rw [← HC.out, ← HX.out]; omega⟩
              have HF := Lib.hid hfin
              clear hfin
              by_cases hk : k = 9
              · have hk' := eql_of (a := (k : Int)) (b := 9) (by omega)
                have hx1 : ¬ (1 : Int) < x := by omega
                have hk0' : (0 : Int) < k := by omega
                have hx0 := eql_of' (a := (x : Int)) (b := 0) (by omega)
                clear hk
                go_wp2
                go_ret3
                refine ⟨HIN.out _ k HF.out ?_, rfl⟩
                rw [uAns_ok hkl HNB.out, ← HGS.out]
                simp [T3]
                omega
              · have hk' := eql_of' (a := (k : Int)) (b := 9) (by omega)
                by_cases hk0 : k = 0
                · have hk0' : ¬ (0 : Int) < k := by omega
                  clear hk0
                  go_wp2
                  go_ret3
                  refine ⟨HIN.out _ k HF.out ?_, rfl⟩
                  rw [uAns_ok hkl HNB.out, ← HGS.out]
                  simp [T3]
                  omega
                · have hk0' : (0 : Int) < k := by omega
                  have hx0 := eql_of' (a := (x : Int)) (b := 0) (by omega)
                  go_wp2
                  go_ret3
                  refine ⟨HIN.out _ k HF.out ?_, rfl⟩
                  rw [uAns_ok hkl HNB.out, ← HGS.out]
                  simp [T3]
                  omega
            · have hx' : ¬ (x : Int) < 128 := by omega
              have hk8 : k ≠ 9 := by omega
              have hk' := eql_of' (a := (k : Int)) (b := 9) (by omega)
              have hx0 := eql_of' (a := (x : Int)) (b := 0) (by omega)
              have hall2 : ∀ i (h : i < s.length), i < k + 1 → 128 ≤ s[i].toNat := by
                intro i h1 h2
                by_cases h3 : i = k
                · subst h3; rw [← HC.out, ← HX.out]; omega
                · exact HA.out i h1 (by omega)
              have HA2 := Lib.hid hall2
              clear hall2
              by_cases hk0 : k = 0
              · have hk0' : ¬ (0 : Int) < k := by omega
                clear hk0
                go_wp2
                go_round
                case rel => exact ⟨k + 1, by omega, by omega, by go_num, by rw [← HGS.out], HA2.out⟩
                case measure => simp [intOf]; omega
              · have hk0' : (0 : Int) < k := by omega
                go_wp2
                go_round
                case rel => exact ⟨k + 1, by omega, by omega, by go_num, by rw [← HGS.out], HA2.out⟩
                case measure => simp [intOf]; omega
      · have hge : ¬ (p : Int) + k < n := by omega
        have hkl : s.length ≤ k := by omega
        go_wp2
        go_ret3
        refine ⟨HIN.out _ k ⟨by omega, by omega, hall, fun h => by omega⟩ ?_, rfl⟩
        rw [uAns_more hkl]
        rfl
#print axioms uint_any
end Go.Proofs.Ytaipnbpefdcejaa
