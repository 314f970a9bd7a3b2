/- The walks of beyond (of any records) and begun. -/
import Derived.Test.YtiebnfdjnclkcaaW9
set_option linter.unusedVariables false
namespace Go.Proofs.Ytiebnfdjnclkcaa
open Go.RowKit

theorem beyond_any (a : Option Addr) (cap n : Nat) (rs : List (List UInt8)) (w : World) (hn : rs.length = n) (hmax : n ≤ 140737488355328) (hl : ∀ r ∈ rs, r.length ≤ 140737488355328) (h : RdR w a rs) :
    Calls Try.prog 22 #[.slice a n cap] w fun e w' => e = .returned (.bool (decide (2147483647 < logBound rs))) ∧ w = w' := by
  have HN := Lib.hid hn
  have HL := Lib.hid hl
  clear hn hl
  go_enter Try.func22, Try.ntmps22
  go_wp2
  go_loop [3, 4] (fun v i => ∃ k : Nat, k ≤ n ∧ i = .int .i64 (k : Int) ∧ v = .int .i64 (2147483647 - (logBound (rs.take k) : Int)) ∧ logBound (rs.take k) ≤ 2147483647 + 140737488355328 + 25) (fun _ i => n - (intOf i).toNat)
  case atStart => exact ⟨0, Nat.zero_le _, rfl, by simp [logBound], by simp [logBound]⟩
  case round =>
    obtain ⟨k, hk, rfl, rfl, hle⟩ := hrel
    by_cases hlt : k < n
    · have hkl : k < rs.length := by rw [HN.out]; exact hlt
      obtain ⟨bb, off, b1, c1, rfl, hc1, hr1⟩ := h.at k hkl
      have hlt' : (k : Int) < n := by omega
      by_cases hsm : logBound (rs.take k) ≤ 2147483647
      · have hs : logBound (rs.take (k + 1)) = logBound (rs.take k) + (25 + (rs[k]).length) := by rw [take_snoc rs k hkl, logBound_snoc]
        have hxm := HL.out rs[k] (List.getElem_mem hkl)
        obtain ⟨q, hq⟩ : ∃ q, logBound (rs.take k) = q := ⟨_, rfl⟩
        obtain ⟨x, hx⟩ : ∃ x, (rs[k]).length = x := ⟨_, rfl⟩
        rw [hq] at hs hle hsm ⊢
        rw [hx] at hs hc1 hxm
        have HS := Lib.hid hs
        have hb2 : q + (25 + x) ≤ 2147483647 + 140737488355328 + 25 := by omega
        have hnn : (0 : Int) ≤ 2147483647 - (q : Int) := by omega
        clear hq hx hs hr1
        go_wp2
        go_round
        case rel => exact ⟨k + 1, by omega, by go_num, by rw [HS.out]; go_num, by rw [HS.out]; exact hb2⟩
        case measure => simp [intOf]; omega
      · have hfin : decide (2147483647 < logBound rs) = true := by
          have := logBound_take rs k
          exact decide_eq_true (by omega)
        have hnn : ¬ (0 : Int) ≤ 2147483647 - ((logBound (rs.take k) : Nat) : Int) := by omega
        have hneg : 2147483647 - ((logBound (rs.take k) : Nat) : Int) < 0 := by omega
        obtain ⟨q, hq⟩ : ∃ q, logBound (rs.take k) = q := ⟨_, rfl⟩
        rw [hq] at hnn hle hneg ⊢
        have HF := Lib.hid hfin
        clear hq hr1 hsm hfin
        go_wp2
        go_ret
        refine ⟨ret_val ?_, rfl⟩
        rw [HF.out]
        simp
    · have hge : ¬ (k : Int) < n := by omega
      have hke : rs.take k = rs := List.take_of_length_le (by rw [HN.out]; omega)
      rw [hke] at hle ⊢
      obtain ⟨q, hq⟩ : ∃ q, logBound rs = q := ⟨_, rfl⟩
      rw [hq] at hle ⊢
      have HQ := Lib.hid hq
      clear hq hke
      by_cases hsm : q ≤ 2147483647
      · have hnn : ¬ 2147483647 - (q : Int) < 0 := by omega
        go_wp2
        go_ret
        refine ⟨ret_val ?_, rfl⟩
        rw [HQ.out, decide_eq_false (by omega)]
        simp
      · have hnn : 2147483647 - (q : Int) < 0 := by omega
        go_wp2
        go_ret
        refine ⟨ret_val ?_, rfl⟩
        rw [HQ.out, decide_eq_true (by omega)]
        simp

theorem begun_any (w : World) : Calls Try.prog 23 #[] w fun e w' => e = .returned (.bool true) ∧ Below w.heap.size w w' := by
  have hrd : Rd (w.alloc (.cells #[B 7] 5)) (some ⟨w.heap.size, 0, none⟩) ([7].map B) := rd_new w _ _
  go_enter Try.func23, Try.ntmps23
  go_wp2_with fail
  refine (append_some none (some ⟨w.heap.size, 0, none⟩) 0 1 0 1 [] [7] (w.alloc (.cells #[B 7] 5)) rfl rfl (by omega) (by omega) (by omega) (Rd.nil _ _) hrd).mono ?_
  rintro e w1 ⟨a4, c4, rfl, hown4, hb4⟩
  have hbel : Below w.heap.size w w1 := ((Below.refl _ _).alloc (Nat.le_refl _) _).trans (hb4.mono (by simp))
  go_wp2
  go_ret
  exact ⟨ret_val rfl, hbel⟩
#print axioms beyond_any
end Go.Proofs.Ytiebnfdjnclkcaa
