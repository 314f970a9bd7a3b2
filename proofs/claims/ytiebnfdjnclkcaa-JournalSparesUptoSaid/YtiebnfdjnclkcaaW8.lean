/- The walks of the law's own helpers: beyond, written, whole, upTo. -/
import Derived.Test.YtiebnfdjnclkcaaW7
import Derived.Test.YtiebnfdjnclkcaaWritP
set_option linter.unusedVariables false
namespace Go.Proofs.Ytiebnfdjnclkcaa
open Go.RowKit
theorem info3 : (Try.prog.info? 3).map (fun i => (i.zero, i.size, i.bytes)) = some (some (.int .i64 0), 1, 8) := by kernel_rfl
def I (n : Nat) : Value := .int .i64 (n : Int)

/-- What the log of records takes at most. -/
def logBound (rs : List (List UInt8)) : Nat := (rs.map fun r => 25 + r.length).sum
theorem logBound_snoc (rs : List (List UInt8)) (r : List UInt8) : logBound (rs ++ [r]) = logBound rs + (25 + r.length) := by simp [logBound]
theorem logBound_take (rs : List (List UInt8)) (k : Nat) : logBound (rs.take k) ≤ logBound rs := by
  unfold logBound
  conv => rhs; rw [← List.take_append_drop k rs, List.map_append, List.sum_append]
  omega
theorem logBound_keep (rs : List (List UInt8)) : (logOf (keep rs)).length ≤ logBound rs := by
  induction rs with
  | nil => simp [logBound, keep, logOf]
  | cons r rs ih =>
    by_cases hr : r = []
    · subst hr
      have : keep ([] :: rs) = keep rs := by simp [keep]
      rw [this]
      simp only [logBound, List.map_cons, List.sum_cons] at ih ⊢
      omega
    · have : keep (r :: rs) = r :: keep rs := by simp [keep, hr]
      rw [this, logOf_cons, List.length_append, recB_len]
      simp only [logBound, List.map_cons, List.sum_cons] at ih ⊢
      omega
theorem logBound_mem {rs : List (List UInt8)} {r : List UInt8} (h : r ∈ rs) : 25 + r.length ≤ logBound rs := by
  induction rs with
  | nil => cases h
  | cons x rs ih =>
    simp only [logBound, List.map_cons, List.sum_cons] at ih ⊢
    rcases List.mem_cons.1 h with rfl | h
    · omega
    · have := ih h; omega
theorem logBound_len (rs : List (List UInt8)) : 25 * rs.length ≤ logBound rs := by
  induction rs with
  | nil => simp
  | cons x rs ih => simp only [logBound, List.map_cons, List.sum_cons, List.length_cons] at ih ⊢; omega

/-- A log that is not beyond the bound of the document. -/
theorem beyond_small (a : Option Addr) (cap n : Nat) (rs : List (List UInt8)) (w : World) (hn : rs.length = n) (hB : logBound rs ≤ 2147483647) (h : RdR w a rs) :
    Calls Try.prog 22 #[.slice a n cap] w fun e w' => e = .returned (.bool false) ∧ w = w' := by
  have HN := Lib.hid hn
  have HB := Lib.hid hB
  have hnB : n ≤ 2147483647 := by have := logBound_len rs; omega
  clear hn hB
  go_enter Try.func22, Try.ntmps22
  go_wp2
  go_loop [3, 4] (fun v i => ∃ k : Nat, k ≤ n ∧ i = .int .i64 (k : Int) ∧ v = .int .i64 (2147483647 - (logBound (rs.take k) : Int)) ∧ logBound (rs.take k) ≤ 2147483647) (fun _ i => n - (intOf i).toNat)
  case atStart => exact ⟨0, Nat.zero_le _, rfl, by simp [logBound], by simp [logBound]⟩
  case round =>
    obtain ⟨k, hk, rfl, rfl, hle⟩ := hrel
    by_cases hlt : k < n
    · have hkl : k < rs.length := by rw [HN.out]; exact hlt
      obtain ⟨bb, off, b1, c1, rfl, hc1, hr1⟩ := h.at k hkl
      have hlt' : (k : Int) < n := by omega
      have hs : logBound (rs.take (k + 1)) = logBound (rs.take k) + (25 + (rs[k]).length) := by rw [take_snoc rs k hkl, logBound_snoc]
      have hle2 : logBound (rs.take (k + 1)) ≤ 2147483647 := Nat.le_trans (logBound_take rs (k + 1)) HB.out
      obtain ⟨q, hq⟩ : ∃ q, logBound (rs.take k) = q := ⟨_, rfl⟩
      obtain ⟨x, hx⟩ : ∃ x, (rs[k]).length = x := ⟨_, rfl⟩
      rw [hq] at hs hle ⊢
      rw [hx] at hs hc1
      have HS := Lib.hid hs
      have hb2 : q + (25 + x) ≤ 2147483647 := by omega
      have hnn : (0 : Int) ≤ 2147483647 - (q : Int) := by omega
      clear hq hx hs hr1 hle2
      go_wp2
      go_round
      case rel => exact ⟨k + 1, by omega, by go_num, by rw [HS.out]; go_num, by rw [HS.out]; exact hb2⟩
      case measure => simp [intOf]; omega
    · have hge : ¬ (k : Int) < n := by omega
      have hnn : ¬ 2147483647 - ((logBound (rs.take k) : Nat) : Int) < 0 := by omega
      obtain ⟨q, hq⟩ : ∃ q, logBound (rs.take k) = q := ⟨_, rfl⟩
      rw [hq] at hnn hle ⊢
      clear hq
      go_wp2
      go_ret
      refine ⟨ret_val ?_, rfl⟩
      simp

theorem whole_any (a : Option Addr) (cap n : Nat) (es : List Nat) (k : Int) (w : World) (hn : es.length = n) (hmax : n ≤ 140737488355328) (h : Rd w a (es.map I)) :
    Calls Try.prog 25 #[.slice a n cap, .int .i64 k] w fun e w' => e = .returned (.int .i64 (wholeN es k : Int)) ∧ w = w' := by
  have HN := Lib.hid hn
  have hle := wholeN_le es k
  have hsp := wholeN_spec es k
  rw [hn] at hle
  have HW := Lib.hid hsp
  clear hn hsp
  go_enter Try.func25, Try.ntmps25
  go_wp2
  go_loop [5] (fun i => ∃ j : Nat, j ≤ wholeN es k ∧ i = .int .i64 (j : Int)) (fun i => n - (intOf i).toNat)
  case atStart => exact ⟨0, Nat.zero_le _, rfl⟩
  case round =>
    obtain ⟨j, hj, rfl⟩ := hrel
    by_cases hlt : j < n
    · have hjl : j < es.length := by rw [HN.out]; exact hlt
      obtain ⟨b, off, rfl, hc⟩ := h.cells (by intro h0; simp at h0; subst h0; simp at hjl)
      have hc' := hc j (by simpa using hjl)
      rw [List.getElem_map, I] at hc'
      clear hc
      have hlt' : (j : Int) < n := by omega
      by_cases hjw : j < wholeN es k
      · have hle2 := HW.out.1 j hjl hjw
        obtain ⟨x, hx⟩ : ∃ x, es[j] = x := ⟨_, rfl⟩
        rw [hx] at hc' hle2
        clear hx
        go_wp2
        go_round
        case rel => exact ⟨j + 1, by omega, by go_num⟩
        case measure => simp [intOf]; omega
      · have hje : j = wholeN es k := by omega
        have hgt : k < (es[j] : Int) := by
          have := HW.out.2 (by omega)
          simpa [← hje] using this
        have hgt' : ¬ (es[j] : Int) ≤ k := by omega
        obtain ⟨x, hx⟩ : ∃ x, es[j] = x := ⟨_, rfl⟩
        rw [hx] at hc' hgt hgt'
        have HJ := Lib.hid hje
        clear hx hje hjw
        go_wp2
        go_ret
        exact ⟨ret_val (by rw [← HJ.out]; rfl), rfl⟩
    · have hje : j = wholeN es k := by omega
      have hge : ¬ (j : Int) < n := by omega
      have HJ := Lib.hid hje
      clear hje
      go_wp2
      go_ret
      exact ⟨ret_val (by rw [← HJ.out]; rfl), rfl⟩

theorem upTo_any (a : Option Addr) (cap n m : Nat) (ks : List (List UInt8)) (w : World) (hn : ks.length = n) (hm : m ≤ n) (hmax : n ≤ 140737488355328) (h : Rd w a ((endsOf ks).map I)) :
    Calls Try.prog 26 #[.slice a n cap, .int .i64 (m : Int)] w fun e w' => e = .returned (.int .i64 (upToN ks m : Int)) ∧ w = w' := by
  by_cases hm0 : m = 0
  · subst hm0
    go_enter Try.func26, Try.ntmps26
    go_wp2
    go_ret
    exact ⟨ret_val (by simp [upToN, logOf]), rfl⟩
  · obtain ⟨j, rfl⟩ : ∃ j, m = j + 1 := ⟨m - 1, by omega⟩
    have hjl : j < (endsOf ks).length := by rw [endsOf_len, hn]; omega
    obtain ⟨b, off, rfl, hc⟩ := h.cells (by intro h0; have := congrArg List.length h0; rw [List.length_map, endsOf_len] at this; simp at this; subst this; simp at hn; omega)
    have hc' := hc j (by rw [List.length_map]; exact hjl)
    rw [List.getElem_map, endsOf_get ks j (by rw [hn]; omega), I] at hc'
    have hz : (((j + 1 : Nat) : Int) == 0) = false := eql_of' (by omega)
    have he : (((j + 1 : Nat) : Int) - 1) = (j : Int) := by omega
    have hjn : (j : Int) < n := by omega
    have hz' : ((j : Int) + 1 == 0) = false := eql_of' (by omega)
    obtain ⟨x, hx⟩ : ∃ x, (logOf (ks.take (j + 1))).length = x := ⟨_, rfl⟩
    rw [hx] at hc'
    have HX := Lib.hid hx
    clear hc hx hn hjl
    go_enter Try.func26, Try.ntmps26
    go_wp2
    go_ret
    exact ⟨ret_val (by rw [upToN, HX.out]; rfl), rfl⟩
#print axioms whole_any
end Go.Proofs.Ytiebnfdjnclkcaa
