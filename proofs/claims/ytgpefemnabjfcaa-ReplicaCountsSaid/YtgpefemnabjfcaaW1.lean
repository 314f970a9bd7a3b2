/- The walks of the replica's leaves: sameBytes, reach, the reference's Acked. -/
import Derived.Test.YtgpefemnabjfcaaRows
import Derived.Test.YtgpefemnabjfcaaLib
import Derived.Deep.RegionHeld3
import Derived.IntWalk
set_option linter.unusedVariables false
namespace Go.Proofs.Ytgpefemnabjfcaa
open Go.RowKit
theorem info5 : (Try.prog.info? 5).map (fun i => (i.zero, i.size, i.bytes)) = some (some (.int .u8 0), 1, 1) := by kernel_rfl
theorem info3 : (Try.prog.info? 3).map (fun i => (i.zero, i.size, i.bytes)) = some (some (.int .i64 0), 1, 8) := by kernel_rfl
theorem ret_val {v v' : Value} (h : v = v') : Ending.returned v = .returned v' := by rw [h]
theorem take_snoc {α : Type} (l : List α) (k : Nat) (h : k < l.length) : l.take (k + 1) = l.take k ++ [l[k]] := by
  rw [List.take_succ_eq_append_getElem h]

/-- How many of the numbers are n or more. -/
def reachN (zs : List Int) (n : Int) : Nat := zs.countP (fun x => decide (n ≤ x))
theorem reachN_snoc (zs : List Int) (k : Nat) (h : k < zs.length) (n : Int) : reachN (zs.take (k + 1)) n = reachN (zs.take k) n + if n ≤ zs[k] then 1 else 0 := by
  unfold reachN
  rw [take_snoc zs k h, List.countP_append]
  simp [List.countP_cons]
theorem reachN_le (zs : List Int) (n : Int) : reachN zs n ≤ zs.length := List.countP_le_length

theorem reach_any (a : Option Addr) (cap n : Nat) (zs : List Int) (x : Int) (w : World) (hn : zs.length = n) (hmax : n ≤ 140737488355328) (h : Rd w a (zs.map Z)) :
    Calls Try.prog 14 #[.slice a n cap, .int .i64 x] w fun e w' => e = .returned (.int .i64 (reachN zs x : Int)) ∧ w = w' := by
  have HN := Lib.hid hn
  clear hn
  go_enter Try.func14, Try.ntmps14
  go_wp2
  go_loop [5, 6] (fun c i => ∃ k : Nat, k ≤ n ∧ i = .int .i64 (k : Int) ∧ c = .int .i64 (reachN (zs.take k) x : Int)) (fun _ i => n - (intOf i).toNat)
  case atStart => exact ⟨0, Nat.zero_le _, rfl, rfl⟩
  case round =>
    obtain ⟨k, hk, rfl, rfl⟩ := hrel
    by_cases hlt : k < n
    · have hkl : k < zs.length := by rw [HN.out]; exact hlt
      obtain ⟨b, off, rfl, hc⟩ := h.cells (by intro h0; simp at h0; subst h0; simp at hkl)
      have hc' := hc k (by simpa using hkl)
      rw [List.getElem_map, Z] at hc'
      clear hc
      have hlt' : (k : Int) < n := by omega
      have hs := reachN_snoc zs k hkl x
      have hle := reachN_le (zs.take k) x
      rw [List.length_take] at hle
      obtain ⟨r, hr⟩ : ∃ r, r = reachN (zs.take k) x := ⟨_, rfl⟩
      rw [← hr] at hs hle ⊢
      obtain ⟨y, hy⟩ : ∃ y, y = zs[k] := ⟨_, rfl⟩
      rw [← hy] at hc' hs
      have hrb : r ≤ 140737488355328 := by omega
      have HS := Lib.hid hs
      clear hs hr hy hle
      by_cases hge : x ≤ y
      · go_wp2
        go_round
        case rel => exact ⟨k + 1, by omega, by go_num, by rw [HS.out, if_pos hge]; go_num⟩
        case measure => simp [intOf]; omega
      · go_wp2
        go_round
        case rel => exact ⟨k + 1, by omega, by go_num, by rw [HS.out, if_neg hge]; go_num⟩
        case measure => simp [intOf]; omega
    · have hke : k = n := by omega
      have hge : ¬ (k : Int) < n := by omega
      have e : zs.take k = zs := List.take_of_length_le (by rw [HN.out]; omega)
      rw [e]
      have HE := Lib.hid hke
      clear hke e
      go_wp2
      go_ret
      exact ⟨rfl, rfl⟩

/-- The reference's answer: the greatest number above 0 that q of them reach. -/
def bestZ (zs : List Int) (q : Int) (l : List Int) : Int := l.foldl (fun best x => if best < x ∧ q ≤ (reachN zs x : Int) then x else best) 0
theorem bestZ_snoc (zs : List Int) (q : Int) (k : Nat) (h : k < zs.length) :
    bestZ zs q (zs.take (k + 1)) = if bestZ zs q (zs.take k) < zs[k] ∧ q ≤ (reachN zs zs[k] : Int) then zs[k] else bestZ zs q (zs.take k) := by
  unfold bestZ
  rw [take_snoc zs k h, List.foldl_append]
  rfl
def atLeast1 (q : Int) : Int := if q < 1 then 1 else q
theorem racked_any (a : Option Addr) (cap n : Nat) (zs : List Int) (q : Int) (w : World) (hn : zs.length = n) (hmax : n ≤ 140737488355328) (h : Rd w a (zs.map Z)) :
    Calls Try.prog 5 #[.slice a n cap, .int .i64 q] w fun e w' => e = .returned (.int .i64 (bestZ zs (atLeast1 q) zs)) ∧ w = w' := by
  have HN := Lib.hid hn
  clear hn
  by_cases hq : q < 1
  · have hat : atLeast1 q = 1 := by simp [atLeast1, hq]
    rw [hat]
    go_enter Try.func5, Try.ntmps5
    go_wp2
    go_loop [5, 6] (fun c i => ∃ k : Nat, k ≤ n ∧ i = .int .i64 (k : Int) ∧ c = .int .i64 (bestZ zs 1 (zs.take k))) (fun _ i => n - (intOf i).toNat)
    case atStart => exact ⟨0, Nat.zero_le _, rfl, rfl⟩
    case round =>
      obtain ⟨k, hk, rfl, rfl⟩ := hrel
      by_cases hlt : k < n
      · have hkl : k < zs.length := by rw [HN.out]; exact hlt
        obtain ⟨b, off, rfl, hc⟩ := h.cells (by intro h0; simp at h0; subst h0; simp at hkl)
        have hc' := hc k (by simpa using hkl)
        rw [List.getElem_map, Z] at hc'
        clear hc
        have hlt' : (k : Int) < n := by omega
        have hs := bestZ_snoc zs 1 k hkl
        obtain ⟨r, hr⟩ : ∃ r, r = bestZ zs 1 (zs.take k) := ⟨_, rfl⟩
        rw [← hr] at hs ⊢
        obtain ⟨y, hy⟩ : ∃ y, y = zs[k] := ⟨_, rfl⟩
        rw [← hy] at hc' hs
        have HS := Lib.hid hs
        clear hs hr hy
        by_cases hgt : r < y
        · go_wp2_with fail
          refine (reach_any _ cap n zs y w HN.out hmax h).mono ?_
          rintro e w1 ⟨rfl, rfl⟩
          by_cases hge : 1 ≤ (reachN zs y : Int)
          · go_wp2
            go_round
            case rel => exact ⟨k + 1, by omega, by go_num, by rw [HS.out, if_pos ⟨hgt, hge⟩]⟩
            case measure => simp [intOf]; omega
          · go_wp2
            go_round
            case rel => exact ⟨k + 1, by omega, by go_num, by rw [HS.out, if_neg (fun h9 => by have := h9.2; omega)]⟩
            case measure => simp [intOf]; omega
        · go_wp2
          go_round
          case rel => exact ⟨k + 1, by omega, by go_num, by rw [HS.out, if_neg (fun h9 => by have := h9.1; omega)]⟩
          case measure => simp [intOf]; omega
      · have hke : k = n := by omega
        have hge : ¬ (k : Int) < n := by omega
        have e : zs.take k = zs := List.take_of_length_le (by rw [HN.out]; omega)
        rw [e]
        clear hke e
        go_wp2
        go_ret
        exact ⟨rfl, rfl⟩
  · have hat : atLeast1 q = q := by simp [atLeast1, hq]
    rw [hat]
    clear hat
    go_enter Try.func5, Try.ntmps5
    go_wp2
    go_loop [5, 6] (fun c i => ∃ k : Nat, k ≤ n ∧ i = .int .i64 (k : Int) ∧ c = .int .i64 (bestZ zs q (zs.take k))) (fun _ i => n - (intOf i).toNat)
    case atStart => exact ⟨0, Nat.zero_le _, rfl, rfl⟩
    case round =>
      obtain ⟨k, hk, rfl, rfl⟩ := hrel
      by_cases hlt : k < n
      · have hkl : k < zs.length := by rw [HN.out]; exact hlt
        obtain ⟨b, off, rfl, hc⟩ := h.cells (by intro h0; simp at h0; subst h0; simp at hkl)
        have hc' := hc k (by simpa using hkl)
        rw [List.getElem_map, Z] at hc'
        clear hc
        have hlt' : (k : Int) < n := by omega
        have hs := bestZ_snoc zs q k hkl
        obtain ⟨r, hr⟩ : ∃ r, r = bestZ zs q (zs.take k) := ⟨_, rfl⟩
        rw [← hr] at hs ⊢
        obtain ⟨y, hy⟩ : ∃ y, y = zs[k] := ⟨_, rfl⟩
        rw [← hy] at hc' hs
        have HS := Lib.hid hs
        clear hs hr hy
        by_cases hgt : r < y
        · go_wp2_with fail
          refine (reach_any _ cap n zs y w HN.out hmax h).mono ?_
          rintro e w1 ⟨rfl, rfl⟩
          by_cases hge : q ≤ (reachN zs y : Int)
          · go_wp2
            go_round
            case rel => exact ⟨k + 1, by omega, by go_num, by rw [HS.out, if_pos ⟨hgt, hge⟩]⟩
            case measure => simp [intOf]; omega
          · go_wp2
            go_round
            case rel => exact ⟨k + 1, by omega, by go_num, by rw [HS.out, if_neg (fun h9 => by have := h9.2; omega)]⟩
            case measure => simp [intOf]; omega
        · go_wp2
          go_round
          case rel => exact ⟨k + 1, by omega, by go_num, by rw [HS.out, if_neg (fun h9 => by have := h9.1; omega)]⟩
          case measure => simp [intOf]; omega
      · have hke : k = n := by omega
        have hge : ¬ (k : Int) < n := by omega
        have e : zs.take k = zs := List.take_of_length_le (by rw [HN.out]; omega)
        rw [e]
        clear hke e
        go_wp2
        go_ret
        exact ⟨rfl, rfl⟩
#print axioms racked_any
end Go.Proofs.Ytgpefemnabjfcaa
