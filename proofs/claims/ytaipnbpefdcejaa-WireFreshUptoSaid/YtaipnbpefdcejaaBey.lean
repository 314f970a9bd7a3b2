/- The reference's Beyond 37. -/
import Derived.Test.YtaipnbpefdcejaaMK
set_option linter.unusedVariables false
namespace Go.Proofs.Ytaipnbpefdcejaa
open Go.RowKit
def sumRoom (ls : List (M × Ps)) : Nat := (ls.map fun x => roomM x.1).sum
theorem sumRoom_snoc (ls : List (M × Ps)) (j : Nat) (h : j < ls.length) : sumRoom (ls.take (j + 1)) = sumRoom (ls.take j) + roomM ls[j].1 := by
  unfold sumRoom
  rw [take_snoc ls j h, List.map_append, List.sum_append]
  simp
theorem room_max {m : M} (h : WfM m) : roomM m ≤ 68719476736 := by
  have h1 := h.sl
  have h2 := h.ql
  have h3 := h.il
  have h4 := h.nl
  have h5 := h.ll
  have h6 := h.vl
  unfold roomM
  omega
def BeyPost (ls : List (M × Ps)) (w : World) (e : Ending) (w' : World) : Prop := ∃ b : Bool, e = .returned (.bool b) ∧ (b = false → sumRoom ls ≤ 2147483647) ∧ Below w.heap.size w w'
set_option maxHeartbeats 4000000 in
set_option maxRecDepth 20000 in
theorem beyond_any (a : Option Addr) (c n : Nat) (ls : List (M × Ps)) (w : World) (hn : ls.length = n) (hmax : n ≤ 1099511627776) (hwf : ∀ x ∈ ls, WfM x.1) (hr : RdL w a ls) : Calls Try.prog 37 #[.slice a n c] w (BeyPost ls w) := by
  have HN := Lib.hid hn
  have HR := Lib.hid hr
  clear hn hr
  go_enter Try.func37, Try.ntmps37
  go_wp2_with fail
  obtain ⟨W0, hW0⟩ : ∃ W0, W0 = w := ⟨_, rfl⟩
  rw [← hW0]
  have HB0 : Hid (Below w.heap.size w W0) := Lib.hid (by rw [hW0]; exact Below.refl _ _)
  have HW0 := Lib.hid hW0
  clear hW0
  go_loopw [3, 4] (fun z i wr => ∃ (j : Nat) (y : Int), z = .int .i64 y ∧ i = .int .i64 (j : Int) ∧ j ≤ n ∧ y + (sumRoom (ls.take j) : Int) = 2147483647 ∧ -68719476736 ≤ y ∧ Below w.heap.size w wr) (fun _ i _ => n - (intOf i).toNat)
  case atStart => exact ⟨0, 2147483647, rfl, rfl, Nat.zero_le _, by simp [sumRoom], by omega, HB0.out⟩
  case round =>
    obtain ⟨j, y, rfl, rfl, hj, hs, hy, hbe⟩ := hrel
    have HS := Lib.hid hs
    have HBE := Lib.hid hbe
    clear hs hbe
    by_cases hlt : j < n
    · have hlt' : (j : Int) < n := by omega
      by_cases hge : y ≥ 0
      · have hj0 : 0 ≤ (j : Int) := by omega
        have hja : j < ls.length := by rw [HN.out]; exact hlt
        obtain ⟨b1, o1, rfl, hg1⟩ := (HR.out.below HBE.out).at j hja
        have hw1 := hwf ls[j] (List.getElem_mem hja)
        have hsn := sumRoom_snoc ls j hja
        obtain ⟨x, hx⟩ : ∃ x, x = ls[j] := ⟨_, rfl⟩
        rw [← hx] at hg1 hw1 hsn
        obtain ⟨m, p⟩ := x
        dsimp only at hg1 hw1 hsn
        clear hx
        have hrm := room_max hw1
        have hys : y + (sumRoom (ls.take j) : Int) = 2147483647 := HS.out
        obtain ⟨hkk, hkb, hth⟩ := new_msg wr m p
        obtain ⟨wb, hwb⟩ : ∃ wb, wb = (wr.alloc (.cells cellsZ.toArray 50)).setCells wr.heap.size 0 (cellsM m p) := ⟨_, rfl⟩
        rw [← hwb] at hkk hkb
        unfold cellsZ at hth hwb
        have HWB := Lib.hid hwb
        clear hwb
        have hme := meas_lt hlt
        have HNEXT : Hid (y - (roomM m : Int) + (sumRoom (ls.take (j + 1)) : Int) = 2147483647 ∧ -68719476736 ≤ y - (roomM m : Int) ∧ Below w.heap.size w wb) := Lib.hid ⟨by rw [hsn]; push_cast; omega, by omega, HBE.out.trans (hkb.mono HBE.out.size)⟩
        have HME := Lib.hid hme
        have HW1 := Lib.hid hw1
        clear hsn hys hrm hme hw1 hkb
        go_upto_region 6 with (first | ((with_reducible refine at_dst 19 ?_); refine wpList_load_midg rfl 50 (.tmp 18) rfl b1 (o1 + j * 31) rfl (cellsM m p) _ hg1 Try.underlying50 rfl (by kernel_rfl) ?_) | ((with_reducible refine at_store ?_); refine wpList_store_mid rfl 50 _ _ rfl wr.heap.size 0 (cellsM m p).toArray rfl rfl hth (by kernel_rfl) (by kernel_rfl) ?_; rw [← HWB.out]) | fail)
        obtain ⟨gk, hgk⟩ : ∃ g, g = wr.heap.size := ⟨_, rfl⟩
        rw [← hgk] at hkk ⊢
        clear hth HWB hgk
        have c28 : wb.cell? ⟨gk, 28, none⟩ = some (.string m.schema) := hkk.cell 28 (by rw [cellsM_len]; omega)
        have c29 : wb.cell? ⟨gk, 29, none⟩ = some (.string m.query) := hkk.cell 29 (by rw [cellsM_len]; omega)
        have c30 : wb.cell? ⟨gk, 30, none⟩ = some (.slice p.ai m.image.length p.ci) := hkk.cell 30 (by rw [cellsM_len]; omega)
        have c15 : wb.cell? ⟨gk, 15, none⟩ = some (.slice p.an m.names.length p.cn) := hkk.cell 15 (by rw [cellsM_len]; omega)
        have c16 : wb.cell? ⟨gk, 16, none⟩ = some (.slice p.al m.lens.length p.cl) := hkk.cell 16 (by rw [cellsM_len]; omega)
        have c17 : wb.cell? ⟨gk, 17, none⟩ = some (.slice p.av m.vals.length p.cv) := hkk.cell 17 (by rw [cellsM_len]; omega)
        have h1 := HW1.out.sl
        have h2 := HW1.out.ql
        have h3 := HW1.out.il
        have h4 := HW1.out.nl
        have h5 := HW1.out.ll
        have h6 := HW1.out.vl
        have hyu : y ≤ 2147483647 := by have := HS.out; omega
        have hr : ((roomM m : Nat) : Int) = 200 + (m.schema.size : Int) + m.query.size + m.image.length + 20 * m.names.length + 10 * m.lens.length + 11 * m.vals.length := by
          unfold roomM; push_cast; rfl
        obtain ⟨R, hR⟩ : ∃ R, R = roomM m := ⟨_, rfl⟩
        rw [← hR] at hr HNEXT
        clear hR hkk HW1
        generalize m.schema = s1 at *
        generalize m.query = s2 at *
        generalize m.image.length = n3 at *
        generalize m.names.length = n4 at *
        generalize m.lens.length = n5 at *
        generalize m.vals.length = n6 at *
        have e1 : IntKind.i64.wrap (y - 200) = y - 200 := by rw [IntKind.wrap_i64]; omega
        have e2 : IntKind.i64.wrap (y - 200 - (s1.size : Int)) = y - 200 - (s1.size : Int) := by rw [IntKind.wrap_i64]; omega
        have e3 : IntKind.i64.wrap (y - 200 - (s1.size : Int) - s2.size) = y - 200 - (s1.size : Int) - s2.size := by rw [IntKind.wrap_i64]; omega
        have e4 : IntKind.i64.wrap (y - 200 - (s1.size : Int) - s2.size - n3) = y - 200 - (s1.size : Int) - s2.size - n3 := by rw [IntKind.wrap_i64]; omega
        have e5 : IntKind.i64.wrap (20 * (n4 : Int)) = 20 * n4 := by rw [IntKind.wrap_i64]; omega
        have e6 : IntKind.i64.wrap (y - 200 - (s1.size : Int) - s2.size - n3 - 20 * n4) = y - 200 - (s1.size : Int) - s2.size - n3 - 20 * n4 := by rw [IntKind.wrap_i64]; omega
        have e7 : IntKind.i64.wrap (10 * (n5 : Int)) = 10 * n5 := by rw [IntKind.wrap_i64]; omega
        have e8 : IntKind.i64.wrap (y - 200 - (s1.size : Int) - s2.size - n3 - 20 * n4 - 10 * n5) = y - 200 - (s1.size : Int) - s2.size - n3 - 20 * n4 - 10 * n5 := by rw [IntKind.wrap_i64]; omega
        have e9 : IntKind.i64.wrap (11 * (n6 : Int)) = 11 * n6 := by rw [IntKind.wrap_i64]; omega
        have e10 : IntKind.i64.wrap (y - 200 - (s1.size : Int) - s2.size - n3 - 20 * n4 - 10 * n5 - 11 * n6) = y - 200 - (s1.size : Int) - s2.size - n3 - 20 * n4 - 10 * n5 - 11 * n6 := by rw [IntKind.wrap_i64]; omega
        have HREL : Hid (∃ (j' : Nat) (y' : Int), Value.int .i64 (y - 200 - (s1.size : Int) - s2.size - n3 - 20 * n4 - 10 * n5 - 11 * n6) = .int .i64 y' ∧ Value.int .i64 ((j : Int) + 1) = .int .i64 (j' : Int) ∧ j' ≤ n ∧ y' + (sumRoom (ls.take j') : Int) = 2147483647 ∧ -68719476736 ≤ y' ∧ Below w.heap.size w wb) := Lib.hid (by
          obtain ⟨g1, g2, g3⟩ := HNEXT.out
          refine ⟨j + 1, _, rfl, rfl, hlt, ?_, ?_, g3⟩
          · rw [hr] at g1; omega
          · rw [hr] at g2; omega)
        clear h1 h2 h3 h4 h5 h6 hr hyu HNEXT
        go_wp2
        go_roundw
        case rel => exact HREL.out
        case measure => exact HME.out
      · have hge' : ¬ y ≥ 0 := hge
        have hlt2 : y < 0 := by omega
        have HF : Hid (BeyPost ls w (.returned (.bool true)) wr) := Lib.hid ⟨true, rfl, fun h => absurd h (by decide), HBE.out⟩
        go_wp2_with fail
        go_ret
        first | exact HF.out | (rw [HW0.out]; exact HF.out)
    · have hlt' : ¬ (j : Int) < n := by omega
      have hall : ls.take j = ls := List.take_of_length_le (by rw [HN.out]; omega)
      have hsum : y + (sumRoom ls : Int) = 2147483647 := by have := HS.out; rw [hall] at this; exact this
      by_cases hneg : y < 0
      · have HF : Hid (BeyPost ls w (.returned (.bool true)) wr) := Lib.hid ⟨true, rfl, fun h => absurd h (by decide), HBE.out⟩
        clear hsum hall
        go_wp2_with fail
        go_ret
        first | exact HF.out | (rw [HW0.out]; exact HF.out)
      · have HF : Hid (BeyPost ls w (.returned (.bool false)) wr) := Lib.hid ⟨false, rfl, fun h => by omega, HBE.out⟩
        clear hsum hall
        go_wp2_with fail
        go_ret
        first | exact HF.out | (rw [HW0.out]; exact HF.out)
#print axioms beyond_any
end Go.Proofs.Ytaipnbpefdcejaa
