/- The walks of full, holding, filled and long. -/
import Derived.Test.YtiebnfdjnclkcaaW10
set_option linter.unusedVariables false
namespace Go.Proofs.Ytiebnfdjnclkcaa
open Go.RowKit

theorem full_any (a : Option Addr) (cap n : Nat) (u : UInt8) (w : World) (hmax : n ≤ 140737488355328) (h : Rd w a ((List.replicate n u).map B)) :
    Calls Try.prog 28 #[.slice a n cap, .int .u8 (u.toNat : Int)] w fun e w' => e = .returned (.bool true) ∧ w = w' := by
  go_enter Try.func28, Try.ntmps28
  go_wp2
  go_loop [5] (fun i => ∃ k : Nat, k ≤ n ∧ i = .int .i64 (k : Int)) (fun i => n - (intOf i).toNat)
  case atStart => exact ⟨0, Nat.zero_le _, rfl⟩
  case round =>
    obtain ⟨k, hk, rfl⟩ := hrel
    by_cases hlt : k < n
    · obtain ⟨b, off, rfl, hcs⟩ := h.cells (by intro h0; have := congrArg List.length h0; simp at this; omega)
      have hc := hcs k (by simpa using hlt)
      rw [List.getElem_map, List.getElem_replicate, B] at hc
      have hub := u.toNat_lt
      have hlt' : (k : Int) < n := by omega
      have huu : ((u.toNat : Int) != (u.toNat : Int)) = false := by simp
      clear hcs
      go_wp2
      go_round
      case rel => exact ⟨k + 1, by omega, by go_num⟩
      case measure => simp [intOf]; omega
    · have hge : ¬ (k : Int) < n := by omega
      go_wp2
      go_ret
      exact ⟨rfl, rfl⟩
theorem holding_any (a : Option Addr) (cap n : Nat) (u : UInt8) (w : World) (hmax : n ≤ 140737488355328) (h : Rd w a ((List.replicate n u).map B)) :
    Calls Try.prog 35 #[.slice a n cap, .int .u8 (u.toNat : Int)] w fun e w' => e = .returned (.bool true) ∧ w = w' := by
  go_enter Try.func35, Try.ntmps35
  go_wp2
  go_loop [5] (fun i => ∃ k : Nat, k ≤ n ∧ i = .int .i64 (k : Int)) (fun i => n - (intOf i).toNat)
  case atStart => exact ⟨0, Nat.zero_le _, rfl⟩
  case round =>
    obtain ⟨k, hk, rfl⟩ := hrel
    by_cases hlt : k < n
    · obtain ⟨b, off, rfl, hcs⟩ := h.cells (by intro h0; have := congrArg List.length h0; simp at this; omega)
      have hc := hcs k (by simpa using hlt)
      rw [List.getElem_map, List.getElem_replicate, B] at hc
      have hub := u.toNat_lt
      have hlt' : (k : Int) < n := by omega
      have huu : ((u.toNat : Int) != (u.toNat : Int)) = false := by simp
      clear hcs
      go_wp2
      go_round
      case rel => exact ⟨k + 1, by omega, by go_num⟩
      case measure => simp [intOf]; omega
    · have hge : ¬ (k : Int) < n := by omega
      go_wp2
      go_ret
      exact ⟨rfl, rfl⟩
/-- A row of the call's own, whatever capacity it was handed on with. -/
def OwnA (w : World) (base : Nat) (a : Option Addr) (n : Nat) (xs : List Value) : Prop := ∃ c, w.ownsRow base 5 1 (.slice a n c) n xs
/-- The block of an address. -/
def blk (a : Option Addr) : Option Nat := a.map (·.block)
theorem OwnA.rd {w : World} {base n : Nat} {a : Option Addr} {xs : List Value} (h : OwnA w base a n xs) : Rd w a xs := by
  obtain ⟨c, h⟩ := h; exact ownsRow_rd h
theorem grown_refl (w : World) (r : Option Nat) : w.grownBy w r := ⟨rfl, rfl, rfl, Nat.le_refl _, fun _ _ _ => rfl⟩
theorem filled_any (base : Nat) (a : Option Addr) (cap n : Nat) (u : UInt8) (xs : List Value) (w : World) (hmax : n ≤ 140737488355328) (h : OwnA w base a n xs) :
    Calls Try.prog 34 #[.slice a n cap, .int .u8 (u.toNat : Int)] w fun e w' => e = .returned (.tuple #[]) ∧ OwnA w' base a n ((List.replicate n u).map B) ∧ w.grownBy w' (blk a) ∧ (∀ m ys, OwnA w base a m ys → ∃ zs, OwnA w' base a m zs) := by
  go_enter Try.func34, Try.ntmps34
  go_wp2
  go_loopw [4] (fun i wr => ∃ k : Nat, k ≤ n ∧ i = .int .i64 (k : Int) ∧ OwnA wr base a n (((List.replicate k u).map B) ++ xs.drop k) ∧ w.grownBy wr (blk a) ∧ (∀ m ys, OwnA w base a m ys → ∃ zs, OwnA wr base a m zs)) (fun i _ => n - (intOf i).toNat)
  case atStart => exact ⟨0, Nat.zero_le _, rfl, by simpa using h, grown_refl _ _, fun m ys hh => ⟨ys, hh⟩⟩
  case round =>
    obtain ⟨k, hk, rfl, ⟨c, ho⟩, hg, hoth⟩ := hrel
    by_cases hlt : k < n
    · obtain ⟨g, rfl, hg1, hg2⟩ := own_some ho (by omega)
      have hlt' : (k : Int) < n := by omega
      have hcell := ho.cellAt k (by omega)
      have hxl : xs.length = n := by obtain ⟨c0, h0⟩ := h; have := h0.1; omega
      have hkx : k < xs.length := by omega
      have hlk : ((List.replicate k u).map B).length = k := by simp
      rw [List.getElem?_append_right (by omega), hlk, Nat.sub_self, List.getElem?_drop, Nat.add_zero, List.getElem?_eq_getElem hkx] at hcell
      have hfr := ho.frozenAt k
      have hst := ho.stored k (B u)
      have hset : (((List.replicate k u).map B) ++ xs.drop k).set k (B u) = ((List.replicate (k + 1) u).map B) ++ xs.drop (k + 1) := by
        rw [List.set_append_right _ _ (by omega), hlk, Nat.sub_self, List.drop_eq_getElem_cons hkx, List.set_cons_zero, List.replicate_succ', List.map_append]
        simp
      rw [hset] at hst
      have hoth2 : ∀ m ys, OwnA w base (some ⟨g, 0, none⟩) m ys → ∃ zs, OwnA (wr.setCell ⟨g, k, none⟩ (B u)) base (some ⟨g, 0, none⟩) m zs := by
        intro m ys hh
        obtain ⟨zs, c9, h9⟩ := hoth m ys hh
        exact ⟨_, c9, (h9.stored k (B u)).1⟩
      have HOT := Lib.hid hoth2
      have HO := Lib.hid hst.1
      have HG := Lib.hid (grown_trans hg hst.2)
      obtain ⟨y, hy⟩ : ∃ y, y = xs[k] := ⟨_, rfl⟩
      rw [← hy] at hcell
      unfold B at HO HG HOT
      clear hst hset hy hlk ho hg hoth hoth2
      go_wp2
      go_roundw
      case rel => exact ⟨k + 1, by omega, by go_num, ⟨c, HO.out⟩, HG.out, HOT.out⟩
      case measure => simp [intOf]; omega
    · have hge : ¬ (k : Int) < n := by omega
      have hke : k = n := by omega
      have hxl : xs.length = n := by obtain ⟨c0, h0⟩ := h; have := h0.1; omega
      rw [hke, List.drop_eq_nil_of_le (by omega), List.append_nil] at ho
      have HO := Lib.hid ho
      clear ho hke
      go_wp2
      go_end0
      exact ⟨rfl, ⟨c, by simpa using HO.out⟩, hg, hoth⟩
#print axioms full_any
end Go.Proofs.Ytiebnfdjnclkcaa
