/- JournalSteps returns true: the sum of nothing, of a byte more, and of a list with one other byte. -/
import Derived.Test.YtiebnfdjnclkcaaW1
set_option linter.unusedVariables false
namespace Go.Proofs.Ytiebnfdjnclkcaa
open Go.RowKit

theorem byte_of_wf {x : Int} (h : (Lit.int .u8 x).wf = true) : ∃ u : UInt8, x = (u.toNat : Int) := by
  simp [Lit.wf, IntKind.min, IntKind.max, IntKind.bits, IntKind.signed] at h
  refine ⟨UInt8.ofNat x.toNat, ?_⟩
  rw [UInt8.toNat_ofNat']
  omega
theorem i64_of_wf {x : Int} (h : (Lit.int .i64 x).wf = true) : -9223372036854775808 ≤ x ∧ x ≤ 9223372036854775807 := by
  simp [Lit.wf, IntKind.min, IntKind.max, IntKind.bits, IntKind.signed] at h
  exact h


theorem steps_walk (a : Option Addr) (cap n : Nat) (l : List UInt8) (w : World) (hn : l.length = n) (hl : n ≤ 140737488351232) (h : Rd w a (l.map B)) (x y : UInt8) (at_ : Int) (hat : -9223372036854775808 ≤ at_ ∧ at_ ≤ 9223372036854775807) :
    Calls Try.prog 4 #[.slice a n cap, .int .u8 (x.toNat : Int), .int .i64 at_, .int .u8 (y.toNat : Int)] w fun e w' => e = .returned (.bool true) ∧ Below w.heap.size w w' := by
  obtain ⟨i0, hi, hz0, hz1, hz2⟩ := info_parts info5
  obtain ⟨hat1, hat2⟩ := hat
  have hxb := x.toNat_lt
  have hyb := y.toNat_lt
  go_enter Try.func4, Try.ntmps4
  go_wp2_with fail
  refine (twin_n a cap n l w hn (by omega) h).mono ?_
  rintro e w1 ⟨a1, c1, rfl, hown1, hb1⟩
  have h1 := h.below hb1
  have HN := Lib.hid hn
  clear hn
  have hbase := hb1.size
  have hb1' := hb1.alloc hb1.size (.cells #[B x] 5)
  have hcell : Rd (w1.alloc (.cells #[B x] 5)) (some ⟨w1.heap.size, 0, none⟩) [B x] := .inr ⟨_, 0, rfl, fun i u hu => by
    match i, hu with
    | 0, hu => simpa using hu⟩
  have hown1' := hown1.alloc (.cells #[B x] 5)
  unfold B at hcell hown1' hb1'
  go_wp2_with (first | (at_builtin; refine wpList_append_rd _ rfl _ _ 22 rfl w.heap.size 5 i0 (.int .u8 0) 1 1 Try.underlying22 hi hz0 hz1 hz2 rfl (by decide) _ n _ rfl hown1' (some ⟨w1.heap.size, 0, none⟩) 1 1 _ rfl rfl hcell (by intro u hu; simp at hu; subst hu; rfl) (by unfold maxLen; omega) (by omega) (by simp; omega) ?_; intro a2 c2 w2 hown2 hbel2 _) | fail)
  have hb2 := hb1'.trans hbel2
  have h2 := h.below hb2
  have hm2 : (l.map B) ++ [B x] = (l ++ [x]).map B := by simp
  have hown2 : w2.ownsRow w.heap.size 5 1 (.slice a2 (n + 1) c2) (n + 1) ((l ++ [x]).map B) := by rw [← hm2]; exact hown2
  clear hcell hown1' hb1' hown1 hm2 hbel2 hbase
  have hr2 := ownsRow_rd hown2
  have hlen2 : (l ++ [x]).length = n + 1 := by simp [HN.out]
  have HL := Lib.hid hlen2
  clear hlen2
  refine (sum_n none 0 0 [] w2 rfl (by omega) (Rd.nil _ _)).mono ?_
  rintro e _ ⟨rfl, rfl⟩
  rw [fnv_nil]
  unfold U
  go_wp2_with fail
  refine (sum_n a2 c2 (n + 1) (l ++ [x]) w2 HL.out (by omega) hr2).mono ?_
  rintro e _ ⟨rfl, rfl⟩
  unfold U
  go_wp2_with fail
  refine (sum_n a cap n l w2 HN.out (by omega) h2).mono ?_
  rintro e _ ⟨rfl, rfl⟩
  unfold U
  have hstep : (((fnv (l ++ [x])).toNat : Int) != IntKind.u64.wrap (bits .xor .u64 ((fnv l).toNat : Int) (x.toNat : Int) * 1099511628211)) = false :=
    neq_of (by rw [fnvStep_prog, fnv_snoc])
  by_cases hin : 0 ≤ at_ ∧ at_ < n + 1
  · obtain ⟨k, rfl⟩ := Int.eq_ofNat_of_zero_le hin.1
    have hk : k < (l ++ [x]).length := by rw [HL.out]; omega
    have hk' : k < n + 1 := by omega
    have hkz : (k : Int) < (n : Int) + 1 := by omega
    clear hin
    obtain ⟨g, rfl, hg1, hg2⟩ := own_some hown2 (by omega)
    have hcell := hown2.cellAt k (by omega)
    rw [List.getElem?_map, List.getElem?_eq_getElem hk, Option.map_some, B] at hcell
    obtain ⟨z, hz⟩ : ∃ z, z = (l ++ [x])[k] := ⟨_, rfl⟩
    rw [← hz] at hcell
    have HZ := Lib.hid hz
    clear hz
    have hzb := z.toNat_lt
    by_cases hy : z = y
    · subst hy
      go_wp2
      go_ret
      exact ⟨rfl, hb2⟩
    · have hyy := eql_of' (a := (z.toNat : Int)) (b := (y.toNat : Int)) (fun h => hy (UInt8.toNat_inj.1 (by omega)))
      have HY := Lib.hid hy
      clear hy
      go_wp2_with fail
      refine (twin_n _ c2 (n + 1) (l ++ [x]) w2 HL.out (by omega) hr2).mono ?_
      rintro e w3 ⟨a3, c3, rfl, hown3, hb3⟩
      obtain ⟨g3, rfl, hg3, hg4⟩ := own_some hown3 (by omega)
      have hr3 := hr2.below hb3
      have hcell3 := hown3.cellAt k (by omega)
      rw [List.getElem?_map, List.getElem?_eq_getElem hk, Option.map_some, B] at hcell3
      have hfr := hown3.frozenAt k
      have hst := (hown3.stored k (B y)).1
      rw [← List.map_set] at hst
      have HST := Lib.hid (ownsRow_rd hst)
      have hr4 : Rd (w3.setCell ⟨g3, k, none⟩ (B y)) (some ⟨g, 0, none⟩) ((l ++ [x]).map B) := hr2.below (hb3.setCell hg3 _)
      have hb4 := hb3.setCell (p := ⟨g3, k, none⟩) hg3 (B y)
      have HB4 := Lib.hid hb4
      clear hst hb4
      unfold B at HST hr4 HB4
      go_wp2_with fail
      refine (sum_n _ c3 (n + 1) ((l ++ [x]).set k y) _ (by simp [HN.out]) (by omega) HST.out).mono ?_
      rintro e _ ⟨rfl, rfl⟩
      unfold U
      go_wp2_with fail
      refine (sum_n _ c2 (n + 1) (l ++ [x]) _ HL.out (by omega) hr4).mono ?_
      rintro e _ ⟨rfl, rfl⟩
      unfold U
      have hne : (((fnv ((l ++ [x]).set k y)).toNat : Int) != ((fnv (l ++ [x])).toNat : Int)) = true := neq_of' (by
        intro he
        exact fnv_set (l ++ [x]) k hk y (by rw [← HZ.out]; exact HY.out) (BitVec.eq_of_toNat_eq (by omega)))
      go_wp2
      go_ret
      exact ⟨rfl, hb2.trans (HB4.out.mono hb2.size)⟩
  · by_cases hneg : at_ < 0
    · go_wp2
      go_ret
      exact ⟨rfl, hb2⟩
    · have hge : (n : Int) + 1 ≤ at_ := by omega
      clear hin
      go_wp2
      go_ret
      exact ⟨rfl, hb2⟩

theorem steps_law {w : World} (a : Option Addr) (n cap : Nat) (l : List UInt8) (hl : l.length = n) (h : Rd w a (l.map B)) (z : n ≤ 140737488351232)
    (x : Int) (wx : (Lit.int .u8 x).wf = true) (at_ : Int) (wat : (Lit.int .i64 at_).wf = true) (y : Int) (wy : (Lit.int .u8 y).wf = true) (w' : World) (hw : w = w') :
    Calls Try.prog 4 #[.slice a n cap, .int .u8 x, .int .i64 at_, .int .u8 y] w' fun e W' => e = .returned (.bool true) ∧ Below w'.heap.size w' W' := by
  subst hw
  obtain ⟨x, rfl⟩ := byte_of_wf wx
  obtain ⟨y, rfl⟩ := byte_of_wf wy
  exact steps_walk a cap n l w hl z h x y at_ (i64_of_wf wat)
#print axioms steps_law
end Go.Proofs.Ytiebnfdjnclkcaa
