/- The walks of the heads: put, get, eight, number. -/
import Derived.Test.YtiebnfdjnclkcaaW1
import Derived.Test.YtiebnfdjnclkcaaHeadP
set_option linter.unusedVariables false
namespace Go.Proofs.Ytiebnfdjnclkcaa
open Go.RowKit

/-- The row behind eight bytes laid down, of which those from number i on lie already. -/
def laid (cur : List Value) (at_ N i : Nat) : List Value := cur.take (at_ + i) ++ (((be8 N).drop i).map B ++ cur.drop (at_ + 8))
theorem laid_len (cur : List Value) (at_ N i : Nat) (hi : i ≤ 8) (h : at_ + 8 ≤ cur.length) : (laid cur at_ N i).length = cur.length := by
  simp [laid, be8_len]; omega
theorem laid_eight (cur : List Value) (at_ N : Nat) : laid cur at_ N 8 = cur := by
  have : (be8 N).drop 8 = [] := by apply List.drop_eq_nil_of_le; rw [be8_len]; omega
  simp [laid, this]
theorem laid_set (cur : List Value) (at_ N i : Nat) (hi : i < 8) (h : at_ + 8 ≤ cur.length) : (laid cur at_ N (i + 1)).set (at_ + i) (B (byteAt N i)) = laid cur at_ N i := by
  have e1 : (cur.take (at_ + i)).length = at_ + i := by simp; omega
  simp only [laid]
  rw [be8_drop N i hi, show at_ + (i + 1) = at_ + i + 1 by omega, take_snoc cur (at_ + i) (by omega), List.append_assoc, List.set_append_right _ _ (by omega), e1, Nat.sub_self]
  simp
theorem laid_zero (cur : List Value) (at_ N : Nat) : laid cur at_ N 0 = splice cur at_ ((be8 N).map B) := by
  simp [laid, splice, be8_len]

theorem heap_set {w : World} {g : Nat} {xs : List Value} {T : Nat} (h : w.heap[g]? = some (.cells xs.toArray T (0, 0))) (j : Nat) (u : Value) :
    (w.setCell ⟨g, j, none⟩ u).heap[g]? = some (.cells (xs.set j u).toArray T (0, 0)) := by
  rw [heap_setCell_same w g j _ T u h]
  simp
theorem grown_set {w w' : World} {g : Nat} (h : w.grownBy w' (some g)) (j : Nat) (u : Value) : w.grownBy (w'.setCell ⟨g, j, none⟩ u) (some g) :=
  ⟨h.os, h.tape, h.output, by simpa using h.size, fun k hk hne => by
    rw [heap_setCell_other w' ⟨g, j, none⟩ k u (fun e => hne (by simp [e]))]
    exact h.block k hk hne⟩
theorem cell_row {w : World} {g : Nat} {xs : List Value} {T : Nat} (h : w.heap[g]? = some (.cells xs.toArray T (0, 0))) (j : Nat) (hj : j < xs.length) : w.cell? ⟨g, j, none⟩ = some xs[j] := by
  rw [cell_of_row w g j _ T (0, 0) h]
  simp [hj]
theorem cell_row? {w : World} {g : Nat} {xs : List Value} {T : Nat} (h : w.heap[g]? = some (.cells xs.toArray T (0, 0))) (j : Nat) : w.cell? ⟨g, j, none⟩ = xs[j]? := by
  rw [cell_of_row w g j _ T (0, 0) h]
  simp
theorem froz_row {w : World} {g : Nat} {xs : List Value} {T : Nat} (h : w.heap[g]? = some (.cells xs.toArray T (0, 0))) (j : Nat) : w.frozen? ⟨g, j, none⟩ = false := frozen_of_row w g j _ T h

theorem put_any (g T at_ N : Nat) (cur : List Value) (w : World) (hN : N < 18446744073709551616) (hg : w.heap[g]? = some (.cells cur.toArray T (0, 0))) (hlen : cur.length = 25) (hat : at_ + 8 ≤ 25) :
    Calls Try.prog 36 #[.pointer (some ⟨g, 0, none⟩), .int .i64 (at_ : Int), .int .u64 (N : Int)] w fun e w' =>
      e = .returned (.tuple #[]) ∧ w'.heap[g]? = some (.cells (splice cur at_ ((be8 N).map B)).toArray T (0, 0)) ∧ w.grownBy w' (some g) := by
  have HG := Lib.hid hg
  have HL := Lib.hid hlen
  clear hg hlen
  go_enter Try.func36, Try.ntmps36
  go_wp2
  go_loopw [2, 6] (fun n i wr => ∃ j : Nat, j ≤ 8 ∧ i = .int .i64 ((j : Int) - 1) ∧ n = .int .u64 ((N / 256 ^ (8 - j) : Nat) : Int) ∧ wr.heap[g]? = some (.cells (laid cur at_ N j).toArray T (0, 0)) ∧ w.grownBy wr (some g)) (fun _ i _ => (intOf i + 1).toNat)
  case atStart => exact ⟨8, Nat.le_refl _, rfl, by simp, by rw [laid_eight]; exact HG.out, World.grownBy.refl _ _⟩
  case round =>
    obtain ⟨j, hj, rfl, rfl, hh, hgr⟩ := hrel
    cases j with
    | zero =>
      have hd : ¬ (0 : Int) ≤ (((0 : Nat) : Int) - 1) := by omega
      go_wp2
      go_end0
      exact ⟨rfl, by rw [← laid_zero]; exact hh, hgr⟩
    | succ i =>
      have hi : i < 8 := by omega
      have hl : (laid cur at_ N (i + 1)).length = 25 := by rw [laid_len _ _ _ _ (by omega) (by rw [HL.out]; omega), HL.out]
      have hc := cell_row hh (at_ + i) (by omega)
      obtain ⟨v, hv⟩ : ∃ v, (laid cur at_ N (i + 1))[at_ + i]'(by omega) = v := ⟨_, rfl⟩
      rw [hv] at hc
      clear hv
      have hf := froz_row hh (at_ + i)
      have hst := heap_set hh (at_ + i) (B (byteAt N i))
      rw [laid_set cur at_ N i hi (by rw [HL.out]; omega)] at hst
      have hgs := grown_set hgr (at_ + i) (B (byteAt N i))
      have hw := wrap_u8_nat (N / 256 ^ (8 - (i + 1)))
      have e7 : 8 - (i + 1) = 7 - i := by omega
      rw [e7] at hw
      have HW : Hid (B (byteAt N i) = .int .u8 (IntKind.u8.wrap ((N / 256 ^ (7 - i) : Nat) : Int))) := by
        show _ = _
        rw [hw]; rfl
      have HS := Lib.hid hst
      have HGS := Lib.hid hgs
      have hdiv : N / 256 ^ (7 - i) / 256 = N / 256 ^ (8 - i) := by
        rw [Nat.div_div_eq_div_mul, ← Nat.pow_succ]; congr 2; omega
      have HD := Lib.hid hdiv
      clear hst hgs hw hdiv hgr hl
      rw [e7]
      clear e7
      obtain ⟨q, hq⟩ : ∃ q, N / 256 ^ (7 - i) = q := ⟨_, rfl⟩
      rw [hq] at HW HD ⊢
      clear hq
      clear hh
      have hii : (((i + 1 : Nat) : Int) - 1) = (i : Int) := by omega
      rw [hii]
      clear hii
      have hpos : (0 : Int) ≤ (i : Int) := by omega
      have hi8 : (i : Int) < 8 := by omega
      have hat' : (at_ : Int) + 8 ≤ 25 := by omega
      go_wp2
      go_roundw
      case rel =>
        refine ⟨i, by omega, by go_num, ?_, ?_, ?_⟩
        · rw [← HD.out]; simp
        · have := HS.out
          rw [HW.out] at this
          exact this
        · have := HGS.out
          rw [HW.out] at this
          exact this
      case measure => first | (simp [intOf]; done) | (simp [intOf]; omega)

theorem or_low (q b : Nat) (hq : q < 72057594037927936) (hb : b < 256) : (Value.int .u64 (bits .or .u64 ((q : Int) * 256) (b : Int))) = .int .u64 ((q * 256 + b : Nat) : Int) := by
  have e : ((q : Int) * 256) = ((q * 256 : Nat) : Int) := by omega
  rw [e, u64_or_nat _ _ (by omega) (by omega)]
  have h1 := Nat.shiftLeft_add_eq_or_of_lt (i := 8) (show b < 2 ^ 8 by omega) q
  rw [Nat.shiftLeft_eq] at h1
  rw [show q * 256 ||| b = q * 2 ^ 8 ||| b by rfl, ← h1]

theorem get_any (g T at_ : Nat) (cur : List Value) (l : List UInt8) (w : World) (hg : w.heap[g]? = some (.cells cur.toArray T (0, 0))) (hlen : cur.length = 25) (hat : at_ + 8 ≤ 25)
    (hl8 : l.length = 8) (hcur : ∀ i (h : i < l.length), cur[at_ + i]? = some (B l[i])) :
    Calls Try.prog 38 #[.pointer (some ⟨g, 0, none⟩), .int .i64 (at_ : Int)] w fun e w' => e = .returned (.int .u64 (ofBe l : Int)) ∧ w = w' := by
  have HG := Lib.hid hg
  have HL := Lib.hid hlen
  have H8 := Lib.hid hl8
  have HC := Lib.hid hcur
  clear hg hlen hcur hl8
  go_enter Try.func38, Try.ntmps38
  go_wp2
  go_loop [5, 6, 7] (fun n _i i => ∃ k : Nat, k ≤ 8 ∧ i = .int .i64 (k : Int) ∧ n = .int .u64 (ofBe (l.take k) : Int)) (fun _ _ i => (8 - intOf i).toNat)
  case atStart => exact ⟨0, Nat.zero_le _, rfl, rfl⟩
  case round =>
    obtain ⟨k, hk, rfl, rfl⟩ := hrel
    by_cases hlt : k < 8
    · have hkl : k < l.length := by rw [H8.out]; exact hlt
      have hc := cell_row? HG.out (at_ + k)
      rw [HC.out k hkl] at hc
      unfold B at hc
      have hb := (l[k]).toNat_lt
      have hpos : (0 : Int) ≤ (k : Int) := by omega
      have hk8 : (k : Int) < 8 := by omega
      have hat' : (at_ : Int) + 8 ≤ 25 := by omega
      have ho := ofBe_lt l k (by omega)
      have ho2 : 256 ^ k ≤ 256 ^ 7 := Nat.pow_le_pow_right (by omega) (by omega)
      have ho3 : ofBe (l.take k) < 72057594037927936 := by omega
      have HT := Lib.hid (ofBe_take l k hkl)
      obtain ⟨q, hq⟩ : ∃ q, ofBe (l.take k) = q := ⟨_, rfl⟩
      rw [hq] at HT ho3 ⊢
      clear hq ho ho2
      go_wp2
      go_round
      case rel => exact ⟨k + 1, by omega, by go_num, by rw [HT.out, or_low q _ (by omega) hb]⟩
      case measure => simp [intOf]; omega
    · have hge : ¬ (k : Int) < 8 := by omega
      go_wp2
      go_ret
      exact ⟨ret_val (by rw [List.take_of_length_le (by rw [H8.out]; omega)]; rfl), rfl⟩

theorem eight_any (N : Nat) (w : World) (hN : N < 18446744073709551616) :
    Calls Try.prog 37 #[.int .u64 (N : Int)] w fun e w' => ∃ a c, e = .returned (.slice a 8 c) ∧ w'.ownsRow w.heap.size 5 1 (.slice a 8 c) 8 ((be8 N).map B) ∧ Below w.heap.size w w' := by
  obtain ⟨i0, hi, hz0, hz1, hz2⟩ := info_parts info5
  go_enter Try.func37, Try.ntmps37
  go_wp2
  go_loopw [3, 4] (fun v s wr => ∃ k : Nat, k ≤ 8 ∧ s = .int .i64 (56 - 8 * (k : Int)) ∧ (∃ a c, v = .slice a k c) ∧ wr.ownsRow w.heap.size 5 1 v k (((be8 N).take k).map B) ∧ Below w.heap.size w wr) (fun _ s _ => (intOf s + 8).toNat)
  case atStart => exact ⟨0, Nat.zero_le _, rfl, ⟨none, 0, rfl⟩, World.ownsRow_nil _ _ _ _, Below.refl _ _⟩
  case round =>
    obtain ⟨k, hk, rfl, ⟨a, c, rfl⟩, hown, hbel⟩ := hrel
    by_cases hlt : k < 8
    · have hpos : (0 : Int) ≤ 56 - 8 * (k : Int) := by omega
      have hsz := hbel.size
      have hl8 : ((be8 N).take k).length = k := by rw [List.length_take, be8_len]; omega
      have hbv : (.int .u8 ((N : Int) / 2 ^ (56 - 8 * k) % 256) : Value) = B (byteAt N k) := by
        unfold B byteAt
        rw [UInt8.toNat_ofNat', show 256 ^ (7 - k) = 2 ^ (56 - 8 * k) by rw [show 256 = 2 ^ 8 by rfl, ← Nat.pow_mul]; congr 1; omega]
        simp
      have HB := Lib.hid hbv
      clear hbv hl8
      go_wp2_with (at_builtin; refine wpList_append_one wr rfl _ _ 22 rfl w.heap.size 5 i0 (.int .u8 0) 1 1 Try.underlying22 hi hz0 hz1 hz2 rfl (by decide) (.slice a k c) k _ _ rfl hown rfl rfl (by intro u hu; simp at hu; subst hu; rfl) (by unfold maxLen; omega) (by omega) hsz ?_; intro a' c' w' hown2 hbel2 _)
      have hb2 := hbel.trans hbel2
      clear hown hbel hbel2
      rw [HB.out] at hown2
      have HO := Lib.hid hown2
      clear hown2
      go_wp2
      go_roundw
      case rel => exact ⟨k + 1, by omega, by go_num, ⟨a', c', rfl⟩, by rw [be8_take N k hlt]; simpa using HO.out, hb2⟩
      case measure => first | (simp [intOf]; done) | (simp [intOf]; omega)
    · have hneg : ¬ (0 : Int) ≤ 56 - 8 * (k : Int) := by omega
      obtain rfl : k = 8 := by omega
      go_wp2
      go_ret
      exact ⟨a, c, rfl, by rw [List.take_of_length_le (by rw [be8_len]; omega)] at hown; exact hown, hbel⟩
end Go.Proofs.Ytiebnfdjnclkcaa
