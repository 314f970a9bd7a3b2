/- The walks of put, PutUint, PutInt and of the reference's. -/
import Derived.Test.YtaipnbpefdcejaaNumP
set_option linter.unusedVariables false
namespace Go.Proofs.Ytaipnbpefdcejaa
open Go.RowKit

set_option maxRecDepth 20000 in
theorem or128 : ∀ x : Fin 256, (x.val ||| 128) = x.val % 128 + 128 := by decide
theorem high_byte (N : Nat) : bits .or .u8 (IntKind.u8.wrap (N : Int)) 128 = ((UInt8.ofNat (N % 128 + 128)).toNat : Int) := by
  have h0 : IntKind.u8.wrap (N : Int) = ((N % 256 : Nat) : Int) := by rw [IntKind.wrap_u8]; omega
  have h1 : (BitVec.ofInt 8 ((N % 256 : Nat) : Int)).toNat = N % 256 := by
    rw [BitVec.ofInt_natCast, BitVec.toNat_ofNat]; omega
  have h2 : (BitVec.ofInt 8 (128 : Int)).toNat = 128 := by decide
  rw [h0]
  show IntKind.u8.wrap ((BitVec.ofInt 8 ((N % 256 : Nat) : Int) ||| BitVec.ofInt 8 128).toNat : Int) = _
  rw [BitVec.toNat_or, h1, h2, IntKind.wrap_u8, UInt8.toNat_ofNat']
  have := or128 ⟨N % 256, by omega⟩
  simp only at this
  rw [this]
  omega

set_option maxRecDepth 20000 in
theorem put_any (base k : Nat) (a : Option Addr) (c : Nat) (pre : List UInt8) (n : Nat) (w : World) (hn : n < 18446744073709551616) (hk : k ≤ 140737488355000) (hbase : base ≤ w.heap.size)
    (hown : w.ownsRow base 5 1 (.slice a k c) k (pre.map B)) :
    Calls Try.prog 41 #[.slice a k c, .int .u64 (n : Int)] w fun e w' => ∃ a' c', e = .returned (.slice a' (k + (bytesU n).length) c') ∧ w'.ownsRow base 5 1 (.slice a' (k + (bytesU n).length) c') (k + (bytesU n).length) ((pre ++ bytesU n).map B) ∧ Below base w w' := by
  have hlen := bytesU_len10 n hn
  go_enter Try.func41, Try.ntmps41
  go_wp2
  go_loopw [0, 1] (fun v i wr => ∃ (a1 : Option Addr) (c1 m N : Nat) (dn : List UInt8), v = .slice a1 m c1 ∧ i = .int .u64 (N : Int) ∧ N ≤ n ∧ pre ++ bytesU n = dn ++ bytesU N ∧ m + (bytesU N).length = k + (bytesU n).length ∧ wr.ownsRow base 5 1 v m (dn.map B) ∧ Below base w wr) (fun _ i _ => (intOf i).toNat)
  case atStart => exact ⟨a, c, k, n, pre, rfl, rfl, Nat.le_refl _, rfl, rfl, hown, Below.refl _ _⟩
  case round =>
    obtain ⟨a1, c1, m, N, dn, rfl, rfl, hNn, hbs, hm, hown1, hbel⟩ := hrel
    have hs := hbel.size
    by_cases hlt : N < 128
    · have hlt' : ¬ (128 : Int) ≤ N := by omega
      have hlow := bytesU_low hlt
      rw [hlow] at hbs hm
      have HBS := Lib.hid hbs
      have HM := Lib.hid hm
      have hmb : m ≤ 140737488355200 := by rw [List.length_singleton] at hm; omega
      have hy : Value.int .u8 (N : Int) = B (UInt8.ofNat N) := by rw [B, UInt8.toNat_ofNat']; congr 1; omega
      have HY := Lib.hid hy
      clear hbs hm hlow hlen hy
      go_wp2_with (first | (at_builtin; refine app_b1 wr rfl _ _ rfl base (.slice a1 m c1) m dn rfl hown1 _ (UInt8.ofNat N) HY.out rfl (by omega) (by omega) ?_; intro a2 c2 w2 hown2 hb2 hmv2) | fail)
      go_ret
      rw [show dn ++ [UInt8.ofNat N] = pre ++ bytesU n from HBS.out.symm] at hown2
      have hM := HM.out
      rw [List.length_singleton] at hM
      rw [hM] at hown2 ⊢
      exact ⟨a2, c2, rfl, by simpa only [List.map_append] using hown2, hbel.trans hb2⟩
    · have hlt' : (128 : Int) ≤ N := by omega
      have hhigh := bytesU_high hlt
      rw [hhigh] at hbs hm
      have HBS := Lib.hid hbs
      have HM := Lib.hid hm
      have hmb : m ≤ 140737488355200 := by rw [List.length_cons] at hm; omega
      have hy : Value.int .u8 (bits .or .u8 (IntKind.u8.wrap (N : Int)) 128) = B (UInt8.ofNat (N % 128 + 128)) := by rw [high_byte, B]
      have HY := Lib.hid hy
      clear hbs hm hhigh hlen hy
      go_wp2_with (first | (at_builtin; refine app_b1 wr rfl _ _ rfl base (.slice a1 m c1) m dn rfl hown1 _ (UInt8.ofNat (N % 128 + 128)) HY.out rfl (by omega) (by omega) ?_; intro a2 c2 w2 hown2 hb2 hmv2) | fail)
      go_wp2
      go_roundw
      case rel =>
        refine ⟨a2, c2, m + 1, N / 128, dn ++ [UInt8.ofNat (N % 128 + 128)], rfl, by go_num, by omega, by rw [HBS.out]; simp, ?_, hown2, hbel.trans hb2⟩
        have hM := HM.out
        rw [List.length_cons] at hM
        omega
      case measure => simp [intOf]; omega
set_option maxRecDepth 20000 in
theorem rput_any (base k : Nat) (a : Option Addr) (c : Nat) (pre : List UInt8) (n : Nat) (w : World) (hn : n < 18446744073709551616) (hk : k ≤ 140737488355000) (hbase : base ≤ w.heap.size)
    (hown : w.ownsRow base 5 1 (.slice a k c) k (pre.map B)) :
    Calls Try.prog 44 #[.slice a k c, .int .u64 (n : Int)] w fun e w' => ∃ a' c', e = .returned (.slice a' (k + (bytesU n).length) c') ∧ w'.ownsRow base 5 1 (.slice a' (k + (bytesU n).length) c') (k + (bytesU n).length) ((pre ++ bytesU n).map B) ∧ Below base w w' := by
  have hlen := bytesU_len10 n hn
  go_enter Try.func44, Try.ntmps44
  go_wp2
  go_loopw [0, 1] (fun v i wr => ∃ (a1 : Option Addr) (c1 m N : Nat) (dn : List UInt8), v = .slice a1 m c1 ∧ i = .int .u64 (N : Int) ∧ N ≤ n ∧ pre ++ bytesU n = dn ++ bytesU N ∧ m + (bytesU N).length = k + (bytesU n).length ∧ wr.ownsRow base 5 1 v m (dn.map B) ∧ Below base w wr) (fun _ i _ => (intOf i).toNat)
  case atStart => exact ⟨a, c, k, n, pre, rfl, rfl, Nat.le_refl _, rfl, rfl, hown, Below.refl _ _⟩
  case round =>
    obtain ⟨a1, c1, m, N, dn, rfl, rfl, hNn, hbs, hm, hown1, hbel⟩ := hrel
    have hs := hbel.size
    by_cases hlt : N < 128
    · have hlt' : ¬ (0 : Int) < (N : Int) / 128 := by omega
      have hlow := bytesU_low hlt
      rw [hlow] at hbs hm
      have HBS := Lib.hid hbs
      have HM := Lib.hid hm
      have hmb : m ≤ 140737488355200 := by rw [List.length_singleton] at hm; omega
      have hy : Value.int .u8 (N : Int) = B (UInt8.ofNat N) := by rw [B, UInt8.toNat_ofNat']; congr 1; omega
      have HY := Lib.hid hy
      clear hbs hm hlow hlen hy
      go_wp2_with (first | (at_builtin; refine app_b1 wr rfl _ _ rfl base (.slice a1 m c1) m dn rfl hown1 _ (UInt8.ofNat N) HY.out rfl (by omega) (by omega) ?_; intro a2 c2 w2 hown2 hb2 hmv2) | fail)
      go_ret
      rw [show dn ++ [UInt8.ofNat N] = pre ++ bytesU n from HBS.out.symm] at hown2
      have hM := HM.out
      rw [List.length_singleton] at hM
      rw [hM] at hown2 ⊢
      exact ⟨a2, c2, rfl, by simpa only [List.map_append] using hown2, hbel.trans hb2⟩
    · have hlt' : (0 : Int) < (N : Int) / 128 := by omega
      have hhigh := bytesU_high hlt
      rw [hhigh] at hbs hm
      have HBS := Lib.hid hbs
      have HM := Lib.hid hm
      have hmb : m ≤ 140737488355200 := by rw [List.length_cons] at hm; omega
      have hy : Value.int .u8 (128 + (N : Int) % 128) = B (UInt8.ofNat (N % 128 + 128)) := by rw [B, UInt8.toNat_ofNat']; congr 1; omega
      have HY := Lib.hid hy
      clear hbs hm hhigh hlen hy
      go_wp2_with (first | (at_builtin; refine app_b1 wr rfl _ _ rfl base (.slice a1 m c1) m dn rfl hown1 _ (UInt8.ofNat (N % 128 + 128)) HY.out rfl (by omega) (by omega) ?_; intro a2 c2 w2 hown2 hb2 hmv2) | fail)
      go_wp2
      go_roundw
      case rel =>
        refine ⟨a2, c2, m + 1, N / 128, dn ++ [UInt8.ofNat (N % 128 + 128)], rfl, by go_num, by omega, by rw [HBS.out]; simp, ?_, hown2, hbel.trans hb2⟩
        have hM := HM.out
        rw [List.length_cons] at hM
        omega
      case measure => simp [intOf]; omega
#print axioms put_any
end Go.Proofs.Ytaipnbpefdcejaa
