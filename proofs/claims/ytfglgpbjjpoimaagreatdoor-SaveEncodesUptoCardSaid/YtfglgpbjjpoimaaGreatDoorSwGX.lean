/- SaveEncodes: the program's sum, bigEndian. -/
import Derived.Test.YtfglgpbjjpoimaaGreatDoorSwGW
set_option linter.unusedVariables false
namespace Go.Proofs.YtfglgpbjjpoimaaGreatDoor
open Go.RowKit Sv
theorem or_bits (x y : Nat) (hx : x < 65521) (hy : y < 65521) : bits .or .u32 ((y : Int) * 65536) (x : Int) = ((y * 65536 + x : Nat) : Int) := by
 have h1 : (y : Int) * 65536 = ((y * 65536 : Nat) : Int) := by omega
 rw [h1]
 show IntKind.u32.wrap ((BitVec.ofInt 32 ((y * 65536 : Nat) : Int) ||| BitVec.ofInt 32 (x : Int)).toNat : Int) = _
 rw [BitVec.toNat_or, BitVec.ofInt_natCast, BitVec.ofInt_natCast, BitVec.toNat_ofNat, BitVec.toNat_ofNat, Nat.mod_eq_of_lt (by omega), Nat.mod_eq_of_lt (by omega)]
 have h2 := Nat.shiftLeft_add_eq_or_of_lt (i := 16) (b := x) (by omega) y
 rw [Nat.shiftLeft_eq] at h2
 rw [show y * 65536 = y * 2 ^ 16 by rfl, ← h2, IntKind.wrap_u32]
 omega
set_option maxHeartbeats 1000000 in
theorem psum_any (a : Option Addr) (c n : Nat) (l : List UInt8) (w : World) (hn : l.length = n) (hN : n ≤ 140737488355328) (h : Rd w a (l.map B)) :
  Calls Tryz.prog 31 #[.slice a n c] w fun e w' => e = .returned (.int .u32 (sumN l : Int)) ∧ w' = w := by
 have HN := Lib.hid hn
 have HR := Lib.hid h
 obtain ⟨F, hF⟩ : ∃ F, F = sumN l := ⟨_, rfl⟩
 rw [← hF]
 have HF := Lib.hid hF
 clear hn h hF
 go_enter Tryz.func31, Tryz.ntmps31
 go_wp2_with fail
 go_loopw [3, 4, 9] (fun u v i wr => ∃ (j x y : Nat), j ≤ n ∧ i = .int .i64 (j : Int) ∧ u = .int .u32 (x : Int) ∧ v = .int .u32 (y : Int) ∧ sumP (l.take j) = (x, y) ∧ x < 65521 ∧ y < 65521 ∧ wr = w) (fun _ _ i _ => n - (intOf i).toNat)
 case atStart => exact ⟨0, 1, 0, Nat.zero_le _, rfl, rfl, rfl, rfl, by decide, by decide, rfl⟩
 case round =>
  obtain ⟨j, x, y, hjn, rfl, rfl, rfl, hs, hx, hy, rfl⟩ := hrel
  have HS := Lib.hid hs
  clear hs
  by_cases hlt : j < n
  ·have hjl : j < l.length := by rw [HN.out]; exact hlt
   obtain ⟨ad, rfl, hcell⟩ := rd_add HR.out (by simp; omega)
   have e0 := hcell j (B l[j]) (by simp [hjl])
   have htk : sumP (l.take (j + 1)) = ((x + l[j].toNat) % 65521, (y + (x + l[j].toNat) % 65521) % 65521) := by
    rw [take_snoc l j hjl, sumP_snoc, HS.out]; rfl
   have hu8 : l[j].toNat < 256 := l[j].toNat_lt
   obtain ⟨u, hu⟩ : ∃ u, u = l[j].toNat := ⟨_, rfl⟩
   rw [B, ← hu] at e0
   rw [← hu] at htk hu8
   have HTK := Lib.hid htk
   have HME := Lib.hid (meas_lt hlt)
   have hlt' : (j : Int) < n := by omega
   have hj0 : (0 : Int) ≤ j := by omega
   clear hcell htk hu
   go_wp2_with fail
   go_roundw
   case rel => exact ⟨j + 1, (x + u) % 65521, (y + (x + u) % 65521) % 65521, hlt, by go_num, by go_num, by go_num, HTK.out, Nat.mod_lt _ (by decide), Nat.mod_lt _ (by decide), trivial⟩
   case measure => exact HME.out
  ·have hk' : ¬ (j : Int) < n := by omega
   have HV := Lib.hid (show (F : Int) = bits .or .u32 ((y : Int) * 65536) (x : Int) by
    have h1 := HS.out
    rw [List.take_of_length_le (by rw [HN.out]; omega)] at h1
    rw [or_bits x y hx hy, HF.out]; unfold sumN; rw [h1])
   go_wp2_with fail
   go_ret
   refine ⟨?_, rfl⟩
   rw [HV.out]
   first
    | rfl
    | (refine ret_val (congrArg (Value.int IntKind.u32) ?_); rw [IntKind.wrap_u32]; rfl)
theorem hi_step (n q k : Nat) (hq : q < k) : hiB (n / 256 ^ q) (k - q) = hiB (n / 256 ^ (q + 1)) (k - (q + 1)) ++ [UInt8.ofNat (n / 256 ^ q % 256)] := by
 rw [show k - q = (k - (q + 1)) + 1 by omega, hiB, Nat.div_div_eq_div_mul, ← Nat.pow_succ]
set_option maxHeartbeats 2000000 in
set_option maxRecDepth 20000 in
theorem bigEndian_any (base : Nat) (a : Option Addr) (c m n k : Nat) (l : List UInt8) (w : World) (hn : n < 18446744073709551616) (hk : k ≤ 8) (hm : l.length = m) (hM : m ≤ 100000000000000) (hb : base ≤ w.heap.size) (ho : w.ownsRow base 5 1 (.slice a m c) m (l.map B)) :
  Calls Tryz.prog 30 #[.slice a m c, .int .u64 (n : Int), .int .i64 (k : Int)] w fun e w' => ∃ a' c' m', (l ++ hiB n k).length = m' ∧ e = .returned (.slice a' m' c') ∧ w'.ownsRow base 5 1 (.slice a' m' c') m' ((l ++ hiB n k).map B) ∧ Below base w w' := by
 have HM := Lib.hid hm
 have HO := Lib.hid ho
 have HB := Lib.hid hb
 clear hm ho hb
 go_enter Tryz.func30, Tryz.ntmps30
 go_wp2_with fail
 go_loopw [0, 7] (fun v i wr => ∃ (q : Nat) (a1 : Option Addr) (c1 m1 : Nat), q ≤ k ∧ i = .int .i64 ((q : Int) - 1) ∧ v = .slice a1 m1 c1 ∧ (l ++ hiB (n / 256 ^ q) (k - q)).length = m1 ∧ wr.ownsRow base 5 1 (.slice a1 m1 c1) m1 ((l ++ hiB (n / 256 ^ q) (k - q)).map B) ∧ Below base w wr) (fun _ i _ => ((intOf i) + 1).toNat)
 case atStart => exact ⟨k, a, c, m, Nat.le_refl _, rfl, rfl, by rw [Nat.sub_self]; simpa [hiB] using HM.out, by rw [Nat.sub_self]; simpa [hiB] using HO.out, Below.refl _ _⟩
 case round =>
  obtain ⟨q, a1, c1, m1, hqk, rfl, rfl, hm1, hown, hbw⟩ := hrel
  have HBW := Lib.hid hbw
  have hbr : base ≤ wr.heap.size := Nat.le_trans HB.out hbw.size
  obtain _ | q := q
  ·rw [Nat.pow_zero, Nat.div_one, Nat.sub_zero] at hm1 hown
   have HM1 := Lib.hid hm1
   have HOW := Lib.hid hown
   clear hbw hm1 hown
   go_wp2_with fail
   go_ret
   exact ⟨a1, c1, m1, HM1.out, rfl, HOW.out, HBW.out⟩
  ·have hst := hi_step n q k hqk
   obtain ⟨D, hD⟩ : ∃ D, D = l ++ hiB (n / 256 ^ (q + 1)) (k - (q + 1)) := ⟨_, rfl⟩
   rw [← hD] at hm1 hown
   have HST := Lib.hid (show l ++ hiB (n / 256 ^ q) (k - q) = D ++ [UInt8.ofNat (n / 256 ^ q % 256)] by rw [hD, hst, List.append_assoc])
   have HLN := Lib.hid (show (D ++ [UInt8.ofNat (n / 256 ^ q % 256)]).length = m1 + 1 by rw [List.length_append, hm1]; rfl)
   have hmb : m1 ≤ 100000000000008 := by
    have h1 := HM.out
    rw [← hm1, hD, List.length_append, hiB_len]; omega
   have HQK := Lib.hid hqk
   clear hst hD hm1 hbw
   have hq8 : q = 0 ∨ q = 1 ∨ q = 2 ∨ q = 3 ∨ q = 4 ∨ q = 5 ∨ q = 6 ∨ q = 7 := by omega
   have HME := Lib.hid (show ((intOf (Value.int .i64 ((q : Int) - 1))) + 1).toNat < ((intOf (Value.int .i64 (((q + 1 : Nat) : Int) - 1))) + 1).toNat by simp [intOf]; try omega)
   have HY := Lib.hid (show ∀ v : Nat, Value.int .u8 (IntKind.u8.wrap (v : Int)) = B (UInt8.ofNat (v % 256)) from fun v => by
    rw [B, UInt8.toNat_ofNat', IntKind.wrap_u8]; congr 1; omega)
   clear hqk
   rcases hq8 with rfl | rfl | rfl | rfl | rfl | rfl | rfl | rfl
   ·have HYQ := Lib.hid (show Value.int .u8 ((n : Int) % 256) = B (UInt8.ofNat (n / 256 ^ 0 % 256)) by
     rw [B, UInt8.toNat_ofNat', show (256 : Nat) ^ 0 = 1 from rfl]
     congr 1; omega)
    go_wp2_with (first | (at_builtin; refine app_b1 wr rfl _ _ rfl base (.slice a1 m1 c1) m1 D rfl hown _ (UInt8.ofNat (n / 256 ^ 0 % 256)) HYQ.out rfl (by omega) hbr ?_; intro a2 c2 w2 hown2 hb2 hmv2) | fail)
    go_roundw
    case rel => exact ⟨0, a2, c2, m1 + 1, by have := HQK.out; omega, by go_num, rfl, by rw [HST.out]; exact HLN.out, by rw [HST.out]; exact hown2, HBW.out.trans hb2⟩
    case measure => first | exact HME.out | (simp [intOf]; done) | (simp [intOf]; omega)
   ·have HYQ := Lib.hid (show Value.int .u8 ((n : Int) / 256 % 256) = B (UInt8.ofNat (n / 256 ^ 1 % 256)) by
     rw [B, UInt8.toNat_ofNat', show (256 : Nat) ^ 1 = 256 from rfl]
     congr 1; omega)
    go_wp2_with (first | (at_builtin; refine app_b1 wr rfl _ _ rfl base (.slice a1 m1 c1) m1 D rfl hown _ (UInt8.ofNat (n / 256 ^ 1 % 256)) HYQ.out rfl (by omega) hbr ?_; intro a2 c2 w2 hown2 hb2 hmv2) | fail)
    go_roundw
    case rel => exact ⟨1, a2, c2, m1 + 1, by have := HQK.out; omega, by go_num, rfl, by rw [HST.out]; exact HLN.out, by rw [HST.out]; exact hown2, HBW.out.trans hb2⟩
    case measure => first | exact HME.out | (simp [intOf]; done) | (simp [intOf]; omega)
   ·have HYQ := Lib.hid (show Value.int .u8 ((n : Int) / 65536 % 256) = B (UInt8.ofNat (n / 256 ^ 2 % 256)) by
     rw [B, UInt8.toNat_ofNat', show (256 : Nat) ^ 2 = 65536 from rfl]
     congr 1; omega)
    go_wp2_with (first | (at_builtin; refine app_b1 wr rfl _ _ rfl base (.slice a1 m1 c1) m1 D rfl hown _ (UInt8.ofNat (n / 256 ^ 2 % 256)) HYQ.out rfl (by omega) hbr ?_; intro a2 c2 w2 hown2 hb2 hmv2) | fail)
    go_roundw
    case rel => exact ⟨2, a2, c2, m1 + 1, by have := HQK.out; omega, by go_num, rfl, by rw [HST.out]; exact HLN.out, by rw [HST.out]; exact hown2, HBW.out.trans hb2⟩
    case measure => first | exact HME.out | (simp [intOf]; done) | (simp [intOf]; omega)
   ·have HYQ := Lib.hid (show Value.int .u8 ((n : Int) / 16777216 % 256) = B (UInt8.ofNat (n / 256 ^ 3 % 256)) by
     rw [B, UInt8.toNat_ofNat', show (256 : Nat) ^ 3 = 16777216 from rfl]
     congr 1; omega)
    go_wp2_with (first | (at_builtin; refine app_b1 wr rfl _ _ rfl base (.slice a1 m1 c1) m1 D rfl hown _ (UInt8.ofNat (n / 256 ^ 3 % 256)) HYQ.out rfl (by omega) hbr ?_; intro a2 c2 w2 hown2 hb2 hmv2) | fail)
    go_roundw
    case rel => exact ⟨3, a2, c2, m1 + 1, by have := HQK.out; omega, by go_num, rfl, by rw [HST.out]; exact HLN.out, by rw [HST.out]; exact hown2, HBW.out.trans hb2⟩
    case measure => first | exact HME.out | (simp [intOf]; done) | (simp [intOf]; omega)
   ·have HYQ := Lib.hid (show Value.int .u8 ((n : Int) / 4294967296 % 256) = B (UInt8.ofNat (n / 256 ^ 4 % 256)) by
     rw [B, UInt8.toNat_ofNat', show (256 : Nat) ^ 4 = 4294967296 from rfl]
     congr 1; omega)
    go_wp2_with (first | (at_builtin; refine app_b1 wr rfl _ _ rfl base (.slice a1 m1 c1) m1 D rfl hown _ (UInt8.ofNat (n / 256 ^ 4 % 256)) HYQ.out rfl (by omega) hbr ?_; intro a2 c2 w2 hown2 hb2 hmv2) | fail)
    go_roundw
    case rel => exact ⟨4, a2, c2, m1 + 1, by have := HQK.out; omega, by go_num, rfl, by rw [HST.out]; exact HLN.out, by rw [HST.out]; exact hown2, HBW.out.trans hb2⟩
    case measure => first | exact HME.out | (simp [intOf]; done) | (simp [intOf]; omega)
   ·have HYQ := Lib.hid (show Value.int .u8 ((n : Int) / 1099511627776 % 256) = B (UInt8.ofNat (n / 256 ^ 5 % 256)) by
     rw [B, UInt8.toNat_ofNat', show (256 : Nat) ^ 5 = 1099511627776 from rfl]
     congr 1; omega)
    go_wp2_with (first | (at_builtin; refine app_b1 wr rfl _ _ rfl base (.slice a1 m1 c1) m1 D rfl hown _ (UInt8.ofNat (n / 256 ^ 5 % 256)) HYQ.out rfl (by omega) hbr ?_; intro a2 c2 w2 hown2 hb2 hmv2) | fail)
    go_roundw
    case rel => exact ⟨5, a2, c2, m1 + 1, by have := HQK.out; omega, by go_num, rfl, by rw [HST.out]; exact HLN.out, by rw [HST.out]; exact hown2, HBW.out.trans hb2⟩
    case measure => first | exact HME.out | (simp [intOf]; done) | (simp [intOf]; omega)
   ·have HYQ := Lib.hid (show Value.int .u8 ((n : Int) / 281474976710656 % 256) = B (UInt8.ofNat (n / 256 ^ 6 % 256)) by
     rw [B, UInt8.toNat_ofNat', show (256 : Nat) ^ 6 = 281474976710656 from rfl]
     congr 1; omega)
    go_wp2_with (first | (at_builtin; refine app_b1 wr rfl _ _ rfl base (.slice a1 m1 c1) m1 D rfl hown _ (UInt8.ofNat (n / 256 ^ 6 % 256)) HYQ.out rfl (by omega) hbr ?_; intro a2 c2 w2 hown2 hb2 hmv2) | fail)
    go_roundw
    case rel => exact ⟨6, a2, c2, m1 + 1, by have := HQK.out; omega, by go_num, rfl, by rw [HST.out]; exact HLN.out, by rw [HST.out]; exact hown2, HBW.out.trans hb2⟩
    case measure => first | exact HME.out | (simp [intOf]; done) | (simp [intOf]; omega)
   ·have HYQ := Lib.hid (show Value.int .u8 ((n : Int) / 72057594037927936) = B (UInt8.ofNat (n / 256 ^ 7 % 256)) by
     rw [B, UInt8.toNat_ofNat', show (256 : Nat) ^ 7 = 72057594037927936 from rfl]
     congr 1; omega)
    go_wp2_with (first | (at_builtin; refine app_b1 wr rfl _ _ rfl base (.slice a1 m1 c1) m1 D rfl hown _ (UInt8.ofNat (n / 256 ^ 7 % 256)) HYQ.out rfl (by omega) hbr ?_; intro a2 c2 w2 hown2 hb2 hmv2) | fail)
    go_roundw
    case rel => exact ⟨7, a2, c2, m1 + 1, by have := HQK.out; omega, by go_num, rfl, by rw [HST.out]; exact HLN.out, by rw [HST.out]; exact hown2, HBW.out.trans hb2⟩
    case measure => first | exact HME.out | (simp [intOf]; done) | (simp [intOf]; omega)
end Go.Proofs.YtfglgpbjjpoimaaGreatDoor
/- SaveEncodes: the program's Event.Before. -/
set_option linter.unusedVariables false
namespace Go.Proofs.YtfglgpbjjpoimaaGreatDoor
open Go.RowKit Sv
set_option maxHeartbeats 4000000 in
set_option maxRecDepth 20000 in
theorem evbefore_any (ts ty a0 a1 a2 a3 a4 a5 a6 a7 us uy b0 b1 b2 b3 b4 b5 b6 b7 : Int) (i j : Nat) (w : World) :
  Calls Tryz.prog 70 #[.agg #[.int .i64 ts, .int .u64 (i : Int), .int .i64 ty, .int .i64 a0, .int .i64 a1, .int .i64 a2, .int .i64 a3, .int .i64 a4, .int .i64 a5, .int .i64 a6, .int .i64 a7], .agg #[.int .i64 us, .int .u64 (j : Int), .int .i64 uy, .int .i64 b0, .int .i64 b1, .int .i64 b2, .int .i64 b3, .int .i64 b4, .int .i64 b5, .int .i64 b6, .int .i64 b7]] w fun e w' => e = .returned (.bool (nmLt ⟨ts, i⟩ ⟨us, j⟩)) ∧ Below w.heap.size w w' := by
 obtain ⟨w0, hw0⟩ : ∃ w0, w0 = (w.alloc (.cells #[.int .i64 ts, .int .u64 (i : Int), .int .i64 ty, .int .i64 a0, .int .i64 a1, .int .i64 a2, .int .i64 a3, .int .i64 a4, .int .i64 a5, .int .i64 a6, .int .i64 a7] 108)).alloc (.cells #[.int .i64 us, .int .u64 (j : Int), .int .i64 uy, .int .i64 b0, .int .i64 b1, .int .i64 b2, .int .i64 b3, .int .i64 b4, .int .i64 b5, .int .i64 b6, .int .i64 b7] 108) := ⟨_, rfl⟩
 have hE1 : Blk w0 w.heap.size 108 [.int .i64 ts, .int .u64 (i : Int), .int .i64 ty, .int .i64 a0, .int .i64 a1, .int .i64 a2, .int .i64 a3, .int .i64 a4, .int .i64 a5, .int .i64 a6, .int .i64 a7] := by rw [hw0]; exact (Blk.new w _ 108).below (bal (Below.refl _ _) (Nat.le_refl _) _)
 have hE2 : Blk w0 (w.heap.size + 1) 108 [.int .i64 us, .int .u64 (j : Int), .int .i64 uy, .int .i64 b0, .int .i64 b1, .int .i64 b2, .int .i64 b3, .int .i64 b4, .int .i64 b5, .int .i64 b6, .int .i64 b7] := by
  rw [hw0]
  have h := Blk.new (w.alloc (.cells #[.int .i64 ts, .int .u64 (i : Int), .int .i64 ty, .int .i64 a0, .int .i64 a1, .int .i64 a2, .int .i64 a3, .int .i64 a4, .int .i64 a5, .int .i64 a6, .int .i64 a7] 108)) [.int .i64 us, .int .u64 (j : Int), .int .i64 uy, .int .i64 b0, .int .i64 b1, .int .i64 b2, .int .i64 b3, .int .i64 b4, .int .i64 b5, .int .i64 b6, .int .i64 b7] 108
  rw [show (w.alloc (.cells #[.int .i64 ts, .int .u64 (i : Int), .int .i64 ty, .int .i64 a0, .int .i64 a1, .int .i64 a2, .int .i64 a3, .int .i64 a4, .int .i64 a5, .int .i64 a6, .int .i64 a7] 108)).heap.size = w.heap.size + 1 by show Array.size (Array.push _ _) = _; simp] at h
  exact h
 have HB0 := Lib.hid (show Below w.heap.size w w0 by rw [hw0]; exact bal (bal (Below.refl _ _) (Nat.le_refl _) _) (Nat.le_refl _) _)
 have HE1 := Lib.hid hE1
 have HE2 := Lib.hid hE2
 have HBW := Lib.hid (show Below w0.heap.size w0 w0.drew from (Below.refl _ _).drew)
 have c0 : w0.drew.cell? ⟨w.heap.size, 0, none⟩ = some (.int .i64 ts) := hE1.ci 0 rfl
 have c1 : w0.drew.cell? ⟨w.heap.size, 1, none⟩ = some (.int .u64 (i : Int)) := hE1.ci 1 rfl
 have c2 : w0.drew.cell? ⟨w.heap.size, 2, none⟩ = some (.int .i64 ty) := hE1.ci 2 rfl
 have c3 : w0.drew.cell? ⟨w.heap.size, 3, none⟩ = some (.int .i64 a0) := hE1.ci 3 rfl
 have c4 : w0.drew.cell? ⟨w.heap.size, 4, none⟩ = some (.int .i64 a1) := hE1.ci 4 rfl
 have c5 : w0.drew.cell? ⟨w.heap.size, 5, none⟩ = some (.int .i64 a2) := hE1.ci 5 rfl
 have c6 : w0.drew.cell? ⟨w.heap.size, 6, none⟩ = some (.int .i64 a3) := hE1.ci 6 rfl
 have c7 : w0.drew.cell? ⟨w.heap.size, 7, none⟩ = some (.int .i64 a4) := hE1.ci 7 rfl
 have c8 : w0.drew.cell? ⟨w.heap.size, 8, none⟩ = some (.int .i64 a5) := hE1.ci 8 rfl
 have c9 : w0.drew.cell? ⟨w.heap.size, 9, none⟩ = some (.int .i64 a6) := hE1.ci 9 rfl
 have c10 : w0.drew.cell? ⟨w.heap.size, 10, none⟩ = some (.int .i64 a7) := hE1.ci 10 rfl
 have d0 : w0.drew.cell? ⟨w.heap.size + 1, 0, none⟩ = some (.int .i64 us) := hE2.ci 0 rfl
 have d1 : w0.drew.cell? ⟨w.heap.size + 1, 1, none⟩ = some (.int .u64 (j : Int)) := hE2.ci 1 rfl
 have d2 : w0.drew.cell? ⟨w.heap.size + 1, 2, none⟩ = some (.int .i64 uy) := hE2.ci 2 rfl
 have d3 : w0.drew.cell? ⟨w.heap.size + 1, 3, none⟩ = some (.int .i64 b0) := hE2.ci 3 rfl
 have d4 : w0.drew.cell? ⟨w.heap.size + 1, 4, none⟩ = some (.int .i64 b1) := hE2.ci 4 rfl
 have d5 : w0.drew.cell? ⟨w.heap.size + 1, 5, none⟩ = some (.int .i64 b2) := hE2.ci 5 rfl
 have d6 : w0.drew.cell? ⟨w.heap.size + 1, 6, none⟩ = some (.int .i64 b3) := hE2.ci 6 rfl
 have d7 : w0.drew.cell? ⟨w.heap.size + 1, 7, none⟩ = some (.int .i64 b4) := hE2.ci 7 rfl
 have d8 : w0.drew.cell? ⟨w.heap.size + 1, 8, none⟩ = some (.int .i64 b5) := hE2.ci 8 rfl
 have d9 : w0.drew.cell? ⟨w.heap.size + 1, 9, none⟩ = some (.int .i64 b6) := hE2.ci 9 rfl
 have d10 : w0.drew.cell? ⟨w.heap.size + 1, 10, none⟩ = some (.int .i64 b7) := hE2.ci 10 rfl
 clear hE1 hE2
 go_enter Tryz.func70, Tryz.ntmps70
 go_wp2_with fail
 rw [← hw0]
 clear hw0
 go_region_held3 (fun W => W.cell? ⟨w.heap.size, 0, none⟩ = some (.int .i64 ts) ∧ W.cell? ⟨w.heap.size, 1, none⟩ = some (.int .u64 (i : Int)) ∧ W.cell? ⟨w.heap.size, 2, none⟩ = some (.int .i64 ty) ∧ W.cell? ⟨w.heap.size, 3, none⟩ = some (.int .i64 a0) ∧ W.cell? ⟨w.heap.size, 4, none⟩ = some (.int .i64 a1) ∧ W.cell? ⟨w.heap.size, 5, none⟩ = some (.int .i64 a2) ∧ W.cell? ⟨w.heap.size, 6, none⟩ = some (.int .i64 a3) ∧ W.cell? ⟨w.heap.size, 7, none⟩ = some (.int .i64 a4) ∧ W.cell? ⟨w.heap.size, 8, none⟩ = some (.int .i64 a5) ∧ W.cell? ⟨w.heap.size, 9, none⟩ = some (.int .i64 a6) ∧ W.cell? ⟨w.heap.size, 10, none⟩ = some (.int .i64 a7) ∧ W.cell? ⟨w.heap.size + 1, 0, none⟩ = some (.int .i64 us) ∧ W.cell? ⟨w.heap.size + 1, 1, none⟩ = some (.int .u64 (j : Int)) ∧ W.cell? ⟨w.heap.size + 1, 2, none⟩ = some (.int .i64 uy) ∧ W.cell? ⟨w.heap.size + 1, 3, none⟩ = some (.int .i64 b0) ∧ W.cell? ⟨w.heap.size + 1, 4, none⟩ = some (.int .i64 b1) ∧ W.cell? ⟨w.heap.size + 1, 5, none⟩ = some (.int .i64 b2) ∧ W.cell? ⟨w.heap.size + 1, 6, none⟩ = some (.int .i64 b3) ∧ W.cell? ⟨w.heap.size + 1, 7, none⟩ = some (.int .i64 b4) ∧ W.cell? ⟨w.heap.size + 1, 8, none⟩ = some (.int .i64 b5) ∧ W.cell? ⟨w.heap.size + 1, 9, none⟩ = some (.int .i64 b6) ∧ W.cell? ⟨w.heap.size + 1, 10, none⟩ = some (.int .i64 b7)) (first | exact ⟨c0, c1, c2, c3, c4, c5, c6, c7, c8, c9, c10, d0, d1, d2, d3, d4, d5, d6, d7, d8, d9, d10⟩ | (refine ⟨?_, ?_, ?_, ?_, ?_, ?_, ?_, ?_, ?_, ?_, ?_, ?_, ?_, ?_, ?_, ?_, ?_, ?_, ?_, ?_, ?_, ?_⟩ <;> assumption)) (first
  | (go_at_call 73; refine (evname_any _ _ _ _ _ _ _ _ _ _ _ _).mono ?_; rintro e wA ⟨rfl, hbA⟩; (have HBW := Lib.hid (HBW.out.trans (hbA.mono HBW.out.size))); (have c0 := (HE1.out.below HBW.out).ci 0 rfl); (have c1 := (HE1.out.below HBW.out).ci 1 rfl); (have c2 := (HE1.out.below HBW.out).ci 2 rfl); (have c3 := (HE1.out.below HBW.out).ci 3 rfl); (have c4 := (HE1.out.below HBW.out).ci 4 rfl); (have c5 := (HE1.out.below HBW.out).ci 5 rfl); (have c6 := (HE1.out.below HBW.out).ci 6 rfl); (have c7 := (HE1.out.below HBW.out).ci 7 rfl); (have c8 := (HE1.out.below HBW.out).ci 8 rfl); (have c9 := (HE1.out.below HBW.out).ci 9 rfl); (have c10 := (HE1.out.below HBW.out).ci 10 rfl); (have d0 := (HE2.out.below HBW.out).ci 0 rfl); (have d1 := (HE2.out.below HBW.out).ci 1 rfl); (have d2 := (HE2.out.below HBW.out).ci 2 rfl); (have d3 := (HE2.out.below HBW.out).ci 3 rfl); (have d4 := (HE2.out.below HBW.out).ci 4 rfl); (have d5 := (HE2.out.below HBW.out).ci 5 rfl); (have d6 := (HE2.out.below HBW.out).ci 6 rfl); (have d7 := (HE2.out.below HBW.out).ci 7 rfl); (have d8 := (HE2.out.below HBW.out).ci 8 rfl); (have d9 := (HE2.out.below HBW.out).ci 9 rfl); (have d10 := (HE2.out.below HBW.out).ci 10 rfl); clear hbA)
  | (go_at_call 72; refine (nmbefore_any ⟨ts, i⟩ ⟨us, j⟩ _).mono ?_; rintro e wB ⟨rfl, hbB⟩; (have HBW := Lib.hid (HBW.out.trans (hbB.mono HBW.out.size))); (have c0 := (HE1.out.below HBW.out).ci 0 rfl); (have c1 := (HE1.out.below HBW.out).ci 1 rfl); (have c2 := (HE1.out.below HBW.out).ci 2 rfl); (have c3 := (HE1.out.below HBW.out).ci 3 rfl); (have c4 := (HE1.out.below HBW.out).ci 4 rfl); (have c5 := (HE1.out.below HBW.out).ci 5 rfl); (have c6 := (HE1.out.below HBW.out).ci 6 rfl); (have c7 := (HE1.out.below HBW.out).ci 7 rfl); (have c8 := (HE1.out.below HBW.out).ci 8 rfl); (have c9 := (HE1.out.below HBW.out).ci 9 rfl); (have c10 := (HE1.out.below HBW.out).ci 10 rfl); (have d0 := (HE2.out.below HBW.out).ci 0 rfl); (have d1 := (HE2.out.below HBW.out).ci 1 rfl); (have d2 := (HE2.out.below HBW.out).ci 2 rfl); (have d3 := (HE2.out.below HBW.out).ci 3 rfl); (have d4 := (HE2.out.below HBW.out).ci 4 rfl); (have d5 := (HE2.out.below HBW.out).ci 5 rfl); (have d6 := (HE2.out.below HBW.out).ci 6 rfl); (have d7 := (HE2.out.below HBW.out).ci 7 rfl); (have d8 := (HE2.out.below HBW.out).ci 8 rfl); (have d9 := (HE2.out.below HBW.out).ci 9 rfl); (have d10 := (HE2.out.below HBW.out).ci 10 rfl); clear hbB))
 go_wp2_with fail
 go_ret
 exact ⟨rfl, HB0.out.trans (HBW.out.mono HB0.out.size)⟩
end Go.Proofs.YtfglgpbjjpoimaaGreatDoor
/- SaveEncodes: the program's Match.Before. -/
set_option linter.unusedVariables false
namespace Go.Proofs.YtfglgpbjjpoimaaGreatDoor
open Go.RowKit Sv
set_option maxHeartbeats 4000000 in
set_option maxRecDepth 20000 in
theorem mbefore_any (x y : Mm) (w : World) (hx : RdMl w x) (hy : RdMl w y) (x1 : x.m.names.length ≤ 1048576) (x2 : x.m.lens.length ≤ 1048576) (y1 : y.m.names.length ≤ 1048576) (y2 : y.m.lens.length ≤ 1048576) :
    Calls Tryz.prog 71 #[.agg (mmc x).toArray, .agg (mmc y).toArray] w fun e w' => e = .returned (.bool (mtLt x.m y.m)) ∧ Below w.heap.size w w' := by
  obtain ⟨⟨d1, ns1, ls1, vs1⟩, na1, nc1, la1, lc1, va1, vc1⟩ := x
  obtain ⟨⟨d2, ns2, ls2, vs2⟩, na2, nc2, la2, lc2, va2, vc2⟩ := y
  dsimp only at x1 x2 y1 y2
  obtain ⟨n1, hn1⟩ : ∃ n, n = ns1.length := ⟨_, rfl⟩
  obtain ⟨n2, hn2⟩ : ∃ n, n = ns2.length := ⟨_, rfl⟩
  obtain ⟨m1, hm1⟩ : ∃ n, n = ls1.length := ⟨_, rfl⟩
  obtain ⟨m2, hm2⟩ : ∃ n, n = ls2.length := ⟨_, rfl⟩
  obtain ⟨F, hF⟩ : ∃ F, F = mtLt ⟨d1, ns1, ls1, vs1⟩ ⟨d2, ns2, ls2, vs2⟩ := ⟨_, rfl⟩
  rw [← hF]
  have HF := Lib.hid hF
  obtain ⟨w0, hw0⟩ : ∃ w0, w0 = (w.alloc (.cells #[.int .i64 d1, .slice na1 n1 nc1, .slice la1 m1 lc1, .slice va1 vs1.length vc1] 62)).alloc (.cells #[.int .i64 d2, .slice na2 n2 nc2, .slice la2 m2 lc2, .slice va2 vs2.length vc2] 62) := ⟨_, rfl⟩
  have HB0 := Lib.hid (show Below w.heap.size w w0 by rw [hw0]; exact bal (bal (Below.refl _ _) (Nat.le_refl _) _) (Nat.le_refl _) _)
  have hE1 : Blk w0 w.heap.size 62 [.int .i64 d1, .slice na1 n1 nc1, .slice la1 m1 lc1, .slice va1 vs1.length vc1] := by rw [hw0]; exact (Blk.new w _ 62).below (bal (Below.refl _ _) (Nat.le_refl _) _)
  have hE2 : Blk w0 (w.heap.size + 1) 62 [.int .i64 d2, .slice na2 n2 nc2, .slice la2 m2 lc2, .slice va2 vs2.length vc2] := by
    rw [hw0]
    have h := Blk.new (w.alloc (.cells #[.int .i64 d1, .slice na1 n1 nc1, .slice la1 m1 lc1, .slice va1 vs1.length vc1] 62)) [.int .i64 d2, .slice na2 n2 nc2, .slice la2 m2 lc2, .slice va2 vs2.length vc2] 62
    rw [show (w.alloc (.cells #[.int .i64 d1, .slice na1 n1 nc1, .slice la1 m1 lc1, .slice va1 vs1.length vc1] 62)).heap.size = w.heap.size + 1 by show Array.size (Array.push _ _) = _; simp] at h
    exact h
  have HE1 := Lib.hid hE1
  have HE2 := Lib.hid hE2
  have HX := Lib.hid (hx.below HB0.out)
  have HY := Lib.hid (hy.below HB0.out)
  have HN1 := Lib.hid hn1
  have HN2 := Lib.hid hn2
  have HM1 := Lib.hid hm1
  have HM2 := Lib.hid hm2
  rw [← hn1] at x1
  rw [← hm1] at x2
  rw [← hn2] at y1
  rw [← hm2] at y2
  simp only [mmc, ← hn1, ← hn2, ← hm1, ← hm2]
  clear hE1 hE2 hx hy hn1 hn2 hm1 hm2 hF
  by_cases hd : d1 = d2
  rotate_left
  · have h1 : (d1 == d2) = false := by simpa using hd
    have h2 : (d1 != d2) = true := by simpa using hd
    have HBA := Lib.hid (show Below w.heap.size w ((w.alloc (.cells #[.int .i64 d1, .slice na1 n1 nc1, .slice la1 m1 lc1, .slice va1 vs1.length vc1] 62)).alloc (.cells #[.int .i64 d2, .slice na2 n2 nc2, .slice la2 m2 lc2, .slice va2 vs2.length vc2] 62)) by rw [← hw0]; exact HB0.out)
    have hR : (d1 < d2 ∧ F = true) ∨ (¬ d1 < d2 ∧ F = false) := by
      by_cases h : d1 < d2
      · exact .inl ⟨h, by rw [HF.out]; unfold mtLt; rw [if_neg hd]; simpa using h⟩
      · exact .inr ⟨h, by rw [HF.out]; unfold mtLt; rw [if_neg hd]; simpa using h⟩
    clear hd hw0
    rcases hR with ⟨h3, rfl⟩ | ⟨h3, rfl⟩
    all_goals (
      go_enter Tryz.func71, Tryz.ntmps71
      go_wp2_with fail
      go_ret
      exact ⟨rfl, HBA.out⟩)
  have HFD := Lib.hid (show F = (match lexL nmEq nmLt ns1 ns2 with | some r => r | none => (lexL zEq zLt ls1 ls2).getD false) by rw [HF.out]; unfold mtLt; rw [if_pos hd]; rfl)
  subst hd
  go_enter Tryz.func71, Tryz.ntmps71
  go_wp2_with fail
  rw [← hw0]
  clear hw0
  go_loopw [5] (fun i wr => ∃ k : Nat, k ≤ n1 ∧ k ≤ n2 ∧ i = .int .i64 (k : Int) ∧ lexL nmEq nmLt ns1 ns2 = lexL nmEq nmLt (ns1.drop k) (ns2.drop k) ∧ Below w0.heap.size w0 wr) (fun i _ => n1 - (intOf i).toNat)
  case atStart => exact ⟨0, Nat.zero_le _, Nat.zero_le _, rfl, rfl, Below.refl _ _⟩
  case round =>
    obtain ⟨k, hk1, hk2, rfl, hlx, hbw⟩ := hrel
    have HLX := Lib.hid hlx
    have HBR := Lib.hid hbw
    have HE1R := Lib.hid (HE1.out.below hbw)
    have HE2R := Lib.hid (HE2.out.below hbw)
    have p1 := HE1R.out.ci 1 rfl
    have q1 := HE2R.out.ci 1 rfl
    clear hlx
    by_cases hgo : k < n1 ∧ k < n2
    · obtain ⟨hlt, hl2⟩ := hgo
      have hlt' : (k : Int) < n1 := by omega
      have hl2' : (k : Int) < n2 := by omega
      have hk0 : (0 : Int) ≤ k := by omega
      have hj1 : k < ns1.length := by rw [← HN1.out]; exact hlt
      have hj2 : k < ns2.length := by rw [← HN2.out]; exact hl2
      have hst := lex_step (eq := nmEq) (lt := nmLt) hj1 hj2 HLX.out
      have hdf := lex_diff (eq := nmEq) (lt := nmLt) hj1 hj2 HLX.out
      obtain ⟨b1, o1, rfl, e0, e1⟩ := (HX.out.1.below hbw).at k hj1
      obtain ⟨b2, o2, rfl, f0, f1⟩ := (HY.out.1.below hbw).at k hj2
      obtain ⟨u1, hu1⟩ : ∃ u, u = ns1[k] := ⟨_, rfl⟩
      obtain ⟨u2, hu2⟩ : ∃ u, u = ns2[k] := ⟨_, rfl⟩
      have HOLD1 := Lib.hid (fun W (hW : Below w0.heap.size w0 W) => show W.cell? ⟨b1, o1 + k * 2, none⟩ = some (.int .i64 u1.ts) ∧ W.cell? ⟨b1, o1 + k * 2 + 1, none⟩ = some (.int .u64 (u1.id : Int)) by
        obtain ⟨b, o, h1, h2⟩ := (HX.out.1.below hW).at k hj1
        cases h1; rw [hu1]; exact h2)
      have HOLD2 := Lib.hid (fun W (hW : Below w0.heap.size w0 W) => show W.cell? ⟨b2, o2 + k * 2, none⟩ = some (.int .i64 u2.ts) ∧ W.cell? ⟨b2, o2 + k * 2 + 1, none⟩ = some (.int .u64 (u2.id : Int)) by
        obtain ⟨b, o, h1, h2⟩ := (HY.out.1.below hW).at k hj2
        cases h1; rw [hu2]; exact h2)
      rw [← hu1] at e0 e1 hst hdf
      rw [← hu2] at f0 f1 hst hdf
      obtain ⟨t1, i1⟩ := u1
      obtain ⟨t2, i2⟩ := u2
      dsimp only at e0 e1 f0 f1
      have HST := Lib.hid hst
      have HDF := Lib.hid hdf
      have HME := Lib.hid (meas_lt hlt)
      have HKS := Lib.hid (show k + 1 ≤ n1 ∧ k + 1 ≤ n2 by omega)
      have HBD := Lib.hid (show ∀ N, Below w0.heap.size w0 (World.drewN wr N) from fun N => hbw.trans ((below_draws wr).mono hbw.size))
      clear hst hdf hu1 hu2 hbw
      by_cases hteq : t1 = t2 ∧ i1 = i2
      · obtain ⟨rfl, rfl⟩ := hteq
        have HX2 := Lib.hid (HST.out (by simp [nmEq]))
        go_wp2_with fail
        go_quiet (fail)
        go_wp2_with fail
        go_roundw
        case rel => exact ⟨k + 1, HKS.out.1, HKS.out.2, by go_num, HX2.out, HBD.out _⟩
        case measure => exact HME.out
      · have hne : ((t1 == t2) = false) ∨ ((t1 == t2) = true ∧ ((i1 : Int) == (i2 : Int)) = false ∧ (i1 == i2) = false) := by
          by_cases h : t1 = t2
          · refine .inr ⟨by simpa using h, ?_, ?_⟩
            · simp; exact fun e => hteq ⟨h, by omega⟩
            · simp; exact fun e => hteq ⟨h, e⟩
          · exact .inl (by simpa using h)
        have HFV := Lib.hid (show F = nmLt ⟨t1, i1⟩ ⟨t2, i2⟩ by
          rw [HFD.out, HDF.out (by simp only [nmEq, Bool.and_eq_false_iff, decide_eq_false_iff_not]; by_cases h : t1 = t2; exact .inr (fun e => hteq ⟨h, e⟩); exact .inl h)])
        clear hteq
        rcases hne with ht | ⟨ht, hi1, hi2⟩
        all_goals (
          go_wp2_with fail
          go_quiet (fail)
          go_wp2_with fail
          obtain ⟨wq, hwq⟩ : ∃ v, v = World.drewN wr nq := ⟨_, rfl⟩
          have HBQ := Lib.hid (show Below w0.heap.size w0 wq by rw [hwq]; exact HBD.out _)
          rw [← hwq]
          clear hwq p1 q1 e0 e1 f0 f1
          have HBW := Lib.hid (show Below wq.heap.size wq wq.drew from (Below.refl _ _).drew)
          have p1 := (HE1.out.below (HBQ.out.trans (HBW.out.mono HBQ.out.size))).ci 1 rfl
          have q1 := (HE2.out.below (HBQ.out.trans (HBW.out.mono HBQ.out.size))).ci 1 rfl
          obtain ⟨e0, e1⟩ := HOLD1.out _ (HBQ.out.trans (HBW.out.mono HBQ.out.size))
          obtain ⟨f0, f1⟩ := HOLD2.out _ (HBQ.out.trans (HBW.out.mono HBQ.out.size))
          try dsimp only at e0 e1 f0 f1
          go_region_held3 (fun W => W.cell? ⟨w.heap.size, 1, none⟩ = some (.slice (some ⟨b1, o1, none⟩) n1 nc1) ∧ W.cell? ⟨w.heap.size + 1, 1, none⟩ = some (.slice (some ⟨b2, o2, none⟩) n2 nc2) ∧ W.cell? ⟨b1, o1 + k * 2, none⟩ = some (.int .i64 t1) ∧ W.cell? ⟨b1, o1 + k * 2 + 1, none⟩ = some (.int .u64 (i1 : Int)) ∧ W.cell? ⟨b2, o2 + k * 2, none⟩ = some (.int .i64 t2) ∧ W.cell? ⟨b2, o2 + k * 2 + 1, none⟩ = some (.int .u64 (i2 : Int)))
            (first | exact ⟨p1, q1, e0, e1, f0, f1⟩ | (refine ⟨?_, ?_, ?_, ?_, ?_, ?_⟩ <;> assumption)) (first
            | (go_at_call 72; refine (nmbefore_any ⟨t1, i1⟩ ⟨t2, i2⟩ _).mono ?_; rintro e wD ⟨rfl, hbD⟩; (have HBW := Lib.hid (HBW.out.trans (hbD.mono HBW.out.size))); (have p1 := (HE1.out.below (HBQ.out.trans (HBW.out.mono HBQ.out.size))).ci 1 rfl); (have q1 := (HE2.out.below (HBQ.out.trans (HBW.out.mono HBQ.out.size))).ci 1 rfl); (obtain ⟨e0, e1⟩ := HOLD1.out _ (HBQ.out.trans (HBW.out.mono HBQ.out.size))); (obtain ⟨f0, f1⟩ := HOLD2.out _ (HBQ.out.trans (HBW.out.mono HBQ.out.size))); clear hbD))
          go_wp2_with fail
          go_ret
          exact ⟨by rw [HFV.out]; rfl, HB0.out.trans ((HBQ.out.trans (HBW.out.mono HBQ.out.size)).mono HB0.out.size)⟩)
    · have htest : (¬ (k : Int) < n1) ∨ ((k : Int) < n1 ∧ ¬ (k : Int) < n2) := by omega
      have hkk : k = n1 ∨ k = n2 := by omega
      clear hgo
      by_cases hnn : n1 = n2
      · have HFE := Lib.hid (show F = (lexL zEq zLt ls1 ls2).getD false by rw [HFD.out, lex_same (by rw [← HN1.out]; omega) (by rw [← HN2.out]; omega) HLX.out])
        have p2 := HE1R.out.ci 2 rfl
        have q2 := HE2R.out.ci 2 rfl
        have HX2 := Lib.hid (HX.out.2.1.below hbw)
        have HY2 := Lib.hid (HY.out.2.1.below hbw)
        have HBF := Lib.hid (HB0.out.trans (HBR.out.mono HB0.out.size))
        have htest' : ¬ (k : Int) < n1 := by omega
        clear hbw htest hkk
        subst hnn
        obtain ⟨wv, rfl⟩ : ∃ wv, wv = wr := ⟨_, rfl⟩
        go_wp2_with fail
        go_loopw [6] (fun i wz => ∃ k : Nat, k ≤ m1 ∧ k ≤ m2 ∧ i = .int .i64 (k : Int) ∧ lexL zEq zLt ls1 ls2 = lexL zEq zLt (ls1.drop k) (ls2.drop k) ∧ Below wv.heap.size wv wz) (fun i _ => m1 - (intOf i).toNat)
        case atStart => exact ⟨0, Nat.zero_le _, Nat.zero_le _, rfl, rfl, Below.refl _ _⟩
        case round =>
          obtain ⟨j, hj1, hj2, rfl, hlz, hbz⟩ := hrel
          have HLZ := Lib.hid hlz
          have HBZ := Lib.hid hbz
          have HE1Z := Lib.hid (HE1.out.below (HBR.out.trans (hbz.mono HBR.out.size)))
          have HE2Z := Lib.hid (HE2.out.below (HBR.out.trans (hbz.mono HBR.out.size)))
          have p2 := HE1Z.out.ci 2 rfl
          have q2 := HE2Z.out.ci 2 rfl
          clear hlz
          by_cases hgo : j < m1 ∧ j < m2
          · obtain ⟨hlt, hl3⟩ := hgo
            have hlt' : (j : Int) < m1 := by omega
            have hl3'' : (j : Int) < m2 := by omega
            have hk0 : (0 : Int) ≤ j := by omega
            have hq1 : j < ls1.length := by rw [← HM1.out]; exact hlt
            have hq2 : j < ls2.length := by rw [← HM2.out]; exact hl3
            have hst := lex_step (eq := zEq) (lt := zLt) hq1 hq2 HLZ.out
            have hdf := lex_diff (eq := zEq) (lt := zLt) hq1 hq2 HLZ.out
            obtain ⟨b1, o1, rfl, e0⟩ := (HX2.out.below hbz).at j hq1
            obtain ⟨b2, o2, rfl, f0⟩ := (HY2.out.below hbz).at j hq2
            obtain ⟨u1, hu1⟩ : ∃ u, u = ls1[j] := ⟨_, rfl⟩
            obtain ⟨u2, hu2⟩ : ∃ u, u = ls2[j] := ⟨_, rfl⟩
            rw [← hu1] at e0 hst hdf
            rw [← hu2] at f0 hst hdf
            have HST := Lib.hid hst
            have HDF := Lib.hid hdf
            have HME := Lib.hid (meas_lt hlt)
            have HKS := Lib.hid (show j + 1 ≤ m1 ∧ j + 1 ≤ m2 by omega)
            have HBZD := Lib.hid (show ∀ N, Below w.heap.size w (World.drewN wr N) from fun N => HBF.out.trans ((hbz.trans ((below_draws _).mono hbz.size)).mono HBF.out.size))
            have HBZD2 := Lib.hid (show ∀ N M, Below w.heap.size w (World.drewN (World.drewN wr N) M) from fun N M => (HBZD.out N).trans ((below_draws (World.drewN wr N)).mono (HBZD.out N).size))
            have HBZE := Lib.hid (show ∀ N, Below wv.heap.size wv (World.drewN wr N) from fun N => hbz.trans ((below_draws _).mono hbz.size))
            clear hst hdf hu1 hu2 hbz
            by_cases ht : u1 = u2
            · subst ht
              have HX3 := Lib.hid (HST.out (by simp [zEq]))
              go_wp2_with fail
              go_quiet (fail)
              go_wp2_with fail
              go_roundw
              case rel => exact ⟨j + 1, HKS.out.1, HKS.out.2, by go_num, HX3.out, HBZE.out _⟩
              case measure => exact HME.out
            · have ht1 : (u1 == u2) = false := by simpa using ht
              have ht2 : (u1 != u2) = true := by simpa using ht
              have hR : (u1 < u2 ∧ F = true) ∨ (¬ u1 < u2 ∧ F = false) := by
                have h := HFE.out
                rw [HDF.out (by simp [zEq, ht])] at h
                dsimp only [Option.getD] at h
                by_cases hq : u1 < u2
                · exact .inl ⟨hq, by rw [h]; simp [zLt, hq]⟩
                · exact .inr ⟨hq, by rw [h]; simp [zLt]; omega⟩
              clear ht
              rcases hR with ⟨h3, rfl⟩ | ⟨h3, rfl⟩
              all_goals (
                go_wp2_with fail
                go_quiet (fail)
                go_wp2_with fail
                go_quiet (fail)
                go_wp2_with fail
                go_ret
                refine ⟨by first | rfl | exact ret_val (congrArg Value.bool (by simpa using h3)), ?_⟩
                first
                  | exact HBZD.out _
                  | exact HBZD2.out _ _)
          · have htest : (¬ (j : Int) < m1) ∨ ((j : Int) < m1 ∧ ¬ (j : Int) < m2) := by omega
            have hR : ((m1 : Int) < m2 ∧ decide (m1 < m2) = true ∧ F = true) ∨ (¬ (m1 : Int) < m2 ∧ decide (m1 < m2) = false ∧ F = false) := by
              by_cases h : m1 < m2
              · refine .inl ⟨by omega, by simpa using h, ?_⟩
                rw [HFE.out, lex_short (i := j) (by rw [← HM1.out]; omega) (by rw [← HM2.out]; omega) HLZ.out]; rfl
              · refine .inr ⟨by omega, by simpa using h, ?_⟩
                by_cases h2 : m2 < m1
                · rw [HFE.out, lex_long (i := j) (by rw [← HM1.out]; omega) (by rw [← HM2.out]; omega) HLZ.out]; rfl
                · rw [HFE.out, lex_same (i := j) (by rw [← HM1.out]; omega) (by rw [← HM2.out]; omega) HLZ.out]; rfl
            clear hbz hgo
            rcases htest with ht1 | ⟨ht1, ht2⟩ <;> rcases hR with ⟨h4, h5, rfl⟩ | ⟨h4, h5, rfl⟩
            all_goals (first
              | (exfalso; omega)
              | (go_wp2_with fail
                 go_ret
                 exact ⟨rfl, HBF.out.trans (HBZ.out.mono HBF.out.size)⟩))
      · have h1 : ((n1 : Int) == (n2 : Int)) = false := by simp; omega
        have h2 : ((n1 : Int) != (n2 : Int)) = true := by simp; omega
        have h3 : (n1 == n2) = false := by simpa using hnn
        have hR : ((n1 : Int) < n2 ∧ decide (n1 < n2) = true ∧ F = true) ∨ (¬ (n1 : Int) < n2 ∧ decide (n1 < n2) = false ∧ F = false) := by
          by_cases h : n1 < n2
          · refine .inl ⟨by omega, by simpa using h, ?_⟩
            rw [HFD.out, lex_short (i := k) (by rw [← HN1.out]; omega) (by rw [← HN2.out]; omega) HLX.out]
          · refine .inr ⟨by omega, by simpa using h, ?_⟩
            rw [HFD.out, lex_long (i := k) (by rw [← HN1.out]; omega) (by rw [← HN2.out]; omega) HLX.out]
        clear hbw hkk hnn
        rcases htest with ht1 | ⟨ht1, ht2⟩ <;> rcases hR with ⟨h4, h5, rfl⟩ | ⟨h4, h5, rfl⟩
        all_goals (first
          | (exfalso; omega)
          | (go_wp2_with fail
             go_ret
             exact ⟨rfl, HB0.out.trans (HBR.out.mono HB0.out.size)⟩))
end Go.Proofs.YtfglgpbjjpoimaaGreatDoor
