/- SaveEncodes: the sum of bytes, a number's highest bytes first; the reference's Sum, high. -/
import Derived.Test.YtfglgpbjjpoimaaGreatDoorSwYA
set_option linter.unusedVariables false
namespace Go.Proofs.YtfglgpbjjpoimaaGreatDoor
open Go.RowKit Sv
def sumS (s : Nat × Nat) (b : UInt8) : Nat × Nat := ((s.1 + b.toNat) % 65521, (s.2 + (s.1 + b.toNat) % 65521) % 65521)
def sumP (l : List UInt8) : Nat × Nat := l.foldl sumS (1, 0)
def sumN (l : List UInt8) : Nat := (sumP l).2 * 65536 + (sumP l).1
theorem sumP_snoc (l : List UInt8) (b : UInt8) : sumP (l ++ [b]) = sumS (sumP l) b := by unfold sumP; rw [List.foldl_append]; rfl
theorem sumP_lt (l : List UInt8) : (sumP l).1 < 65521 ∧ (sumP l).2 < 65521 := by
 unfold sumP
 suffices ∀ (l : List UInt8) (s : Nat × Nat), s.1 < 65521 ∧ s.2 < 65521 → (l.foldl sumS s).1 < 65521 ∧ (l.foldl sumS s).2 < 65521 from this l _ ⟨by decide, by decide⟩
 intro l
 induction l with
 | nil => intro s h; exact h
 | cons b l ih =>
  intro s h
  exact ih _ ⟨Nat.mod_lt _ (by decide), Nat.mod_lt _ (by decide)⟩
theorem sumN_lt (l : List UInt8) : sumN l < 4294967296 := by
 have h := sumP_lt l
 unfold sumN; omega
set_option maxHeartbeats 1000000 in
theorem rsum_any (a : Option Addr) (c n : Nat) (l : List UInt8) (w : World) (hn : l.length = n) (hN : n ≤ 140737488355328) (h : Rd w a (l.map B)) :
  Calls Tryz.prog 48 #[.slice a n c] w fun e w' => e = .returned (.int .u64 (sumN l : Int)) ∧ w' = w := by
 have HN := Lib.hid hn
 have HR := Lib.hid h
 obtain ⟨F, hF⟩ : ∃ F, F = sumN l := ⟨_, rfl⟩
 rw [← hF]
 have HF := Lib.hid hF
 clear hn h hF
 go_enter Tryz.func48, Tryz.ntmps48
 go_wp2_with fail
 go_loopw [3, 4, 5] (fun u v i wr => ∃ (j x y : Nat), j ≤ n ∧ i = .int .i64 (j : Int) ∧ u = .int .u64 (x : Int) ∧ v = .int .u64 (y : Int) ∧ sumP (l.take j) = (x, y) ∧ x < 65521 ∧ y < 65521 ∧ wr = w) (fun _ _ i _ => n - (intOf i).toNat)
 case atStart => exact ⟨0, 1, 0, Nat.zero_le _, rfl, rfl, rfl, rfl, by decide, by decide, rfl⟩
 case round =>
  obtain ⟨j, x, y, hjn, rfl, rfl, rfl, hs, hx, hy, rfl⟩ := hrel
  have HS := Lib.hid hs
  clear hs
  by_cases hlt : j < n
  ·have hjl : j < l.length := by rw [HN.out]; exact hlt
   obtain ⟨ad, rfl, hcell⟩ := rd_add HR.out (by simp; omega)
   have e0 := hcell j (B l[j]) (by simp [hjl])
   have htk : sumP (l.take (j + 1)) = ((x + l[j].toNat) % 65521, (y + (x + l[j].toNat) % 65521) % 65521) := by
    rw [take_snoc l j hjl, sumP_snoc, HS.out]; rfl
   have hu8 : l[j].toNat < 256 := l[j].toNat_lt
   obtain ⟨u, hu⟩ : ∃ u, u = l[j].toNat := ⟨_, rfl⟩
   rw [B, ← hu] at e0
   rw [← hu] at htk hu8
   have HTK := Lib.hid htk
   have HME := Lib.hid (meas_lt hlt)
   have hlt' : (j : Int) < n := by omega
   have hj0 : (0 : Int) ≤ j := by omega
   clear hcell htk hu
   go_wp2_with fail
   go_roundw
   case rel => exact ⟨j + 1, (x + u) % 65521, (y + (x + u) % 65521) % 65521, hlt, by go_num, by go_num, by go_num, HTK.out, Nat.mod_lt _ (by decide), Nat.mod_lt _ (by decide), trivial⟩
   case measure => exact HME.out
  ·have hk' : ¬ (j : Int) < n := by omega
   have HV := Lib.hid (show (F : Int) = (y : Int) * 65536 + x by
    have h1 := HS.out
    rw [List.take_of_length_le (by rw [HN.out]; omega)] at h1
    rw [HF.out]; unfold sumN; rw [h1]
    omega)
   go_wp2_with fail
   go_ret
   exact ⟨by rw [HV.out]; rfl, rfl⟩
/-- The lowest k bytes of a number, the highest first. -/
def hiB (n : Nat) : Nat → List UInt8
 | 0 => []
 | k + 1 => hiB (n / 256) k ++ [UInt8.ofNat (n % 256)]
theorem hiB_len (n k : Nat) : (hiB n k).length = k := by
 induction k generalizing n with
 | zero => rfl
 | succ k ih => rw [hiB, List.length_append, ih]; rfl
theorem zeros_set (j : Nat) (tl : List UInt8) (v : UInt8) : ((List.replicate (j + 1) (0 : UInt8) ++ tl).map B).set j (B v) = (List.replicate j 0 ++ (v :: tl)).map B := by
 rw [List.replicate_succ', List.append_assoc, List.map_append, List.set_append_right _ _ (by simp)]
 simp
set_option maxHeartbeats 2000000 in
set_option maxRecDepth 20000 in
theorem rhigh_any (n k : Nat) (w : World) (hn : n < 18446744073709551616) (hk1 : 1 ≤ k) (hk : k ≤ 8) : Calls Tryz.prog 47 #[.int .u64 (n : Int), .int .i64 (k : Int)] w (By (hiB n k) w) := by
 go_enter Tryz.func47, Tryz.ntmps47
 go_wp2_with fail
 go_loopw [5, 6] (fun v i wr => ∃ (j : Nat) (a1 : Option Addr) (c1 : Nat), j ≤ k ∧ i = .int .i64 (j : Int) ∧ v = .slice a1 j c1 ∧ wr.ownsRow w.heap.size 5 1 v j ((List.replicate j (0 : UInt8)).map B) ∧ Below w.heap.size w wr) (fun _ i _ => k - (intOf i).toNat)
 case atStart => exact ⟨0, none, 0, Nat.zero_le _, rfl, rfl, by simpa using World.ownsRow_nil w w.heap.size 5 1, Below.refl _ _⟩
 case round =>
  obtain ⟨j, a1, c1, hjn, rfl, rfl, hown, hbw⟩ := hrel
  have hs := hbw.size
  have HBW := Lib.hid hbw
  by_cases hlt : j < k
  ·have hlt' : (j : Int) < k := by omega
   have hj0 : (0 : Int) ≤ j := by omega
   have HME := Lib.hid (meas_lt hlt)
   have HY := Lib.hid (show Value.int .u8 0 = B 0 from rfl)
   clear hbw
   go_wp2_with (first | (at_builtin; refine app_b1 wr rfl _ _ rfl w.heap.size (.slice a1 j c1) j (List.replicate j 0) rfl hown _ 0 HY.out rfl (by omega) (by omega) ?_; intro a2 c2 w2 hown2 hb2 hmv2) | fail)
   go_roundw
   case rel => exact ⟨j + 1, a2, c2, hlt, by go_num, rfl, by rw [List.replicate_succ']; exact hown2, HBW.out.trans hb2⟩
   case measure => exact HME.out
  ·have hk' : ¬ (j : Int) < k := by omega
   obtain rfl : j = k := by omega
   obtain ⟨g, cap, hg⟩ : ∃ g cap, a1 = some ⟨g, 0, none⟩ ∧ cap = c1 := by
    rcases hown.2 with ⟨h1, h2⟩ | ⟨g, cap, cur, h1, h2, h3, h4, h5, h6, h7⟩
    ·omega
    ·cases h1; exact ⟨g, c1, rfl, rfl⟩
   obtain ⟨rfl, rfl⟩ := hg
   have HGB := Lib.hid (show w.heap.size ≤ g from (hown.lt g (by simp [Value.ownBlock])).1)
   have HOWN := Lib.hid hown
   obtain ⟨wv, rfl⟩ : ∃ wv, wv = wr := ⟨_, rfl⟩
   clear hbw hown
   go_wp2_with fail
   go_loopw [0, 7] (fun v i wz => ∃ (q N : Nat) (tl : List UInt8), q ≤ j ∧ i = .int .i64 ((q : Int) - 1) ∧ v = .int .u64 (N : Int) ∧ N < 18446744073709551616 ∧ hiB n j = hiB N q ++ tl ∧ wz.ownsRow w.heap.size 5 1 (.slice (some ⟨g, 0, none⟩) j cap) j ((List.replicate q (0 : UInt8) ++ tl).map B) ∧ Below w.heap.size w wz) (fun _ i _ => ((intOf i) + 1).toNat)
   case atStart => exact ⟨j, n, [], Nat.le_refl _, rfl, rfl, hn, by simp, by simpa using HOWN.out, HBW.out⟩
   case round =>
    obtain ⟨q, N, tl, hqj, rfl, rfl, hN, hhi, hown, hbw⟩ := hrel
    have HHI := Lib.hid hhi
    have HBZ := Lib.hid hbw
    obtain _ | q := q
    ·have h00 : ¬ (0 : Int) ≤ -1 := by omega
     have HO := Lib.hid hown
     have HT := Lib.hid (show hiB n j = tl by rw [HHI.out]; rfl)
     clear hhi hown hbw
     go_wp2_with fail
     go_ret
     exact ⟨_, _, j, by rw [hiB_len], rfl, by rw [HT.out]; simpa using HO.out, HBZ.out⟩
    ·have hq0 : (0 : Int) ≤ q := by omega
     have hqj2 : (q : Int) < j := by omega
     have hcq := hown.cellAt q (by omega)
     have hfq := hown.frozenAt q
     have hst := hown.stored q (.int .u8 ((N : Int) % 256))
     have hlast : ((List.replicate (q + 1) (0 : UInt8) ++ tl).map B)[q]? = some (.int .u8 0) := by
      rw [List.map_append, List.getElem?_append_left (by simp), List.getElem?_map, List.getElem?_replicate]
      simp [B]
     rw [hlast] at hcq
     have hb8 : Value.int .u8 ((N : Int) % 256) = B (UInt8.ofNat (N % 256)) := by rw [B, UInt8.toNat_ofNat']; congr 1; omega
     rw [hb8, zeros_set] at hst
     have HST := Lib.hid hst
     have hxe : ((q + 1 : Nat) : Int) - 1 = q := by omega
     have HH2 := Lib.hid (show hiB n j = hiB (N / 256) q ++ (UInt8.ofNat (N % 256) :: tl) by rw [HHI.out, hiB, List.append_assoc]; rfl)
     have HB2 := Lib.hid (show Below w.heap.size w (World.setCell _ ⟨g, q, none⟩ (B (UInt8.ofNat (N % 256)))) from hbw.grown hst.2 hbw.size (fun k hk => by cases hk; exact HGB.out))
     have HB8 := Lib.hid hb8
     clear hhi hown hbw hlast hst hb8
     rw [hxe]
     clear hxe
     go_wp2_with fail
     go_roundw
     case rel =>
      refine ⟨q, N / 256, UInt8.ofNat (N % 256) :: tl, by omega, by go_num, by go_num, by omega, HH2.out, ?_, ?_⟩
      ·first | (rw [HB8.out]; exact HST.out.1) | exact HST.out.1
      ·first | (rw [HB8.out]; exact HB2.out) | exact HB2.out
     case measure => simp [intOf]; try omega
end Go.Proofs.YtfglgpbjjpoimaaGreatDoor
/- SaveEncodes: the reference's Image, body, Encode. -/
set_option linter.unusedVariables false
namespace Go.Proofs.YtfglgpbjjpoimaaGreatDoor
open Go.RowKit Sv
def magicB : List UInt8 := [83, 76, 85, 73, 67, 69, 10, 2]
def headL (l : List UInt8) : List UInt8 := magicB ++ hiB l.length 8 ++ l
def imageL (l : List UInt8) : List UInt8 := headL l ++ hiB (sumN (headL l)) 4
theorem magic_at (j : Nat) (hj : j < 8) : ∃ v : Int, firstL[j]'(by simpa [firstL] using hj) = v ∧ (0 ≤ v ∧ v < 256) ∧ Value.int .u8 v = B (magicB[j]'(by simpa [magicB] using hj)) := by
 have : j = 0 ∨ j = 1 ∨ j = 2 ∨ j = 3 ∨ j = 4 ∨ j = 5 ∨ j = 6 ∨ j = 7 := by omega
 rcases this with rfl | rfl | rfl | rfl | rfl | rfl | rfl | rfl <;> exact ⟨_, rfl, ⟨by simp [firstL], by simp [firstL]⟩, rfl⟩
set_option maxHeartbeats 2000000 in
theorem rimage_any (a : Option Addr) (c n : Nat) (l : List UInt8) (w : World) (hl : Ld w) (hn : l.length = n) (hN : n ≤ 100000000000000) (h : Rd w a (l.map B)) : Calls Tryz.prog 16 #[.slice a n c] w (By (imageL l) w) := by
 have HN := Lib.hid hn
 have HR := Lib.hid h
 have HL := Lib.hid hl
 clear hn h hl
 go_enter Tryz.func16, Tryz.ntmps16
 go_wp2_with fail
 go_loopw [3, 4] (fun v i wr => ∃ (j : Nat) (a1 : Option Addr) (c1 : Nat), j ≤ 8 ∧ i = .int .i64 (j : Int) ∧ v = .slice a1 j c1 ∧ wr.ownsRow w.heap.size 5 1 v j ((magicB.take j).map B) ∧ Below w.heap.size w wr) (fun _ i _ => 8 - (intOf i).toNat)
 case atStart => exact ⟨0, none, 0, Nat.zero_le _, rfl, rfl, by simpa using World.ownsRow_nil w w.heap.size 5 1, Below.refl _ _⟩
 case round =>
  obtain ⟨j, a1, c1, hjn, rfl, rfl, hown, hbw⟩ := hrel
  have hs := hbw.size
  have HBW := Lib.hid hbw
  by_cases hlt : j < 8
  ·have hlt' : (j : Int) < 8 := by omega
   have hj0 : (0 : Int) ≤ j := by omega
   have hc := (HL.out.below hbw).fst j (by simpa [firstL] using hlt)
   obtain ⟨v, hv, hvb, hvB⟩ := magic_at j hlt
   rw [List.getElem_map, hv, Z] at hc
   have hwv : IntKind.u8.wrap v = v := by rw [IntKind.wrap_u8]; omega
   have HTK := Lib.hid (take_snoc magicB j (by simpa [magicB] using hlt))
   obtain ⟨u, hu⟩ : ∃ u, u = magicB[j]'(by simpa [magicB] using hlt) := ⟨_, rfl⟩
   rw [← hu] at hvB HTK
   have HY := Lib.hid hvB
   have HME := Lib.hid (meas_lt hlt)
   clear hbw hv hu hvB
   go_wp2_with (first | (at_builtin; refine app_b1 wr rfl _ _ rfl w.heap.size (.slice a1 j c1) j (magicB.take j) rfl hown _ u HY.out rfl (by omega) (by omega) ?_; intro a2 c2 w2 hown2 hb2 hmv2) | fail)
   go_roundw
   case rel => exact ⟨j + 1, a2, c2, hlt, by go_num, rfl, by rw [HTK.out]; exact hown2, HBW.out.trans hb2⟩
   case measure => exact HME.out
  ·have hk' : ¬ (j : Int) < 8 := by omega
   obtain rfl : j = 8 := by omega
   have HR1 := Lib.hid (rd_len hown)
   have HH := Lib.hid (rhigh_any n 8 wr (by omega) (by omega) (by omega))
   clear hbw hown
   go_wp2_with fail
   refine (HH.out).mono ?_
   rintro e w1 ⟨a2, c2, n2, hn2, rfl, ho2, hb1⟩
   have HJ := Lib.hid (rjoin_any a1 a2 c1 c2 8 n2 (magicB.take 8) (hiB n 8) w1 rfl hn2 (by rw [hiB_len] at hn2; omega) (HR1.out.below hb1) (rd_len ho2))
   have HB1 := Lib.hid (HBW.out.trans (hb1.mono HBW.out.size))
   clear hn2 ho2 hb1
   go_wp2_with fail
   refine (HJ.out).mono ?_
   rintro e w2 ⟨a3, c3, n3, hn3, rfl, ho3, hb2⟩
   have HB2 := Lib.hid (HB1.out.trans (hb2.mono HB1.out.size))
   have hn3' : n3 = 16 := by rw [← hn3, List.length_append, hiB_len]; rfl
   have HJ2 := Lib.hid (rjoin_any a3 a c3 c n3 n (magicB.take 8 ++ hiB n 8) l w2 hn3 HN.out (by omega) (rd_len ho3) (HR.out.below HB2.out))
   have HN3 := Lib.hid hn3'
   clear hn3 ho3 hb2 hn3'
   go_wp2_with fail
   refine (HJ2.out).mono ?_
   rintro e w3 ⟨a4, c4, n4, hn4, rfl, ho4, hb3⟩
   have HB3 := Lib.hid (HB2.out.trans (hb3.mono HB2.out.size))
   have hhd : magicB.take 8 ++ hiB n 8 ++ l = headL l := by unfold headL; rw [HN.out]; rfl
   rw [hhd] at hn4 ho4
   have hn4' : n4 = 16 + n := by rw [← hn4]; unfold headL; simp only [List.length_append, hiB_len, HN.out]; rfl
   have HS := Lib.hid (rsum_any a4 c4 n4 (headL l) w3 hn4 (by omega) (rd_len ho4))
   have HR4 := Lib.hid (rd_len ho4)
   have HN4 := Lib.hid hn4
   have HN4B := Lib.hid (show n4 ≤ 100000000000100 by omega)
   have HSL := Lib.hid (sumN_lt (headL l))
   obtain ⟨sm, hsm⟩ : ∃ s, s = sumN (headL l) := ⟨_, rfl⟩
   rw [← hsm] at HS HSL
   have HSM := Lib.hid hsm
   clear hn4 ho4 hb3 hhd hn4' hsm
   go_wp2_with fail
   refine (HS.out).mono ?_
   rintro e w3 ⟨rfl, rfl⟩
   have HH4 := Lib.hid (rhigh_any sm 4 w3 (by have := HSL.out; omega) (by omega) (by omega))
   go_wp2_with fail
   refine (HH4.out).mono ?_
   rintro e w4 ⟨a5, c5, n5, hn5, rfl, ho5, hb4⟩
   have HJ3 := Lib.hid (rjoin_any a4 a5 c4 c5 n4 n5 (headL l) (hiB sm 4) w4 HN4.out hn5 (by rw [hiB_len] at hn5; have := HN4B.out; omega) (HR4.out.below hb4) (rd_len ho5))
   have HB4 := Lib.hid (HB3.out.trans (hb4.mono HB3.out.size))
   clear hn5 ho5 hb4
   go_wp2_with fail
   refine (HJ3.out).mono ?_
   rintro e w5 ⟨a6, c6, n6, hn6, rfl, ho6, hb5⟩
   have HB5 := Lib.hid (HB4.out.trans (hb5.mono HB4.out.size))
   have HO6 := Lib.hid (ownsRow_base ho6 HB4.out.size)
   have HN6 := Lib.hid hn6
   clear hn6 ho6 hb5
   go_wp2_with fail
   go_ret
   exact ⟨a6, c6, n6, by unfold imageL; rw [← HSM.out]; exact HN6.out, rfl, by unfold imageL; rw [← HSM.out]; exact HO6.out, HB5.out⟩
def closedB (b : Bool) : List UInt8 := [if b then 1 else 0]
def byMts (l : List Mm) : List UInt8 := bytesU l.length ++ l.flatMap fun x => byMt x.m
/-- The body of a plain state whose query prints as tx. -/
def bodyL (x : Stm) (tx : Str) : List UInt8 := byText (schemaT (tys x.types)) ++ byText tx ++ bytesU x.cap.toNat ++ bytesI x.mark ++ closedB x.closed ++ byEvs (tys x.types) x.held ++ byEvs (tys x.types) x.kept ++ byMts x.waiting ++ byNames x.used
theorem ans_len {q : Qy} {tx : Str} (h : shapedQ (nameB kwsL) q = true) (hi : QI q) (ha : ansR fmtI q = some tx) : tx.length ≤ 50000 := by
 obtain ⟨w, r, ht⟩ := trees_of h
 have h1 := query_same fmtI h ht
 have h2 := queryT_b h hi ht
 have h3 := joinT_len (fun t ht' => (h2 t ht').len)
 unfold ansR at ha
 rw [h1] at ha
 unfold tlOf at ha
 dsimp only at ha
 split at ha
 ·cases ha
 ·split at ha
  ·cases ha
  ·split at ha
   ·cases ha
   ·cases ha
    omega
theorem schema_len {l : List Ty} (h : SchemaOK l) : (schemaT l).length ≤ 4000 := by
 have h1 : ∀ (l : List Ty), (∀ t ∈ l, (lineT t).length ≤ 200) → (schemaT l).length ≤ 200 * l.length := by
  intro l
  induction l with
  | nil => intro _; simp [schemaT]
  | cons a l ih =>
   intro hl
   have := ih (fun t ht => hl t (List.mem_cons_of_mem _ ht))
   have := hl a List.mem_cons_self
   unfold schemaT at *
   rw [List.flatMap_cons, List.length_append, List.length_cons]
   omega
 have h2 := h1 l (fun t ht => by
  obtain ⟨i, hi, rfl⟩ := List.getElem_of_mem ht
  exact line_len _ (h.2 i hi).1 (h.2 i hi).2.2)
 have := h.1.2
 omega
end Go.Proofs.YtfglgpbjjpoimaaGreatDoor
