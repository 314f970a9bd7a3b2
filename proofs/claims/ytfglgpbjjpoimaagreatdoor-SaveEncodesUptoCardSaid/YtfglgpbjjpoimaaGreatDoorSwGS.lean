/- SaveEncodes: the reference's list; the program's Event.Before. -/
import Derived.Test.YtfglgpbjjpoimaaGreatDoorSwGR
set_option linter.unusedVariables false
namespace Go.Proofs.YtfglgpbjjpoimaaGreatDoor
open Go.RowKit Sv
def evNm (e : Ev) : Nm := ⟨e.ts, e.id.toNat⟩
/-- The first k events are events of the schema, rising. -/
def LOk (L : List Ty) (l : List Ev) (k : Nat) : Prop := (∀ i (h : i < l.length), i < k → EvOK L l[i]) ∧ ∀ i (h : i + 1 < l.length), i + 1 < k → nmLt (evNm l[i]) (evNm l[i + 1]) = true
theorem LOk.no1 {L : List Ty} {l : List Ev} {i k : Nat} (h : i < l.length) (hk : i < k) (hn : ¬ EvOK L l[i]) : ¬ LOk L l k := fun hs => hn (hs.1 i h hk)
theorem LOk.no2 {L : List Ty} {l : List Ev} {i k : Nat} (h : i + 1 < l.length) (hk : i + 1 < k) (hn : nmLt (evNm l[i]) (evNm l[i + 1]) = false) : ¬ LOk L l k := fun hs => by
 have := hs.2 i h hk
 rw [hn] at this; cases this
theorem LOk.one {L : List Ty} {l : List Ev} (h : 0 < l.length) (h1 : EvOK L l[0]) : LOk L l 1 :=
 ⟨fun i hi hk => by obtain rfl : i = 0 := (by omega); exact h1, fun i hi hk => by omega⟩
theorem LOk.step {L : List Ty} {l : List Ev} {m : Nat} (h : m + 1 < l.length) (hs : LOk L l (m + 1)) (h1 : EvOK L l[m + 1]) (h2 : nmLt (evNm l[m]) (evNm l[m + 1]) = true) : LOk L l (m + 1 + 1) :=
 ⟨fun i hi hk => by
  by_cases hi2 : i < m + 1
  ·exact hs.1 i hi hi2
  ·obtain rfl : i = m + 1 := by omega
   exact h1, fun i hi hk => by
  by_cases hi2 : i + 1 < m + 1
  ·exact hs.2 i hi hi2
  ·obtain rfl : i = m := by omega
   exact h2⟩
/-- A function that tells whether p. -/
def Tel (p : Prop) (w : World) (e : Ending) (w' : World) : Prop := ∃ r : Bool, e = .returned (.bool r) ∧ (r = true ↔ p) ∧ Below w.heap.size w w'
theorem Tel.no {p : Prop} {w : World} {e : Ending} {w' : World} (he : e = .returned (.bool false)) (hp : ¬ p) (hb : Below w.heap.size w w') : Tel p w e w' := ⟨false, he, ⟨fun h => (by cases h), fun h => absurd h hp⟩, hb⟩
theorem Tel.yes {p : Prop} {w : World} {e : Ending} {w' : World} (he : e = .returned (.bool true)) (hp : p) (hb : Below w.heap.size w w') : Tel p w e w' := ⟨true, he, ⟨fun _ => hp, fun _ => rfl⟩, hb⟩
set_option maxHeartbeats 4000000 in
set_option maxRecDepth 20000 in
theorem rlist_any (a : Option Addr) (c n : Nat) (l : List Tp) (ea : Option Addr) (ec m : Nat) (evs : List Ev) (w : World) (hn : l.length = n) (hm : evs.length = m) (hM : m ≤ 1048576) (hk : Kw w) (h : RdT w a l) (he : RdE w ea evs) (hb : ∀ e ∈ evs, EvB e) :
  Calls Tryz.prog 45 #[.agg #[.slice a n c], .slice ea m ec] w (Tel (LOk (tys l) evs m) w) := by
 obtain ⟨w0, hw0⟩ : ∃ w0, w0 = w.alloc (.cells #[.slice a n c] 24) := ⟨_, rfl⟩
 have hS : Blk w0 w.heap.size 24 [.slice a n c] := by rw [hw0]; exact Blk.new w _ 24
 have HB0 := Lib.hid (show Below w.heap.size w w0 by rw [hw0]; exact bal (Below.refl _ _) (Nat.le_refl _) _)
 have HS := Lib.hid hS
 have HR := Lib.hid (h.below HB0.out)
 have HK := Lib.hid (hk.below HB0.out)
 have HEV := Lib.hid (he.below HB0.out)
 have HCALL := Lib.hid (show ∀ (e : Ev) (he : e ∈ evs) W, Below w0.heap.size w0 W → Calls Tryz.prog 90 #[.agg #[.slice a n c], .agg (evc e).toArray] W (fun e' w' => ∃ r : Int, e' = .returned (.int .i64 r) ∧ (r = 0 ↔ EvOK (tys l) e) ∧ Below W.heap.size W w') from fun e he W hbW => rCheckEvent_any a c n l e W hn (HK.out.below hbW) (HR.out.below hbW) (hb e he).len)
 have HM := Lib.hid hm
 have HE8 := Lib.hid he.2
 have HEB := Lib.hid hb
 obtain ⟨P, hP⟩ : ∃ P : Nat → Prop, P = LOk (tys l) evs := ⟨_, rfl⟩
 rw [← hP]
 have HP := Lib.hid hP
 clear hS h hk he hb hn hm hP
 go_enter Tryz.func45, Tryz.ntmps45
 go_wp2_with fail
 rw [← hw0]
 clear hw0
 go_loopw [5] (fun i wr => ∃ k : Nat, k ≤ m ∧ i = .int .i64 (k : Int) ∧ P k ∧ Below w0.heap.size w0 wr) (fun i _ => m - (intOf i).toNat)
 case atStart => exact ⟨0, Nat.zero_le _, rfl, by rw [HP.out]; exact ⟨fun i hi hk => by omega, fun i hi hk => by omega⟩, Below.refl _ _⟩
 case round =>
  obtain ⟨k, hkm, rfl, hpk, hbw⟩ := hrel
  have HPK := Lib.hid hpk
  have HBR := Lib.hid hbw
  clear hpk
  by_cases hlt : k < m
  ·have hjl : k < evs.length := by rw [HM.out]; exact hlt
   obtain ⟨b, off, hea⟩ := HEV.out.some k hjl
   have hmem : evs[k] ∈ evs := List.getElem_mem hjl
   obtain ⟨a0, a1, a2, a3, a4, a5, a6, a7, hat⟩ := at8 (HE8.out _ hmem)
   have hcall := HCALL.out _ hmem
   have hidb := (HEB.out _ hmem).id
   obtain ⟨ts, id, typ, at_, hev⟩ : ∃ ts id typ at_, evs[k] = ⟨ts, id, typ, at_⟩ := ⟨_, _, _, _, rfl⟩
   rw [hev] at hat hidb
   dsimp only at hat hidb
   subst hat
   have hcall2 : ∀ W, Below w0.heap.size w0 W → Calls Tryz.prog 90 #[.agg #[.slice a n c], .agg #[.int .i64 ts, .int .u64 id, .int .i64 typ, .int .i64 a0, .int .i64 a1, .int .i64 a2, .int .i64 a3, .int .i64 a4, .int .i64 a5, .int .i64 a6, .int .i64 a7]] W (fun e' w' => ∃ r : Int, e' = .returned (.int .i64 r) ∧ (r = 0 ↔ EvOK (tys l) evs[k]) ∧ Below W.heap.size W w') := fun W hW => by
    have h := hcall W hW
    rw [show (evc evs[k]).toArray = #[.int .i64 ts, .int .u64 id, .int .i64 typ, .int .i64 a0, .int .i64 a1, .int .i64 a2, .int .i64 a3, .int .i64 a4, .int .i64 a5, .int .i64 a6, .int .i64 a7] by rw [hev]; rfl] at h
    exact h
   have HCELLS := Lib.hid (fun W (hb : Below w0.heap.size w0 W) => (HEV.out.below hb).cells k hjl ts id typ a0 a1 a2 a3 a4 a5 a6 a7 hev b off hea)
   have HCL := Lib.hid hcall2
   have HME := Lib.hid (meas_lt hlt)
   have hlt' : (k : Int) < m := by omega
   have hj0 : (0 : Int) ≤ k := by omega
   have HBW := Lib.hid (show Below wr.heap.size wr wr.drew from (Below.refl _ _).drew)
   have q0 : wr.drew.cell? ⟨w.heap.size, 0, none⟩ = some (.slice a n c) := (HS.out.below hbw).ci 0 rfl
   obtain ⟨e0, e1, e2, e3, e4, e5, e6, e7, e8, e9, e10⟩ := HCELLS.out wr.drew (HBR.out.trans (HBW.out.mono HBR.out.size))
   have HEVK := Lib.hid hev
   have HEA := Lib.hid hea
   have HIDB := Lib.hid hidb
   subst hea
   clear hbw hcall hcall2 hmem hev hidb
   go_wp2_with fail
   go_region_held3 (fun W => W.cell? ⟨w.heap.size, 0, none⟩ = some (.slice a n c) ∧ W.cell? ⟨b, off + k * 11, none⟩ = some (.int .i64 ts) ∧ W.cell? ⟨b, off + k * 11 + 1, none⟩ = some (.int .u64 id) ∧ W.cell? ⟨b, off + k * 11 + 2, none⟩ = some (.int .i64 typ) ∧ W.cell? ⟨b, off + k * 11 + 3, none⟩ = some (.int .i64 a0) ∧
     W.cell? ⟨b, off + k * 11 + 4, none⟩ = some (.int .i64 a1) ∧ W.cell? ⟨b, off + k * 11 + 5, none⟩ = some (.int .i64 a2) ∧ W.cell? ⟨b, off + k * 11 + 6, none⟩ = some (.int .i64 a3) ∧ W.cell? ⟨b, off + k * 11 + 7, none⟩ = some (.int .i64 a4) ∧ W.cell? ⟨b, off + k * 11 + 8, none⟩ = some (.int .i64 a5) ∧ W.cell? ⟨b, off + k * 11 + 9, none⟩ = some (.int .i64 a6) ∧ W.cell? ⟨b, off + k * 11 + 10, none⟩ = some (.int .i64 a7))
    (first | exact ⟨q0, e0, e1, e2, e3, e4, e5, e6, e7, e8, e9, e10⟩ | (refine ⟨?_, ?_, ?_, ?_, ?_, ?_, ?_, ?_, ?_, ?_, ?_, ?_⟩ <;> assumption)) (first
    | (go_at_call 90; refine (HCL.out _ (HBR.out.trans (HBW.out.mono HBR.out.size))).mono ?_; rintro e wB ⟨r, rfl, hr, hbB⟩; (have HBW := Lib.hid (HBW.out.trans (hbB.mono HBW.out.size))); (have q0 := (HS.out.below (HBR.out.trans (HBW.out.mono HBR.out.size))).ci 0 rfl); (obtain ⟨e0, e1, e2, e3, e4, e5, e6, e7, e8, e9, e10⟩ := HCELLS.out _ (HBR.out.trans (HBW.out.mono HBR.out.size))); (have HR0 := Lib.hid hr); clear hbB hr))
   have HB2 := Lib.hid (HBR.out.trans (HBW.out.mono HBR.out.size))
   clear q0 e2 e3 e4 e5 e6 e7 e8 e9 e10
   by_cases hr : r = 0
   ·have HOK := Lib.hid (HR0.out.1 hr)
    subst hr
    by_cases hk0 : k = 0
    ·have HPS := Lib.hid (show P (k + 1) by
      rw [HP.out]
      have h := HOK.out
      subst hk0
      exact LOk.one hjl h)
     have h00 : ¬ (0 : Int) < k := by omega
     have h01 : decide ((0 : Int) < k) = false := by simpa using h00
     have h02 : ¬ 0 < k := by omega
     have h03 : decide (0 < k) = false := by simpa using h02
     clear hk0
     go_wp2_with fail
     go_quiet (fail)
     go_wp2_with fail
     go_roundw
     case rel => exact ⟨k + 1, hlt, by go_num, HPS.out, HB2.out.trans ((below_draws wB).mono HB2.out.size)⟩
     case measure => exact HME.out
    ·obtain ⟨p, rfl⟩ : ∃ p, k = p + 1 := ⟨k - 1, by omega⟩
     clear hk0
     have hjl2 : p < evs.length := by omega
     have hmem2 : evs[p] ∈ evs := List.getElem_mem hjl2
     obtain ⟨v0, v1, v2, v3, v4, v5, v6, v7, hat2⟩ := at8 (HE8.out _ hmem2)
     have hidb2 := (HEB.out _ hmem2).id
     obtain ⟨ts2, id2, typ2, at2, hev2⟩ : ∃ ts id typ at_, evs[p] = ⟨ts, id, typ, at_⟩ := ⟨_, _, _, _, rfl⟩
     rw [hev2] at hat2 hidb2
     dsimp only at hat2 hidb2
     subst hat2
     have hcells2 := fun W (hb : Below w0.heap.size w0 W) => (HEV.out.below hb).cells p hjl2 ts2 id2 typ2 v0 v1 v2 v3 v4 v5 v6 v7 hev2 b off rfl
     have hnm1 : evNm evs[p] = ⟨ts2, id2.toNat⟩ := by rw [hev2]; rfl
     have hnm2 : evNm evs[p + 1] = ⟨ts, id.toNat⟩ := by rw [HEVK.out]; rfl
     obtain ⟨i2, rfl⟩ : ∃ i : Nat, id2 = i := ⟨id2.toNat, by omega⟩
     obtain ⟨i1, hi1⟩ : ∃ i : Nat, id = i := ⟨id.toNat, by have := HIDB.out; omega⟩
     subst hi1
     rw [Int.toNat_natCast] at hnm1 hnm2
     have HNM := Lib.hid (And.intro hnm1 hnm2)
     have HC2 := Lib.hid hcells2
     have HC1 := HCELLS
     have HBQ := Lib.hid (show Below wB.heap.size wB wB.drew from (Below.refl _ _).drew)
     obtain ⟨g0, g1, _, _, _, _, _, _, _, _, _⟩ := HC2.out wB.drew (HB2.out.trans (HBQ.out.mono HB2.out.size))
     obtain ⟨f0, f1, _, _, _, _, _, _, _, _, _⟩ := HC1.out wB.drew (HB2.out.trans (HBQ.out.mono HB2.out.size))
     have hp1 : (0 : Int) < (p : Int) + 1 := by omega
     have hp1' : decide ((0 : Int) < (p : Int) + 1) = true := by simp; try omega
     have hp2 : (p : Int) < m := by omega
     have hp3 : (0 : Int) ≤ p := by omega
     have hp4 : IntKind.i64.wrap ((p : Int) + 1 - 1) = p := by rw [IntKind.wrap_i64]; omega
     have hp5 : IntKind.i64.wrap (p : Int) = p := by rw [IntKind.wrap_i64]; omega
     have hp6 : wrap64 (p : Int) = p := by unfold wrap64; omega
     have hp7 : (p : Int) + 1 < m := by omega
     have hp8 : (0 : Int) ≤ (p : Int) + 1 := by omega
     clear hmem2 hidb2 hev2 hcells2 hnm1 hnm2 e0 e1
     go_wp2_with fail
     go_region_held3 (fun W => W.cell? ⟨b, off + p * 11, none⟩ = some (.int .i64 ts2) ∧ W.cell? ⟨b, off + p * 11 + 1, none⟩ = some (.int .u64 (i2 : Int)) ∧ W.cell? ⟨b, off + (p + 1) * 11, none⟩ = some (.int .i64 ts) ∧ W.cell? ⟨b, off + (p + 1) * 11 + 1, none⟩ = some (.int .u64 (i1 : Int)))
      (first | exact ⟨g0, g1, f0, f1⟩ | (refine ⟨?_, ?_, ?_, ?_⟩ <;> assumption)) (first
      | (go_at_call 44; refine (rbefore_any ⟨ts2, i2⟩ ⟨ts, i1⟩ _).mono ?_; rintro e wD ⟨rfl, hbD⟩; (have HBQ := Lib.hid (HBQ.out.trans (hbD.mono HBQ.out.size))); (obtain ⟨g0, g1, _, _, _, _, _, _, _, _, _⟩ := HC2.out _ (HB2.out.trans (HBQ.out.mono HB2.out.size))); (obtain ⟨f0, f1, _, _, _, _, _, _, _, _, _⟩ := HC1.out _ (HB2.out.trans (HBQ.out.mono HB2.out.size))); clear hbD))
     have HB3 := Lib.hid (HB2.out.trans (HBQ.out.mono HB2.out.size))
     clear g0 g1 f0 f1
     cases hlt2 : nmLt ⟨ts2, i2⟩ ⟨ts, i1⟩ with
     | true =>
      have HPS := Lib.hid (show P (p + 1 + 1) by
       rw [HP.out]
       exact LOk.step hjl (by have := HPK.out; rw [HP.out] at this; exact this) HOK.out (by rw [HNM.out.1, HNM.out.2]; exact hlt2))
      clear hlt2
      go_wp2_with fail
      go_roundw
      case rel => exact ⟨p + 1 + 1, hlt, by go_num, HPS.out, HB3.out⟩
      case measure => exact HME.out
     | false =>
      have HNO := Lib.hid (show ¬ P m by rw [HP.out]; exact LOk.no2 hjl hlt (by rw [HNM.out.1, HNM.out.2]; exact hlt2))
      clear hlt2
      go_wp2_with fail
      go_ret
      exact .no rfl HNO.out (HB0.out.trans (HB3.out.mono HB0.out.size))
   ·have HNO := Lib.hid (show ¬ P m by rw [HP.out]; exact LOk.no1 hjl hlt (fun h => hr (HR0.out.2 h)))
    have h1 : (r == 0) = false := by simpa using hr
    have h2 : (r != 0) = true := by simpa using hr
    clear hr
    go_wp2_with fail
    go_ret
    exact .no rfl HNO.out (HB0.out.trans (HB2.out.mono HB0.out.size))
  ·have hk' : ¬ (k : Int) < m := by omega
   have hke : k = m := by omega
   have HY := Lib.hid (show P m by rw [← hke]; exact HPK.out)
   clear hbw hke
   go_wp2_with fail
   go_ret
   exact .yes rfl HY.out (HB0.out.trans (HBR.out.mono HB0.out.size))
end Go.Proofs.YtfglgpbjjpoimaaGreatDoor
/- SaveEncodes: the order of matches (plain); the reference's Before. -/
set_option linter.unusedVariables false
namespace Go.Proofs.YtfglgpbjjpoimaaGreatDoor
open Go.RowKit Sv
def lexL {α : Type} (eq lt : α → α → Bool) : List α → List α → Option Bool
 | [], [] => none
 | [], _ :: _ => some true
 | _ :: _, [] => some false
 | x :: l, y :: k => if eq x y = true then lexL eq lt l k else some (lt x y)
def nmEq (a b : Nm) : Bool := decide (a.ts = b.ts) && decide (a.id = b.id)
def zEq (a b : Int) : Bool := decide (a = b)
def zLt (a b : Int) : Bool := decide (a < b)
def mtLt (a b : Mt) : Bool := if a.dec = b.dec then (match lexL nmEq nmLt a.names b.names with | some r => r | none => (lexL zEq zLt a.lens b.lens).getD false) else decide (a.dec < b.dec)
section
variable {α : Type} {eq lt : α → α → Bool} {l k : List α}
theorem lex_step {i : Nat} (h1 : i < l.length) (h2 : i < k.length) (h : lexL eq lt l k = lexL eq lt (l.drop i) (k.drop i)) (he : eq l[i] k[i] = true) : lexL eq lt l k = lexL eq lt (l.drop (i + 1)) (k.drop (i + 1)) := by
 rw [h, List.drop_eq_getElem_cons h1, List.drop_eq_getElem_cons h2]
 simp only [lexL, he, if_true]
theorem lex_diff {i : Nat} (h1 : i < l.length) (h2 : i < k.length) (h : lexL eq lt l k = lexL eq lt (l.drop i) (k.drop i)) (he : eq l[i] k[i] = false) : lexL eq lt l k = some (lt l[i] k[i]) := by
 rw [h, List.drop_eq_getElem_cons h1, List.drop_eq_getElem_cons h2]
 simp [lexL, he]
theorem lex_long {i : Nat} (h1 : i < l.length) (h2 : k.length ≤ i) (h : lexL eq lt l k = lexL eq lt (l.drop i) (k.drop i)) : lexL eq lt l k = some false := by
 rw [h, List.drop_eq_getElem_cons h1, List.drop_eq_nil_of_le h2]; rfl
theorem lex_short {i : Nat} (h1 : l.length ≤ i) (h2 : i < k.length) (h : lexL eq lt l k = lexL eq lt (l.drop i) (k.drop i)) : lexL eq lt l k = some true := by
 rw [h, List.drop_eq_getElem_cons h2, List.drop_eq_nil_of_le h1]; rfl
theorem lex_same {i : Nat} (h1 : l.length ≤ i) (h2 : k.length ≤ i) (h : lexL eq lt l k = lexL eq lt (l.drop i) (k.drop i)) : lexL eq lt l k = none := by
 rw [h, List.drop_eq_nil_of_le h2, List.drop_eq_nil_of_le h1]; rfl
end
set_option maxHeartbeats 4000000 in
set_option maxRecDepth 20000 in
theorem rmbefore_any (x y : Mm) (w : World) (hx : RdMl w x) (hy : RdMl w y) (x1 : x.m.names.length ≤ 1048576) (x2 : x.m.lens.length ≤ 1048576) (y1 : y.m.names.length ≤ 1048576) (y2 : y.m.lens.length ≤ 1048576) :
  Calls Tryz.prog 43 #[.agg (mmc x).toArray, .agg (mmc y).toArray] w fun e w' => e = .returned (.bool (mtLt x.m y.m)) ∧ Below w.heap.size w w' := by
 obtain ⟨⟨d1, ns1, ls1, vs1⟩, na1, nc1, la1, lc1, va1, vc1⟩ := x
 obtain ⟨⟨d2, ns2, ls2, vs2⟩, na2, nc2, la2, lc2, va2, vc2⟩ := y
 dsimp only at x1 x2 y1 y2
 obtain ⟨n1, hn1⟩ : ∃ n, n = ns1.length := ⟨_, rfl⟩
 obtain ⟨n2, hn2⟩ : ∃ n, n = ns2.length := ⟨_, rfl⟩
 obtain ⟨m1, hm1⟩ : ∃ n, n = ls1.length := ⟨_, rfl⟩
 obtain ⟨m2, hm2⟩ : ∃ n, n = ls2.length := ⟨_, rfl⟩
 obtain ⟨F, hF⟩ : ∃ F, F = mtLt ⟨d1, ns1, ls1, vs1⟩ ⟨d2, ns2, ls2, vs2⟩ := ⟨_, rfl⟩
 rw [← hF]
 have HF := Lib.hid hF
 obtain ⟨w0, hw0⟩ : ∃ w0, w0 = (w.alloc (.cells #[.int .i64 d1, .slice na1 n1 nc1, .slice la1 m1 lc1, .slice va1 vs1.length vc1] 62)).alloc (.cells #[.int .i64 d2, .slice na2 n2 nc2, .slice la2 m2 lc2, .slice va2 vs2.length vc2] 62) := ⟨_, rfl⟩
 have HB0 := Lib.hid (show Below w.heap.size w w0 by rw [hw0]; exact bal (bal (Below.refl _ _) (Nat.le_refl _) _) (Nat.le_refl _) _)
 have hE1 : Blk w0 w.heap.size 62 [.int .i64 d1, .slice na1 n1 nc1, .slice la1 m1 lc1, .slice va1 vs1.length vc1] := by rw [hw0]; exact (Blk.new w _ 62).below (bal (Below.refl _ _) (Nat.le_refl _) _)
 have hE2 : Blk w0 (w.heap.size + 1) 62 [.int .i64 d2, .slice na2 n2 nc2, .slice la2 m2 lc2, .slice va2 vs2.length vc2] := by
  rw [hw0]
  have h := Blk.new (w.alloc (.cells #[.int .i64 d1, .slice na1 n1 nc1, .slice la1 m1 lc1, .slice va1 vs1.length vc1] 62)) [.int .i64 d2, .slice na2 n2 nc2, .slice la2 m2 lc2, .slice va2 vs2.length vc2] 62
  rw [show (w.alloc (.cells #[.int .i64 d1, .slice na1 n1 nc1, .slice la1 m1 lc1, .slice va1 vs1.length vc1] 62)).heap.size = w.heap.size + 1 by show Array.size (Array.push _ _) = _; simp] at h
  exact h
 have HE1 := Lib.hid hE1
 have HE2 := Lib.hid hE2
 have HX := Lib.hid (hx.below HB0.out)
 have HY := Lib.hid (hy.below HB0.out)
 have HN1 := Lib.hid hn1
 have HN2 := Lib.hid hn2
 have HM1 := Lib.hid hm1
 have HM2 := Lib.hid hm2
 rw [← hn1] at x1
 rw [← hm1] at x2
 rw [← hn2] at y1
 rw [← hm2] at y2
 simp only [mmc, ← hn1, ← hn2, ← hm1, ← hm2]
 clear hE1 hE2 hx hy hn1 hn2 hm1 hm2 hF
 by_cases hd : d1 = d2
 rotate_left
 ·have h1 : (d1 == d2) = false := by simpa using hd
  have h2 : (d1 != d2) = true := by simpa using hd
  have HBA := Lib.hid (show Below w.heap.size w ((w.alloc (.cells #[.int .i64 d1, .slice na1 n1 nc1, .slice la1 m1 lc1, .slice va1 vs1.length vc1] 62)).alloc (.cells #[.int .i64 d2, .slice na2 n2 nc2, .slice la2 m2 lc2, .slice va2 vs2.length vc2] 62)) by rw [← hw0]; exact HB0.out)
  have hR : (d1 < d2 ∧ F = true) ∨ (¬ d1 < d2 ∧ F = false) := by
   by_cases h : d1 < d2
   ·exact .inl ⟨h, by rw [HF.out]; unfold mtLt; rw [if_neg hd]; simpa using h⟩
   ·exact .inr ⟨h, by rw [HF.out]; unfold mtLt; rw [if_neg hd]; simpa using h⟩
  clear hd hw0
  rcases hR with ⟨h3, rfl⟩ | ⟨h3, rfl⟩
  all_goals (
   go_enter Tryz.func43, Tryz.ntmps43
   go_wp2_with fail
   go_ret
   exact ⟨rfl, HBA.out⟩)
 have HFD := Lib.hid (show F = (match lexL nmEq nmLt ns1 ns2 with | some r => r | none => (lexL zEq zLt ls1 ls2).getD false) by rw [HF.out]; unfold mtLt; rw [if_pos hd])
 subst hd
 go_enter Tryz.func43, Tryz.ntmps43
 go_wp2_with fail
 rw [← hw0]
 clear hw0
 go_loopw [5] (fun i wr => ∃ k : Nat, k ≤ n1 ∧ k ≤ n2 ∧ i = .int .i64 (k : Int) ∧ lexL nmEq nmLt ns1 ns2 = lexL nmEq nmLt (ns1.drop k) (ns2.drop k) ∧ Below w0.heap.size w0 wr) (fun i _ => n1 - (intOf i).toNat)
 case atStart => exact ⟨0, Nat.zero_le _, Nat.zero_le _, rfl, rfl, Below.refl _ _⟩
 case round =>
  obtain ⟨k, hk1, hk2, rfl, hlx, hbw⟩ := hrel
  have HLX := Lib.hid hlx
  have HBR := Lib.hid hbw
  have p1 := (HE1.out.below hbw).ci 1 rfl
  have q1 := (HE2.out.below hbw).ci 1 rfl
  clear hlx
  by_cases hlt : k < n1
  ·have hlt' : (k : Int) < n1 := by omega
   by_cases hl2 : k < n2
   ·have hl2' : ¬ (n2 : Int) ≤ k := by omega
    have hl2'' : (k : Int) < n2 := by omega
    have hk0 : (0 : Int) ≤ k := by omega
    have hj1 : k < ns1.length := by rw [← HN1.out]; exact hlt
    have hj2 : k < ns2.length := by rw [← HN2.out]; exact hl2
    have hst := lex_step (eq := nmEq) (lt := nmLt) hj1 hj2 HLX.out
    have hdf := lex_diff (eq := nmEq) (lt := nmLt) hj1 hj2 HLX.out
    obtain ⟨b1, o1, rfl, e0, e1⟩ := (HX.out.1.below hbw).at k hj1
    obtain ⟨b2, o2, rfl, f0, f1⟩ := (HY.out.1.below hbw).at k hj2
    obtain ⟨u1, hu1⟩ : ∃ u, u = ns1[k] := ⟨_, rfl⟩
    obtain ⟨u2, hu2⟩ : ∃ u, u = ns2[k] := ⟨_, rfl⟩
    rw [← hu1] at e0 e1 hst hdf
    rw [← hu2] at f0 f1 hst hdf
    obtain ⟨t1, i1⟩ := u1
    obtain ⟨t2, i2⟩ := u2
    dsimp only at e0 e1 f0 f1
    have HST := Lib.hid hst
    have HDF := Lib.hid hdf
    have HME := Lib.hid (meas_lt hlt)
    have HKS := Lib.hid (show k + 1 ≤ n1 ∧ k + 1 ≤ n2 by omega)
    obtain ⟨wb, hwb⟩ : ∃ wb, wb = wr.alloc (.cells #[.int .i64 t1, .int .u64 (i1 : Int)] 82) := ⟨_, rfl⟩
    obtain ⟨gb, hgb⟩ : ∃ gb, gb = wr.heap.size := ⟨_, rfl⟩
    have hbb : Below wr.heap.size wr wb := by rw [hwb]; exact bal (Below.refl _ _) (Nat.le_refl _) _
    have hFb : Blk wb gb 82 [.int .i64 t1, .int .u64 (i1 : Int)] := by rw [hwb, hgb]; exact Blk.new wr _ 82
    have HBB := Lib.hid (HBR.out.trans (hbb.mono HBR.out.size))
    have q1b := (HE2.out.below HBB.out).ci 1 rfl
    obtain ⟨b2', o2', hh, f0b, f1b⟩ := (HY.out.1.below HBB.out).at k hj2
    cases hh
    rw [← hu2] at f0b f1b
    dsimp only at f0b f1b
    have g0 := hFb.ci 0 rfl
    have g1 := hFb.ci 1 rfl
    obtain ⟨wd, hwd⟩ : ∃ wd, wd = wb.alloc (.cells #[.int .i64 t2, .int .u64 (i2 : Int)] 82) := ⟨_, rfl⟩
    obtain ⟨gd, hgd⟩ : ∃ gd, gd = wb.heap.size := ⟨_, rfl⟩
    have hbd : Below wb.heap.size wb wd := by rw [hwd]; exact bal (Below.refl _ _) (Nat.le_refl _) _
    have hFd : Blk wd gd 82 [.int .i64 t2, .int .u64 (i2 : Int)] := by rw [hwd, hgd]; exact Blk.new wb _ 82
    have HBD := Lib.hid (HBB.out.trans (hbd.mono HBB.out.size))
    have g0d := (hFb.below hbd).ci 0 rfl
    have g1d := (hFb.below hbd).ci 1 rfl
    have h0d := hFd.ci 0 rfl
    have h1d := hFd.ci 1 rfl
    clear hst hdf hu1 hu2 hbb hbd hFb hFd hbw
    go_upto_region 9 with fail
    rw [← hwb, ← hgb]
    clear hwb hgb e0 e1 f0 f1 p1 q1
    go_upto_region 10 with fail
    rw [← hwd, ← hgd]
    clear hwd hgd q1b f0b f1b g0 g1
    by_cases ht : t1 = t2
    ·subst ht
     by_cases hi : i1 = i2
     ·have HX2 := Lib.hid (HST.out (by simp [nmEq, hi]))
      subst hi
      go_wp2_with fail
      go_roundw
      case rel => exact ⟨k + 1, HKS.out.1, HKS.out.2, by go_num, HX2.out, HBD.out⟩
      case measure => exact HME.out
     ·have hi1 : ((i1 : Int) == (i2 : Int)) = false := by simp; omega
      have hi2 : ((i1 : Int) != (i2 : Int)) = true := by simp; omega
      have hi3 : (i1 == i2) = false := by simpa using hi
      have hR : ((i1 : Int) < i2 ∧ F = true) ∨ (¬ (i1 : Int) < i2 ∧ F = false) := by
       have h := HFD.out
       rw [HDF.out (by simp [nmEq, hi])] at h
       dsimp only at h
       by_cases hq : i1 < i2
       ·exact .inl ⟨by omega, by rw [h]; simp [nmLt, hq]⟩
       ·exact .inr ⟨by omega, by rw [h]; simp [nmLt]; omega⟩
      clear hi
      rcases hR with ⟨h3, rfl⟩ | ⟨h3, rfl⟩
      all_goals (
       go_wp2_with fail
       go_ret
       exact ⟨rfl, HB0.out.trans (HBD.out.mono HB0.out.size)⟩)
    ·have ht1 : (t1 == t2) = false := by simpa using ht
     have ht2 : (t1 != t2) = true := by simpa using ht
     have hR : (t1 < t2 ∧ F = true) ∨ (¬ t1 < t2 ∧ F = false) := by
      have h := HFD.out
      rw [HDF.out (by simp [nmEq, ht])] at h
      dsimp only at h
      by_cases hq : t1 < t2
      ·exact .inl ⟨hq, by rw [h]; simp [nmLt, ht, hq]⟩
      ·exact .inr ⟨hq, by rw [h]; simp [nmLt, ht]; omega⟩
     clear ht
     rcases hR with ⟨h3, rfl⟩ | ⟨h3, rfl⟩
     all_goals (
      go_wp2_with fail
      go_ret
      exact ⟨rfl, HB0.out.trans (HBD.out.mono HB0.out.size)⟩)
   ·have hl2' : (n2 : Int) ≤ k := by omega
    have HNO := Lib.hid (show F = false by rw [HFD.out, lex_long (by rw [← HN1.out]; exact hlt) (by rw [← HN2.out]; omega) HLX.out])
    clear hbw
    go_wp2_with fail
    go_ret
    exact ⟨by rw [HNO.out]; rfl, HB0.out.trans (HBR.out.mono HB0.out.size)⟩
  ·have hk' : ¬ (k : Int) < n1 := by omega
   by_cases hl2 : n1 < n2
   ·have hl2' : (n1 : Int) < n2 := by omega
    have HNO := Lib.hid (show F = true by rw [HFD.out, lex_short (by rw [← HN1.out]; omega) (by rw [← HN2.out]; omega) HLX.out])
    clear hbw
    go_wp2_with fail
    go_ret
    exact ⟨by rw [HNO.out]; rfl, HB0.out.trans (HBR.out.mono HB0.out.size)⟩
   ·have hl2' : ¬ (n1 : Int) < n2 := by omega
    have HFE := Lib.hid (show F = (lexL zEq zLt ls1 ls2).getD false by rw [HFD.out, lex_same (by rw [← HN1.out]; omega) (by rw [← HN2.out]; omega) HLX.out])
    have p2 := (HE1.out.below hbw).ci 2 rfl
    have q2 := (HE2.out.below hbw).ci 2 rfl
    have HX2 := Lib.hid (HX.out.2.1.below hbw)
    have HY2 := Lib.hid (HY.out.2.1.below hbw)
    have HBF := Lib.hid (HB0.out.trans (HBR.out.mono HB0.out.size))
    clear hbw
    obtain ⟨wv, rfl⟩ : ∃ wv, wv = wr := ⟨_, rfl⟩
    go_wp2_with fail
    go_loopw [8] (fun i wz => ∃ k : Nat, k ≤ m1 ∧ k ≤ m2 ∧ i = .int .i64 (k : Int) ∧ lexL zEq zLt ls1 ls2 = lexL zEq zLt (ls1.drop k) (ls2.drop k) ∧ Below wv.heap.size wv wz) (fun i _ => m1 - (intOf i).toNat)
    case atStart => exact ⟨0, Nat.zero_le _, Nat.zero_le _, rfl, rfl, Below.refl _ _⟩
    case round =>
     obtain ⟨j, hj1, hj2, rfl, hlz, hbz⟩ := hrel
     have HLZ := Lib.hid hlz
     have HBZ := Lib.hid hbz
     have HE1Z := Lib.hid (HE1.out.below (HBR.out.trans (hbz.mono HBR.out.size)))
     have HE2Z := Lib.hid (HE2.out.below (HBR.out.trans (hbz.mono HBR.out.size)))
     have p2 := HE1Z.out.ci 2 rfl
     have q2 := HE2Z.out.ci 2 rfl
     clear hlz
     by_cases hlt : j < m1
     ·have hlt' : (j : Int) < m1 := by omega
      by_cases hl3 : j < m2
      ·have hl3' : ¬ (m2 : Int) ≤ j := by omega
       have hl3'' : (j : Int) < m2 := by omega
       have hk0 : (0 : Int) ≤ j := by omega
       have hq1 : j < ls1.length := by rw [← HM1.out]; exact hlt
       have hq2 : j < ls2.length := by rw [← HM2.out]; exact hl3
       have hst := lex_step (eq := zEq) (lt := zLt) hq1 hq2 HLZ.out
       have hdf := lex_diff (eq := zEq) (lt := zLt) hq1 hq2 HLZ.out
       obtain ⟨b1, o1, rfl, e0⟩ := (HX2.out.below hbz).at j hq1
       obtain ⟨b2, o2, rfl, f0⟩ := (HY2.out.below hbz).at j hq2
       obtain ⟨u1, hu1⟩ : ∃ u, u = ls1[j] := ⟨_, rfl⟩
       obtain ⟨u2, hu2⟩ : ∃ u, u = ls2[j] := ⟨_, rfl⟩
       rw [← hu1] at e0 hst hdf
       rw [← hu2] at f0 hst hdf
       have HST := Lib.hid hst
       have HDF := Lib.hid hdf
       have HME := Lib.hid (meas_lt hlt)
       have HKS := Lib.hid (show j + 1 ≤ m1 ∧ j + 1 ≤ m2 by omega)
       have HBZD := Lib.hid (show ∀ N, Below w.heap.size w (World.drewN wr N) from fun N => HBF.out.trans ((hbz.trans ((below_draws _).mono hbz.size)).mono HBF.out.size))
       have HBZD2 := Lib.hid (show ∀ N M, Below w.heap.size w (World.drewN (World.drewN wr N) M) from fun N M => (HBZD.out N).trans ((below_draws (World.drewN wr N)).mono (HBZD.out N).size))
       have HBZE := Lib.hid (show ∀ N, Below wv.heap.size wv (World.drewN wr N) from fun N => hbz.trans ((below_draws _).mono hbz.size))
       clear hst hdf hu1 hu2 hbz
       by_cases ht : u1 = u2
       ·subst ht
        have HX3 := Lib.hid (HST.out (by simp [zEq]))
        go_wp2_with fail
        go_quiet (fail)
        go_wp2_with fail
        go_roundw
        case rel => exact ⟨j + 1, HKS.out.1, HKS.out.2, by go_num, HX3.out, HBZE.out _⟩
        case measure => exact HME.out
       ·have ht1 : (u1 == u2) = false := by simpa using ht
        have ht2 : (u1 != u2) = true := by simpa using ht
        have hR : (u1 < u2 ∧ F = true) ∨ (¬ u1 < u2 ∧ F = false) := by
         have h := HFE.out
         rw [HDF.out (by simp [zEq, ht])] at h
         dsimp only [Option.getD] at h
         by_cases hq : u1 < u2
         ·exact .inl ⟨hq, by rw [h]; simp [zLt, hq]⟩
         ·exact .inr ⟨hq, by rw [h]; simp [zLt]; omega⟩
        clear ht
        rcases hR with ⟨h3, rfl⟩ | ⟨h3, rfl⟩
        all_goals (
         go_wp2_with fail
         go_quiet (fail)
         go_wp2_with fail
         go_quiet (fail)
         go_wp2_with fail
         go_ret
         refine ⟨by first | rfl | exact ret_val (congrArg Value.bool (by simpa using h3)), ?_⟩
         first
          | exact HBZD.out _
          | exact HBZD2.out _ _)
      ·have hl3' : (m2 : Int) ≤ j := by omega
       have HNO := Lib.hid (show F = false by rw [HFE.out, lex_long (by rw [← HM1.out]; exact hlt) (by rw [← HM2.out]; omega) HLZ.out]; rfl)
       clear hbz
       go_wp2_with fail
       go_ret
       exact ⟨by rw [HNO.out]; rfl, HBF.out.trans (HBZ.out.mono HBF.out.size)⟩
     ·have hk3 : ¬ (j : Int) < m1 := by omega
      by_cases hl3 : m1 < m2
      ·have hl3' : (m1 : Int) < m2 := by omega
       have hl4 : decide (m1 < m2) = true := by simpa using hl3
       have HNO := Lib.hid (show F = true by rw [HFE.out, lex_short (by rw [← HM1.out]; omega) (by rw [← HM2.out]; omega) HLZ.out]; rfl)
       clear hbz
       go_wp2_with fail
       go_ret
       exact ⟨by rw [HNO.out]; rfl, HBF.out.trans (HBZ.out.mono HBF.out.size)⟩
      ·have hl3' : ¬ (m1 : Int) < m2 := by omega
       have hl4 : decide (m1 < m2) = false := by simpa using hl3
       have HNO := Lib.hid (show F = false by rw [HFE.out, lex_same (by rw [← HM1.out]; omega) (by rw [← HM2.out]; omega) HLZ.out]; rfl)
       clear hbz
       go_wp2_with fail
       go_ret
       exact ⟨by rw [HNO.out]; rfl, HBF.out.trans (HBZ.out.mono HBF.out.size)⟩
end Go.Proofs.YtfglgpbjjpoimaaGreatDoor
