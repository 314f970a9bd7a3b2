/- SaveEncodes: queries in memory; the program's shapedItem. -/
import Derived.Test.YtfglgpbjjpoimaaGreatDoorSwGF
set_option linter.unusedVariables false
namespace Go.Proofs.YtfglgpbjjpoimaaGreatDoor
open Go.RowKit Sv
/-- An item in memory. -/
structure Im where
 i : It
 a : Option Addr
 c : Nat
def imc (x : Im) : List Value := [.bool x.i.neg, .slice x.a x.i.types.length x.c, T x.i.var, .int .i64 x.i.lo, .int .i64 x.i.hi]
def RdI (w : World) (a : Option Addr) (l : List Im) : Prop := Rd w a (l.flatMap imc) ∧ ∀ x ∈ l, RdS w x.a x.i.types
/-- A tree in memory. -/
structure Tr where
 t : List Nd
 a : Option Addr
 c : Nat
def trv (x : Tr) : Value := .slice x.a x.t.length x.c
def RdR (w : World) (a : Option Addr) (l : List Tr) : Prop := Rd w a (l.map trv) ∧ ∀ x ∈ l, RdN w x.a x.t
/-- A query in memory. -/
structure Qm where
 items : List Im
 ia : Option Addr
 ic : Nat
 mode : Int
 after : Int
 wher : List Nd
 wa : Option Addr
 wc : Nat
 within : Int
 by_ : Str
 ret : List Tr
 ra : Option Addr
 rc : Nat
def Qm.q (x : Qm) : Qy := ⟨x.items.map (·.i), x.mode, x.after, x.wher, x.within, x.by_, x.ret.map (·.t)⟩
def qmc (x : Qm) : List Value := [.slice x.ia x.items.length x.ic, .int .i64 x.mode, .int .i64 x.after, .slice x.wa x.wher.length x.wc, .int .i64 x.within, T x.by_, .slice x.ra x.ret.length x.rc]
def RdQ (w : World) (x : Qm) : Prop := RdI w x.ia x.items ∧ RdN w x.wa x.wher ∧ RdR w x.ra x.ret
/-- No list is longer than a million. -/
structure QB (x : Qm) : Prop where
 items : x.items.length ≤ 1048576
 types : ∀ y ∈ x.items, y.i.types.length ≤ 1048576
 wher : x.wher.length ≤ 1048576
 ret : x.ret.length ≤ 1048576
 trees : ∀ y ∈ x.ret, y.t.length ≤ 1048576
theorem RdI.below {w w' : World} {a : Option Addr} {l : List Im} (h : RdI w a l) (hb : Below w.heap.size w w') : RdI w' a l := ⟨h.1.below hb, fun x hx => (h.2 x hx).below hb⟩
theorem RdR.below {w w' : World} {a : Option Addr} {l : List Tr} (h : RdR w a l) (hb : Below w.heap.size w w') : RdR w' a l := ⟨h.1.below hb, fun x hx => (h.2 x hx).below hb⟩
theorem RdQ.below {w w' : World} {x : Qm} (h : RdQ w x) (hb : Below w.heap.size w w') : RdQ w' x := ⟨h.1.below hb, h.2.1.below hb, h.2.2.below hb⟩
theorem RdI.at {w : World} {a : Option Addr} {l : List Im} (h : RdI w a l) (i : Nat) (hi : i < l.length) :
  ∃ b off, a = some ⟨b, off, none⟩ ∧ w.cell? ⟨b, off + i * 5, none⟩ = some (.bool l[i].i.neg) ∧ w.cell? ⟨b, off + i * 5 + 1, none⟩ = some (.slice l[i].a l[i].i.types.length l[i].c) ∧ w.cell? ⟨b, off + i * 5 + 2, none⟩ = some (T l[i].i.var) ∧ w.cell? ⟨b, off + i * 5 + 3, none⟩ = some (.int .i64 l[i].i.lo) ∧ w.cell? ⟨b, off + i * 5 + 4, none⟩ = some (.int .i64 l[i].i.hi) := by
 obtain ⟨b, off, e, hc⟩ := Rd.piece (f := imc) (n := 5) (fun _ => rfl) h.1 i hi (by omega)
 exact ⟨b, off, e, hc 0 (by omega), hc 1 (by omega), hc 2 (by omega), hc 3 (by omega), hc 4 (by omega)⟩
theorem RdR.at {w : World} {a : Option Addr} {l : List Tr} (h : RdR w a l) (i : Nat) (hi : i < l.length) :
  ∃ b off, a = some ⟨b, off, none⟩ ∧ w.cell? ⟨b, off + i, none⟩ = some (.slice l[i].a l[i].t.length l[i].c) := by
 have g1 : (l.map trv)[i]? = some (.slice l[i].a l[i].t.length l[i].c) := by simp [hi, trv]
 rcases h.1 with h | ⟨b, off, rfl, hc⟩
 ·rw [h] at g1; cases g1
 ·exact ⟨b, off, rfl, hc _ _ g1⟩
theorem nil_facts (s : Str) (h : s ≠ []) : (s == []) = false ∧ s.isEmpty = false := by
 cases s with
 | nil => exact absurd rfl h
 | cons a b => exact ⟨rfl, rfl⟩
theorem all_no {l : List Str} {p : Str → Bool} (k : Nat) (hk : k < l.length) (h : p l[k] = false) : l.all p = false := by
 rw [List.all_eq_false]
 exact ⟨_, List.getElem_mem hk, by simp [h]⟩
theorem all_step {l : List Str} {p : Str → Bool} {k : Nat} (hk : k < l.length) (h : (l.take k).all p = true) (h2 : p l[k] = true) : (l.take (k + 1)).all p = true := by
 rw [take_snoc l k hk, List.all_append, h]
 simp [h2]
set_option maxHeartbeats 2000000 in
theorem shapedItem_any (x : Im) (w : World) (hk : Kw w) (h : RdS w x.a x.i.types) (hN : x.i.types.length ≤ 1048576) :
  Calls Tryz.prog 98 #[.agg (imc x).toArray] w fun e w' => e = .returned (.bool (shapedIt (nameB kwsL) x.i)) ∧ Below w.heap.size w w' := by
 obtain ⟨⟨neg, types, var, lo, hi⟩, a, c⟩ := x
 dsimp only at h hN
 simp only [imc, T]
 obtain ⟨n, hn⟩ : ∃ n, n = types.length := ⟨_, rfl⟩
 rw [← hn] at hN ⊢
 obtain ⟨w0, hw0⟩ : ∃ w0, w0 = w.alloc (.cells #[.bool neg, .slice a n c, .string ⟨var.toArray⟩, .int .i64 lo, .int .i64 hi] 105) := ⟨_, rfl⟩
 have hb0 : Below w.heap.size w w0 := by rw [hw0]; exact (Below.refl _ _).alloc (Nat.le_refl _) _
 have hE0 : Blk w0 w.heap.size 105 [.bool neg, .slice a n c, .string ⟨var.toArray⟩, .int .i64 lo, .int .i64 hi] := by rw [hw0]; exact Blk.new w _ 105
 have hk0 := hk.below hb0
 have HK := Lib.hid hk
 have HR := Lib.hid h
 have HE := Lib.hid hE0
 have HB0 := Lib.hid hb0
 have HN := Lib.hid hn
 have hsh : shapedIt (nameB kwsL) ⟨neg, types, var, lo, hi⟩ = (!types.isEmpty && types.all (nameB kwsL) && nameB kwsL var && decide (0 ≤ lo) && decide (0 ≤ hi) && (!neg || (decide (lo = 1) && decide (hi = 1)))) := rfl
 have HSH := Lib.hid hsh
 clear hb0 hE0 hk h hn hsh
 by_cases hz : n = 0
 ·have HNO := Lib.hid (show shapedIt (nameB kwsL) ⟨neg, types, var, lo, hi⟩ = false by
   have : types = [] := List.eq_nil_of_length_eq_zero (by rw [← HN.out]; exact hz)
   rw [HSH.out, this]; simp)
  subst hz
  go_enter Tryz.func98, Tryz.ntmps98
  go_wp2_with fail
  go_ret
  exact ⟨by rw [HNO.out]; rfl, (Below.refl _ _).alloc (Nat.le_refl _) _⟩
 ·have hz' : ((n : Int) == 0) = false := by simpa using hz
  have hz2 : ¬ (n : Int) = 0 := by omega
  have HNE := Lib.hid (show types.isEmpty = false by cases types with
   | nil => exact absurd HN.out hz
   | cons _ _ => rfl)
  clear hz
  go_enter Tryz.func98, Tryz.ntmps98
  go_wp2_with fail
  rw [← hw0]
  clear hw0
  refine (isName_any ⟨var.toArray⟩ w0 hk0).mono ?_
  rintro e w1 ⟨rfl, hb1⟩
  rw [sl_T]
  have HB1 := Lib.hid (HB0.out.trans (hb1.mono HB0.out.size))
  have c0 := (HE.out.below hb1).ci 0 rfl
  have c1 := (HE.out.below hb1).ci 1 rfl
  have c3 := (HE.out.below hb1).ci 3 rfl
  have c4 := (HE.out.below hb1).ci 4 rfl
  have HE1 := Lib.hid (HE.out.below hb1)
  clear hb1 hk0
  cases hv : nameB kwsL var with
  | false =>
   have HNO := Lib.hid (show shapedIt (nameB kwsL) ⟨neg, types, var, lo, hi⟩ = false by rw [HSH.out, hv]; simp)
   clear hv
   go_wp2_with fail
   go_ret
   exact ⟨by rw [HNO.out]; rfl, HB1.out⟩
  | true =>
   have HV := Lib.hid hv
   clear hv
   by_cases hlo : lo < 0
   ·have HNO := Lib.hid (show shapedIt (nameB kwsL) ⟨neg, types, var, lo, hi⟩ = false by
     have : decide (0 ≤ lo) = false := by simpa using hlo
     rw [HSH.out, this]; simp)
    go_wp2_with fail
    go_ret
    exact ⟨by rw [HNO.out]; rfl, HB1.out⟩
   ·by_cases hhi : hi < 0
    ·have HNO := Lib.hid (show shapedIt (nameB kwsL) ⟨neg, types, var, lo, hi⟩ = false by
      have : decide (0 ≤ hi) = false := by simpa using hhi
      rw [HSH.out, this]; simp)
     go_wp2_with fail
     go_ret
     exact ⟨by rw [HNO.out]; rfl, HB1.out⟩
    ·have HLO := Lib.hid (show decide (0 ≤ lo) = true by simpa using hlo)
     have HHI := Lib.hid (show decide (0 ≤ hi) = true by simpa using hhi)
     go_wp2_with fail
     go_loopw [28] (fun i wr => ∃ k : Nat, k ≤ n ∧ i = .int .i64 (k : Int) ∧ (types.take k).all (nameB kwsL) = true ∧ Below w1.heap.size w1 wr) (fun i _ => n - (intOf i).toNat)
     case atStart => exact ⟨0, Nat.zero_le _, rfl, by simp, Below.refl _ _⟩
     case round =>
      obtain ⟨k, hkn, rfl, hal, hbw⟩ := hrel
      have HBW := Lib.hid hbw
      have HAL := Lib.hid hal
      have HB2 := Lib.hid (HB1.out.trans (hbw.mono HB1.out.size))
      by_cases hlt : k < n
      ·have hkl : k < types.length := by rw [← HN.out]; exact hlt
       obtain ⟨b, off, rfl, hc⟩ := (HR.out.below HB2.out).at k hkl
       have hlt' : (k : Int) < n := by omega
       have hno := @all_no types (nameB kwsL) k hkl
       have hst := fun h => all_step (p := nameB kwsL) hkl HAL.out h
       obtain ⟨s, hs⟩ : ∃ s, s = types[k] := ⟨_, rfl⟩
       rw [← hs] at hc hno hst
       rw [T] at hc
       have HNOF := Lib.hid hno
       have HSTF := Lib.hid hst
       have HME := Lib.hid (meas_lt hlt)
       have HKS := Lib.hid (show k + 1 ≤ n from hlt)
       have hkw := HK.out.below HB2.out
       clear hal hbw hno hst hs c0 c1 c3 c4
       go_wp2_with fail
       refine (isName_any ⟨s.toArray⟩ wr hkw).mono ?_
       rintro e w3 ⟨rfl, hb3⟩
       rw [sl_T]
       have HB3 := Lib.hid (HBW.out.trans (hb3.mono HBW.out.size))
       clear hb3 hkw hc
       cases hv : nameB kwsL s with
       | false =>
        have HNO := Lib.hid (show shapedIt (nameB kwsL) ⟨neg, types, var, lo, hi⟩ = false by rw [HSH.out, HNOF.out hv]; simp)
        clear hv
        go_wp2_with fail
        go_ret
        exact ⟨by rw [HNO.out]; rfl, HB1.out.trans (HB3.out.mono HB1.out.size)⟩
       | true =>
        have HST := Lib.hid (HSTF.out hv)
        clear hv
        go_wp2_with fail
        go_roundw
        case rel => exact ⟨k + 1, HKS.out, by go_num, HST.out, HB3.out⟩
        case measure => exact HME.out
      ·have hke : k = n := by omega
       have hk' : ¬ (k : Int) < n := by omega
       have HAT := Lib.hid (show types.all (nameB kwsL) = true by
        rw [List.take_of_length_le (by rw [← HN.out]; omega)] at hal
        exact hal)
       have d0 := (HE1.out.below hbw).ci 0 rfl
       have d3 := (HE1.out.below hbw).ci 3 rfl
       have d4 := (HE1.out.below hbw).ci 4 rfl
       clear hal hke hbw c0 c1 c3 c4
       have hres : shapedIt (nameB kwsL) ⟨neg, types, var, lo, hi⟩ = (!neg || (decide (lo = 1) && decide (hi = 1))) := by
        rw [HSH.out, HNE.out, HAT.out, HV.out, HLO.out, HHI.out]; simp
       have HRES := Lib.hid hres
       clear hres
       cases neg with
       | false =>
        go_wp2_with fail
        go_ret
        exact ⟨by rw [HRES.out]; simp only [Bool.not_false, Bool.true_or]; rfl, HB2.out⟩
       | true =>
        by_cases h1 : lo = 1
        ·subst h1
         by_cases h2 : hi = 1
         ·subst h2
          go_wp2_with fail
          go_ret
          exact ⟨by rw [HRES.out]; rfl, HB2.out⟩
         ·have h2' : (hi == 1) = false := by simpa using h2
          have H2 := Lib.hid (show decide (hi = 1) = false by simpa using h2)
          clear h2
          go_wp2_with fail
          go_ret
          exact ⟨by rw [HRES.out, H2.out]; rfl, HB2.out⟩
        ·have h1' : (lo == 1) = false := by simpa using h1
         have H1 := Lib.hid (show decide (lo = 1) = false by simpa using h1)
         clear h1
         go_wp2_with fail
         go_ret
         exact ⟨by rw [HRES.out, H1.out]; rfl, HB2.out⟩
end Go.Proofs.YtfglgpbjjpoimaaGreatDoor
/- SaveEncodes: the program's Shaped. -/
set_option linter.unusedVariables false
namespace Go.Proofs.YtfglgpbjjpoimaaGreatDoor
open Go.RowKit Sv
theorem all_noG {α : Type} {l : List α} {p : α → Bool} (k : Nat) (hk : k < l.length) (h : p l[k] = false) : l.all p = false := by
 rw [List.all_eq_false]
 exact ⟨_, List.getElem_mem hk, by simp [h]⟩
theorem all_stepG {α : Type} {l : List α} {p : α → Bool} {k : Nat} (hk : k < l.length) (h : (l.take k).all p = true) (h2 : p l[k] = true) : (l.take (k + 1)).all p = true := by
 rw [take_snoc l k hk, List.all_append, h]
 simp [h2]
theorem shapedQ_eq (x : Qm) : shapedQ (nameB kwsL) x.q = (!x.items.isEmpty && decide (0 ≤ x.mode) && decide (x.mode ≤ 2) && decide (0 ≤ x.after) && decide (x.after ≤ 3) && decide (0 ≤ x.within) &&
  x.items.all (fun y => shapedIt (nameB kwsL) y.i) && (x.wher.isEmpty || treeB (nameB kwsL) x.wher) && (x.by_.isEmpty || nameB kwsL x.by_) && x.ret.all (fun y => treeB (nameB kwsL) y.t)) := by
 unfold shapedQ Qm.q
 simp only [List.all_map, List.isEmpty_map, Function.comp_def]
set_option maxHeartbeats 4000000 in
theorem shaped_any (x : Qm) (w : World) (hk : Kw w) (h : RdQ w x) (hB : QB x) :
  Calls Tryz.prog 60 #[.agg (qmc x).toArray] w fun e w' => e = .returned (.bool (shapedQ (nameB kwsL) x.q)) ∧ Below w.heap.size w w' := by
 have hsh := shapedQ_eq x
 have bn := hB.items
 have bt := hB.types
 have bw := hB.wher
 have br := hB.ret
 have brt := hB.trees
 obtain ⟨hRI, hRN, hRR⟩ := h
 generalize hQ : shapedQ (nameB kwsL) x.q = SQ at hsh ⊢
 clear hQ hB
 obtain ⟨items, ia, ic, mode, after, wher, wa, wc, within, by_, ret, ra, rc⟩ := x
 dsimp only at hsh hRI hRN hRR bn bt bw br brt
 simp only [qmc, T]
 have HBT := Lib.hid bt
 have HBRT := Lib.hid brt
 have HSH := Lib.hid hsh
 have HRI := Lib.hid hRI
 have HRN := Lib.hid hRN
 have HRR := Lib.hid hRR
 clear bt brt hsh hRI hRN hRR
 obtain ⟨n, hn⟩ : ∃ n, n = items.length := ⟨_, rfl⟩
 obtain ⟨nw, hnw⟩ : ∃ n, n = wher.length := ⟨_, rfl⟩
 obtain ⟨nr, hnr⟩ : ∃ n, n = ret.length := ⟨_, rfl⟩
 rw [← hn] at bn ⊢
 rw [← hnw] at bw ⊢
 rw [← hnr] at br ⊢
 have HN := Lib.hid hn
 have HNW := Lib.hid hnw
 have HNR := Lib.hid hnr
 clear hn hnw hnr
 obtain ⟨w0, hw0⟩ : ∃ w0, w0 = w.alloc (.cells #[.slice ia n ic, .int .i64 mode, .int .i64 after, .slice wa nw wc, .int .i64 within, .string ⟨by_.toArray⟩, .slice ra nr rc] 31) := ⟨_, rfl⟩
 have hb0 : Below w.heap.size w w0 := by rw [hw0]; exact (Below.refl _ _).alloc (Nat.le_refl _) _
 have hE0 : Blk w0 w.heap.size 31 [.slice ia n ic, .int .i64 mode, .int .i64 after, .slice wa nw wc, .int .i64 within, .string ⟨by_.toArray⟩, .slice ra nr rc] := by rw [hw0]; exact Blk.new w _ 31
 have HK := Lib.hid hk
 have HE := Lib.hid hE0
 have HB0 := Lib.hid hb0
 clear hE0 hk hb0
 by_cases q0 : n = 0
 ·have HNO := Lib.hid (show SQ = false by
   have : items.isEmpty = true := by rw [List.isEmpty_iff]; exact List.eq_nil_of_length_eq_zero (by rw [← HN.out]; exact q0)
   rw [HSH.out, this]; simp)
  subst q0
  go_enter Tryz.func60, Tryz.ntmps60
  go_wp2_with fail
  go_ret
  exact ⟨by rw [HNO.out]; rfl, (Below.refl _ _).alloc (Nat.le_refl _) _⟩
 have q0b : ((n : Int) == 0) = false := by simpa using q0
 have q0c : ¬ (n : Int) = 0 := by omega
 have HNE := Lib.hid (show items.isEmpty = false by cases items with | nil => exact absurd HN.out q0 | cons _ _ => rfl)
 by_cases q1 : mode < 0
 ·have HNO := Lib.hid (show SQ = false by
   have : decide (0 ≤ mode) = false := by simpa using q1
   rw [HSH.out, this]; simp)
  go_enter Tryz.func60, Tryz.ntmps60
  go_wp2_with fail
  go_ret
  exact ⟨by rw [HNO.out]; rfl, (Below.refl _ _).alloc (Nat.le_refl _) _⟩
 have HM0 := Lib.hid (show decide (0 ≤ mode) = true by simpa using q1)
 by_cases q2 : 2 < mode
 ·have HNO := Lib.hid (show SQ = false by
   have : decide (mode ≤ 2) = false := by simpa using q2
   rw [HSH.out, this]; simp)
  go_enter Tryz.func60, Tryz.ntmps60
  go_wp2_with fail
  go_ret
  exact ⟨by rw [HNO.out]; rfl, (Below.refl _ _).alloc (Nat.le_refl _) _⟩
 have HM1 := Lib.hid (show decide (mode ≤ 2) = true by simpa using q2)
 by_cases q3 : after < 0
 ·have HNO := Lib.hid (show SQ = false by
   have : decide (0 ≤ after) = false := by simpa using q3
   rw [HSH.out, this]; simp)
  go_enter Tryz.func60, Tryz.ntmps60
  go_wp2_with fail
  go_ret
  exact ⟨by rw [HNO.out]; rfl, (Below.refl _ _).alloc (Nat.le_refl _) _⟩
 have HA0 := Lib.hid (show decide (0 ≤ after) = true by simpa using q3)
 by_cases q4 : 3 < after
 ·have HNO := Lib.hid (show SQ = false by
   have : decide (after ≤ 3) = false := by simpa using q4
   rw [HSH.out, this]; simp)
  go_enter Tryz.func60, Tryz.ntmps60
  go_wp2_with fail
  go_ret
  exact ⟨by rw [HNO.out]; rfl, (Below.refl _ _).alloc (Nat.le_refl _) _⟩
 have HA1 := Lib.hid (show decide (after ≤ 3) = true by simpa using q4)
 by_cases q5 : within < 0
 ·have HNO := Lib.hid (show SQ = false by
   have : decide (0 ≤ within) = false := by simpa using q5
   rw [HSH.out, this]; simp)
  go_enter Tryz.func60, Tryz.ntmps60
  go_wp2_with fail
  go_ret
  exact ⟨by rw [HNO.out]; rfl, (Below.refl _ _).alloc (Nat.le_refl _) _⟩
 have HW0 := Lib.hid (show decide (0 ≤ within) = true by simpa using q5)
 go_enter Tryz.func60, Tryz.ntmps60
 go_wp2_with fail
 rw [← hw0]
 clear hw0
 go_loopw [39] (fun i wr => ∃ k : Nat, k ≤ n ∧ i = .int .i64 (k : Int) ∧ (items.take k).all (fun y => shapedIt (nameB kwsL) y.i) = true ∧ Below w0.heap.size w0 wr) (fun i _ => n - (intOf i).toNat)
 case atStart => exact ⟨0, Nat.zero_le _, rfl, by simp, Below.refl _ _⟩
 case round =>
  obtain ⟨k, hkn, rfl, hal, hbw⟩ := hrel
  have HBW := Lib.hid hbw
  have HAL := Lib.hid hal
  have HB2 := Lib.hid (HB0.out.trans (hbw.mono HB0.out.size))
  by_cases hlt : k < n
  ·have hkl : k < items.length := by rw [← HN.out]; exact hlt
   obtain ⟨b, off, rfl, e0, e1, e2, e3, e4⟩ := (HRI.out.below HB2.out).at k hkl
   have hrs := (HRI.out.below HB2.out).2 _ (List.getElem_mem hkl)
   have hlt' : (k : Int) < n := by omega
   have hno := @all_noG Im items (fun y => shapedIt (nameB kwsL) y.i) k hkl
   have hst := fun h => all_stepG (p := fun y : Im => shapedIt (nameB kwsL) y.i) hkl HAL.out h
   have hbt := HBT.out _ (List.getElem_mem hkl)
   obtain ⟨y, hy⟩ : ∃ y, y = items[k] := ⟨_, rfl⟩
   rw [← hy] at e0 e1 e2 e3 e4 hno hst hrs hbt
   try dsimp only at hno hst
   obtain ⟨⟨neg, types, var, lo, hi⟩, ta, tc⟩ := y
   dsimp only at e0 e1 e2 e3 e4 hrs hbt
   rw [T] at e2
   have HNOF := Lib.hid hno
   have HSTF := Lib.hid hst
   have HME := Lib.hid (meas_lt hlt)
   have HKS := Lib.hid (show k + 1 ≤ n from hlt)
   obtain ⟨wb, hwb⟩ : ∃ wb, wb = wr.alloc (.cells #[.bool neg, .slice ta types.length tc, .string ⟨var.toArray⟩, .int .i64 lo, .int .i64 hi] 105) := ⟨_, rfl⟩
   have hbb : Below wr.heap.size wr wb := by rw [hwb]; exact (Below.refl _ _).alloc (Nat.le_refl _) _
   have hSI := Lib.hid (show Calls Tryz.prog 98 #[.agg #[.bool neg, .slice ta types.length tc, .string ⟨var.toArray⟩, .int .i64 lo, .int .i64 hi]] wb _ from shapedItem_any ⟨⟨neg, types, var, lo, hi⟩, ta, tc⟩ wb ((HK.out.below HB2.out).below hbb) (hrs.below hbb) hbt)
   have HBB := Lib.hid (HBW.out.trans (hbb.mono HBW.out.size))
   clear hal hbw hno hst hy hrs hbt hbb
   go_wp2_with fail
   rw [← hwb]
   clear hwb e0 e1 e2 e3 e4
   refine (hSI.out).mono ?_
   rintro e w3 ⟨rfl, hb3⟩
   have HB3 := Lib.hid (HBB.out.trans (hb3.mono HBB.out.size))
   clear hb3
   cases hv : shapedIt (nameB kwsL) ⟨neg, types, var, lo, hi⟩ with
   | false =>
    have HNO := Lib.hid (show SQ = false by rw [HSH.out, HNOF.out hv]; simp)
    clear hv
    go_wp2_with fail
    go_ret
    exact ⟨by rw [HNO.out]; rfl, HB0.out.trans (HB3.out.mono HB0.out.size)⟩
   | true =>
    have HST := Lib.hid (HSTF.out hv)
    clear hv
    go_wp2_with fail
    go_roundw
    case rel => exact ⟨k + 1, HKS.out, by go_num, HST.out, HB3.out⟩
    case measure => exact HME.out
  ·have hk' : ¬ (k : Int) < n := by omega
   have HAT := Lib.hid (show items.all (fun y => shapedIt (nameB kwsL) y.i) = true by
    rw [List.take_of_length_le (by rw [← HN.out]; omega)] at hal
    exact hal)
   have d3 := (HE.out.below hbw).ci 3 rfl
   have d5 := (HE.out.below hbw).ci 5 rfl
   have d6 := (HE.out.below hbw).ci 6 rfl
   have hres : SQ = ((wher.isEmpty || treeB (nameB kwsL) wher) && (by_.isEmpty || nameB kwsL by_) && ret.all (fun y => treeB (nameB kwsL) y.t)) := by
    rw [HSH.out, HNE.out, HM0.out, HM1.out, HA0.out, HA1.out, HW0.out, HAT.out]; simp
   have HRES := Lib.hid hres
   have HE2 := Lib.hid (HE.out.below hbw)
   have hkw := HK.out.below HB2.out
   have hrn := HRN.out.below HB2.out
   clear hal hbw hres
   have hwh : ∃ bw : Bool, (wher.isEmpty || treeB (nameB kwsL) wher) = bw := ⟨_, rfl⟩
   have hby : ∃ bb : Bool, (by_.isEmpty || nameB kwsL by_) = bb := ⟨_, rfl⟩
   have HTAIL := Lib.hid (show (wher.isEmpty || treeB (nameB kwsL) wher) = true → (by_.isEmpty || nameB kwsL by_) = true → SQ = ret.all (fun y => treeB (nameB kwsL) y.t) from fun h1 h2 => by rw [HRES.out, h1, h2]; simp)
   have HW_NO := Lib.hid (show (wher.isEmpty || treeB (nameB kwsL) wher) = false → SQ = false from fun h1 => by rw [HRES.out, h1]; simp)
   have HB_NO := Lib.hid (show (by_.isEmpty || nameB kwsL by_) = false → SQ = false from fun h1 => by rw [HRES.out, h1]; simp)
   clear hwh hby
   by_cases hw : nw = 0
   ·have HWT := Lib.hid (show (wher.isEmpty || treeB (nameB kwsL) wher) = true by
     have : wher = [] := List.eq_nil_of_length_eq_zero (by rw [← HNW.out]; exact hw)
     rw [this]; rfl)
    subst hw
    by_cases hb : by_ = []
    ·have HSQ := Lib.hid (HTAIL.out HWT.out (by rw [hb]; rfl))
     have HBR := Lib.hid (Below.refl wr.heap.size wr)
     subst hb
     have hbR := HBR.out
     have e6 := (HE2.out.below hbR).ci 6 rfl
     clear hbR
     go_wp2_with fail
     go_loopw [71] (fun i wz => ∃ j : Nat, j ≤ nr ∧ i = .int .i64 (j : Int) ∧ (ret.take j).all (fun y => treeB (nameB kwsL) y.t) = true ∧ Below wr.heap.size wr wz) (fun i _ => nr - (intOf i).toNat)
     case atStart => exact ⟨0, Nat.zero_le _, rfl, by simp, HBR.out⟩
     case round =>
      obtain ⟨j, hjn, rfl, hal, hbz⟩ := hrel
      have HBZ := Lib.hid hbz
      have HAL2 := Lib.hid hal
      have HB5 := Lib.hid (HB2.out.trans (hbz.mono HB2.out.size))
      by_cases hlj : j < nr
      ·have hjl : j < ret.length := by rw [← HNR.out]; exact hlj
       obtain ⟨b, off, hav, e0⟩ := (HRR.out.below HB5.out).at j hjl
       have hrs := (HRR.out.below HB5.out).2 _ (List.getElem_mem hjl)
       have hlj' : (j : Int) < nr := by omega
       have hno := @all_noG Tr ret (fun y => treeB (nameB kwsL) y.t) j hjl
       have hst := fun h => all_stepG (p := fun y : Tr => treeB (nameB kwsL) y.t) hjl HAL2.out h
       have hbt := HBRT.out _ (List.getElem_mem hjl)
       obtain ⟨y, hy⟩ : ∃ y, y = ret[j] := ⟨_, rfl⟩
       rw [← hy] at e0 hno hst hrs hbt
       try dsimp only at hno hst
       obtain ⟨t, ta, tc⟩ := y
       dsimp only at e0 hrs hbt hno hst
       have HNOF := Lib.hid hno
       have HSTF := Lib.hid hst
       have HME := Lib.hid (meas_lt hlj)
       have HKS := Lib.hid (show j + 1 ≤ nr from hlj)
       obtain ⟨m, hm⟩ : ∃ m, m = t.length := ⟨_, rfl⟩
       rw [← hm] at e0 hbt
       have hTC := Lib.hid (tree_any ta tc m t _ hm.symm (by omega) (HK.out.below HB5.out) hrs)
       clear hal hbz hno hst hy hrs hm
       subst hav
       go_wp2_with fail
       refine (hTC.out).mono ?_
       rintro e w6 ⟨rfl, hb6⟩
       have HB6 := Lib.hid (HBZ.out.trans (hb6.mono HBZ.out.size))
       clear hb6 e0
       cases hv : treeB (nameB kwsL) t with
       | false =>
        have HNO := Lib.hid (show SQ = false by rw [HSQ.out, HNOF.out hv])
        clear hv
        go_wp2_with fail
        go_ret
        exact ⟨by rw [HNO.out]; rfl, HB2.out.trans (HB6.out.mono HB2.out.size)⟩
       | true =>
        have HST := Lib.hid (HSTF.out hv)
        clear hv
        go_wp2_with fail
        go_roundw
        case rel => exact ⟨j + 1, HKS.out, by go_num, HST.out, HB6.out⟩
        case measure => exact HME.out
      ·have hj' : ¬ (j : Int) < nr := by omega
       have HY := Lib.hid (show SQ = true by
        rw [List.take_of_length_le (by rw [← HNR.out]; omega)] at hal
        rw [HSQ.out]; exact hal)
       clear hal hbz
       go_wp2_with fail
       go_ret
       exact ⟨by rw [HY.out]; rfl, HB5.out⟩
    ·have hb' := (nil_facts by_ hb).1
     have HBE := Lib.hid (nil_facts by_ hb).2
     clear hb
     go_wp2_with fail
     refine (isName_any ⟨by_.toArray⟩ wr hkw).mono ?_
     rintro e w7 ⟨rfl, hb7⟩
     rw [sl_T]
     have HBR := Lib.hid ((Below.refl wr.heap.size wr).trans (hb7.mono (Below.refl wr.heap.size wr).size))
     clear hb7
     cases hv : nameB kwsL by_ with
     | false =>
      have HNO := Lib.hid (HB_NO.out (by rw [HBE.out, hv]; rfl))
      clear hv
      go_wp2_with fail
      go_ret
      exact ⟨by rw [HNO.out]; rfl, HB2.out.trans (HBR.out.mono HB2.out.size)⟩
     | true =>
      have HSQ := Lib.hid (HTAIL.out HWT.out (by rw [hv]; simp))
      clear hv
      have hbR := HBR.out
      have e6 := (HE2.out.below hbR).ci 6 rfl
      clear hbR
      go_wp2_with fail
      go_loopw [71] (fun i wz => ∃ j : Nat, j ≤ nr ∧ i = .int .i64 (j : Int) ∧ (ret.take j).all (fun y => treeB (nameB kwsL) y.t) = true ∧ Below wr.heap.size wr wz) (fun i _ => nr - (intOf i).toNat)
      case atStart => exact ⟨0, Nat.zero_le _, rfl, by simp, HBR.out⟩
      case round =>
       obtain ⟨j, hjn, rfl, hal, hbz⟩ := hrel
       have HBZ := Lib.hid hbz
       have HAL2 := Lib.hid hal
       have HB5 := Lib.hid (HB2.out.trans (hbz.mono HB2.out.size))
       by_cases hlj : j < nr
       ·have hjl : j < ret.length := by rw [← HNR.out]; exact hlj
        obtain ⟨b, off, hav, e0⟩ := (HRR.out.below HB5.out).at j hjl
        have hrs := (HRR.out.below HB5.out).2 _ (List.getElem_mem hjl)
        have hlj' : (j : Int) < nr := by omega
        have hno := @all_noG Tr ret (fun y => treeB (nameB kwsL) y.t) j hjl
        have hst := fun h => all_stepG (p := fun y : Tr => treeB (nameB kwsL) y.t) hjl HAL2.out h
        have hbt := HBRT.out _ (List.getElem_mem hjl)
        obtain ⟨y, hy⟩ : ∃ y, y = ret[j] := ⟨_, rfl⟩
        rw [← hy] at e0 hno hst hrs hbt
        try dsimp only at hno hst
        obtain ⟨t, ta, tc⟩ := y
        dsimp only at e0 hrs hbt hno hst
        have HNOF := Lib.hid hno
        have HSTF := Lib.hid hst
        have HME := Lib.hid (meas_lt hlj)
        have HKS := Lib.hid (show j + 1 ≤ nr from hlj)
        obtain ⟨m, hm⟩ : ∃ m, m = t.length := ⟨_, rfl⟩
        rw [← hm] at e0 hbt
        have hTC := Lib.hid (tree_any ta tc m t _ hm.symm (by omega) (HK.out.below HB5.out) hrs)
        clear hal hbz hno hst hy hrs hm
        subst hav
        go_wp2_with fail
        refine (hTC.out).mono ?_
        rintro e w6 ⟨rfl, hb6⟩
        have HB6 := Lib.hid (HBZ.out.trans (hb6.mono HBZ.out.size))
        clear hb6 e0
        cases hv : treeB (nameB kwsL) t with
        | false =>
         have HNO := Lib.hid (show SQ = false by rw [HSQ.out, HNOF.out hv])
         clear hv
         go_wp2_with fail
         go_ret
         exact ⟨by rw [HNO.out]; rfl, HB2.out.trans (HB6.out.mono HB2.out.size)⟩
        | true =>
         have HST := Lib.hid (HSTF.out hv)
         clear hv
         go_wp2_with fail
         go_roundw
         case rel => exact ⟨j + 1, HKS.out, by go_num, HST.out, HB6.out⟩
         case measure => exact HME.out
       ·have hj' : ¬ (j : Int) < nr := by omega
        have HY := Lib.hid (show SQ = true by
         rw [List.take_of_length_le (by rw [← HNR.out]; omega)] at hal
         rw [HSQ.out]; exact hal)
        clear hal hbz
        go_wp2_with fail
        go_ret
        exact ⟨by rw [HY.out]; rfl, HB5.out⟩
   ·have hw' : (0 : Int) < nw := by omega
    have HWE := Lib.hid (show wher.isEmpty = false by cases wher with | nil => exact absurd HNW.out hw | cons _ _ => rfl)
    clear hw
    go_wp2_with fail
    refine (tree_any wa wc nw wher wr HNW.out.symm (by omega) hkw hrn).mono ?_
    rintro e wt ⟨rfl, hbt⟩
    have HBT2 := Lib.hid hbt
    have t5 := (HE2.out.below hbt).ci 5 rfl
    have hkx := hkw.below hbt
    clear hbt
    cases hv : treeB (nameB kwsL) wher with
    | false =>
     have HNO := Lib.hid (HW_NO.out (by rw [HWE.out, hv]; rfl))
     clear hv
     go_wp2_with fail
     go_ret
     exact ⟨by rw [HNO.out]; rfl, HB2.out.trans (HBT2.out.mono HB2.out.size)⟩
    | true =>
     have HWT := Lib.hid (show (wher.isEmpty || treeB (nameB kwsL) wher) = true by rw [hv]; simp)
     clear hv
     by_cases hb : by_ = []
     ·have HSQ := Lib.hid (HTAIL.out HWT.out (by rw [hb]; rfl))
      have HBR := Lib.hid (HBT2.out)
      subst hb
      have hbR := HBR.out
      have e6 := (HE2.out.below hbR).ci 6 rfl
      clear hbR
      go_wp2_with fail
      go_loopw [71] (fun i wz => ∃ j : Nat, j ≤ nr ∧ i = .int .i64 (j : Int) ∧ (ret.take j).all (fun y => treeB (nameB kwsL) y.t) = true ∧ Below wr.heap.size wr wz) (fun i _ => nr - (intOf i).toNat)
      case atStart => exact ⟨0, Nat.zero_le _, rfl, by simp, HBR.out⟩
      case round =>
       obtain ⟨j, hjn, rfl, hal, hbz⟩ := hrel
       have HBZ := Lib.hid hbz
       have HAL2 := Lib.hid hal
       have HB5 := Lib.hid (HB2.out.trans (hbz.mono HB2.out.size))
       by_cases hlj : j < nr
       ·have hjl : j < ret.length := by rw [← HNR.out]; exact hlj
        obtain ⟨b, off, hav, e0⟩ := (HRR.out.below HB5.out).at j hjl
        have hrs := (HRR.out.below HB5.out).2 _ (List.getElem_mem hjl)
        have hlj' : (j : Int) < nr := by omega
        have hno := @all_noG Tr ret (fun y => treeB (nameB kwsL) y.t) j hjl
        have hst := fun h => all_stepG (p := fun y : Tr => treeB (nameB kwsL) y.t) hjl HAL2.out h
        have hbt := HBRT.out _ (List.getElem_mem hjl)
        obtain ⟨y, hy⟩ : ∃ y, y = ret[j] := ⟨_, rfl⟩
        rw [← hy] at e0 hno hst hrs hbt
        try dsimp only at hno hst
        obtain ⟨t, ta, tc⟩ := y
        dsimp only at e0 hrs hbt hno hst
        have HNOF := Lib.hid hno
        have HSTF := Lib.hid hst
        have HME := Lib.hid (meas_lt hlj)
        have HKS := Lib.hid (show j + 1 ≤ nr from hlj)
        obtain ⟨m, hm⟩ : ∃ m, m = t.length := ⟨_, rfl⟩
        rw [← hm] at e0 hbt
        have hTC := Lib.hid (tree_any ta tc m t _ hm.symm (by omega) (HK.out.below HB5.out) hrs)
        clear hal hbz hno hst hy hrs hm
        subst hav
        go_wp2_with fail
        refine (hTC.out).mono ?_
        rintro e w6 ⟨rfl, hb6⟩
        have HB6 := Lib.hid (HBZ.out.trans (hb6.mono HBZ.out.size))
        clear hb6 e0
        cases hv : treeB (nameB kwsL) t with
        | false =>
         have HNO := Lib.hid (show SQ = false by rw [HSQ.out, HNOF.out hv])
         clear hv
         go_wp2_with fail
         go_ret
         exact ⟨by rw [HNO.out]; rfl, HB2.out.trans (HB6.out.mono HB2.out.size)⟩
        | true =>
         have HST := Lib.hid (HSTF.out hv)
         clear hv
         go_wp2_with fail
         go_roundw
         case rel => exact ⟨j + 1, HKS.out, by go_num, HST.out, HB6.out⟩
         case measure => exact HME.out
       ·have hj' : ¬ (j : Int) < nr := by omega
        have HY := Lib.hid (show SQ = true by
         rw [List.take_of_length_le (by rw [← HNR.out]; omega)] at hal
         rw [HSQ.out]; exact hal)
        clear hal hbz
        go_wp2_with fail
        go_ret
        exact ⟨by rw [HY.out]; rfl, HB5.out⟩
     ·have hb' := (nil_facts by_ hb).1
      have HBE := Lib.hid (nil_facts by_ hb).2
      clear hb
      go_wp2_with fail
      refine (isName_any ⟨by_.toArray⟩ wt hkx).mono ?_
      rintro e w7 ⟨rfl, hb7⟩
      rw [sl_T]
      have HBR := Lib.hid ((HBT2.out).trans (hb7.mono (HBT2.out).size))
      clear hb7
      cases hv : nameB kwsL by_ with
      | false =>
       have HNO := Lib.hid (HB_NO.out (by rw [HBE.out, hv]; rfl))
       clear hv
       go_wp2_with fail
       go_ret
       exact ⟨by rw [HNO.out]; rfl, HB2.out.trans (HBR.out.mono HB2.out.size)⟩
      | true =>
       have HSQ := Lib.hid (HTAIL.out HWT.out (by rw [hv]; simp))
       clear hv
       have hbR := HBR.out
       have e6 := (HE2.out.below hbR).ci 6 rfl
       clear hbR
       go_wp2_with fail
       go_loopw [71] (fun i wz => ∃ j : Nat, j ≤ nr ∧ i = .int .i64 (j : Int) ∧ (ret.take j).all (fun y => treeB (nameB kwsL) y.t) = true ∧ Below wr.heap.size wr wz) (fun i _ => nr - (intOf i).toNat)
       case atStart => exact ⟨0, Nat.zero_le _, rfl, by simp, HBR.out⟩
       case round =>
        obtain ⟨j, hjn, rfl, hal, hbz⟩ := hrel
        have HBZ := Lib.hid hbz
        have HAL2 := Lib.hid hal
        have HB5 := Lib.hid (HB2.out.trans (hbz.mono HB2.out.size))
        by_cases hlj : j < nr
        ·have hjl : j < ret.length := by rw [← HNR.out]; exact hlj
         obtain ⟨b, off, hav, e0⟩ := (HRR.out.below HB5.out).at j hjl
         have hrs := (HRR.out.below HB5.out).2 _ (List.getElem_mem hjl)
         have hlj' : (j : Int) < nr := by omega
         have hno := @all_noG Tr ret (fun y => treeB (nameB kwsL) y.t) j hjl
         have hst := fun h => all_stepG (p := fun y : Tr => treeB (nameB kwsL) y.t) hjl HAL2.out h
         have hbt := HBRT.out _ (List.getElem_mem hjl)
         obtain ⟨y, hy⟩ : ∃ y, y = ret[j] := ⟨_, rfl⟩
         rw [← hy] at e0 hno hst hrs hbt
         try dsimp only at hno hst
         obtain ⟨t, ta, tc⟩ := y
         dsimp only at e0 hrs hbt hno hst
         have HNOF := Lib.hid hno
         have HSTF := Lib.hid hst
         have HME := Lib.hid (meas_lt hlj)
         have HKS := Lib.hid (show j + 1 ≤ nr from hlj)
         obtain ⟨m, hm⟩ : ∃ m, m = t.length := ⟨_, rfl⟩
         rw [← hm] at e0 hbt
         have hTC := Lib.hid (tree_any ta tc m t _ hm.symm (by omega) (HK.out.below HB5.out) hrs)
         clear hal hbz hno hst hy hrs hm
         subst hav
         go_wp2_with fail
         refine (hTC.out).mono ?_
         rintro e w6 ⟨rfl, hb6⟩
         have HB6 := Lib.hid (HBZ.out.trans (hb6.mono HBZ.out.size))
         clear hb6 e0
         cases hv : treeB (nameB kwsL) t with
         | false =>
          have HNO := Lib.hid (show SQ = false by rw [HSQ.out, HNOF.out hv])
          clear hv
          go_wp2_with fail
          go_ret
          exact ⟨by rw [HNO.out]; rfl, HB2.out.trans (HB6.out.mono HB2.out.size)⟩
         | true =>
          have HST := Lib.hid (HSTF.out hv)
          clear hv
          go_wp2_with fail
          go_roundw
          case rel => exact ⟨j + 1, HKS.out, by go_num, HST.out, HB6.out⟩
          case measure => exact HME.out
        ·have hj' : ¬ (j : Int) < nr := by omega
         have HY := Lib.hid (show SQ = true by
          rw [List.take_of_length_le (by rw [← HNR.out]; omega)] at hal
          rw [HSQ.out]; exact hal)
         clear hal hbz
         go_wp2_with fail
         go_ret
         exact ⟨by rw [HY.out]; rfl, HB5.out⟩
end Go.Proofs.YtfglgpbjjpoimaaGreatDoor
