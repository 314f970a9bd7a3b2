/- SaveEncodes: lists of texts and of definitions in memory; placeOf, TypeOf. -/
import Derived.Test.YtfglgpbjjpoimaaGreatDoorSwGC
set_option linter.unusedVariables false
namespace Go.Proofs.YtfglgpbjjpoimaaGreatDoor
open Go.RowKit Sv
/-- A definition. -/
structure Ty where
 name : Str
 attrs : List Str
/-- A definition in memory: where its attributes lie. -/
structure Tp where
 name : Str
 attrs : List Str
 a : Option Addr
 c : Nat
def Tp.ty (t : Tp) : Ty := ⟨t.name, t.attrs⟩
def tcells (l : List Tp) : List Value := l.flatMap fun t => [T t.name, .slice t.a t.attrs.length t.c]
def RdS (w : World) (a : Option Addr) (l : List Str) : Prop := Rd w a (l.map T)
def RdT (w : World) (a : Option Addr) (l : List Tp) : Prop := Rd w a (tcells l) ∧ ∀ t ∈ l, RdS w t.a t.attrs
theorem RdS.below {w w' : World} {a : Option Addr} {l : List Str} (h : RdS w a l) (hb : Below w.heap.size w w') : RdS w' a l := Rd.below h hb
theorem RdT.below {w w' : World} {a : Option Addr} {l : List Tp} (h : RdT w a l) (hb : Below w.heap.size w w') : RdT w' a l := ⟨h.1.below hb, fun t ht => (h.2 t ht).below hb⟩
theorem RdS.at {w : World} {a : Option Addr} {l : List Str} (h : RdS w a l) (i : Nat) (hi : i < l.length) :
  ∃ b off, a = some ⟨b, off, none⟩ ∧ w.cell? ⟨b, off + i, none⟩ = some (T l[i]) := by
 have g1 : (l.map T)[i]? = some (T l[i]) := by simp [hi]
 rcases h with h | ⟨b, off, rfl, hc⟩
 ·rw [h] at g1; cases g1
 ·exact ⟨b, off, rfl, hc _ _ g1⟩
/-- Cells of pieces of one size. -/
theorem flat_get {α : Type} (f : α → List Value) (n : Nat) (hf : ∀ x, (f x).length = n) : ∀ (l : List α) (i j : Nat) (hi : i < l.length) (hj : j < n), (l.flatMap f)[i * n + j]? = (f l[i])[j]? := by
 intro l
 induction l with
 | nil => intro i j hi; simp at hi
 | cons v l ih =>
  intro i j hi hj
  cases i with
  | zero => simp [List.getElem?_append_left, hf, hj]
  | succ i =>
   have h := ih i j (by simpa using hi) hj
   rw [List.flatMap_cons, List.getElem?_append_right (by rw [hf, Nat.succ_mul]; omega), hf, show (i + 1) * n + j - n = i * n + j by rw [Nat.succ_mul]; omega, h]
   simp
theorem Rd.piece {α : Type} {f : α → List Value} {n : Nat} (hf : ∀ x, (f x).length = n) {w : World} {a : Option Addr} {l : List α} (h : Rd w a (l.flatMap f)) (i : Nat) (hi : i < l.length) (hn : 0 < n) :
  ∃ b off, a = some ⟨b, off, none⟩ ∧ ∀ j (hj : j < n), w.cell? ⟨b, off + i * n + j, none⟩ = some ((f l[i])[j]'(by rw [hf]; exact hj)) := by
 have g1 : ∀ j (hj : j < n), (l.flatMap f)[i * n + j]? = some ((f l[i])[j]'(by rw [hf]; exact hj)) := fun j hj => by
  rw [flat_get f n hf l i j hi hj]
  exact List.getElem?_eq_getElem _
 rcases h with h | ⟨b, off, rfl, hc⟩
 ·have := g1 0 hn
  rw [h] at this; cases this
 ·exact ⟨b, off, rfl, fun j hj => by rw [Nat.add_assoc]; exact hc _ _ (g1 j hj)⟩
theorem RdT.at {w : World} {a : Option Addr} {l : List Tp} (h : RdT w a l) (i : Nat) (hi : i < l.length) :
  ∃ b off, a = some ⟨b, off, none⟩ ∧ w.cell? ⟨b, off + i * 2, none⟩ = some (T l[i].name) ∧ w.cell? ⟨b, off + i * 2 + 1, none⟩ = some (.slice l[i].a l[i].attrs.length l[i].c) := by
 obtain ⟨b, off, e, hc⟩ := Rd.piece (f := fun t : Tp => [T t.name, .slice t.a t.attrs.length t.c]) (n := 2) (fun _ => rfl) h.1 i hi (by omega)
 exact ⟨b, off, e, hc 0 (by omega), hc 1 (by omega)⟩
/-- The first place of a text in a list. -/
def Place (l : List Str) (s : Str) (r : Int) : Prop := (r = -1 ∧ s ∉ l) ∨ ∃ (k : Nat) (hk : k < l.length), r = k ∧ l[k] = s ∧ s ∉ l.take k
theorem Place.at {l : List Str} {s : Str} {r : Int} (h : Place l s r) (j : Nat) (hj : j < l.length) (hs : l[j] = s) : r = j ↔ s ∉ l.take j := by
 rcases h with ⟨rfl, hn⟩ | ⟨k, hk, rfl, hl, hn⟩
 ·exact absurd (hs ▸ List.getElem_mem hj) hn
 ·constructor
  ·intro h
   have : k = j := by omega
   subst this
   exact hn
  ·intro h
   rcases Nat.lt_trichotomy k j with h1 | h1 | h1
   ·exact absurd (by rw [← hl]; exact List.mem_take_iff_getElem.2 ⟨k, by omega, rfl⟩) h
   ·rw [h1]
   ·exact absurd (by rw [← hs]; exact List.mem_take_iff_getElem.2 ⟨j, by omega, rfl⟩) hn
theorem not_take {l : List Str} {s : Str} {k : Nat} (hk : k < l.length) (h : s ∉ l.take k) (hne : s ≠ l[k]) : s ∉ l.take (k + 1) := by
 rw [take_snoc l k hk]
 intro h1
 rcases List.mem_append.1 h1 with h2 | h2
 ·exact h h2
 ·exact hne (by simpa using h2)
set_option maxHeartbeats 1000000 in
theorem placeOf_any (a : Option Addr) (c n : Nat) (l : List Str) (s : Str) (w : World) (hn : l.length = n) (hN : n ≤ 1000000000) (h : RdS w a l) :
  Calls Tryz.prog 95 #[.slice a n c, T s] w fun e w' => ∃ r : Int, e = .returned (.int .i64 r) ∧ Place l s r ∧ w' = w := by
 have HN := Lib.hid hn
 rw [T]
 go_enter Tryz.func95, Tryz.ntmps95
 go_wp2_with fail
 go_loop [9] (fun i => ∃ k : Nat, k ≤ n ∧ i = .int .i64 (k : Int) ∧ s ∉ l.take k) (fun i => n - (intOf i).toNat)
 case atStart => exact ⟨0, Nat.zero_le _, rfl, by simp⟩
 case round =>
  obtain ⟨k, hk, rfl, hni⟩ := hrel
  by_cases hlt : k < n
  ·have hkl : k < l.length := by rw [hn]; exact hlt
   obtain ⟨b, off, rfl, hc⟩ := h.at k hkl
   have hlt' : (k : Int) < n := by omega
   obtain ⟨x, hx⟩ : ∃ x, x = l[k] := ⟨_, rfl⟩
   rw [← hx, T] at hc
   have HX := Lib.hid hx
   have HNI := Lib.hid hni
   have HK := Lib.hid hkl
   have HME := Lib.hid (meas_lt hlt)
   have HKS := Lib.hid (show k + 1 ≤ n from hlt)
   clear hx hni hn hk
   by_cases hq : x = s
   ·subst hq
    go_wp2_with fail
    go_ret
    exact ⟨k, rfl, .inr ⟨k, HK.out, rfl, HX.out.symm, HNI.out⟩, rfl⟩
   ·have hbe : (x == s) = false := by simpa using hq
    have HQ := Lib.hid hq
    clear hq
    go_wp2_with fail
    go_round
    case rel => exact ⟨k + 1, HKS.out, by go_num, not_take HK.out HNI.out (fun e => HQ.out (HX.out.trans e.symm))⟩
    case measure => exact HME.out
  ·have hke : k = n := by omega
   subst hke
   have hf : s ∉ l := by rw [List.take_of_length_le (by rw [hn]; exact Nat.le_refl _)] at hni; exact hni
   have HF := Lib.hid hf
   clear hf hni
   have hk' : ¬ (k : Int) < k := by omega
   go_wp2_with fail
   go_ret
   exact ⟨-1, rfl, .inl ⟨rfl, HF.out⟩, rfl⟩
set_option maxHeartbeats 1000000 in
theorem typeOf_any (a : Option Addr) (c n : Nat) (l : List Tp) (s : Str) (w : World) (hn : l.length = n) (hN : n ≤ 1000000000) (h : RdT w a l) :
  Calls Tryz.prog 94 #[.agg #[.slice a n c], T s] w fun e w' => ∃ r : Int, e = .returned (.int .i64 r) ∧ Place (l.map (·.name)) s r ∧ Below w.heap.size w w' := by
 have HN := Lib.hid hn
 rw [T]
 go_enter Tryz.func94, Tryz.ntmps94
 go_wp2_with fail
 go_loopw [10] (fun i wr => ∃ k : Nat, k ≤ n ∧ i = .int .i64 (k : Int) ∧ s ∉ (l.map (·.name)).take k ∧ Below w.heap.size w wr) (fun i _ => n - (intOf i).toNat)
 case atStart => exact ⟨0, Nat.zero_le _, rfl, by simp, (Below.refl _ _).alloc (Nat.le_refl _) _⟩
 case round =>
  obtain ⟨k, hk, rfl, hni, hbw⟩ := hrel
  by_cases hlt : k < n
  ·have hkl : k < l.length := by rw [hn]; exact hlt
   obtain ⟨b, off, rfl, hc, hc2⟩ := (h.below hbw).at k hkl
   have hlt' : (k : Int) < n := by omega
   have hkm : k < (l.map (·.name)).length := by simpa using hkl
   obtain ⟨x, hx⟩ : ∃ x, x = (l.map (·.name))[k] := ⟨_, rfl⟩
   have hx2 : l[k].name = x := by rw [hx]; simp
   obtain ⟨a2, ha2⟩ : ∃ v, v = l[k].a := ⟨_, rfl⟩
   obtain ⟨n2, hn2⟩ : ∃ v, v = l[k].attrs.length := ⟨_, rfl⟩
   obtain ⟨c2, hc3⟩ : ∃ v, v = l[k].c := ⟨_, rfl⟩
   rw [hx2, T] at hc
   rw [← ha2, ← hn2, ← hc3] at hc2
   have HX := Lib.hid hx
   have HNI := Lib.hid hni
   have HK := Lib.hid hkm
   have HB := Lib.hid hbw
   have HME := Lib.hid (meas_lt hlt)
   have HKS := Lib.hid (show k + 1 ≤ n from hlt)
   clear hx hni hn hk hx2 hbw ha2 hn2 hc3 hkl
   by_cases hq : x = s
   ·subst hq
    go_wp2_with fail
    go_ret
    exact ⟨k, rfl, .inr ⟨k, HK.out, rfl, HX.out.symm, HNI.out⟩, HB.out.alloc HB.out.size _⟩
   ·have hbe : (x == s) = false := by simpa using hq
    have HQ := Lib.hid hq
    clear hq
    go_wp2_with fail
    go_roundw
    case rel => exact ⟨k + 1, HKS.out, by go_num, not_take HK.out HNI.out (fun e => HQ.out (HX.out.trans e.symm)), HB.out.alloc HB.out.size _⟩
    case measure => exact HME.out
  ·have hke : k = n := by omega
   subst hke
   have hf : s ∉ l.map (·.name) := by rw [List.take_of_length_le (by simp [hn])] at hni; exact hni
   have HF := Lib.hid hf
   have HB := Lib.hid hbw
   clear hf hni hbw
   have hk' : ¬ (k : Int) < k := by omega
   go_wp2_with fail
   go_ret
   exact ⟨-1, rfl, .inl ⟨rfl, HF.out⟩, HB.out⟩
end Go.Proofs.YtfglgpbjjpoimaaGreatDoor
/- SaveEncodes: the program's CheckSchema. -/
set_option linter.unusedVariables false
namespace Go.Proofs.YtfglgpbjjpoimaaGreatDoor
open Go.RowKit Sv
theorem Blk.ci {w : World} {g : Nat} {t : TypeId} {cs : List Value} {v : Value} (h : Blk w g t cs) (i : Nat) (hv : cs[i]? = some v) : w.cell? ⟨g, i, none⟩ = some v := by
 obtain ⟨hi, rfl⟩ := List.getElem?_eq_some_iff.1 hv
 exact h.cell i hi
def AtOK (l : List Str) (j : Nat) (h : j < l.length) : Prop := nameB kwsL l[j] = true ∧ l[j] ≠ [116, 115] ∧ l[j] ∉ l.take j
def AtsOK (l : List Str) : Prop := l.length ≤ 8 ∧ ∀ j (h : j < l.length), AtOK l j h
def TyOK (l : List Ty) (i : Nat) (h : i < l.length) : Prop := nameB kwsL l[i].name = true ∧ l[i].name ∉ (l.map (·.name)).take i ∧ AtsOK l[i].attrs
def SchemaOK (l : List Ty) : Prop := (1 ≤ l.length ∧ l.length ≤ 16) ∧ ∀ i (h : i < l.length), TyOK l i h
def tys (l : List Tp) : List Ty := l.map Tp.ty
theorem tys_len (l : List Tp) : (tys l).length = l.length := by simp [tys]
theorem tys_get (l : List Tp) (i : Nat) (h : i < l.length) : (tys l)[i]'(by rw [tys_len]; exact h) = l[i].ty := by simp [tys]
theorem tys_name (l : List Tp) : (tys l).map (·.name) = l.map (·.name) := by simp [tys, Function.comp_def, Tp.ty]
def TpOK (l : List Tp) (i : Nat) (h : i < l.length) : Prop := nameB kwsL l[i].name = true ∧ l[i].name ∉ (l.map (·.name)).take i ∧ AtsOK l[i].attrs
theorem schema_iff (l : List Tp) : SchemaOK (tys l) ↔ (1 ≤ l.length ∧ l.length ≤ 16) ∧ ∀ i (h : i < l.length), TpOK l i h := by
 have hh : ∀ i (h : i < l.length), TyOK (tys l) i (by rw [tys_len]; exact h) ↔ TpOK l i h := fun i h => by
  unfold TyOK TpOK
  rw [tys_get, tys_name]
  rfl
 constructor
 ·exact fun h => ⟨by rw [← tys_len]; exact h.1, fun i hi => (hh i hi).1 (h.2 i _)⟩
 ·exact fun h => ⟨by rw [tys_len]; exact h.1, fun i hi => (hh i (by rw [← tys_len]; exact hi)).2 (h.2 i _)⟩
theorem no_name {l : List Tp} (i : Nat) (h : i < l.length) (hb : nameB kwsL l[i].name = false) : ¬ SchemaOK (tys l) := fun hs => by
 have := (((schema_iff l).1 hs).2 i h).1
 rw [hb] at this; cases this
theorem no_twice {l : List Tp} (i : Nat) (h : i < l.length) (hb : ¬ l[i].name ∉ (l.map (·.name)).take i) : ¬ SchemaOK (tys l) := fun hs => hb (((schema_iff l).1 hs).2 i h).2.1
theorem no_ats {l : List Tp} (i : Nat) (h : i < l.length) (hb : ¬ AtsOK l[i].attrs) : ¬ SchemaOK (tys l) := fun hs => hb (((schema_iff l).1 hs).2 i h).2.2
theorem no_at {l : List Str} (j : Nat) (h : j < l.length) (hb : ¬ AtOK l j h) : ¬ AtsOK l := fun hs => hb (hs.2 j h)
theorem code_no {c : Int} {p : Prop} (hc : c ≠ 0) (hp : ¬ p) : c = 0 ↔ p := ⟨fun h => absurd h hc, fun h => absurd h hp⟩
theorem code_yes {p : Prop} (hp : p) : (0 : Int) = 0 ↔ p := ⟨fun _ => hp, fun _ => rfl⟩
set_option maxHeartbeats 2000000 in
set_option maxRecDepth 20000 in
theorem checkSchema_any (a : Option Addr) (c n : Nat) (l : List Tp) (w : World) (hn : l.length = n) (hk : Kw w) (h : RdT w a l) :
    Calls Tryz.prog 56 #[.agg #[.slice a n c]] w fun e w' => ∃ r : Int, e = .returned (.int .i64 r) ∧ (r = 0 ↔ SchemaOK (tys l)) ∧ Below w.heap.size w w' := by
  by_cases h0 : n = 0
  · have hno : ¬ SchemaOK (tys l) := fun hs => by have := ((schema_iff l).1 hs).1; omega
    have HNO := Lib.hid hno
    subst h0
    clear hno hn
    go_enter Tryz.func56, Tryz.ntmps56
    go_wp2_with fail
    go_ret
    exact ⟨_, rfl, code_no (by decide) HNO.out, (Below.refl _ _).alloc (Nat.le_refl _) _⟩
  have h0' : ¬ (n : Int) = 0 := by omega
  by_cases h16 : 16 < n
  · have hno : ¬ SchemaOK (tys l) := fun hs => by have := ((schema_iff l).1 hs).1; omega
    have h16' : (16 : Int) < n := by omega
    have HNO := Lib.hid hno
    clear hno hn
    go_enter Tryz.func56, Tryz.ntmps56
    go_wp2_with fail
    go_ret
    exact ⟨_, rfl, code_no (by decide) HNO.out, (Below.refl _ _).alloc (Nat.le_refl _) _⟩
  have h16' : ¬ (16 : Int) < n := by omega
  have HN := Lib.hid hn
  have hn16 : n ≤ 16 := by omega
  have HN1 := Lib.hid (show 1 ≤ n by omega)
  have HK := Lib.hid hk
  have HR := Lib.hid h
  obtain ⟨w0, hw0⟩ : ∃ w0, w0 = w.alloc (.cells #[.slice a n c] 24) := ⟨_, rfl⟩
  have hb0 : Below w.heap.size w w0 := by rw [hw0]; exact (Below.refl _ _).alloc (Nat.le_refl _) _
  have hS0 : Blk w0 w.heap.size 24 [.slice a n c] := by rw [hw0]; exact Blk.new w _ 24
  have HB0 := Lib.hid hb0
  have HS0 := Lib.hid hS0
  have HZ := Lib.hid (show w.heap.size < w0.heap.size from hS0.lt)
  clear hb0 hk h hn h0 h16
  go_enter Tryz.func56, Tryz.ntmps56
  go_wp2_with fail
  rw [← hw0]
  obtain ⟨g, hg⟩ : ∃ g, g = w.heap.size := ⟨_, rfl⟩
  rw [← hg] at hS0 HS0 HZ ⊢
  clear hw0 hS0 hg
  go_loopw [20] (fun i wr => ∃ k : Nat, k ≤ n ∧ i = .int .i64 (k : Int) ∧ (∀ m (hm : m < l.length), m < k → TpOK l m hm) ∧ Below w.heap.size w wr ∧ Below w0.heap.size w0 wr) (fun i _ => n - (intOf i).toNat)
  case atStart => exact ⟨0, Nat.zero_le _, rfl, fun m _ h => absurd h (Nat.not_lt_zero m), HB0.out, Below.refl _ _⟩
  case round =>
    obtain ⟨k, hk, rfl, hal, hbw, hbw0⟩ := hrel
    by_cases hlt : k < n
    · have hkl : k < l.length := by rw [HN.out]; exact hlt
      obtain ⟨b, off, hav, hc, hc2⟩ := (HR.out.below hbw).at k hkl
      have hts : RdS wr l[k].a l[k].attrs := (HR.out.below hbw).2 _ (List.getElem_mem hkl)
      have hlt' : (k : Int) < n := by omega
      have hmem : (l.map (·.name))[k]'(by simpa using hkl) = l[k].name := by simp
      have hnm := @no_name l k hkl
      have htw := @no_twice l k hkl
      have hat := @no_ats l k hkl
      have htp : (nameB kwsL l[k].name = true ∧ l[k].name ∉ (l.map (·.name)).take k ∧ AtsOK l[k].attrs) → TpOK l k hkl := fun h => h
      obtain ⟨nm, hnm'⟩ : ∃ v, v = l[k].name := ⟨_, rfl⟩
      obtain ⟨at_, hat'⟩ : ∃ v, v = l[k].attrs := ⟨_, rfl⟩
      obtain ⟨a2, ha2⟩ : ∃ v, v = l[k].a := ⟨_, rfl⟩
      obtain ⟨c2, hc3⟩ : ∃ v, v = l[k].c := ⟨_, rfl⟩
      rw [← hnm'] at hc hmem hnm htw htp
      rw [← ha2, ← hat', ← hc3] at hc2
      rw [← ha2, ← hat'] at hts
      rw [← hat'] at hat htp
      obtain ⟨n2, hn2⟩ : ∃ v, v = at_.length := ⟨_, rfl⟩
      rw [← hn2] at hc2
      clear hnm' hat' ha2 hc3
      have HNM := Lib.hid hnm
      have HTW := Lib.hid htw
      have HAT := Lib.hid hat
      have HTP := Lib.hid htp
      have HMEM := Lib.hid hmem
      have HAL := Lib.hid hal
      have HN2 := Lib.hid hn2
      have HTS := Lib.hid hts
      have HKL := Lib.hid hkl
      have HME := Lib.hid (meas_lt hlt)
      have HKS := Lib.hid (show k + 1 ≤ n from hlt)
      rw [T] at hc
      obtain ⟨wa, hwa⟩ : ∃ wa, wa = wr.alloc (.cells #[.string ⟨nm.toArray⟩, .slice a2 n2 c2] 58) := ⟨_, rfl⟩
      have hka : Blk wa wr.heap.size 58 [.string ⟨nm.toArray⟩, .slice a2 n2 c2] := by rw [hwa]; exact Blk.new wr _ 58
      have hra : Below wr.heap.size wr wa := by rw [hwa]; exact (Below.refl _ _).alloc (Nat.le_refl _) _
      have hba : Below w.heap.size w wa := hbw.trans (hra.mono hbw.size)
      have hba0 : Below w0.heap.size w0 wa := hbw0.trans (hra.mono hbw0.size)
      have HBR := Lib.hid hra
      have hkwa : Kw wa := HK.out.below hba
      have hsa : Blk wa g 24 [.slice a n c] := HS0.out.below hba0
      rw [hav]
      clear hnm htw hat htp hmem hal hn2 hts hk hbw hbw0
      go_wp2_with fail
      rw [← hwa]
      obtain ⟨ga, hga⟩ : ∃ ga, ga = wr.heap.size := ⟨_, rfl⟩
      rw [← hga] at hka ⊢
      clear hwa hga hc hc2 hra
      have HKA := Lib.hid hka
      have HSA := Lib.hid hsa
      have HBA := Lib.hid hba
      have HBA0 := Lib.hid hba0
      clear hka hsa hba hba0
      refine (isName_any ⟨nm.toArray⟩ wa hkwa).mono ?_
      rintro e w1 ⟨rfl, hb1⟩
      rw [sl_T]
      clear hkwa
      have hs1 := ((HSA.out.below hb1).ci 0 rfl)
      have hk10 := ((HKA.out.below hb1).ci 0 rfl)
      have hk11 := ((HKA.out.below hb1).ci 1 rfl)
      cases hnb : nameB kwsL nm with
      | false =>
        have HNO := Lib.hid (HNM.out hnb)
        have HFB := Lib.hid (HBA.out.trans (hb1.mono HBA.out.size))
        clear hb1 hnb
        go_wp2_with fail
        go_ret
        exact ⟨_, rfl, code_no (by decide) HNO.out, HFB.out⟩
      | true =>
        have HNB := Lib.hid hnb
        have HB1 := Lib.hid hb1
        have hr1 := HR.out.below (HBA.out.trans (hb1.mono HBA.out.size))
        clear hnb hb1
        go_wp2_with fail
        rw [hav] at hr1
        refine (typeOf_any _ c n l nm w1 HN.out (by omega) hr1).mono ?_
        rintro e w2 ⟨r, rfl, hpl, hb2⟩
        have hiff := hpl.at k (by simpa using HKL.out) HMEM.out
        have hB12 := HB1.out.trans (hb2.mono HB1.out.size)
        have hk20 := ((HKA.out.below hB12).ci 0 rfl)
        have hk21 := ((HKA.out.below hB12).ci 1 rfl)
        have HB12 := Lib.hid hB12
        clear hpl hb2 hr1 hs1 hk10 hk11 hB12
        by_cases hr : r = (k : Int)
        · subst hr
          have HNT := Lib.hid (hiff.1 rfl)
          clear hiff
          by_cases h8 : 8 < n2
          · have h8' : (8 : Int) < n2 := by omega
            have HNO := Lib.hid (HAT.out fun h => by have := h.1; rw [← HN2.out] at this; omega)
            have HFB := Lib.hid (HBA.out.trans (HB12.out.mono HBA.out.size))
            go_wp2_with fail
            go_ret
            exact ⟨_, rfl, code_no (by decide) HNO.out, HFB.out⟩
          · have h8' : ¬ (8 : Int) < n2 := by omega
            have hn8 : n2 ≤ 8 := by omega
            go_wp2_with fail
            go_loopw [45] (fun i wi => ∃ j : Nat, j ≤ n2 ∧ i = .int .i64 (j : Int) ∧ (∀ m (hm : m < at_.length), m < j → AtOK at_ m hm) ∧ Below wa.heap.size wa wi) (fun i _ => n2 - (intOf i).toNat)
            case atStart => exact ⟨0, Nat.zero_le _, rfl, fun m _ h => absurd h (Nat.not_lt_zero m), HB12.out⟩
            case round =>
              obtain ⟨j, hj, rfl, hal, hbw⟩ := hrel
              have HAL2 := Lib.hid hal
              by_cases hlj : j < n2
              · have hjl : j < at_.length := by rw [← HN2.out]; exact hlj
                have hbx := HBR.out.trans (hbw.mono HBR.out.size)
                obtain ⟨b2, off2, hav2, hd⟩ := (HTS.out.below hbx).at j hjl
                have hlj' : (j : Int) < n2 := by omega
                have hno := no_at j hjl
                have hyes : (nameB kwsL at_[j] = true ∧ at_[j] ≠ [116, 115] ∧ at_[j] ∉ at_.take j) → AtOK at_ j hjl := fun h => h
                have hany : ¬ (nameB kwsL at_[j] = true ∧ at_[j] ≠ [116, 115] ∧ at_[j] ∉ at_.take j) → ¬ AtOK at_ j hjl := fun h => h
                have HJE := Lib.hid (rfl : at_[j] = at_[j])
                obtain ⟨x, hx⟩ : ∃ v, v = at_[j] := ⟨_, rfl⟩
                have HX := Lib.hid hx
                rw [← hx] at hd hyes hany
                rw [T] at hd
                have hrx : RdS wr a2 at_ := HTS.out.below hbx
                have hkx : Kw wr := HK.out.below (HBA.out.trans (hbw.mono HBA.out.size))
                have hk30 := ((HKA.out.below hbw).ci 0 rfl)
                have hk31 := ((HKA.out.below hbw).ci 1 rfl)
                have HYES := Lib.hid hyes
                have HNO := Lib.hid hno
                have HANY := Lib.hid hany
                have HB3 := Lib.hid hbw
                have HJL := Lib.hid hjl
                have HRX := Lib.hid hrx
                have HME2 := Lib.hid (meas_lt hlj)
                have HKS2 := Lib.hid (show j + 1 ≤ n2 from hlj)
                clear hyes hno hany hbw hal hbx hrx hx hk20 hk21 hav
                subst hav2
                go_wp2_with fail
                refine (isName_any ⟨x.toArray⟩ wr hkx).mono ?_
                rintro e w3 ⟨rfl, hb3⟩
                rw [sl_T]
                clear hkx hk30 hk31
                have hB3 := HB3.out.trans (hb3.mono HB3.out.size)
                have hk40 := ((HKA.out.below hB3).ci 0 rfl)
                have hk41 := ((HKA.out.below hB3).ci 1 rfl)
                have hr3 := HRX.out.below hb3
                have HB4 := Lib.hid hB3
                clear hb3 hB3
                cases hnb2 : nameB kwsL x with
                | false =>
                  have HNO2 := Lib.hid (HAT.out (HNO.out (HANY.out fun h => by have := h.1; rw [hnb2] at this; cases this)))
                  have HFB := Lib.hid (HBA.out.trans (HB4.out.mono HBA.out.size))
                  clear hnb2 hr3
                  go_wp2_with fail
                  go_ret
                  exact ⟨_, rfl, code_no (by decide) HNO2.out, HFB.out⟩
                | true =>
                  have HNB2 := Lib.hid hnb2
                  clear hnb2
                  by_cases hts : x = [116, 115]
                  · have HNO2 := Lib.hid (HAT.out (HNO.out (HANY.out fun h => h.2.1 hts)))
                    have HFB := Lib.hid (HBA.out.trans (HB4.out.mono HBA.out.size))
                    subst hts
                    clear hr3
                    go_wp2_with fail
                    go_ret
                    exact ⟨_, rfl, code_no (by decide) HNO2.out, HFB.out⟩
                  · have hts' : (x == [116, 115]) = false := by simpa using hts
                    have HTS2 := Lib.hid hts
                    clear hts
                    go_wp2_with fail
                    refine (placeOf_any _ c2 n2 at_ x w3 HN2.out.symm (by omega) hr3).mono ?_
                    rintro e w4 ⟨r, rfl, hpl, rfl⟩
                    have hiff := hpl.at j HJL.out HX.out.symm
                    clear hpl hr3
                    by_cases hr : r = (j : Int)
                    · subst hr
                      have HNT := Lib.hid (hiff.1 rfl)
                      clear hiff
                      go_wp2_with fail
                      go_roundw
                      case rel => exact ⟨j + 1, HKS2.out, by go_num, fun m hm hlt => (by
                        rcases Nat.lt_or_ge m j with h | h
                        · exact HAL2.out m hm h
                        · have : m = j := by omega
                          subst this
                          exact HYES.out ⟨HNB2.out, HTS2.out, HNT.out⟩), HB4.out⟩
                      case measure => exact HME2.out
                    · have HNO2 := Lib.hid (HAT.out (HNO.out (HANY.out fun h => hr (hiff.2 h.2.2))))
                      have HFB := Lib.hid (HBA.out.trans (HB4.out.mono HBA.out.size))
                      have hr' : (r == (j : Int)) = false := by simpa using hr
                      clear hiff hr
                      go_wp2_with fail
                      go_ret
                      exact ⟨_, rfl, code_no (by decide) HNO2.out, HFB.out⟩
              · have hje : j = n2 := by omega
                subst hje
                have HAO := Lib.hid (show AtsOK at_ from ⟨by rw [← HN2.out]; exact hn8, fun m hm => hal m hm (by rw [HN2.out]; exact hm)⟩)
                have HB5 := Lib.hid hbw
                clear hal hbw
                have hj' : ¬ (j : Int) < j := by omega
                go_wp2_with fail
                go_roundw
                case rel => exact ⟨k + 1, HKS.out, by go_num, fun m hm hlt => (by
                        rcases Nat.lt_or_ge m k with h | h
                        · exact HAL.out m hm h
                        · have : m = k := by omega
                          subst this
                          exact HTP.out ⟨HNB.out, HNT.out, HAO.out⟩), HBA.out.trans (HB5.out.mono HBA.out.size), HBA0.out.trans (HB5.out.mono HBA0.out.size)⟩
                case measure => exact HME.out
        · have HNO := Lib.hid (HTW.out fun h => hr (hiff.2 h))
          have HFB := Lib.hid (HBA.out.trans (HB12.out.mono HBA.out.size))
          have hr' : (r == (k : Int)) = false := by simpa using hr
          clear hiff hr
          go_wp2_with fail
          go_ret
          exact ⟨_, rfl, code_no (by decide) HNO.out, HFB.out⟩
    · have hke : k = n := by omega
      subst hke
      have hyes : SchemaOK (tys l) := (schema_iff l).2 ⟨⟨by rw [HN.out]; exact HN1.out, by rw [HN.out]; exact hn16⟩, fun i hi => hal i hi (by rw [← HN.out]; exact hi)⟩
      have HY := Lib.hid hyes
      have HB := Lib.hid hbw
      clear hal hyes hbw hbw0
      have hk' : ¬ (k : Int) < k := by omega
      go_wp2_with fail
      go_ret
      exact ⟨_, rfl, code_yes HY.out, HB.out⟩
end Go.Proofs.YtfglgpbjjpoimaaGreatDoor
/- SaveEncodes: the reference's in, checkType, CheckSchema. -/
set_option linter.unusedVariables false
namespace Go.Proofs.YtfglgpbjjpoimaaGreatDoor
open Go.RowKit Sv
theorem info9 : (Tryz.prog.info? 9).map (fun i => (i.zero, i.size, i.bytes)) = some (some (.string ⟨#[]⟩), 1, 16) := by kernel_rfl
def hasB (l : List Str) (s : Str) : Bool := l.contains s
theorem contains_take {l : List Str} {s : Str} (k : Nat) (hk : k < l.length) (h : l[k] = s) : hasB l s = true := by
 rw [hasB, List.contains_iff_mem, ← h]; exact List.getElem_mem hk
theorem contains_not {l : List Str} {s : Str} (h : s ∉ l) : hasB l s = false := by
 unfold hasB
 cases hc : l.contains s with
 | false => rfl
 | true => exact absurd (List.contains_iff_mem.1 hc) h
set_option maxHeartbeats 1000000 in
theorem in_any (a : Option Addr) (c n : Nat) (l : List Str) (s : Str) (w : World) (hn : l.length = n) (hN : n ≤ 1000000000) (h : RdS w a l) :
  Calls Tryz.prog 105 #[.slice a n c, T s] w fun e w' => e = .returned (.bool (hasB l s)) ∧ w' = w := by
 have HN := Lib.hid hn
 rw [T]
 go_enter Tryz.func105, Tryz.ntmps105
 go_wp2_with fail
 go_loop [5] (fun i => ∃ k : Nat, k ≤ n ∧ i = .int .i64 (k : Int) ∧ s ∉ l.take k) (fun i => n - (intOf i).toNat)
 case atStart => exact ⟨0, Nat.zero_le _, rfl, by simp⟩
 case round =>
  obtain ⟨k, hk, rfl, hni⟩ := hrel
  by_cases hlt : k < n
  ·have hkl : k < l.length := by rw [hn]; exact hlt
   obtain ⟨b, off, rfl, hc⟩ := h.at k hkl
   have hlt' : (k : Int) < n := by omega
   obtain ⟨x, hx⟩ : ∃ x, x = l[k] := ⟨_, rfl⟩
   rw [← hx, T] at hc
   have HX := Lib.hid hx
   have HNI := Lib.hid hni
   have HK := Lib.hid hkl
   have HME := Lib.hid (meas_lt hlt)
   have HKS := Lib.hid (show k + 1 ≤ n from hlt)
   clear hx hni hn hk
   by_cases hq : x = s
   ·subst hq
    have HC := Lib.hid (contains_take k HK.out HX.out.symm)
    go_wp2_with fail
    go_ret
    exact ⟨by rw [HC.out]; rfl, rfl⟩
   ·have hbe : (x == s) = false := by simpa using hq
    have HQ := Lib.hid hq
    clear hq
    go_wp2_with fail
    go_round
    case rel => exact ⟨k + 1, HKS.out, by go_num, not_take HK.out HNI.out (fun e => HQ.out (HX.out.trans e.symm))⟩
    case measure => exact HME.out
  ·have hke : k = n := by omega
   subst hke
   have hf : s ∉ l := by rw [List.take_of_length_le (by rw [hn]; exact Nat.le_refl _)] at hni; exact hni
   have HC := Lib.hid (contains_not hf)
   clear hf hni
   have hk' : ¬ (k : Int) < k := by omega
   go_wp2_with fail
   go_ret
   exact ⟨by rw [HC.out]; rfl, rfl⟩
set_option maxHeartbeats 2000000 in
set_option maxRecDepth 20000 in
theorem checkType_any (a : Option Addr) (c n : Nat) (l : List Tp) (i : Nat) (hi : i < l.length) (w : World) (hn : l.length = n) (hk : Kw w) (h : RdT w a l) (hN : n ≤ 1000000000) :
  Calls Tryz.prog 83 #[.agg #[.slice a n c], .int .i64 (i : Int)] w fun e w' => ∃ r : Int, e = .returned (.int .i64 r) ∧ (r = 0 ↔ TpOK l i hi) ∧ Below w.heap.size w w' := by
 have hb00 : Below w.heap.size w (w.alloc (.cells #[.slice a n c] 24)) := (Below.refl _ _).alloc (Nat.le_refl _) _
 obtain ⟨b, off, rfl, hc, hc2⟩ := (h.below hb00).at i hi
 have hts : RdS w l[i].a l[i].attrs := h.2 _ (List.getElem_mem hi)
 have hin : (i : Int) < n := by omega
 have hnm : nameB kwsL l[i].name = false → ¬ TpOK l i hi := fun h h2 => by have := h2.1; rw [h] at this; cases this
 have htw : ¬ l[i].name ∉ (l.map (·.name)).take i → ¬ TpOK l i hi := fun h h2 => h h2.2.1
 have hat : ¬ AtsOK l[i].attrs → ¬ TpOK l i hi := fun h h2 => h h2.2.2
 have htp : (nameB kwsL l[i].name = true ∧ l[i].name ∉ (l.map (·.name)).take i ∧ AtsOK l[i].attrs) → TpOK l i hi := fun h => h
 obtain ⟨nm, hnm'⟩ : ∃ v, v = l[i].name := ⟨_, rfl⟩
 obtain ⟨at_, hat'⟩ : ∃ v, v = l[i].attrs := ⟨_, rfl⟩
 obtain ⟨a2, ha2⟩ : ∃ v, v = l[i].a := ⟨_, rfl⟩
 obtain ⟨c2, hc3⟩ : ∃ v, v = l[i].c := ⟨_, rfl⟩
 rw [← hnm'] at hc hnm htw htp
 rw [← ha2, ← hat', ← hc3] at hc2
 rw [← ha2, ← hat'] at hts
 rw [← hat'] at hat htp
 obtain ⟨n2, hn2⟩ : ∃ v, v = at_.length := ⟨_, rfl⟩
 rw [← hn2] at hc2
 have HNMX := Lib.hid hnm'
 clear hnm' hat' ha2 hc3
 have HNM := Lib.hid hnm
 have HTW := Lib.hid htw
 have HAT := Lib.hid hat
 have HTP := Lib.hid htp
 have HN2 := Lib.hid hn2
 have HTS := Lib.hid hts
 have HI := Lib.hid hi
 have HN := Lib.hid hn
 have HK := Lib.hid hk
 have HR := Lib.hid h
 rw [T] at hc
 obtain ⟨w0, hw0⟩ : ∃ w0, w0 = w.alloc (.cells #[.slice (some ⟨b, off, none⟩) n c] 24) := ⟨_, rfl⟩
 obtain ⟨w1, hw1⟩ : ∃ w1, w1 = w0.alloc (.cells #[.string ⟨nm.toArray⟩, .slice a2 n2 c2] 58) := ⟨_, rfl⟩
 have hb0 : Below w.heap.size w w0 := by rw [hw0]; exact (Below.refl _ _).alloc (Nat.le_refl _) _
 have hS0 : Blk w0 w.heap.size 24 [.slice (some ⟨b, off, none⟩) n c] := by rw [hw0]; exact Blk.new w _ 24
 have hb1 : Below w0.heap.size w0 w1 := by rw [hw1]; exact (Below.refl _ _).alloc (Nat.le_refl _) _
 have hS1 : Blk w1 w.heap.size 24 [.slice (some ⟨b, off, none⟩) n c] := hS0.below hb1
 have hz0 : w0.heap.size = w.heap.size + 1 := by rw [hw0]; simp
 have hT1 : Blk w1 (w.heap.size + 1) 58 [.string ⟨nm.toArray⟩, .slice a2 n2 c2] := by rw [hw1, ← hz0]; exact Blk.new w0 _ 58
 have hB1 : Below w.heap.size w w1 := hb0.trans (hb1.mono hb0.size)
 have HS1 := Lib.hid hS1
 have HT1 := Lib.hid hT1
 have HB1 := Lib.hid hB1
 clear hnm htw hat htp hn2 hts hk h hn hb00
 go_enter Tryz.func83, Tryz.ntmps83
 go_wp2_with fail
 rw [← hw0, ← hw1]
 have hkw1 : Kw w1 := HK.out.below hB1
 clear hw1 hw0 hb0 hb1 hS0 hc hc2 hS1 hT1 hB1 hz0
 have hsz : w1.heap.size = w1.heap.size := rfl
 obtain ⟨base, hbase⟩ : ∃ B, B = w1.heap.size := ⟨_, rfl⟩
 refine (rIsName_any ⟨nm.toArray⟩ w1 hkw1).mono ?_
 rintro e w2 ⟨rfl, hb2⟩
 rw [sl_T]
 have hk10 := (HT1.out.below hb2).ci 0 rfl
 have HB2 := Lib.hid hb2
 clear hkw1 hb2 hsz
 cases hnb : nameB kwsL nm with
 | false =>
  have HNO := Lib.hid (HNM.out hnb)
  have HFB := Lib.hid (HB1.out.trans (HB2.out.mono HB1.out.size))
  clear hnb
  go_wp2_with fail
  go_ret
  exact ⟨_, rfl, code_no (by decide) HNO.out, HFB.out⟩
 | true =>
 have HNB := Lib.hid hnb
 clear hnb
 go_wp2_with fail
 go_loopw [6] (fun u wr => ∃ k : Nat, k ≤ i ∧ u = .int .i64 (k : Int) ∧ nm ∉ (l.map (·.name)).take k ∧ Below w1.heap.size w1 wr) (fun u _ => i - (intOf u).toNat)
 case atStart => exact ⟨0, Nat.zero_le _, rfl, by simp, HB2.out⟩
 case round =>
  obtain ⟨k, hk, rfl, hni, hbw⟩ := hrel
  have HBW := Lib.hid hbw
  have HNI := Lib.hid hni
  by_cases hlt : k < i
  ·have hlt' : (k : Int) < i := by omega
   have hkl : k < l.length := by have := HI.out; omega
   have hkm : k < (l.map (·.name)).length := by simpa using hkl
   obtain ⟨b', off', he, hd, hd2⟩ := (HR.out.below (HB1.out.trans (hbw.mono HB1.out.size))).at k hkl
   cases he
   have hsc := (HS1.out.below hbw).ci 0 rfl
   have htc := (HT1.out.below hbw).ci 0 rfl
   obtain ⟨x, hx⟩ : ∃ x, x = (l.map (·.name))[k] := ⟨_, rfl⟩
   have hx2 : l[k].name = x := by rw [hx]; simp
   rw [hx2, T] at hd
   have HX := Lib.hid hx
   have HKM := Lib.hid hkm
   have HME := Lib.hid (meas_lt hlt)
   have HKS := Lib.hid (show k + 1 ≤ i from hlt)
   have hkn : (k : Int) < n := by omega
   have hk0 : (0 : Int) ≤ k := by omega
   clear hx hx2 hd2 hbw hni hkl
   by_cases hq : x = nm
   ·subst hq
    have HNO := Lib.hid (HTW.out fun h => h (by rw [HX.out]; exact List.mem_take_iff_getElem.2 ⟨k, by rw [Nat.lt_min]; exact ⟨hlt, hkm⟩, rfl⟩))
    have HFB := Lib.hid (HB1.out.trans (HBW.out.mono HB1.out.size))
    go_wp2_with fail
    go_region_held3 (fun W => W.cell? ⟨w.heap.size, 0, none⟩ = some (.slice (some ⟨b, off, none⟩) n c) ∧ W.cell? ⟨b, off + k * 2, none⟩ = some (.string ⟨x.toArray⟩) ∧ W.cell? ⟨w.heap.size + 1, 0, none⟩ = some (.string ⟨x.toArray⟩)) (first | exact ⟨hsc, hd, htc⟩ | (refine ⟨?_, ?_, ?_⟩ <;> assumption)) (fail)
    all_goals (
     go_wp2_with fail
     go_ret
     exact ⟨_, rfl, code_no (by decide) HNO.out, HFB.out.drew⟩)
   ·have hbe : (x == nm) = false := by simpa using hq
    have HQ := Lib.hid hq
    clear hq
    go_wp2_with fail
    go_region_held3 (fun W => W.cell? ⟨w.heap.size, 0, none⟩ = some (.slice (some ⟨b, off, none⟩) n c) ∧ W.cell? ⟨b, off + k * 2, none⟩ = some (.string ⟨x.toArray⟩) ∧ W.cell? ⟨w.heap.size + 1, 0, none⟩ = some (.string ⟨nm.toArray⟩)) (first | exact ⟨hsc, hd, htc⟩ | (refine ⟨?_, ?_, ?_⟩ <;> assumption)) (fail)
    all_goals (
     go_wp2_with fail
     go_roundw
     case rel => exact ⟨k + 1, HKS.out, by go_num, not_take HKM.out HNI.out (fun e => HQ.out (HX.out.trans e.symm)), HBW.out.drew⟩
     case measure => exact HME.out)
  ·have hke : k = i := by omega
   subst hke
   have HNT := Lib.hid hni
   have hk' : ¬ (k : Int) < k := by omega
   have htc := (HT1.out.below hbw).ci 1 rfl
   clear hni hbw
   by_cases h8 : 8 < n2
   ·have h8' : (8 : Int) < n2 := by omega
    have HNO := Lib.hid (HAT.out fun h => by have := h.1; rw [← HN2.out] at this; omega)
    have HFB := Lib.hid (HB1.out.trans (HBW.out.mono HB1.out.size))
    go_wp2_with fail
    go_ret
    exact ⟨_, rfl, code_no (by decide) HNO.out, HFB.out⟩
   ·have h8' : ¬ (8 : Int) < n2 := by omega
    have hn8 : n2 ≤ 8 := by omega
    obtain ⟨i0, hi9, hz9, hs9, hy9⟩ := info_parts info9
    have hi0 := Lib.hid hi9
    have hz0 := Lib.hid hz9
    have hs0 := Lib.hid hs9
    have hy0 := Lib.hid hy9
    clear hi9 hz9 hs9 hy9
    go_wp2_with fail
    go_loopw [8, 7] (fun u v wr => ∃ (j : Nat) (a' : Option Addr) (c' : Nat), j ≤ n2 ∧ u = .int .i64 (j : Int) ∧ v = .slice a' j c' ∧ wr.ownsRow w1.heap.size 9 1 (.slice a' j c') j ((at_.take j).map T) ∧ (∀ m (hm : m < at_.length), m < j → AtOK at_ m hm) ∧ Below w1.heap.size w1 wr) (fun u _ _ => n2 - (intOf u).toNat)
    case atStart => exact ⟨0, none, 0, Nat.zero_le _, rfl, rfl, by simpa using World.ownsRow_nil _ _ _ _, fun m _ h => absurd h (Nat.not_lt_zero m), HBW.out⟩
    case round =>
     obtain ⟨j, a', c', hj, rfl, rfl, hown, hal, hbw⟩ := hrel
     have HAL2 := Lib.hid hal
     have HBY := Lib.hid hbw
     have htc0 := (HT1.out.below hbw).ci 0 rfl
     have htc1 := (HT1.out.below hbw).ci 1 rfl
     by_cases hlj : j < n2
     ·have hjl : j < at_.length := by rw [← HN2.out]; exact hlj
      have hrx : RdS wr a2 at_ := HTS.out.below (HB1.out.trans (hbw.mono HB1.out.size))
      obtain ⟨b2, off2, hav2, hd⟩ := hrx.at j hjl
      have hlj' : (j : Int) < n2 := by omega
      have hno := no_at j hjl
      have hyes : (nameB kwsL at_[j] = true ∧ at_[j] ≠ [116, 115] ∧ at_[j] ∉ at_.take j) → AtOK at_ j hjl := fun h => h
      have hany : ¬ (nameB kwsL at_[j] = true ∧ at_[j] ≠ [116, 115] ∧ at_[j] ∉ at_.take j) → ¬ AtOK at_ j hjl := fun h => h
      have hsn := take_snoc at_ j hjl
      obtain ⟨x, hx⟩ : ∃ v, v = at_[j] := ⟨_, rfl⟩
      rw [← hx] at hd hyes hany hsn
      rw [T] at hd
      have hkx : Kw wr := HK.out.below (HB1.out.trans (hbw.mono HB1.out.size))
      have HYES := Lib.hid hyes
      have HNO := Lib.hid hno
      have HANY := Lib.hid hany
      have HSN := Lib.hid hsn
      have HOWN := Lib.hid hown
      have HME2 := Lib.hid (meas_lt hlj)
      have HKS2 := Lib.hid (show j + 1 ≤ n2 from hlj)
      have hdR := Lib.hid hd
      clear hyes hno hany hbw hal hx hsn hown hrx
      subst hav2
      go_wp2_with fail
      refine (rIsName_any ⟨x.toArray⟩ wr hkx).mono ?_
      rintro e w3 ⟨rfl, hb3⟩
      rw [sl_T]
      clear hkx
      have hB3 := HBY.out.trans (hb3.mono HBY.out.size)
      have hk40 := ((HT1.out.below hB3).ci 0 rfl)
      have hk41 := ((HT1.out.below hB3).ci 1 rfl)
      have hrx := (HTS.out.below (HB1.out.trans (hB3.mono HB1.out.size)))
      have hd3 : w3.cell? ⟨b2, off2 + j, none⟩ = some (.string ⟨x.toArray⟩) := by
       rw [hb3.cell (World.block_lt_of_cell? wr _ hd)]
       exact hd
      have hown3 := ownsRow_below HOWN.out hb3
      have HB4 := Lib.hid hB3
      clear hb3 hB3 hd htc0 htc1
      cases hnb2 : nameB kwsL x with
      | false =>
       have HNO2 := Lib.hid (HAT.out (HNO.out (HANY.out fun h => by have := h.1; rw [hnb2] at this; cases this)))
       have HFB := Lib.hid (HB1.out.trans (HB4.out.mono HB1.out.size))
       clear hnb2
       go_wp2_with fail
       go_ret
       exact ⟨_, rfl, code_no (by decide) HNO2.out, HFB.out⟩
      | true =>
       have HNB2 := Lib.hid hnb2
       clear hnb2
       by_cases hts : x = [116, 115]
       ·have HNO2 := Lib.hid (HAT.out (HNO.out (HANY.out fun h => h.2.1 hts)))
        have HFB := Lib.hid (HB1.out.trans (HB4.out.mono HB1.out.size))
        subst hts
        go_wp2_with fail
        go_ret
        exact ⟨_, rfl, code_no (by decide) HNO2.out, HFB.out⟩
       ·have hts' : (x == [116, 115]) = false := by simpa using hts
        have HTS2 := Lib.hid hts
        clear hts
        go_wp2_with fail
        refine (in_any a' c' j (at_.take j) x w3 (by rw [List.length_take, ← HN2.out]; omega) (by omega) (ownsRow_rd hown3)).mono ?_
        rintro e w4 ⟨rfl, rfl⟩
        cases hhb : hasB (at_.take j) x with
        | true =>
         have HNO2 := Lib.hid (HAT.out (HNO.out (HANY.out fun h => h.2.2 (List.contains_iff_mem.1 hhb))))
         have HFB := Lib.hid (HB1.out.trans (HB4.out.mono HB1.out.size))
         clear hhb
         go_wp2_with fail
         go_ret
         exact ⟨_, rfl, code_no (by decide) HNO2.out, HFB.out⟩
        | false =>
         have HNT2 := Lib.hid (show x ∉ at_.take j from fun h => by rw [hasB, List.contains_iff_mem.2 h] at hhb; cases hhb)
         have hbs := HB4.out.size
         clear hhb hrx
         go_wp2_with (first | (at_builtin; refine wpList_append_one w4 rfl _ _ 56 rfl w1.heap.size 9 i0 _ 1 16 Tryz.underlying56 hi0.out hz0.out hs0.out hy0.out rfl (by decide) (.slice a' j c') j ((at_.take j).map T) #[.string ⟨x.toArray⟩] rfl hown3 rfl rfl (by intro z hz; simp at hz; subst hz; rfl) (by unfold maxLen; omega) (by omega) hbs ?_; intro a3 c3 w5 ho3 hb5 hm5) | fail)
         go_roundw
         case rel => exact ⟨j + 1, a3, c3, HKS2.out, by go_num, rfl, by rw [HSN.out, List.map_append]; exact ho3, fun m hm hlt => (by
          rcases Nat.lt_or_ge m j with h | h
          ·exact HAL2.out m hm h
          ·have : m = j := by omega
           subst this
           exact HYES.out ⟨HNB2.out, HTS2.out, HNT2.out⟩), HB4.out.trans hb5⟩
         case measure => exact HME2.out
     ·have hje : j = n2 := by omega
      subst hje
      have HAO := Lib.hid (show AtsOK at_ from ⟨by rw [← HN2.out]; exact hn8, fun m hm => hal m hm (by rw [HN2.out]; exact hm)⟩)
      have HFB := Lib.hid (HB1.out.trans (HBY.out.mono HB1.out.size))
      clear hal hbw hown
      have hj' : ¬ (j : Int) < j := by omega
      go_wp2_with fail
      go_ret
      exact ⟨_, rfl, code_yes (HTP.out ⟨HNB.out, HNT.out, HAO.out⟩), HFB.out⟩
end Go.Proofs.YtfglgpbjjpoimaaGreatDoor
/- SaveEncodes: the reference's CheckSchema; both CheckEvents. -/
set_option linter.unusedVariables false
namespace Go.Proofs.YtfglgpbjjpoimaaGreatDoor
open Go.RowKit Sv
set_option maxHeartbeats 1000000 in
theorem rCheckSchema_any (a : Option Addr) (c n : Nat) (l : List Tp) (w : World) (hn : l.length = n) (hk : Kw w) (h : RdT w a l) :
  Calls Tryz.prog 40 #[.agg #[.slice a n c]] w fun e w' => ∃ r : Int, e = .returned (.int .i64 r) ∧ (r = 0 ↔ SchemaOK (tys l)) ∧ Below w.heap.size w w' := by
 by_cases h0 : n = 0
 ·have hno : ¬ SchemaOK (tys l) := fun hs => by have := ((schema_iff l).1 hs).1; omega
  have HNO := Lib.hid hno
  subst h0
  clear hno hn
  go_enter Tryz.func40, Tryz.ntmps40
  go_wp2_with fail
  go_ret
  exact ⟨_, rfl, code_no (by decide) HNO.out, (Below.refl _ _).alloc (Nat.le_refl _) _⟩
 have h0' : ¬ (n : Int) < 1 := by omega
 by_cases h16 : 16 < n
 ·have hno : ¬ SchemaOK (tys l) := fun hs => by have := ((schema_iff l).1 hs).1; omega
  have h16' : (16 : Int) < n := by omega
  have HNO := Lib.hid hno
  clear hno hn
  go_enter Tryz.func40, Tryz.ntmps40
  go_wp2_with fail
  go_ret
  exact ⟨_, rfl, code_no (by decide) HNO.out, (Below.refl _ _).alloc (Nat.le_refl _) _⟩
 have h16' : ¬ (16 : Int) < n := by omega
 have HN := Lib.hid hn
 have hn16 : n ≤ 16 := by omega
 have HN1 := Lib.hid (show 1 ≤ n by omega)
 have HK := Lib.hid hk
 have HR := Lib.hid h
 obtain ⟨w0, hw0⟩ : ∃ w0, w0 = w.alloc (.cells #[.slice a n c] 24) := ⟨_, rfl⟩
 have hb0 : Below w.heap.size w w0 := by rw [hw0]; exact (Below.refl _ _).alloc (Nat.le_refl _) _
 have hS0 : Blk w0 w.heap.size 24 [.slice a n c] := by rw [hw0]; exact Blk.new w _ 24
 have HB0 := Lib.hid hb0
 have HS0 := Lib.hid hS0
 clear hb0 hk h hn h0 h16
 go_enter Tryz.func40, Tryz.ntmps40
 go_wp2_with fail
 rw [← hw0]
 clear hw0 hS0
 go_loopw [3] (fun i wr => ∃ k : Nat, k ≤ n ∧ i = .int .i64 (k : Int) ∧ (∀ m (hm : m < l.length), m < k → TpOK l m hm) ∧ Below w0.heap.size w0 wr) (fun i _ => n - (intOf i).toNat)
 case atStart => exact ⟨0, Nat.zero_le _, rfl, fun m _ h => absurd h (Nat.not_lt_zero m), Below.refl _ _⟩
 case round =>
  obtain ⟨k, hk, rfl, hal, hbw0⟩ := hrel
  have hbw := HB0.out.trans (hbw0.mono HB0.out.size)
  have hsc := (HS0.out.below hbw0).ci 0 rfl
  by_cases hlt : k < n
  ·have hkl : k < l.length := by rw [HN.out]; exact hlt
   have hlt' : (k : Int) < n := by omega
   have hkw := HK.out.below hbw
   have hrw := HR.out.below hbw
   have HAL := Lib.hid hal
   have HME := Lib.hid (meas_lt hlt)
   have HKS := Lib.hid (show k + 1 ≤ n from hlt)
   have HBW := Lib.hid hbw
   have HBW0 := Lib.hid hbw0
   clear hal hbw hbw0 hlt hk
   go_wp2_with fail
   refine (checkType_any a c n l k hkl wr HN.out hkw hrw (by omega)).mono ?_
   rintro e w2 ⟨r, rfl, hiff, hb2⟩
   have HFB := Lib.hid (HBW.out.trans (hb2.mono HBW.out.size))
   have HFB0 := Lib.hid (HBW0.out.trans (hb2.mono HBW0.out.size))
   clear hkw hrw hsc hb2
   by_cases hr : r = 0
   ·subst hr
    have HT := Lib.hid (hiff.1 rfl)
    clear hiff
    go_wp2_with fail
    go_roundw
    case rel => exact ⟨k + 1, HKS.out, by go_num, fun m hm hlt => (by
     rcases Nat.lt_or_ge m k with h | h
     ·exact HAL.out m hm h
     ·have : m = k := by omega
      subst this
      exact HT.out), HFB0.out⟩
    case measure => exact HME.out
   ·have HNO := Lib.hid (show ¬ SchemaOK (tys l) from fun hs => hr (hiff.2 (((schema_iff l).1 hs).2 k hkl)))
    have hr' : (r == 0) = false := by simpa using hr
    have HR0 := Lib.hid hr
    clear hiff hr
    go_wp2_with fail
    go_ret
    exact ⟨_, rfl, code_no HR0.out HNO.out, HFB.out⟩
  ·have hke : k = n := by omega
   subst hke
   have hyes : SchemaOK (tys l) := (schema_iff l).2 ⟨⟨by rw [HN.out]; exact HN1.out, by rw [HN.out]; exact hn16⟩, fun i hi => hal i hi (by rw [← HN.out]; exact hi)⟩
   have HY := Lib.hid hyes
   have HB := Lib.hid hbw
   clear hal hyes hbw hbw0
   have hk' : ¬ (k : Int) < k := by omega
   go_wp2_with fail
   go_ret
   exact ⟨_, rfl, code_yes HY.out, HB.out⟩
/-- An event. -/
structure Ev where
 ts : Int
 id : Int
 typ : Int
 at_ : List Int
def evc (e : Ev) : List Value := [.int .i64 e.ts, .int .u64 e.id, .int .i64 e.typ] ++ e.at_.map Z
def EvOK (L : List Ty) (e : Ev) : Prop := SchemaOK L ∧ (0 ≤ e.typ ∧ e.typ.toNat < L.length) ∧ (∀ j, (L.getD e.typ.toNat ⟨[], []⟩).attrs.length ≤ j → j < 8 → e.at_.getD j 0 = 0) ∧ (-1152921504606846976 ≤ e.ts ∧ e.ts ≤ 1152921504606846976)
theorem evc_at (e : Ev) (i : Nat) (hi : i < e.at_.length) : (evc e)[3 + i]? = some (.int .i64 (e.at_.getD i 0)) := by
 unfold evc
 rw [List.getElem?_append_right (by simp), List.getElem?_map]
 simp [hi, Z, List.getD_eq_getElem?_getD]
set_option maxHeartbeats 1000000 in
theorem checkEvent_any (a : Option Addr) (c n : Nat) (l : List Tp) (e : Ev) (w : World) (hn : l.length = n) (hk : Kw w) (h : RdT w a l) (h8 : e.at_.length = 8) :
  Calls Tryz.prog 69 #[.agg #[.slice a n c], .agg (evc e).toArray] w fun e' w' => ∃ r : Int, e' = .returned (.int .i64 r) ∧ (r = 0 ↔ EvOK (tys l) e) ∧ Below w.heap.size w w' := by
 obtain ⟨ts, id, typ, at_⟩ := e
 obtain ⟨a0, a1, a2, a3, a4, a5, a6, a7, rfl⟩ : ∃ a0 a1 a2 a3 a4 a5 a6 a7, at_ = [a0, a1, a2, a3, a4, a5, a6, a7] := by
  match at_, h8 with
  | [a0, a1, a2, a3, a4, a5, a6, a7], _ => exact ⟨_, _, _, _, _, _, _, _, rfl⟩
 have HN := Lib.hid hn
 have HK := Lib.hid hk
 have HR := Lib.hid h
 obtain ⟨w0, hw0⟩ : ∃ w0, w0 = w.alloc (.cells #[.slice a n c] 24) := ⟨_, rfl⟩
 obtain ⟨w1, hw1⟩ : ∃ w1, w1 = w0.alloc (.cells #[.int .i64 ts, .int .u64 id, .int .i64 typ, .int .i64 a0, .int .i64 a1, .int .i64 a2, .int .i64 a3, .int .i64 a4, .int .i64 a5, .int .i64 a6, .int .i64 a7] 108) := ⟨_, rfl⟩
 simp only [evc, List.map_cons, List.map_nil, Z, List.cons_append, List.nil_append]
 go_enter Tryz.func69, Tryz.ntmps69
 go_wp2_with fail
 have hb0 : Below w.heap.size w w0 := by rw [hw0]; exact (Below.refl _ _).alloc (Nat.le_refl _) _
 have hS0 : Blk w0 w.heap.size 24 [.slice a n c] := by rw [hw0]; exact Blk.new w _ 24
 have hb1 : Below w0.heap.size w0 w1 := by rw [hw1]; exact (Below.refl _ _).alloc (Nat.le_refl _) _
 have hS1 : Blk w1 w.heap.size 24 [.slice a n c] := hS0.below hb1
 have hz0 : w0.heap.size = w.heap.size + 1 := by rw [hw0]; simp
 have hE1 : Blk w1 (w.heap.size + 1) 108 [.int .i64 ts, .int .u64 id, .int .i64 typ, .int .i64 a0, .int .i64 a1, .int .i64 a2, .int .i64 a3, .int .i64 a4, .int .i64 a5, .int .i64 a6, .int .i64 a7] := by rw [hw1, ← hz0]; exact Blk.new w0 _ 108
 have hB1 : Below w.heap.size w w1 := hb0.trans (hb1.mono hb0.size)
 have HS1 := Lib.hid hS1
 have HE1 := Lib.hid hE1
 have HB1 := Lib.hid hB1
 rw [← hw0, ← hw1]
 have hkw1 := hk.below hB1
 have hrw1 := h.below hB1
 clear hw0 hw1 hb0 hS0 hb1 hS1 hz0 hE1 hB1 hk h
 refine (checkSchema_any a c n l w1 hn hkw1 hrw1).mono ?_
 rintro e w2 ⟨r, rfl, hiff, hb2⟩
 have hs := (HS1.out.below hb2).ci 0 rfl
 have he0 := (HE1.out.below hb2).ci 0 rfl
 have he2 := (HE1.out.below hb2).ci 2 rfl
 have hB2 := HB1.out.trans (hb2.mono HB1.out.size)
 have HB2 := Lib.hid hB2
 have hE2 := HE1.out.below hb2
 have HE2 := Lib.hid hE2
 have hrw2 := HR.out.below hB2
 clear hb2 hkw1 hrw1 hn hB2 hE2
 by_cases hr : r = 0
 ·subst hr
  have hok := hiff.1 rfl
  have hsi := (schema_iff l).1 hok
  have HOK := Lib.hid hok
  have hn16 : n ≤ 16 := by have := hsi.1.2; rw [HN.out] at this; exact this
  clear hok hiff
  by_cases ht0 : typ < 0
  ·have HNO := Lib.hid (show ¬ EvOK (tys l) ⟨ts, id, typ, [a0, a1, a2, a3, a4, a5, a6, a7]⟩ from fun h => by have : 0 ≤ typ := h.2.1.1; omega)
   clear hsi hrw2
   go_wp2_with fail
   go_ret
   exact ⟨_, rfl, code_no (by decide) HNO.out, HB2.out⟩
  ·obtain ⟨t, rfl⟩ : ∃ t : Nat, typ = t := ⟨typ.toNat, by omega⟩
   have ht0' : ¬ (t : Int) < 0 := by omega
   by_cases htn : t < n
   ·have htl : t < l.length := by rw [HN.out]; exact htn
    have htn' : ¬ (n : Int) ≤ t := by omega
    have htn2 : (t : Int) < n := by omega
    have htn3 : (0 : Int) ≤ t := by omega
    obtain ⟨b, off, rfl, hc, hc2⟩ := hrw2.at t htl
    have hm8 : l[t].attrs.length ≤ 8 := (hsi.2 t htl).2.2.1
    have hget : ((tys l).getD t ⟨[], []⟩).attrs = l[t].attrs := by
     rw [List.getD_eq_getElem?_getD, List.getElem?_eq_getElem (by rw [tys_len]; exact htl), Option.getD_some, tys_get l t htl]; rfl
    have hev : EvOK (tys l) ⟨ts, id, t, [a0, a1, a2, a3, a4, a5, a6, a7]⟩ ↔ (∀ j, l[t].attrs.length ≤ j → j < 8 → [a0, a1, a2, a3, a4, a5, a6, a7].getD j 0 = 0) ∧ (-1152921504606846976 ≤ ts ∧ ts ≤ 1152921504606846976) := by
     unfold EvOK
     dsimp only
     rw [Int.toNat_natCast, hget, tys_len]
     exact ⟨fun h => ⟨h.2.2.1, h.2.2.2⟩, fun h => ⟨HOK.out, ⟨by omega, htl⟩, h.1, h.2⟩⟩
    obtain ⟨m, hm⟩ : ∃ m, m = l[t].attrs.length := ⟨_, rfl⟩
    obtain ⟨a2', ha2⟩ : ∃ m, m = l[t].a := ⟨_, rfl⟩
    obtain ⟨c2', hcc2⟩ : ∃ m, m = l[t].c := ⟨_, rfl⟩
    rw [← hm] at hm8 hev hc2
    rw [← ha2, ← hcc2] at hc2
    have HEV := Lib.hid hev
    clear hsi hrw2 hc hm ha2 hcc2 hget hev htl
    have hm8' : (m : Int) ≤ 8 := by omega
    by_cases hm' : m = 8
    ·subst hm'
     have HALL := Lib.hid (show ∀ j, 8 ≤ j → j < 8 → [a0, a1, a2, a3, a4, a5, a6, a7].getD j 0 = 0 from fun j h1 h2 => by omega)
     go_wp2_with fail
     go_loop [35] (fun i => i = .int .i64 0) (fun _ => 0)
     case atStart => rfl
     case round =>
      subst hrel
      go_wp2_with fail
      all_goals (first
       | (go_ret; exact ⟨_, rfl, code_no (by decide) (fun h => by have h1 := (HEV.out.1 h).2; omega), HB2.out⟩)
       | (go_ret; exact ⟨_, rfl, code_yes (HEV.out.2 ⟨HALL.out, by omega⟩), HB2.out⟩))
    ·have hmlt : m < 8 := by omega
     obtain ⟨K, hK⟩ : ∃ K, K = 8 - m := ⟨_, rfl⟩
     have hne : ¬ 8 = m := by omega
     go_wp2_with fail
     rw [← hK]
     go_loop [35] (fun i => ∃ j : Nat, j ≤ K ∧ i = .int .i64 (j : Int) ∧ ∀ x, m ≤ x → x < m + j → [a0, a1, a2, a3, a4, a5, a6, a7].getD x 0 = 0) (fun i => K - (intOf i).toNat)
     case atStart => exact ⟨0, Nat.zero_le _, rfl, fun x h1 h2 => by omega⟩
     case round =>
      obtain ⟨j, hj, rfl, hall⟩ := hrel
      by_cases hlt : j < K
      ·have hlt' : (j : Int) < K := by omega
       have hcell : w2.cell? ⟨w.heap.size + 1, 3 + m + j, none⟩ = some (.int .i64 ([a0, a1, a2, a3, a4, a5, a6, a7].getD (m + j) 0)) := by
        rw [Nat.add_assoc]
        exact HE2.out.ci (3 + (m + j)) (evc_at ⟨ts, id, t, [a0, a1, a2, a3, a4, a5, a6, a7]⟩ (m + j) (by show m + j < 8; omega))
       obtain ⟨q, hq⟩ : ∃ q, q = [a0, a1, a2, a3, a4, a5, a6, a7].getD (m + j) 0 := ⟨_, rfl⟩
       rw [← hq] at hcell
       have HQ := Lib.hid hq
       have HALL := Lib.hid hall
       have HK2 := Lib.hid hK
       have HME := Lib.hid (meas_lt hlt)
       have HKS := Lib.hid (show j + 1 ≤ K from hlt)
       have hK8 : K ≤ 8 := by omega
       clear hall hq hK
       by_cases h0 : q = 0
       ·subst h0
        go_wp2_with fail
        go_round
        case rel => exact ⟨j + 1, HKS.out, by go_num, fun x h1 h2 => by
         rcases Nat.lt_or_ge x (m + j) with h | h
         ·exact HALL.out x h1 h
         ·have : x = m + j := by omega
          rw [this]; exact HQ.out.symm⟩
        case measure => exact HME.out
       ·have h0' : (q == 0) = false := by simpa using h0
        have HNO := Lib.hid (show ¬ EvOK (tys l) ⟨ts, id, t, [a0, a1, a2, a3, a4, a5, a6, a7]⟩ from fun h => h0 (HQ.out.trans ((HEV.out.1 h).1 (m + j) (by omega) (by have := HK2.out; omega))))
        clear h0
        go_wp2_with fail
        go_ret
        exact ⟨_, rfl, code_no (by decide) HNO.out, HB2.out⟩
      ·have hje : j = K := by omega
       have HALL := Lib.hid (show ∀ j, m ≤ j → j < 8 → [a0, a1, a2, a3, a4, a5, a6, a7].getD j 0 = 0 from fun x h1 h2 => hall x h1 (by omega))
       have hlt' : ¬ (j : Int) < K := by omega
       clear hall hK hje
       go_wp2_with fail
       all_goals (first
        | (go_ret; exact ⟨_, rfl, code_no (by decide) (fun h => by have h1 := (HEV.out.1 h).2; omega), HB2.out⟩)
        | (go_ret; exact ⟨_, rfl, code_yes (HEV.out.2 ⟨HALL.out, by omega⟩), HB2.out⟩))
   ·have HNO := Lib.hid (show ¬ EvOK (tys l) ⟨ts, id, t, [a0, a1, a2, a3, a4, a5, a6, a7]⟩ from fun h => by have h1 := h.2.1.2; rw [tys_len, HN.out] at h1; dsimp only at h1; omega)
    have htn' : (n : Int) ≤ t := by omega
    clear hsi hrw2
    go_wp2_with fail
    go_ret
    exact ⟨_, rfl, code_no (by decide) HNO.out, HB2.out⟩
 ·have HNO := Lib.hid (show ¬ EvOK (tys l) ⟨ts, id, typ, [a0, a1, a2, a3, a4, a5, a6, a7]⟩ from fun h => hr (hiff.2 h.1))
  have hr' : (r == 0) = false := by simpa using hr
  have HR0 := Lib.hid hr
  clear hiff hr hrw2
  go_wp2_with fail
  go_ret
  exact ⟨_, rfl, code_no HR0.out HNO.out, HB2.out⟩
end Go.Proofs.YtfglgpbjjpoimaaGreatDoor
/- SaveEncodes: the reference's CheckEvent. -/
set_option linter.unusedVariables false
namespace Go.Proofs.YtfglgpbjjpoimaaGreatDoor
open Go.RowKit Sv
set_option maxHeartbeats 1000000 in
theorem rCheckEvent_any (a : Option Addr) (c n : Nat) (l : List Tp) (e : Ev) (w : World) (hn : l.length = n) (hk : Kw w) (h : RdT w a l) (h8 : e.at_.length = 8) :
  Calls Tryz.prog 90 #[.agg #[.slice a n c], .agg (evc e).toArray] w fun e' w' => ∃ r : Int, e' = .returned (.int .i64 r) ∧ (r = 0 ↔ EvOK (tys l) e) ∧ Below w.heap.size w w' := by
 obtain ⟨ts, id, typ, at_⟩ := e
 obtain ⟨a0, a1, a2, a3, a4, a5, a6, a7, rfl⟩ : ∃ a0 a1 a2 a3 a4 a5 a6 a7, at_ = [a0, a1, a2, a3, a4, a5, a6, a7] := by
  match at_, h8 with
  | [a0, a1, a2, a3, a4, a5, a6, a7], _ => exact ⟨_, _, _, _, _, _, _, _, rfl⟩
 have HN := Lib.hid hn
 have HK := Lib.hid hk
 have HR := Lib.hid h
 obtain ⟨w0, hw0⟩ : ∃ w0, w0 = w.alloc (.cells #[.slice a n c] 24) := ⟨_, rfl⟩
 obtain ⟨w1, hw1⟩ : ∃ w1, w1 = w0.alloc (.cells #[.int .i64 ts, .int .u64 id, .int .i64 typ, .int .i64 a0, .int .i64 a1, .int .i64 a2, .int .i64 a3, .int .i64 a4, .int .i64 a5, .int .i64 a6, .int .i64 a7] 108) := ⟨_, rfl⟩
 simp only [evc, List.map_cons, List.map_nil, Z, List.cons_append, List.nil_append]
 go_enter Tryz.func90, Tryz.ntmps90
 go_wp2_with fail
 have hb0 : Below w.heap.size w w0 := by rw [hw0]; exact (Below.refl _ _).alloc (Nat.le_refl _) _
 have hS0 : Blk w0 w.heap.size 24 [.slice a n c] := by rw [hw0]; exact Blk.new w _ 24
 have hb1 : Below w0.heap.size w0 w1 := by rw [hw1]; exact (Below.refl _ _).alloc (Nat.le_refl _) _
 have hS1 : Blk w1 w.heap.size 24 [.slice a n c] := hS0.below hb1
 have hz0 : w0.heap.size = w.heap.size + 1 := by rw [hw0]; simp
 have hE1 : Blk w1 (w.heap.size + 1) 108 [.int .i64 ts, .int .u64 id, .int .i64 typ, .int .i64 a0, .int .i64 a1, .int .i64 a2, .int .i64 a3, .int .i64 a4, .int .i64 a5, .int .i64 a6, .int .i64 a7] := by rw [hw1, ← hz0]; exact Blk.new w0 _ 108
 have hB1 : Below w.heap.size w w1 := hb0.trans (hb1.mono hb0.size)
 have HS1 := Lib.hid hS1
 have HE1 := Lib.hid hE1
 have HB1 := Lib.hid hB1
 rw [← hw0, ← hw1]
 have hkw1 := hk.below hB1
 have hrw1 := h.below hB1
 clear hw0 hw1 hb0 hS0 hb1 hS1 hz0 hE1 hB1 hk h
 refine (rCheckSchema_any a c n l w1 hn hkw1 hrw1).mono ?_
 rintro e w2 ⟨r, rfl, hiff, hb2⟩
 have hs := (HS1.out.below hb2).ci 0 rfl
 have he0 := (HE1.out.below hb2).ci 0 rfl
 have he2 := (HE1.out.below hb2).ci 2 rfl
 have hB2 := HB1.out.trans (hb2.mono HB1.out.size)
 have HB2 := Lib.hid hB2
 have hE2 := HE1.out.below hb2
 have HE2 := Lib.hid hE2
 have hrw2 := HR.out.below hB2
 clear hb2 hkw1 hrw1 hn hB2 hE2
 by_cases hr : r = 0
 ·subst hr
  have hok := hiff.1 rfl
  have hsi := (schema_iff l).1 hok
  have HOK := Lib.hid hok
  have hn16 : n ≤ 16 := by have := hsi.1.2; rw [HN.out] at this; exact this
  clear hok hiff
  by_cases ht0 : typ < 0
  ·have HNO := Lib.hid (show ¬ EvOK (tys l) ⟨ts, id, typ, [a0, a1, a2, a3, a4, a5, a6, a7]⟩ from fun h => by have : 0 ≤ typ := h.2.1.1; omega)
   clear hsi hrw2
   go_wp2_with fail
   go_ret
   exact ⟨_, rfl, code_no (by decide) HNO.out, HB2.out⟩
  ·obtain ⟨t, rfl⟩ : ∃ t : Nat, typ = t := ⟨typ.toNat, by omega⟩
   have ht0' : ¬ (t : Int) < 0 := by omega
   by_cases htn : t < n
   ·have htl : t < l.length := by rw [HN.out]; exact htn
    have htn' : ¬ (n : Int) ≤ t := by omega
    have htn2 : (t : Int) < n := by omega
    have htn3 : (0 : Int) ≤ t := by omega
    obtain ⟨b, off, rfl, hc, hc2⟩ := hrw2.at t htl
    have hm8 : l[t].attrs.length ≤ 8 := (hsi.2 t htl).2.2.1
    have hget : ((tys l).getD t ⟨[], []⟩).attrs = l[t].attrs := by
     rw [List.getD_eq_getElem?_getD, List.getElem?_eq_getElem (by rw [tys_len]; exact htl), Option.getD_some, tys_get l t htl]; rfl
    have hev : EvOK (tys l) ⟨ts, id, t, [a0, a1, a2, a3, a4, a5, a6, a7]⟩ ↔ (∀ j, l[t].attrs.length ≤ j → j < 8 → [a0, a1, a2, a3, a4, a5, a6, a7].getD j 0 = 0) ∧ (-1152921504606846976 ≤ ts ∧ ts ≤ 1152921504606846976) := by
     unfold EvOK
     dsimp only
     rw [Int.toNat_natCast, hget, tys_len]
     exact ⟨fun h => ⟨h.2.2.1, h.2.2.2⟩, fun h => ⟨HOK.out, ⟨by omega, htl⟩, h.1, h.2⟩⟩
    obtain ⟨m, hm⟩ : ∃ m, m = l[t].attrs.length := ⟨_, rfl⟩
    obtain ⟨a2', ha2⟩ : ∃ m, m = l[t].a := ⟨_, rfl⟩
    obtain ⟨c2', hcc2⟩ : ∃ m, m = l[t].c := ⟨_, rfl⟩
    rw [← hm] at hm8 hev hc2
    rw [← ha2, ← hcc2] at hc2
    have HEV := Lib.hid hev
    clear hsi hrw2 hc hm ha2 hcc2 hget hev htl
    have hm8' : (m : Int) ≤ 8 := by omega
    go_wp2_with fail
    go_loop [6] (fun i => ∃ j : Nat, m ≤ j ∧ j ≤ 8 ∧ i = .int .i64 (j : Int) ∧ ∀ x, m ≤ x → x < j → [a0, a1, a2, a3, a4, a5, a6, a7].getD x 0 = 0) (fun i => 8 - (intOf i).toNat)
    case atStart => exact ⟨m, Nat.le_refl _, hm8, rfl, fun x h1 h2 => by omega⟩
    case round =>
     obtain ⟨j, hmj, hj, rfl, hall⟩ := hrel
     by_cases hlt : j < 8
     ·have hlt' : (j : Int) < 8 := by omega
      have hj0 : (0 : Int) ≤ j := by omega
      have hcell : w2.cell? ⟨w.heap.size + 1, 3 + j, none⟩ = some (.int .i64 ([a0, a1, a2, a3, a4, a5, a6, a7].getD j 0)) :=
       HE2.out.ci (3 + j) (evc_at ⟨ts, id, t, [a0, a1, a2, a3, a4, a5, a6, a7]⟩ j (by show j < 8; omega))
      obtain ⟨q, hq⟩ : ∃ q, q = [a0, a1, a2, a3, a4, a5, a6, a7].getD j 0 := ⟨_, rfl⟩
      rw [← hq] at hcell
      have HQ := Lib.hid hq
      have HALL := Lib.hid hall
      have HME := Lib.hid (meas_lt hlt)
      have HKS := Lib.hid (show j + 1 ≤ 8 from hlt)
      have HMJ := Lib.hid hmj
      clear hall hq
      by_cases h0 : q = 0
      ·subst h0
       go_wp2_with fail
       go_round
       case rel => exact ⟨j + 1, Nat.le_succ_of_le HMJ.out, HKS.out, by go_num, fun x h1 h2 => by
        rcases Nat.lt_or_ge x j with h | h
        ·exact HALL.out x h1 h
        ·have : x = j := by omega
         rw [this]; exact HQ.out.symm⟩
       case measure => exact HME.out
      ·have h0' : (q == 0) = false := by simpa using h0
       have HNO := Lib.hid (show ¬ EvOK (tys l) ⟨ts, id, t, [a0, a1, a2, a3, a4, a5, a6, a7]⟩ from fun h => h0 (HQ.out.trans ((HEV.out.1 h).1 j hmj hlt)))
       clear h0
       go_wp2_with fail
       go_ret
       exact ⟨_, rfl, code_no (by decide) HNO.out, HB2.out⟩
     ·have hje : j = 8 := by omega
      have HALL := Lib.hid (show ∀ j, m ≤ j → j < 8 → [a0, a1, a2, a3, a4, a5, a6, a7].getD j 0 = 0 from fun x h1 h2 => hall x h1 (by omega))
      have hlt' : ¬ (j : Int) < 8 := by omega
      clear hall hje
      go_wp2_with fail
      all_goals (first
       | (go_ret; exact ⟨_, rfl, code_no (by decide) (fun h => by have h1 := (HEV.out.1 h).2; omega), HB2.out⟩)
       | (go_ret; exact ⟨_, rfl, code_yes (HEV.out.2 ⟨HALL.out, by omega⟩), HB2.out⟩))
   ·have HNO := Lib.hid (show ¬ EvOK (tys l) ⟨ts, id, t, [a0, a1, a2, a3, a4, a5, a6, a7]⟩ from fun h => by have h1 := h.2.1.2; rw [tys_len, HN.out] at h1; dsimp only at h1; omega)
    have htn' : (n : Int) ≤ t := by omega
    clear hsi hrw2
    go_wp2_with fail
    go_ret
    exact ⟨_, rfl, code_no (by decide) HNO.out, HB2.out⟩
 ·have HNO := Lib.hid (show ¬ EvOK (tys l) ⟨ts, id, typ, [a0, a1, a2, a3, a4, a5, a6, a7]⟩ from fun h => hr (hiff.2 h.1))
  have hr' : (r == 0) = false := by simpa using hr
  have HR0 := Lib.hid hr
  clear hiff hr hrw2
  go_wp2_with fail
  go_ret
  exact ⟨_, rfl, code_no HR0.out HNO.out, HB2.out⟩
end Go.Proofs.YtfglgpbjjpoimaaGreatDoor
