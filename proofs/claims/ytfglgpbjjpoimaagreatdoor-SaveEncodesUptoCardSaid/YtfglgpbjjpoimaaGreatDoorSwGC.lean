/- SaveEncodes: the walks of names: wordByte, letter, digit, inWord. -/
import Derived.Test.YtfglgpbjjpoimaaGreatDoorProg
import Derived.Test.YtfglgpbjjpoimaaGreatDoorSwGB
import Derived.Test.YtfglgpbjjpoimaaGreatDoorSwGA
import Derived.WalkSmall
import Derived.Laws.RangeAny
import Derived.Deep.RegionHeld3
import Derived.IntWalk
set_option linter.unusedVariables false
namespace Go.Proofs.YtfglgpbjjpoimaaGreatDoor
open Go.RowKit Sv
theorem info5 : (Tryz.prog.info? 5).map (fun i => (i.zero, i.size, i.bytes)) = some (some (.int .u8 0), 1, 1) := by kernel_rfl
theorem info3 : (Tryz.prog.info? 3).map (fun i => (i.zero, i.size, i.bytes)) = some (some (.int .i64 0), 1, 8) := by kernel_rfl
theorem info_parts {t : TypeId} {z : Value} {s b : Nat} (h : (Tryz.prog.info? t).map (fun i => (i.zero, i.size, i.bytes)) = some (some z, s, b)) : ∃ i, Tryz.prog.info? t = some i ∧ i.zero = some z ∧ i.size = s ∧ i.bytes = b := by
 obtain ⟨i, hi, he⟩ := Option.map_eq_some_iff.1 h
 simp only [Prod.mk.injEq] at he
 exact ⟨i, hi, he.1, he.2.1, he.2.2⟩
theorem ret_val {v v' : Value} (h : v = v') : Ending.returned v = .returned v' := by rw [h]
theorem take_snoc {α : Type} (l : List α) (k : Nat) (h : k < l.length) : l.take (k + 1) = l.take k ++ [l[k]] := by
 rw [List.take_succ_eq_append_getElem h]
theorem below_draws {B n : Nat} (w : World) : Below B w (w.drewN n) := ⟨rfl, rfl, rfl, Nat.le_refl _, fun _ _ => rfl⟩
theorem meas_lt {n k : Nat} (h : k < n) : n - (intOf (.int .i64 ((k : Int) + 1))).toNat < n - (intOf (.int .i64 (k : Int))).toNat := by simp [intOf]; omega

/-- The kinds of a character. -/
def wordI (c : Int) : Bool := decide (65 ≤ c ∧ c ≤ 90) || decide (97 ≤ c ∧ c ≤ 122) || decide (48 ≤ c ∧ c ≤ 57) || decide (c = 95)
theorem nine (c : Int) : c < 48 ∨ (48 ≤ c ∧ c ≤ 57) ∨ (58 ≤ c ∧ c ≤ 64) ∨ (65 ≤ c ∧ c ≤ 90) ∨ (91 ≤ c ∧ c ≤ 94) ∨ c = 95 ∨ c = 96 ∨ (97 ≤ c ∧ c ≤ 122) ∨ 123 ≤ c := by omega
theorem wordByte_any (c : Int) (w : World) : Calls Tryz.prog 112 #[.int .i32 c] w fun e w' => e = .returned (.bool (wordI c)) ∧ w' = w := by
  go_enter Tryz.func112, Tryz.ntmps112
  have h9 := nine c
  by_cases k1 : 65 ≤ c <;> by_cases k2 : c ≤ 90 <;> by_cases k3 : 97 ≤ c <;> by_cases k4 : c ≤ 122 <;> by_cases k5 : 48 ≤ c <;> by_cases k6 : c ≤ 57 <;> by_cases k7 : c = 95 <;> first | (exfalso; omega) | skip
  all_goals (
    clear h9
    go_wp2
    go_ret
    first
      | exact ⟨rfl, rfl⟩
      | (refine ⟨ret_val (congrArg Value.bool (show (_ : Bool) = wordI c from ?_)), rfl⟩
         rw [Bool.eq_iff_iff]
         simp [wordI]
         omega))
end Go.Proofs.YtfglgpbjjpoimaaGreatDoor
/- SaveEncodes: the walks of names: letter, digit, inWord, upper. -/
set_option linter.unusedVariables false
namespace Go.Proofs.YtfglgpbjjpoimaaGreatDoor
open Go.RowKit Sv
def letterI (c : Int) : Bool := decide (65 ≤ c ∧ c ≤ 90) || decide (97 ≤ c ∧ c ≤ 122)
def digitI (c : Int) : Bool := decide (48 ≤ c ∧ c ≤ 57)
theorem letter_any (c : Int) (w : World) : Calls Tryz.prog 137 #[.int .u8 c] w fun e w' => e = .returned (.bool (letterI c)) ∧ w' = w := by
  go_enter Tryz.func137, Tryz.ntmps137
  by_cases k1 : 65 ≤ c <;> by_cases k2 : c ≤ 90 <;> by_cases k3 : 97 ≤ c <;> by_cases k4 : c ≤ 122 <;> first | (exfalso; omega) | skip
  all_goals (
    go_wp2
    go_ret
    first
      | exact ⟨rfl, rfl⟩
      | (refine ⟨ret_val (congrArg Value.bool (show (_ : Bool) = letterI c from ?_)), rfl⟩
         rw [Bool.eq_iff_iff]
         simp [letterI]
         omega))
theorem digit_any (c : Int) (w : World) : Calls Tryz.prog 124 #[.int .u8 c] w fun e w' => e = .returned (.bool (digitI c)) ∧ w' = w := by
  go_enter Tryz.func124, Tryz.ntmps124
  by_cases k1 : 48 ≤ c <;> by_cases k2 : c ≤ 57 <;> first | (exfalso; omega) | skip
  all_goals (
    go_wp2
    go_ret
    first
      | exact ⟨rfl, rfl⟩
      | (refine ⟨ret_val (congrArg Value.bool (show (_ : Bool) = digitI c from ?_)), rfl⟩
         rw [Bool.eq_iff_iff]
         simp [digitI]
         omega))
theorem inWord_any (c : Int) (w : World) : Calls Tryz.prog 123 #[.int .u8 c] w fun e w' => e = .returned (.bool (wordI c)) ∧ w' = w := by
 have e1 : wordI c = (letterI c || digitI c || (c == 95)) := by
  rw [Bool.eq_iff_iff]; simp [wordI, letterI, digitI]
 rw [e1]
 obtain ⟨b1, hb1⟩ : ∃ b, b = letterI c := ⟨_, rfl⟩
 obtain ⟨b2, hb2⟩ : ∃ b, b = digitI c := ⟨_, rfl⟩
 have H1 := Lib.hid hb1
 have H2 := Lib.hid hb2
 rw [← hb1, ← hb2]
 clear hb1 hb2 e1
 go_enter Tryz.func123, Tryz.ntmps123
 go_wp2_with fail
 refine (letter_any c w).mono ?_
 rintro e w' ⟨rfl, rfl⟩
 rw [← H1.out]
 cases b1
 ·go_wp2_with fail
  refine (digit_any c w').mono ?_
  rintro e w2 ⟨rfl, rfl⟩
  rw [← H2.out]
  cases b2
  ·go_wp2
   go_ret
   exact ⟨rfl, rfl⟩
  ·go_wp2
   go_ret
   exact ⟨rfl, rfl⟩
 ·go_wp2
  go_ret
  exact ⟨rfl, rfl⟩
/-- A row of bytes with the mark of a string behind it. -/
def BR (w : World) (g N : Nat) (cs : List Value) : Prop := cs.length = N ∧ w.heap[g]? = some (.cells cs.toArray 5 (N, N + 1))
theorem BR.cell {w : World} {g N : Nat} {cs : List Value} (h : BR w g N cs) (j : Nat) (hj : j < cs.length) : w.cell? ⟨g, j, none⟩ = some cs[j] := by
 simp [World.cell?, h.2, hj]
theorem BR.frozen {w : World} {g N : Nat} {cs : List Value} (h : BR w g N cs) (j : Nat) (hj : j < cs.length) : w.frozen? ⟨g, j, none⟩ = false := by
 have := h.1
 simp [World.frozen?, h.2]
 omega
theorem BR.set {w : World} {g N : Nat} {cs : List Value} (h : BR w g N cs) (j : Nat) (u : Value) : BR (w.setCell ⟨g, j, none⟩ u) g N (cs.set j u) := by
 refine ⟨by simp [h.1], ?_⟩
 simp [World.setCell, Array.getElem?_modify, h.2]
theorem BR.below {w w' : World} {g N : Nat} {cs : List Value} (h : BR w g N cs) (hb : Below w.heap.size w w') : BR w' g N cs :=
 ⟨h.1, (hb.block g (Array.getElem?_eq_some_iff.1 h.2).1).trans h.2⟩
theorem maxLen_big : 281474976710656 ≤ maxLen := by unfold maxLen; omega
/-- '[]byte(s)'. -/
theorem conv_sb (w : World) (s : ByteArray) (hs : s.size ≤ 1073741824) : ∃ c w', (convert 9 39 (.string s)).run Tryz.prog w = .ok (.slice (some ⟨w.heap.size, 0, none⟩) s.size c) w' ∧ s.size ≤ c ∧ c ≤ maxLen ∧ Below w.heap.size w w' ∧ ∃ N ex, BR w' w.heap.size N (s.data.toList.map B ++ ex) := by
 have hm := maxLen_big
 refine ⟨_, _, run_bytes_of_string w 9 39 5 s Tryz.underlying9 Tryz.underlying39 Tryz.underlying5, grownCap_ge w s.size 0 5, grownCap_le_maxLen w s.size 0 5 (by omega), ?_, ?_⟩
 ·exact ((Below.refl _ _).drew).alloc (Nat.le_refl _) _
 ·refine ⟨(bytesRow s (grownCap w s.size 0 5)).size, List.replicate (grownCap w s.size 0 5 - s.size) (.int .u8 0), ?_, ?_⟩
  ·simp [bytesRow]
  ·have := heap_alloc_new w.drew (.cells (bytesRow s (grownCap w s.size 0 5)) 5 ((bytesRow s (grownCap w s.size 0 5)).size, (bytesRow s (grownCap w s.size 0 5)).size + 1))
   rw [show (w.drew).heap.size = w.heap.size from rfl] at this
   rw [this]
   congr 2
   apply Array.ext'
   simp [bytesRow, B]
theorem upB_lo (x : UInt8) (h1 : 97 ≤ x.toNat) (h2 : x.toNat ≤ 122) : (((upB x).toNat : Nat) : Int) = (x.toNat : Int) - 97 + 65 := by
 have h : isLo x = true := by simp [isLo, UInt8.le_iff_toNat_le]; omega
 unfold upB
 rw [if_pos h, UInt8.toNat_add, UInt8.toNat_sub]
 have : (97 : UInt8).toNat = 97 := rfl
 have : (65 : UInt8).toNat = 65 := rfl
 omega
theorem upB_id (x : UInt8) (h : ¬ (97 ≤ x.toNat ∧ x.toNat ≤ 122)) : upB x = x := by
 have h : ¬ isLo x = true := by simp [isLo, UInt8.le_iff_toNat_le]; omega
 unfold upB
 rw [if_neg h]
/-- The list whose first k are turned. -/
def upd (l : List UInt8) (k : Nat) : List UInt8 := (l.take k).map upB ++ l.drop k
theorem upd_len (l : List UInt8) (k : Nat) : (upd l k).length = l.length := by simp [upd]; omega
theorem upd_get (l : List UInt8) (k : Nat) (h : k < l.length) : (upd l k)[k]'(by rw [upd_len]; exact h) = l[k] := by
 unfold upd
 rw [List.getElem_append_right (by simp; omega)]
 simp [Nat.min_eq_left (Nat.le_of_lt h)]
theorem upd_set (l : List UInt8) (k : Nat) (h : k < l.length) : (upd l k).set k (upB l[k]) = upd l (k + 1) := by
 unfold upd
 rw [List.set_append_right _ _ (by simp; omega), take_snoc l k h, List.map_append, List.append_assoc]
 congr 1
 have e : k - ((l.take k).map upB).length = 0 := by simp; omega
 rw [e, List.drop_eq_getElem_cons h]
 rfl
theorem upper_any (s : ByteArray) (w : World) (hs : s.size ≤ 1048576) : Calls Tryz.prog 113 #[.string s] w fun e w' => e = .returned (.string ⟨(s.data.toList.map upB).toArray⟩) ∧ Below w.heap.size w w' := by
 obtain ⟨c, w1, hc, hc1, hc2, hb1, N, ex, hbr⟩ := conv_sb w s (by omega)
 obtain ⟨l, hl⟩ : ∃ l, l = s.data.toList := ⟨_, rfl⟩
 have hln : l.length = s.size := by rw [hl]; simp
 rw [← hl] at hbr ⊢
 obtain ⟨n, hn⟩ : ∃ n, n = s.size := ⟨_, rfl⟩
 rw [← hn] at hc hc1 hs hln
 have HLN := Lib.hid hln
 have HN := Lib.hid hn
 obtain ⟨g, hg⟩ : ∃ g, g = w.heap.size := ⟨_, rfl⟩
 rw [← hg] at hc hbr
 have HG := Lib.hid hg
 have HBR := Lib.hid hbr
 have HB1 := Lib.hid hb1
 clear hl hn hln hg hb1 hbr
 go_enter Tryz.func113, Tryz.ntmps113
 go_wp2_with fail
 go_loopw [10] (fun i wr => ∃ k : Nat, k ≤ n ∧ i = .int .i64 (k : Int) ∧ BR wr g N ((upd l k).map B ++ ex) ∧ Below w.heap.size w wr) (fun i _ => n - (intOf i).toNat)
 case atStart => exact ⟨0, Nat.zero_le _, rfl, by simpa [upd] using HBR.out, HB1.out⟩
 case round =>
  obtain ⟨k, hk, rfl, hr, hb⟩ := hrel
  by_cases hlt : k < n
  ·have hlt' : (k : Int) < (n : Int) := by omega
   have hkl : k < l.length := by rw [HLN.out]; exact hlt
   have hlen : k < ((upd l k).map B ++ ex).length := by simp [upd_len]; omega
   have hcell := hr.cell k hlen
   have hfz := hr.frozen k hlen
   rw [List.getElem_append_left (by simp [upd_len]; exact hkl), List.getElem_map, upd_get l k hkl, B] at hcell
   have hset := hr.set k (B (upB l[k]))
   rw [List.set_append_left _ _ (by simp [upd_len]; exact hkl), ← List.map_set, upd_set l k hkl] at hset
   have hgw : w.heap.size ≤ g := by rw [HG.out]; exact Nat.le_refl _
   have hsb : Below w.heap.size w (wr.setCell ⟨g, k, none⟩ (B (upB l[k]))) := hb.setCell (p := ⟨g, k, none⟩) hgw _
   obtain ⟨x, hx⟩ : ∃ x, x = l[k] := ⟨_, rfl⟩
   rw [← hx] at hcell hset hsb
   have hlo := upB_lo x
   have hid := upB_id x
   have hx8 := x.toNat_lt
   have HSET := Lib.hid hset
   have HSB := Lib.hid hsb
   have HR := Lib.hid hr
   have HB := Lib.hid hb
   have HK := Lib.hid (show k + 1 ≤ n from hlt)
   have HME := Lib.hid (meas_lt hlt)
   have HX := Lib.hid hx
   have HKL := Lib.hid hkl
   clear hset hsb hr hb hx hgw hlen hk
   by_cases c1 : 97 ≤ x.toNat
   ·by_cases c2 : x.toNat ≤ 122
    ·have d1 : (97 : Int) ≤ (x.toNat : Int) := by omega
     have d2 : (x.toNat : Int) ≤ 122 := by omega
     have hv := hlo c1 c2
     rw [B, hv] at HSET HSB
     have hw1 : IntKind.u8.wrap ((x.toNat : Int) - 97) = (x.toNat : Int) - 97 := by simp [IntKind.wrap, IntKind.bits, IntKind.signed]; omega
     have hw2 : IntKind.u8.wrap ((x.toNat : Int) - 97 + 65) = (x.toNat : Int) - 97 + 65 := by simp [IntKind.wrap, IntKind.bits, IntKind.signed]; omega
     clear hlo hid hv c1 c2
     go_wp2_with fail
     go_roundw
     case rel => exact ⟨k + 1, HK.out, by go_num, HSET.out, HSB.out⟩
     case measure => exact HME.out
    ·have d1 : (97 : Int) ≤ (x.toNat : Int) := by omega
     have d2 : ¬ (x.toNat : Int) ≤ 122 := by omega
     have hv := hid (by omega)
     have HV := Lib.hid hv
     clear hlo hid hv c1 c2
     go_wp2_with fail
     go_roundw
     case rel => exact ⟨k + 1, HK.out, by go_num, by
      have : upd l (k + 1) = upd l k := by
       rw [← upd_set l k HKL.out, ← HX.out, HV.out, HX.out, ← upd_get l k HKL.out]
       exact List.set_getElem_self _
      rw [this]; exact HR.out, HB.out⟩
     case measure => exact HME.out
   ·have d1 : ¬ (97 : Int) ≤ (x.toNat : Int) := by omega
    have hv := hid (by omega)
    have HV := Lib.hid hv
    clear hlo hid hv c1
    go_wp2_with fail
    go_roundw
    case rel => exact ⟨k + 1, HK.out, by go_num, by
     have : upd l (k + 1) = upd l k := by
      rw [← upd_set l k HKL.out, ← HX.out, HV.out, HX.out, ← upd_get l k HKL.out]
      exact List.set_getElem_self _
     rw [this]; exact HR.out, HB.out⟩
    case measure => exact HME.out
  ·have hke : k = n := by omega
   have hge : ¬ (k : Int) < (n : Int) := by omega
   have hup : upd l k = l.map upB := by unfold upd; rw [List.take_of_length_le (by rw [HLN.out]; omega), List.drop_of_length_le (by rw [HLN.out]; omega), List.append_nil]
   rw [hup] at hr
   have hconv := run_convert_bytes_back (P := Tryz.prog) wr 39 9 5 ⟨g, 0, none⟩ c (l.map upB) Tryz.underlying39 Tryz.underlying5 Tryz.underlying9 (fun j hj => by
    have h1 := hr.cell j (by simp at hj ⊢; omega)
    rw [List.getElem_append_left (by simpa using hj), List.getElem_map, B] at h1
    rw [Addr.add_lit, Nat.zero_add]
    exact h1)
   rw [List.length_map, HLN.out] at hconv
   have HB := Lib.hid hb
   clear hr hup hb
   go_wp2_with fail
   go_ret
   exact ⟨rfl, HB.out⟩
end Go.Proofs.YtfglgpbjjpoimaaGreatDoor
/- SaveEncodes: the walks of names: IsName of the program, alike and IsName of the reference. -/
set_option linter.unusedVariables false
namespace Go.Proofs.YtfglgpbjjpoimaaGreatDoor
open Go.RowKit Sv
/-- A text as a value. -/
def T (l : Str) : Value := .string ⟨l.toArray⟩
/-- The keywords stand. -/
def Kw (w : World) : Prop := ∀ i (h : i < kwsL.length), w.cell? ⟨3, i, none⟩ = some (T kwsL[i])
def sl (s : ByteArray) : Str := s.data.toList
theorem sl_len (s : ByteArray) : (sl s).length = s.size := by simp [sl]
theorem sl_get (s : ByteArray) (i : Nat) (h : i < s.size) : (sl s)[i]'(by rw [sl_len]; exact h) = s[i] := by simp [sl]; rfl
theorem Kw.below {w w' : World} (h : Kw w) (hb : Below w.heap.size w w') : Kw w' := fun i hi => by
 have h1 := h i hi
 rw [hb.cell (World.block_lt_of_cell? w _ h1)]
 exact h1
theorem Kw.range {w : World} (h : Kw w) : w.rangeAt 3 0 (kwsL.map T) := fun j v hv => by
 rw [List.getElem?_map] at hv
 obtain ⟨x, hx, rfl⟩ := Option.map_eq_some_iff.1 hv
 obtain ⟨hj, rfl⟩ := List.getElem?_eq_some_iff.1 hx
 rw [Nat.zero_add]
 exact h j hj
theorem idx_str (w : World) (l : List Str) (k : Nat) (hk : k < l.length) (t : TypeId) (ht : Tryz.prog.underlying t = some (.array l.length 9)) :
  (Instr.index t (.agg (l.map T).toArray) (.int .i64 (k : Int))).run Tryz.prog w = .ok (T l[k]) w := by
 have h9 := Tryz.isAgg9
 have z9 := Tryz.sizeOf9
 simp [Instr.index, asIntOf, run_underlying ht, part, h9, z9, Result.andThen, hk]
theorem sl_nil (s : ByteArray) (h : s.size = 0) : s.toList.isEmpty = true := by
 have h1 := sl_len s
 rw [h] at h1
 rw [ByteArray.toList_eq]
 have : s.data.toList = [] := List.eq_nil_of_length_eq_zero h1
 rw [this]; rfl
theorem sl_ne (s : ByteArray) (h : ¬ s.size = 0) : s.toList.isEmpty = false := by
 have h1 := sl_len s
 rw [ByteArray.toList_eq]
 cases hs : s.data.toList with
 | nil => rw [sl, hs] at h1; simp at h1; omega
 | cons a b => rfl
theorem wordB_I (x : UInt8) : wordI (x.toNat : Int) = wordB x := by
 rw [Bool.eq_iff_iff]
 simp [wordI, wordB, isUp, isLo, isDg, UInt8.le_iff_toNat_le, ← UInt8.toNat_inj]
 omega
theorem wordB_high (x : UInt8) (h : 128 ≤ x.toNat) : wordB x = false := by
 rw [← wordB_I]
 simp [wordI]; omega
theorem wordI_high (c : Int) (h : 128 ≤ c) : wordI c = false := by simp [wordI]; omega
/-- The first k bytes may stand in a word. -/
def AllW (l : Str) (k : Nat) : Prop := (l.take k).all wordB = true
theorem AllW.snoc {l : Str} {k : Nat} (h : AllW l k) (hk : k < l.length) (hw : wordB l[k] = true) : AllW l (k + 1) := by
 unfold AllW at *
 rw [take_snoc l k hk, List.all_append, h]
 simp [hw]
theorem name_no {l : Str} (k : Nat) (hk : k < l.length) (hw : wordB l[k] = false) : nameB kwsL l = false := by
 have : l.all wordB = false := by
  rw [List.all_eq_false]
  exact ⟨_, List.getElem_mem hk, by simp [hw]⟩
 unfold nameB
 rw [this]
 simp
set_option maxHeartbeats 1000000 in
theorem isName_any (s : ByteArray) (w : World) (hk : Kw w) : Calls Tryz.prog 93 #[.string s] w fun e w' => e = .returned (.bool (nameB kwsL (sl s))) ∧ Below w.heap.size w w' := by
 have hsl := sl_len s
 by_cases h0 : s.size = 0
 ·have hn : nameB kwsL (sl s) = false := by unfold nameB; rw [hsl, h0]; simp
  have he := sl_nil s h0
  rw [hn]
  go_enter Tryz.func93, Tryz.ntmps93
  go_wp2_with fail
  go_ret
  exact ⟨rfl, Below.refl _ _⟩
 have he := sl_ne s h0
 by_cases h16 : 16 < s.size
 ·have hn : nameB kwsL (sl s) = false := by
   have : ¬ (sl s).length ≤ 16 := by omega
   unfold nameB; simp [this]
  have h16' : (16 : Int) < (s.size : Int) := by omega
  rw [hn]
  go_enter Tryz.func93, Tryz.ntmps93
  go_wp2_with fail
  go_ret
  exact ⟨rfl, Below.refl _ _⟩
 have h16' : ¬ (16 : Int) < (s.size : Int) := by omega
 have hpos : 0 < s.size := by omega
 obtain ⟨x0, hx0⟩ : ∃ x, x = s[0] := ⟨_, rfl⟩
 have hx8 := x0.toNat_lt
 have hdg : isDg ((sl s).headD 0) = true ↔ 48 ≤ x0.toNat ∧ x0.toNat ≤ 57 := by
  have : (sl s).headD 0 = x0 := by
   have h1 := sl_get s 0 hpos
   cases hs : sl s with
   | nil => rw [hs] at hsl; simp at hsl; omega
   | cons a b => simp only [hs, List.getElem_cons_zero] at h1; rw [hx0, ← h1]; rfl
  rw [this]
  simp [isDg, UInt8.le_iff_toNat_le]
 by_cases hd : 48 ≤ x0.toNat ∧ x0.toNat ≤ 57
 ·have hn : nameB kwsL (sl s) = false := by unfold nameB; rw [hdg.2 hd]; simp
  rw [hn]
  have d1 : (48 : Int) ≤ (x0.toNat : Int) := by omega
  have d2 : (x0.toNat : Int) ≤ 57 := by omega
  rw [hx0] at d1 d2
  clear hdg hx0 hn hd hx8
  go_enter Tryz.func93, Tryz.ntmps93
  go_wp2_with fail
  go_ret
  exact ⟨rfl, Below.refl _ _⟩
 have hnd : isDg ((sl s).headD 0) = false := by
  cases h : isDg ((sl s).headD 0) with
  | false => rfl
  | true => exact absurd (hdg.1 h) hd
 have HND := Lib.hid hnd
 have HK := Lib.hid hk
 have HSL := Lib.hid hsl
 clear hdg hnd hsl hk
 go_enter Tryz.func93, Tryz.ntmps93
 have hdd : ((48 : Int) ≤ (x0.toNat : Int) ∧ ¬ (x0.toNat : Int) ≤ 57) ∨ ¬ (48 : Int) ≤ (x0.toNat : Int) := by omega
 rw [hx0] at hdd
 clear hx0 hd hx8
 rcases hdd with ⟨d1, d2⟩ | d1
 all_goals (
  go_wp2_with fail
  go_loopw [] (fun wr => ∃ pos : Nat, pos ≤ s.size ∧ wr = w.iter s pos ∧ AllW (sl s) pos) (fun wr => s.size - wr.iterPos w.heap.size)
  case atStart => exact ⟨0, Nat.zero_le _, rfl, by simp [AllW]⟩
  case round =>
   obtain ⟨pos, hp, rfl, hal⟩ := hrel
   by_cases hlt : pos < s.size
   ·have hpl : pos < (sl s).length := by rw [HSL.out]; exact hlt
    have hgx := sl_get s pos hlt
    cases hw : wordB (s[pos]'hlt) with
    | true =>
     have ha : (s[pos]'hlt).toNat < 128 := by
      rcases Nat.lt_or_ge (s[pos]'hlt).toNat 128 with h | h
      ·exact h
      ·rw [wordB_high _ h] at hw; cases hw
     have hwi : wordI ((s[pos]'hlt).toNat : Int) = true := by rw [wordB_I]; exact hw
     have hnext := hal.snoc hpl (by rw [hgx]; exact hw)
     have hnx1 : ∀ ty, (Instr.next (.pointer (some ⟨w.heap.size, 0, none⟩)) true ty).run Tryz.prog (w.iter s pos) = .ok (.tuple #[.bool true, .int .i64 pos, .int .i32 ((s[pos]'hlt).toNat : Int)]) (w.iter s (pos + 1)) := fun ty => run_next_ascii w s pos ty hlt ha
     obtain ⟨x, hx⟩ : ∃ x, x = (s[pos]'hlt).toNat := ⟨_, rfl⟩
     have hnx0 : ∀ ty, (Instr.next (.pointer (some ⟨w.heap.size, 0, none⟩)) true ty).run Tryz.prog (w.iter s pos) = .ok (.tuple #[.bool true, .int .i64 pos, .int .i32 (x : Int)]) (w.iter s (pos + 1)) := by rw [hx]; exact hnx1
     have hwi : wordI (x : Int) = true := by rw [hx]; exact hwi
     clear hnx1
     have HWI := Lib.hid hwi
     have HNX := Lib.hid hnext
     have HP := Lib.hid (show pos + 1 ≤ s.size from hlt)
     clear hwi hnext hal hgx hpl hp ha hw hx
     go_wp2_with fail
     refine (wordByte_any _ _).mono ?_
     rintro e w2 ⟨rfl, hw2⟩
     rw [HWI.out]
     subst hw2
     go_wp2_with fail
     go_roundw
     case rel => exact ⟨pos + 1, HP.out, rfl, HNX.out⟩
     case measure => simp; omega
    | false =>
     have hn : nameB kwsL (sl s) = false := name_no pos hpl (by rw [hgx]; exact hw)
     have HNM := Lib.hid hn
     clear hn
     obtain ⟨c, q, hcq, hwc⟩ : ∃ (c q : Nat), Utf8.decode s pos = (c, q) ∧ wordI (c : Int) = false := by
      rcases Nat.lt_or_ge (s[pos]'hlt).toNat 128 with h | h
      ·exact ⟨_, _, decode_ascii s pos hlt h, by rw [wordB_I]; exact hw⟩
      ·exact ⟨(Utf8.decode s pos).1, (Utf8.decode s pos).2, rfl, wordI_high _ (by have := (decode_high s pos hlt h).1; exact Int.ofNat_le.2 this)⟩
     have hnx0 : ∀ ty, (Instr.next (.pointer (some ⟨w.heap.size, 0, none⟩)) true ty).run Tryz.prog (w.iter s pos) = .ok (.tuple #[.bool true, .int .i64 pos, .int .i32 (c : Int)]) (w.iter s (pos + q)) := by
      intro ty
      have := run_next_any (P := Tryz.prog) w s pos ty hlt
      rw [hcq] at this
      exact this
     have HWC := Lib.hid hwc
     clear hwc hcq hal hgx hpl hp hw
     go_wp2_with fail
     refine (wordByte_any _ _).mono ?_
     rintro e w2 ⟨rfl, hw2⟩
     rw [HWC.out]
     subst hw2
     go_wp2_with fail
     go_ret
     rw [HNM.out]
     exact ⟨rfl, (Below.refl _ _).alloc (Nat.le_refl _) _⟩
   ·have hpe : pos = s.size := by omega
    subst hpe
    have hall : (sl s).all wordB = true := by
     have := hal
     unfold AllW at this
     rw [List.take_of_length_le (by rw [HSL.out]; exact Nat.le_refl _)] at this
     exact this
    have HALL := Lib.hid hall
    have hnx0 : ∀ ty, (Instr.next (.pointer (some ⟨w.heap.size, 0, none⟩)) true ty).run Tryz.prog (w.iter s s.size) = _ := fun ty => run_next_end w s s.size ty hlt
    clear hal hall hlt hp
    have hb1 : Below w.heap.size w (w.iter s s.size) := (Below.refl _ _).alloc (Nat.le_refl _) _
    have hk1 := HK.out.below hb1
    have HB1 := Lib.hid hb1
    clear hb1
    go_wp2_with fail
    refine (upper_any s (w.iter s s.size) (by omega)).mono ?_
    rintro e w2 ⟨rfl, hb2⟩
    have hk2 := hk1.below hb2
    have hB2 := HB1.out.trans (hb2.mono HB1.out.size)
    have hrg := hk2.range
    go_wp2_with (first | (refine wpList_load_mid rfl 212 _ rfl 3 0 rfl (kwsL.map T) _ hrg Tryz.underlying212 rfl (by kernel_rfl) ?_) | fail)
    obtain ⟨kwA, hkwA⟩ : ∃ A, A = (kwsL.map T).toArray := ⟨_, rfl⟩
    have hidx : ∀ (k : Nat) (hk : k < 27) (W : World), (Instr.index 212 (.agg kwA) (.int .i64 (k : Int))).run Tryz.prog W = .ok (T kwsL[k]) W := by
     intro k hk W
     rw [hkwA]
     exact idx_str W kwsL k hk 212 Tryz.underlying212
    rw [← hkwA]
    have HI := Lib.hid hidx
    have HB2 := Lib.hid hB2
    obtain ⟨big, hbig⟩ : ∃ b, b = (s.data.toList.map upB) := ⟨_, rfl⟩
    rw [← hbig]
    have HBIG := Lib.hid hbig
    clear hidx hkwA hrg hk2 hk1 hB2 hb2 hbig
    go_loop [36] (fun i => ∃ k : Nat, k ≤ 27 ∧ i = .int .i64 (k : Int) ∧ ∀ x ∈ kwsL.take k, x ≠ big) (fun i => 27 - (intOf i).toNat)
    case atStart => exact ⟨0, by omega, rfl, by simp⟩
    case round =>
     obtain ⟨k, hk27, rfl, hall2⟩ := hrel
     have HA2 := Lib.hid hall2
     clear hall2
     by_cases hk : k < 27
     ·have hix := HI.out k hk
      have hts := take_snoc kwsL k hk
      have hmem : kwsL[k] ∈ kwsL := List.getElem_mem hk
      obtain ⟨kw, hkw⟩ : ∃ x, x = kwsL[k] := ⟨_, rfl⟩
      rw [← hkw] at hix hts hmem
      rw [T] at hix
      have HTS := Lib.hid hts
      have HMEM := Lib.hid hmem
      have hk' : (k : Int) < 27 := by omega
      have HK1 := Lib.hid (show k + 1 ≤ 27 from hk)
      have HME := Lib.hid (meas_lt hk)
      clear hts hmem hkw hk hk27
      by_cases hq : big = kw
      ·have hn : nameB kwsL (sl s) = false := by
        have : kwsL.contains ((sl s).map upB) = true := by
         rw [List.contains_iff_mem, show (sl s).map upB = big from HBIG.out.symm, hq]
         exact HMEM.out
        unfold nameB; rw [this]; simp
       have HNM := Lib.hid hn
       subst hq
       clear hn
       go_wp2_with fail
       go_ret
       rw [HNM.out]
       exact ⟨rfl, HB2.out⟩
      ·have hbe : (big == kw) = false := by simpa using hq
       have HQ := Lib.hid hq
       clear hq
       go_wp2_with fail
       go_round
       case rel =>
        refine ⟨k + 1, HK1.out, by go_num, ?_⟩
        rw [HTS.out]
        intro x hx
        rcases List.mem_append.1 hx with h | h
        ·exact HA2.out x h
        ·have : x = kw := by simpa using h
         rw [this]
         exact fun h => HQ.out h.symm
       case measure => exact HME.out
     ·have hke : k = 27 := by omega
      have hn : nameB kwsL (sl s) = true := by
       have h1 : kwsL.contains ((sl s).map upB) = false := by
        cases h : kwsL.contains ((sl s).map upB) with
        | false => rfl
        | true =>
         rw [List.contains_iff_mem] at h
         have := HA2.out ((sl s).map upB) (by rw [hke]; exact h)
         exact absurd HBIG.out.symm this
       unfold nameB
       rw [h1, HND.out, HALL.out, HSL.out]
       simp
       omega
      have HNM := Lib.hid hn
      have hk' : ¬ (k : Int) < 27 := by omega
      clear hn hke
      go_wp2_with fail
      go_ret
      rw [HNM.out]
      exact ⟨rfl, HB2.out⟩)
end Go.Proofs.YtfglgpbjjpoimaaGreatDoor
/- SaveEncodes: alike and IsName of the reference. -/
set_option linter.unusedVariables false
namespace Go.Proofs.YtfglgpbjjpoimaaGreatDoor
open Go.RowKit Sv
def letterB (x : UInt8) : Bool := isUp x || isLo x
theorem letterB_I (x : UInt8) : letterI (x.toNat : Int) = letterB x := by
 rw [Bool.eq_iff_iff]
 simp [letterI, letterB, isUp, isLo, UInt8.le_iff_toNat_le]
 omega
/-- The same but for the case of letters? -/
def eqc (x y : UInt8) : Bool := if letterB x && letterB y then x.toNat % 32 == y.toNat % 32 else x == y
def alikeB (a b : Str) : Bool := decide (a.length = b.length) && (a.zip b).all fun p => eqc p.1 p.2
theorem alike_no {a b : Str} (k : Nat) (h1 : k < a.length) (h2 : k < b.length) (h : eqc a[k] b[k] = false) : alikeB a b = false := by
 have : ((a.zip b).all fun p => eqc p.1 p.2) = false := by
  rw [List.all_eq_false]
  exact ⟨(a[k], b[k]), by
   rw [← List.getElem_zip (h := by simp; omega)]
   exact List.getElem_mem _, by simp [h]⟩
 unfold alikeB
 rw [this]
 simp
theorem alike_yes {a b : Str} (hl : a.length = b.length) (h : ∀ k (h1 : k < a.length) (h2 : k < b.length), eqc a[k] b[k] = true) : alikeB a b = true := by
 unfold alikeB
 simp only [Bool.and_eq_true, decide_eq_true_eq]
 refine ⟨hl, ?_⟩
 rw [List.all_eq_true]
 intro p hp
 obtain ⟨i, hi, rfl⟩ := List.mem_iff_getElem.1 hp
 rw [List.getElem_zip]
 have hi' : i < a.length ∧ i < b.length := by simp at hi; omega
 exact h i hi'.1 hi'.2
set_option maxHeartbeats 1000000 in
theorem alike_any (s t : ByteArray) (w : World) (hs : s.size ≤ 1048576) : Calls Tryz.prog 125 #[.string s, .string t] w fun e w' => e = .returned (.bool (alikeB (sl s) (sl t))) ∧ Below w.heap.size w w' := by
 have hls := sl_len s
 have hlt := sl_len t
 by_cases hlen : s.size = t.size
 ·have hd : ((s.size : Int) != t.size) = false := by simp [hlen]
  have HL := Lib.hid hlen
  have HLS := Lib.hid hls
  have HLT := Lib.hid hlt
  clear hlen hls hlt
  go_enter Tryz.func125, Tryz.ntmps125
  go_wp2_with fail
  go_loopw [5] (fun i wr => ∃ k : Nat, k ≤ s.size ∧ i = .int .i64 (k : Int) ∧ (∀ j (h1 : j < (sl s).length) (h2 : j < (sl t).length), j < k → eqc (sl s)[j] (sl t)[j] = true) ∧ Below w.heap.size w wr) (fun i _ => s.size - (intOf i).toNat)
  case atStart => exact ⟨0, Nat.zero_le _, rfl, fun j _ _ h => absurd h (Nat.not_lt_zero _), Below.refl _ _⟩
  case round =>
   obtain ⟨k, hk, rfl, hall, hb⟩ := hrel
   have HALL := Lib.hid hall
   have HB := Lib.hid hb
   clear hall hb
   by_cases hlt : k < s.size
   ·have hltt : k < t.size := by have := HL.out; omega
    have e1 := sl_get s k hlt
    have e2 := sl_get t k hltt
    obtain ⟨x, hx⟩ : ∃ x, x = s[k]'hlt := ⟨_, rfl⟩
    obtain ⟨y, hy⟩ : ∃ y, y = t[k]'hltt := ⟨_, rfl⟩
    have hc1 : s[k]? = some x := by rw [hx]; exact getElem?_pos s k hlt
    rw [← hx] at e1
    rw [← hy] at e2
    have hx8 := x.toNat_lt
    have hy8 := y.toNat_lt
    have HX := Lib.hid hx
    have HY := Lib.hid hy
    have E1 := Lib.hid e1
    have E2 := Lib.hid e2
    have HK := Lib.hid (show k + 1 ≤ s.size from hlt)
    have HME := Lib.hid (meas_lt hlt)
    clear hc1 e1 e2 hx8 hy8 hk
    go_wp2_with fail
    rw [← hx, ← hy]
    clear hx hy
    refine (letter_any _ _).mono ?_
    rintro e w2 ⟨rfl, hw2⟩
    rw [letterB_I]
    subst hw2
    obtain ⟨bx, hbx⟩ : ∃ b, b = letterB x := ⟨_, rfl⟩
    obtain ⟨by_, hby⟩ : ∃ b, b = letterB y := ⟨_, rfl⟩
    have HLX := Lib.hid hbx.symm
    have HLY := Lib.hid hby.symm
    rw [← hbx]
    clear hbx hby
    cases bx with
    | false =>
     by_cases hq : x = y
     ·have hxx : ((x.toNat : Int) != (y.toNat : Int)) = false := by simp [hq]
      have hec : eqc x y = true := by (unfold eqc; rw [HLX.out]; simp [hq])
      have HEC := Lib.hid hec
      clear hq hec
      go_wp2_with fail
      go_roundw
      case rel => exact ⟨k + 1, HK.out, by go_num, fun j h1 h2 hj => by
       by_cases e : j = k
       ·subst e
        rw [E1.out, E2.out]; exact HEC.out
       ·exact HALL.out j h1 h2 (by omega), HB.out⟩
      case measure => exact HME.out
     ·have hxx : ((x.toNat : Int) != (y.toNat : Int)) = true := by simp; exact fun h => hq (UInt8.toNat_inj.1 (by omega))
      have hec : eqc x y = false := by (unfold eqc; rw [HLX.out]; simp [hq])
      have hno := alike_no k (by rw [HLS.out]; exact hlt) (by rw [HLT.out]; exact hltt) (by rw [E1.out, E2.out]; exact hec)
      have HNO := Lib.hid hno
      clear hq hec hno
      go_wp2_with fail
      go_ret
      rw [HNO.out]
      exact ⟨rfl, HB.out⟩
    | true =>
     go_wp2_with fail
     refine (letter_any _ _).mono ?_
     rintro e w3 ⟨rfl, hw3⟩
     rw [letterB_I, HLY.out]
     subst hw3
     cases by_ with
     | false =>
      by_cases hq : x = y
      ·have hxx : ((x.toNat : Int) != (y.toNat : Int)) = false := by simp [hq]
       have hec : eqc x y = true := by (unfold eqc; rw [HLX.out, HLY.out]; simp [hq])
       have HEC := Lib.hid hec
       clear hq hec
       go_wp2_with fail
       go_roundw
       case rel => exact ⟨k + 1, HK.out, by go_num, fun j h1 h2 hj => by
        by_cases e : j = k
        ·subst e
         rw [E1.out, E2.out]; exact HEC.out
        ·exact HALL.out j h1 h2 (by omega), HB.out⟩
       case measure => exact HME.out
      ·have hxx : ((x.toNat : Int) != (y.toNat : Int)) = true := by simp; exact fun h => hq (UInt8.toNat_inj.1 (by omega))
       have hec : eqc x y = false := by (unfold eqc; rw [HLX.out, HLY.out]; simp [hq])
       have hno := alike_no k (by rw [HLS.out]; exact hlt) (by rw [HLT.out]; exact hltt) (by rw [E1.out, E2.out]; exact hec)
       have HNO := Lib.hid hno
       clear hq hec hno
       go_wp2_with fail
       go_ret
       rw [HNO.out]
       exact ⟨rfl, HB.out⟩
     | true =>
      have hm1 : ((x.toNat : Nat) : Int).tmod 32 = ((x.toNat % 32 : Nat) : Int) := by rw [Int.tmod_eq_emod_of_nonneg (by omega)]; omega
      have hm2 : ((y.toNat : Nat) : Int).tmod 32 = ((y.toNat % 32 : Nat) : Int) := by rw [Int.tmod_eq_emod_of_nonneg (by omega)]; omega
      by_cases hq : x.toNat % 32 = y.toNat % 32
      ·have hxx : (((x.toNat % 32 : Nat) : Int) != ((y.toNat % 32 : Nat) : Int)) = false := by simp [hq]
       have hec : eqc x y = true := by (unfold eqc; rw [HLX.out, HLY.out]; simp [hq])
       have HEC := Lib.hid hec
       clear hq hec
       go_wp2_with fail
       go_roundw
       case rel => exact ⟨k + 1, HK.out, by go_num, fun j h1 h2 hj => by
        by_cases e : j = k
        ·subst e
         rw [E1.out, E2.out]; exact HEC.out
        ·exact HALL.out j h1 h2 (by omega), HB.out⟩
       case measure => exact HME.out
      ·have hxx : (((x.toNat % 32 : Nat) : Int) != ((y.toNat % 32 : Nat) : Int)) = true := by simp only [bne_iff_ne, ne_eq]; exact fun h => hq (Int.ofNat.inj h)
       have hec : eqc x y = false := by (unfold eqc; rw [HLX.out, HLY.out]; simp [hq])
       have hno := alike_no k (by rw [HLS.out]; exact hlt) (by rw [HLT.out]; exact hltt) (by rw [E1.out, E2.out]; exact hec)
       have HNO := Lib.hid hno
       clear hq hec hno
       go_wp2_with fail
       go_ret
       rw [HNO.out]
       exact ⟨rfl, HB.out⟩
   ·have hke : k = s.size := by omega
    have hge : ¬ (k : Int) < (s.size : Int) := by omega
    have hyes : alikeB (sl s) (sl t) = true := alike_yes (by rw [HLS.out, HLT.out]; exact HL.out) (fun j h1 h2 => HALL.out j h1 h2 (by rw [HLS.out] at h1; omega))
    have HY := Lib.hid hyes
    clear hyes hke
    go_wp2_with fail
    go_ret
    rw [HY.out]
    exact ⟨rfl, HB.out⟩
 ·have hd : ((s.size : Int) != t.size) = true := by simp; omega
  have hno : alikeB (sl s) (sl t) = false := by
   unfold alikeB
   rw [hls, hlt]
   simp [hlen]
  rw [hno]
  clear hls hlt hno hlen
  go_enter Tryz.func125, Tryz.ntmps125
  go_wp2_with fail
  go_ret
  exact ⟨rfl, Below.refl _ _⟩
/-- At the keywords, which are great letters, 'alike' is what 'upper' finds. -/
theorem eqc_up (x y : UInt8) (hy : isUp y = true) : eqc x y = (upB x == y) := by
 have h8 := x.toNat_lt
 have h9 := y.toNat_lt
 have hy1 : 65 ≤ y.toNat ∧ y.toNat ≤ 90 := by simpa [isUp, UInt8.le_iff_toNat_le] using hy
 have hly : letterB y = true := by simp [letterB, hy]
 by_cases h1 : 97 ≤ x.toNat ∧ x.toNat ≤ 122
 ·have hlx : letterB x = true := by simp [letterB, isLo, UInt8.le_iff_toNat_le]; right; omega
  have hu := upB_lo x h1.1 h1.2
  unfold eqc
  rw [hlx, hly, Bool.eq_iff_iff]
  simp only [Bool.and_self, if_true, beq_iff_eq, ← UInt8.toNat_inj]
  omega
 ·have hu := upB_id x h1
  rw [hu]
  by_cases h2 : 65 ≤ x.toNat ∧ x.toNat ≤ 90
  ·have hlx : letterB x = true := by simp [letterB, isUp, UInt8.le_iff_toNat_le]; left; omega
   unfold eqc
   rw [hlx, hly, Bool.eq_iff_iff]
   simp only [Bool.and_self, if_true, beq_iff_eq, ← UInt8.toNat_inj]
   omega
  ·have hlx : letterB x = false := by
    cases h : letterB x with
    | false => rfl
    | true =>
     simp [letterB, isUp, isLo, UInt8.le_iff_toNat_le] at h
     omega
   unfold eqc
   rw [hlx]
   simp
theorem alike_up : ∀ (a b : Str), b.all isUp = true → alikeB a b = (a.map upB == b) := by
 intro a
 induction a with
 | nil => intro b _; cases b <;> simp [alikeB]
 | cons x a ih =>
  intro b hb
  cases b with
  | nil => simp [alikeB]
  | cons y b =>
   simp only [List.all_cons, Bool.and_eq_true] at hb
   have h1 := ih b hb.2
   have h2 := eqc_up x y hb.1
   unfold alikeB at h1 ⊢
   simp only [List.length_cons, List.zip_cons_cons, List.all_cons, List.map_cons, h2]
   rw [show ((upB x :: a.map upB) == (y :: b)) = ((upB x == y) && (a.map upB == b)) from rfl, ← h1]
   cases (upB x == y) <;> simp
theorem kws_up : ∀ k (h : k < kwsL.length), (kwsL[k]).all isUp = true := by decide
theorem kws_size : ∀ k (h : k < kwsL.length), (kwsL[k]).length ≤ 9 := by decide
end Go.Proofs.YtfglgpbjjpoimaaGreatDoor
/- SaveEncodes: IsName of the reference. -/
set_option linter.unusedVariables false
namespace Go.Proofs.YtfglgpbjjpoimaaGreatDoor
open Go.RowKit Sv
theorem sl_T (l : Str) : sl ⟨l.toArray⟩ = l := by simp [sl]
set_option maxHeartbeats 1000000 in
theorem rIsName_any (s : ByteArray) (w : World) (hk : Kw w) : Calls Tryz.prog 104 #[.string s] w fun e w' => e = .returned (.bool (nameB kwsL (sl s))) ∧ Below w.heap.size w w' := by
 have hsl := sl_len s
 by_cases h0 : s.size = 0
 ·have hn : nameB kwsL (sl s) = false := by unfold nameB; rw [hsl, h0]; simp
  have h0' : (s.size : Int) < 1 := by omega
  rw [hn]
  go_enter Tryz.func104, Tryz.ntmps104
  go_wp2_with fail
  go_ret
  exact ⟨rfl, Below.refl _ _⟩
 have h0' : ¬ (s.size : Int) < 1 := by omega
 by_cases h16 : 16 < s.size
 ·have hn : nameB kwsL (sl s) = false := by
   have : ¬ (sl s).length ≤ 16 := by omega
   unfold nameB; simp [this]
  have h16' : (16 : Int) < (s.size : Int) := by omega
  rw [hn]
  go_enter Tryz.func104, Tryz.ntmps104
  go_wp2_with fail
  go_ret
  exact ⟨rfl, Below.refl _ _⟩
 have h16' : ¬ (16 : Int) < (s.size : Int) := by omega
 have hpos : 0 < s.size := by omega
 have HSL := Lib.hid hsl
 have HK := Lib.hid hk
 clear hsl hk
 go_enter Tryz.func104, Tryz.ntmps104
 go_wp2_with fail
 go_loop [3] (fun i => ∃ k : Nat, k ≤ s.size ∧ i = .int .i64 (k : Int) ∧ AllW (sl s) k) (fun i => s.size - (intOf i).toNat)
 case atStart => exact ⟨0, Nat.zero_le _, rfl, by simp [AllW]⟩
 case round =>
  obtain ⟨k, hks, rfl, hal⟩ := hrel
  have HAL := Lib.hid hal
  clear hal
  by_cases hlt : k < s.size
  ·have hlt' : (k : Int) < (s.size : Int) := by omega
   have hpl : k < (sl s).length := by rw [HSL.out]; exact hlt
   have e1 := sl_get s k hlt
   obtain ⟨x, hx⟩ : ∃ x, x = s[k]'hlt := ⟨_, rfl⟩
   rw [← hx] at e1
   have E1 := Lib.hid e1
   have HK1 := Lib.hid (show k + 1 ≤ s.size from hlt)
   have HME := Lib.hid (meas_lt hlt)
   have HPL := Lib.hid hpl
   clear e1 hpl
   go_wp2_with fail
   rw [← hx]
   refine (inWord_any _ _).mono ?_
   rintro e w2 ⟨rfl, hw2⟩
   rw [wordB_I]
   subst hw2
   cases hw : wordB x with
   | true =>
    have HW := Lib.hid hw
    clear hw
    go_wp2_with fail
    go_round
    case rel => exact ⟨k + 1, HK1.out, by go_num, HAL.out.snoc HPL.out (by rw [E1.out]; exact HW.out)⟩
    case measure => exact HME.out
   | false =>
    have hno := name_no k HPL.out (by rw [E1.out]; exact hw)
    have HNO := Lib.hid hno
    clear hw hno
    go_wp2_with fail
    go_ret
    rw [HNO.out]
    exact ⟨rfl, Below.refl _ _⟩
  ·have hke : k = s.size := by omega
   subst hke
   have hge : ¬ (s.size : Int) < (s.size : Int) := by omega
   have hall : (sl s).all wordB = true := by
    have := HAL.out
    unfold AllW at this
    rw [List.take_of_length_le (by rw [HSL.out]; exact Nat.le_refl _)] at this
    exact this
   have HALL := Lib.hid hall
   obtain ⟨x0, hx0⟩ : ∃ x, x = s[0]'hpos := ⟨_, rfl⟩
   have hdg : isDg ((sl s).headD 0) = digitI (x0.toNat : Int) := by
    have h1 := sl_get s 0 hpos
    have : (sl s).headD 0 = x0 := by
     cases hs : sl s with
     | nil => have := HSL.out; rw [hs] at this; simp at this; omega
     | cons a b => simp only [hs, List.getElem_cons_zero] at h1; rw [hx0, ← h1]; rfl
    rw [this, Bool.eq_iff_iff]
    simp [isDg, digitI, UInt8.le_iff_toNat_le]
    omega
   have HDG := Lib.hid hdg
   clear hall HAL hdg hlt hks
   go_wp2_with fail
   rw [← hx0]
   refine (digit_any _ _).mono ?_
   rintro e w2 ⟨rfl, hw2⟩
   subst hw2
   obtain ⟨dg, hdg⟩ : ∃ b, b = digitI (x0.toNat : Int) := ⟨_, rfl⟩
   rw [← hdg]
   have HD := Lib.hid hdg
   clear hdg hx0
   cases dg with
   | true =>
    have hn : nameB kwsL (sl s) = false := by unfold nameB; rw [HDG.out, ← HD.out]; simp
    have HNM := Lib.hid hn
    clear hn
    go_wp2_with fail
    go_ret
    rw [HNM.out]
    exact ⟨rfl, Below.refl _ _⟩
   | false =>
    go_wp2_with fail
    go_loopw [4] (fun i wr => ∃ k : Nat, k ≤ 27 ∧ i = .int .i64 (k : Int) ∧ (∀ x ∈ kwsL.take k, x ≠ (sl s).map upB) ∧ Below w2.heap.size w2 wr) (fun i _ => 27 - (intOf i).toNat)
    case atStart => exact ⟨0, by omega, rfl, by simp, Below.refl _ _⟩
    case round =>
     obtain ⟨k, hk27, rfl, hall2, hb⟩ := hrel
     have HA2 := Lib.hid hall2
     have HB := Lib.hid hb
     clear hall2
     by_cases hk : k < 27
     ·have hkw := (HK.out.below hb) k hk
      have hts := take_snoc kwsL k hk
      have hmem : kwsL[k] ∈ kwsL := List.getElem_mem hk
      have hup := alike_up (sl s) kwsL[k] (kws_up k hk)
      obtain ⟨kw, hkwe⟩ : ∃ x, x = kwsL[k] := ⟨_, rfl⟩
      rw [← hkwe] at hkw hts hmem hup
      rw [T] at hkw
      have HTS := Lib.hid hts
      have HMEM := Lib.hid hmem
      have HUP := Lib.hid hup
      have hk' : (k : Int) < 27 := by omega
      have HK1 := Lib.hid (show k + 1 ≤ 27 from hk)
      have HME := Lib.hid (meas_lt hk)
      clear hts hmem hkwe hk hk27 hup hb
      go_wp2_with fail
      refine (alike_any s ⟨kw.toArray⟩ _ (by omega)).mono ?_
      rintro e w3 ⟨rfl, hb3⟩
      rw [sl_T kw, HUP.out]
      have hB3 := HB.out.trans (hb3.mono HB.out.size)
      have HB3 := Lib.hid hB3
      clear hb3 hB3
      cases hq : ((sl s).map upB == kw) with
      | true =>
       have hn : nameB kwsL (sl s) = false := by
        have : kwsL.contains ((sl s).map upB) = true := by
         rw [List.contains_iff_mem, eq_of_beq hq]
         exact HMEM.out
        unfold nameB; rw [this]; simp
       have HNM := Lib.hid hn
       clear hn hq
       go_wp2_with fail
       go_ret
       rw [HNM.out]
       exact ⟨rfl, HB3.out⟩
      | false =>
       have HQ := Lib.hid hq
       clear hq
       go_wp2_with fail
       go_roundw
       case rel =>
        refine ⟨k + 1, HK1.out, by go_num, ?_, HB3.out⟩
        rw [HTS.out]
        intro x hx
        rcases List.mem_append.1 hx with h | h
        ·exact HA2.out x h
        ·have : x = kw := by simpa using h
         rw [this]
         intro h
         have := HQ.out
         rw [← h] at this
         simp at this
       case measure => exact HME.out
     ·have hke : k = 27 := by omega
      have hn : nameB kwsL (sl s) = true := by
       have h1 : kwsL.contains ((sl s).map upB) = false := by
        cases h : kwsL.contains ((sl s).map upB) with
        | false => rfl
        | true =>
         rw [List.contains_iff_mem] at h
         have := HA2.out ((sl s).map upB) (by rw [hke]; exact h)
         exact absurd rfl this
       unfold nameB
       rw [h1, HDG.out, ← HD.out, HALL.out, HSL.out]
       simp
       omega
      have HNM := Lib.hid hn
      have hk' : ¬ (k : Int) < 27 := by omega
      clear hn hke
      go_wp2_with fail
      go_ret
      rw [HNM.out]
      exact ⟨rfl, HB.out⟩
end Go.Proofs.YtfglgpbjjpoimaaGreatDoor
