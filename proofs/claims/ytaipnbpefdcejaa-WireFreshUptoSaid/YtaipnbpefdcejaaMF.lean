/- Joined by wip/tools/merge.py out of: Rd1 Rd2 Rd3 Rf1 Rf2 Rf3 Rf4 SPL. -/
import Derived.Test.YtaipnbpefdcejaaMA
import Derived.Deep.RegionHeld3
import Derived.Deep.CutRange
import Derived.Deep.DeepCutAuto
import Derived.StillTailTactics
import Derived.Test.YtaipnbpefdcejaaME
import Derived.Laws.IdiomStrings
import Derived.Lib.BufferRead
import Derived.Deep.RegionLaw
/- The walks of the reader's small methods. -/
set_option linter.unusedVariables false
namespace Go.Proofs.Ytaipnbpefdcejaa
open Go.RowKit
/-- The reader in block g: its bytes, its place, whether they are bad. -/
def RS (w0 : World) (g : Nat) (body : List UInt8) (ab : Option Addr) (nb cb at_ : Nat) (bad : Bool) (w : World) : Prop :=
  Blk w g 92 [.slice ab nb cb, .int .i64 (at_ : Int), .bool bad] ∧ at_ ≤ nb ∧ Below w0.heap.size w0 w
/-- What stays as it is while one reads. -/
structure RC (w0 : World) (g : Nat) (body : List UInt8) (ab : Option Addr) (nb cb : Nat) : Prop where
  rd : Rd w0 ab (body.map B)
  len : body.length = nb
  small : nb ≤ 1099511627776
  base : w0.heap.size ≤ g
  cap : nb ≤ cb
/-- A step of reading: x is read, its bytes e; or the bytes are bad. -/
def Step (body : List UInt8) (at_ : Nat) (bad : Bool) (at2 : Nat) (bad2 : Bool) (got : List UInt8 → Prop) (none_ : Prop) : Prop :=
  (bad = false ∧ bad2 = false ∧ ∃ e, got e ∧ body.drop at_ = e ++ body.drop at2) ∨ (bad2 = true ∧ (bad = true ∨ none_))
theorem RS.cells {w0 : World} {g : Nat} {body : List UInt8} {ab : Option Addr} {nb cb at_ : Nat} {bad : Bool} {w : World} (h : RS w0 g body ab nb cb at_ bad w) :
    w.cell? ⟨g, 0, none⟩ = some (.slice ab nb cb) ∧ w.cell? ⟨g, 1, none⟩ = some (.int .i64 (at_ : Int)) ∧ w.cell? ⟨g, 2, none⟩ = some (.bool bad) ∧ w.frozen? ⟨g, 1, none⟩ = false ∧ w.frozen? ⟨g, 2, none⟩ = false :=
  ⟨h.1.cell 0 (by simp), h.1.cell 1 (by simp), h.1.cell 2 (by simp), h.1.frozen 1, h.1.frozen 2⟩
theorem RS.setAt {w0 : World} {g : Nat} {body : List UInt8} {ab : Option Addr} {nb cb at_ : Nat} {bad : Bool} {w : World} (hc : RC w0 g body ab nb cb) (h : RS w0 g body ab nb cb at_ bad w) (a2 : Nat) (ha : a2 ≤ nb) :
    RS w0 g body ab nb cb a2 bad (w.setCell ⟨g, 1, none⟩ (.int .i64 (a2 : Int))) ∧ w.grownBy (w.setCell ⟨g, 1, none⟩ (.int .i64 (a2 : Int))) (some g) := by
  have h1 := h.1.setCell 1 (.int .i64 (a2 : Int))
  exact ⟨⟨h1.1, ha, h.2.2.grown h1.2 h.2.2.size (fun k hk => by cases hk; exact hc.base)⟩, h1.2⟩
theorem RS.setBad {w0 : World} {g : Nat} {body : List UInt8} {ab : Option Addr} {nb cb at_ : Nat} {bad : Bool} {w : World} (hc : RC w0 g body ab nb cb) (h : RS w0 g body ab nb cb at_ bad w) (b2 : Bool) :
    RS w0 g body ab nb cb at_ b2 (w.setCell ⟨g, 2, none⟩ (.bool b2)) ∧ w.grownBy (w.setCell ⟨g, 2, none⟩ (.bool b2)) (some g) := by
  have h1 := h.1.setCell 2 (.bool b2)
  exact ⟨⟨h1.1, h.2.1, h.2.2.grown h1.2 h.2.2.size (fun k hk => by cases hk; exact hc.base)⟩, h1.2⟩
theorem undrew {w w' : World} {r : Option Nat} (h : w.drew.grownBy w' r) : w.grownBy w' r := ⟨h.os, h.tape, h.output, h.size, h.block⟩
theorem last_from (s : List UInt8) : ∀ (d j : Nat), d + j = 9 → j ≤ s.length → (∀ i (h : i < s.length), i < j → 128 ≤ s[i].toNat) → ∃ j, IsLast s j := by
  intro d
  induction d with
  | zero => intro j h1 h2 h3; exact ⟨j, by omega, h2, h3, fun h h9 => by omega⟩
  | succ d ih =>
    intro j h1 h2 h3
    by_cases hj : j < s.length
    · by_cases hc : s[j].toNat < 128
      · exact ⟨j, by omega, h2, h3, fun _ _ => hc⟩
      · refine ih (j + 1) (by omega) (by omega) (fun i h hi => ?_)
        by_cases he : i = j
        · subst he; omega
        · exact h3 i h (by omega)
    · exact ⟨j, by omega, h2, h3, fun h _ => (hj h).elim⟩
theorem last_ex (s : List UInt8) : ∃ j, IsLast s j := last_from s 9 0 rfl (Nat.zero_le _) (fun _ _ h => by omega)
theorem upost_ex (l : List UInt8) (at_ : Nat) (h : at_ ≤ l.length) : ∃ e, UPost l (at_ : Int) e := by
  obtain ⟨j, hj⟩ := last_ex (l.drop at_)
  exact ⟨_, .inr ⟨⟨by omega, by omega⟩, j, by rw [Int.toNat_natCast]; exact hj, rfl⟩⟩
theorem uint_is {a : Option Addr} {cap n : Nat} {l : List UInt8} {pos : Int} (w : World) {v : Value} (hu : UPost l pos (.returned v)) (hn : l.length = n) (hmax : n ≤ 140737488355328) (hp : -9223372036854775808 ≤ pos ∧ pos ≤ 9223372036854775807) (h : Rd w a (l.map B)) :
    Calls Try.prog 15 #[.slice a n cap, .int .i64 pos] w fun e w' => e = .returned v ∧ w = w' := (uint_any a cap n l pos w hn hmax hp h).mono fun e w' h => ⟨h.1.unique hu, h.2⟩
def UIntPost (w0 : World) (g : Nat) (body : List UInt8) (ab : Option Addr) (nb cb at_ : Nat) (bad : Bool) (w : World) (e : Ending) (w' : World) : Prop :=
  ∃ (n a2 : Nat) (b2 : Bool), e = .returned (.int .u64 (n : Int)) ∧ n < 18446744073709551616 ∧ RS w0 g body ab nb cb a2 b2 w' ∧ w.grownBy w' (some g) ∧ (b2 = true → n = 0) ∧
    Step body at_ bad a2 b2 (fun e => e = bytesU n) (∀ n, n < 18446744073709551616 → ∀ r, body.drop at_ ≠ bytesU n ++ r)
theorem rd_uint {w0 : World} {g : Nat} {body : List UInt8} {ab : Option Addr} {nb cb at_ : Nat} {bad : Bool} {w : World} (hc : RC w0 g body ab nb cb) (h : RS w0 g body ab nb cb at_ bad w) :
    Calls Try.prog 120 #[.pointer (some ⟨g, 0, none⟩)] w (UIntPost w0 g body ab nb cb at_ bad w) := by
  have hrd := hc.rd.below h.2.2
  have hlen := hc.len
  have hsm := hc.small
  obtain ⟨c0, c1, c2, f1, f2⟩ := h.cells
  have hat := h.2.1
  have HC := Lib.hid hc
  have HS := Lib.hid h
  have HL := Lib.hid hlen
  clear hc h hlen
  obtain ⟨e0, hu⟩ := upost_ex body at_ (by rw [HL.out]; exact hat)
  rcases hu.cases (by rw [HL.out]; exact hat) with ⟨n, en, rfl, hn, hd, hen, hel⟩ | ⟨er, rfl, her, _, hno⟩
  · have HD := Lib.hid hd
    have HN := Lib.hid hn
    rw [HL.out] at hel
    have hsA := (show RS w0 g body ab nb cb at_ bad w.drew from ⟨HS.out.1, HS.out.2.1, HS.out.2.2.drew⟩).setAt HC.out en hel
    have hsB := (show RS w0 g body ab nb cb at_ bad w.drew from ⟨HS.out.1, HS.out.2.1, HS.out.2.2.drew⟩).setBad HC.out true
    have HA := Lib.hid hsA
    have HB := Lib.hid hsB
    have HU := Lib.hid hu
    have HRD : Hid (Rd w.drew ab (body.map B)) := Lib.hid hrd
    clear hd hn hen hsA hsB hu hrd
    cases bad
    · go_enter Try.func120, Try.ntmps120
      go_wp2
      go_region_held3 (fun W => W.cell? ⟨g, 0, none⟩ = some (.slice ab nb cb) ∧ W.cell? ⟨g, 1, none⟩ = some (.int .i64 (at_ : Int))) (first | exact ⟨c0, c1⟩ | (refine ⟨?_, ?_⟩ <;> assumption)) (first | (go_at_call 15; refine (uint_is _ HU.out HL.out (by omega) (by omega) HRD.out).mono ?_; unfold T3; rintro e _ ⟨rfl, rfl⟩))
      all_goals go_wp2
      all_goals go_ret
      all_goals exact ⟨n, en, false, rfl, HN.out, HA.out.1, undrew HA.out.2, fun h => (Bool.false_ne_true h).elim, .inl ⟨rfl, rfl, _, rfl, HD.out⟩⟩
    · go_enter Try.func120, Try.ntmps120
      go_wp2
      go_region_held3 (fun W => W.cell? ⟨g, 0, none⟩ = some (.slice ab nb cb) ∧ W.cell? ⟨g, 1, none⟩ = some (.int .i64 (at_ : Int))) (first | exact ⟨c0, c1⟩ | (refine ⟨?_, ?_⟩ <;> assumption)) (first | (go_at_call 15; refine (uint_is _ HU.out HL.out (by omega) (by omega) HRD.out).mono ?_; unfold T3; rintro e _ ⟨rfl, rfl⟩))
      all_goals go_wp2
      all_goals go_ret
      all_goals exact ⟨0, at_, true, rfl, by omega, HB.out.1, undrew HB.out.2, fun _ => rfl, .inr ⟨rfl, .inl rfl⟩⟩
  · have HNO := Lib.hid hno
    have hne := neq_of' (a := er) (b := 0) her
    have hsB := (show RS w0 g body ab nb cb at_ bad w.drew from ⟨HS.out.1, HS.out.2.1, HS.out.2.2.drew⟩).setBad HC.out true
    have HB := Lib.hid hsB
    have HU := Lib.hid hu
    have HRD : Hid (Rd w.drew ab (body.map B)) := Lib.hid hrd
    clear hu hno hsB hrd her
    go_enter Try.func120, Try.ntmps120
    go_wp2
    go_region_held3 (fun W => W.cell? ⟨g, 0, none⟩ = some (.slice ab nb cb) ∧ W.cell? ⟨g, 1, none⟩ = some (.int .i64 (at_ : Int))) (first | exact ⟨c0, c1⟩ | (refine ⟨?_, ?_⟩ <;> assumption)) (first | (go_at_call 15; refine (uint_is _ HU.out HL.out (by omega) (by omega) HRD.out).mono ?_; unfold T3; rintro e _ ⟨rfl, rfl⟩))
    all_goals go_wp2
    all_goals go_ret
    all_goals exact ⟨0, at_, true, rfl, by omega, HB.out.1, undrew HB.out.2, fun _ => rfl, .inr ⟨rfl, .inr HNO.out⟩⟩
def IIntPost (w0 : World) (g : Nat) (body : List UInt8) (ab : Option Addr) (nb cb at_ : Nat) (bad : Bool) (w : World) (e : Ending) (w' : World) : Prop :=
  ∃ (i : Int) (a2 : Nat) (b2 : Bool), e = .returned (.int .i64 i) ∧ (-9223372036854775808 ≤ i ∧ i ≤ 9223372036854775807) ∧ RS w0 g body ab nb cb a2 b2 w' ∧ w.grownBy w' (some g) ∧ (b2 = true → i = 0) ∧
    Step body at_ bad a2 b2 (fun e => e = bytesU (zig i)) (∀ i : Int, (-9223372036854775808 ≤ i ∧ i ≤ 9223372036854775807) → ∀ r, body.drop at_ ≠ bytesU (zig i) ++ r)
theorem Step.imp {body : List UInt8} {at_ : Nat} {bad : Bool} {a2 : Nat} {b2 : Bool} {p q : List UInt8 → Prop} {n n' : Prop} (h : Step body at_ bad a2 b2 p n) (hp : ∀ e, p e → q e) (hn : n → n') : Step body at_ bad a2 b2 q n' := by
  rcases h with ⟨h1, h2, e, h3, h4⟩ | ⟨h1, h2⟩
  · exact .inl ⟨h1, h2, e, hp e h3, h4⟩
  · exact .inr ⟨h1, h2.imp id hn⟩
theorem rd_int {w0 : World} {g : Nat} {body : List UInt8} {ab : Option Addr} {nb cb at_ : Nat} {bad : Bool} {w : World} (hc : RC w0 g body ab nb cb) (h : RS w0 g body ab nb cb at_ bad w) :
    Calls Try.prog 119 #[.pointer (some ⟨g, 0, none⟩)] w (IIntPost w0 g body ab nb cb at_ bad w) := by
  go_enter Try.func119, Try.ntmps119
  go_wp2_with fail
  refine (rd_uint hc h).mono ?_
  rintro e w1 ⟨n, a2, b2, rfl, hn, hrs, hg, hz, hst⟩
  have hub := unz_bits n hn
  have hzu := zig_unz n hn
  have h0 : b2 = true → unz n = 0 := fun hb => by rw [hz hb]; rfl
  have hst2 : Step body at_ bad a2 b2 (fun e => e = bytesU (zig (unz n))) (∀ i : Int, (-9223372036854775808 ≤ i ∧ i ≤ 9223372036854775807) → ∀ r, body.drop at_ ≠ bytesU (zig i) ++ r) :=
    hst.imp (fun e he => by rw [hzu.1]; exact he) (fun hno i hi r => hno (zig i) (zig_lt i hi) r)
  have HUB := Lib.hid hub
  have HZU := Lib.hid hzu.2
  have H0 := Lib.hid h0
  have HST := Lib.hid hst2
  have HRS := Lib.hid hrs
  have HG := Lib.hid hg
  clear hub hzu h0 hst hst2 hrs hg hz
  go_wp2_with fail
  go_ret
  refine ⟨unz n, a2, b2, ret_val ?_, HZU.out, HRS.out, HG.out, H0.out, HST.out⟩
  rw [← HUB.out]
  rfl
end Go.Proofs.Ytaipnbpefdcejaa
/- The walks of the reader's truth, count and bytes. -/
set_option linter.unusedVariables false
namespace Go.Proofs.Ytaipnbpefdcejaa
open Go.RowKit
def TIntPost (w0 : World) (g : Nat) (body : List UInt8) (ab : Option Addr) (nb cb at_ : Nat) (bad : Bool) (w : World) (e : Ending) (w' : World) : Prop :=
  ∃ (t : Bool) (a2 : Nat) (b2 : Bool), e = .returned (.bool t) ∧ RS w0 g body ab nb cb a2 b2 w' ∧ w.grownBy w' (some g) ∧ (b2 = true → t = false) ∧
    Step body at_ bad a2 b2 (fun e => e = [if t then 1 else 0]) (∀ (t : Bool) (r : List UInt8), body.drop at_ ≠ [if t then 1 else 0] ++ r)
theorem RS.drew {w0 : World} {g : Nat} {body : List UInt8} {ab : Option Addr} {nb cb at_ : Nat} {bad : Bool} {w : World} (h : RS w0 g body ab nb cb at_ bad w) : RS w0 g body ab nb cb at_ bad w.drew := ⟨h.1, h.2.1, h.2.2.drew⟩
theorem RS.drewN {w0 : World} {g : Nat} {body : List UInt8} {ab : Option Addr} {nb cb at_ : Nat} {bad : Bool} {w : World} (h : RS w0 g body ab nb cb at_ bad w) (n : Nat) : RS w0 g body ab nb cb at_ bad (w.drewN n) :=
  ⟨h.1.below (below_draws w), h.2.1, h.2.2.trans (below_draws w)⟩
theorem undrewN {w w' : World} {r : Option Nat} {n : Nat} (h : (w.drewN n).grownBy w' r) : w.grownBy w' r := ⟨h.os, h.tape, h.output, h.size, h.block⟩
theorem grown_drewN {w w' : World} {r : Option Nat} {n : Nat} (h : w.grownBy w' r) : w.grownBy (w'.drewN n) r := ⟨h.os, h.tape, h.output, h.size, h.block⟩
theorem drop_cons {l : List UInt8} {i : Nat} (h : i < l.length) : l.drop i = l[i] :: l.drop (i + 1) := List.drop_eq_getElem_cons h
set_option maxRecDepth 20000 in
theorem rd_truth {w0 : World} {g : Nat} {body : List UInt8} {ab : Option Addr} {nb cb at_ : Nat} {bad : Bool} {w : World} (hc : RC w0 g body ab nb cb) (h : RS w0 g body ab nb cb at_ bad w) :
    Calls Try.prog 122 #[.pointer (some ⟨g, 0, none⟩)] w (TIntPost w0 g body ab nb cb at_ bad w) := by
  have hrd := hc.rd.below h.2.2
  have hlen := hc.len
  have hsm := hc.small
  obtain ⟨c0, c1, c2, f1, f2⟩ := h.cells
  have hat := h.2.1
  have HC := Lib.hid hc
  have HS := Lib.hid h
  have HL := Lib.hid hlen
  have hB := h.setBad hc true
  have HB := Lib.hid hB
  clear hc h hlen hB
  cases bad
  · by_cases hlt : at_ < nb
    · have hlb : at_ < body.length := by rw [HL.out]; exact hlt
      obtain ⟨b, off, hab, hcs⟩ := hrd.cells (by intro h0; have := congrArg List.length h0; simp at this; rw [this] at hlb; simp at hlb)
      have hcj := hcs at_ (by simpa using hlb)
      rw [List.getElem_map, B] at hcj
      have hdr := drop_cons hlb
      obtain ⟨x, hx⟩ : ∃ x, x = body[at_] := ⟨_, rfl⟩
      rw [← hx] at hcj hdr
      have hxl := x.toNat_lt
      have hlt' : ¬ (nb : Int) ≤ at_ := by omega
      have HDR := Lib.hid hdr
      have hA := HS.out.setAt HC.out (at_ + 1) (by omega)
      have HA := Lib.hid hA
      obtain ⟨d0, d1, d2, k1, k2⟩ := hA.1.cells
      subst hab
      have HX := Lib.hid hx
      clear hcs hx hdr hA hrd
      by_cases h1 : x.toNat ≤ 1
      · have h1' : ¬ (1 : Int) < x.toNat := by omega
        have hwp : wrap64 ((at_ : Int) + 1) = (at_ : Int) + 1 := by unfold wrap64; omega
        have hsb : wrap64 ((at_ : Int) + 1 - 1) = (at_ : Int) := by unfold wrap64; omega
        have hst : Step body at_ false (at_ + 1) false (fun e => e = [if ((x.toNat : Int) == 1) then 1 else 0]) (∀ (t : Bool) (r : List UInt8), body.drop at_ ≠ [if t then 1 else 0] ++ r) := by
          refine .inl ⟨rfl, rfl, _, rfl, ?_⟩
          rw [HDR.out]
          congr 1
          apply UInt8.toNat_inj.1
          by_cases h2 : x.toNat = 1
          · simp [h2]
          · have : x.toNat = 0 := by omega
            simp [this]
        have HST := Lib.hid hst
        have H1 := Lib.hid h1
        clear hst h1
        go_enter Try.func122, Try.ntmps122
        go_upto_region 5 with (go_quiet (fail))
        have hs2 := (HS.out.drewN nq).setAt HC.out (at_ + 1) (by omega)
        have hpu : (((at_ + 1 : Nat) : Int)) = (at_ : Int) + 1 := by omega
        rw [hpu] at hs2
        obtain ⟨w2, hw2⟩ : ∃ x, x = (w.drewN nq).setCell ⟨g, 1, none⟩ (.int .i64 ((at_ : Int) + 1)) := ⟨_, rfl⟩
        rw [← hw2] at hs2 ⊢
        obtain ⟨e0, e1, e2, _, _⟩ := hs2.1.cells
        rw [hpu] at e1
        have hrd2 := HC.out.rd.below hs2.1.2.2
        obtain ⟨b', off', hab', hcs'⟩ := hrd2.cells (by intro h0; have := congrArg List.length h0; simp at this; rw [this] at hlb; simp at hlb)
        cases hab'
        have hcj' := hcs' at_ (by simpa using hlb)
        rw [List.getElem_map, B, ← HX.out] at hcj'
        have HS2 := Lib.hid hs2
        clear hw2 hs2 hrd2 hcs' d0 d1 d2 k1 k2 c0 c1 c2 f1 f2 hcj hpu
        go_wp2_with (go_quiet (fail))
        all_goals go_ret
        all_goals exact ⟨(x.toNat : Int) == 1, at_ + 1, false, rfl, HS2.out.1.drewN _, undrewN (grown_drewN HS2.out.2), fun h => (Bool.false_ne_true h).elim, HST.out⟩
      · have hno : ∀ (t : Bool) (r : List UInt8), body.drop at_ ≠ [if t then 1 else 0] ++ r := by
          intro t r he
          rw [HDR.out] at he
          injection he with he _
          rw [he] at h1
          cases t <;> simp at h1
        have HNO := Lib.hid hno
        have h1' : (1 : Int) < x.toNat := by omega
        clear hno d0 d1 d2 k1 k2 h1
        go_enter Try.func122, Try.ntmps122
        go_wp2_with (go_quiet (fail))
        all_goals go_ret
        all_goals exact ⟨false, at_, true, rfl, ((HS.out.drewN _).setBad HC.out true).1, undrewN ((HS.out.drewN _).setBad HC.out true).2, fun _ => rfl, .inr ⟨rfl, .inr HNO.out⟩⟩
    · have hae : at_ = nb := by omega
      have hlt' : (nb : Int) ≤ at_ := by omega
      have hno : ∀ (t : Bool) (r : List UInt8), body.drop at_ ≠ [if t then 1 else 0] ++ r := by
        intro t r he
        rw [List.drop_eq_nil_of_le (by rw [HL.out]; omega)] at he
        simp at he
      have HNO := Lib.hid hno
      have HAE := Lib.hid hae
      clear hno hae hlt
      go_enter Try.func122, Try.ntmps122
      go_wp2_with (go_quiet (fail))
      all_goals go_ret
      all_goals exact ⟨false, at_, true, rfl, ((HS.out.drewN _).setBad HC.out true).1, undrewN ((HS.out.drewN _).setBad HC.out true).2, fun _ => rfl, .inr ⟨rfl, .inr HNO.out⟩⟩
  · go_enter Try.func122, Try.ntmps122
    go_wp2_with (go_quiet (fail))
    go_ret
    exact ⟨false, at_, true, rfl, ((HS.out.drewN _).setBad HC.out true).1, undrewN ((HS.out.drewN _).setBad HC.out true).2, fun _ => rfl, .inr ⟨rfl, .inl rfl⟩⟩
def CIntPost (w0 : World) (g : Nat) (body : List UInt8) (ab : Option Addr) (nb cb at_ : Nat) (bad : Bool) (w : World) (e : Ending) (w' : World) : Prop :=
  ∃ (n a2 : Nat) (b2 : Bool), e = .returned (.int .i64 (n : Int)) ∧ a2 + n ≤ nb ∧ RS w0 g body ab nb cb a2 b2 w' ∧ w.grownBy w' (some g) ∧ (b2 = true → n = 0) ∧
    Step body at_ bad a2 b2 (fun e => e = bytesU n) (∀ n, n < 18446744073709551616 → ∀ r, n ≤ r.length → body.drop at_ ≠ bytesU n ++ r)
set_option maxRecDepth 20000 in
theorem rd_count {w0 : World} {g : Nat} {body : List UInt8} {ab : Option Addr} {nb cb at_ : Nat} {bad : Bool} {w : World} (hc : RC w0 g body ab nb cb) (h : RS w0 g body ab nb cb at_ bad w) :
    Calls Try.prog 109 #[.pointer (some ⟨g, 0, none⟩)] w (CIntPost w0 g body ab nb cb at_ bad w) := by
  go_enter Try.func109, Try.ntmps109
  go_wp2_with fail
  refine (rd_uint hc h).mono ?_
  rintro e w1 ⟨n, a2, b2, rfl, hn, hrs, hg, hz, hst⟩
  obtain ⟨c0, c1, c2, f1, f2⟩ := hrs.cells
  have ha2 := hrs.2.1
  have hsm := hc.small
  have HC := Lib.hid hc
  have HRS := Lib.hid hrs
  have HG := Lib.hid hg
  have hw1 : wrap64 ((nb : Int) - a2) = (nb : Int) - a2 := by unfold wrap64; omega
  have hw2 : IntKind.u64.wrap ((nb : Int) - a2) = (nb : Int) - a2 := by rw [IntKind.wrap_u64]; omega
  by_cases hbig : nb - a2 < n
  · have hb : (nb : Int) - a2 < n := by omega
    have hst2 : Step body at_ bad a2 true (fun e => e = bytesU 0) (∀ n, n < 18446744073709551616 → ∀ r, n ≤ r.length → body.drop at_ ≠ bytesU n ++ r) := by
      rcases hst with ⟨h1, h2, e, rfl, h4⟩ | ⟨h1, h2⟩
      · refine .inr ⟨rfl, .inr fun n' hn' r hr he => ?_⟩
        rw [h4] at he
        obtain ⟨rfl, rfl⟩ := ud_U hn hn' he
        rw [List.length_drop, HC.out.len] at hr
        omega
      · rw [hz h1] at hbig
        omega
    have HST := Lib.hid hst2
    clear hz hst hst2 hc h hrs hg hbig
    go_wp2_with (go_quiet (fail))
    all_goals go_ret
    all_goals exact ⟨0, a2, true, rfl, by omega, ((HRS.out.drewN _).setBad HC.out true).1, grown_trans2 HG.out (undrewN ((HRS.out.drewN _).setBad HC.out true).2), fun _ => rfl, HST.out⟩
  · have hb : ¬ (nb : Int) - a2 < n := by omega
    have hst2 : Step body at_ bad a2 b2 (fun e => e = bytesU n) (∀ n, n < 18446744073709551616 → ∀ r, n ≤ r.length → body.drop at_ ≠ bytesU n ++ r) := hst.imp (fun e h => h) (fun h n hn r _ => h n hn r)
    have HST := Lib.hid hst2
    have HZ := Lib.hid hz
    have hni : n ≤ 1099511627776 := by omega
    clear hz hst hst2 hc h hrs hg
    go_wp2_with (go_quiet (fail))
    all_goals go_ret
    all_goals exact ⟨n, a2, b2, rfl, by omega, HRS.out.drewN _, grown_drewN HG.out, HZ.out, HST.out⟩
end Go.Proofs.Ytaipnbpefdcejaa
/- The walk of the reader's bytes. -/
set_option linter.unusedVariables false
namespace Go.Proofs.Ytaipnbpefdcejaa
open Go.RowKit
def BIntPost (w0 : World) (g : Nat) (body : List UInt8) (ab : Option Addr) (nb cb at_ : Nat) (bad : Bool) (w : World) (e : Ending) (w' : World) : Prop :=
  ∃ (l : List UInt8) (ao : Option Addr) (n co a2 : Nat) (b2 : Bool), l.length = n ∧ n ≤ nb ∧ e = .returned (.slice ao n co) ∧ w'.ownsRow w.heap.size 5 1 (.slice ao n co) n (l.map B) ∧ RS w0 g body ab nb cb a2 b2 w' ∧ w.grownBy w' (some g) ∧ (b2 = true → l = []) ∧
    Step body at_ bad a2 b2 (fun e => e = bytesU l.length ++ l) (∀ l : List UInt8, l.length < 18446744073709551616 → ∀ r, body.drop at_ ≠ bytesU l.length ++ l ++ r)
theorem own_low {w : World} {base base' e size n : Nat} {v : Value} {xs : List Value} (h : w.ownsRow base e size v n xs) (hb : base' ≤ base) : w.ownsRow base' e size v n xs := by
  refine ⟨h.1, ?_⟩
  rcases h.2 with h1 | ⟨g, cap, cur, h1, h2, h3⟩
  · exact .inl h1
  · exact .inr ⟨g, cap, cur, h1, Nat.le_trans hb h2, h3⟩
set_option maxRecDepth 20000 in
theorem rd_bytes {w0 : World} {g : Nat} {body : List UInt8} {ab : Option Addr} {nb cb at_ : Nat} {bad : Bool} {w : World} (hc : RC w0 g body ab nb cb) (h : RS w0 g body ab nb cb at_ bad w) :
    Calls Try.prog 121 #[.pointer (some ⟨g, 0, none⟩)] w (BIntPost w0 g body ab nb cb at_ bad w) := by
  go_enter Try.func121, Try.ntmps121
  go_wp2_with fail
  refine (rd_count hc h).mono ?_
  rintro e w1 ⟨n, a2, b2, rfl, hn, hrs, hg, hz, hst⟩
  have hsm := hc.small
  have hcap := hc.cap
  have HC := Lib.hid hc
  have HRS := Lib.hid hrs
  have HG := Lib.hid hg
  have HZ := Lib.hid hz
  have HST := Lib.hid hst
  clear hz hst hc h hg hrs
  go_wp2_with (first | (at_make; refine make_b w1 rfl _ _ rfl .i64 .i64 _ _ n n rfl rfl rfl rfl (Nat.le_refl _) (by omega) ?_; intro w2 hh2 hb2 hs2; (have hr2 : RS w0 g body ab nb cb a2 b2 w2 := ⟨HRS.out.1.below hb2, HRS.out.2.1, HRS.out.2.2.trans (hb2.mono HRS.out.2.2.size)⟩); (obtain ⟨c0, c1, c2, f1, f2⟩ := hr2.cells)) | fail)
  have hw1 : IntKind.i64.wrap ((a2 : Int) + n) = (a2 : Int) + n := by rw [IntKind.wrap_i64]; omega
  have ht1 : ((a2 : Int) + n).toNat = a2 + n := by omega
  have h01 : (0 : Int) ≤ (a2 : Int) + n := by omega
  have hle2 : (a2 : Int) + n ≤ cb := by omega
  have hsub : a2 + n - a2 = n := by omega
  obtain ⟨l, hl⟩ : ∃ l, l = (body.drop a2).take n := ⟨_, rfl⟩
  have hll : l.length = n := by rw [hl, List.length_take, List.length_drop, HC.out.len]; omega
  obtain ⟨sa, hsa⟩ : ∃ sa, sa = if cb = a2 then ab else Option.map (fun x => x.add a2) ab := ⟨_, rfl⟩
  have hrs : Rd w2.drew sa (l.map B) := by
    have h0 : Rd w2.drew ab (body.map B) := HC.out.rd.below hr2.2.2.drew
    have h1 := h0.sub a2 (a2 + n) (by rw [List.length_map, HC.out.len]; exact hn) sa (fun hlt => by rw [hsa, if_neg (by omega), Nat.mul_one])
    rw [← List.map_take, ← List.map_drop, List.drop_take, hsub, ← hl] at h1
    exact h1
  have hh2d : Hid (w2.drew.heap[w1.heap.size]? = some (.cells (List.replicate n (B 0)).toArray 5 (0, 0))) := Lib.hid hh2
  have HL := Lib.hid hl
  have HSA := Lib.hid hsa
  have HLL := Lib.hid hll
  have HRD := Lib.hid hrs
  have HR2 := Lib.hid hr2
  have hglt : g < w1.heap.size := HRS.out.1.lt
  clear hl hll hrs hh2 hr2
  go_still_tail 16, (by kernel_rfl)
  change wpList _ _ _ _ _ w2.drew
  rw [← hsa]
  clear hsa
  refine copy_b rfl (.tmp 9) (.tmp 24) rfl w1.heap.size 0 _ 5 hh2d.out _ sa _ _ _ _ rfl rfl rfl (l.map B) n (by rw [List.length_map, HLL.out]) (by omega) (by omega) (by omega) HRD.out (B_oneCell _) (by rw [List.length_replicate]; omega) ?_
  intro w3 hh3 hb3
  have hsp : splice (List.replicate n (B 0)) 0 (l.map B) = l.map B := by
    rw [splice, List.take_zero, List.nil_append, List.drop_eq_nil_of_le (by rw [List.length_replicate, List.length_map, HLL.out]; omega), List.append_nil]
  have h3 := hh3.out
  rw [hsp] at h3
  have hown : w3.ownsRow w1.heap.size 5 1 (.slice (some ⟨w1.heap.size, 0, none⟩) n n) n (l.map B) := own_of_heap h3 (Nat.le_refl _) (by rw [List.length_map, HLL.out]) (by unfold maxLen; omega)
  have hb3' : Below w1.heap.size w2 w3 := ⟨hb3.os, hb3.tape, hb3.output, hb3.size, hb3.block⟩
  have hb13 : Below w1.heap.size w1 w3 := hb2.trans hb3'
  have hr3 : RS w0 g body ab nb cb a2 b2 w3 := ⟨HRS.out.1.below hb13, HRS.out.2.1, HRS.out.2.2.trans (hb13.mono HRS.out.2.2.size)⟩
  obtain ⟨d0, d1, d2, k1, k2⟩ := hr3.cells
  have hs3 := hr3.setAt HC.out (a2 + n) hn
  have hne : (Value.slice (some ⟨w1.heap.size, 0, none⟩) n n).ownBlock ≠ some g := by simp [Value.ownBlock]; omega
  have hown4 := hown.kept hs3.2 (.inr hne)
  have HO := Lib.hid (own_low hown4 HG.out.size)
  have hgr : w.grownBy (w3.setCell ⟨g, 1, none⟩ (.int .i64 ((a2 + n : Nat) : Int))) (some g) := grown_trans2 HG.out (grown_trans2 ⟨hb13.os, hb13.tape, hb13.output, hb13.size, fun k hk _ => hb13.block k hk⟩ hs3.2)
  have HGR := Lib.hid hgr
  have HS3 := Lib.hid hs3.1
  have hpu : ((a2 + n : Nat) : Int) = (a2 : Int) + n := by omega
  have hstep : Step body at_ bad (a2 + n) b2 (fun e => e = bytesU l.length ++ l) (∀ l : List UInt8, l.length < 18446744073709551616 → ∀ r, body.drop at_ ≠ bytesU l.length ++ l ++ r) := by
    rcases HST.out with ⟨h1, h2, e, rfl, h4⟩ | ⟨h1, h2⟩
    · refine .inl ⟨h1, h2, _, rfl, ?_⟩
      rw [h4, HLL.out, List.append_assoc, HL.out]
      congr 1
      rw [← List.drop_drop, List.take_append_drop]
    · refine .inr ⟨h1, h2.imp id fun hno l' hl' r he => ?_⟩
      rw [List.append_assoc] at he
      exact hno l'.length hl' (l' ++ r) (by rw [List.length_append]; omega) he
  have hz2 : b2 = true → l = [] := fun h => List.eq_nil_of_length_eq_zero (by rw [HLL.out]; exact HZ.out h)
  have HSTEP := Lib.hid hstep
  have HZ2 := Lib.hid hz2
  rw [hpu] at HGR HS3 HO
  clear hs3 hown hown4 hgr hne hr3 hb13 hb3' hb3 hh3 h3 hsp hh2d hb2 hs2 c0 c1 c2 f1 f2 hstep hz2 hglt
  go_wp2
  go_ret
  exact ⟨l, some ⟨w1.heap.size, 0, none⟩, n, n, a2 + n, b2, HLL.out, by omega, rfl, HO.out, HS3.out, HGR.out, HZ2.out, HSTEP.out⟩
end Go.Proofs.Ytaipnbpefdcejaa
/- The walks of the reader's methods for the fields. -/
set_option linter.unusedVariables false
namespace Go.Proofs.Ytaipnbpefdcejaa
open Go.RowKit
/-- A message that can be sent: its handle and its values are as they should be. -/
def VX (x : M) : Prop := WfM x ∧ 0 ≤ x.handle ∧ cleanV x.vals
/-- m with the field s of x. -/
def setF (s : String) (m x : M) : M :=
  if s = "sluice/wire.number" then { m with num := x.num } else
  if s = "sluice/wire.handle" then { m with handle := x.handle } else
  if s = "sluice/wire.code" then { m with code := x.code } else
  if s = "sluice/wire.schema" then { m with schema := x.schema } else
  if s = "sluice/wire.query" then { m with query := x.query } else
  if s = "sluice/wire.image" then { m with image := x.image } else
  if s = "sluice/wire.event" then { m with ts := x.ts, id := x.id, typ := x.typ, a0 := x.a0, a1 := x.a1, a2 := x.a2, a3 := x.a3, a4 := x.a4, a5 := x.a5, a6 := x.a6, a7 := x.a7 } else
  if s = "sluice/wire.match" then { m with dec := x.dec, names := x.names, lens := x.lens, vals := x.vals } else
  if s = "sluice/wire.sizes" then { m with mark := x.mark, closed := x.closed, held := x.held, kept := x.kept, waiting := x.waiting, parts := x.parts } else
  if s = "sluice/wire.fault" then { m with fwhere := x.fwhere, fcode := x.fcode, fat := x.fat } else m
/-- Of what was there only the two blocks were written. -/
structure Gr2 (g gm : Nat) (w w' : World) : Prop where
  os : w'.os = w.os
  tape : w'.tape = w.tape
  output : w'.output = w.output
  size : w.heap.size ≤ w'.heap.size
  block : ∀ k, k < w.heap.size → k ≠ g → k ≠ gm → w'.heap[k]? = w.heap[k]?
theorem Gr2.refl (g gm : Nat) (w : World) : Gr2 g gm w w := ⟨rfl, rfl, rfl, Nat.le_refl _, fun _ _ _ _ => rfl⟩
theorem Gr2.trans {g gm : Nat} {w1 w2 w3 : World} (h : Gr2 g gm w1 w2) (h' : Gr2 g gm w2 w3) : Gr2 g gm w1 w3 :=
  ⟨h'.os.trans h.os, h'.tape.trans h.tape, h'.output.trans h.output, Nat.le_trans h.size h'.size, fun k hk h1 h2 => (h'.block k (Nat.lt_of_lt_of_le hk h.size) h1 h2).trans (h.block k hk h1 h2)⟩
theorem Gr2.ofg {g : Nat} (gm : Nat) {w w' : World} (h : w.grownBy w' (some g)) : Gr2 g gm w w' := ⟨h.os, h.tape, h.output, h.size, fun k hk h1 _ => h.block k hk (fun e => h1 (by cases e; rfl))⟩
theorem Gr2.ofm (g : Nat) {gm : Nat} {w w' : World} (h : w.grownBy w' (some gm)) : Gr2 g gm w w' := ⟨h.os, h.tape, h.output, h.size, fun k hk _ h1 => h.block k hk (fun e => h1 (by cases e; rfl))⟩
theorem own2 {g gm base : Nat} {w w' : World} {e size n : Nat} {v : Value} {xs : List Value} (h : w.ownsRow base e size v n xs) (hg : Gr2 g gm w w') (h1 : g < base) (h2 : gm < base) : w'.ownsRow base e size v n xs := by
  refine ⟨h.1, ?_⟩
  rcases h.2 with h3 | ⟨b, cap, cur, h3, h4, h5, h6⟩
  · exact .inl h3
  · exact .inr ⟨b, cap, cur, h3, h4, (hg.block b (Array.getElem?_eq_some_iff.1 h5).1 (by omega) (by omega)).trans h5, h6⟩
theorem OwnM.two {g gm base : Nat} {w w' : World} {m : M} {q : Ps} (h : OwnM base w m q) (hg : Gr2 g gm w w') (h1 : g < base) (h2 : gm < base) : OwnM base w' m q :=
  ⟨own2 h.1 hg h1 h2, own2 h.2.1 hg h1 h2, own2 h.2.2.1 hg h1 h2, own2 h.2.2.2 hg h1 h2⟩
/-- The reader, and the message that it fills. -/
structure FS (w0 : World) (g gm base : Nat) (body : List UInt8) (ab : Option Addr) (nb cb at_ : Nat) (bad : Bool) (m : M) (q : Ps) (w : World) : Prop where
  rs : RS w0 g body ab nb cb at_ bad w
  blk : Blk w gm 50 (cellsM m q)
  own : OwnM base w m q
  vx : VX m
  le : base ≤ w.heap.size
/-- What does not change. -/
structure FC (w0 : World) (g gm base : Nat) (body : List UInt8) (ab : Option Addr) (nb cb : Nat) : Prop where
  rc : RC w0 g body ab nb cb
  ne : gm ≠ g
  g1 : g < base
  gm1 : gm < base
  mb : w0.heap.size ≤ gm
  nbs : nb ≤ 1048576
def Verdict (s : String) (body : List UInt8) (at_ : Nat) (bad : Bool) (a2 : Nat) (b2 : Bool) (m' : M) : Prop :=
  (bad = false ∧ b2 = false ∧ body.drop at_ = encF s m' ++ body.drop a2) ∨ (b2 = true ∧ (bad = true ∨ ∀ x r, VX x → body.drop at_ ≠ encF s x ++ r))
def FPost (s : String) (w0 : World) (g gm base : Nat) (body : List UInt8) (ab : Option Addr) (nb cb at_ : Nat) (bad : Bool) (m : M) (w : World) (e : Ending) (w' : World) : Prop :=
  ∃ (m' : M) (q' : Ps) (a2 : Nat) (b2 : Bool), e = .returned (.tuple #[]) ∧ FS w0 g gm base body ab nb cb a2 b2 m' q' w' ∧ Gr2 g gm w w' ∧ m' = setF s m m' ∧ Verdict s body at_ bad a2 b2 m'
theorem conv_b {w : World} {base n co : Nat} {ao : Option Addr} {l : List UInt8} (hl : l.length = n) (hown : w.ownsRow base 5 1 (.slice ao n co) n (l.map B)) : (convert 23 9 (.slice ao n co)).run Try.prog w = .ok (.string ⟨l.toArray⟩) w := by
  rcases hown.2 with ⟨h1, h2⟩ | ⟨g, cap, cur, h1, _, hg, _, _, _, _⟩
  · cases h1
    obtain rfl : l = [] := List.eq_nil_of_length_eq_zero hl
    exact Lib.run_convert_nil_bytes w 23 9 5 0 Try.underlying23 Try.underlying5 Try.underlying9
  · cases h1
    subst hl
    refine run_convert_bytes_back w 23 9 5 ⟨g, 0, none⟩ co l Try.underlying23 Try.underlying5 Try.underlying9 fun j hj => ?_
    have h3 := hown.cells (g := g) rfl j (B l[j]) (by simp [hj])
    exact h3
theorem rs_gm {w0 : World} {g gm base : Nat} {body : List UInt8} {ab : Option Addr} {nb cb at_ : Nat} {bad : Bool} {w w' : World} (hc : FC w0 g gm base body ab nb cb) (h : RS w0 g body ab nb cb at_ bad w) (hg : w.grownBy w' (some gm)) : RS w0 g body ab nb cb at_ bad w' :=
  ⟨h.1.kept hg (by have := hc.ne; intro e; cases e; exact this rfl), h.2.1, h.2.2.grown hg h.2.2.size (fun k hk => by cases hk; exact hc.mb)⟩
theorem blk_g {g gm : Nat} {w w' : World} {t : TypeId} {cs : List Value} (hne : gm ≠ g) (h : Blk w gm t cs) (hg : w.grownBy w' (some g)) : Blk w' gm t cs := h.kept hg (fun e => by cases e; exact hne rfl)
set_option maxRecDepth 20000 in
theorem rf2_number {w0 : World} {g gm base : Nat} {body : List UInt8} {ab : Option Addr} {nb cb at_ : Nat} {bad : Bool} {m : M} {q : Ps} {w : World} (hc : FC w0 g gm base body ab nb cb) (h : FS w0 g gm base body ab nb cb at_ bad m q w) :
    Calls Try.prog 115 #[.pointer (some ⟨g, 0, none⟩), .pointer (some ⟨gm, 0, none⟩)] w (FPost "sluice/wire.number" w0 g gm base body ab nb cb at_ bad m w) := by
  go_enter Try.func115, Try.ntmps115
  go_wp2_with fail
  refine (rd_int hc.rc h.rs).mono ?_
  rintro e w1 ⟨i, a2, b2, rfl, hi, hrs, hg, hz, hst⟩
  have hk1 := blk_g hc.ne h.blk hg
  have hcell := hk1.cell 2 (by rw [cellsM_len]; omega)
  have hfr := hk1.frozen 2
  have hs1 := hk1.setCell 2 (.int .i64 i)
  have hg2 := (Gr2.ofg gm hg).trans (Gr2.ofm g hs1.2)
  have hfin : FPost "sluice/wire.number" w0 g gm base body ab nb cb at_ bad m w (.returned (.tuple #[])) (w1.setCell ⟨gm, 2, none⟩ (.int .i64 i)) := by
    refine ⟨{ m with num := i }, q, a2, b2, rfl, ⟨rs_gm hc hrs hs1.2, hs1.1, h.own.two hg2 hc.g1 hc.gm1, ⟨{ h.vx.1 with num := hi }, h.vx.2⟩, Nat.le_trans h.le hg2.size⟩, hg2, rfl, ?_⟩
    rcases hst with ⟨h1, h2, e, rfl, h4⟩ | ⟨h1, h2⟩
    · exact .inl ⟨h1, h2, h4⟩
    · exact .inr ⟨h1, h2.imp id fun hno x r hx => hno x.num hx.1.num r⟩
  have HF := Lib.hid hfin
  obtain ⟨y, hy⟩ : ∃ y, y = (cellsM m q)[2]'(by rw [cellsM_len]; omega) := ⟨_, rfl⟩
  rw [← hy] at hcell
  clear hy hk1 hs1 hg2 hfin hrs hg hz hst h hc
  go_wp2
  go_end0
  exact HF.out
set_option maxRecDepth 20000 in
theorem rf2_code {w0 : World} {g gm base : Nat} {body : List UInt8} {ab : Option Addr} {nb cb at_ : Nat} {bad : Bool} {m : M} {q : Ps} {w : World} (hc : FC w0 g gm base body ab nb cb) (h : FS w0 g gm base body ab nb cb at_ bad m q w) :
    Calls Try.prog 108 #[.pointer (some ⟨g, 0, none⟩), .pointer (some ⟨gm, 0, none⟩)] w (FPost "sluice/wire.code" w0 g gm base body ab nb cb at_ bad m w) := by
  go_enter Try.func108, Try.ntmps108
  go_wp2_with fail
  refine (rd_int hc.rc h.rs).mono ?_
  rintro e w1 ⟨i, a2, b2, rfl, hi, hrs, hg, hz, hst⟩
  have hk1 := blk_g hc.ne h.blk hg
  have hcell := hk1.cell 27 (by rw [cellsM_len]; omega)
  have hfr := hk1.frozen 27
  have hs1 := hk1.setCell 27 (.int .i64 i)
  have hg2 := (Gr2.ofg gm hg).trans (Gr2.ofm g hs1.2)
  have hfin : FPost "sluice/wire.code" w0 g gm base body ab nb cb at_ bad m w (.returned (.tuple #[])) (w1.setCell ⟨gm, 27, none⟩ (.int .i64 i)) := by
    refine ⟨{ m with code := i }, q, a2, b2, rfl, ⟨rs_gm hc hrs hs1.2, hs1.1, h.own.two hg2 hc.g1 hc.gm1, ⟨{ h.vx.1 with code := hi }, h.vx.2⟩, Nat.le_trans h.le hg2.size⟩, hg2, rfl, ?_⟩
    rcases hst with ⟨h1, h2, e, rfl, h4⟩ | ⟨h1, h2⟩
    · exact .inl ⟨h1, h2, h4⟩
    · exact .inr ⟨h1, h2.imp id fun hno x r hx => hno x.code hx.1.code r⟩
  have HF := Lib.hid hfin
  obtain ⟨y, hy⟩ : ∃ y, y = (cellsM m q)[27]'(by rw [cellsM_len]; omega) := ⟨_, rfl⟩
  rw [← hy] at hcell
  clear hy hk1 hs1 hg2 hfin hrs hg hz hst h hc
  go_wp2
  go_end0
  exact HF.out
set_option maxRecDepth 20000 in
theorem rf2_schema {w0 : World} {g gm base : Nat} {body : List UInt8} {ab : Option Addr} {nb cb at_ : Nat} {bad : Bool} {m : M} {q : Ps} {w : World} (hc : FC w0 g gm base body ab nb cb) (h : FS w0 g gm base body ab nb cb at_ bad m q w) :
    Calls Try.prog 117 #[.pointer (some ⟨g, 0, none⟩), .pointer (some ⟨gm, 0, none⟩)] w (FPost "sluice/wire.schema" w0 g gm base body ab nb cb at_ bad m w) := by
  go_enter Try.func117, Try.ntmps117
  go_wp2_with fail
  refine (rd_bytes hc.rc h.rs).mono ?_
  rintro e w1 ⟨l, ao, n, co, a2, b2, hl, hnb, rfl, hown, hrs, hg, hz, hst⟩
  have hnn := hc.nbs
  have hcv := conv_b hl hown
  have hk1 := blk_g hc.ne h.blk hg
  have hcell := hk1.cell 28 (by rw [cellsM_len]; omega)
  have hfr := hk1.frozen 28
  have hs1 := hk1.setCell 28 (.string ⟨l.toArray⟩)
  have hg2 := (Gr2.ofg gm hg).trans (Gr2.ofm g hs1.2)
  have hsz : (⟨l.toArray⟩ : ByteArray).size = n := by rw [← hl]; show l.toArray.size = _; simp
  have hfin : FPost "sluice/wire.schema" w0 g gm base body ab nb cb at_ bad m w (.returned (.tuple #[])) (w1.setCell ⟨gm, 28, none⟩ (.string ⟨l.toArray⟩)) := by
    refine ⟨{ m with schema := ⟨l.toArray⟩ }, q, a2, b2, rfl, ⟨rs_gm hc hrs hs1.2, hs1.1, h.own.two hg2 hc.g1 hc.gm1, ⟨{ h.vx.1 with sl := by rw [hsz]; omega }, h.vx.2⟩, Nat.le_trans h.le hg2.size⟩, hg2, rfl, ?_⟩
    rcases hst with ⟨h1, h2, e, rfl, h4⟩ | ⟨h1, h2⟩
    · refine .inl ⟨h1, h2, ?_⟩
      rw [h4]
      show _ = encText ⟨l.toArray⟩ ++ _
      rw [encText, hsz, hl]
    · refine .inr ⟨h1, h2.imp id fun hno x r hx => ?_⟩
      show _ ≠ encText x.schema ++ r
      have hx2 := hx.1.sl
      have hxl : x.schema.data.toList.length = x.schema.size := by rw [Array.length_toList]; rfl
      have := hno x.schema.data.toList (by rw [hxl]; omega) r
      rw [hxl] at this
      exact this
  have HF := Lib.hid hfin
  obtain ⟨y, hy⟩ : ∃ y, y = (cellsM m q)[28]'(by rw [cellsM_len]; omega) := ⟨_, rfl⟩
  rw [← hy] at hcell
  clear hy hk1 hs1 hg2 hfin hrs hg hz hst h hc hown hl hsz hnb hnn
  go_wp2
  go_end0
  exact HF.out
set_option maxRecDepth 20000 in
theorem rf2_query {w0 : World} {g gm base : Nat} {body : List UInt8} {ab : Option Addr} {nb cb at_ : Nat} {bad : Bool} {m : M} {q : Ps} {w : World} (hc : FC w0 g gm base body ab nb cb) (h : FS w0 g gm base body ab nb cb at_ bad m q w) :
    Calls Try.prog 116 #[.pointer (some ⟨g, 0, none⟩), .pointer (some ⟨gm, 0, none⟩)] w (FPost "sluice/wire.query" w0 g gm base body ab nb cb at_ bad m w) := by
  go_enter Try.func116, Try.ntmps116
  go_wp2_with fail
  refine (rd_bytes hc.rc h.rs).mono ?_
  rintro e w1 ⟨l, ao, n, co, a2, b2, hl, hnb, rfl, hown, hrs, hg, hz, hst⟩
  have hnn := hc.nbs
  have hcv := conv_b hl hown
  have hk1 := blk_g hc.ne h.blk hg
  have hcell := hk1.cell 29 (by rw [cellsM_len]; omega)
  have hfr := hk1.frozen 29
  have hs1 := hk1.setCell 29 (.string ⟨l.toArray⟩)
  have hg2 := (Gr2.ofg gm hg).trans (Gr2.ofm g hs1.2)
  have hsz : (⟨l.toArray⟩ : ByteArray).size = n := by rw [← hl]; show l.toArray.size = _; simp
  have hfin : FPost "sluice/wire.query" w0 g gm base body ab nb cb at_ bad m w (.returned (.tuple #[])) (w1.setCell ⟨gm, 29, none⟩ (.string ⟨l.toArray⟩)) := by
    refine ⟨{ m with query := ⟨l.toArray⟩ }, q, a2, b2, rfl, ⟨rs_gm hc hrs hs1.2, hs1.1, h.own.two hg2 hc.g1 hc.gm1, ⟨{ h.vx.1 with ql := by rw [hsz]; omega }, h.vx.2⟩, Nat.le_trans h.le hg2.size⟩, hg2, rfl, ?_⟩
    rcases hst with ⟨h1, h2, e, rfl, h4⟩ | ⟨h1, h2⟩
    · refine .inl ⟨h1, h2, ?_⟩
      rw [h4]
      show _ = encText ⟨l.toArray⟩ ++ _
      rw [encText, hsz, hl]
    · refine .inr ⟨h1, h2.imp id fun hno x r hx => ?_⟩
      show _ ≠ encText x.query ++ r
      have hx2 := hx.1.ql
      have hxl : x.query.data.toList.length = x.query.size := by rw [Array.length_toList]; rfl
      have := hno x.query.data.toList (by rw [hxl]; omega) r
      rw [hxl] at this
      exact this
  have HF := Lib.hid hfin
  obtain ⟨y, hy⟩ : ∃ y, y = (cellsM m q)[29]'(by rw [cellsM_len]; omega) := ⟨_, rfl⟩
  rw [← hy] at hcell
  clear hy hk1 hs1 hg2 hfin hrs hg hz hst h hc hown hl hsz hnb hnn
  go_wp2
  go_end0
  exact HF.out
set_option maxRecDepth 20000 in
theorem rf2_image {w0 : World} {g gm base : Nat} {body : List UInt8} {ab : Option Addr} {nb cb at_ : Nat} {bad : Bool} {m : M} {q : Ps} {w : World} (hc : FC w0 g gm base body ab nb cb) (h : FS w0 g gm base body ab nb cb at_ bad m q w) :
    Calls Try.prog 113 #[.pointer (some ⟨g, 0, none⟩), .pointer (some ⟨gm, 0, none⟩)] w (FPost "sluice/wire.image" w0 g gm base body ab nb cb at_ bad m w) := by
  go_enter Try.func113, Try.ntmps113
  go_wp2_with fail
  refine (rd_bytes hc.rc h.rs).mono ?_
  rintro e w1 ⟨l, ao, n, co, a2, b2, hl, hnb, rfl, hown, hrs, hg, hz, hst⟩
  have hnn := hc.nbs
  have hk1 := blk_g hc.ne h.blk hg
  have hcell := hk1.cell 30 (by rw [cellsM_len]; omega)
  have hfr := hk1.frozen 30
  have hs1 := hk1.setCell 30 (.slice ao n co)
  have hg2 := (Gr2.ofg gm hg).trans (Gr2.ofm g hs1.2)
  have hw1 := own_low hown h.le
  have hw2 := own2 hw1 (Gr2.ofm g hs1.2) hc.g1 hc.gm1
  have hfin : FPost "sluice/wire.image" w0 g gm base body ab nb cb at_ bad m w (.returned (.tuple #[])) (w1.setCell ⟨gm, 30, none⟩ (.slice ao n co)) := by
    have ho := h.own.two hg2 hc.g1 hc.gm1
    subst hl
    refine ⟨{ m with image := l }, { q with ai := ao, ci := co }, a2, b2, rfl, ⟨rs_gm hc hrs hs1.2, hs1.1, ⟨ho.1, ho.2.1, ho.2.2.1, hw2⟩, ⟨{ h.vx.1 with il := by show l.length ≤ _; omega }, h.vx.2⟩, Nat.le_trans h.le hg2.size⟩, hg2, rfl, ?_⟩
    rcases hst with ⟨h1, h2, e, rfl, h4⟩ | ⟨h1, h2⟩
    · exact .inl ⟨h1, h2, h4⟩
    · refine .inr ⟨h1, h2.imp id fun hno x r hx => ?_⟩
      have hx2 := hx.1.il
      exact hno x.image (by omega) r
  have HF := Lib.hid hfin
  obtain ⟨y, hy⟩ : ∃ y, y = (cellsM m q)[30]'(by rw [cellsM_len]; omega) := ⟨_, rfl⟩
  rw [← hy] at hcell
  clear hy hk1 hs1 hg2 hfin hrs hg hz hst h hc hown hl hnb hnn hw1 hw2
  go_wp2
  go_end0
  exact HF.out
set_option maxRecDepth 20000 in
theorem rf2_handle {w0 : World} {g gm base : Nat} {body : List UInt8} {ab : Option Addr} {nb cb at_ : Nat} {bad : Bool} {m : M} {q : Ps} {w : World} (hc : FC w0 g gm base body ab nb cb) (h : FS w0 g gm base body ab nb cb at_ bad m q w) :
    Calls Try.prog 112 #[.pointer (some ⟨g, 0, none⟩), .pointer (some ⟨gm, 0, none⟩)] w (FPost "sluice/wire.handle" w0 g gm base body ab nb cb at_ bad m w) := by
  go_enter Try.func112, Try.ntmps112
  go_wp2_with fail
  refine (rd_uint hc.rc h.rs).mono ?_
  rintro e w1 ⟨n, a2, b2, rfl, hn, hrs, hg, hz, hst⟩
  have hk1 := blk_g hc.ne h.blk hg
  have hcell := hk1.cell 1 (by rw [cellsM_len]; omega)
  have hfr := hk1.frozen 1
  obtain ⟨_, _, c2, _, f2⟩ := hrs.cells
  by_cases hbig : 9223372036854775807 < n
  · have hb : (9223372036854775807 : Int) < n := by omega
    have hsb := hrs.setBad hc.rc true
    have hg2 := Gr2.ofg gm (grown_trans2 hg hsb.2)
    have hfin : FPost "sluice/wire.handle" w0 g gm base body ab nb cb at_ bad m w (.returned (.tuple #[])) (w1.setCell ⟨g, 2, none⟩ (.bool true)) := by
      refine ⟨m, q, a2, true, rfl, ⟨hsb.1, blk_g hc.ne hk1 hsb.2, h.own.two hg2 hc.g1 hc.gm1, h.vx, Nat.le_trans h.le hg2.size⟩, hg2, rfl, .inr ⟨rfl, ?_⟩⟩
      rcases hst with ⟨h1, h2, e, rfl, h4⟩ | ⟨h1, h2⟩
      · refine .inr fun x r hx he => ?_
        have hx1 := hx.1.handle
        have hx2 := hx.2.1
        unfold I64 at hx1
        rw [h4] at he
        have := (ud_U hn (by omega) (he : _ = bytesU x.handle.toNat ++ r)).1
        omega
      · rw [hz h1] at hbig
        omega
    have HF := Lib.hid hfin
    clear hk1 hsb hg2 hfin hrs hg hz hst h hc hbig hcell hfr
    go_wp2
    go_end0
    exact HF.out
  · have hb : ¬ (9223372036854775807 : Int) < n := by omega
    have hs1 := hk1.setCell 1 (.int .i64 (n : Int))
    have hg2 := (Gr2.ofg gm hg).trans (Gr2.ofm g hs1.2)
    have hfin : FPost "sluice/wire.handle" w0 g gm base body ab nb cb at_ bad m w (.returned (.tuple #[])) (w1.setCell ⟨gm, 1, none⟩ (.int .i64 (n : Int))) := by
      refine ⟨{ m with handle := n }, q, a2, b2, rfl, ⟨rs_gm hc hrs hs1.2, hs1.1, h.own.two hg2 hc.g1 hc.gm1, ⟨{ h.vx.1 with handle := by show I64 (n : Int); unfold I64; omega }, by show (0 : Int) ≤ (n : Int); omega, h.vx.2.2⟩, Nat.le_trans h.le hg2.size⟩, hg2, rfl, ?_⟩
      rcases hst with ⟨h1, h2, e, rfl, h4⟩ | ⟨h1, h2⟩
      · refine .inl ⟨h1, h2, ?_⟩
        show _ = bytesU ((n : Int).toNat) ++ _
        rw [Int.toNat_natCast]
        exact h4
      · refine .inr ⟨h1, h2.imp id fun hno x r hx => ?_⟩
        have hx1 := hx.1.handle
        unfold I64 at hx1
        exact hno x.handle.toNat (by omega) r
    have hwz : IntKind.i64.wrap (n : Int) = (n : Int) := by rw [IntKind.wrap_i64]; omega
    have HF := Lib.hid hfin
    obtain ⟨y, hy⟩ : ∃ y, y = (cellsM m q)[1]'(by rw [cellsM_len]; omega) := ⟨_, rfl⟩
    rw [← hy] at hcell
    clear hy hk1 hs1 hg2 hfin hrs hg hz hst h hc hbig
    go_wp2
    go_end0
    exact HF.out
end Go.Proofs.Ytaipnbpefdcejaa
/- Steps of reading, one behind the other; the walk of the reader's fault. -/
set_option linter.unusedVariables false
namespace Go.Proofs.Ytaipnbpefdcejaa
open Go.RowKit
/-- What is written is read in one way alone. -/
def UD {α : Type} (e : α → List UInt8) (v : α → Prop) : Prop := ∀ x y r r', v x → v y → e x ++ r = e y ++ r' → x = y ∧ r = r'
/-- A step: x is read; or the bytes are bad. -/
def SP {α : Type} (e : α → List UInt8) (v : α → Prop) (body : List UInt8) (at_ : Nat) (bad : Bool) (a2 : Nat) (b2 : Bool) (x : α) : Prop :=
  (bad = false ∧ b2 = false ∧ v x ∧ body.drop at_ = e x ++ body.drop a2) ∨ (b2 = true ∧ (bad = true ∨ ∀ y r, v y → body.drop at_ ≠ e y ++ r))
theorem SP.comp {α β : Type} {e1 : α → List UInt8} {v1 : α → Prop} {e2 : β → List UInt8} {v2 : β → Prop} {body : List UInt8} {at_ a1 a2 : Nat} {bad b1 b2 : Bool} {x1 : α} {x2 : β}
    (h1 : SP e1 v1 body at_ bad a1 b1 x1) (h2 : SP e2 v2 body a1 b1 a2 b2 x2) (hu : UD e1 v1) : SP (fun p : α × β => e1 p.1 ++ e2 p.2) (fun p => v1 p.1 ∧ v2 p.2) body at_ bad a2 b2 (x1, x2) := by
  rcases h1 with ⟨p1, p2, p3, p4⟩ | ⟨p1, p2⟩
  · rcases h2 with ⟨q1, q2, q3, q4⟩ | ⟨q1, q2⟩
    · exact .inl ⟨p1, q2, ⟨p3, q3⟩, by rw [p4, q4, List.append_assoc]⟩
    · refine .inr ⟨q1, .inr fun y r hy he => ?_⟩
      rcases q2 with q2 | q2
      · rw [p2] at q2; cases q2
      · rw [p4, List.append_assoc] at he
        exact q2 y.2 r hy.2 (hu _ _ _ _ p3 hy.1 he).2
  · rcases h2 with ⟨q1, q2, q3, q4⟩ | ⟨q1, q2⟩
    · rw [p1] at q1; cases q1
    · exact .inr ⟨q1, p2.imp id fun hno y r hy he => hno y.1 (e2 y.2 ++ r) hy.1 (by rw [he, List.append_assoc])⟩
theorem UD.pair {α β : Type} {e1 : α → List UInt8} {v1 : α → Prop} {e2 : β → List UInt8} {v2 : β → Prop} (h1 : UD e1 v1) (h2 : UD e2 v2) : UD (fun p : α × β => e1 p.1 ++ e2 p.2) (fun p => v1 p.1 ∧ v2 p.2) := by
  intro x y r r' hx hy he
  rw [List.append_assoc, List.append_assoc] at he
  obtain ⟨g1, g2⟩ := h1 _ _ _ _ hx.1 hy.1 he
  obtain ⟨g3, g4⟩ := h2 _ _ _ _ hx.2 hy.2 g2
  exact ⟨Prod.ext g1 g3, g4⟩
theorem udI : UD bytesI I64 := by
  intro x y r r' hx hy he
  obtain ⟨g1, g2⟩ := ud_U (zig_lt x hx) (zig_lt y hy) he
  exact ⟨zig_inj g1, g2⟩
def SmallN (n : Nat) : Prop := n < 18446744073709551616
theorem udN : UD bytesU SmallN := fun x y r r' hx hy he => ud_U hx hy he
theorem udT : UD byT (fun _ => True) := by
  intro x y r r' _ _ he
  simp only [byT, List.cons_append, List.nil_append] at he
  injection he with h1 h2
  refine ⟨?_, h2⟩
  cases x <;> cases y <;> first | rfl | simp at h1
theorem sp_int {body : List UInt8} {at_ a2 : Nat} {bad b2 : Bool} {i : Int} (hi : I64 i) (h : Step body at_ bad a2 b2 (fun e => e = bytesU (zig i)) (∀ i : Int, (-9223372036854775808 ≤ i ∧ i ≤ 9223372036854775807) → ∀ r, body.drop at_ ≠ bytesU (zig i) ++ r)) : SP bytesI I64 body at_ bad a2 b2 i := by
  rcases h with ⟨h1, h2, e, rfl, h4⟩ | ⟨h1, h2⟩
  · exact .inl ⟨h1, h2, hi, h4⟩
  · exact .inr ⟨h1, h2.imp id fun hno y r hy => hno y hy r⟩
theorem sp_uint {body : List UInt8} {at_ a2 : Nat} {bad b2 : Bool} {n : Nat} (hn : n < 18446744073709551616) (h : Step body at_ bad a2 b2 (fun e => e = bytesU n) (∀ n, n < 18446744073709551616 → ∀ r, body.drop at_ ≠ bytesU n ++ r)) : SP bytesU SmallN body at_ bad a2 b2 n := by
  rcases h with ⟨h1, h2, e, rfl, h4⟩ | ⟨h1, h2⟩
  · exact .inl ⟨h1, h2, hn, h4⟩
  · exact .inr ⟨h1, h2.imp id fun hno y r hy => hno y hy r⟩
theorem sp_truth {body : List UInt8} {at_ a2 : Nat} {bad b2 : Bool} {t : Bool} (h : Step body at_ bad a2 b2 (fun e => e = [if t then 1 else 0]) (∀ (t : Bool) (r : List UInt8), body.drop at_ ≠ [if t then 1 else 0] ++ r)) : SP byT (fun _ => True) body at_ bad a2 b2 t := by
  rcases h with ⟨h1, h2, e, rfl, h4⟩ | ⟨h1, h2⟩
  · exact .inl ⟨h1, h2, trivial, h4⟩
  · exact .inr ⟨h1, h2.imp id fun hno y r _ => hno y r⟩
/-- A step tells of a field. -/
theorem SP.verdict {α : Type} {e : α → List UInt8} {v : α → Prop} {body : List UInt8} {at_ a2 : Nat} {bad b2 : Bool} {x : α} (s : String) (m' : M) (π : M → α) (h : SP e v body at_ bad a2 b2 x) (hx : π m' = x) (he : ∀ y, encF s y = e (π y)) (hv : ∀ y, VX y → v (π y)) : Verdict s body at_ bad a2 b2 m' := by
  subst hx
  rcases h with ⟨h1, h2, _, h4⟩ | ⟨h1, h2⟩
  · exact .inl ⟨h1, h2, by rw [he]; exact h4⟩
  · exact .inr ⟨h1, h2.imp id fun hno y r hy => by rw [he]; exact hno (π y) r (hv y hy)⟩
/-- One int more is read and stored in the message. -/
theorem fs_int {w0 : World} {g gm base : Nat} {body : List UInt8} {ab : Option Addr} {nb cb : Nat} {w w1 : World} {cs : List Value} {a2 : Nat} {b2 : Bool} (hc : FC w0 g gm base body ab nb cb) (hk : Blk w gm 50 cs)
    (hrs : RS w0 g body ab nb cb a2 b2 w1) (hg : w.grownBy w1 (some g)) (i : Nat) (v : Value) :
    RS w0 g body ab nb cb a2 b2 (w1.setCell ⟨gm, i, none⟩ v) ∧ Blk w1 gm 50 cs ∧ Blk (w1.setCell ⟨gm, i, none⟩ v) gm 50 (cs.set i v) ∧ Gr2 g gm w (w1.setCell ⟨gm, i, none⟩ v) := by
  have hk1 := blk_g hc.ne hk hg
  have hs := hk1.setCell i v
  exact ⟨rs_gm hc hrs hs.2, hk1, hs.1, (Gr2.ofg gm hg).trans (Gr2.ofm g hs.2)⟩
set_option maxRecDepth 20000 in
theorem rf2_fault {w0 : World} {g gm base : Nat} {body : List UInt8} {ab : Option Addr} {nb cb at_ : Nat} {bad : Bool} {m : M} {q : Ps} {w : World} (hc : FC w0 g gm base body ab nb cb) (h : FS w0 g gm base body ab nb cb at_ bad m q w) :
    Calls Try.prog 111 #[.pointer (some ⟨g, 0, none⟩), .pointer (some ⟨gm, 0, none⟩)] w (FPost "sluice/wire.fault" w0 g gm base body ab nb cb at_ bad m w) := by
  have HC := Lib.hid hc
  have HH := Lib.hid h
  go_enter Try.func111, Try.ntmps111
  go_wp2_with fail
  refine (rd_int hc.rc h.rs).mono ?_
  rintro e w1 ⟨i1, at1, b1, rfl, hi1, hrs1, hg1, hz1, hst1⟩
  obtain ⟨hr2, hk1, hk2, hgr2⟩ := fs_int hc h.blk hrs1 hg1 24 (.int .i64 i1)
  have hcell := hk1.cell 24 (by rw [cellsM_len]; omega)
  have hfr := hk1.frozen 24
  obtain ⟨y, hy⟩ : ∃ y, y = (cellsM m q)[24]'(by rw [cellsM_len]; omega) := ⟨_, rfl⟩
  rw [← hy] at hcell
  have HI1 := Lib.hid (show I64 i1 from hi1)
  have HP1 := Lib.hid (sp_int hi1 hst1)
  have HR2 := Lib.hid hr2
  have HK2 := Lib.hid hk2
  have HG2 := Lib.hid hgr2
  clear hy hk1 hr2 hk2 hgr2 hrs1 hg1 hz1 hst1 hi1 h hc
  obtain ⟨w2, hw2⟩ : ∃ x, x = w1.setCell ⟨gm, 24, none⟩ (.int .i64 i1) := ⟨_, rfl⟩
  rw [← hw2] at HR2 HK2 HG2
  go_upto_region 1 with fail
  rw [← hw2]
  clear hw2 hcell hfr
  go_wp2_with fail
  refine (rd_int HC.out.rc HR2.out).mono ?_
  rintro e w3 ⟨i2, at2, b2, rfl, hi2, hrs3, hg3, hz3, hst3⟩
  obtain ⟨hr4, hk3, hk4, hgr4⟩ := fs_int HC.out HK2.out hrs3 hg3 25 (.int .i64 i2)
  have hcell := hk3.cell 25 (by rw [List.length_set, cellsM_len]; omega)
  have hfr := hk3.frozen 25
  obtain ⟨y2, hy2⟩ : ∃ y, y = ((cellsM m q).set 24 (.int .i64 i1))[25]'(by rw [List.length_set, cellsM_len]; omega) := ⟨_, rfl⟩
  rw [← hy2] at hcell
  have HI2 := Lib.hid (show I64 i2 from hi2)
  have HP2 := Lib.hid (HP1.out.comp (sp_int hi2 hst3) udI)
  have HR4 := Lib.hid hr4
  have HK4 := Lib.hid hk4
  have HG4 := Lib.hid (HG2.out.trans hgr4)
  clear hy2 hk3 hr4 hk4 hgr4 hrs3 hg3 hz3 hst3 hi2
  obtain ⟨w4, hw4⟩ : ∃ x, x = w3.setCell ⟨gm, 25, none⟩ (.int .i64 i2) := ⟨_, rfl⟩
  rw [← hw4] at HR4 HK4 HG4
  go_upto_region 2 with fail
  rw [← hw4]
  clear hw4 hcell hfr
  go_wp2_with fail
  refine (rd_int HC.out.rc HR4.out).mono ?_
  rintro e w5 ⟨i3, at3, b3, rfl, hi3, hrs5, hg5, hz5, hst5⟩
  obtain ⟨hr6, hk5, hk6, hgr6⟩ := fs_int HC.out HK4.out hrs5 hg5 26 (.int .i64 i3)
  have hcell := hk5.cell 26 (by rw [List.length_set, List.length_set, cellsM_len]; omega)
  have hfr := hk5.frozen 26
  obtain ⟨y3, hy3⟩ : ∃ y, y = (((cellsM m q).set 24 (.int .i64 i1)).set 25 (.int .i64 i2))[26]'(by rw [List.length_set, List.length_set, cellsM_len]; omega) := ⟨_, rfl⟩
  rw [← hy3] at hcell
  have hgr := HG4.out.trans hgr6
  have hfin : FPost "sluice/wire.fault" w0 g gm base body ab nb cb at_ bad m w (.returned (.tuple #[])) (w5.setCell ⟨gm, 26, none⟩ (.int .i64 i3)) := by
    refine ⟨{ m with fwhere := i1, fcode := i2, fat := i3 }, q, at3, b3, rfl, ⟨hr6, hk6, HH.out.own.two hgr HC.out.g1 HC.out.gm1, ⟨{ HH.out.vx.1 with fwhere := HI1.out, fcode := HI2.out, fat := hi3 }, HH.out.vx.2⟩, Nat.le_trans HH.out.le hgr.size⟩, hgr, rfl, ?_⟩
    refine (HP2.out.comp (sp_int hi3 hst5) (udI.pair udI)).verdict _ _ (fun x => ((x.fwhere, x.fcode), x.fat)) rfl (fun y => ?_) (fun y hy => ⟨⟨hy.1.fwhere, hy.1.fcode⟩, hy.1.fat⟩)
    show encFault y = _
    rw [encFault, List.append_assoc]
  have HF := Lib.hid hfin
  clear hy3 hk5 hr6 hk6 hgr6 hrs5 hg5 hz5 hst5 hi3 hgr hfin
  go_wp2
  go_end0
  exact HF.out
end Go.Proofs.Ytaipnbpefdcejaa
/- The walks of the reader's event and sizes. -/
set_option linter.unusedVariables false
namespace Go.Proofs.Ytaipnbpefdcejaa
open Go.RowKit
theorem SP.map {α β : Type} {e : α → List UInt8} {v : α → Prop} {e' : β → List UInt8} {v' : β → Prop} {body : List UInt8} {at_ a2 : Nat} {bad b2 : Bool} {x : α} (h : SP e v body at_ bad a2 b2 x) (x' : β) (hx : v x → v' x' ∧ e' x' = e x) (f : β → α) (hf : ∀ y, v' y → v (f y) ∧ e' y = e (f y)) : SP e' v' body at_ bad a2 b2 x' := by
  rcases h with ⟨h1, h2, h3, h4⟩ | ⟨h1, h2⟩
  · exact .inl ⟨h1, h2, (hx h3).1, by rw [(hx h3).2]; exact h4⟩
  · exact .inr ⟨h1, h2.imp id fun hno y r hy => by rw [(hf y hy).2]; exact hno (f y) r (hf y hy).1⟩
def vL {α : Type} (v : α → Prop) (k : Nat) (l : List α) : Prop := l.length = k ∧ ∀ z ∈ l, v z
theorem udL {α : Type} {e : α → List UInt8} {v : α → Prop} (hu : UD e v) : ∀ k, UD (fun l : List α => l.flatMap e) (vL v k) := by
  intro k
  induction k with
  | zero =>
    intro x y r r' hx hy he
    obtain rfl := List.eq_nil_of_length_eq_zero hx.1
    obtain rfl := List.eq_nil_of_length_eq_zero hy.1
    exact ⟨rfl, he⟩
  | succ k ih =>
    intro x y r r' hx hy he
    cases x with
    | nil => simp [vL] at hx
    | cons a x =>
      cases y with
      | nil => simp [vL] at hy
      | cons b y =>
        simp only [List.flatMap_cons, List.append_assoc] at he
        obtain ⟨h1, h2⟩ := hu _ _ _ _ (hx.2 a (by simp)) (hy.2 b (by simp)) he
        obtain ⟨h3, h4⟩ := ih x y r r' ⟨by simpa using hx.1, fun z hz => hx.2 z (by simp [hz])⟩ ⟨by simpa using hy.1, fun z hz => hy.2 z (by simp [hz])⟩ h2
        exact ⟨by rw [h1, h3], h4⟩
theorem SP.snoc {α β : Type} {e0 : α → List UInt8} {v0 : α → Prop} {e : β → List UInt8} {v : β → Prop} {body : List UInt8} {at_ a1 a2 k : Nat} {bad b1 b2 : Bool} {x : α} {l : List β} {i : β}
    (h1 : SP (fun p : α × List β => e0 p.1 ++ p.2.flatMap e) (fun p => v0 p.1 ∧ vL v k p.2) body at_ bad a1 b1 (x, l)) (h2 : SP e v body a1 b1 a2 b2 i) (hu0 : UD e0 v0) (hu : UD e v) :
    SP (fun p : α × List β => e0 p.1 ++ p.2.flatMap e) (fun p => v0 p.1 ∧ vL v (k + 1) p.2) body at_ bad a2 b2 (x, l ++ [i]) := by
  refine (h1.comp h2 (hu0.pair (udL hu k))).map _ (fun h => ⟨⟨h.1.1, by simp [h.1.2.1], fun z hz => ?_⟩, by simp [List.flatMap_append, List.append_assoc]⟩) (fun p => ((p.1, p.2.take k), p.2.getLastD i)) (fun y hy => ?_)
  · rcases List.mem_append.1 hz with hz | hz
    · exact h.1.2.2 z hz
    · simp at hz; subst hz; exact h.2
  · obtain ⟨y1, y2⟩ := y
    have hlen := hy.2.1
    simp only at hlen
    have hne : y2 ≠ [] := by intro h0; rw [h0] at hlen; simp at hlen
    have hsp : y2 = y2.take k ++ [y2.getLastD i] := by
      have h3 := List.dropLast_concat_getLast hne
      rw [List.dropLast_eq_take, hlen, Nat.add_sub_cancel] at h3
      rw [List.getLastD_eq_getLast?, List.getLast?_eq_some_getLast hne]
      exact h3.symm
    refine ⟨⟨⟨hy.1, by show (y2.take k).length = k; rw [List.length_take]; omega, fun z hz => hy.2.2 z (List.mem_of_mem_take hz)⟩, hy.2.2 _ ?_⟩, ?_⟩
    · show y2.getLastD i ∈ y2
      rw [List.getLastD_eq_getLast?, List.getLast?_eq_some_getLast hne]
      exact List.getLast_mem hne
    · show e0 y1 ++ y2.flatMap e = (e0 y1 ++ (y2.take k).flatMap e) ++ e (y2.getLastD i)
      conv => lhs; rw [hsp]
      simp [List.flatMap_append, List.append_assoc]
theorem SP.nil {α β : Type} {e0 : α → List UInt8} {v0 : α → Prop} (e : β → List UInt8) (v : β → Prop) {body : List UInt8} {at_ a1 : Nat} {bad b1 : Bool} {x : α} (h : SP e0 v0 body at_ bad a1 b1 x) :
    SP (fun p : α × List β => e0 p.1 ++ p.2.flatMap e) (fun p => v0 p.1 ∧ vL v 0 p.2) body at_ bad a1 b1 (x, []) := by
  refine h.map _ (fun h => ⟨⟨h, rfl, fun z hz => by simp at hz⟩, by simp⟩) (fun p => p.1) (fun y hy => ⟨hy.1, ?_⟩)
  have := List.eq_nil_of_length_eq_zero hy.2.1
  simp [this]
def evF (m x : M) : M := { m with ts := x.ts, id := x.id, typ := x.typ, a0 := x.a0, a1 := x.a1, a2 := x.a2, a3 := x.a3, a4 := x.a4, a5 := x.a5, a6 := x.a6, a7 := x.a7 }
set_option maxHeartbeats 4000000 in
set_option maxRecDepth 20000 in
theorem rf2_event {w0 : World} {g gm base : Nat} {body : List UInt8} {ab : Option Addr} {nb cb at_ : Nat} {bad : Bool} {m : M} {q : Ps} {w : World} (hc : FC w0 g gm base body ab nb cb) (h : FS w0 g gm base body ab nb cb at_ bad m q w) :
    Calls Try.prog 110 #[.pointer (some ⟨g, 0, none⟩), .pointer (some ⟨gm, 0, none⟩)] w (FPost "sluice/wire.event" w0 g gm base body ab nb cb at_ bad m w) := by
  have HC := Lib.hid hc
  have HH := Lib.hid h
  go_enter Try.func110, Try.ntmps110
  go_wp2_with fail
  refine (rd_int HC.out.rc HH.out.rs).mono ?_
  rintro e v1 ⟨i1, at1, b1, rfl, hi1, hrs1, hg1, hz1, hst1⟩
  obtain ⟨hr1, hk1, hl1, hgr1⟩ := fs_int HC.out HH.out.blk hrs1 hg1 3 (.int .i64 i1)
  have hcell := hk1.cell 3 (by rw [cellsM_len]; omega)
  have hfr := hk1.frozen 3
  obtain ⟨y, hy⟩ : ∃ y, y = (cellsM m q)[3]'(by rw [cellsM_len]; omega) := ⟨_, rfl⟩
  rw [← hy] at hcell
  have HI1 := Lib.hid (show I64 i1 from hi1)
  have HP1 := Lib.hid (sp_int hi1 hst1)
  have HR1 := Lib.hid hr1
  have HK1 := Lib.hid hl1
  have HG1 := Lib.hid (hgr1)
  clear hy hk1 hr1 hl1 hgr1 hrs1 hg1 hz1 hst1 hi1
  obtain ⟨w1, hw1⟩ : ∃ x, x = v1.setCell ⟨gm, 3, none⟩ (.int .i64 i1) := ⟨_, rfl⟩
  rw [← hw1] at HR1 HK1 HG1
  go_upto_region 1 with fail
  rw [← hw1]
  clear hw1 hcell hfr
  clear h hc
  go_wp2_with fail
  refine (rd_uint HC.out.rc HR1.out).mono ?_
  rintro e v2 ⟨i2, at2, b2, rfl, hi2, hrs2, hg2, hz2, hst2⟩
  obtain ⟨hr2, hk2, hl2, hgr2⟩ := fs_int HC.out HK1.out hrs2 hg2 4 (.int .u64 (i2 : Int))
  have hcell := hk2.cell 4 (by rw [List.length_set, cellsM_len]; omega)
  have hfr := hk2.frozen 4
  obtain ⟨y, hy⟩ : ∃ y, y = ((cellsM m q).set 3 (.int .i64 i1))[4]'(by rw [List.length_set, cellsM_len]; omega) := ⟨_, rfl⟩
  rw [← hy] at hcell
  have HI2 := Lib.hid (show U64 (i2 : Int) from by unfold U64; omega)
  have HP2 := Lib.hid ((HP1.out).comp (sp_uint hi2 hst2) udI)
  have HR2 := Lib.hid hr2
  have HK2 := Lib.hid hl2
  have HG2 := Lib.hid (HG1.out.trans hgr2)
  clear hy hk2 hr2 hl2 hgr2 hrs2 hg2 hz2 hst2 hi2
  obtain ⟨w2, hw2⟩ : ∃ x, x = v2.setCell ⟨gm, 4, none⟩ (.int .u64 (i2 : Int)) := ⟨_, rfl⟩
  rw [← hw2] at HR2 HK2 HG2
  go_upto_region 2 with fail
  rw [← hw2]
  clear hw2 hcell hfr
  go_wp2_with fail
  refine (rd_int HC.out.rc HR2.out).mono ?_
  rintro e v3 ⟨i3, at3, b3, rfl, hi3, hrs3, hg3, hz3, hst3⟩
  obtain ⟨hr3, hk3, hl3, hgr3⟩ := fs_int HC.out HK2.out hrs3 hg3 5 (.int .i64 i3)
  have hcell := hk3.cell 5 (by rw [List.length_set, List.length_set, cellsM_len]; omega)
  have hfr := hk3.frozen 5
  obtain ⟨y, hy⟩ : ∃ y, y = (((cellsM m q).set 3 (.int .i64 i1)).set 4 (.int .u64 (i2 : Int)))[5]'(by rw [List.length_set, List.length_set, cellsM_len]; omega) := ⟨_, rfl⟩
  rw [← hy] at hcell
  have HI3 := Lib.hid (show I64 i3 from hi3)
  have HP3 := Lib.hid ((HP2.out).comp (sp_int hi3 hst3) (udI.pair udN))
  have HR3 := Lib.hid hr3
  have HK3 := Lib.hid hl3
  have HG3 := Lib.hid (HG2.out.trans hgr3)
  clear hy hk3 hr3 hl3 hgr3 hrs3 hg3 hz3 hst3 hi3
  obtain ⟨w3, hw3⟩ : ∃ x, x = v3.setCell ⟨gm, 5, none⟩ (.int .i64 i3) := ⟨_, rfl⟩
  rw [← hw3] at HR3 HK3 HG3
  go_upto_region 3 with fail
  rw [← hw3]
  clear hw3 hcell hfr
  obtain ⟨x0, hx0⟩ : ∃ x0 : M, x0 = { m with ts := i1, id := (i2 : Int), typ := i3 } := ⟨_, rfl⟩
  have hcs : ((((cellsM m q).set 3 (.int .i64 i1)).set 4 (.int .u64 (i2 : Int))).set 5 (.int .i64 i3)) = cellsM (evF m x0) q := by rw [hx0]; rfl
  have hk4 := HK3.out
  rw [hcs] at hk4
  have hv4 : VX (evF m x0) := by
    rw [hx0]
    exact ⟨{ HH.out.vx.1 with ts := HI1.out, id := HI2.out, typ := HI3.out }, HH.out.vx.2⟩
  have hsp4 : SP (fun p : ((Int × Nat) × Int) × List Int => (bytesI p.1.1.1 ++ bytesU p.1.1.2 ++ bytesI p.1.2) ++ p.2.flatMap bytesI) (fun p => ((I64 p.1.1.1 ∧ SmallN p.1.1.2) ∧ I64 p.1.2) ∧ vL I64 0 p.2) body at_ bad at3 b3 (((x0.ts, x0.id.toNat), x0.typ), (attrs (evF m x0)).take 0) := by
    rw [hx0]
    exact HP3.out.nil bytesI I64
  clear hx0 hcs
  have hr4 := HR3.out
  have hg4 := HG3.out
  clear HK3 HP3 HR3 HG3 HI1 HI2 HI3 HP1 HP2 HR1 HR2 HK1 HK2 HG1 HG2
  go_wp2_with fail
  go_loopw [23] (fun i wr => ∃ (k : Nat) (x : M) (a : Nat) (b : Bool), k ≤ 8 ∧ i = .int .i64 (k : Int) ∧ RS w0 g body ab nb cb a b wr ∧ Blk wr gm 50 (cellsM (evF m x) q) ∧ Gr2 g gm w wr ∧ VX (evF m x) ∧
    SP (fun p : ((Int × Nat) × Int) × List Int => (bytesI p.1.1.1 ++ bytesU p.1.1.2 ++ bytesI p.1.2) ++ p.2.flatMap bytesI) (fun p => ((I64 p.1.1.1 ∧ SmallN p.1.1.2) ∧ I64 p.1.2) ∧ vL I64 k p.2) body at_ bad a b (((x.ts, x.id.toNat), x.typ), (attrs (evF m x)).take k)) (fun i _ => 8 - (intOf i).toNat)
  case atStart => exact ⟨0, x0, at3, b3, by omega, rfl, hr4, hk4, hg4, hv4, hsp4⟩
  case round =>
    clear hr4 hk4 hg4 hv4 hsp4
    obtain ⟨k, x, a, b, hk, rfl, hrs, hbk, hgr, hvx, hsp⟩ := hrel
    obtain ⟨z, hz⟩ : ∃ z : Int, z = (k : Int) := ⟨_, rfl⟩
    rw [← hz]
    have HRS := Lib.hid hrs
    have HBK := Lib.hid hbk
    have HGR := Lib.hid hgr
    have HVX := Lib.hid hvx
    have hcases : k = 0 ∨ k = 1 ∨ k = 2 ∨ k = 3 ∨ k = 4 ∨ k = 5 ∨ k = 6 ∨ k = 7 ∨ k = 8 := by omega
    clear hrs hbk hgr hvx
    rcases hcases with rfl | rfl | rfl | rfl | rfl | rfl | rfl | rfl | rfl
    · have HSP := Lib.hid hsp
      obtain rfl : z = 0 := by omega
      clear hz hsp hk
      go_wp2
      go_region_with (first | (go_at_call 119; refine (rd_int HC.out.rc HRS.out.drew).mono ?_; rintro e v5 ⟨i5, at5, b5, rfl, hi5, hrs5, hg5, hz5, hst5⟩; (obtain ⟨hr5, hk5, hl5, hgr5⟩ := fs_int HC.out HBK.out hrs5 (undrew hg5) 6 (.int .i64 i5)); (have hcell := hk5.cell 6 (by rw [cellsM_len]; omega)); (have hfr := hk5.frozen 6); (obtain ⟨y, hy⟩ : ∃ y, y = (cellsM (evF m x) q)[6]'(by rw [cellsM_len]; omega) := ⟨_, rfl⟩); rw [← hy] at hcell; (have hrel : ∃ (k : Nat) (x : M) (a : Nat) (b : Bool), k ≤ 8 ∧ Value.int .i64 1 = .int .i64 (k : Int) ∧ RS w0 g body ab nb cb a b (v5.setCell ⟨gm, 6, none⟩ (.int .i64 i5)) ∧ Blk (v5.setCell ⟨gm, 6, none⟩ (.int .i64 i5)) gm 50 (cellsM (evF m x) q) ∧ Gr2 g gm w (v5.setCell ⟨gm, 6, none⟩ (.int .i64 i5)) ∧ VX (evF m x) ∧ SP (fun p : ((Int × Nat) × Int) × List Int => (bytesI p.1.1.1 ++ bytesU p.1.1.2 ++ bytesI p.1.2) ++ p.2.flatMap bytesI) (fun p => ((I64 p.1.1.1 ∧ SmallN p.1.1.2) ∧ I64 p.1.2) ∧ vL I64 k p.2) body at_ bad a b (((x.ts, x.id.toNat), x.typ), (attrs (evF m x)).take k) := ⟨1, { x with a0 := i5 }, at5, b5, by omega, rfl, hr5, hl5, HGR.out.trans hgr5, ⟨{ HVX.out.1 with a0 := hi5 }, HVX.out.2⟩, HSP.out.snoc (sp_int hi5 hst5) ((udI.pair udN).pair udI) udI⟩); (have HREL := Lib.hid hrel); clear hy hr5 hk5 hl5 hgr5 hrs5 hg5 hz5 hst5 hi5 hrel))
      all_goals go_wp2
      all_goals go_roundw
      all_goals first | exact HREL.out | simp [intOf]
    · have HSP := Lib.hid hsp
      obtain rfl : z = 1 := by omega
      clear hz hsp hk
      go_wp2
      go_region_with (first | (go_at_call 119; refine (rd_int HC.out.rc HRS.out.drew).mono ?_; rintro e v5 ⟨i5, at5, b5, rfl, hi5, hrs5, hg5, hz5, hst5⟩; (obtain ⟨hr5, hk5, hl5, hgr5⟩ := fs_int HC.out HBK.out hrs5 (undrew hg5) 7 (.int .i64 i5)); (have hcell := hk5.cell 7 (by rw [cellsM_len]; omega)); (have hfr := hk5.frozen 7); (obtain ⟨y, hy⟩ : ∃ y, y = (cellsM (evF m x) q)[7]'(by rw [cellsM_len]; omega) := ⟨_, rfl⟩); rw [← hy] at hcell; (have hrel : ∃ (k : Nat) (x : M) (a : Nat) (b : Bool), k ≤ 8 ∧ Value.int .i64 2 = .int .i64 (k : Int) ∧ RS w0 g body ab nb cb a b (v5.setCell ⟨gm, 7, none⟩ (.int .i64 i5)) ∧ Blk (v5.setCell ⟨gm, 7, none⟩ (.int .i64 i5)) gm 50 (cellsM (evF m x) q) ∧ Gr2 g gm w (v5.setCell ⟨gm, 7, none⟩ (.int .i64 i5)) ∧ VX (evF m x) ∧ SP (fun p : ((Int × Nat) × Int) × List Int => (bytesI p.1.1.1 ++ bytesU p.1.1.2 ++ bytesI p.1.2) ++ p.2.flatMap bytesI) (fun p => ((I64 p.1.1.1 ∧ SmallN p.1.1.2) ∧ I64 p.1.2) ∧ vL I64 k p.2) body at_ bad a b (((x.ts, x.id.toNat), x.typ), (attrs (evF m x)).take k) := ⟨2, { x with a1 := i5 }, at5, b5, by omega, rfl, hr5, hl5, HGR.out.trans hgr5, ⟨{ HVX.out.1 with a1 := hi5 }, HVX.out.2⟩, HSP.out.snoc (sp_int hi5 hst5) ((udI.pair udN).pair udI) udI⟩); (have HREL := Lib.hid hrel); clear hy hr5 hk5 hl5 hgr5 hrs5 hg5 hz5 hst5 hi5 hrel))
      all_goals go_wp2
      all_goals go_roundw
      all_goals first | exact HREL.out | simp [intOf]
    · have HSP := Lib.hid hsp
      obtain rfl : z = 2 := by omega
      clear hz hsp hk
      go_wp2
      go_region_with (first | (go_at_call 119; refine (rd_int HC.out.rc HRS.out.drew).mono ?_; rintro e v5 ⟨i5, at5, b5, rfl, hi5, hrs5, hg5, hz5, hst5⟩; (obtain ⟨hr5, hk5, hl5, hgr5⟩ := fs_int HC.out HBK.out hrs5 (undrew hg5) 8 (.int .i64 i5)); (have hcell := hk5.cell 8 (by rw [cellsM_len]; omega)); (have hfr := hk5.frozen 8); (obtain ⟨y, hy⟩ : ∃ y, y = (cellsM (evF m x) q)[8]'(by rw [cellsM_len]; omega) := ⟨_, rfl⟩); rw [← hy] at hcell; (have hrel : ∃ (k : Nat) (x : M) (a : Nat) (b : Bool), k ≤ 8 ∧ Value.int .i64 3 = .int .i64 (k : Int) ∧ RS w0 g body ab nb cb a b (v5.setCell ⟨gm, 8, none⟩ (.int .i64 i5)) ∧ Blk (v5.setCell ⟨gm, 8, none⟩ (.int .i64 i5)) gm 50 (cellsM (evF m x) q) ∧ Gr2 g gm w (v5.setCell ⟨gm, 8, none⟩ (.int .i64 i5)) ∧ VX (evF m x) ∧ SP (fun p : ((Int × Nat) × Int) × List Int => (bytesI p.1.1.1 ++ bytesU p.1.1.2 ++ bytesI p.1.2) ++ p.2.flatMap bytesI) (fun p => ((I64 p.1.1.1 ∧ SmallN p.1.1.2) ∧ I64 p.1.2) ∧ vL I64 k p.2) body at_ bad a b (((x.ts, x.id.toNat), x.typ), (attrs (evF m x)).take k) := ⟨3, { x with a2 := i5 }, at5, b5, by omega, rfl, hr5, hl5, HGR.out.trans hgr5, ⟨{ HVX.out.1 with a2 := hi5 }, HVX.out.2⟩, HSP.out.snoc (sp_int hi5 hst5) ((udI.pair udN).pair udI) udI⟩); (have HREL := Lib.hid hrel); clear hy hr5 hk5 hl5 hgr5 hrs5 hg5 hz5 hst5 hi5 hrel))
      all_goals go_wp2
      all_goals go_roundw
      all_goals first | exact HREL.out | simp [intOf]
    · have HSP := Lib.hid hsp
      obtain rfl : z = 3 := by omega
      clear hz hsp hk
      go_wp2
      go_region_with (first | (go_at_call 119; refine (rd_int HC.out.rc HRS.out.drew).mono ?_; rintro e v5 ⟨i5, at5, b5, rfl, hi5, hrs5, hg5, hz5, hst5⟩; (obtain ⟨hr5, hk5, hl5, hgr5⟩ := fs_int HC.out HBK.out hrs5 (undrew hg5) 9 (.int .i64 i5)); (have hcell := hk5.cell 9 (by rw [cellsM_len]; omega)); (have hfr := hk5.frozen 9); (obtain ⟨y, hy⟩ : ∃ y, y = (cellsM (evF m x) q)[9]'(by rw [cellsM_len]; omega) := ⟨_, rfl⟩); rw [← hy] at hcell; (have hrel : ∃ (k : Nat) (x : M) (a : Nat) (b : Bool), k ≤ 8 ∧ Value.int .i64 4 = .int .i64 (k : Int) ∧ RS w0 g body ab nb cb a b (v5.setCell ⟨gm, 9, none⟩ (.int .i64 i5)) ∧ Blk (v5.setCell ⟨gm, 9, none⟩ (.int .i64 i5)) gm 50 (cellsM (evF m x) q) ∧ Gr2 g gm w (v5.setCell ⟨gm, 9, none⟩ (.int .i64 i5)) ∧ VX (evF m x) ∧ SP (fun p : ((Int × Nat) × Int) × List Int => (bytesI p.1.1.1 ++ bytesU p.1.1.2 ++ bytesI p.1.2) ++ p.2.flatMap bytesI) (fun p => ((I64 p.1.1.1 ∧ SmallN p.1.1.2) ∧ I64 p.1.2) ∧ vL I64 k p.2) body at_ bad a b (((x.ts, x.id.toNat), x.typ), (attrs (evF m x)).take k) := ⟨4, { x with a3 := i5 }, at5, b5, by omega, rfl, hr5, hl5, HGR.out.trans hgr5, ⟨{ HVX.out.1 with a3 := hi5 }, HVX.out.2⟩, HSP.out.snoc (sp_int hi5 hst5) ((udI.pair udN).pair udI) udI⟩); (have HREL := Lib.hid hrel); clear hy hr5 hk5 hl5 hgr5 hrs5 hg5 hz5 hst5 hi5 hrel))
      all_goals go_wp2
      all_goals go_roundw
      all_goals first | exact HREL.out | simp [intOf]
    · have HSP := Lib.hid hsp
      obtain rfl : z = 4 := by omega
      clear hz hsp hk
      go_wp2
      go_region_with (first | (go_at_call 119; refine (rd_int HC.out.rc HRS.out.drew).mono ?_; rintro e v5 ⟨i5, at5, b5, rfl, hi5, hrs5, hg5, hz5, hst5⟩; (obtain ⟨hr5, hk5, hl5, hgr5⟩ := fs_int HC.out HBK.out hrs5 (undrew hg5) 10 (.int .i64 i5)); (have hcell := hk5.cell 10 (by rw [cellsM_len]; omega)); (have hfr := hk5.frozen 10); (obtain ⟨y, hy⟩ : ∃ y, y = (cellsM (evF m x) q)[10]'(by rw [cellsM_len]; omega) := ⟨_, rfl⟩); rw [← hy] at hcell; (have hrel : ∃ (k : Nat) (x : M) (a : Nat) (b : Bool), k ≤ 8 ∧ Value.int .i64 5 = .int .i64 (k : Int) ∧ RS w0 g body ab nb cb a b (v5.setCell ⟨gm, 10, none⟩ (.int .i64 i5)) ∧ Blk (v5.setCell ⟨gm, 10, none⟩ (.int .i64 i5)) gm 50 (cellsM (evF m x) q) ∧ Gr2 g gm w (v5.setCell ⟨gm, 10, none⟩ (.int .i64 i5)) ∧ VX (evF m x) ∧ SP (fun p : ((Int × Nat) × Int) × List Int => (bytesI p.1.1.1 ++ bytesU p.1.1.2 ++ bytesI p.1.2) ++ p.2.flatMap bytesI) (fun p => ((I64 p.1.1.1 ∧ SmallN p.1.1.2) ∧ I64 p.1.2) ∧ vL I64 k p.2) body at_ bad a b (((x.ts, x.id.toNat), x.typ), (attrs (evF m x)).take k) := ⟨5, { x with a4 := i5 }, at5, b5, by omega, rfl, hr5, hl5, HGR.out.trans hgr5, ⟨{ HVX.out.1 with a4 := hi5 }, HVX.out.2⟩, HSP.out.snoc (sp_int hi5 hst5) ((udI.pair udN).pair udI) udI⟩); (have HREL := Lib.hid hrel); clear hy hr5 hk5 hl5 hgr5 hrs5 hg5 hz5 hst5 hi5 hrel))
      all_goals go_wp2
      all_goals go_roundw
      all_goals first | exact HREL.out | simp [intOf]
    · have HSP := Lib.hid hsp
      obtain rfl : z = 5 := by omega
      clear hz hsp hk
      go_wp2
      go_region_with (first | (go_at_call 119; refine (rd_int HC.out.rc HRS.out.drew).mono ?_; rintro e v5 ⟨i5, at5, b5, rfl, hi5, hrs5, hg5, hz5, hst5⟩; (obtain ⟨hr5, hk5, hl5, hgr5⟩ := fs_int HC.out HBK.out hrs5 (undrew hg5) 11 (.int .i64 i5)); (have hcell := hk5.cell 11 (by rw [cellsM_len]; omega)); (have hfr := hk5.frozen 11); (obtain ⟨y, hy⟩ : ∃ y, y = (cellsM (evF m x) q)[11]'(by rw [cellsM_len]; omega) := ⟨_, rfl⟩); rw [← hy] at hcell; (have hrel : ∃ (k : Nat) (x : M) (a : Nat) (b : Bool), k ≤ 8 ∧ Value.int .i64 6 = .int .i64 (k : Int) ∧ RS w0 g body ab nb cb a b (v5.setCell ⟨gm, 11, none⟩ (.int .i64 i5)) ∧ Blk (v5.setCell ⟨gm, 11, none⟩ (.int .i64 i5)) gm 50 (cellsM (evF m x) q) ∧ Gr2 g gm w (v5.setCell ⟨gm, 11, none⟩ (.int .i64 i5)) ∧ VX (evF m x) ∧ SP (fun p : ((Int × Nat) × Int) × List Int => (bytesI p.1.1.1 ++ bytesU p.1.1.2 ++ bytesI p.1.2) ++ p.2.flatMap bytesI) (fun p => ((I64 p.1.1.1 ∧ SmallN p.1.1.2) ∧ I64 p.1.2) ∧ vL I64 k p.2) body at_ bad a b (((x.ts, x.id.toNat), x.typ), (attrs (evF m x)).take k) := ⟨6, { x with a5 := i5 }, at5, b5, by omega, rfl, hr5, hl5, HGR.out.trans hgr5, ⟨{ HVX.out.1 with a5 := hi5 }, HVX.out.2⟩, HSP.out.snoc (sp_int hi5 hst5) ((udI.pair udN).pair udI) udI⟩); (have HREL := Lib.hid hrel); clear hy hr5 hk5 hl5 hgr5 hrs5 hg5 hz5 hst5 hi5 hrel))
      all_goals go_wp2
      all_goals go_roundw
      all_goals first | exact HREL.out | simp [intOf]
    · have HSP := Lib.hid hsp
      obtain rfl : z = 6 := by omega
      clear hz hsp hk
      go_wp2
      go_region_with (first | (go_at_call 119; refine (rd_int HC.out.rc HRS.out.drew).mono ?_; rintro e v5 ⟨i5, at5, b5, rfl, hi5, hrs5, hg5, hz5, hst5⟩; (obtain ⟨hr5, hk5, hl5, hgr5⟩ := fs_int HC.out HBK.out hrs5 (undrew hg5) 12 (.int .i64 i5)); (have hcell := hk5.cell 12 (by rw [cellsM_len]; omega)); (have hfr := hk5.frozen 12); (obtain ⟨y, hy⟩ : ∃ y, y = (cellsM (evF m x) q)[12]'(by rw [cellsM_len]; omega) := ⟨_, rfl⟩); rw [← hy] at hcell; (have hrel : ∃ (k : Nat) (x : M) (a : Nat) (b : Bool), k ≤ 8 ∧ Value.int .i64 7 = .int .i64 (k : Int) ∧ RS w0 g body ab nb cb a b (v5.setCell ⟨gm, 12, none⟩ (.int .i64 i5)) ∧ Blk (v5.setCell ⟨gm, 12, none⟩ (.int .i64 i5)) gm 50 (cellsM (evF m x) q) ∧ Gr2 g gm w (v5.setCell ⟨gm, 12, none⟩ (.int .i64 i5)) ∧ VX (evF m x) ∧ SP (fun p : ((Int × Nat) × Int) × List Int => (bytesI p.1.1.1 ++ bytesU p.1.1.2 ++ bytesI p.1.2) ++ p.2.flatMap bytesI) (fun p => ((I64 p.1.1.1 ∧ SmallN p.1.1.2) ∧ I64 p.1.2) ∧ vL I64 k p.2) body at_ bad a b (((x.ts, x.id.toNat), x.typ), (attrs (evF m x)).take k) := ⟨7, { x with a6 := i5 }, at5, b5, by omega, rfl, hr5, hl5, HGR.out.trans hgr5, ⟨{ HVX.out.1 with a6 := hi5 }, HVX.out.2⟩, HSP.out.snoc (sp_int hi5 hst5) ((udI.pair udN).pair udI) udI⟩); (have HREL := Lib.hid hrel); clear hy hr5 hk5 hl5 hgr5 hrs5 hg5 hz5 hst5 hi5 hrel))
      all_goals go_wp2
      all_goals go_roundw
      all_goals first | exact HREL.out | simp [intOf]
    · have HSP := Lib.hid hsp
      obtain rfl : z = 7 := by omega
      clear hz hsp hk
      go_wp2
      go_region_with (first | (go_at_call 119; refine (rd_int HC.out.rc HRS.out.drew).mono ?_; rintro e v5 ⟨i5, at5, b5, rfl, hi5, hrs5, hg5, hz5, hst5⟩; (obtain ⟨hr5, hk5, hl5, hgr5⟩ := fs_int HC.out HBK.out hrs5 (undrew hg5) 13 (.int .i64 i5)); (have hcell := hk5.cell 13 (by rw [cellsM_len]; omega)); (have hfr := hk5.frozen 13); (obtain ⟨y, hy⟩ : ∃ y, y = (cellsM (evF m x) q)[13]'(by rw [cellsM_len]; omega) := ⟨_, rfl⟩); rw [← hy] at hcell; (have hrel : ∃ (k : Nat) (x : M) (a : Nat) (b : Bool), k ≤ 8 ∧ Value.int .i64 8 = .int .i64 (k : Int) ∧ RS w0 g body ab nb cb a b (v5.setCell ⟨gm, 13, none⟩ (.int .i64 i5)) ∧ Blk (v5.setCell ⟨gm, 13, none⟩ (.int .i64 i5)) gm 50 (cellsM (evF m x) q) ∧ Gr2 g gm w (v5.setCell ⟨gm, 13, none⟩ (.int .i64 i5)) ∧ VX (evF m x) ∧ SP (fun p : ((Int × Nat) × Int) × List Int => (bytesI p.1.1.1 ++ bytesU p.1.1.2 ++ bytesI p.1.2) ++ p.2.flatMap bytesI) (fun p => ((I64 p.1.1.1 ∧ SmallN p.1.1.2) ∧ I64 p.1.2) ∧ vL I64 k p.2) body at_ bad a b (((x.ts, x.id.toNat), x.typ), (attrs (evF m x)).take k) := ⟨8, { x with a7 := i5 }, at5, b5, by omega, rfl, hr5, hl5, HGR.out.trans hgr5, ⟨{ HVX.out.1 with a7 := hi5 }, HVX.out.2⟩, HSP.out.snoc (sp_int hi5 hst5) ((udI.pair udN).pair udI) udI⟩); (have HREL := Lib.hid hrel); clear hy hr5 hk5 hl5 hgr5 hrs5 hg5 hz5 hst5 hi5 hrel))
      all_goals go_wp2
      all_goals go_roundw
      all_goals first | exact HREL.out | simp [intOf]
    · obtain rfl : z = 8 := by omega
      clear hz hk
      have hfin : FPost "sluice/wire.event" w0 g gm base body ab nb cb at_ bad m w (.returned (.tuple #[])) wr := by
        refine ⟨evF m x, q, a, b, rfl, ⟨HRS.out, HBK.out, HH.out.own.two HGR.out HC.out.g1 HC.out.gm1, HVX.out, Nat.le_trans HH.out.le HGR.out.size⟩, HGR.out, rfl, ?_⟩
        refine hsp.verdict _ _ (fun x => (((x.ts, x.id.toNat), x.typ), attrs x)) rfl (fun y => ?_) (fun y hy => ?_)
        · show encEvent y = _
          rw [encEvent]
          simp only [List.append_assoc]
        · have hid := hy.1.id
          unfold U64 at hid
          refine ⟨⟨⟨hy.1.ts, by show y.id.toNat < _; omega⟩, hy.1.typ⟩, rfl, fun v hv => ?_⟩
          simp only [attrs, List.mem_cons, List.not_mem_nil, or_false] at hv
          rcases hv with rfl | rfl | rfl | rfl | rfl | rfl | rfl | rfl
          · exact hy.1.a0
          · exact hy.1.a1
          · exact hy.1.a2
          · exact hy.1.a3
          · exact hy.1.a4
          · exact hy.1.a5
          · exact hy.1.a6
          · exact hy.1.a7
      have HF := Lib.hid hfin
      clear hfin hsp
      go_wp2
      go_end0
      exact HF.out
end Go.Proofs.Ytaipnbpefdcejaa
/- The walk of the reader's sizes. -/
set_option linter.unusedVariables false
namespace Go.Proofs.Ytaipnbpefdcejaa
open Go.RowKit
def szF (m x : M) : M := { m with mark := x.mark, closed := x.closed, held := x.held, kept := x.kept, waiting := x.waiting, parts := x.parts }
def four (m : M) : List Int := [m.held, m.kept, m.waiting, m.parts]
set_option maxHeartbeats 4000000 in
set_option maxRecDepth 20000 in
theorem rf2_sizes {w0 : World} {g gm base : Nat} {body : List UInt8} {ab : Option Addr} {nb cb at_ : Nat} {bad : Bool} {m : M} {q : Ps} {w : World} (hc : FC w0 g gm base body ab nb cb) (h : FS w0 g gm base body ab nb cb at_ bad m q w) :
    Calls Try.prog 118 #[.pointer (some ⟨g, 0, none⟩), .pointer (some ⟨gm, 0, none⟩)] w (FPost "sluice/wire.sizes" w0 g gm base body ab nb cb at_ bad m w) := by
  have HC := Lib.hid hc
  have HH := Lib.hid h
  go_enter Try.func118, Try.ntmps118
  go_wp2_with fail
  refine (rd_int HC.out.rc HH.out.rs).mono ?_
  rintro e v1 ⟨i1, at1, b1, rfl, hi1, hrs1, hg1, hz1, hst1⟩
  obtain ⟨hr1, hk1, hl1, hgr1⟩ := fs_int HC.out HH.out.blk hrs1 hg1 18 (.int .i64 i1)
  have hcell := hk1.cell 18 (by rw [cellsM_len]; omega)
  have hfr := hk1.frozen 18
  obtain ⟨y, hy⟩ : ∃ y, y = (cellsM m q)[18]'(by rw [cellsM_len]; omega) := ⟨_, rfl⟩
  rw [← hy] at hcell
  have HI1 := Lib.hid (show I64 i1 from hi1)
  have HP1 := Lib.hid (sp_int hi1 hst1)
  have HR1 := Lib.hid hr1
  have HK1 := Lib.hid hl1
  have HG1 := Lib.hid (hgr1)
  clear hy hk1 hr1 hl1 hgr1 hrs1 hg1 hz1 hst1 hi1
  obtain ⟨w1, hw1⟩ : ∃ x, x = v1.setCell ⟨gm, 18, none⟩ (.int .i64 i1) := ⟨_, rfl⟩
  rw [← hw1] at HR1 HK1 HG1
  go_upto_region 1 with fail
  rw [← hw1]
  clear hw1 hcell hfr
  clear h hc
  go_wp2_with fail
  refine (rd_truth HC.out.rc HR1.out).mono ?_
  rintro e v2 ⟨i2, at2, b2, rfl, hrs2, hg2, hz2, hst2⟩
  obtain ⟨hr2, hk2, hl2, hgr2⟩ := fs_int HC.out HK1.out hrs2 hg2 19 (.bool i2)
  have hcell := hk2.cell 19 (by rw [List.length_set, cellsM_len]; omega)
  have hfr := hk2.frozen 19
  obtain ⟨y, hy⟩ : ∃ y, y = ((cellsM m q).set 18 (.int .i64 i1))[19]'(by rw [List.length_set, cellsM_len]; omega) := ⟨_, rfl⟩
  rw [← hy] at hcell
  have HP2 := Lib.hid ((HP1.out).comp (sp_truth hst2) udI)
  have HR2 := Lib.hid hr2
  have HK2 := Lib.hid hl2
  have HG2 := Lib.hid (HG1.out.trans hgr2)
  clear hy hk2 hr2 hl2 hgr2 hrs2 hg2 hz2 hst2
  obtain ⟨w2, hw2⟩ : ∃ x, x = v2.setCell ⟨gm, 19, none⟩ (.bool i2) := ⟨_, rfl⟩
  rw [← hw2] at HR2 HK2 HG2
  go_upto_region 2 with fail
  rw [← hw2]
  clear hw2 hcell hfr
  obtain ⟨x0, hx0⟩ : ∃ x0 : M, x0 = { m with mark := i1, closed := i2 } := ⟨_, rfl⟩
  have hcs : (((cellsM m q).set 18 (.int .i64 i1)).set 19 (.bool i2)) = cellsM (szF m x0) q := by rw [hx0]; rfl
  have hk4 := HK2.out
  rw [hcs] at hk4
  have hv4 : VX (szF m x0) := by
    rw [hx0]
    exact ⟨{ HH.out.vx.1 with mark := HI1.out }, HH.out.vx.2⟩
  have hsp4 : SP (fun p : (Int × Bool) × List Int => (bytesI p.1.1 ++ byT p.1.2) ++ p.2.flatMap bytesI) (fun p => (I64 p.1.1 ∧ True) ∧ vL I64 0 p.2) body at_ bad at2 b2 ((x0.mark, x0.closed), (four (szF m x0)).take 0) := by
    rw [hx0]
    exact HP2.out.nil bytesI I64
  clear hx0 hcs
  have hr4 := HR2.out
  have hg4 := HG2.out
  clear HK2 HP2 HR2 HG2 HI1 HP1 HR1 HK1 HG1
  have hgd : ∀ n, Gr2 g gm w (w2.drewN n) := fun n => ⟨hg4.os, hg4.tape, hg4.output, hg4.size, hg4.block⟩
  have hrd : ∀ n, RS w0 g body ab nb cb at2 b2 (w2.drewN n) := fun n => hr4.drewN n
  have hkd : ∀ n, Blk (w2.drewN n) gm 50 (cellsM (szF m x0) q) := fun n => hk4.below (below_draws w2)
  have HGD := Lib.hid hgd
  have HRD := Lib.hid hrd
  have HKD := Lib.hid hkd
  clear hgd hrd hkd hr4 hk4 hg4
  go_upto_region 3 with (go_quiet (fail))
  have hr5 := HRD.out nq
  have hk5 := HKD.out nq
  have hg5 := HGD.out nq
  obtain ⟨w5, hw5⟩ : ∃ x, x = w2.drewN nq := ⟨_, rfl⟩
  rw [← hw5] at hr5 hk5 hg5 ⊢
  clear hw5
  go_wp2_with fail
  go_loopw [35] (fun i wr => ∃ (k : Nat) (x : M) (a : Nat) (b : Bool), k ≤ 4 ∧ i = .int .i64 (k : Int) ∧ RS w0 g body ab nb cb a b wr ∧ Blk wr gm 50 (cellsM (szF m x) q) ∧ Gr2 g gm w wr ∧ VX (szF m x) ∧
    SP (fun p : (Int × Bool) × List Int => (bytesI p.1.1 ++ byT p.1.2) ++ p.2.flatMap bytesI) (fun p => (I64 p.1.1 ∧ True) ∧ vL I64 k p.2) body at_ bad a b ((x.mark, x.closed), (four (szF m x)).take k)) (fun i _ => 4 - (intOf i).toNat)
  case atStart => exact ⟨0, x0, at2, b2, by omega, rfl, hr5, hk5, hg5, hv4, hsp4⟩
  case round =>
    clear hr5 hk5 hg5 hv4 hsp4
    obtain ⟨k, x, a, b, hk, rfl, hrs, hbk, hgr, hvx, hsp⟩ := hrel
    obtain ⟨z, hz⟩ : ∃ z : Int, z = (k : Int) := ⟨_, rfl⟩
    rw [← hz]
    have HRS := Lib.hid hrs
    have HBK := Lib.hid hbk
    have HGR := Lib.hid hgr
    have HVX := Lib.hid hvx
    have hcases : k = 0 ∨ k = 1 ∨ k = 2 ∨ k = 3 ∨ k = 4 := by omega
    clear hrs hbk hgr hvx
    rcases hcases with rfl | rfl | rfl | rfl | rfl
    · have HSP := Lib.hid hsp
      obtain rfl : z = 0 := by omega
      clear hz hsp hk
      have hix : (Instr.index 132 (.agg #[.pointer (some ⟨gm, 20, none⟩), .pointer (some ⟨gm, 21, none⟩), .pointer (some ⟨gm, 22, none⟩), .pointer (some ⟨gm, 23, none⟩)]) (.int .i64 0)).run Try.prog wr = .ok (.pointer (some ⟨gm, 20, none⟩)) wr := by first | rfl | kernel_rfl | simp [Instr.index, Try.underlying132]
      go_wp2_with fail
      refine (rd_int HC.out.rc HRS.out).mono ?_
      rintro e v5 ⟨i5, at5, b5, rfl, hi5, hrs5, hg5, hz5, hst5⟩
      obtain ⟨hr5, hk5, hl5, hgr5⟩ := fs_int HC.out HBK.out hrs5 hg5 20 (.int .i64 i5)
      have hcell := hk5.cell 20 (by rw [cellsM_len]; omega)
      have hfr := hk5.frozen 20
      obtain ⟨y, hy⟩ : ∃ y, y = (cellsM (szF m x) q)[20]'(by rw [cellsM_len]; omega) := ⟨_, rfl⟩
      rw [← hy] at hcell
      have hrel : ∃ (k : Nat) (x : M) (a : Nat) (b : Bool), k ≤ 4 ∧ Value.int .i64 1 = .int .i64 (k : Int) ∧ RS w0 g body ab nb cb a b (v5.setCell ⟨gm, 20, none⟩ (.int .i64 i5)) ∧ Blk (v5.setCell ⟨gm, 20, none⟩ (.int .i64 i5)) gm 50 (cellsM (szF m x) q) ∧ Gr2 g gm w (v5.setCell ⟨gm, 20, none⟩ (.int .i64 i5)) ∧ VX (szF m x) ∧ SP (fun p : (Int × Bool) × List Int => (bytesI p.1.1 ++ byT p.1.2) ++ p.2.flatMap bytesI) (fun p => (I64 p.1.1 ∧ True) ∧ vL I64 k p.2) body at_ bad a b ((x.mark, x.closed), (four (szF m x)).take k) :=
        ⟨1, { x with held := i5 }, at5, b5, by omega, rfl, hr5, hl5, HGR.out.trans hgr5, ⟨{ HVX.out.1 with held := hi5 }, HVX.out.2⟩, HSP.out.snoc (sp_int hi5 hst5) (udI.pair udT) udI⟩
      have HREL := Lib.hid hrel
      clear hy hr5 hk5 hl5 hgr5 hrs5 hg5 hz5 hst5 hi5 hrel hix
      go_wp2
      go_roundw
      case rel => exact HREL.out
      case measure => simp [intOf]
    · have HSP := Lib.hid hsp
      obtain rfl : z = 1 := by omega
      clear hz hsp hk
      have hix : (Instr.index 132 (.agg #[.pointer (some ⟨gm, 20, none⟩), .pointer (some ⟨gm, 21, none⟩), .pointer (some ⟨gm, 22, none⟩), .pointer (some ⟨gm, 23, none⟩)]) (.int .i64 1)).run Try.prog wr = .ok (.pointer (some ⟨gm, 21, none⟩)) wr := by first | rfl | kernel_rfl | simp [Instr.index, Try.underlying132]
      go_wp2_with fail
      refine (rd_int HC.out.rc HRS.out).mono ?_
      rintro e v5 ⟨i5, at5, b5, rfl, hi5, hrs5, hg5, hz5, hst5⟩
      obtain ⟨hr5, hk5, hl5, hgr5⟩ := fs_int HC.out HBK.out hrs5 hg5 21 (.int .i64 i5)
      have hcell := hk5.cell 21 (by rw [cellsM_len]; omega)
      have hfr := hk5.frozen 21
      obtain ⟨y, hy⟩ : ∃ y, y = (cellsM (szF m x) q)[21]'(by rw [cellsM_len]; omega) := ⟨_, rfl⟩
      rw [← hy] at hcell
      have hrel : ∃ (k : Nat) (x : M) (a : Nat) (b : Bool), k ≤ 4 ∧ Value.int .i64 2 = .int .i64 (k : Int) ∧ RS w0 g body ab nb cb a b (v5.setCell ⟨gm, 21, none⟩ (.int .i64 i5)) ∧ Blk (v5.setCell ⟨gm, 21, none⟩ (.int .i64 i5)) gm 50 (cellsM (szF m x) q) ∧ Gr2 g gm w (v5.setCell ⟨gm, 21, none⟩ (.int .i64 i5)) ∧ VX (szF m x) ∧ SP (fun p : (Int × Bool) × List Int => (bytesI p.1.1 ++ byT p.1.2) ++ p.2.flatMap bytesI) (fun p => (I64 p.1.1 ∧ True) ∧ vL I64 k p.2) body at_ bad a b ((x.mark, x.closed), (four (szF m x)).take k) :=
        ⟨2, { x with kept := i5 }, at5, b5, by omega, rfl, hr5, hl5, HGR.out.trans hgr5, ⟨{ HVX.out.1 with kept := hi5 }, HVX.out.2⟩, HSP.out.snoc (sp_int hi5 hst5) (udI.pair udT) udI⟩
      have HREL := Lib.hid hrel
      clear hy hr5 hk5 hl5 hgr5 hrs5 hg5 hz5 hst5 hi5 hrel hix
      go_wp2
      go_roundw
      case rel => exact HREL.out
      case measure => simp [intOf]
    · have HSP := Lib.hid hsp
      obtain rfl : z = 2 := by omega
      clear hz hsp hk
      have hix : (Instr.index 132 (.agg #[.pointer (some ⟨gm, 20, none⟩), .pointer (some ⟨gm, 21, none⟩), .pointer (some ⟨gm, 22, none⟩), .pointer (some ⟨gm, 23, none⟩)]) (.int .i64 2)).run Try.prog wr = .ok (.pointer (some ⟨gm, 22, none⟩)) wr := by first | rfl | kernel_rfl | simp [Instr.index, Try.underlying132]
      go_wp2_with fail
      refine (rd_int HC.out.rc HRS.out).mono ?_
      rintro e v5 ⟨i5, at5, b5, rfl, hi5, hrs5, hg5, hz5, hst5⟩
      obtain ⟨hr5, hk5, hl5, hgr5⟩ := fs_int HC.out HBK.out hrs5 hg5 22 (.int .i64 i5)
      have hcell := hk5.cell 22 (by rw [cellsM_len]; omega)
      have hfr := hk5.frozen 22
      obtain ⟨y, hy⟩ : ∃ y, y = (cellsM (szF m x) q)[22]'(by rw [cellsM_len]; omega) := ⟨_, rfl⟩
      rw [← hy] at hcell
      have hrel : ∃ (k : Nat) (x : M) (a : Nat) (b : Bool), k ≤ 4 ∧ Value.int .i64 3 = .int .i64 (k : Int) ∧ RS w0 g body ab nb cb a b (v5.setCell ⟨gm, 22, none⟩ (.int .i64 i5)) ∧ Blk (v5.setCell ⟨gm, 22, none⟩ (.int .i64 i5)) gm 50 (cellsM (szF m x) q) ∧ Gr2 g gm w (v5.setCell ⟨gm, 22, none⟩ (.int .i64 i5)) ∧ VX (szF m x) ∧ SP (fun p : (Int × Bool) × List Int => (bytesI p.1.1 ++ byT p.1.2) ++ p.2.flatMap bytesI) (fun p => (I64 p.1.1 ∧ True) ∧ vL I64 k p.2) body at_ bad a b ((x.mark, x.closed), (four (szF m x)).take k) :=
        ⟨3, { x with waiting := i5 }, at5, b5, by omega, rfl, hr5, hl5, HGR.out.trans hgr5, ⟨{ HVX.out.1 with waiting := hi5 }, HVX.out.2⟩, HSP.out.snoc (sp_int hi5 hst5) (udI.pair udT) udI⟩
      have HREL := Lib.hid hrel
      clear hy hr5 hk5 hl5 hgr5 hrs5 hg5 hz5 hst5 hi5 hrel hix
      go_wp2
      go_roundw
      case rel => exact HREL.out
      case measure => simp [intOf]
    · have HSP := Lib.hid hsp
      obtain rfl : z = 3 := by omega
      clear hz hsp hk
      have hix : (Instr.index 132 (.agg #[.pointer (some ⟨gm, 20, none⟩), .pointer (some ⟨gm, 21, none⟩), .pointer (some ⟨gm, 22, none⟩), .pointer (some ⟨gm, 23, none⟩)]) (.int .i64 3)).run Try.prog wr = .ok (.pointer (some ⟨gm, 23, none⟩)) wr := by first | rfl | kernel_rfl | simp [Instr.index, Try.underlying132]
      go_wp2_with fail
      refine (rd_int HC.out.rc HRS.out).mono ?_
      rintro e v5 ⟨i5, at5, b5, rfl, hi5, hrs5, hg5, hz5, hst5⟩
      obtain ⟨hr5, hk5, hl5, hgr5⟩ := fs_int HC.out HBK.out hrs5 hg5 23 (.int .i64 i5)
      have hcell := hk5.cell 23 (by rw [cellsM_len]; omega)
      have hfr := hk5.frozen 23
      obtain ⟨y, hy⟩ : ∃ y, y = (cellsM (szF m x) q)[23]'(by rw [cellsM_len]; omega) := ⟨_, rfl⟩
      rw [← hy] at hcell
      have hrel : ∃ (k : Nat) (x : M) (a : Nat) (b : Bool), k ≤ 4 ∧ Value.int .i64 4 = .int .i64 (k : Int) ∧ RS w0 g body ab nb cb a b (v5.setCell ⟨gm, 23, none⟩ (.int .i64 i5)) ∧ Blk (v5.setCell ⟨gm, 23, none⟩ (.int .i64 i5)) gm 50 (cellsM (szF m x) q) ∧ Gr2 g gm w (v5.setCell ⟨gm, 23, none⟩ (.int .i64 i5)) ∧ VX (szF m x) ∧ SP (fun p : (Int × Bool) × List Int => (bytesI p.1.1 ++ byT p.1.2) ++ p.2.flatMap bytesI) (fun p => (I64 p.1.1 ∧ True) ∧ vL I64 k p.2) body at_ bad a b ((x.mark, x.closed), (four (szF m x)).take k) :=
        ⟨4, { x with parts := i5 }, at5, b5, by omega, rfl, hr5, hl5, HGR.out.trans hgr5, ⟨{ HVX.out.1 with parts := hi5 }, HVX.out.2⟩, HSP.out.snoc (sp_int hi5 hst5) (udI.pair udT) udI⟩
      have HREL := Lib.hid hrel
      clear hy hr5 hk5 hl5 hgr5 hrs5 hg5 hz5 hst5 hi5 hrel hix
      go_wp2
      go_roundw
      case rel => exact HREL.out
      case measure => simp [intOf]
    · obtain rfl : z = 4 := by omega
      clear hz hk
      have hfin : FPost "sluice/wire.sizes" w0 g gm base body ab nb cb at_ bad m w (.returned (.tuple #[])) wr := by
        refine ⟨szF m x, q, a, b, rfl, ⟨HRS.out, HBK.out, HH.out.own.two HGR.out HC.out.g1 HC.out.gm1, HVX.out, Nat.le_trans HH.out.le HGR.out.size⟩, HGR.out, rfl, ?_⟩
        refine hsp.verdict _ _ (fun x => ((x.mark, x.closed), four x)) rfl (fun y => ?_) (fun y hy => ?_)
        · show encSizes y = _
          rw [encSizes]
          simp only [List.append_assoc]
          rfl
        · refine ⟨⟨hy.1.mark, trivial⟩, rfl, fun v hv => ?_⟩
          simp only [four, List.mem_cons, List.not_mem_nil, or_false] at hv
          rcases hv with rfl | rfl | rfl | rfl
          · exact hy.1.held
          · exact hy.1.kept
          · exact hy.1.waiting
          · exact hy.1.parts
      have HF := Lib.hid hfin
      clear hfin hsp
      go_wp2
      go_end0
      exact HF.out
end Go.Proofs.Ytaipnbpefdcejaa
/- Plain facts: reading lists, one element behind the other. -/
set_option linter.unusedVariables false
namespace Go.Proofs.Ytaipnbpefdcejaa
open Go.RowKit
section
variable {α β : Type} {e0 : α → List UInt8} {v0 : α → Prop} {e : β → List UInt8} {v : β → Prop} {body : List UInt8}
theorem SP.push {at_ a1 a2 k : Nat} {bad b1 b2 : Bool} {l : List β} {i : β} (h1 : SP (fun l : List β => l.flatMap e) (vL v k) body at_ bad a1 b1 l) (h2 : SP e v body a1 b1 a2 b2 i) (hu : UD e v) :
    SP (fun l : List β => l.flatMap e) (vL v (k + 1)) body at_ bad a2 b2 (l ++ [i]) := by
  have h3 : SP (fun p : Unit × List β => (fun _ => []) p.1 ++ p.2.flatMap e) (fun p => (fun _ => True) p.1 ∧ vL v k p.2) body at_ bad a1 b1 ((), l) :=
    h1.map _ (fun h => ⟨⟨trivial, h⟩, rfl⟩) (fun p => p.2) (fun y hy => ⟨hy.2, rfl⟩)
  have hu0 : UD (fun _ : Unit => ([] : List UInt8)) (fun _ => True) := fun x y r r' _ _ h => ⟨rfl, h⟩
  exact (h3.snoc h2 hu0 hu).map _ (fun h => ⟨h.2, rfl⟩) (fun l => ((), l)) (fun y hy => ⟨⟨trivial, hy⟩, rfl⟩)
theorem SP.none_yet (e : β → List UInt8) (v : β → Prop) (body : List UInt8) (a1 : Nat) (b1 : Bool) : SP (fun l : List β => l.flatMap e) (vL v 0) body a1 b1 a1 b1 [] := by
  cases b1
  · exact .inl ⟨rfl, rfl, ⟨rfl, fun z hz => by simp at hz⟩, by simp⟩
  · exact .inr ⟨rfl, .inl rfl⟩
theorem SP.more {a1 a2 k n : Nat} {b1 : Bool} {l : List β} (h : SP (fun l : List β => l.flatMap e) (vL v k) body a1 b1 a2 true l) (hk : k ≤ n) : SP (fun l : List β => l.flatMap e) (vL v n) body a1 b1 a2 true l := by
  rcases h with ⟨_, h2, _⟩ | ⟨h1, h2⟩
  · cases h2
  · refine .inr ⟨rfl, h2.imp id fun hno y r hy he => hno (y.take k) ((y.drop k).flatMap e ++ r) ⟨by rw [List.length_take, hy.1]; omega, fun z hz => hy.2 z (List.mem_of_mem_take hz)⟩ ?_⟩
    rw [he, ← List.append_assoc, ← List.flatMap_append, List.take_append_drop]
theorem flat_pos (hpos : ∀ z, v z → 1 ≤ (e z).length) : ∀ l : List β, (∀ z ∈ l, v z) → l.length ≤ (l.flatMap e).length := by
  intro l
  induction l with
  | nil => intro _; simp
  | cons z l ih =>
    intro h
    have h1 := hpos z (h z (by simp))
    have h2 := ih fun u hu => h u (by simp [hu])
    rw [List.flatMap_cons, List.length_append, List.length_cons]
    omega
/-- How many, then the elements. -/
def eC (e0 : α → List UInt8) (e : β → List UInt8) (p : α × List β) : List UInt8 := e0 p.1 ++ (bytesU p.2.length ++ p.2.flatMap e)
def vC (v0 : α → Prop) (v : β → Prop) (p : α × List β) : Prop := v0 p.1 ∧ SmallN p.2.length ∧ ∀ z ∈ p.2, v z
theorem SP.count {at_ a0 a1 a2 n : Nat} {bad b0 b1 b2 : Bool} {x : α} {l : List β} (h0 : SP e0 v0 body at_ bad a0 b0 x)
    (hc : Step body a0 b0 a1 b1 (fun e => e = bytesU n) (∀ n, n < 18446744073709551616 → ∀ r, n ≤ r.length → body.drop a0 ≠ bytesU n ++ r)) (hn : n < 18446744073709551616)
    (hl : SP (fun l : List β => l.flatMap e) (vL v n) body a1 b1 a2 b2 l) (hu0 : UD e0 v0) (hpos : ∀ z, v z → 1 ≤ (e z).length) : SP (eC e0 e) (vC v0 v) body at_ bad a2 b2 (x, l) := by
  rcases hl with ⟨q1, q2, q3, q4⟩ | ⟨q1, q2⟩
  · rcases hc with ⟨c1, c2, _, rfl, c4⟩ | ⟨c1, _⟩
    · rcases h0 with ⟨p1, p2, p3, p4⟩ | ⟨p1, _⟩
      · refine .inl ⟨p1, q2, ⟨p3, by show _ < _; rw [q3.1]; exact hn, q3.2⟩, ?_⟩
        rw [p4, c4, q4]
        simp only [eC, q3.1, List.append_assoc]
      · rw [c1] at p1; cases p1
    · rw [q1] at c1; cases c1
  · refine .inr ⟨q1, ?_⟩
    rcases h0 with ⟨p1, p2, p3, p4⟩ | ⟨p1, p2⟩
    · refine .inr fun y r hy he => ?_
      rw [p4] at he
      simp only [eC, List.append_assoc] at he
      obtain ⟨_, he⟩ := hu0 _ _ _ _ p3 hy.1 he
      rcases hc with ⟨c1, c2, _, rfl, c4⟩ | ⟨c1, c2⟩
      · rw [c4] at he
        obtain ⟨g1, g2⟩ := ud_U hn hy.2.1 he
        rcases q2 with q2 | q2
        · rw [c2] at q2; cases q2
        · exact q2 y.2 r ⟨g1.symm, hy.2.2⟩ g2
      · rcases c2 with c2 | c2
        · rw [p2] at c2; cases c2
        · refine c2 y.2.length hy.2.1 _ ?_ he
          have := flat_pos hpos y.2 hy.2.2
          rw [List.length_append]
          omega
    · exact p2.imp id fun hno y r hy he => hno y.1 ((bytesU y.2.length ++ y.2.flatMap e) ++ r) hy.1 (by rw [he, eC, List.append_assoc])
theorem udC (hu0 : UD e0 v0) (hu : UD e v) : UD (eC e0 e) (vC v0 v) := by
  intro x y r r' hx hy he
  simp only [eC, List.append_assoc] at he
  obtain ⟨h1, he⟩ := hu0 _ _ _ _ hx.1 hy.1 he
  obtain ⟨h2, he⟩ := ud_U hx.2.1 hy.2.1 he
  obtain ⟨h3, he⟩ := udL hu x.2.length x.2 y.2 r r' ⟨rfl, hx.2.2⟩ ⟨h2.symm, hy.2.2⟩ he
  exact ⟨Prod.ext h1 h3, he⟩
end
def vName (v : Int × Int) : Prop := I64 v.1 ∧ U64 v.2
def vVal (v : Bool × Int) : Prop := I64 v.2 ∧ (v.1 = false → v.2 = 0)
theorem udName : UD encName vName := by
  intro x y r r' hx hy he
  simp only [encName, List.append_assoc] at he
  have hx2 := hx.2
  have hy2 := hy.2
  unfold U64 at hx2 hy2
  obtain ⟨h1, he⟩ := udI _ _ _ _ hx.1 hy.1 he
  obtain ⟨h2, he⟩ := ud_U (by omega) (by omega) he
  exact ⟨Prod.ext h1 (by omega), he⟩
theorem udVal : UD encVal vVal := by
  intro x y r r' hx hy he
  obtain ⟨xb, xi⟩ := x
  obtain ⟨yb, yi⟩ := y
  simp only [encVal, List.append_assoc] at he
  obtain ⟨h1, he⟩ := udT _ _ _ _ trivial trivial he
  subst h1
  cases xb
  · have e1 := hx.2 rfl
    have e2 := hy.2 rfl
    simp only at e1 e2
    subst e1; subst e2
    exact ⟨rfl, by simpa using he⟩
  · simp only [if_true] at he
    obtain ⟨h2, he⟩ := udI _ _ _ _ hx.1 hy.1 he
    simp only at h2
    exact ⟨by rw [h2], he⟩
theorem bytesI_pos (i : Int) : 1 ≤ (bytesI i).length := bytesU_pos _
theorem name_pos (z : Int × Int) (_ : vName z) : 1 ≤ (encName z).length := by
  have := bytesI_pos z.1
  rw [encName, List.length_append]
  omega
theorem val_pos (z : Bool × Int) (_ : vVal z) : 1 ≤ (encVal z).length := by
  rw [encVal, List.length_append, byT_len]
  omega
theorem sp_name {body : List UInt8} {at_ a1 a2 : Nat} {bad b1 b2 : Bool} {i : Int} {n : Nat} (h1 : SP bytesI I64 body at_ bad a1 b1 i) (h2 : SP bytesU SmallN body a1 b1 a2 b2 n) : SP encName vName body at_ bad a2 b2 (i, (n : Int)) := by
  refine (h1.comp h2 udI).map _ (fun h => ⟨⟨h.1, by have := h.2; unfold SmallN at this; show U64 (n : Int); unfold U64; omega⟩, by simp [encName]⟩) (fun v => (v.1, v.2.toNat)) (fun y hy => ⟨⟨hy.1, by have := hy.2; unfold U64 at this; show y.2.toNat < _; omega⟩, rfl⟩)
theorem sp_val_true {body : List UInt8} {at_ a1 a2 : Nat} {bad b1 b2 : Bool} {i : Int} (h1 : SP byT (fun _ => True) body at_ bad a1 b1 true) (h2 : SP bytesI I64 body a1 b1 a2 b2 i) (hb : b1 = false) : SP encVal vVal body at_ bad a2 b2 (true, i) := by
  rcases h1 with ⟨p1, p2, _, p4⟩ | ⟨p1, _⟩
  · rcases h2 with ⟨q1, q2, q3, q4⟩ | ⟨q1, q2⟩
    · refine .inl ⟨p1, q2, ⟨q3, fun h => by cases h⟩, ?_⟩
      rw [p4, q4, encVal, if_pos rfl, List.append_assoc]
    · refine .inr ⟨q1, .inr fun y r hy he => ?_⟩
      rcases q2 with q2 | q2
      · rw [hb] at q2; cases q2
      · obtain ⟨yb, yi⟩ := y
        rw [p4, encVal, List.append_assoc] at he
        obtain ⟨g1, g2⟩ := udT _ _ _ _ trivial trivial he
        simp only at g1
        subst g1
        exact q2 yi r hy.1 (by simpa using g2)
  · rw [hb] at p1; cases p1
theorem sp_val_false {body : List UInt8} {at_ a1 : Nat} {bad b1 : Bool} (h1 : SP byT (fun _ => True) body at_ bad a1 b1 false) : SP encVal vVal body at_ bad a1 b1 (false, 0) := by
  rcases h1 with ⟨p1, p2, _, p4⟩ | ⟨p1, p2⟩
  · exact .inl ⟨p1, p2, ⟨by unfold I64; omega, fun _ => rfl⟩, by rw [p4, encVal]; simp⟩
  · refine .inr ⟨p1, p2.imp id fun hno y r _ he => hno y.1 ((if y.1 then bytesI y.2 else []) ++ r) trivial (by rw [he, encVal, List.append_assoc])⟩
end Go.Proofs.Ytaipnbpefdcejaa
