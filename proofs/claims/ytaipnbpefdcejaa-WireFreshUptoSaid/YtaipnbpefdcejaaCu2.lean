/- The reference's Cursor: truth 61 and bytes 59. -/
import Derived.Test.YtaipnbpefdcejaaCu1
set_option linter.unusedVariables false
namespace Go.Proofs.Ytaipnbpefdcejaa
open Go.RowKit
theorem CS.drewN {w0 : World} {g : Nat} {body : List UInt8} {ab : Option Addr} {nb cb at_ : Nat} {w : World} (h : CS w0 g body ab nb cb at_ w) (n : Nat) : CS w0 g body ab nb cb at_ (w.drewN n) := h.below (below_draws w)
def CuTruth := CuPost (α := Bool) byT (fun _ _ => True) (fun b => .bool b) (fun _ => True)
set_option maxRecDepth 20000 in
theorem cu_truth {w0 : World} {g : Nat} {body : List UInt8} {ab : Option Addr} {nb cb at_ : Nat} {w : World} (hc : RC w0 g body ab nb cb) (h : CS w0 g body ab nb cb at_ w) :
    Calls Try.prog 61 #[.pointer (some ⟨g, 0, none⟩)] w (CuTruth w0 g body ab nb cb at_ w) := by
  have hrd := hc.rd.below h.2.2
  have hlen := hc.len
  have hsm := hc.small
  obtain ⟨c0, c1, f1⟩ := h.cells
  have hat := h.2.1
  have HC := Lib.hid hc
  have HS := Lib.hid h
  have HL := Lib.hid hlen
  clear hc h hlen
  by_cases hlt : at_ < nb
  · have hlb : at_ < body.length := by rw [HL.out]; exact hlt
    obtain ⟨b, off, hab, hcs⟩ := hrd.cells (by intro h0; have := congrArg List.length h0; simp at this; rw [this] at hlb; simp at hlb)
    have hdr := drop_cons hlb
    obtain ⟨x, hx⟩ : ∃ x, x = body[at_] := ⟨_, rfl⟩
    rw [← hx] at hdr
    have hxl := x.toNat_lt
    have hlt' : ¬ (nb : Int) ≤ at_ := by omega
    have hlt3 : (at_ : Int) < nb := by omega
    have HX := Lib.hid hx
    subst hab
    have hwp : wrap64 ((at_ : Int) + 1) = (at_ : Int) + 1 := by unfold wrap64; omega
    have hsb : wrap64 ((at_ : Int) + 1 - 1) = (at_ : Int) := by unfold wrap64; omega
    have HGOT : Hid (Got body at_ (at_ + 1) byT (fun _ _ => True) ((x.toNat : Int) != 0)) := Lib.hid (fun v' r _ h9 => by
      rw [hdr] at h9
      unfold byT at h9
      injection h9 with h10 h11
      refine ⟨?_, h11⟩
      rw [h10]
      cases v' <;> rfl)
    clear hcs hx hdr hrd
    go_enter Try.func61, Try.ntmps61
    go_upto_region 4 with (go_quiet (fail))
    have hs2 := (HS.out.drewN nq).setAt HC.out (at_ + 1) (by omega)
    have hpu : (((at_ + 1 : Nat) : Int)) = (at_ : Int) + 1 := by omega
    rw [hpu] at hs2
    obtain ⟨w2, hw2⟩ : ∃ x, x = (w.drewN nq).setCell ⟨g, 1, none⟩ (.int .i64 ((at_ : Int) + 1)) := ⟨_, rfl⟩
    rw [← hw2] at hs2 ⊢
    obtain ⟨e0, e1, _⟩ := hs2.1.cells
    rw [hpu] at e1
    have hrd2 := HC.out.rd.below hs2.1.2.2
    obtain ⟨b', off', hab', hcs'⟩ := hrd2.cells (by intro h0; have := congrArg List.length h0; simp at this; rw [this] at hlb; simp at hlb)
    cases hab'
    have hcj' := hcs' at_ (by simpa using hlb)
    rw [List.getElem_map, B, ← HX.out] at hcj'
    have HS2 := Lib.hid hs2
    clear hw2 hs2 hrd2 hcs' c0 c1 f1 hpu
    go_wp2_with (go_quiet (fail))
    all_goals go_ret
    all_goals exact ⟨(x.toNat : Int) != 0, at_ + 1, rfl, trivial, HS2.out.1.drewN _, undrewN (grown_drewN HS2.out.2), HGOT.out⟩
  · have hlt' : (nb : Int) ≤ at_ := by omega
    have HGOT : Hid (Got body at_ at_ byT (fun _ _ => True) false) := Lib.hid (fun v' r _ h9 => by
      rw [List.drop_eq_nil_of_le (by rw [HL.out]; omega)] at h9
      unfold byT at h9
      simp at h9)
    clear hlt
    go_enter Try.func61, Try.ntmps61
    go_wp2_with (go_quiet (fail))
    all_goals go_ret
    all_goals exact ⟨false, at_, rfl, trivial, HS.out.drewN _, ⟨rfl, rfl, rfl, Nat.le_refl _, fun _ _ _ => rfl⟩, HGOT.out⟩
def CuBytes (w0 : World) (g : Nat) (body : List UInt8) (ab : Option Addr) (nb cb at_ : Nat) (w : World) (en : Ending) (w' : World) : Prop :=
  ∃ (l : List UInt8) (a2 : Nat) (aa : Option Addr) (cc : Nat), en = .returned (.slice aa l.length cc) ∧ l.length ≤ nb ∧ CS w0 g body ab nb cb a2 w' ∧ w.grownBy w' (some g) ∧ w'.ownsRow w.heap.size 5 1 (.slice aa l.length cc) l.length (l.map B) ∧
    Got body at_ a2 (fun l => bytesU l.length ++ l) (fun l _ => l.length < 18446744073709551616) l
set_option maxRecDepth 20000 in
theorem cu_bytes {w0 : World} {g : Nat} {body : List UInt8} {ab : Option Addr} {nb cb at_ : Nat} {w : World} (hc : RC w0 g body ab nb cb) (h : CS w0 g body ab nb cb at_ w) :
    Calls Try.prog 59 #[.pointer (some ⟨g, 0, none⟩)] w (CuBytes w0 g body ab nb cb at_ w) := by
  go_enter Try.func59, Try.ntmps59
  go_wp2_with fail
  refine (cu_count hc h).mono ?_
  rintro e w1 ⟨n, a2, rfl, hn, hcs, hg, hgot⟩
  have hsm := hc.small
  have hcap := hc.cap
  have HC := Lib.hid hc
  have HCS := Lib.hid hcs
  have HG := Lib.hid hg
  have HGOT := Lib.hid hgot
  obtain ⟨c0, c1, f1⟩ := hcs.cells
  clear hgot hc h hg hcs
  have hw1 : IntKind.i64.wrap ((a2 : Int) + n) = (a2 : Int) + n := by rw [IntKind.wrap_i64]; omega
  have hw3 : wrap64 ((a2 : Int) + n) = (a2 : Int) + n := by unfold wrap64; omega
  have ht1 : ((a2 : Int) + n).toNat = a2 + n := by omega
  have h01 : (0 : Int) ≤ (a2 : Int) + n := by omega
  have hle2 : (a2 : Int) + n ≤ cb := by omega
  have hsub : a2 + n - a2 = n := by omega
  obtain ⟨l, hl⟩ : ∃ l, l = (body.drop a2).take n := ⟨_, rfl⟩
  have hll : l.length = n := by rw [hl, List.length_take, List.length_drop, HC.out.len]; omega
  obtain ⟨sa, hsa⟩ : ∃ sa, sa = if cb = a2 then ab else Option.map (fun x => x.add a2) ab := ⟨_, rfl⟩
  have hrs : Rd w1.drew sa (l.map B) := by
    have h0 : Rd w1.drew ab (body.map B) := HC.out.rd.below HCS.out.2.2.drew
    have h1 := h0.sub a2 (a2 + n) (by rw [List.length_map, HC.out.len]; exact hn) sa (fun hlt => by rw [hsa, if_neg (by omega), Nat.mul_one])
    rw [← List.map_take, ← List.map_drop, List.drop_take, hsub, ← hl] at h1
    exact h1
  have HL := Lib.hid hl
  have HLL := Lib.hid hll
  have HRD := Lib.hid hrs
  clear hl hll hrs
  go_upto_region 2 with fail
  go_still_tail 15, (by kernel_rfl)
  change wpList _ _ _ _ _ w1.drew
  rw [← hsa]
  clear hsa
  go_wp2_with fail
  refine (rcopied_n sa (cb - a2) n l w1.drew HLL.out (by omega) HRD.out).mono ?_
  rintro e w2 ⟨a3, c3, rfl, hown3, hb3⟩
  have hcs2 : CS w0 g body ab nb cb a2 w2 := HCS.out.drew.below hb3
  obtain ⟨d0, d1, k1⟩ := hcs2.cells
  have hs3 := hcs2.setAt HC.out (a2 + n) hn
  have hglt : g < w1.heap.size := HCS.out.1.lt
  have hne : (Value.slice a3 n c3).ownBlock = none ∨ (Value.slice a3 n c3).ownBlock ≠ some g := by
    right
    intro h9
    have h10 := (hown3.lt g h9).1
    have h11 : w1.drew.heap.size = w1.heap.size := rfl
    omega
  have hown4 := hown3.kept hs3.2 hne
  have HO := Lib.hid (own_low (base' := w.heap.size) hown4 HG.out.size)
  have hgr : w.grownBy (w2.setCell ⟨g, 1, none⟩ (.int .i64 ((a2 + n : Nat) : Int))) (some g) := grown_trans2 HG.out (grown_trans2 ⟨hb3.os, hb3.tape, hb3.output, hb3.size, fun k hk _ => hb3.block k hk⟩ hs3.2)
  have HGR := Lib.hid hgr
  have HS3 := Lib.hid hs3.1
  have hpu : ((a2 + n : Nat) : Int) = (a2 : Int) + n := by omega
  have HG2 : Hid (Got body at_ (a2 + n) (fun l => bytesU l.length ++ l) (fun l _ => l.length < 18446744073709551616) l) := Lib.hid (fun v' r hv' h9 => by
    simp only [List.append_assoc] at h9
    obtain ⟨h10, h11⟩ := HGOT.out v'.length (v' ++ r) ⟨by rw [List.length_append]; omega, hv'⟩ h9
    refine ⟨?_, ?_⟩
    · rw [HL.out, h11, h10, List.take_left]
    · rw [← List.drop_drop, h11, h10, List.drop_left])
  rw [hpu] at HO HGR HS3
  clear hs3 hown3 hown4 hb3 hgr c0 c1 f1 hne hpu hcs2
  go_wp2
  go_ret
  refine ⟨l, a2 + n, a3, c3, ret_val ?_, by rw [HLL.out]; omega, HS3.out, HGR.out, ?_, HG2.out⟩
  · rw [HLL.out]; rfl
  · rw [HLL.out]
    exact HO.out
#print axioms cu_truth
end Go.Proofs.Ytaipnbpefdcejaa
