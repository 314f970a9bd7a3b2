/- The walk of the reference's All. -/
import Derived.Test.YtaipnbpefdcejaaRDec
set_option linter.unusedVariables false
namespace Go.Proofs.Ytaipnbpefdcejaa
open Go.RowKit
set_option maxHeartbeats 4000000 in
set_option maxRecDepth 20000 in
theorem rall_any (a : Option Addr) (nb cap : Nat) (l : List UInt8) (w : World) (hn : l.length = nb) (hmax : nb ≤ 34359738368) (hcap : nb ≤ cap) (hr : Rd w a (l.map B)) : Calls Try.prog 35 #[.slice a nb cap] w (AllPost l w) := by
  have HN := Lib.hid hn
  have HR := Lib.hid hr
  have HST := Lib.hid (AS.start w l)
  clear hn hr
  go_enter Try.func35, Try.ntmps35
  go_wp2_with fail
  obtain ⟨W0, hW0⟩ : ∃ W0, W0 = w := ⟨_, rfl⟩
  rw [← hW0]
  have HST2 : Hid (AS w l [] none 0 0 W0) := Lib.hid (by rw [hW0]; exact HST.out)
  have HW0 := Lib.hid hW0
  clear hW0 HST
  go_loopw [5, 6] (fun o i wr => ∃ (ms : List (M × Ps)) (a2 : Option Addr) (c2 at_ : Nat), o = .slice a2 ms.length c2 ∧ i = .int .i64 (at_ : Int) ∧ AS w l ms a2 c2 at_ wr) (fun _ i _ => nb - (intOf i).toNat)
  case atStart => exact ⟨[], none, 0, 0, rfl, rfl, HST2.out⟩
  case round =>
    obtain ⟨ms, a2, c2, at_, rfl, rfl, has⟩ := hrel
    have HAS := Lib.hid has
    have hle := has.le
    rw [HN.out] at hle
    have hme := flatF_len (ms.map (·.1))
    rw [← has.place, List.length_map] at hme
    clear has
    by_cases hlt : at_ < nb
    · have hlt' : (at_ : Int) < nb := by omega
      obtain ⟨bk, off, rfl, _⟩ := HR.out.cells (by intro h0; have h1 := congrArg List.length h0; rw [List.length_map, List.length_nil, HN.out] at h1; omega)
      have hrd := (HR.out.below HAS.out.bel).sub at_ nb (by rw [List.length_map]; exact Nat.le_of_eq HN.out.symm) (some ⟨bk, off + at_, none⟩) (fun _ => by simp [Addr.add])
      rw [← List.map_take, ← List.map_drop, List.take_of_length_le (by rw [HN.out]; exact Nat.le_refl _)] at hrd
      have hln : (l.drop at_).length = nb - at_ := by rw [List.length_drop, HN.out]
      have HRD := Lib.hid hrd
      have HLN := Lib.hid hln
      clear hrd hln
      go_wp2_with fail
      refine (rdecode_any (some ⟨bk, off + at_, none⟩) (nb - at_) (cap - at_) (l.drop at_) wr HLN.out (by omega) (by omega) HRD.out).mono ?_
      rintro e w1 ⟨x, q, n, c, rfl, hR, hown, hb1⟩
      have HRR := Lib.hid hR
      have HB1 := Lib.hid hb1
      have HOW := Lib.hid hown
      clear hR hb1 hown
      obtain ⟨hkk, hkb, hth⟩ := new_msg w1 x q
      obtain ⟨wb, hwb⟩ : ∃ wb, wb = (w1.alloc (.cells cellsZ.toArray 50)).setCells w1.heap.size 0 (cellsM x q) := ⟨_, rfl⟩
      rw [← hwb] at hkk hkb
      unfold cellsZ at hth hwb
      have HWB := Lib.hid hwb
      clear hwb
      go_upto_region 5 with (first | ((with_reducible refine at_store ?_); refine wpList_store_mid rfl 50 _ _ rfl w1.heap.size 0 (cellsM x q).toArray rfl rfl hth (by kernel_rfl) (by kernel_rfl) ?_; rw [← HWB.out]) | fail)
      obtain ⟨gk, hgk⟩ : ∃ g, g = w1.heap.size := ⟨_, rfl⟩
      rw [← hgk] at hkk ⊢
      have hbb : Below wr.heap.size wr wb := HB1.out.trans (hkb.mono HB1.out.size)
      have hown2 : OwnM wr.heap.size wb x q := HOW.out.below hkb
      have hown3 : wb.ownsRow w.heap.size 50 31 (.slice a2 ms.length c2) ms.length (mcells ms) := own_below HAS.out.own.1 hbb
      have hbase : w.heap.size ≤ wb.heap.size := Nat.le_trans HAS.out.bel.size hbb.size
      have HBB := Lib.hid hbb
      have HO2 := Lib.hid hown2
      clear hth HWB hgk hkb hbb hown2 HOW HB1
      by_cases hc : c = 0
      · subst hc
        have hd1 := dec_one HRR.out
        have hn2 : 2 ≤ n := hd1.2.2.2.2.2.2
        have hn3 : n ≤ nb - at_ := by have := hd1.2.2.2.2.2.1; rw [HLN.out] at this; exact this
        have hs : IntKind.i64.wrap ((at_ : Int) + n) = (at_ : Int) + n := by rw [IntKind.wrap_i64]; omega
        have hme2 : nb - (at_ + n) < nb - at_ := by omega
        clear hd1
        go_wp2_with (first | ((with_reducible refine at_dst 28 ?_); refine wpList_load_midg rfl 50 (.tmp 7) rfl gk 0 rfl (cellsM x q) _ hkk.whole Try.underlying50 rfl (by kernel_rfl) ?_) | ((with_reducible refine at_dst 29 ?_); refine wpList_buildSlice_one wb rfl 62 50 (.tmp 28) rfl 31 Try.underlying62 zero50 (by decide) (by decide) (cellsM x q).toArray rfl rfl ?_) | (at_builtin; refine app_msg wb rfl _ _ rfl w.heap.size (.slice a2 ms.length c2) ms ms.length rfl rfl hown3 x q rfl (by omega) hbase ?_; intro a' c' w' ho' hb' hm') | fail)
        have hgrow := HAS.out.grow HRR.out (HBB.out.trans ((Below.refl wb.heap.size wb).alloc (Nat.le_refl _) (.cells (cellsM x q).toArray 50) |>.mono HBB.out.size)) (HO2.out.below ((Below.refl _ _).alloc (Nat.le_refl _) _)) hm' ((HBB.out.mono HAS.out.bel.size).trans hb') ho'
        have HR : Hid (∃ (ms' : List (M × Ps)) (a3 : Option Addr) (c3 at2 : Nat), Value.slice a' (ms.length + 1) c' = .slice a3 ms'.length c3 ∧ Value.int .i64 ((at_ : Int) + n) = .int .i64 (at2 : Int) ∧ AS w l ms' a3 c3 at2 w') := Lib.hid ⟨ms ++ [(x, q)], a', c', at_ + n, by rw [List.length_append]; rfl, rfl, hgrow⟩
        have HME := Lib.hid (meas_lt2 (n := n) hlt (by omega))
        clear hgrow ho' hb' hm' hkk hown3 hbase
        go_wp2
        go_roundw
        case rel => exact HR.out
        case measure => exact HME.out
      · go_wp2_with fail
        go_ret3
        rw [HW0.out]
        exact HAS.out.fail HBB.out (by rw [HN.out]; exact hlt) HRR.out hc
    · have hlt' : ¬ (at_ : Int) < nb := by omega
      go_wp2_with fail
      go_ret3
      first | rw [HW0.out] | skip
      exact HAS.out.stop (Below.refl _ _) (by rw [HN.out]; omega)
#print axioms rall_any
end Go.Proofs.Ytaipnbpefdcejaa
