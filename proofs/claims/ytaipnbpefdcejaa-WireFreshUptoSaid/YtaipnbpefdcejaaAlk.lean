/- The laws' alikeAll 36. -/
import Derived.Test.YtaipnbpefdcejaaQC
import Derived.Test.YtaipnbpefdcejaaMK
set_option linter.unusedVariables false
namespace Go.Proofs.Ytaipnbpefdcejaa
open Go.RowKit
def AllAl (us vs : List (M × Ps)) (w : World) (e : Ending) (w' : World) : Prop := ∃ r : Bool, e = .returned (.bool r) ∧ (r = true ↔ us.map (·.1) = vs.map (·.1)) ∧ Below w.heap.size w w'
open Classical in
set_option maxHeartbeats 1000000 in
set_option maxRecDepth 20000 in
theorem alikeall_any (a b : Option Addr) (ca cb na nb : Nat) (us vs : List (M × Ps)) (w : World) (hna : us.length = na) (hnb : vs.length = nb) (hmax : na ≤ 1099511627776) (hwa : ∀ x ∈ us, WfM x.1) (hwb : ∀ x ∈ vs, WfM x.1) (hra : RdL w a us) (hrb : RdL w b vs) :
    Calls Try.prog 36 #[.slice a na ca, .slice b nb cb] w (AllAl us vs w) := by
  have HNA := Lib.hid hna
  have HNB := Lib.hid hnb
  have HRA := Lib.hid hra
  have HRB := Lib.hid hrb
  clear hna hnb hra hrb
  by_cases hne : na = nb
  · subst hne
    have hee : ((na : Int) != na) = false := by simp
    have hno : ¬ (na : Int) ≠ na := by simp
    go_enter Try.func36, Try.ntmps36
    go_wp2_with fail
    obtain ⟨W0, hW0⟩ : ∃ W0, W0 = w := ⟨_, rfl⟩
    rw [← hW0]
    have HB0 : Hid (Below w.heap.size w W0) := Lib.hid (by rw [hW0]; exact Below.refl _ _)
    have HW0 := Lib.hid hW0
    clear hW0
    go_loopw [5] (fun i wr => ∃ (j : Nat), i = .int .i64 (j : Int) ∧ j ≤ na ∧ (us.map (·.1)).take j = (vs.map (·.1)).take j ∧ Below w.heap.size w wr) (fun i _ => na - (intOf i).toNat)
    case atStart => exact ⟨0, rfl, Nat.zero_le _, by simp, HB0.out⟩
    case round =>
      obtain ⟨j, rfl, hj, hp, hbe⟩ := hrel
      have HP := Lib.hid hp
      have HBE := Lib.hid hbe
      clear hp hbe
      by_cases hlt : j < na
      · have hlt' : (j : Int) < na := by omega
        have hja : j < us.length := by rw [HNA.out]; exact hlt
        have hjb : j < vs.length := by rw [HNB.out]; exact hlt
        obtain ⟨b1, o1, rfl, hg1⟩ := (HRA.out.below HBE.out).at j hja
        obtain ⟨b2, o2, rfl, hg2⟩ := (HRB.out.below HBE.out).at j hjb
        have hm1 := (HRA.out.below HBE.out).2 us[j] (List.getElem_mem hja)
        have hm2 := (HRB.out.below HBE.out).2 vs[j] (List.getElem_mem hjb)
        have hw1 := hwa us[j] (List.getElem_mem hja)
        have hw2 := hwb vs[j] (List.getElem_mem hjb)
        obtain ⟨x, hx⟩ : ∃ x, x = us[j] := ⟨_, rfl⟩
        obtain ⟨y, hy⟩ : ∃ y, y = vs[j] := ⟨_, rfl⟩
        rw [← hx] at hg1 hm1 hw1
        rw [← hy] at hg2 hm2 hw2
        obtain ⟨m, p⟩ := x
        obtain ⟨m2, q⟩ := y
        dsimp only at hg1 hm1 hw1 hg2 hm2 hw2
        have HX := Lib.hid hx
        have HY := Lib.hid hy
        clear hx hy
        have hnext : m = m2 → (us.map (·.1)).take (j + 1) = (vs.map (·.1)).take (j + 1) := fun h => by
          rw [take_snoc _ j (by simpa using hja), take_snoc _ j (by simpa using hjb), HP.out, List.getElem_map, List.getElem_map, ← HX.out, ← HY.out, h]
        have hstop : m ≠ m2 → us.map (·.1) ≠ vs.map (·.1) := fun h h2 => h (by
          have h3 : (us.map (·.1))[j]? = (vs.map (·.1))[j]? := by rw [h2]
          rw [List.getElem?_eq_getElem (by simpa using hja), List.getElem?_eq_getElem (by simpa using hjb), List.getElem_map, List.getElem_map, ← HX.out, ← HY.out] at h3
          exact Option.some.inj h3)
        have HNX := Lib.hid hnext
        have HSTP := Lib.hid hstop
        have HME := Lib.hid (meas_lt hlt)
        have hjn : j + 1 ≤ na := hlt
        clear hnext hstop
        go_upto_region 6 with fail
        refine wp_region_class (fun W => Below wr.heap.size wr W) (by kernel_rfl) (by kernel_rfl) (below_draws wr) ?_
        refine qc_move rfl (.tmp 0) (.inl rfl) ?_
        refine wpq_hide (fun K hK => ?_)
        go_simp
        refine hK _ ?_
        clear hK K
        refine qc_move rfl (.tmp 5) (.inl rfl) ?_
        refine wpq_hide (fun K hK => ?_)
        go_simp
        refine hK _ ?_
        clear hK K
        refine qc_index rfl 62 50 (.tmp 18) (.tmp 19) rfl Try.underlying62 31 (by kernel_rfl) b1 o1 na ca j .i64 rfl rfl hlt ?_
        refine wpq_hide (fun K hK => ?_)
        go_simp
        refine hK _ ?_
        clear hK K
        refine qc_load rfl 50 (.tmp 20) rfl b1 (o1 + j * 31) rfl (cellsM m p) _ (fun W hW => range_below hg1 hW) Try.underlying50 rfl (by kernel_rfl) ?_
        refine wpq_hide (fun K hK => ?_)
        go_simp
        refine hK _ ?_
        clear hK K
        refine qc_move rfl (.tmp 1) (.inl rfl) ?_
        refine wpq_hide (fun K hK => ?_)
        go_simp
        refine hK _ ?_
        clear hK K
        refine qc_move rfl (.tmp 5) (.inl rfl) ?_
        refine wpq_hide (fun K hK => ?_)
        go_simp
        refine hK _ ?_
        clear hK K
        refine qc_index rfl 62 50 (.tmp 22) (.tmp 23) rfl Try.underlying62 31 (by kernel_rfl) b2 o2 na cb j .i64 rfl rfl hlt ?_
        refine wpq_hide (fun K hK => ?_)
        go_simp
        refine hK _ ?_
        clear hK K
        refine qc_load rfl 50 (.tmp 24) rfl b2 (o2 + j * 31) rfl (cellsM m2 q) _ (fun W hW => range_below hg2 hW) Try.underlying50 rfl (by kernel_rfl) ?_
        refine wpq_hide (fun K hK => ?_)
        go_simp
        refine hK _ ?_
        clear hK K
        refine qc_call2 rfl 29 (by kernel_rfl) (.tmp 21) (.tmp 25) #[50, 50] rfl (valM m p) (valM m2 q) rfl rfl (.bool (decide (m = m2))) (fun W hW => ?_) ?_
        · refine (alike_any m m2 p q W hw1 hw2 (hm1.below hW) (hm2.below hW)).mono ?_
          rintro e W' ⟨b3, rfl, h3, h4⟩
          refine ⟨?_, hW.trans (h4.mono hW.size)⟩
          rw [show b3 = decide (m = m2) from bool_iff h3 (by simp)]
        refine wpq_hide (fun K hK => ?_)
        go_simp
        refine hK _ ?_
        clear hK K
        refine qc_move rfl (.tmp 26) (.inr rfl) ?_
        refine wpq_hide (fun K hK => ?_)
        go_simp
        refine hK _ ?_
        clear hK K
        refine wpQuiet_nil ?_
        intro w6 hb6
        have hbe6 : Below w.heap.size w w6 := HBE.out.trans (hb6.mono HBE.out.size)
        clear hb6 hg1 hg2 hm1 hm2
        by_cases hmm : m = m2
        · have HR : Hid (∃ (j' : Nat), Value.int .i64 ((j : Int) + 1) = .int .i64 (j' : Int) ∧ j' ≤ na ∧ (us.map (·.1)).take j' = (vs.map (·.1)).take j' ∧ Below w.heap.size w w6) := Lib.hid ⟨j + 1, rfl, hjn, HNX.out hmm, hbe6⟩
          rw [decide_eq_true hmm]
          clear hmm hbe6
          go_wp2
          go_roundw
          case rel => exact HR.out
          case measure => exact HME.out
        · rw [decide_eq_false hmm]
          have HF : Hid (AllAl us vs w (.returned (.bool false)) w6) := Lib.hid ⟨false, rfl, ⟨fun h => (Bool.false_ne_true h).elim, fun h => (HSTP.out hmm h).elim⟩, hbe6⟩
          clear hmm hbe6
          go_wp2
          go_ret
          first | exact HF.out | (rw [HW0.out]; exact HF.out)
      · have hlt' : ¬ (j : Int) < na := by omega
        have HF : Hid (AllAl us vs w (.returned (.bool true)) wr) := Lib.hid ⟨true, rfl, ⟨fun _ => by
          have h1 := HP.out
          rw [List.take_of_length_le (by rw [List.length_map, HNA.out]; omega), List.take_of_length_le (by rw [List.length_map, HNB.out]; omega)] at h1
          exact h1, fun _ => rfl⟩, HBE.out⟩
        go_wp2_with fail
        go_ret
        first | exact HF.out | (rw [HW0.out]; exact HF.out)
  · have hn1 : ¬ (na : Int) = nb := by omega
    have hn2 := eql_of' hn1
    have hn3 : ((na : Int) != nb) = true := by simp [bne, hn2]
    have HF : Hid (AllAl us vs w (.returned (.bool false)) w) := Lib.hid ⟨false, rfl, ⟨fun h => (Bool.false_ne_true h).elim, fun h => by
      have h1 := congrArg List.length h
      rw [List.length_map, List.length_map, HNA.out, HNB.out] at h1
      exact (hne h1).elim⟩, Below.refl _ _⟩
    go_enter Try.func36, Try.ntmps36
    go_wp2_with fail
    go_ret
    exact HF.out
#print axioms alikeall_any
end Go.Proofs.Ytaipnbpefdcejaa
