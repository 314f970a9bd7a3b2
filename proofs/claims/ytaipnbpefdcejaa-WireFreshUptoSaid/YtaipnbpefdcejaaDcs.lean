/- The walks of the laws WireDecodes and WireAlls. -/
import Derived.Test.YtaipnbpefdcejaaRAll
import Derived.Test.YtaipnbpefdcejaaAlk
set_option linter.unusedVariables false
namespace Go.Proofs.Ytaipnbpefdcejaa
open Go.RowKit
theorem dec_wf {l : List UInt8} {m : M} {n : Nat} {c : Int} (h : DecR l m n c) : WfM m := by
  rcases dec_code h with h0 | ⟨h1, _⟩
  · subst h0; exact (dec_one h).1.1
  · rw [h1]; exact (vxZ 0 (by omega) (by omega)).1
theorem all_det : ∀ (ms ms' : List M) (l : List UInt8) (n n' : Nat) (c c' : Int), AllR l ms n c → AllR l ms' n' c' → ms = ms' ∧ n = n' ∧ c = c' := by
  intro ms
  induction ms with
  | nil =>
    intro ms' l n n' c c' h h'
    obtain ⟨rest, h1, h2, h3, h4⟩ := h
    obtain ⟨rest', k1, k2, k3, k4⟩ := h'
    have e1 : l = rest := by simpa [flatF] using h1
    subst e1
    cases ms' with
    | nil =>
      have e2 : l = rest' := by simpa [flatF] using k1
      subst e2
      refine ⟨rfl, by rw [h2, k2], ?_⟩
      rcases h4 with ⟨g1, g2⟩ | ⟨g1, g2, x, k, g3⟩
      · rcases k4 with ⟨_, g4⟩ | ⟨g4, _⟩
        · rw [g2, g4]
        · exact (g4 g1).elim
      · rcases k4 with ⟨g4, _⟩ | ⟨_, _, y, k', g5⟩
        · exact (g1 g4).elim
        · exact (dec_det g3 g5).2.2
    | cons y ms' =>
      exfalso
      have hy := k3 y (by simp)
      have e2 : l = frameM y ++ (flatF ms' ++ rest') := by simpa [flatF] using k1
      rcases h4 with ⟨g1, _⟩ | ⟨g1, g2, x, k, g3⟩
      · rw [g1] at e2
        have h9 := congrArg List.length e2
        have h7 := inM_pos y
        unfold frameM at h9
        simp only [List.length_append, List.length_nil] at h9
        omega
      · rw [e2] at g3
        exact g2 (dec_frame hy.1 hy.2.1 hy.2.2 g3).1
  | cons x ms ih =>
    intro ms' l n n' c c' h h'
    obtain ⟨rest, h1, h2, h3, h4⟩ := h
    obtain ⟨rest', k1, k2, k3, k4⟩ := h'
    have hx := h3 x (by simp)
    have e1 : l = frameM x ++ (flatF ms ++ rest) := by simpa [flatF] using h1
    cases ms' with
    | nil =>
      exfalso
      have e2 : l = rest' := by simpa [flatF] using k1
      subst e2
      rcases k4 with ⟨g1, _⟩ | ⟨g1, g2, y, k, g3⟩
      · rw [g1] at e1
        have h9 := congrArg List.length e1
        have h7 := inM_pos x
        unfold frameM at h9
        simp only [List.length_append, List.length_nil] at h9
        omega
      · rw [e1] at g3
        exact g2 (dec_frame hx.1 hx.2.1 hx.2.2 g3).1
    | cons y ms' =>
      have hy := k3 y (by simp)
      have e2 : l = frameM y ++ (flatF ms' ++ rest') := by simpa [flatF] using k1
      obtain ⟨g1, g2⟩ := frame_inj hx.1 hy.1 hx.2.1 hy.2.1 hx.2.2 hy.2.2 (e1.symm.trans e2)
      obtain ⟨g3, g4, g5⟩ := ih ms' (flatF ms ++ rest) (flatF ms).length (flatF ms').length c c' ⟨rest, rfl, rfl, fun m hm => h3 m (by simp [hm]), h4⟩ ⟨rest', g2, rfl, fun m hm => k3 m (by simp [hm]), k4⟩
      refine ⟨by rw [g1, g3], ?_, g5⟩
      rw [h2, k2]
      simp only [flatF, List.flatMap_cons, List.length_append] at g4 ⊢
      rw [g1, g4]
theorem all_wf {l : List UInt8} {ms : List (M × Ps)} {n : Nat} {c : Int} (h : AllR l (ms.map (·.1)) n c) : ∀ x ∈ ms, WfM x.1 := by
  intro x hx
  obtain ⟨rest, _, _, h3, _⟩ := h
  exact (h3 x.1 (List.mem_map_of_mem hx)).1.1
set_option maxHeartbeats 4000000 in
set_option maxRecDepth 20000 in
theorem decodes_walk (a : Option Addr) (nb cap : Nat) (l : List UInt8) (w : World) (hn : l.length = nb) (hmax : nb ≤ 140737488355328) (hcap : nb ≤ cap) (hr : Rd w a (l.map B)) :
    Calls Try.prog 7 #[.slice a nb cap] w fun e w' => e = .returned (.bool true) ∧ Below w.heap.size w w' := by
  have HN := Lib.hid hn
  clear hn
  go_enter Try.func7, Try.ntmps7
  go_wp2_with fail
  refine (copied_n a cap nb l w HN.out hmax hr).mono ?_
  rintro e w1 ⟨a1, c1, rfl, hown1, hb1⟩
  have hcap1 := own_cap hown1
  have hr1 := hr.below hb1
  have hc1 := ownsRow_rd hown1
  clear hown1 hr
  go_wp2_with fail
  refine (decode_any a nb cap l w1 HN.out hmax hcap hr1).mono ?_
  rintro e w4 ⟨x, q, n, c, rfl, hR, hown4, hb4⟩
  have hr4 := hr1.below hb4
  have hc4 := hc1.below hb4
  have bb4 := hb1.trans (hb4.mono hb1.size)
  have hq4 := hown4.rd
  have HR := Lib.hid hR
  clear hown4 hR hb4 hb1 hr1 hc1
  obtain ⟨hkk, hkb, hth⟩ := new_msg w4 x q
  obtain ⟨wb, hwb⟩ : ∃ wb, wb = (w4.alloc (.cells cellsZ.toArray 50)).setCells w4.heap.size 0 (cellsM x q) := ⟨_, rfl⟩
  rw [← hwb] at hkk hkb
  unfold cellsZ at hth hwb
  have HWB := Lib.hid hwb
  clear hwb
  go_upto_region 3 with (first | ((with_reducible refine at_store ?_); refine wpList_store_mid rfl 50 _ _ rfl w4.heap.size 0 (cellsM x q).toArray rfl rfl hth (by kernel_rfl) (by kernel_rfl) ?_; rw [← HWB.out]) | fail)
  obtain ⟨gk, hgk⟩ : ∃ g, g = w4.heap.size := ⟨_, rfl⟩
  rw [← hgk] at hkk ⊢
  have hr5 := hr4.below hkb
  have hc5 := hc4.below hkb
  have hq5 := hq4.below hkb
  have bb5 := bb4.trans (hkb.mono bb4.size)
  clear hkb hth HWB hgk hq4 hr4 bb4 hc4
  go_wp2_with fail
  refine (rdecode_any a1 nb c1 l wb HN.out hmax hcap1 hc5).mono ?_
  rintro e w6 ⟨x2, q2, n2, c2, rfl, hR2, hown6, hb6⟩
  obtain ⟨rfl, rfl, rfl⟩ := dec_det HR.out hR2
  have hr6 := hr5.below hb6
  have hc6 := hc5.below hb6
  have hq6 := hq5.below hb6
  have hkk6 := hkk.below hb6
  have bb6 := bb5.trans (hb6.mono bb5.size)
  have hp6 := hown6.rd
  clear hown6 hR2 hb6 bb5 hq5 hc5 hr5 hkk
  obtain ⟨hjj, hjb, hth⟩ := new_msg w6 x q2
  obtain ⟨wc, hwc⟩ : ∃ wb, wb = (w6.alloc (.cells cellsZ.toArray 50)).setCells w6.heap.size 0 (cellsM x q2) := ⟨_, rfl⟩
  rw [← hwc] at hjj hjb
  unfold cellsZ at hth hwc
  have HWC := Lib.hid hwc
  clear hwc
  go_upto_region 4 with (first | ((with_reducible refine at_store ?_); refine wpList_store_mid rfl 50 _ _ rfl w6.heap.size 0 (cellsM x q2).toArray rfl rfl hth (by kernel_rfl) (by kernel_rfl) ?_; rw [← HWC.out]) | fail)
  obtain ⟨gj, hgj⟩ : ∃ g, g = w6.heap.size := ⟨_, rfl⟩
  rw [← hgj] at hjj ⊢
  have hr7 := hr6.below hjb
  have hc7 := hc6.below hjb
  have hq7 := hq6.below hjb
  have hp7 := hp6.below hjb
  have hkk7 := hkk6.below hjb
  have bb7 := bb6.trans (hjb.mono bb6.size)
  clear hjb hth HWC hgj hr6 hc6 hq6 hp6 hkk6 bb6
  go_wp2_with fail
  refine (same_n a a1 cap c1 nb nb l l wc HN.out HN.out hmax hr7 hc7).mono ?_
  rintro e w8 ⟨rfl, hb8⟩
  rw [beq_self_eq_true]
  have hkk8 := hkk7.below hb8
  have hjj8 := hjj.below hb8
  have hq8 := hq7.below hb8
  have hp8 := hp7.below hb8
  have bb8 := bb7.trans (hb8.mono bb7.size)
  clear hb8 hkk7 hjj hq7 hp7 bb7 hr7 hc7
  have i1 := eql_of (a := c) (b := c) rfl
  have i2 := eql_of (a := (n : Int)) (b := n) rfl
  go_wp2_with (first | ((with_reducible refine at_dst 40 ?_); refine wpList_load_midg rfl 50 (.tmp 4) rfl gk 0 rfl (cellsM x q) _ hkk8.whole Try.underlying50 rfl (by kernel_rfl) ?_) | ((with_reducible refine at_dst 41 ?_); refine wpList_load_midg rfl 50 (.tmp 7) rfl gj 0 rfl (cellsM x q2) _ hjj8.whole Try.underlying50 rfl (by kernel_rfl) ?_) | fail)
  refine (alike_any x x q q2 w8 (dec_wf HR.out) (dec_wf HR.out) hq8 hp8).mono ?_
  rintro e w9 ⟨b9, rfl, hb9, hbe9⟩
  obtain rfl : b9 = true := hb9.2 rfl
  have hfin := bb8.trans (hbe9.mono bb8.size)
  clear hb9 hbe9 bb8 hq8 hp8 hkk8 hjj8
  go_wp2
  go_ret
  exact ⟨rfl, hfin⟩
set_option maxHeartbeats 4000000 in
set_option maxRecDepth 20000 in
theorem alls_walk (a : Option Addr) (nb cap : Nat) (l : List UInt8) (w : World) (hn : l.length = nb) (hmax : nb ≤ 34359738368) (hcap : nb ≤ cap) (hr : Rd w a (l.map B)) :
    Calls Try.prog 11 #[.slice a nb cap] w fun e w' => e = .returned (.bool true) ∧ Below w.heap.size w w' := by
  have HN := Lib.hid hn
  clear hn
  go_enter Try.func11, Try.ntmps11
  go_wp2_with fail
  refine (copied_n a cap nb l w HN.out (by omega) hr).mono ?_
  rintro e w1 ⟨a1, c1, rfl, hown1, hb1⟩
  have hcap1 := own_cap hown1
  have hr1 := hr.below hb1
  have hc1 := ownsRow_rd hown1
  clear hown1 hr
  go_wp2_with fail
  refine (all_any a nb cap l w1 HN.out hmax hcap hr1).mono ?_
  rintro e w4 ⟨ms, a4, c4, n, er, rfl, hR, hO4, hb4⟩
  have hr4 := hr1.below hb4
  have hc4' := hc1.below hb4
  have bb4 := hb1.trans (hb4.mono hb1.size)
  have hl4 := hO4.rd
  have HR := Lib.hid hR
  have hms : ms.length ≤ 1099511627776 := by
    obtain ⟨rest, h1, h2, _⟩ := hR
    have h3 := flatF_len (ms.map (·.1))
    have h4 := congrArg List.length h1
    rw [List.length_append, HN.out] at h4
    rw [List.length_map] at h3
    omega
  clear hR hb4 hb1 hr1 hc1 hO4
  go_wp2_with fail
  refine (rall_any a1 nb c1 l w4 HN.out hmax hcap1 hc4').mono ?_
  rintro e w6 ⟨ms2, a6, c6, n2, er2, rfl, hR2, hO6, hb6⟩
  obtain ⟨g1, g2, g3⟩ := all_det _ _ _ _ _ _ _ HR.out hR2
  subst n2 er2
  have hr6 := hr4.below hb6
  have hc6 := hc4'.below hb6
  have hl6 := hl4.below hb6
  have bb6 := bb4.trans (hb6.mono bb4.size)
  have hp6 := hO6.rd
  have HR2 := Lib.hid hR2
  have HMM := Lib.hid g1
  clear hO6 hR2 hb6 bb4 hl4 hc4' hr4 g1
  go_wp2_with fail
  refine (same_n a a1 cap c1 nb nb l l w6 HN.out HN.out (by omega) hr6 hc6).mono ?_
  rintro e w8 ⟨rfl, hb8⟩
  rw [beq_self_eq_true]
  have hl8 := hl6.below hb8
  have hp8 := hp6.below hb8
  have bb8 := bb6.trans (hb8.mono bb6.size)
  clear hb8 hl6 hp6 bb6 hr6 hc6
  have i1 := eql_of (a := er) (b := er) rfl
  have i2 := eql_of (a := (n : Int)) (b := n) rfl
  go_wp2_with fail
  refine (alikeall_any a4 a6 c4 c6 ms.length ms2.length ms ms2 w8 rfl rfl hms (all_wf HR.out) (all_wf HR2.out) hl8 hp8).mono ?_
  rintro e w9 ⟨b9, rfl, hb9, hbe9⟩
  obtain rfl : b9 = true := hb9.2 HMM.out
  have hfin := bb8.trans (hbe9.mono bb8.size)
  clear hb9 hbe9 bb8 hl8 hp8
  go_wp2
  go_ret
  exact ⟨rfl, hfin⟩
theorem decodes_law {w : World} (a : Option Addr) (n cap : Nat) (l : List UInt8) (hl : l.length = n) (h : Rd w a (l.map B)) (z : n ≤ 140737488351232) (hc : n ≤ cap) (w' : World) (hw : w = w') :
    Calls Try.prog 7 #[.slice a n cap] w' fun e W' => e = .returned (.bool true) ∧ Below w'.heap.size w' W' := by
  subst hw
  exact decodes_walk a n cap l w hl (by omega) hc h
theorem alls_law {w : World} (a : Option Addr) (n cap : Nat) (l : List UInt8) (hl : l.length = n) (h : Rd w a (l.map B)) (z : n ≤ 1048576) (hc : n ≤ cap) (w' : World) (hw : w = w') :
    Calls Try.prog 11 #[.slice a n cap] w' fun e W' => e = .returned (.bool true) ∧ Below w'.heap.size w' W' := by
  subst hw
  exact alls_walk a n cap l w hl (by omega) hc h
#print axioms decodes_law
#print axioms alls_law
end Go.Proofs.Ytaipnbpefdcejaa
