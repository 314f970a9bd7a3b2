/- JournalAppends returns true for every log and record of bulk at most 1048576. -/
import Derived.Test.YtiebnfdjnclkcaaW4
import Derived.Deep.RegionHeld3
set_option linter.unusedVariables false
namespace Go.Proofs.Ytiebnfdjnclkcaa
open Go.RowKit

def c30 : List UInt8 := [1, 2, 3, 4, 5, 6, 7, 8, 9, 10, 11, 12, 13, 14, 15, 16, 17, 18, 19, 20, 21, 22, 23, 24, 25, 26, 27, 28, 29, 30]

set_option maxHeartbeats 1000000 in
theorem appends_walk (a b : Option Addr) (cap cap2 n m : Nat) (l r : List UInt8) (w : World) (hn : l.length = n) (hm : r.length = m) (hl : n ≤ 1048576) (hl2 : m ≤ 1048576)
    (h : Rd w a (l.map B)) (h2 : Rd w b (r.map B)) :
    Calls Try.prog 5 #[.slice a n cap, .slice b m cap2] w fun e w' => e = .returned (.bool true) ∧ Below w.heap.size w w' := by
  have HN := Lib.hid hn
  have HM := Lib.hid hm
  clear hn hm
  go_enter Try.func5, Try.ntmps5
  go_wp2_with fail
  refine (twin_n a cap n l w HN.out (by omega) h).mono ?_
  rintro e w1 ⟨a1, c1, rfl, hown1, hb1⟩
  have hs1 := hb1.size
  have hb1' := hb1.alloc hs1 (.cells (c30.map B).toArray 5)
  have hown1' := hown1.alloc (.cells (c30.map B).toArray 5)
  have hrd1 : Rd (w1.alloc (.cells (c30.map B).toArray 5)) (some ⟨w1.heap.size, 0, none⟩) (c30.map B) := by simpa using rd_new w1 (c30.map B).toArray 5
  go_wp2_with (first | (at_builtin; refine app_b _ rfl (.tmp 14) (.tmp 15) rfl w.heap.size (.slice a1 n c1) n l rfl hown1' (some ⟨w1.heap.size, 0, none⟩) 30 30 c30 rfl rfl hrd1 (by omega) (by simp; omega) ?_; intro a2 c2 w2 hown2 hbel2 hmv2) | fail)
  have hb2 : Below w.heap.size w w2 := hb1'.trans hbel2
  have hs2 := hb2.size
  clear hmv2 hbel2 hrd1 hown1' hb1' hs1 hb1 hown1
  have h22 := h2.below hb2
  refine (twin_n b cap2 m r w2 HM.out (by omega) h22).mono ?_
  rintro e w3 ⟨a3, c3, rfl, hown3, hb3⟩
  have hs3 := hb3.size
  have hb3' := hb3.alloc hs3 (.cells (([7, 7, 7] : List UInt8).map B).toArray 5)
  have hown3' := hown3.alloc (.cells (([7, 7, 7] : List UInt8).map B).toArray 5)
  have hrd3 : Rd (w3.alloc (.cells (([7, 7, 7] : List UInt8).map B).toArray 5)) (some ⟨w3.heap.size, 0, none⟩) (([7, 7, 7] : List UInt8).map B) := rd_new w3 (([7, 7, 7] : List UInt8).map B).toArray 5
  go_wp2_with (first | (at_builtin; refine app_b _ rfl (.tmp 18) (.tmp 19) rfl w2.heap.size (.slice a3 m c3) m r rfl hown3' (some ⟨w3.heap.size, 0, none⟩) 3 3 [7, 7, 7] rfl rfl hrd3 (by omega) (by simp; omega) ?_; intro a4 c4 w4 hown4 hbel4 hmv4) | fail)
  have hb4 : Below w2.heap.size w2 w4 := hb3'.trans hbel4
  have hs4 := hb4.size
  have hbA := hb2.trans (hb4.mono hs2)
  have hroom := ownsRow_below hown2 hb4
  clear hmv4 hbel4 hrd3 hown3' hb3' hs3 hb3 hown3 hown2 hb2 h22
  have hrr := ownsRow_rd hroom
  have hro := ownsRow_rd hown4
  have hlr : (l ++ c30).length = n + 30 := by rw [List.length_append, HN.out]; rfl
  have hlo : (r ++ [7, 7, 7]).length = m + 3 := by rw [List.length_append, HM.out]; rfl
  have HLR := Lib.hid hlr
  have HLO := Lib.hid hlo
  clear hlr hlo
  refine (twin_n a2 c2 (n + 30) _ w4 HLR.out (by omega) hrr).mono ?_
  rintro e w5 ⟨a5, c5, rfl, hown5, hb5⟩
  have hrr5 := hrr.below hb5
  have hro5 := hro.below hb5
  have hg5 := ownsRow_rd hown5
  have hbB := hbA.trans (hb5.mono hbA.size)
  go_wp2_with fail
  refine (twin_n a4 c4 (m + 3) _ w5 HLO.out (by omega) hro5).mono ?_
  rintro e w6 ⟨a6, c6, rfl, hown6, hb6⟩
  have hrr6 := hrr5.below hb6
  have hro6 := hro5.below hb6
  have hg56 := hg5.below hb6
  have hg6 := ownsRow_rd hown6
  have hbC := hbB.trans (hb6.mono hbB.size)
  have hn30 : n ≤ c2 := by
    rcases hroom.2 with ⟨h1, _⟩ | ⟨g, cap, cur, h1, _, _, hle, _⟩
    · cases h1
    · cases h1; omega
  have hm3 : m ≤ c4 := by
    rcases hown4.2 with ⟨h1, _⟩ | ⟨g, cap, cur, h1, _, _, hle, _⟩
    · cases h1
    · cases h1; omega
  have hn30' : (n : Int) ≤ c2 := by omega
  have hm3' : (m : Int) ≤ c4 := by omega
  have h6 := h.below hbC
  have h26 := h2.below hbC
  clear hroom hown4 hown5 hown6 hb4 hb5 hb6 hbA hbB hrr hro hrr5 hro5 hg5 hs2 hs4
  have hrA : Rd w6 a2 (l.map B) := by
    have := hrr6.take n
    rw [List.map_append, List.take_append_of_le_length (by simp [HN.out]), List.take_of_length_le (by simp [HN.out])] at this
    exact this
  have hrB : Rd w6 a4 (r.map B) := by
    have := hro6.take m
    rw [List.map_append, List.take_append_of_le_length (by simp [HM.out]), List.take_of_length_le (by simp [HM.out])] at this
    exact this
  by_cases hm0 : m = 0
  · subst hm0
    have hr0 : r = [] := List.eq_nil_of_length_eq_zero HM.out
    go_wp2
    go_region_held3 (fun _ => True) (trivial) (first | (go_at_call 15; refine (append_none a2 a4 c2 c4 n _ (by omega)).mono ?_; rintro e w7 ⟨rfl, hw7⟩))
    have hb7' : Below w6.heap.size w6 w7 := by rw [← hw7]; exact (Below.refl _ _).drew
    have hrr7 := hrr6.below hb7'
    have hro7 := hro6.below hb7'
    have hg57 := hg56.below hb7'
    have hg67 := hg6.below hb7'
    have h7 := h6.below hb7'
    have h27 := h26.below hb7'
    have hbD := hbC.trans (hb7'.mono hbC.size)
    clear hrr6 hro6 hg56 hg6 hrA hrB hbC hb7' h6 h26 h h2 hw7 hr0
    go_wp2_with fail
    refine (twin_n a cap n l w7 HN.out (by omega) h7).mono ?_
    rintro e w8 ⟨a8, c8, rfl, hown8, hb8⟩
    have h8 := ownsRow_rd hown8
    go_wp2_with fail
    refine (twin_n b cap2 0 r w8 HM.out (by omega) (h27.below hb8)).mono ?_
    rintro e w9 ⟨a9, c9, rfl, hown9, hb9⟩
    have h9 := ownsRow_rd hown9
    have hb79 := hb8.trans (hb9.mono hb8.size)
    have hbE := hbD.trans (hb79.mono hbD.size)
    go_wp2_with fail
    refine (rappend_none a8 a9 c8 c9 n w9 (by omega)).mono ?_
    rintro e w10 ⟨rfl, hw10⟩
    have hb10 : Below w9.heap.size w9 w10 := by rw [← hw10]; exact Below.refl _ _
    clear hw10
    have hrr10 := hrr7.below (hb79.trans (hb10.mono hb79.size))
    have hro10 := hro7.below (hb79.trans (hb10.mono hb79.size))
    have hg510 := hg57.below (hb79.trans (hb10.mono hb79.size))
    have hg610 := hg67.below (hb79.trans (hb10.mono hb79.size))
    have hbF := hbE.trans (hb10.mono hbE.size)
    clear hrr7 hro7 hg57 hg67 h7 h27 hbD hbE hb79 hb8 hb9 hown8 hown9 h8 h9 hb10
    go_wp2_with fail
    refine (same_n none none 0 0 0 0 [] [] w10 rfl rfl (by omega) (Rd.nil _ _) (Rd.nil _ _)).mono ?_
    rintro e w11 ⟨rfl, hb11⟩
    rw [beq_self_eq_true]
    have hrr11 := hrr10.below hb11
    have hro11 := hro10.below hb11
    have hg511 := hg510.below hb11
    have hg611 := hg610.below hb11
    go_wp2_with fail
    refine (same_n a2 a5 c2 c5 (n + 30) (n + 30) _ _ w11 HLR.out HLR.out (by omega) hrr11 hg511).mono ?_
    rintro e w12 ⟨rfl, hb12⟩
    rw [beq_self_eq_true]
    have hro12 := hro11.below hb12
    have hg612 := hg611.below hb12
    go_wp2_with fail
    refine (same_n a4 a6 c4 c6 _ _ _ _ w12 HLO.out HLO.out (by omega) hro12 hg612).mono ?_
    rintro e w13 ⟨rfl, hb13⟩
    rw [beq_self_eq_true]
    go_wp2
    go_ret
    exact ⟨rfl, hbF.trans ((hb11.trans ((hb12.mono hb11.size).trans (hb13.mono (Nat.le_trans hb11.size hb12.size)))).mono hbF.size)⟩
  · have hmp : 0 < m := by omega
    go_wp2
    go_region_held3 (fun _ => True) (trivial) (first | (go_at_call 15; refine (append_some a2 a4 c2 c4 n m l r _ HN.out HM.out (by omega) (by omega) hmp ?_ ?_).mono ?_; exact hrA; exact hrB; rintro e w7 ⟨a7, c7, rfl, hown7, hb7⟩))
    have hb7' : Below w6.heap.size w6 w7 := ⟨hb7.os, hb7.tape, hb7.output, hb7.size, hb7.block⟩
    have h77 := ownsRow_rd hown7
    have hlA : (appB l r).length = n + 25 + m := by simp [appB, headB_len, HN.out, HM.out]; omega
    have HLA := Lib.hid hlA
    clear hlA hown7
    have hrr7 := hrr6.below hb7'
    have hro7 := hro6.below hb7'
    have hg57 := hg56.below hb7'
    have hg67 := hg6.below hb7'
    have h7 := h6.below hb7'
    have h27 := h26.below hb7'
    have hbD := hbC.trans (hb7'.mono hbC.size)
    clear hrr6 hro6 hg56 hg6 hrA hrB hbC hb7 hb7' h6 h26 h h2
    go_wp2_with fail
    refine (twin_n a cap n l w7 HN.out (by omega) h7).mono ?_
    rintro e w8 ⟨a8, c8, rfl, hown8, hb8⟩
    have h8 := ownsRow_rd hown8
    go_wp2_with fail
    refine (twin_n b cap2 m r w8 HM.out (by omega) (h27.below hb8)).mono ?_
    rintro e w9 ⟨a9, c9, rfl, hown9, hb9⟩
    have h9 := ownsRow_rd hown9
    have hb79 := hb8.trans (hb9.mono hb8.size)
    have hbE := hbD.trans (hb79.mono hbD.size)
    go_wp2_with fail
    have h77' := h77.below hb79
    refine (rappend_some a8 a9 c8 c9 n m l r w9 HN.out HM.out (by omega) hmp (h8.below hb9) h9).mono ?_
    rintro e w10 ⟨a10, c10, rfl, hown10, hb10⟩
    have h710 := h77'.below hb10
    have hr10 := ownsRow_rd hown10
    have hrr10 := hrr7.below (hb79.trans (hb10.mono hb79.size))
    have hro10 := hro7.below (hb79.trans (hb10.mono hb79.size))
    have hg510 := hg57.below (hb79.trans (hb10.mono hb79.size))
    have hg610 := hg67.below (hb79.trans (hb10.mono hb79.size))
    have hbF := hbE.trans (hb10.mono hbE.size)
    clear hrr7 hro7 hg57 hg67 h7 h27 hbD hbE hb79 hb8 hb9 hown8 hown9 h8 h9 hb10
    clear h77 h77' hown10
    go_wp2_with fail
    refine (same_n a7 a10 c7 c10 (n + 25 + m) (n + 25 + m) _ _ w10 HLA.out HLA.out (by omega) h710 hr10).mono ?_
    rintro e w11 ⟨rfl, hb11⟩
    rw [beq_self_eq_true]
    have hrr11 := hrr10.below hb11
    have hro11 := hro10.below hb11
    have hg511 := hg510.below hb11
    have hg611 := hg610.below hb11
    go_wp2_with fail
    refine (same_n a2 a5 c2 c5 (n + 30) (n + 30) _ _ w11 HLR.out HLR.out (by omega) hrr11 hg511).mono ?_
    rintro e w12 ⟨rfl, hb12⟩
    rw [beq_self_eq_true]
    have hro12 := hro11.below hb12
    have hg612 := hg611.below hb12
    go_wp2_with fail
    refine (same_n a4 a6 c4 c6 _ _ _ _ w12 HLO.out HLO.out (by omega) hro12 hg612).mono ?_
    rintro e w13 ⟨rfl, hb13⟩
    rw [beq_self_eq_true]
    go_wp2
    go_ret
    exact ⟨rfl, hbF.trans ((hb11.trans ((hb12.mono hb11.size).trans (hb13.mono (Nat.le_trans hb11.size hb12.size)))).mono hbF.size)⟩

theorem appends_law {w : World} (a : Option Addr) (n cap : Nat) (l : List UInt8) (hl : l.length = n) (h : Rd w a (l.map B)) (z : n ≤ 1048576)
    (a2 : Option Addr) (n2 cap2 : Nat) (l2 : List UInt8) (hl2 : l2.length = n2) (h2 : Rd w a2 (l2.map B)) (z2 : n2 ≤ 1048576) (w' : World) (hw : w = w') :
    Calls Try.prog 5 #[.slice a n cap, .slice a2 n2 cap2] w' fun e W' => e = .returned (.bool true) ∧ Below w'.heap.size w' W' := by
  subst hw
  exact appends_walk a a2 cap cap2 n n2 l l2 w hl hl2 z z2 h h2
#print axioms appends_law
end Go.Proofs.Ytiebnfdjnclkcaa
