/- Equality of two arrays of bytes, and the walks of next and the reference's standing. -/
import Derived.Test.YtiebnfdjnclkcaaW4
import Derived.Test.YtiebnfdjnclkcaaScanP
import Derived.Deep.RegionHeld3
set_option linter.unusedVariables false
namespace Go.Proofs.Ytiebnfdjnclkcaa
open Go.RowKit

section
variable {P : Program} (w : World)

theorem run_part_b (e k : Nat) (l : List UInt8) (he : P.underlying e = some (.int .u8)) (hk : k < l.length) : (part e (l.map B).toArray k).run P w = .ok (B l[k]) w := by
  unfold part
  have : (isAgg e).run P w = .ok false w := by
    unfold isAgg
    simp [Sem.run_bind, run_underlying he]
  simp [Sem.run_bind, this, hk]

theorem run_eq_loop (d e : Nat) (he : P.underlying e = some (.int .u8)) (l1 l2 : List UInt8) (hlen : l1.length = l2.length) : ∀ (k m : Nat), k + m = l1.length →
    (forIn (List.range' k m) ((none : Option Bool), ()) fun i (_ : Option Bool × Unit) => do
        let x ← part e (l1.map B).toArray (i * 1)
        let y ← part e (l2.map B).toArray (i * 1)
        let r ← Op.equalIn (d + 1) e x y
        if (!r) = true then pure (ForInStep.done (some false, ())) else pure (ForInStep.yield (none, ())) : Sem (Option Bool × Unit)).run P w =
      .ok (if l1.drop k = l2.drop k then (none, ()) else (some false, ())) w := by
  intro k m
  induction m generalizing k with
  | zero =>
    intro h
    have e1 : l1.drop k = [] := List.drop_eq_nil_of_le (by omega)
    have e2 : l2.drop k = [] := List.drop_eq_nil_of_le (by omega)
    simp [e1, e2]
  | succ m ih =>
    intro h
    have hk1 : k < l1.length := by omega
    have hk2 : k < l2.length := by omega
    rw [List.range'_succ, List.forIn_cons]
    simp only [Sem.run_bind, Nat.mul_one, run_part_b w e k l1 he hk1, run_part_b w e k l2 he hk2, Result.andThen_ok, B, run_equalIn_int w d e .u8 .u8 _ _ he]
    have hdrop : (l1.drop k = l2.drop k) ↔ (l1[k] = l2[k] ∧ l1.drop (k + 1) = l2.drop (k + 1)) := by
      rw [List.drop_eq_getElem_cons hk1, List.drop_eq_getElem_cons hk2, List.cons.injEq]
    by_cases hx : l1[k] = l2[k]
    · have hb : (((l1[k]).toNat : Int) == ((l2[k]).toNat : Int)) = true := by simp [hx]
      have h3 := ih (k + 1) (by omega)
      have hd : (l1.drop k = l2.drop k) = (l1.drop (k + 1) = l2.drop (k + 1)) := by rw [hdrop]; simp [hx]
      simp only [Nat.mul_one] at h3
      simp only [hb, Bool.not_true, Bool.false_eq_true, if_false, Sem.run_pure, Result.andThen_ok, hd]
      exact h3
    · have hb : (((l1[k]).toNat : Int) == ((l2[k]).toNat : Int)) = false := eql_of' (fun h => hx (UInt8.toNat_inj.1 (by omega)))
      have hd : ¬ (l1.drop k = l2.drop k) := by rw [hdrop]; exact fun h => hx h.1
      simp only [hb, Bool.not_false, if_true, Sem.run_pure, Result.andThen_ok, if_neg hd]

theorem run_equalIn_array (d : Nat) (t e n : Nat) (xs ys : Array Value) (ht : P.underlying t = some (.array n e)) (he : P.underlying e = some (.int .u8)) (hi : (P.info? e).map (·.size) = some 1)
    (l1 l2 : List UInt8) (hx : xs = (l1.map B).toArray) (hy : ys = (l2.map B).toArray) (ha : l1.length = n) (hb : l2.length = n) :
    (Op.equalIn (d + 2) t (.agg xs) (.agg ys)).run P w = .ok (l1 == l2) w := by
  obtain ⟨i, hi1, hi2⟩ := Option.map_eq_some_iff.1 hi
  rw [Op.equalIn]
  simp only [Sem.run_bind, run_underlying ht, Result.andThen_ok, sizeOf, typeInfo, run_program, hi1]
  simp only [Std.Legacy.Range.forIn_eq_forIn_range', Std.Legacy.Range.size, Nat.sub_zero, Nat.add_one_sub_one, Nat.div_one, Sem.run_pure, Result.andThen_ok, hi2]
  have := run_eq_loop (P := P) w d e he l1 l2 (by omega) 0 n (by omega)
  subst hx; subst hy
  simp only [List.drop_zero] at this
  rw [this]
  by_cases h : l1 = l2
  · simp [h]
  · simp [h]

theorem run_eql_array (t e n : Nat) (xs ys : Array Value) (ht : P.underlying t = some (.array n e)) (he : P.underlying e = some (.int .u8)) (hi : (P.info? e).map (·.size) = some 1)
    (l1 l2 : List UInt8) (hx : xs = (l1.map B).toArray) (hy : ys = (l2.map B).toArray) (ha : l1.length = n) (hb : l2.length = n) :
    (binOp .eql t (.agg xs) (.agg ys)).run P w = .ok (.bool (l1 == l2)) w := by
  simp only [binOp]
  simp [Op.equal, Op.maxDepth, run_equalIn_array w 9998 t e n xs ys ht he hi l1 l2 hx hy ha hb]
end

theorem next_short (a : Option Addr) (cap n : Nat) (l : List UInt8) (w : World) (hn : l.length = n) (h25 : n ≤ 25) :
    Calls Try.prog 32 #[.slice a n cap] w fun e w' => e = .returned (.tuple #[.slice none 0 0, .bool false]) ∧ w = w' := by
  have h25' : (n : Int) ≤ 25 := by omega
  go_enter Try.func32, Try.ntmps32
  go_wp2
  go_ret2
  exact ⟨rfl, rfl⟩

theorem load_of_heap {W : World} {g : Nat} {cs : Array Value} (h : W.heap[g]? = some (.cells cs 49 (0, 0))) (hsz : (Try.prog.info? 49).map (·.size) = some cs.size) :
    (Instr.loadAt 49 (.pointer (some ⟨g, 0, none⟩))).run Try.prog W = .ok (.agg cs) W := by
  simp only [Instr.loadAt, Instr.sureAddr, Sem.run_bind, Sem.run_pure, Result.andThen_ok]
  exact run_loadVar_row W g 49 49 cs (0, 0) _ h Try.underlying49 rfl hsz

/-- The cells of h behind copy(h[:], b). -/
theorem splice_head (l : List UInt8) (h : 25 ≤ l.length) : splice zero25 0 ((l.take 25).map B) = (l.take 25).map B := by
  have e : ((l.take 25).map B).length = 25 := by simp; omega
  unfold splice
  rw [List.take_zero, List.nil_append, Nat.zero_add, e, List.drop_eq_nil_of_le (by simp [zero25]), List.append_nil]

set_option maxHeartbeats 400000 in
theorem next_long (a : Option Addr) (cap n : Nat) (l : List UInt8) (w : World) (hn : l.length = n) (h25 : 25 < n) (hcap : n ≤ cap) (hmax : n ≤ 140737488355328) (h : Rd w a (l.map B)) :
    Calls Try.prog 32 #[.slice a n cap] w fun e w' => ∃ ra rn rc, e = .returned (.tuple #[.slice ra rn rc, .bool (standB l).isSome]) ∧ (∀ r, standB l = some r → rn = r.length ∧ rn ≤ rc ∧ Rd w' ra (r.map B)) ∧ Below w.heap.size w w' := by
  have h25' : ¬ (n : Int) ≤ 25 := by omega
  have HN := Lib.hid hn
  have hl25 : ((l.take 25).map B).length = 25 := by rw [List.length_map, List.length_take, hn]; omega
  obtain ⟨N, hN⟩ : ∃ N, N = ofBe ((l.drop 1).take 8) := ⟨_, rfl⟩
  have hl8 : ((l.drop 1).take 8).length = 8 := by rw [List.length_take, List.length_drop, hn]; omega
  have hNlt : N < 18446744073709551616 := by
    have := ofBe_lt ((l.drop 1).take 8) 8 (by omega)
    rw [List.take_of_length_le (by omega)] at this
    omega
  have hst : standB l = if N = 0 ∨ n - 25 < N then none else if headB ((l.drop 25).take N) = l.take 25 then some ((l.drop 25).take N) else none := by
    unfold standB
    rw [if_neg (by omega), hN, hn]
  have HS := Lib.hid hst
  have HNN := Lib.hid hN
  have HL := Lib.hid hl25
  have H8 := Lib.hid hl8
  clear hst hN hn hl25 hl8
  obtain ⟨b, off, rfl, hc⟩ := h.cells (by intro h0; have := HN.out; simp at h0; subst h0; simp at this; omega)
  clear hc
  have hsp := splice_head l (by have := HN.out; omega)
  have hz : (w.alloc (.cells zero25.toArray 49)).heap[w.heap.size]? = some (.cells zero25.toArray 49 (0, 0)) := heap_alloc_new _ _
  have hr25 : Rd (w.alloc (.cells zero25.toArray 49)) (some ⟨b, off, none⟩) ((l.take 25).map B) := by
    have := (h.below ((Below.refl _ _).alloc (Nat.le_refl _) (.cells zero25.toArray 49)))
    have h2 : (l.take 25).map B = (l.map B).take 25 := by rw [List.map_take]
    rw [h2]
    rcases this with h0 | ⟨b', off', he, hc⟩
    · left; rw [h0]; rfl
    · right
      refine ⟨b', off', he, fun i u hu => hc i u ?_⟩
      rw [List.getElem?_take] at hu
      split at hu
      · exact hu
      · cases hu
  have HSP := Lib.hid hsp
  clear hsp
  go_enter Try.func32, Try.ntmps32
  go_wp2_with (first | ((with_reducible refine at_dst 12 ?_); refine copy_b rfl (.tmp 10) (.tmp 11) rfl w.heap.size 0 _ 49 hz _ _ _ _ _ _ rfl rfl rfl ((l.take 25).map B) 25 HL.out (by omega) (by omega) (by omega) hr25 (B_oneCell _) (by simp [zero25]) ?_; intro w1 hh1 hb1; rw [HSP.out] at hh1) | fail)
  have hb1' : Below w.heap.size w w1 := ((Below.refl _ _).alloc (Nat.le_refl _) _).trans hb1
  have hs1 : w.heap.size + 1 ≤ w1.heap.size := by have := hb1.size; simp at this; exact this
  have h1 := h.below hb1'
  clear hr25 hz hb1 h
  refine (get_any w.heap.size 49 1 _ ((l.drop 1).take 8) w1 hh1.out HL.out (by omega) H8.out (fun i hi => by
    have hi8 : i < 8 := by rw [H8.out] at hi; exact hi
    have hil : 1 + i < l.length := by rw [HN.out]; omega
    rw [List.getElem?_map, List.getElem?_take, if_pos (by omega), List.getElem?_eq_getElem hil]
    simp [Nat.add_comm 1 i])).mono ?_
  rintro e _ ⟨rfl, rfl⟩
  rw [← HNN.out]
  by_cases hN0 : N = 0
  · have hst : Hid (standB l = none) := by show _ = _; rw [HS.out, if_pos (.inl hN0)]
    clear HS
    subst hN0
    go_wp2
    go_ret2
    exact ⟨none, 0, 0, by rw [hst.out]; rfl, (fun r hr => by rw [hst.out] at hr; cases hr), hb1'⟩
  · have hz0 : ((N : Int) == 0) = false := eql_of' (by omega)
    by_cases hbig : n - 25 < N
    · have hbig' : (n : Int) - 25 < (N : Int) := by omega
      have hst : Hid (standB l = none) := by show _ = _; rw [HS.out, if_pos (.inr hbig)]
      clear HS
      clear hN0
      go_wp2
      go_ret2
      exact ⟨none, 0, 0, by rw [hst.out]; rfl, (fun r hr => by rw [hst.out] at hr; cases hr), hb1'⟩
    · have hbig' : ¬ (n : Int) - 25 < (N : Int) := by omega
      have hbig2 : (N : Int) + 25 ≤ (n : Int) := by omega
      have hcap' : (n : Int) ≤ (cap : Int) := by omega
      have hcne : ¬ (cap = 25) := by omega
      have hst : standB l = if headB ((l.drop 25).take N) = l.take 25 then some ((l.drop 25).take N) else none := by rw [HS.out, if_neg (by omega)]
      have HST := Lib.hid hst
      clear hst hN0
      go_wp2
      obtain ⟨r, hr⟩ : ∃ r, r = (l.drop 25).take N := ⟨_, rfl⟩
      have hrl : r.length = N := by rw [hr, List.length_take, List.length_drop, HN.out]; omega
      have hrd : Rd w1 (some ⟨b, off + 25, none⟩) (r.map B) := by
        have h3 := h1.sub 25 (25 + N) (by rw [List.length_map, HN.out]; omega) (some ⟨b, off + 25, none⟩) (fun _ => by simp [Addr.add_lit])
        have e : ((l.map B).take (25 + N)).drop 25 = r.map B := by
          rw [hr, ← List.map_take, ← List.map_drop, List.drop_take]
          congr 2
          omega
        rw [e] at h3
        exact h3
      obtain ⟨cs, hc⟩ : ∃ cs, cs = (l.take 25).map B := ⟨_, rfl⟩
      obtain ⟨ds, hd⟩ : ∃ ds, ds = ((headB r).map B).toArray := ⟨_, rfl⟩
      have heq : ∀ W, (binOp .eql 49 (.agg ds) (.agg cs.toArray)).run Try.prog W = .ok (.bool (headB r == l.take 25)) W := fun W =>
        run_eql_array W 49 5 25 ds cs.toArray Try.underlying49 Try.underlying5 (by kernel_rfl) (headB r) (l.take 25) hd (by rw [hc]) (headB_len r) (by rw [List.length_take, HN.out]; omega)
      have hcsz : (Try.prog.info? 49).map (·.size) = some cs.length := by rw [info49, hc, HL.out]
      have hu49 := Try.underlying49
      have hh1' := hh1.out
      rw [← hc] at hh1'
      have hra : ∀ W : World, W.heap[w.heap.size]? = some (.cells cs.toArray 49 (0, 0)) → W.rangeAt w.heap.size 0 cs := fun W hW j v hv => by
        rw [Nat.zero_add, cell_row? hW]; exact hv
      have hl1 : w1.drew.rangeAt w.heap.size 0 cs := hra w1.drew hh1'
      have hrd' : Rd w1.drew (some ⟨b, off + 25, none⟩) (r.map B) := hrd
      have HST2 : Hid (standB l = if headB r = l.take 25 then some r else none) := by show _ = _; rw [hr]; exact HST.out
      have HC := Lib.hid hc
      have HD := Lib.hid hd
      have HH1 := Lib.hid hh1'
      have HRL := Lib.hid hrl
      have HRA := Lib.hid hra
      have hsub : 25 + N - 25 = N := by omega
      rw [hsub]
      clear hsub hc hd hh1' hh1 hrl hr HST HS HSP h1 hbig' hz0 hra
      go_region_held3 (fun W => W.rangeAt w.heap.size 0 cs) (first | exact hl1 | assumption)
        (first | (go_at_call 30; refine (headOf_any (some ⟨b, off + 25, none⟩) (cap - 25) N r _ HRL.out (by omega) hrd').mono ?_; rintro e w2 ⟨rfl, hb2⟩; rw [← HD.out]; have hl2 : w2.rangeAt w.heap.size 0 cs := HRA.out w2 ((hb2.block _ hs1).trans HH1.out)))
      have hb2' : Below w1.heap.size w1 w2 := ⟨hb2.os, hb2.tape, hb2.output, hb2.size, hb2.block⟩
      have hrd2 := hrd.below hb2'
      have hb02 := hb1'.trans (hb2'.mono hb1'.size)
      clear hb2 hb2' hl1 hrd' heq hcsz hu49 hl2
      go_wp2
      go_ret2
      refine ⟨some ⟨b, off + 25, none⟩, N, cap - 25, ?_, ?_, hb02⟩
      · have : (standB l).isSome = (headB r == l.take 25) := by
          rw [HST2.out]
          by_cases hh : headB r = l.take 25
          · rw [if_pos hh, hh]; simp
          · rw [if_neg hh]; simp [hh]
        rw [this]; rfl
      · intro r' hr'
        rw [HST2.out] at hr'
        by_cases hh : headB r = l.take 25
        · rw [if_pos hh] at hr'
          cases hr'
          exact ⟨HRL.out.symm, by omega, hrd2⟩
        · rw [if_neg hh] at hr'
          cases hr'

/-- What the reference's standing hands back. -/
def standR (l : List UInt8) : List UInt8 := (standB l).getD []
theorem numB_zero (m : List UInt8) (k : Nat) : numB m k = 0 ↔ ofBe m = 0 ∨ k < ofBe m := by
  unfold numB
  by_cases h : k < ofBe m
  · simp [h]
  · rw [if_neg h]; constructor
    · exact fun h => .inl h
    · rintro (h' | h')
      · exact h'
      · exact (h h').elim

/-- How the post of standing is told. -/
def StandPost (l : List UInt8) (w : World) (e : Ending) (w' : World) : Prop :=
  ∃ ra rn rc, e = .returned (.slice ra rn rc) ∧ rn = (standR l).length ∧ Rd w' ra ((standR l).map B) ∧ Below w.heap.size w w'

theorem stand_nil {l : List UInt8} {w w' : World} (h : standB l = none) (hb : Below w.heap.size w w') : StandPost l w (.returned (.slice none 0 0)) w' :=
  ⟨none, 0, 0, rfl, by simp [standR, h], by simp [standR, h]; exact Rd.nil _ _, hb⟩

set_option maxHeartbeats 400000 in
theorem standing_any (a : Option Addr) (cap n : Nat) (l : List UInt8) (w : World) (hn : l.length = n) (hcap : n ≤ cap) (hmax : n ≤ 140737488355328) (h : Rd w a (l.map B)) :
    Calls Try.prog 33 #[.slice a n cap] w (StandPost l w) := by
  by_cases h25 : n < 25
  · have h25' : (n : Int) < 25 := by omega
    have hs := Lib.hid (standB_short l (by omega))
    go_enter Try.func33, Try.ntmps33
    go_wp2
    go_ret
    exact stand_nil hs.out (Below.refl _ _)
  · have h25' : ¬ (n : Int) < 25 := by omega
    have HN := Lib.hid hn
    obtain ⟨N, hN⟩ : ∃ N, N = ofBe ((l.drop 1).take 8) := ⟨_, rfl⟩
    have hl8 : ((l.drop 1).take 8).length = 8 := by rw [List.length_take, List.length_drop, hn]; omega
    have hst : standB l = if N = 0 ∨ n - 25 < N then none else if headB ((l.drop 25).take N) = l.take 25 then some ((l.drop 25).take N) else none := by
      unfold standB
      rw [if_neg (by omega), hN, hn]
    obtain ⟨b, off, rfl, hc⟩ := h.cells (by intro h0; simp at h0; subst h0; simp at hn; omega)
    have hz : numB ((l.drop 1).take 8) (n - 25) = 0 ↔ N = 0 ∨ n - 25 < N := by rw [hN]; exact numB_zero _ _
    have hz2 : ¬ (N = 0 ∨ n - 25 < N) → numB ((l.drop 1).take 8) (n - 25) = N := by
      intro h0; unfold numB; rw [← hN, if_neg (by omega)]
    have HS := Lib.hid hst
    have H8 := Lib.hid hl8
    have HZ := Lib.hid hz
    have HZ2 := Lib.hid hz2
    have HNN := Lib.hid hN
    have hr8 : Rd w (some ⟨b, off + 1, none⟩) (((l.drop 1).take 8).map B) := by
      have h3 := h.sub 1 9 (by rw [List.length_map, hn]; omega) (some ⟨b, off + 1, none⟩) (fun _ => by simp [Addr.add_lit])
      have e : ((l.map B).take 9).drop 1 = ((l.drop 1).take 8).map B := by rw [← List.map_take, ← List.map_drop, List.drop_take]
      rw [e] at h3; exact h3
    have hcap1 : ¬ (cap = 1) := by omega
    have hcap25 : (9 : Int) ≤ (cap : Int) := by omega
    have hm25 : (25 : Int) ≤ (n : Int) := by omega
    clear hst hN hn hl8 hc hz hz2 h25'
    go_enter Try.func33, Try.ntmps33
    go_wp2_with fail
    have he25 : (n : Int) - 25 = ((n - 25 : Nat) : Int) := by omega
    rw [he25]
    clear he25
    refine (number_any (some ⟨b, off + 1, none⟩) (cap - 1) (n - 25) _ w H8.out (by omega) hr8).mono ?_
    rintro e _ ⟨rfl, rfl⟩
    by_cases hN0 : N = 0 ∨ n - 25 < N
    · rw [HZ.out.2 hN0]
      have hs : Hid (standB l = none) := by show _ = _; rw [HS.out, if_pos hN0]
      clear hN0
      go_wp2
      go_ret
      exact stand_nil hs.out (Below.refl _ _)
    · rw [HZ2.out hN0]
      have hst : Hid (standB l = if headB ((l.drop 25).take N) = l.take 25 then some ((l.drop 25).take N) else none) := by show _ = _; rw [HS.out, if_neg hN0]
      have hz0 : ((N : Int) == 0) = false := eql_of' (by omega)
      obtain ⟨r, hr⟩ : ∃ r, r = (l.drop 25).take N := ⟨_, rfl⟩
      have hrl : r.length = N := by rw [hr, List.length_take, List.length_drop, HN.out]; omega
      have HST : Hid (standB l = if headB r = l.take 25 then some r else none) := by show _ = _; rw [hr]; exact hst.out
      have hbig2 : (N : Int) + 25 ≤ (n : Int) := by omega
      have hcap' : (n : Int) ≤ (cap : Int) := by omega
      have hcne : ¬ (cap = 25) := by omega
      have hrd : Rd w (some ⟨b, off + 25, none⟩) (r.map B) := by
        have h3 := h.sub 25 (25 + N) (by rw [List.length_map, HN.out]; omega) (some ⟨b, off + 25, none⟩) (fun _ => by simp [Addr.add_lit])
        have e : ((l.map B).take (25 + N)).drop 25 = r.map B := by
          rw [hr, ← List.map_take, ← List.map_drop, List.drop_take]
          congr 2
          omega
        rw [e] at h3
        exact h3
      have HRL := Lib.hid hrl
      clear hst hr hrl HS HZ HZ2 hr8 hN0
      go_wp2_with fail
      have hsub : 25 + N - 25 = N := by omega
      rw [hsub]
      clear hsub
      refine (rhead_any (some ⟨b, off + 25, none⟩) (cap - 25) N r w HRL.out (by omega) hrd).mono ?_
      rintro e w1 ⟨a1, c1, rfl, hown1, hb1⟩
      obtain ⟨g1, rfl, hg1, hg1'⟩ := own_some hown1 (by omega)
      have h1 := h.below hb1
      have hrd1 := hrd.below hb1
      have hl25 : (l.take 25).length = 25 := by rw [List.length_take, HN.out]; omega
      have HL := Lib.hid hl25
      have HHL := Lib.hid (headB_len r)
      have hw1 := ownsRow_rd hown1
      clear h hrd hl25 hown1 hg1 hg1'
      go_wp2
      go_loopw [6] (fun i wr => ∃ k n : Nat, k ≤ 25 ∧ i = .int .i64 (k : Int) ∧ Alk (l.take 25) (headB r) k ∧ wr = w1.drewN n) (fun i _ => (25 - intOf i).toNat)
      case atStart => exact ⟨0, 0, Nat.zero_le _, rfl, rfl, rfl⟩
      case round =>
        obtain ⟨k, m, hk, rfl, hal, rfl⟩ := hrel
        have HA := Lib.hid hal
        clear hal
        by_cases hlt : k < 25
        · have hkl : k < l.length := by rw [HN.out]; omega
          have hkt : k < (l.take 25).length := by rw [HL.out]; exact hlt
          have hkh : k < (headB r).length := by rw [HHL.out]; exact hlt
          obtain ⟨b1, off1, he1, hc1⟩ := h1.cells (by intro h0; simp at h0; subst h0; simp at hkl)
          cases he1
          have hc' := hc1 k (by simpa using hkl)
          rw [List.getElem_map, B] at hc'
          obtain ⟨b2, off2, he2, hd2⟩ := hw1.cells (by intro h0; simp at h0; rw [h0] at hkh; simp at hkh)
          cases he2
          have hd2' := hd2 k (by simpa using hkh)
          rw [List.getElem_map, B, Nat.zero_add] at hd2'
          have hb := (l[k]).toNat_lt
          have hb2 := ((headB r)[k]).toNat_lt
          have e1 : (l.take 25)[k] = l[k] := by simp
          have HE := Lib.hid e1
          clear hc1 hd2 e1
          have hlt' : (k : Int) < 25 := by omega
          have hkn : (k : Int) < n := by omega
          obtain ⟨x, hx⟩ : ∃ x, x = l[k] := ⟨_, rfl⟩
          obtain ⟨y, hy⟩ : ∃ y, y = (headB r)[k] := ⟨_, rfl⟩
          rw [← hx] at hc' hb
          rw [← hy] at hd2' hb2
          have HX := Lib.hid hx
          have HY := Lib.hid hy
          clear hx hy
          by_cases hxy : x = y
          · have hxx : (((x).toNat : Int) != ((y).toNat : Int)) = false := by simp [hxy]
            have HXY := Lib.hid hxy
            clear hxy
            go_wp2_with (go_quiet (fail))
            go_roundw
            case rel => exact ⟨k + 1, _, by omega, by go_num, by unfold Alk; rw [take_snoc _ k hkt, take_snoc _ k hkh, show (l.take 25).take k = (headB r).take k from HA.out, HE.out, ← HX.out, ← HY.out, HXY.out], rfl⟩
            case measure => simp [intOf]; omega
          · have hxx : (((x).toNat : Int) != ((y).toNat : Int)) = true := by simp; exact fun h => hxy (UInt8.toNat_inj.1 (by omega))
            have HXY := Lib.hid hxy
            clear hxy
            go_wp2_with (go_quiet (fail))
            go_ret
            refine stand_nil ?_ (hb1.trans ?_)
            · rw [HST.out, if_neg]
              intro hh
              apply HXY.out
              rw [HX.out, HY.out, ← HE.out]
              simp [hh]
            · rw [World.drewN_drewN]
              exact below_draws _
        · have hge : ¬ (k : Int) < 25 := by omega
          go_wp2
          go_ret
          have hh : headB r = l.take 25 := by
            have h3 : (l.take 25).take k = (headB r).take k := HA.out
            have e1 : (l.take 25).take k = l.take 25 := List.take_of_length_le (by rw [HL.out]; omega)
            have e2 : (headB r).take k = headB r := List.take_of_length_le (by rw [HHL.out]; omega)
            rw [e1, e2] at h3
            exact h3.symm
          have hst : standR l = r := by rw [standR, HST.out, if_pos hh]; rfl
          exact ⟨some ⟨b, off + 25, none⟩, N, cap - 25, rfl, by rw [hst, HRL.out], by rw [hst]; exact hrd1, hb1.trans (below_draws _)⟩
#print axioms next_long
#print axioms standing_any
end Go.Proofs.Ytiebnfdjnclkcaa
