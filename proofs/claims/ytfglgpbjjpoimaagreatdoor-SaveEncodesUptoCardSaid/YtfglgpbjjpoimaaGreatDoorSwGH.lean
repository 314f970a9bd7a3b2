/- SaveEncodes: tokens in memory; the writer; mark, number, name, add, full, enter, leave. -/
import Derived.Test.YtfglgpbjjpoimaaGreatDoorSwGG
import Derived.Handy
import Derived.StillTailTactics
import Derived.Lib.AppendStr
import Derived.Lib.AppendIntMem
set_option linter.unusedVariables false
namespace Go.Proofs.YtfglgpbjjpoimaaGreatDoor
open Go.RowKit Sv
theorem info138 : (Tryz.prog.info? 138).map (fun i => (i.zero, i.size, i.bytes)) = some (some (.agg #[.int .i64 0, .string ⟨#[]⟩, .int .i64 0, .int .i64 0]), 4, 40) := by kernel_rfl
def tkc (t : Tk) : List Value := [.int .i64 t.kind, T t.text, .int .i64 t.n, .int .i64 0]
def tkcs (l : List Tk) : List Value := l.flatMap tkc
theorem tkcs_append (a b : List Tk) : tkcs (a ++ b) = tkcs a ++ tkcs b := List.flatMap_append
theorem tkcs_len (l : List Tk) : (tkcs l).length = l.length * 4 := by
 induction l with
 | nil => rfl
 | cons t l ih => rw [tkcs, List.flatMap_cons, List.length_append, show (l.flatMap tkc).length = l.length * 4 from ih, List.length_cons]; simp [tkc]; omega
theorem tkcs_one (l : List Tk) : ∀ u ∈ tkcs l, u.oneCell' = true := by
 intro u hu
 obtain ⟨t, _, h⟩ := List.mem_flatMap.1 hu
 simp only [tkc, List.mem_cons, List.not_mem_nil, or_false] at h
 rcases h with rfl | rfl | rfl | rfl <;> rfl
def tkv (t : Tk) : Value := .agg #[.int .i64 t.kind, .string ⟨t.text.toArray⟩, .int .i64 t.n, .int .i64 0]
theorem mark_any (k : Int) (w : World) : Calls Tryz.prog 62 #[.int .i64 k] w fun e w' => e = .returned (tkv (tk k)) ∧ Below w.heap.size w w' := by
 have hb : Below w.heap.size w w := Below.refl _ _
 go_enter Tryz.func62, Tryz.ntmps62
 go_wp2_with fail
 go_returns
 exact ⟨rfl, hb.alloc (Nat.le_refl _) _⟩
theorem number_any (n : Int) (w : World) : Calls Tryz.prog 66 #[.int .i64 n] w fun e w' => e = .returned (tkv (num n)) ∧ Below w.heap.size w w' := by
 have hb : Below w.heap.size w w := Below.refl _ _
 go_enter Tryz.func66, Tryz.ntmps66
 go_wp2_with fail
 go_returns
 exact ⟨rfl, hb.alloc (Nat.le_refl _) _⟩
theorem name_any (l : Str) (w : World) : Calls Tryz.prog 67 #[T l] w fun e w' => e = .returned (tkv (nme l)) ∧ Below w.heap.size w w' := by
 have hb : Below w.heap.size w w := Below.refl _ _
 rw [T]
 go_enter Tryz.func67, Tryz.ntmps67
 go_wp2_with fail
 go_returns
 exact ⟨rfl, hb.alloc (Nat.le_refl _) _⟩
/-- Only the row's own block was written; it stays or the row moves to a new one. -/
def Mv (w w' : World) (v v' : Value) : Prop := w.grownBy w' v.ownBlock ∧ (v'.ownBlock = v.ownBlock ∨ ∃ k, v'.ownBlock = some k ∧ w.heap.size ≤ k)
theorem Moved.mv {w w' : World} {v v' : Value} (h : Moved w w' v v') : Mv w w' v v' :=
 ⟨h.grown, by rcases h with ⟨h1, _⟩ | ⟨_, h1⟩; exact .inl h1; exact .inr ⟨_, h1, Nat.le_refl _⟩⟩
/-- A block that is neither the writer nor its row. -/
def Off (g k : Nat) (w : World) : Prop := k ≠ g ∧ ∀ v, w.cell? ⟨g, 0, none⟩ = some v → v.ownBlock ≠ some k
/-- Nothing but the writer and its row was written. -/
def Fr (g : Nat) (w w' : World) : Prop := w.heap.size ≤ w'.heap.size ∧ ∀ k, k < w.heap.size → Off g k w → w'.heap[k]? = w.heap[k]? ∧ Off g k w'
theorem Fr.refl (g : Nat) (w : World) : Fr g w w := ⟨Nat.le_refl _, fun k hk h => ⟨rfl, h⟩⟩
theorem Fr.trans {g : Nat} {w1 w2 w3 : World} (h : Fr g w1 w2) (h' : Fr g w2 w3) : Fr g w1 w3 :=
 ⟨Nat.le_trans h.1 h'.1, fun k hk ho => ⟨(h'.2 k (Nat.lt_of_lt_of_le hk h.1) (h.2 k hk ho).2).1.trans (h.2 k hk ho).1, (h'.2 k (Nat.lt_of_lt_of_le hk h.1) (h.2 k hk ho).2).2⟩⟩
theorem Fr.blk {g k : Nat} {w w' : World} {t : TypeId} {cs : List Value} (h : Fr g w w') (hk : Blk w k t cs) (ho : Off g k w) : Blk w' k t cs ∧ Off g k w' := by
 obtain ⟨h1, h2⟩ := h.2 k hk.lt ho
 exact ⟨by unfold Blk; rw [h1]; exact hk, h2⟩
theorem Fr.below {g : Nat} {w w' : World} (hg : g < w.heap.size) (h : Below w.heap.size w w') : Fr g w w' :=
 ⟨h.size, fun k hk ho => ⟨h.block k hk, ho.1, fun v hv => ho.2 v (by rw [← World.cell?_of_block (h.block g hg)]; exact hv)⟩⟩
theorem Off.below {g k : Nat} {w w' : World} (hg : g < w.heap.size) (h : Below w.heap.size w w') (ho : Off g k w) : Off g k w' :=
 ⟨ho.1, fun v hv => ho.2 v (by rw [← World.cell?_of_block (h.block g hg)]; exact hv)⟩
/-- The writer in block g, its row in a block from base on. -/
def Wt (base g : Nat) (s : S) (w : World) : Prop :=
 base ≤ g ∧ ∃ a c, Blk w g 134 [.slice a s.out.length c, .int .i64 (s.op : Int), .int .i64 (s.deep : Int)] ∧ w.ownsRow base 138 4 (.slice a s.out.length c) s.out.length (tkcs s.out) ∧ (Value.slice a s.out.length c).ownBlock ≠ some g
theorem Wt.lt {base g : Nat} {s : S} {w : World} (h : Wt base g s w) : g < w.heap.size := by
 obtain ⟨_, a, c, hk, _⟩ := h
 exact hk.lt
theorem Wt.below {base g : Nat} {s : S} {w w' : World} (h : Wt base g s w) (hb : Below w.heap.size w w') : Wt base g s w' := by
 obtain ⟨h1, a, c, hk, ho, hn⟩ := h
 exact ⟨h1, a, c, hk.below hb, ownsRow_below ho hb, hn⟩
/-- A block made behind the writer is off it. -/
theorem Wt.off {base g : Nat} {s : S} {w w' : World} (h : Wt base g s w) (hb : Below w.heap.size w w') (k : Nat) (hk : w.heap.size ≤ k) : Off g k w' := by
 have hlt := h.lt
 obtain ⟨h1, a, c, hkk, ho, hn⟩ := h
 refine ⟨by omega, fun v hv => ?_⟩
 rw [(hkk.below hb).cell 0 (by simp)] at hv
 cases hv
 intro e
 have := (ho.lt k e).2
 omega
/-- What a method of the writer leaves. -/
def WtP (base g : Nat) (s : S) (w : World) (w' : World) : Prop := Wt base g s w' ∧ Below base w w' ∧ Fr g w w'
theorem WtP.trans {base g : Nat} {s s' : S} {w w1 w2 : World} (h : WtP base g s w w1) (h' : WtP base g s' w1 w2) : WtP base g s' w w2 := ⟨h'.1, h.2.1.trans h'.2.1, h.2.2.trans h'.2.2⟩
theorem WtP.drew {base g : Nat} {s : S} {w w' : World} (h : WtP base g s w w') : WtP base g s w w'.drew := ⟨h.1, h.2.1.drew, h.2.2⟩
theorem wt_stored {base g : Nat} {s : S} {w w1 : World} {a a' : Option Addr} {c c' : Nat} {o d : Value} {l : List Tk} (hb : base ≤ w.heap.size) (hg : base ≤ g) (hk : Blk w g 134 [.slice a s.out.length c, o, d]) (hne : (Value.slice a s.out.length c).ownBlock ≠ some g)
  (hown : w1.ownsRow base 138 4 (.slice a' (s.out.length + l.length) c') (s.out.length + l.length) (tkcs s.out ++ tkcs l)) (hbb : Below base w w1) (hm : Moved w w1 (.slice a s.out.length c) (.slice a' (s.out.length + l.length) c')) (ho : o = .int .i64 (s.op : Int)) (hd : d = .int .i64 (s.deep : Int)) :
  Blk w1 g 134 [.slice a s.out.length c, o, d] ∧ WtP base g (s.add l) w (w1.setCell ⟨g, 0, none⟩ (.slice a' (s.out.length + l.length) c')) := by
 subst ho hd
 have hm := hm.mv
 have hk1 := hk.kept hm.1 (fun e => hne e.symm)
 have hs := hk1.setCell 0 (.slice a' (s.out.length + l.length) c')
 have hne' : (Value.slice a' (s.out.length + l.length) c').ownBlock ≠ some g := by
  rcases hm.2 with h | ⟨k, h, hk2⟩
  ·rw [h]; exact hne
  ·rw [h]; intro e; cases e; have := hk.lt; omega
 have hl : (s.add l).out.length = s.out.length + l.length := by simp [S.add]
 refine ⟨hk1, ⟨hg, a', c', ?_, ?_, ?_⟩, ?_, Nat.le_trans hm.1.size hs.2.size, fun k hk3 ho => ?_⟩
 ·rw [hl]; exact hs.1
 ·rw [hl, show tkcs (s.add l).out = tkcs s.out ++ tkcs l from tkcs_append _ _]
  exact hown.kept hs.2 (.inr hne')
 ·rw [hl]; exact hne'
 ·exact hbb.grown hs.2 (Nat.le_trans hb hbb.size) (fun k hk => by cases hk; exact hg)
 ·have hc := hk.cell 0 (by simp)
  have h1 := ho.2 _ hc
  simp only [List.getElem_cons_zero] at h1
  refine ⟨(hs.2.block k (Nat.lt_of_lt_of_le hk3 hm.1.size) (fun e => ho.1 (by cases e; rfl))).trans (hm.1.block k hk3 (fun e => h1 e.symm)), ho.1, fun v hv => ?_⟩
  have hc2 := hs.1.cell 0 (by simp)
  simp only [List.set_cons_zero, List.getElem_cons_zero] at hc2
  rw [hc2] at hv
  cases hv
  rcases hm.2 with h | ⟨j, h, hj⟩
  ·rw [h]; exact h1
  ·rw [h]; intro e; cases e; omega
set_option maxHeartbeats 1000000 in
theorem add_any (base g : Nat) (s : S) (al : Option Addr) (cl m : Nat) (l : List Tk) (w : World) (hb : base ≤ w.heap.size) (h : Wt base g s w) (hm : l.length = m) (hr : Rd w al (tkcs l)) (hN : s.out.length + m ≤ 100000000) :
  Calls Tryz.prog 61 #[.pointer (some ⟨g, 0, none⟩), .slice al m cl] w fun e w' => e = .returned (.tuple #[]) ∧ WtP base g (s.add l) w w' := by
 obtain ⟨hg, a, c, hk, hown, hne⟩ := h
 have hc := hk.ci 0 rfl
 have hf := hk.frozen 0
 obtain ⟨n, hn⟩ : ∃ n, n = s.out.length := ⟨_, rfl⟩
 obtain ⟨i0, hi9, hz9, hs9, hy9⟩ := info_parts info138
 have hi0 := Lib.hid hi9
 have hz0 := Lib.hid hz9
 have hs0 := Lib.hid hs9
 have hy0 := Lib.hid hy9
 have HK := Lib.hid hk
 have HNE := Lib.hid hne
 have HOW := Lib.hid hown
 have HR := Lib.hid hr
 have HL := Lib.hid (show (tkcs l).length = m * 4 by rw [tkcs_len, hm])
 have HM := Lib.hid hm
 have HB := Lib.hid hb
 have HG := Lib.hid hg
 have HNN := Lib.hid hn
 rw [← hn] at hc hN
 clear hi9 hz9 hs9 hy9 hk hne hown hr hm hn
 go_enter Tryz.func61, Tryz.ntmps61
 go_wp2_with (first | (at_builtin; refine wpList_append_rd w rfl _ _ 132 rfl base 138 i0 _ 4 40 Tryz.underlying132 hi0.out hz0.out hs0.out hy0.out rfl (by decide) (.slice a n c) n (tkcs s.out) rfl (by rw [HNN.out]; exact HOW.out) al m cl (tkcs l) rfl HL.out HR.out (tkcs_one l) (by unfold maxLen; omega) (by omega) HB.out ?_; intro a' c' w1 ho1 hb1 hm1; (obtain ⟨hk1, hp⟩ := wt_stored (s := s) (l := l) HB.out HG.out HK.out HNE.out (by rw [HM.out, ← HNN.out]; exact ho1) hb1 (by rw [HM.out, ← HNN.out]; exact hm1) rfl rfl); (have hc1 := hk1.ci 0 rfl); (have hf1 := hk1.frozen 0); rw [HM.out, ← HNN.out] at hp; (have HP := Lib.hid hp); clear hp hk1 ho1 hb1 hm1 hc hf) | fail)
 go_end0
 exact ⟨rfl, HP.out⟩
theorem full_any (base g : Nat) (s : S) (w : World) (h : Wt base g s w) :
  Calls Tryz.prog 63 #[.pointer (some ⟨g, 0, none⟩)] w fun e w' => e = .returned (.bool s.full) ∧ w' = w := by
 obtain ⟨hg, a, c, hk, hown, hne⟩ := h
 have hc := hk.ci 0 rfl
 obtain ⟨n, hn⟩ : ∃ n, n = s.out.length := ⟨_, rfl⟩
 have HF := Lib.hid (show s.full = decide ((400 : Int) < n) by unfold S.full; rw [← hn]; simp; omega)
 rw [← hn] at hc
 clear hn hown hne hk
 go_enter Tryz.func63, Tryz.ntmps63
 go_wp2_with fail
 go_ret
 exact ⟨by rw [HF.out]; rfl, rfl⟩
theorem setFr {g : Nat} {w : World} {i : Nat} {v : Value} {t : TypeId} {cs : List Value} (hi : i ≠ 0) (hk : Blk w g t cs) (hcs : 0 < cs.length) : Fr g w (w.setCell ⟨g, i, none⟩ v) := by
 have hs := hk.setCell i v
 refine ⟨hs.2.size, fun k hk2 ho => ⟨hs.2.block k hk2 (fun e => ho.1 (by cases e; rfl)), ho.1, fun u hu => ho.2 u ?_⟩⟩
 rw [hs.1.cell 0 (by simpa using hcs)] at hu
 rw [hk.cell 0 hcs, ← hu]
 congr 1
 rw [List.getElem_set_ne (fun e => hi e)]
theorem wt_op {base g : Nat} {s : S} {w : World} (o : Nat) (hb : base ≤ w.heap.size) (h : Wt base g s w) : WtP base g ⟨s.out, o, s.deep⟩ w (w.setCell ⟨g, 1, none⟩ (.int .i64 (o : Int))) := by
 obtain ⟨hg, a, c, hk, hown, hne⟩ := h
 have hs := hk.setCell 1 (.int .i64 (o : Int))
 exact ⟨⟨hg, a, c, hs.1, hown.kept hs.2 (.inr hne), hne⟩, (Below.refl base w).grown hs.2 hb (fun k hk => by cases hk; exact hg), setFr (by decide) hk (by simp)⟩
theorem wt_deep {base g : Nat} {s : S} {w : World} (d : Nat) (hb : base ≤ w.heap.size) (h : Wt base g s w) : WtP base g ⟨s.out, s.op, d⟩ w (w.setCell ⟨g, 2, none⟩ (.int .i64 (d : Int))) := by
 obtain ⟨hg, a, c, hk, hown, hne⟩ := h
 have hs := hk.setCell 2 (.int .i64 (d : Int))
 exact ⟨⟨hg, a, c, hs.1, hown.kept hs.2 (.inr hne), hne⟩, (Below.refl base w).grown hs.2 hb (fun k hk => by cases hk; exact hg), setFr (by decide) hk (by simp)⟩
theorem Wt.c1 {base g : Nat} {s : S} {w : World} (h : Wt base g s w) : w.cell? ⟨g, 1, none⟩ = some (.int .i64 (s.op : Int)) := by
 obtain ⟨_, a, c, hk, _⟩ := h
 exact hk.ci 1 rfl
theorem Wt.c2 {base g : Nat} {s : S} {w : World} (h : Wt base g s w) : w.cell? ⟨g, 2, none⟩ = some (.int .i64 (s.deep : Int)) := by
 obtain ⟨_, a, c, hk, _⟩ := h
 exact hk.ci 2 rfl
theorem Wt.fz {base g : Nat} {s : S} {w : World} (h : Wt base g s w) (i : Nat) : w.frozen? ⟨g, i, none⟩ = false := by
 obtain ⟨_, a, c, hk, _⟩ := h
 exact hk.frozen i
theorem rd_one (w : World) (t : Tk) : Rd (w.alloc (.cells (tkc t).toArray 138)) (some ⟨w.heap.size, 0, none⟩) (tkcs [t]) := by
 have := rd_new w (tkc t).toArray 138
 simpa [tkcs] using this
theorem WtP.of {base g : Nat} {s : S} {w w' : World} (h : Wt base g s w) (hb : base ≤ w.heap.size) (hbb : Below w.heap.size w w') : WtP base g s w w' := ⟨h.below hbb, hbb.mono hb, Fr.below h.lt hbb⟩
set_option maxHeartbeats 1000000 in
set_option maxRecDepth 20000 in
theorem enter_any (base g : Nat) (s : S) (t : Tk) (w : World) (hb : base ≤ w.heap.size) (h : Wt base g s w) (hN : s.out.length ≤ 10000000 ∧ s.op ≤ 10000000 ∧ s.deep ≤ 10000000) :
  Calls Tryz.prog 119 #[.pointer (some ⟨g, 0, none⟩), tkv t] w fun e w' => e = .returned (.tuple #[]) ∧ WtP base g (s.enter t) w w' := by
 obtain ⟨kind, text, n⟩ := t
 simp only [tkv]
 obtain ⟨hN1, hN2, hN3⟩ := hN
 obtain ⟨w1, hw1⟩ : ∃ w1, w1 = w.alloc (.cells #[.int .i64 kind, .string ⟨text.toArray⟩, .int .i64 n, .int .i64 0] 138) := ⟨_, rfl⟩
 obtain ⟨w2, hw2⟩ : ∃ w2, w2 = w1.alloc (.cells #[.int .i64 kind, .string ⟨text.toArray⟩, .int .i64 n, .int .i64 0] 138) := ⟨_, rfl⟩
 have hb1 : Below w.heap.size w w1 := by rw [hw1]; exact (Below.refl _ _).alloc (Nat.le_refl _) _
 have hz1 : w1.heap.size = w.heap.size + 1 := by rw [hw1]; simp
 have hb2 : Below w1.heap.size w1 w2 := by rw [hw2]; exact (Below.refl _ _).alloc (Nat.le_refl _) _
 have hbb : Below w.heap.size w w2 := hb1.trans (hb2.mono hb1.size)
 have hP2 := WtP.of h hb hbb
 have hR2 : Rd w2 (some ⟨w.heap.size + 1, 0, none⟩) (tkcs [⟨kind, text, n⟩]) := by rw [hw2, ← hz1]; exact rd_one w1 ⟨kind, text, n⟩
 have HP2 := Lib.hid hP2
 have HR2 := Lib.hid hR2
 have HBS := Lib.hid (Nat.le_trans hb hbb.size)
 clear hP2 hR2 hb1 hb2 hbb h hz1
 go_enter Tryz.func119, Tryz.ntmps119
 go_wp2_with fail
 rw [← hw1, ← hw2]
 clear hw1 hw2
 refine (add_any base g s _ _ 1 [⟨kind, text, n⟩] w2 HBS.out HP2.out.1 rfl HR2.out (by omega)).mono ?_
 rintro e w3 ⟨rfl, hp3⟩
 have HP3 := Lib.hid (HP2.out.trans hp3)
 have HB3 := Lib.hid (Nat.le_trans HBS.out hp3.2.1.size)
 have d1 := hp3.1.c1
 have z1 := hp3.1.fz 1
 dsimp only [S.add] at d1
 obtain ⟨w4, hw4⟩ : ∃ w4, w4 = w3.setCell ⟨g, 1, none⟩ (.int .i64 ((s.op : Int) + 1)) := ⟨_, rfl⟩
 have hP4 : WtP base g ⟨s.out ++ [⟨kind, text, n⟩], s.op + 1, s.deep⟩ w3 w4 := by rw [hw4]; exact wt_op (s.op + 1) HB3.out HP3.out.1
 have HP4 := Lib.hid (HP3.out.trans hP4)
 have HB4 := Lib.hid (Nat.le_trans HB3.out hP4.2.1.size)
 have e1 : w4.drew.cell? ⟨g, 1, none⟩ = some (.int .i64 ((s.op : Int) + 1)) := hP4.1.c1
 have e2 : w4.drew.cell? ⟨g, 2, none⟩ = some (.int .i64 (s.deep : Int)) := hP4.1.c2
 have y2 : w4.drew.frozen? ⟨g, 2, none⟩ = false := hP4.1.fz 2
 have HW4D := Lib.hid (show Wt base g ⟨s.out ++ [⟨kind, text, n⟩], s.op + 1, s.deep⟩ w4.drew from hP4.1)
 clear hp3 hP4
 go_wp2_with fail
 rw [← hw4]
 clear hw4
 go_still_tail 12, (by kernel_rfl)
 change wpList _ _ _ _ _ w4.drew
 go_wp2_with fail
 go_end0
 refine ⟨rfl, ?_⟩
 have hm : (max (s.deep : Int) ((s.op : Int) + 1)) = ((max s.deep (s.op + 1) : Nat) : Int) := by omega
 rw [hm]
 exact (HP4.out.trans (wt_deep (max s.deep (s.op + 1)) HB4.out HP4.out.1)).drew
set_option maxHeartbeats 1000000 in
theorem leave_any (base g : Nat) (s : S) (al : Option Addr) (cl m : Nat) (l : List Tk) (w : World) (hb : base ≤ w.heap.size) (h : Wt base g s w) (hm : l.length = m) (hr : Rd w al (tkcs l)) (hN : s.out.length + m ≤ 100000000) (ho : 1 ≤ s.op) (ho2 : s.op ≤ 10000000) :
  Calls Tryz.prog 120 #[.pointer (some ⟨g, 0, none⟩), .slice al m cl] w fun e w' => e = .returned (.tuple #[]) ∧ WtP base g (s.leave l) w w' := by
 go_enter Tryz.func120, Tryz.ntmps120
 go_wp2_with fail
 refine (add_any base g s al cl m l w hb h hm hr hN).mono ?_
 rintro e w1 ⟨rfl, hp1⟩
 have HP1 := Lib.hid hp1
 have HB1 := Lib.hid (Nat.le_trans hb hp1.2.1.size)
 have d1 := hp1.1.c1
 have z1 := hp1.1.fz 1
 dsimp only [S.add] at d1
 clear hp1 h hr
 go_wp2_with fail
 go_end0
 refine ⟨rfl, ?_⟩
 have hc : ((s.op : Int) - 1) = ((s.op - 1 : Nat) : Int) := by omega
 rw [hc]
 exact HP1.out.trans (wt_op (s.op - 1) HB1.out HP1.out.1)
end Go.Proofs.YtfglgpbjjpoimaaGreatDoor
/- SaveEncodes: one, glue, leaf, level. -/
set_option linter.unusedVariables false
namespace Go.Proofs.YtfglgpbjjpoimaaGreatDoor
open Go.RowKit Sv
theorem mark_any' (k : Int) (w : World) : Calls Tryz.prog 62 #[.int .i64 k] w fun e w' => e = .returned (.agg #[.int .i64 k, .string ⟨#[]⟩, .int .i64 0, .int .i64 0]) ∧ Below w.heap.size w w' := mark_any k w
theorem number_any' (k : Int) (w : World) : Calls Tryz.prog 66 #[.int .i64 k] w fun e w' => e = .returned (.agg #[.int .i64 2, .string ⟨#[]⟩, .int .i64 k, .int .i64 0]) ∧ Below w.heap.size w w' := number_any k w
theorem name_any' (l : Str) (w : World) : Calls Tryz.prog 67 #[.string ⟨l.toArray⟩] w fun e w' => e = .returned (.agg #[.int .i64 1, .string ⟨l.toArray⟩, .int .i64 0, .int .i64 0]) ∧ Below w.heap.size w w' := name_any l w
theorem one_any (a : Option Addr) (n c : Nat) (w : World) : Calls Tryz.prog 135 #[.slice a n c] w fun e w' => e = .returned (.slice a n c) ∧ w' = w := by
 go_enter Tryz.func135, Tryz.ntmps135
 go_wp2_with fail
 go_ret
 exact ⟨rfl, rfl⟩
/-- A list of tokens in memory. -/
structure Tm where
 l : List Tk
 a : Option Addr
 c : Nat
def tmv (x : Tm) : Value := .slice x.a x.l.length x.c
def glued (l : List Tm) : List Tk := l.flatMap (·.l)
theorem glued_snoc (l : List Tm) (k : Nat) (h : k < l.length) : glued (l.take (k + 1)) = glued (l.take k) ++ l[k].l := by
 unfold glued
 rw [take_snoc l k h, List.flatMap_append]
 simp
theorem glued_le (l : List Tm) (k : Nat) (N : Nat) (h : ∀ x ∈ l, x.l.length ≤ N) : (glued (l.take k)).length ≤ l.length * N := by
 have h1 : ∀ r : List Tm, (∀ x ∈ r, x.l.length ≤ N) → (glued r).length ≤ r.length * N := by
  intro r
  induction r with
  | nil => intro _; simp [glued]
  | cons x r ih =>
   intro hr
   have h2 := ih fun y hy => hr y (List.mem_cons_of_mem _ hy)
   have h3 := hr x (by simp)
   have h4 : glued (x :: r) = x.l ++ glued r := by simp [glued]
   rw [h4, List.length_append, List.length_cons, Nat.succ_mul]
   omega
 have h2 := h1 (l.take k) fun x hx => h x (List.mem_of_mem_take hx)
 have h3 : (l.take k).length ≤ l.length := by rw [List.length_take]; omega
 exact Nat.le_trans h2 (Nat.mul_le_mul_right _ h3)
set_option maxHeartbeats 1000000 in
theorem glue_any (a : Option Addr) (c n : Nat) (l : List Tm) (w : World) (hn : l.length = n) (hN : n ≤ 10) (hr : Rd w a (l.map tmv)) (hx : ∀ x ∈ l, Rd w x.a (tkcs x.l) ∧ x.l.length ≤ 1000) :
  Calls Tryz.prog 136 #[.slice a n c] w fun e w' => ∃ a' c' m, e = .returned (.slice a' m c') ∧ (glued l).length = m ∧ Rd w' a' (tkcs (glued l)) ∧ Below w.heap.size w w' := by
 obtain ⟨i0, hi9, hz9, hs9, hy9⟩ := info_parts info138
 have hi0 := Lib.hid hi9
 have hz0 := Lib.hid hz9
 have hs0 := Lib.hid hs9
 have hy0 := Lib.hid hy9
 have HN := Lib.hid hn
 have HR := Lib.hid hr
 have HX := Lib.hid hx
 clear hi9 hz9 hs9 hy9 hn hr hx
 go_enter Tryz.func136, Tryz.ntmps136
 go_wp2_with fail
 go_loopw [8, 3] (fun i v wr => ∃ (k m : Nat) (a' : Option Addr) (c' : Nat), k ≤ n ∧ i = .int .i64 (k : Int) ∧ v = .slice a' m c' ∧ (glued (l.take k)).length = m ∧ wr.ownsRow w.heap.size 138 4 (.slice a' m c') m (tkcs (glued (l.take k))) ∧ Below w.heap.size w wr) (fun i _ _ => n - (intOf i).toNat)
 case atStart => exact ⟨0, 0, none, 0, Nat.zero_le _, rfl, rfl, rfl, World.ownsRow_nil _ _ _ _, Below.refl _ _⟩
 case round =>
  obtain ⟨k, m, a', c', hkn, rfl, rfl, hm, hown, hbw⟩ := hrel
  have HBW := Lib.hid hbw
  have HM := Lib.hid hm
  by_cases hlt : k < n
  ·have hkl : k < l.length := by rw [HN.out]; exact hlt
   have hlt' : (k : Int) < n := by omega
   have hcell : ∃ b off, a = some ⟨b, off, none⟩ ∧ wr.cell? ⟨b, off + k, none⟩ = some (.slice l[k].a l[k].l.length l[k].c) := by
    have g1 : (l.map tmv)[k]? = some (.slice l[k].a l[k].l.length l[k].c) := by simp [hkl, tmv]
    rcases HR.out.below hbw with h | ⟨b, off, rfl, hc⟩
    ·rw [h] at g1; cases g1
    ·exact ⟨b, off, rfl, hc _ _ g1⟩
   obtain ⟨b, off, rfl, hc⟩ := hcell
   have hg := glued_snoc l k hkl
   have hx2 := HX.out _ (List.getElem_mem hkl)
   have hm2 := glued_le l k 1000 fun x hx => (HX.out x hx).2
   rw [hm] at hm2
   have hm3 : m ≤ 10 * 1000 := Nat.le_trans hm2 (Nat.mul_le_mul_right _ (by rw [HN.out]; exact hN))
   obtain ⟨x, hxe⟩ : ∃ x, x = l[k] := ⟨_, rfl⟩
   rw [← hxe] at hc hg hx2
   obtain ⟨xl, xa, xc⟩ := x
   dsimp only at hc hg hx2
   obtain ⟨q, hq⟩ : ∃ q, q = xl.length := ⟨_, rfl⟩
   rw [← hq] at hc hx2
   have hq3 := hx2.2
   have HQ := Lib.hid (show (tkcs xl).length = q * 4 by rw [tkcs_len, ← hq])
   have HQ2 := Lib.hid hq
   have HG := Lib.hid hg
   have HX2 := Lib.hid (hx2.1.below hbw)
   have HOWN := Lib.hid hown
   have HME := Lib.hid (meas_lt hlt)
   have HKS := Lib.hid (show k + 1 ≤ n from hlt)
   have hbs := hbw.size
   clear hg hx2 hq hown hbw hm hm2 hxe
   go_wp2_with (first | (at_builtin; refine wpList_append_rd wr rfl _ _ 132 rfl w.heap.size 138 i0 _ 4 40 Tryz.underlying132 hi0.out hz0.out hs0.out hy0.out rfl (by decide) (.slice a' m c') m (tkcs (glued (l.take k))) rfl HOWN.out xa q xc (tkcs xl) rfl HQ.out HX2.out (tkcs_one xl) (by unfold maxLen; omega) (by omega) hbs ?_; intro a4 c4 w4 ho4 hb4 hm4) | fail)
   go_roundw
   case rel => exact ⟨k + 1, m + q, a4, c4, HKS.out, by go_num, rfl, by rw [HG.out, List.length_append, HM.out, ← HQ2.out], by rw [HG.out, tkcs_append]; exact ho4, HBW.out.trans hb4⟩
   case measure => exact HME.out
  ·have hk' : ¬ (k : Int) < n := by omega
   have hall : l.take k = l := List.take_of_length_le (by rw [HN.out]; omega)
   rw [hall] at hown hm
   have HOWN := Lib.hid hown
   have HM2 := Lib.hid hm
   clear hown hbw hm hall
   go_wp2_with fail
   go_ret
   exact ⟨a', c', m, rfl, HM2.out, ownsRow_rd HOWN.out, HBW.out⟩
end Go.Proofs.YtfglgpbjjpoimaaGreatDoor
/- SaveEncodes: the laid tables; level, Spell. -/
set_option linter.unusedVariables false
namespace Go.Proofs.YtfglgpbjjpoimaaGreatDoor
open Go.RowKit Sv
/-- A table's cells. -/
def Tb (w : World) (g : Nat) (cs : List Value) : Prop := ∀ i (h : i < cs.length), w.cell? ⟨g, i, none⟩ = some cs[i]
theorem Tb.below {w w' : World} {g : Nat} {cs : List Value} (h : Tb w g cs) (hb : Below w.heap.size w w') : Tb w' g cs := fun i hi => by
 have h1 := h i hi
 rw [hb.cell (World.block_lt_of_cell? w _ h1)]
 exact h1
def firstL : List Int := [83, 76, 85, 73, 67, 69, 10, 2]
/-- What stands at start. -/
structure Ld (w : World) : Prop where
 kw : Kw w
 lev : Tb w 7 (levelsL.map Z)
 sgn : Tb w 4 (signsL.map Z)
 aft : Tb w 1 (aftersL.map Z)
 spl : Tb w 8 (spellsL.map T)
 rsg : Tb w 6 (signsR.map T)
 rcl : Tb w 5 (callsR.map T)
 fst : Tb w 0 (firstL.map Z)
 tab : Lib.TabIs Tryz.prog w "internal/strconv.uint64pow10" .u64 Lib.pow10Tab
theorem Ld.below {w w' : World} (h : Ld w) (hb : Below w.heap.size w w') : Ld w' :=
 ⟨h.kw.below hb, h.lev.below hb, h.sgn.below hb, h.aft.below hb, h.spl.below hb, h.rsg.below hb, h.rcl.below hb, h.fst.below hb, Lib.tabBelow_of_tabIs h.tab w' hb⟩
theorem level_any (o : Int) (ho : o ≤ 26) (w : World) (hl : Ld w) : Calls Tryz.prog 118 #[.int .i64 o] w fun e w' => e = .returned (.int .i64 (lev o)) ∧ w' = w := by
 by_cases h : o < 12
 ·have hv : lev o = 8 := if_pos h
  rw [hv]
  clear hv
  go_enter Tryz.func118, Tryz.ntmps118
  go_wp2_with fail
  go_ret
  exact ⟨rfl, rfl⟩
 ·obtain ⟨j, hj, hj2⟩ : ∃ j : Nat, o - 12 = j ∧ j < 15 := ⟨(o - 12).toNat, by omega, by omega⟩
  have hv : lev o = levelsL[j]'(by simpa [levelsL] using hj2) := by
   have h1 : (o - 12).toNat = j := by omega
   unfold lev
   rw [if_neg h, h1, List.getD_eq_getElem?_getD, List.getElem?_eq_getElem (by simpa [levelsL] using hj2)]
   rfl
  have hc := hl.lev j (by simpa [levelsL] using hj2)
  rw [List.getElem_map, ← hv, Z] at hc
  have hj0 : (0 : Int) ≤ j := by omega
  have hj3 : (j : Int) < 15 := by omega
  have h' : ¬ o < 12 := h
  clear hv h hl
  obtain ⟨v, hv⟩ : ∃ v, v = lev o := ⟨_, rfl⟩
  rw [← hv] at hc ⊢
  clear hv
  obtain rfl : o = 12 + j := by omega
  have hs : 12 + (j : Int) - 12 = j := by omega
  go_enter Tryz.func118, Tryz.ntmps118
  go_wp2_with fail
  go_ret
  exact ⟨rfl, rfl⟩
def fmtI (n : Int) : Str := Lib.itoa n
theorem below_grow (w : World) (k : Nat) (os : Array Obj) : Below w.heap.size w (Go.Sort.grow (w.drewN k) os) :=
 ⟨rfl, rfl, rfl, by simp [Go.Sort.grow], fun j hj => by show (w.heap ++ os)[j]? = _; rw [Array.getElem?_append_left hj]⟩
theorem fmt_any (n : Int) (h0 : -9223372036854775808 ≤ n) (h1 : n ≤ 9223372036854775807) (w : World) (hl : Ld w) :
  Calls Tryz.prog 89 #[.int .i64 n, .int .i64 10] w fun e w' => e = .returned (.string ⟨(fmtI n).toArray⟩) ∧ Below w.heap.size w w' := by
 refine (Tryz.strconv_FormatInt_10 n h0 h1 w hl.tab).mono ?_
 rintro e w' ⟨rfl, k, os, rfl⟩
 exact ⟨rfl, below_grow w k os⟩
theorem itoa_any (n : Int) (h0 : -9223372036854775808 ≤ n) (h1 : n ≤ 9223372036854775807) (w : World) (hl : Ld w) :
  Calls Tryz.prog 109 #[.int .i64 n] w fun e w' => e = .returned (.string ⟨(fmtI n).toArray⟩) ∧ Below w.heap.size w w' := by
 refine (Tryz.strconv_Itoa n h0 h1 w hl.tab).mono ?_
 rintro e w' ⟨rfl, k, os, rfl⟩
 exact ⟨rfl, below_grow w k os⟩
/-- A token that can be written. -/
def TkOK (t : Tk) : Prop := (0 ≤ t.kind ∧ t.kind ≤ 100) ∧ -9223372036854775808 ≤ t.n ∧ t.n ≤ 9223372036854775807
set_option maxHeartbeats 1000000 in
theorem spell_any (t : Tk) (w : World) (hl : Ld w) (ht : TkOK t) : Calls Tryz.prog 122 #[tkv t] w fun e w' => e = .returned (.string ⟨(spell fmtI t).toArray⟩) ∧ Below w.heap.size w w' := by
 obtain ⟨K, text, n⟩ := t
 obtain ⟨⟨k0, k1⟩, n0, n1⟩ := ht
 dsimp only at k0 k1 n0 n1
 simp only [tkv]
 obtain ⟨w0, hw0⟩ : ∃ w0, w0 = w.alloc (.cells #[.int .i64 K, .string ⟨text.toArray⟩, .int .i64 n, .int .i64 0] 138) := ⟨_, rfl⟩
 have hb0 : Below w.heap.size w w0 := by rw [hw0]; exact (Below.refl _ _).alloc (Nat.le_refl _) _
 have hE0 : Blk w0 w.heap.size 138 [.int .i64 K, .string ⟨text.toArray⟩, .int .i64 n, .int .i64 0] := by rw [hw0]; exact Blk.new w _ 138
 have HE := Lib.hid hE0
 have HB0 := Lib.hid hb0
 have HL := Lib.hid (hl.below hb0)
 clear hE0 hb0 hl
 have hcl : (K = 1 ∧ spell fmtI ⟨K, text, n⟩ = text) ∨ (K = 2 ∧ spell fmtI ⟨K, text, n⟩ = fmtI n) ∨
   (∃ j : Nat, K = j ∧ 3 ≤ j ∧ j ≤ 21 ∧ ∃ hj : j < spellsL.length, spell fmtI ⟨K, text, n⟩ = spellsL[j]) ∨
   (∃ j : Nat, K = 30 + j ∧ j < 27 ∧ ∃ hj : j < kwsL.length, spell fmtI ⟨K, text, n⟩ = kwsL[j]) ∨
   ((¬ K = 1 ∧ ¬ K = 2 ∧ ¬ (3 ≤ K ∧ K ≤ 21) ∧ ¬ (30 ≤ K ∧ K - 30 < 27)) ∧ spell fmtI ⟨K, text, n⟩ = []) := by
  unfold spell
  dsimp only
  by_cases q1 : K = 1
  ·exact .inl ⟨q1, if_pos q1⟩
  ·by_cases q2 : K = 2
   ·exact .inr (.inl ⟨q2, by rw [if_neg q1, if_pos q2]⟩)
   ·by_cases q3 : 3 ≤ K ∧ K ≤ 21
    ·refine .inr (.inr (.inl ⟨K.toNat, by omega, by omega, by omega, by have : spellsL.length = 22 := rfl; omega, ?_⟩))
     rw [if_neg q1, if_neg q2, if_pos q3, List.getD_eq_getElem?_getD, List.getElem?_eq_getElem (by have : spellsL.length = 22 := rfl; omega)]
     rfl
    ·by_cases q4 : 30 ≤ K ∧ K - 30 < 27
     ·refine .inr (.inr (.inr (.inl ⟨(K - 30).toNat, by omega, by omega, by have : kwsL.length = 27 := rfl; omega, ?_⟩)))
      rw [if_neg q1, if_neg q2, if_neg q3, if_pos q4, List.getD_eq_getElem?_getD, List.getElem?_eq_getElem (by have : kwsL.length = 27 := rfl; omega)]
      rfl
     ·exact .inr (.inr (.inr (.inr ⟨⟨q1, q2, q3, q4⟩, by rw [if_neg q1, if_neg q2, if_neg q3, if_neg q4]⟩)))
 obtain ⟨sp, hsp⟩ : ∃ sp, sp = spell fmtI ⟨K, text, n⟩ := ⟨_, rfl⟩
 rw [← hsp] at hcl ⊢
 clear hsp
 rcases hcl with ⟨rfl, rfl⟩ | ⟨rfl, rfl⟩ | ⟨j, rfl, j3, j21, hj, hs⟩ | ⟨j, rfl, j27, hj, hs⟩ | ⟨⟨q1, q2, q3, q4⟩, rfl⟩
 ·have c0 := HE.out.ci 0 rfl
  have c1 := HE.out.ci 1 rfl
  go_enter Tryz.func122, Tryz.ntmps122
  go_wp2_with fail
  go_ret
  exact ⟨rfl, (Below.refl _ _).alloc (Nat.le_refl _) _⟩
 ·go_enter Tryz.func122, Tryz.ntmps122
  go_wp2_with fail
  rw [← hw0]
  clear hw0
  refine (fmt_any n n0 n1 w0 HL.out).mono ?_
  rintro e w1 ⟨rfl, hb1⟩
  have HB1 := Lib.hid (HB0.out.trans (hb1.mono HB0.out.size))
  clear hb1
  go_wp2_with fail
  go_ret
  exact ⟨rfl, HB1.out⟩
 ·have hc := HL.out.spl j (by simpa using hj)
  rw [List.getElem_map, ← hs, T] at hc
  rw [hw0] at hc
  have a1 : ((j : Int) == 1) = false := by simp; omega
  have a2 : ((j : Int) == 2) = false := by simp; omega
  have a3 : (3 : Int) ≤ j := by omega
  have a4 : (j : Int) ≤ 21 := by omega
  have a5 : (j : Int) < 22 := by omega
  clear hs hw0
  go_enter Tryz.func122, Tryz.ntmps122
  go_wp2_with fail
  go_ret
  exact ⟨rfl, (Below.refl _ _).alloc (Nat.le_refl _) _⟩
 ·have hc := HL.out.kw j (by simpa using hj)
  rw [← hs, T] at hc
  rw [hw0] at hc
  have a1 : (30 + (j : Int) == 1) = false := by simp; omega
  have a2 : (30 + (j : Int) == 2) = false := by simp; omega
  have a3 : (3 : Int) ≤ 30 + j := by omega
  have a4 : ¬ (30 + (j : Int) ≤ 21) := by omega
  have a5 : (30 : Int) ≤ 30 + j := by omega
  have a6 : 30 + (j : Int) - 30 = j := by omega
  have a7 : (j : Int) < 27 := by omega
  have a8 : (0 : Int) ≤ j := by omega
  clear hs hw0
  go_enter Tryz.func122, Tryz.ntmps122
  go_wp2_with fail
  all_goals (first | (exfalso; omega) | (go_ret; exact ⟨rfl, (Below.refl _ _).alloc (Nat.le_refl _) _⟩))
 ·have a1 : (K == 1) = false := by simpa using q1
  have a2 : (K == 2) = false := by simpa using q2
  go_enter Tryz.func122, Tryz.ntmps122
  by_cases r1 : 3 ≤ K <;> by_cases r2 : K ≤ 21 <;> by_cases r3 : 30 ≤ K <;> by_cases r4 : K - 30 < 27 <;> first | (exfalso; omega) | skip
  all_goals (
   go_wp2_with fail
   all_goals (first | (exfalso; omega) | (go_ret; exact ⟨rfl, (Below.refl _ _).alloc (Nat.le_refl _) _⟩)))
end Go.Proofs.YtfglgpbjjpoimaaGreatDoor
