/- SaveEncodes: node: bounds; the walk at a leaf. -/
import Derived.Test.YtfglgpbjjpoimaaGreatDoorSwGI
import Derived.Deep.RegionLaw
set_option linter.unusedVariables false
namespace Go.Proofs.YtfglgpbjjpoimaaGreatDoor
open Go.RowKit Sv
theorem leafT_six (x : Nd) : (leafT x).length ≤ 6 := by
 unfold leafT fieldT
 repeat' split
 all_goals simp
structure Bd (s s' : S) (a b : Nat) : Prop where
 out : s'.out.length ≤ s.out.length + a
 op : s'.op = s.op
 deep : s'.deep ≤ max s.deep (s.op + b)
theorem node_bd_of {e : Ex} (hb : ∀ s, Bd s (bodyS e s) (8 * e.size - 2) (2 * e.size - 1)) (n : Int) (s : S) : Bd s (nodeS e n s) (8 * e.size) (2 * e.size) := by
 have hp := e.size_pos
 rw [nodeS_eq]
 split
 ·exact ⟨by omega, rfl, by omega⟩
 ·split
  ·split
   ·refine ⟨?_, ?_, ?_⟩
    ·simp [S.leave, S.enter]; omega
    ·simp [S.leave, S.enter]
    ·simp [S.leave, S.enter]; omega
   ·have h := hb (s.enter (tk 3))
    have h1 := h.out
    have h2 := h.op
    have h3 := h.deep
    simp only [S.enter] at h1 h2 h3
    refine ⟨?_, ?_, ?_⟩
    ·simp only [S.leave, S.enter, List.length_append, List.length_cons, List.length_nil] at h1 ⊢; omega
    ·simp only [S.leave, S.enter]; omega
    ·simp only [S.leave, S.enter]; omega
  ·have h := hb s
   exact ⟨by have := h.out; omega, h.op, by have := h.deep; omega⟩
theorem body_bd (e : Ex) : ∀ s, Bd s (bodyS e s) (8 * e.size - 2) (2 * e.size - 1) := by
 induction e with
 | leaf x =>
  intro s
  have := leafT_six x
  refine ⟨?_, rfl, ?_⟩
  ·simp [bodyS, S.add, Ex.size]; omega
  ·simp [bodyS, S.add]; omega
 | one x e ih =>
  intro s
  have h := node_bd_of ih (lev x.op) (s.enter (tk (sgn x.op)))
  have h1 := h.out
  have h2 := h.op
  have h3 := h.deep
  simp only [S.enter, List.length_append, List.length_cons, List.length_nil] at h1 h2 h3
  refine ⟨?_, ?_, ?_⟩
  ·simp only [bodyS, S.leave, S.enter, Ex.size, List.append_nil] at h1 ⊢; omega
  ·simp only [bodyS, S.leave, S.enter]; omega
  ·simp only [bodyS, S.leave, S.enter, Ex.size]; omega
 | two x e f ih1 ih2 =>
  intro s
  have h := node_bd_of ih1 (leftL x.op) s
  have k := node_bd_of ih2 (lev x.op + 1) ((nodeS e (leftL x.op) s).add [tk (sgn x.op)])
  have h1 := h.out
  have h2 := h.op
  have h3 := h.deep
  have k1 := k.out
  have k2 := k.op
  have k3 := k.deep
  simp only [S.add, List.length_append, List.length_cons, List.length_nil] at k1 k2 k3
  refine ⟨?_, ?_, ?_⟩
  ·simp only [bodyS, S.add, Ex.size]; omega
  ·simp only [bodyS, S.add]; omega
  ·simp only [bodyS, S.add, Ex.size]; omega
theorem node_bd (e : Ex) (n : Int) (s : S) : Bd s (nodeS e n s) (8 * e.size) (2 * e.size) := node_bd_of (body_bd e) n s
/-- What stands where the writer is called. -/
structure NH (dd : Nat) (base g : Nat) (ta : Option Addr) (t : List Nd) (s : S) (k : Nat) (w : World) : Prop where
 b : base ≤ w.heap.size
 wt : Wt base g s w
 old : ∀ w', Below base w w' → Ld w' ∧ RdN w' ta t
 o1 : s.out.length + 8 * k ≤ 10000000 + dd
 o2 : s.op + 2 * k ≤ 10000000 + dd / 2
 o3 : s.deep ≤ 10000000
def NodeR (base g : Nat) (s' : S) (w : World) (r : Ending) (w' : World) : Prop := r = .returned (.tuple #[]) ∧ WtP base g s' w w'
def NodeC (base g : Nat) (ta : Option Addr) (tc : Nat) (t : List Nd) (e : Ex) (o : Nat) (n : Int) : Prop := ∀ (s : S) (w : World), NH 0 base g ta t s e.size w →
 Calls Tryz.prog 100 #[.pointer (some ⟨g, 0, none⟩), .slice ta t.length tc, .int .i64 ((o + e.size - 1 : Nat) : Int), .int .i64 n] w (NodeR base g (nodeS e n s) w)
def NodeF (base g : Nat) (ta : Option Addr) (tc : Nat) (t : List Nd) (e : Ex) (o : Nat) (n : Int) : Prop := ∀ (s : S) (w : World), NH 2 base g ta t s e.size w →
 Calls Tryz.prog 100 #[.pointer (some ⟨g, 0, none⟩), .slice ta t.length tc, .int .i64 ((o + e.size - 1 : Nat) : Int), .int .i64 n] w (NodeR base g (nodeS e n s) w)
theorem WtP.refl {base g : Nat} {s : S} {w : World} (h : Wt base g s w) : WtP base g s w w := ⟨h, Below.refl _ _, Fr.refl _ _⟩
theorem NH.step {dd base g : Nat} {ta : Option Addr} {t : List Nd} {s s' : S} {k k' : Nat} {w w' : World} (h : NH dd base g ta t s k w) (hp : WtP base g s' w w') (o1 : s'.out.length + 8 * k' ≤ 10000000) (o2 : s'.op + 2 * k' ≤ 10000000) (o3 : s'.deep ≤ 10000000) : NH 0 base g ta t s' k' w' :=
 ⟨Nat.le_trans h.b hp.2.1.size, hp.1, fun w2 hb => h.old w2 (hp.2.1.trans hb), o1, o2, o3⟩
set_option maxHeartbeats 2000000 in
set_option maxRecDepth 20000 in
theorem node_leaf (base g : Nat) (ta : Option Addr) (tc : Nat) (t : List Nd) (x : Nd) (o : Nat) (hx : t[o]? = some x) (h1 : 1 ≤ x.op) (h2 : x.op ≤ 11) (hN : t.length ≤ 1048576) (n : Int) (hn : ¬ lev x.op < n) : NodeF base g ta tc t (.leaf x) o n := by
 intro s w h
 have hroot : o + (Ex.leaf x).size - 1 = o := rfl
 rw [hroot]
 clear hroot
 have hres := nodeS_eq (.leaf x) n s
 rw [show (Ex.leaf x).top = x from rfl, if_neg hn] at hres
 obtain ⟨m, hm⟩ : ∃ m, m = t.length := ⟨_, rfl⟩
 rw [← hm]
 obtain ⟨hol, rfl⟩ := List.getElem?_eq_some_iff.1 hx
 have hom : (o : Int) < m := by omega
 obtain ⟨b, off, rfl, e0, e1, e2, e3, e4, e5⟩ := (h.old w (Below.refl _ _)).2.at o hol
 obtain ⟨x, hxx⟩ : ∃ x, x = t[o] := ⟨_, rfl⟩
 rw [← hxx] at e0 e1 e2 e3 e4 e5 h1 h2 hn hres
 have hxs : (Ex.leaf t[o]).size = 1 := rfl
 rw [hxs] at h
 rw [← hxx]
 clear hxx hx hxs hol
 have hfull := full_any base g s w h.wt
 obtain ⟨op, nn, var, attr, xa, xb⟩ := x
 dsimp only at e0 e1 e2 e3 e4 e5 h1 h2 hn
 rw [T] at e2 e3
 have HH := Lib.hid h
 have HRES := Lib.hid hres
 obtain ⟨wa, hwa⟩ : ∃ wa, wa = w.alloc (.cells #[.int .i64 op, .int .i64 nn, .string ⟨var.toArray⟩, .string ⟨attr.toArray⟩, .int .i64 xa, .int .i64 xb] 102) := ⟨_, rfl⟩
 obtain ⟨ga, hga⟩ : ∃ ga, ga = w.heap.size := ⟨_, rfl⟩
 have hka : Blk wa ga 102 [.int .i64 op, .int .i64 nn, .string ⟨var.toArray⟩, .string ⟨attr.toArray⟩, .int .i64 xa, .int .i64 xb] := by rw [hwa, hga]; exact Blk.new w _ 102
 have hra : Below w.heap.size w wa := by rw [hwa]; exact (Below.refl _ _).alloc (Nat.le_refl _) _
 have HPA := Lib.hid (WtP.of h.wt h.b hra)
 have HKA := Lib.hid hka
 have hlda := (h.old wa HPA.out.2.1).1
 obtain ⟨lv, hlv⟩ : ∃ lv, lv = lev op := ⟨_, rfl⟩
 have HLV := Lib.hid hlv
 have hn' : decide (lv < n) = false := by rw [hlv]; simpa using hn
 have hn2 : ¬ lv < n := by rw [hlv]; exact hn
 have f0 := hka.ci 0 rfl
 have f1 := hka.ci 1 rfl
 have f2 := hka.ci 2 rfl
 have f3 := hka.ci 3 rfl
 have f4 := hka.ci 4 rfl
 have f5 := hka.ci 5 rfl
 have hop : op < 12 := by omega
 clear h hres hn hra hka hlv
 go_enter Tryz.func100, Tryz.ntmps100
 go_wp2_with fail
 refine hfull.mono ?_
 rintro e w' ⟨rfl, rfl⟩
 cases hf : s.full with
 | true =>
  go_wp2_with fail
  go_returns
  exact ⟨rfl, by rw [HRES.out, if_pos hf]; exact WtP.refl HH.out.wt⟩
 | false =>
  go_wp2_with fail
  rw [← hwa, ← hga]
  clear hwa hga
  refine (level_any op (by omega) wa hlda).mono ?_
  rintro e w2 ⟨rfl, rfl⟩
  rw [← HLV.out]
  go_wp2_with fail
  refine (leaf_any ⟨op, nn, var, attr, xa, xb⟩ w2 h1 h2).mono ?_
  rintro e w3 ⟨a3, c3, m3, rfl, hm3, hr3, hb3⟩
  have hl3 := leafT_six ⟨op, nn, var, attr, xa, xb⟩
  rw [hm3] at hl3
  have HP3 := Lib.hid (HPA.out.trans (WtP.of HPA.out.1 (Nat.le_trans HH.out.b HPA.out.2.1.size) hb3))
  have HM3 := Lib.hid hm3
  have HR3 := Lib.hid hr3
  clear hm3 hr3 hb3
  go_wp2_with fail
  refine (add_any base g s a3 c3 m3 (leafT ⟨op, nn, var, attr, xa, xb⟩) w3 (Nat.le_trans HH.out.b HP3.out.2.1.size) HP3.out.1 HM3.out HR3.out (by have := HH.out.o1; omega)).mono ?_
  rintro e w4 ⟨rfl, hp4⟩
  have HP4 := Lib.hid (HP3.out.trans hp4)
  clear hp4
  go_wp2_with fail
  go_returns
  exact ⟨rfl, by rw [HRES.out, if_neg (by rw [hf]; simp)]; exact HP4.out⟩
end Go.Proofs.YtfglgpbjjpoimaaGreatDoor
/- SaveEncodes: node: the walk at one operand. -/
set_option linter.unusedVariables false
namespace Go.Proofs.YtfglgpbjjpoimaaGreatDoor
open Go.RowKit Sv
theorem sgn_cell {w : World} (hl : Ld w) (o : Int) (j : Nat) (hj : o - 12 = j) (hj2 : j < 15) : w.cell? ⟨4, j, none⟩ = some (.int .i64 (sgn o)) := by
 have h1 : (o - 12).toNat = j := by omega
 have hc := hl.sgn j (by simpa [signsL] using hj2)
 rw [List.getElem_map, Z] at hc
 unfold sgn
 rw [h1, List.getD_eq_getElem?_getD, List.getElem?_eq_getElem (by simpa [signsL] using hj2)]
 exact hc
theorem Ld.drew {w : World} (h : Ld w) : Ld w.drew := h.below ((Below.refl _ _).drew)
theorem NH.drew {dd base g : Nat} {ta : Option Addr} {t : List Nd} {s : S} {k : Nat} {w : World} (h : NH dd base g ta t s k w) : NH dd base g ta t s k w.drew := ⟨h.b, h.wt, fun w' hb => h.old w' ((Below.refl base w).drew.trans hb), h.o1, h.o2, h.o3⟩
set_option maxHeartbeats 4000000 in
set_option maxRecDepth 20000 in
theorem node_one (base g : Nat) (ta : Option Addr) (tc : Nat) (t : List Nd) (x : Nd) (e : Ex) (o : Nat) (hx : t[o + e.size]? = some x) (h1 : x.op = 12 ∨ x.op = 13) (ha : x.a = ((o + e.size - 1 : Nat) : Int)) (hN : t.length ≤ 1048576) (IH : NodeC base g ta tc t e o (lev x.op)) (n : Int) (hn : ¬ lev x.op < n) : NodeF base g ta tc t (.one x e) o n := by
 intro s w h
 have hroot : o + (Ex.one x e).size - 1 = o + e.size := by simp only [Ex.size]; omega
 rw [hroot]
 clear hroot
 have hres := nodeS_eq (.one x e) n s
 rw [show (Ex.one x e).top = x from rfl, if_neg hn] at hres
 have hbd := node_bd e (lev x.op) (s.enter (tk (sgn x.op)))
 have hep := e.size_pos
 obtain ⟨m, hm⟩ : ∃ m, m = t.length := ⟨_, rfl⟩
 unfold NodeC at IH
 rw [← hm] at IH ⊢
 obtain ⟨hol, hxe⟩ := List.getElem?_eq_some_iff.1 hx
 obtain ⟨rt, hrt⟩ : ∃ rt, rt = o + e.size := ⟨_, rfl⟩
 have hom : (rt : Int) < m := by omega
 obtain ⟨b, off, rfl, e0, e1, e2, e3, e4, e5⟩ := (h.old w (Below.refl _ _)).2.at (o + e.size) hol
 rw [hxe] at e0 e1 e2 e3 e4 e5
 rw [← hrt] at e0 e1 e2 e3 e4 e5 ⊢
 have hsz : (Ex.one x e).size = e.size + 1 := rfl
 rw [hsz] at h
 clear hxe hx hsz hol hrt
 have hfull := full_any base g s w h.wt
 obtain ⟨op, nn, var, attr, xa, xb⟩ := x
 dsimp only at e0 e1 e2 e3 e4 e5 h1 ha hn IH hbd
 subst ha
 rw [T] at e2 e3
 obtain ⟨ra, hra'⟩ : ∃ ra, ra = o + e.size - 1 := ⟨_, rfl⟩
 rw [← hra'] at e4 IH hres ⊢
 have HH := Lib.hid h
 have HRES := Lib.hid hres
 obtain ⟨wa, hwa⟩ : ∃ wa, wa = w.alloc (.cells #[.int .i64 op, .int .i64 nn, .string ⟨var.toArray⟩, .string ⟨attr.toArray⟩, .int .i64 (ra : Int), .int .i64 xb] 102) := ⟨_, rfl⟩
 obtain ⟨ga, hga⟩ : ∃ ga, ga = w.heap.size := ⟨_, rfl⟩
 have hka : Blk wa ga 102 [.int .i64 op, .int .i64 nn, .string ⟨var.toArray⟩, .string ⟨attr.toArray⟩, .int .i64 (ra : Int), .int .i64 xb] := by rw [hwa, hga]; exact Blk.new w _ 102
 have hra : Below w.heap.size w wa := by rw [hwa]; exact (Below.refl _ _).alloc (Nat.le_refl _) _
 have hoff : Off g ga wa := h.wt.off hra ga (by rw [hga]; exact Nat.le_refl _)
 have HPA := Lib.hid (WtP.of h.wt h.b hra)
 have HKA := Lib.hid hka
 have HOFF := Lib.hid hoff
 have hlda := (h.old wa HPA.out.2.1).1
 obtain ⟨lv, hlv⟩ : ∃ lv, lv = lev op := ⟨_, rfl⟩
 have HLV := Lib.hid hlv
 rw [← hlv] at IH hbd
 have HBD := Lib.hid hbd
 have HIH := Lib.hid IH
 have hn' : decide (lv < n) = false := by rw [hlv]; simpa using hn
 have hn2 : ¬ lv < n := by rw [hlv]; exact hn
 have f0 := hka.ci 0 rfl
 obtain ⟨j, hj, hj2⟩ : ∃ j : Nat, op - 12 = j ∧ j < 2 := ⟨(op - 12).toNat, by omega, by omega⟩
 have hop : ¬ op < 12 := by omega
 have hop2 : op < 14 := by omega
 have hj0 : (0 : Int) ≤ j := by omega
 have hj3 : (j : Int) < 15 := by omega
 have hsc := sgn_cell hlda op j hj (by omega)
 obtain ⟨sg, hsg⟩ : ∃ sg, sg = sgn op := ⟨_, rfl⟩
 rw [← hsg] at hsc
 have HSG := Lib.hid hsg
 obtain rfl : op = 12 + j := by omega
 have hs12 : 12 + (j : Int) - 12 = j := by omega
 have HSZ := Lib.hid (show m ≤ 1048576 by rw [hm]; exact hN)
 clear h hres hn hra hka hlv hsg IH hbd h1 hoff hra' hj hm hN
 go_enter Tryz.func100, Tryz.ntmps100
 go_wp2_with fail
 refine hfull.mono ?_
 rintro e w' ⟨rfl, rfl⟩
 cases hf : s.full with
 | true =>
  go_wp2_with fail
  go_returns
  exact ⟨rfl, by rw [HRES.out, if_pos hf]; exact WtP.refl HH.out.wt⟩
 | false =>
  go_wp2_with fail
  rw [← hwa, ← hga]
  clear hwa hga
  refine (level_any (12 + (j : Int)) (by omega) wa hlda).mono ?_
  rintro e w2 ⟨rfl, rfl⟩
  rw [← HLV.out]
  go_wp2_with fail
  refine (mark_any' sg w2).mono ?_
  rintro e w3 ⟨rfl, hb3⟩
  have HP3 := Lib.hid (HPA.out.trans (WtP.of HPA.out.1 (Nat.le_trans HH.out.b HPA.out.2.1.size) hb3))
  have HK3 := Lib.hid (HKA.out.below hb3)
  have HO3 := Lib.hid (HOFF.out.below HPA.out.1.lt hb3)
  clear hb3 e0 e1 e2 e3 e4 e5 f0 hsc
  go_wp2_with fail
  refine (enter_any base g s (tk sg) w3 (Nat.le_trans HH.out.b HP3.out.2.1.size) HP3.out.1 (by have h1 := HH.out.o1; have h2 := HH.out.o2; have h3 := HH.out.o3; omega)).mono ?_
  rintro e w4 ⟨rfl, hp4⟩
  obtain ⟨hk4, ho4⟩ := hp4.2.2.blk HK3.out HO3.out
  have HP4 := Lib.hid (HP3.out.trans hp4)
  have d0 : w4.drew.cell? ⟨ga, 0, none⟩ = some (.int .i64 (12 + (j : Int))) := hk4.ci 0 rfl
  have d4 : w4.drew.cell? ⟨ga, 4, none⟩ = some (.int .i64 (ra : Int)) := hk4.ci 4 rfl
  have HNH := Lib.hid (HH.out.step (k' := e.size) HP4.out (by have := HH.out.o1; simp only [S.enter, List.length_append, List.length_cons, List.length_nil]; omega) (by have := HH.out.o2; simp only [S.enter]; omega) (by have := HH.out.o2; have := HH.out.o3; simp only [S.enter]; omega)).drew
  have HLD4 := Lib.hid (HH.out.old w4 HP4.out.2.1).1.drew
  clear hp4 hk4 ho4
  go_wp2_with fail
  go_region_law (first
   | (go_simp; go_at_call 118; refine (level_any (12 + (j : Int)) (by omega) _ HLD4.out).mono ?_; rintro e _ ⟨rfl, rfl⟩; rw [← HLV.out])
   | (go_simp; go_at_call 100; refine (HIH.out (s.enter (tk sg)) w4.drew HNH.out).mono ?_; rintro e w5 ⟨rfl, hp5⟩; (have HP5 := Lib.hid (HP4.out.drew.trans hp5)); clear hp5))
  all_goals (
   have h2 := HP5.out
   rw [HSG.out] at h2
   have hbo := HBD.out
   go_wp2_with fail
   refine (leave_any base g _ none 0 0 [] w5 (Nat.le_trans HH.out.b HP5.out.2.1.size) h2.1 rfl (Rd.nil _ _) (by have h1 := hbo.out; have := HH.out.o1; simp only [S.enter, List.length_append, List.length_cons, List.length_nil] at h1 ⊢; omega) (by have h1 := hbo.op; simp only [S.enter] at h1 ⊢; omega) (by have h1 := hbo.op; have := HH.out.o2; simp only [S.enter] at h1 ⊢; omega)).mono ?_
   rintro e w6 ⟨rfl, hp6⟩
   have HP6 := Lib.hid (h2.trans hp6)
   clear hp6 h2 hbo
   go_wp2_with fail
   go_returns
   refine ⟨rfl, ?_⟩
   rw [HRES.out, if_neg (by rw [hf]; simp)]
   have h3 := HP6.out
   rw [HLV.out] at h3
   exact h3)
end Go.Proofs.YtfglgpbjjpoimaaGreatDoor
