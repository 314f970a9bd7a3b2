/- SaveEncodes: node: the walk at two operands. -/
import Derived.Test.YtfglgpbjjpoimaaGreatDoorSwGJ
set_option linter.unusedVariables false
namespace Go.Proofs.YtfglgpbjjpoimaaGreatDoor
open Go.RowKit Sv
theorem lev_range (o : Int) : lev o ≤ 8 ∧ 0 ≤ lev o := by
 unfold lev
 split
 ·decide
 ·rw [List.getD_eq_getElem?_getD]
  have h : ∀ v ∈ levelsL, v ≤ 8 ∧ 0 ≤ v := by decide
  cases hq : levelsL[(o - 12).toNat]? with
  | none => decide
  | some v => exact h v (List.mem_of_getElem? hq)
set_option maxHeartbeats 4000000 in
set_option maxRecDepth 20000 in
theorem node_two (base g : Nat) (ta : Option Addr) (tc : Nat) (t : List Nd) (x : Nd) (e f : Ex) (o : Nat) (hx : t[o + e.size + f.size]? = some x) (h1 : 14 ≤ x.op ∧ x.op ≤ 26) (ha : x.a = ((o + e.size - 1 : Nat) : Int)) (hb : x.b = ((o + e.size + f.size - 1 : Nat) : Int)) (hN : t.length ≤ 1048576) (IH : NodeC base g ta tc t e o (leftL x.op)) (IH2 : NodeC base g ta tc t f (o + e.size) (lev x.op + 1)) (n : Int) (hn : ¬ lev x.op < n) : NodeF base g ta tc t (.two x e f) o n := by
 intro s w h
 have hroot : o + (Ex.two x e f).size - 1 = o + e.size + f.size := by simp only [Ex.size]; omega
 rw [hroot]
 clear hroot
 have hres := nodeS_eq (.two x e f) n s
 rw [show (Ex.two x e f).top = x from rfl, if_neg hn] at hres
 have hbd := node_bd e (leftL x.op) s
 have hep := e.size_pos
 have hfp := f.size_pos
 have hbd2 := node_bd f (lev x.op + 1) ((nodeS e (leftL x.op) s).add [tk (sgn x.op)])
 obtain ⟨m, hm⟩ : ∃ m, m = t.length := ⟨_, rfl⟩
 unfold NodeC at IH IH2
 rw [← hm] at IH IH2 ⊢
 obtain ⟨hol, hxe⟩ := List.getElem?_eq_some_iff.1 hx
 obtain ⟨rt, hrt⟩ : ∃ rt, rt = o + e.size + f.size := ⟨_, rfl⟩
 have hom : (rt : Int) < m := by omega
 obtain ⟨b, off, rfl, e0, e1, e2, e3, e4, e5⟩ := (h.old w (Below.refl _ _)).2.at (o + e.size + f.size) hol
 rw [hxe] at e0 e1 e2 e3 e4 e5
 rw [← hrt] at e0 e1 e2 e3 e4 e5 ⊢
 have hsz : (Ex.two x e f).size = e.size + f.size + 1 := rfl
 rw [hsz] at h
 clear hxe hx hsz hol hrt
 have hfull := full_any base g s w h.wt
 obtain ⟨op, nn, var, attr, xa, xb⟩ := x
 dsimp only at e0 e1 e2 e3 e4 e5 h1 ha hb hn IH IH2 hbd hbd2
 subst ha hb
 rw [T] at e2 e3
 obtain ⟨ra, hra'⟩ : ∃ ra, ra = o + e.size - 1 := ⟨_, rfl⟩
 obtain ⟨rb, hrb'⟩ : ∃ rb, rb = o + e.size + f.size - 1 := ⟨_, rfl⟩
 rw [← hra'] at e4 IH hres ⊢
 rw [← hrb'] at e5 IH2 hres ⊢
 have HH := Lib.hid h
 have HRES := Lib.hid hres
 obtain ⟨wa, hwa⟩ : ∃ wa, wa = w.alloc (.cells #[.int .i64 op, .int .i64 nn, .string ⟨var.toArray⟩, .string ⟨attr.toArray⟩, .int .i64 (ra : Int), .int .i64 (rb : Int)] 102) := ⟨_, rfl⟩
 obtain ⟨ga, hga⟩ : ∃ ga, ga = w.heap.size := ⟨_, rfl⟩
 have hka : Blk wa ga 102 [.int .i64 op, .int .i64 nn, .string ⟨var.toArray⟩, .string ⟨attr.toArray⟩, .int .i64 (ra : Int), .int .i64 (rb : Int)] := by rw [hwa, hga]; exact Blk.new w _ 102
 have hra : Below w.heap.size w wa := by rw [hwa]; exact (Below.refl _ _).alloc (Nat.le_refl _) _
 have hoff : Off g ga wa := h.wt.off hra ga (by rw [hga]; exact Nat.le_refl _)
 have HPA := Lib.hid (WtP.of h.wt h.b hra)
 have HKA := Lib.hid hka
 have HOFF := Lib.hid hoff
 have hlda := (h.old wa HPA.out.2.1).1
 obtain ⟨lv, hlv⟩ : ∃ lv, lv = lev op := ⟨_, rfl⟩
 have HLV := Lib.hid hlv
 rw [← hlv] at IH2 hbd2
 obtain ⟨lf, hlf⟩ : ∃ lf, lf = leftL op := ⟨_, rfl⟩
 have hlf2 : lf = if lv = 4 then 5 else lv := by rw [hlf, hlv]; rfl
 have HLF := Lib.hid hlf
 have HLF2 := Lib.hid hlf2
 rw [← hlf] at IH hbd hbd2
 have HBD := Lib.hid hbd
 have HBD2 := Lib.hid hbd2
 have HIH := Lib.hid IH
 have HIH2 := Lib.hid IH2
 have hlv9 : lv ≤ 8 ∧ 0 ≤ lv := by rw [hlv]; exact lev_range op
 have hn' : decide (lv < n) = false := by rw [hlv]; simpa using hn
 have hn2 : ¬ lv < n := by rw [hlv]; exact hn
 have f0 := hka.ci 0 rfl
 obtain ⟨j, hj, hj1, hj2⟩ : ∃ j : Nat, op - 12 = j ∧ 2 ≤ j ∧ j < 15 := ⟨(op - 12).toNat, by omega, by omega, by omega⟩
 have hop : ¬ op < 12 := by omega
 have hop2 : ¬ op < 14 := by omega
 have hj0 : (0 : Int) ≤ j := by omega
 have hj3 : (j : Int) < 15 := by omega
 have HLDA := Lib.hid hlda
 have hsc := sgn_cell hlda op j hj hj2
 obtain ⟨sg, hsg⟩ : ∃ sg, sg = sgn op := ⟨_, rfl⟩
 rw [← hsg] at hsc
 have HSG := Lib.hid hsg
 obtain rfl : op = 12 + j := by omega
 have hs12 : 12 + (j : Int) - 12 = j := by omega
 have HSZ := Lib.hid (show m ≤ 1048576 by rw [hm]; exact hN)
 clear h hres hn hra hka hlv hsg IH hbd h1 hoff hra' hj hm hN IH2 hbd2 hlf hlf2 hrb'
 go_enter Tryz.func100, Tryz.ntmps100
 go_wp2_with fail
 refine hfull.mono ?_
 rintro e w' ⟨rfl, rfl⟩
 cases hf : s.full with
 | true =>
  go_wp2_with fail
  go_returns
  exact ⟨rfl, by rw [HRES.out, if_pos hf]; exact WtP.refl HH.out.wt⟩
 | false =>
  go_wp2_with fail
  rw [← hwa, ← hga]
  clear hwa hga
  refine (level_any (12 + (j : Int)) (by omega) wa hlda).mono ?_
  rintro e w2 ⟨rfl, rfl⟩
  rw [← HLV.out]
  clear e0 e1 e2 e3 e4 e5 hsc
  go_wp2_with fail
  refine (level_any (12 + (j : Int)) (by omega) w2 HLDA.out).mono ?_
  rintro e w3 ⟨rfl, rfl⟩
  rw [← HLV.out]
  have d4 := HKA.out.ci 4 rfl
  have HNH := Lib.hid (HH.out.step (k' := e.size) HPA.out (by have := HH.out.o1; omega) (by have := HH.out.o2; omega) HH.out.o3)
  have hcase : (lv = 4 ∧ lf = 5) ∨ (¬ lv = 4 ∧ lf = lv) := by
   rw [HLF2.out]
   by_cases h : lv = 4
   ·exact .inl ⟨h, if_pos h⟩
   ·exact .inr ⟨h, if_neg h⟩
  have h4' : ¬ lv = 4 → (lv == 4) = false := fun h => by simpa using h
  rcases hcase with ⟨rfl, rfl⟩ | ⟨h4, rfl⟩
  rotate_left
  ·have h5 := h4' h4
   clear h4' h4
   go_wp2_with fail
   refine (HIH.out s w3 HNH.out).mono ?_
   rintro e w4 ⟨rfl, hp4⟩
   obtain ⟨hk4, ho4⟩ := hp4.2.2.blk HKA.out HOFF.out
   have HP4 := Lib.hid (HPA.out.trans hp4)
   have d0 := hk4.ci 0 rfl
   have hld4 := (HH.out.old w4 HP4.out.2.1).1
   have hsc := sgn_cell hld4 (12 + (j : Int)) j (by omega) hj2
   rw [← HSG.out] at hsc
   have HK4 := Lib.hid hk4
   have HO4 := Lib.hid ho4
   clear hp4 hk4 ho4 hld4 d4
   go_wp2_with fail
   refine (mark_any' sg w4).mono ?_
   rintro e w5 ⟨rfl, hb5⟩
   have hb4 := Nat.le_trans HH.out.b HP4.out.2.1.size
   have hbA : Below w5.heap.size w5 (w5.alloc (.cells #[.int .i64 sg, .string ⟨#[]⟩, .int .i64 0, .int .i64 0] 138)) := (Below.refl _ _).alloc (Nat.le_refl _) _
   have hb6 := hb5.trans (hbA.mono hb5.size)
   have HR6 := Lib.hid (rd_one w5 (tk sg))
   obtain ⟨w6, hw6⟩ : ∃ w6, w6 = w5.alloc (.cells #[.int .i64 sg, .string ⟨#[]⟩, .int .i64 0, .int .i64 0] 138) := ⟨_, rfl⟩
   rw [← hw6] at hb6
   have HP6 := Lib.hid (HP4.out.trans (WtP.of HP4.out.1 hb4 hb6))
   have HK6 := Lib.hid (HK4.out.below hb6)
   have HO6 := Lib.hid (HO4.out.below HP4.out.1.lt hb6)
   have HR6 := Lib.hid (show Rd w6 (some ⟨w5.heap.size, 0, none⟩) (tkcs [tk sg]) by rw [hw6]; exact HR6.out)
   clear hb5 hbA hb6 d0 hsc hb4
   go_wp2_with fail
   rw [← hw6]
   clear hw6
   refine (add_any base g _ (some ⟨w5.heap.size, 0, none⟩) 1 1 [tk sg] w6 (Nat.le_trans HH.out.b HP6.out.2.1.size) HP6.out.1 rfl HR6.out (by have h1 := HBD.out.out; have := HH.out.o1; omega)).mono ?_
   rintro e w7 ⟨rfl, hp7⟩
   obtain ⟨hk7, ho7⟩ := hp7.2.2.blk HK6.out HO6.out
   have HP7 := Lib.hid (HP6.out.trans hp7)
   have d5 := hk7.ci 5 rfl
   have HNH7 := Lib.hid (HH.out.step (k' := f.size) HP7.out (by have h1 := HBD.out.out; have := HH.out.o1; simp only [S.add, List.length_append, List.length_cons, List.length_nil]; omega) (by have h1 := HBD.out.op; have := HH.out.o2; simp only [S.add]; omega) (by have h1 := HBD.out.deep; have := HH.out.o2; have := HH.out.o3; simp only [S.add]; omega))
   clear hp7 hk7 ho7
   go_wp2_with fail
   refine (HIH2.out _ w7 (by have h := HNH7.out; rw [HSG.out] at h; exact h)).mono ?_
   rintro e w8 ⟨rfl, hp8⟩
   have HP8 := Lib.hid (HP7.out.trans hp8)
   clear hp8
   go_wp2_with fail
   go_returns
   refine ⟨rfl, ?_⟩
   rw [HRES.out, if_neg (by rw [hf]; simp)]
   have h3 := HP8.out
   have hq : lev (12 + (j : Int)) = leftL (12 + (j : Int)) := HLV.out.symm.trans HLF.out
   rw [HLV.out] at h3
   show WtP base g (nodeS f (lev (12 + (j : Int)) + 1) ((nodeS e (leftL (12 + (j : Int))) s).add [tk (sgn (12 + (j : Int)))])) _ _
   rw [← hq]
   exact h3
  ·clear h4'
   go_wp2_with fail
   refine (HIH.out s w3 HNH.out).mono ?_
   rintro e w4 ⟨rfl, hp4⟩
   obtain ⟨hk4, ho4⟩ := hp4.2.2.blk HKA.out HOFF.out
   have HP4 := Lib.hid (HPA.out.trans hp4)
   have d0 := hk4.ci 0 rfl
   have hld4 := (HH.out.old w4 HP4.out.2.1).1
   have hsc := sgn_cell hld4 (12 + (j : Int)) j (by omega) hj2
   rw [← HSG.out] at hsc
   have HK4 := Lib.hid hk4
   have HO4 := Lib.hid ho4
   clear hp4 hk4 ho4 hld4 d4
   go_wp2_with fail
   refine (mark_any' sg w4).mono ?_
   rintro e w5 ⟨rfl, hb5⟩
   have hb4 := Nat.le_trans HH.out.b HP4.out.2.1.size
   have hbA : Below w5.heap.size w5 (w5.alloc (.cells #[.int .i64 sg, .string ⟨#[]⟩, .int .i64 0, .int .i64 0] 138)) := (Below.refl _ _).alloc (Nat.le_refl _) _
   have hb6 := hb5.trans (hbA.mono hb5.size)
   have HR6 := Lib.hid (rd_one w5 (tk sg))
   obtain ⟨w6, hw6⟩ : ∃ w6, w6 = w5.alloc (.cells #[.int .i64 sg, .string ⟨#[]⟩, .int .i64 0, .int .i64 0] 138) := ⟨_, rfl⟩
   rw [← hw6] at hb6
   have HP6 := Lib.hid (HP4.out.trans (WtP.of HP4.out.1 hb4 hb6))
   have HK6 := Lib.hid (HK4.out.below hb6)
   have HO6 := Lib.hid (HO4.out.below HP4.out.1.lt hb6)
   have HR6 := Lib.hid (show Rd w6 (some ⟨w5.heap.size, 0, none⟩) (tkcs [tk sg]) by rw [hw6]; exact HR6.out)
   clear hb5 hbA hb6 d0 hsc hb4
   go_wp2_with fail
   rw [← hw6]
   clear hw6
   refine (add_any base g _ (some ⟨w5.heap.size, 0, none⟩) 1 1 [tk sg] w6 (Nat.le_trans HH.out.b HP6.out.2.1.size) HP6.out.1 rfl HR6.out (by have h1 := HBD.out.out; have := HH.out.o1; omega)).mono ?_
   rintro e w7 ⟨rfl, hp7⟩
   obtain ⟨hk7, ho7⟩ := hp7.2.2.blk HK6.out HO6.out
   have HP7 := Lib.hid (HP6.out.trans hp7)
   have d5 := hk7.ci 5 rfl
   have HNH7 := Lib.hid (HH.out.step (k' := f.size) HP7.out (by have h1 := HBD.out.out; have := HH.out.o1; simp only [S.add, List.length_append, List.length_cons, List.length_nil]; omega) (by have h1 := HBD.out.op; have := HH.out.o2; simp only [S.add]; omega) (by have h1 := HBD.out.deep; have := HH.out.o2; have := HH.out.o3; simp only [S.add]; omega))
   clear hp7 hk7 ho7
   go_wp2_with fail
   refine (HIH2.out _ w7 (by have h := HNH7.out; rw [HSG.out] at h; exact h)).mono ?_
   rintro e w8 ⟨rfl, hp8⟩
   have HP8 := Lib.hid (HP7.out.trans hp8)
   clear hp8
   go_wp2_with fail
   go_returns
   refine ⟨rfl, ?_⟩
   rw [HRES.out, if_neg (by rw [hf]; simp)]
   have h3 := HP8.out
   rw [HLV.out, HLF.out] at h3
   exact h3
end Go.Proofs.YtfglgpbjjpoimaaGreatDoor
/- SaveEncodes: node: brackets; all of it. -/
set_option linter.unusedVariables false
namespace Go.Proofs.YtfglgpbjjpoimaaGreatDoor
open Go.RowKit Sv
theorem ok_top {e : Ex} (h : e.ok) : 1 ≤ e.top.op ∧ e.top.op ≤ 26 := by
 cases e with
 | leaf x => obtain ⟨h1, h2⟩ := h; exact ⟨h1, by show x.op ≤ 26; omega⟩
 | one x e => obtain ⟨h1, _⟩ := h; show 1 ≤ x.op ∧ x.op ≤ 26; omega
 | two x e f => obtain ⟨⟨h1, h2⟩, _⟩ := h; show 1 ≤ x.op ∧ x.op ≤ 26; omega
theorem NH.weak {base g : Nat} {ta : Option Addr} {t : List Nd} {s : S} {k : Nat} {w : World} (h : NH 0 base g ta t s k w) : NH 2 base g ta t s k w := ⟨h.b, h.wt, h.old, by have := h.o1; omega, by have := h.o2; omega, h.o3⟩
set_option maxHeartbeats 4000000 in
set_option maxRecDepth 20000 in
theorem node_brack (base g : Nat) (ta : Option Addr) (tc : Nat) (t : List Nd) (e : Ex) (o : Nat) (hs : Sh t o e) (hN : t.length ≤ 1048576) (IH : NodeF base g ta tc t e o 0) (n : Int) (hn : lev e.top.op < n) : NodeC base g ta tc t e o n := by
 intro s w h
 have hres := nodeS_eq e n s
 rw [if_pos hn] at hres
 have hres0 := nodeS_eq e 0 (s.enter (tk 3))
 rw [if_neg (show ¬ lev e.top.op < 0 by have := (lev_range e.top.op).2; omega)] at hres0
 have hbd := node_bd e 0 (s.enter (tk 3))
 have hep := e.size_pos
 obtain ⟨m, hm⟩ : ∃ m, m = t.length := ⟨_, rfl⟩
 unfold NodeF at IH
 rw [← hm] at IH ⊢
 have hx := hs.top
 have hto := ok_top hs.ok
 obtain ⟨hol, hxe⟩ := List.getElem?_eq_some_iff.1 hx
 obtain ⟨rt, hrt⟩ : ∃ rt, rt = o + e.size - 1 := ⟨_, rfl⟩
 have hom : (rt : Int) < m := by omega
 obtain ⟨b, off, rfl, e0, e1, e2, e3, e4, e5⟩ := (h.old w (Below.refl _ _)).2.at (o + e.size - 1) hol
 rw [hxe] at e0 e1 e2 e3 e4 e5
 rw [← hrt] at e0 e1 e2 e3 e4 e5 IH ⊢
 obtain ⟨x, hxx⟩ : ∃ x, x = e.top := ⟨_, rfl⟩
 rw [← hxx] at e0 e1 e2 e3 e4 e5 hto hn
 clear hxe hx hol hrt hxx
 have hfull := full_any base g s w h.wt
 obtain ⟨op, nn, var, attr, xa, xb⟩ := x
 dsimp only at e0 e1 e2 e3 e4 e5 hto hn
 rw [T] at e2 e3
 have HH := Lib.hid h
 have HBD := Lib.hid hbd
 have HRES := Lib.hid hres
 have HRES0 := Lib.hid hres0
 have HIH := Lib.hid IH
 obtain ⟨wa, hwa⟩ : ∃ wa, wa = w.alloc (.cells #[.int .i64 op, .int .i64 nn, .string ⟨var.toArray⟩, .string ⟨attr.toArray⟩, .int .i64 xa, .int .i64 xb] 102) := ⟨_, rfl⟩
 obtain ⟨ga, hga⟩ : ∃ ga, ga = w.heap.size := ⟨_, rfl⟩
 have hka : Blk wa ga 102 [.int .i64 op, .int .i64 nn, .string ⟨var.toArray⟩, .string ⟨attr.toArray⟩, .int .i64 xa, .int .i64 xb] := by rw [hwa, hga]; exact Blk.new w _ 102
 have hra : Below w.heap.size w wa := by rw [hwa]; exact (Below.refl _ _).alloc (Nat.le_refl _) _
 have HPA := Lib.hid (WtP.of h.wt h.b hra)
 have hlda := (h.old wa HPA.out.2.1).1
 obtain ⟨lv, hlv⟩ : ∃ lv, lv = lev op := ⟨_, rfl⟩
 have HLV := Lib.hid hlv
 have hn' : lv < n := by rw [hlv]; exact hn
 have f0 := hka.ci 0 rfl
 have ho26 := hto.2
 clear h hres hres0 hn hra hka hlv IH hbd hm hN hto hs
 go_enter Tryz.func100, Tryz.ntmps100
 go_wp2_with fail
 refine hfull.mono ?_
 rintro e w' ⟨rfl, rfl⟩
 cases hf : s.full with
 | true =>
  go_wp2_with fail
  go_returns
  exact ⟨rfl, by rw [HRES.out, if_pos hf]; exact WtP.refl HH.out.wt⟩
 | false =>
  go_wp2_with fail
  rw [← hwa, ← hga]
  clear hwa hga
  refine (level_any op ho26 wa hlda).mono ?_
  rintro e w2 ⟨rfl, rfl⟩
  rw [← HLV.out]
  clear e0 e1 e2 e3 e4 e5 f0
  go_wp2_with fail
  refine (mark_any' 3 w2).mono ?_
  rintro e w3 ⟨rfl, hb3⟩
  have HP3 := Lib.hid (HPA.out.trans (WtP.of HPA.out.1 (Nat.le_trans HH.out.b HPA.out.2.1.size) hb3))
  clear hb3
  go_wp2_with fail
  refine (enter_any base g s (tk 3) w3 (Nat.le_trans HH.out.b HP3.out.2.1.size) HP3.out.1 (by have h1 := HH.out.o1; have h2 := HH.out.o2; have h3 := HH.out.o3; omega)).mono ?_
  rintro e w4 ⟨rfl, hp4⟩
  have HP4 := Lib.hid (HP3.out.trans hp4)
  clear hp4
  go_wp2_with fail
  refine (HIH.out (s.enter (tk 3)) w4 ⟨Nat.le_trans HH.out.b HP4.out.2.1.size, HP4.out.1, fun w' hb => HH.out.old w' (HP4.out.2.1.trans hb), by have := HH.out.o1; simp only [S.enter, List.length_append, List.length_cons, List.length_nil]; omega, by have := HH.out.o2; simp only [S.enter]; omega, by have := HH.out.o2; have := HH.out.o3; simp only [S.enter]; omega⟩).mono ?_
  rintro e w5 ⟨rfl, hp5⟩
  have HP5 := Lib.hid (HP4.out.trans hp5)
  clear hp5
  go_wp2_with fail
  refine (mark_any' 4 w5).mono ?_
  rintro e w6 ⟨rfl, hb6⟩
  have hb5 := Nat.le_trans HH.out.b HP5.out.2.1.size
  have hbA : Below w6.heap.size w6 (w6.alloc (.cells #[.int .i64 4, .string ⟨#[]⟩, .int .i64 0, .int .i64 0] 138)) := (Below.refl _ _).alloc (Nat.le_refl _) _
  have hb7 := hb6.trans (hbA.mono hb6.size)
  have HR6 := Lib.hid (rd_one w6 (tk 4))
  obtain ⟨w7, hw7⟩ : ∃ w7, w7 = w6.alloc (.cells #[.int .i64 4, .string ⟨#[]⟩, .int .i64 0, .int .i64 0] 138) := ⟨_, rfl⟩
  rw [← hw7] at hb7
  have HP7 := Lib.hid (HP5.out.trans (WtP.of HP5.out.1 hb5 hb7))
  have HR7 := Lib.hid (show Rd w7 (some ⟨w6.heap.size, 0, none⟩) (tkcs [tk 4]) by rw [hw7]; exact HR6.out)
  clear hb6 hbA hb7 hb5
  go_wp2_with fail
  rw [← hw7]
  clear hw7
  refine (leave_any base g _ (some ⟨w6.heap.size, 0, none⟩) 1 1 [tk 4] w7 (Nat.le_trans HH.out.b HP7.out.2.1.size) HP7.out.1 rfl HR7.out (by have h1 := HBD.out.out; have := HH.out.o1; simp only [S.enter, List.length_append, List.length_cons, List.length_nil] at h1 ⊢; omega) (by have h1 := HBD.out.op; simp only [S.enter] at h1 ⊢; omega) (by have h1 := HBD.out.op; have := HH.out.o2; simp only [S.enter] at h1 ⊢; omega)).mono ?_
  rintro e w8 ⟨rfl, hp8⟩
  have HP8 := Lib.hid (HP7.out.trans hp8)
  clear hp8
  go_wp2_with fail
  go_returns
  refine ⟨rfl, ?_⟩
  rw [HRES.out, if_neg (by rw [hf]; simp)]
  have h3 := HP8.out
  rw [HRES0.out] at h3
  exact h3
theorem node_of {base g : Nat} {ta : Option Addr} {tc : Nat} {t : List Nd} {e : Ex} {o : Nat} (hs : Sh t o e) (hN : t.length ≤ 1048576) (flat : ∀ n, ¬ lev e.top.op < n → NodeF base g ta tc t e o n) (n : Int) : NodeC base g ta tc t e o n := by
 by_cases hn : lev e.top.op < n
 ·exact node_brack base g ta tc t e o hs hN (flat 0 (by have := (lev_range e.top.op).2; omega)) n hn
 ·intro s w h
  exact flat n hn s w h.weak
theorem ops0 {o : Int} (h : opsP o = 0) : 1 ≤ o ∧ o ≤ 11 := by
 unfold opsP at h
 split at h
 ·assumption
 ·split at h
  ·cases h
  ·split at h <;> cases h
theorem ops1 {o : Int} (h : opsP o = 1) : o = 12 ∨ o = 13 := by
 unfold opsP at h
 split at h
 ·cases h
 ·split at h
  ·assumption
  ·split at h <;> cases h
theorem ops2 {o : Int} (h : opsP o = 2) : 14 ≤ o ∧ o ≤ 26 := by
 unfold opsP at h
 split at h
 ·cases h
 ·split at h
  ·cases h
  ·split at h
   ·assumption
   ·cases h
theorem node_all {base g : Nat} {ta : Option Addr} {tc : Nat} {t : List Nd} (hN : t.length ≤ 1048576) {e : Ex} {o : Nat} (hs : Sh t o e) : ∀ n, NodeC base g ta tc t e o n := by
 induction hs with
 | leaf h hop ha hb =>
  exact node_of (.leaf h hop ha hb) hN fun n hn => node_leaf base g ta tc t _ _ h (ops0 hop).1 (ops0 hop).2 hN n hn
 | one he h hop ha hb ih =>
  exact node_of (.one he h hop ha hb) hN fun n hn => node_one base g ta tc t _ _ _ h (ops1 hop) ha hN (ih _) n hn
 | two he hf h hop ha hb ih1 ih2 =>
  exact node_of (.two he hf h hop ha hb) hN fun n hn => node_two base g ta tc t _ _ _ _ h (ops2 hop) ha hb hN (ih1 _) (ih2 _) n hn
end Go.Proofs.YtfglgpbjjpoimaaGreatDoor
/- SaveEncodes: tree. -/
set_option linter.unusedVariables false
namespace Go.Proofs.YtfglgpbjjpoimaaGreatDoor
open Go.RowKit Sv
theorem add_after (base g : Nat) (s : S) (l : List Tk) (cs : List Value) (k : Nat) (w w1 : World) (hb : base ≤ w.heap.size) (h : Wt base g s w) (hb1 : Below w.heap.size w w1) (hcs : cs = tkcs l) (hk : l.length = k) (hN : s.out.length + k ≤ 100000000) :
  Calls Tryz.prog 61 #[.pointer (some ⟨g, 0, none⟩), .slice (some ⟨w1.heap.size, 0, none⟩) k k] (w1.alloc (.cells cs.toArray 138)) fun e w' => e = .returned (.tuple #[]) ∧ WtP base g (s.add l) w w' := by
 subst hcs
 have hbA : Below w1.heap.size w1 (w1.alloc (.cells (tkcs l).toArray 138)) := (Below.refl _ _).alloc (Nat.le_refl _) _
 have hb2 := hb1.trans (hbA.mono hb1.size)
 have hp := WtP.of h hb hb2
 have hr : Rd (w1.alloc (.cells (tkcs l).toArray 138)) (some ⟨w1.heap.size, 0, none⟩) (tkcs l) := by
  have := rd_new w1 (tkcs l).toArray 138
  simpa using this
 refine (add_any base g s _ k k l _ (Nat.le_trans hb hb2.size) hp.1 hk hr hN).mono ?_
 rintro e w' ⟨rfl, hp2⟩
 exact ⟨rfl, hp.trans hp2⟩
def lenAt (w : World) (g : Nat) : Nat := match w.cell? ⟨g, 0, none⟩ with | some (.slice _ n _) => n | _ => 0
theorem Wt.len {base g : Nat} {s : S} {w : World} (h : Wt base g s w) : lenAt w g = s.out.length := by
 obtain ⟨_, a, c, hk, _⟩ := h
 unfold lenAt
 rw [hk.ci 0 rfl]
theorem fill_full {s : S} (h : s.full = true) : ∀ k, fillS k s = s := by
 intro k
 cases k with
 | zero => rfl
 | succ k => unfold fillS; rw [if_pos h]
theorem fill_bd : ∀ (k : Nat) (s : S), (fillS k s).out.length ≤ max s.out.length 401 ∧ (fillS k s).op = s.op ∧ (fillS k s).deep = s.deep := by
 intro k
 induction k with
 | zero => intro s; exact ⟨by simp only [fillS]; omega, rfl, rfl⟩
 | succ k ih =>
  intro s
  unfold fillS
  split
  ·exact ⟨by omega, rfl, rfl⟩
  ·rename_i hf
   have h := ih (s.add [num 0])
   rw [S.full_iff] at hf
   refine ⟨?_, h.2.1, h.2.2⟩
   have := h.1
   simp only [S.add, List.length_append, List.length_cons, List.length_nil] at this
   simp only [S.add]
   omega
theorem tree_bd (e : Ex) (s : S) : (treeS e s).out.length ≤ max s.out.length 401 + 8 * e.size ∧ (treeS e s).op = s.op ∧ (treeS e s).deep ≤ max s.deep (s.op + 2 * e.size) := by
 unfold treeS
 have h := node_bd e 0 (if 400 < e.size then fillS 401 s else s)
 have h1 := h.out
 have h2 := h.op
 have h3 := h.deep
 have h4 := fill_bd 401 s
 split at h1 <;> split <;> first | (exfalso; omega) | skip
 ·rename_i q _
  rw [if_pos q] at h2 h3
  rw [h4.2.1] at h2 h3
  rw [h4.2.2] at h3
  exact ⟨by omega, h2, h3⟩
 ·rename_i q _
  rw [if_neg q] at h2 h3
  exact ⟨by omega, h2, h3⟩
set_option maxHeartbeats 2000000 in
set_option maxRecDepth 20000 in
theorem wtree_any (base g : Nat) (ta : Option Addr) (tc n : Nat) (t : List Nd) (e : Ex) (hs : Sh t 0 e) (hsz : e.size = t.length) (hn : t.length = n) (hN : n ≤ 1048576) (s : S) (w : World) (hb : base ≤ w.heap.size) (h : Wt base g s w)
  (old : ∀ w', Below base w w' → Ld w' ∧ RdN w' ta t) (o1 : s.out.length ≤ 1000000) (o2 : s.op = 0) (o3 : s.deep ≤ 10000000) :
  Calls Tryz.prog 65 #[.pointer (some ⟨g, 0, none⟩), .slice ta n tc] w (NodeR base g (treeS e s) w) := by
 have hnode := node_all (base := base) (g := g) (ta := ta) (tc := tc) (by rw [hn]; exact hN) hs 0
 unfold NodeC at hnode
 rw [hn, Nat.zero_add, hsz, hn] at hnode
 have HNODE := Lib.hid hnode
 have hpos : 1 ≤ n := by have := e.size_pos; omega
 have HOLD := Lib.hid old
 have HW := Lib.hid h
 have HT := Lib.hid (show treeS e s = nodeS e 0 (if 400 < n then fillS 401 s else s) by unfold treeS; rw [hsz, hn])
 have HOP := Lib.hid o2
 have hn1 : (n : Int) - 1 = ((n - 1 : Nat) : Int) := by omega
 clear hnode hs hsz hn old h o2
 by_cases hbig : 400 < n
 ·have hbig' : (400 : Int) < n := by omega
  have HB := Lib.hid hbig
  clear hbig
  go_enter Tryz.func65, Tryz.ntmps65
  go_wp2_with fail
  go_loopw [] (fun wr => ∃ (s' : S) (j : Nat), fillS 401 s = fillS j s' ∧ 401 ≤ s'.out.length + j ∧ WtP base g s' w wr ∧ s'.out.length ≤ max s.out.length 401) (fun wr => 401 - lenAt wr g)
  case atStart => exact ⟨s, 401, rfl, by omega, WtP.refl HW.out, by omega⟩
  case round =>
   obtain ⟨s', j, hfl, hj, hp, hlen⟩ := hrel
   have HP := Lib.hid hp
   have HFL := Lib.hid hfl
   have HJ := Lib.hid hj
   have HLEN := Lib.hid hlen
   have hfull := full_any base g s' wr hp.1
   clear hp hfl hj hlen
   go_wp2_with fail
   refine hfull.mono ?_
   rintro e' w' ⟨rfl, rfl⟩
   cases hf : s'.full with
   | true =>
    have HF := Lib.hid hf
    clear hf hfull
    have HNH := Lib.hid (show Wt base g (fillS 401 s) w' by rw [HFL.out, fill_full HF.out]; exact HP.out.1)
    have hbd := fill_bd 401 s
    go_wp2_with fail
    refine (HNODE.out (fillS 401 s) w' ⟨Nat.le_trans hb HP.out.2.1.size, HNH.out, fun w2 h2 => HOLD.out w2 (HP.out.2.1.trans h2), by have := hbd.1; omega, by rw [hbd.2.1, HOP.out]; omega, by rw [hbd.2.2]; exact o3⟩).mono ?_
    rintro e' w2 ⟨rfl, hp2⟩
    have HP2 := Lib.hid (HP.out.trans hp2)
    clear hp2 hbd
    go_wp2_with fail
    go_returns
    exact ⟨rfl, by rw [HT.out, if_pos HB.out]; exact HP2.out⟩
   | false =>
    have HF := Lib.hid hf
    have hle : s'.out.length ≤ 400 := by
     have : ¬ s'.full = true := by rw [hf]; simp
     rw [S.full_iff] at this
     omega
    clear hf hfull
    go_wp2_with fail
    refine (number_any' 0 w').mono ?_
    rintro e' w1 ⟨rfl, hb1⟩
    have HB1 := Lib.hid hb1
    clear hb1
    go_wp2_with fail
    refine (add_after base g s' [num 0] [.int .i64 2, .string ⟨#[]⟩, .int .i64 0, .int .i64 0] 1 w' w1 (Nat.le_trans hb HP.out.2.1.size) HP.out.1 HB1.out rfl rfl (by omega)).mono ?_
    rintro e' w2 ⟨rfl, hp2⟩
    have HP2 := Lib.hid hp2
    clear hp2
    go_wp2_with fail
    go_roundw
    case rel => exact ⟨s'.add [num 0], j - 1, by
     rw [HFL.out]
     have hj := HJ.out
     obtain ⟨i, rfl⟩ : ∃ i, j = i + 1 := ⟨j - 1, by omega⟩
     rw [fillS, if_neg (by rw [HF.out]; simp), Nat.add_sub_cancel], by have hj := HJ.out; simp only [S.add, List.length_append, List.length_cons, List.length_nil]; omega, HP.out.trans HP2.out, by simp only [S.add, List.length_append, List.length_cons, List.length_nil]; omega⟩
    case measure =>
     rw [HP2.out.1.len, HP.out.1.len]
     simp only [S.add, List.length_append, List.length_cons, List.length_nil]
     omega
 ·have hbig' : ¬ (400 : Int) < n := by omega
  have HB := Lib.hid hbig
  clear hbig
  go_enter Tryz.func65, Tryz.ntmps65
  go_wp2_with fail
  refine (HNODE.out s w ⟨hb, HW.out, HOLD.out, by omega, by rw [HOP.out]; omega, o3⟩).mono ?_
  rintro e' w2 ⟨rfl, hp2⟩
  have HP2 := Lib.hid hp2
  clear hp2
  go_wp2_with fail
  go_returns
  exact ⟨rfl, by rw [HT.out, if_neg HB.out]; exact HP2.out⟩
end Go.Proofs.YtfglgpbjjpoimaaGreatDoor
