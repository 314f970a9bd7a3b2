/- SaveEncodes: lex.Join; leaf. -/
import Derived.Test.YtfglgpbjjpoimaaGreatDoorSwGH
import Derived.Lib.ItoaLen
set_option linter.unusedVariables false
namespace Go.Proofs.YtfglgpbjjpoimaaGreatDoor
open Go.RowKit Sv
theorem joinT_step (fmt : Int → Str) (l : List Tk) (k : Nat) (h : k < l.length) : joinT fmt (l.take (k + 1)) = (if k = 0 then [] else joinT fmt (l.take k) ++ [32]) ++ spell fmt l[k] := by
 rw [take_snoc l k h]
 by_cases h0 : k = 0
 ·subst h0
  rw [if_pos rfl]
  rfl
 ·rw [if_neg h0, joinT_append fmt _ _ (fun e => h0 (by
   have h2 : (l.take k).length = k := by rw [List.length_take]; omega
   rw [e] at h2
   exact h2.symm)) (by simp)]
  simp [joinT]
theorem joinT_le (fmt : Int → Str) (l : List Tk) (N : Nat) (h : ∀ t ∈ l, (spell fmt t).length ≤ N) : ∀ k, k ≤ l.length → (joinT fmt (l.take k)).length ≤ k * (N + 1) := by
 intro k
 induction k with
 | zero => intro _; simp [joinT]
 | succ k ih =>
  intro hk
  have h1 := ih (by omega)
  rw [joinT_step fmt l k (by omega), List.length_append]
  have h2 := h l[k] (List.getElem_mem (by omega))
  rw [Nat.succ_mul]
  split
  ·simp; omega
  ·simp only [List.length_append, List.length_cons, List.length_nil]; omega
/-- An own row of bytes, some cells. -/
def OwnB (w : World) (base : Nat) (v : Value) (l : Str) : Prop := ∃ a c, v = .slice a l.length c ∧ w.ownsRow base 5 1 (.slice a l.length c) l.length (l.map B)
set_option maxHeartbeats 2000000 in
set_option maxRecDepth 20000 in
theorem lexJoin_any (a : Option Addr) (c n : Nat) (l : List Tk) (w : World) (hn : l.length = n) (hN : n ≤ 1000) (hl : Ld w) (hr : Rd w a (tkcs l)) (hok : ∀ t ∈ l, TkOK t) (hs : ∀ t ∈ l, (spell fmtI t).length ≤ 100) (hne : joinT fmtI l ≠ []) :
  Calls Tryz.prog 101 #[.slice a n c] w fun e w' => e = .returned (.string ⟨(joinT fmtI l).toArray⟩) ∧ Below w.heap.size w w' := by
 obtain ⟨i0, hi9, hz9, hs9, hy9⟩ := info_parts info5
 have hi0 := Lib.hid hi9
 have hz0 := Lib.hid hz9
 have hs0 := Lib.hid hs9
 have hy0 := Lib.hid hy9
 have HN := Lib.hid hn
 have HL := Lib.hid hl
 have HR := Lib.hid hr
 have HOK := Lib.hid hok
 have HS := Lib.hid hs
 have HNE := Lib.hid hne
 clear hi9 hz9 hs9 hy9 hn hl hr hok hs hne
 go_enter Tryz.func101, Tryz.ntmps101
 go_wp2_with fail
 go_loopw [8, 3] (fun i v wr => ∃ (k m : Nat) (a' : Option Addr) (c' : Nat), k ≤ n ∧ i = .int .i64 (k : Int) ∧ v = .slice a' m c' ∧ (joinT fmtI (l.take k)).length = m ∧ wr.ownsRow w.heap.size 5 1 (.slice a' m c') m ((joinT fmtI (l.take k)).map B) ∧ Below w.heap.size w wr) (fun i _ _ => n - (intOf i).toNat)
 case atStart => exact ⟨0, 0, none, 0, Nat.zero_le _, rfl, rfl, rfl, World.ownsRow_nil _ _ _ _, Below.refl _ _⟩
 case round =>
  obtain ⟨k, m, a', c', hkn, rfl, rfl, hm, hown, hbw⟩ := hrel
  have HBW := Lib.hid hbw
  have HM := Lib.hid hm
  by_cases hlt : k < n
  ·have hkl : k < l.length := by rw [HN.out]; exact hlt
   have hlt' : (k : Int) < n := by omega
   obtain ⟨b, off, rfl, hp⟩ := Rd.piece (f := tkc) (n := 4) (fun _ => rfl) (HR.out.below hbw) k hkl (by omega)
   have e0 := hp 0 (by omega)
   have e1 := hp 1 (by omega)
   have e2 := hp 2 (by omega)
   have e3 := hp 3 (by omega)
   have hst := joinT_step fmtI l k hkl
   have hml := joinT_le fmtI l 100 HS.out k (Nat.le_of_lt hkl)
   rw [hm] at hml
   have hm2 : m ≤ 1000 * 101 := Nat.le_trans hml (Nat.mul_le_mul_right _ (by omega))
   have hso := HS.out _ (List.getElem_mem hkl)
   have hto := HOK.out _ (List.getElem_mem hkl)
   obtain ⟨t, ht⟩ : ∃ t, t = l[k] := ⟨_, rfl⟩
   rw [← ht] at hst hso hto
   simp only [tkc, List.getElem_cons_zero, List.getElem_cons_succ, ← ht, Nat.add_zero] at e0 e1 e2 e3
   obtain ⟨K, text, nn⟩ := t
   dsimp only at e0 e1 e2 e3
   rw [T] at e1
   have HST := Lib.hid hst
   have HSO := Lib.hid hso
   have HTO := Lib.hid hto
   have HOWN := Lib.hid hown
   have HME := Lib.hid (meas_lt hlt)
   have HKS := Lib.hid (show k + 1 ≤ n from hlt)
   obtain ⟨wa, hwa⟩ : ∃ wa, wa = wr.alloc (.cells #[.int .i64 K, .string ⟨text.toArray⟩, .int .i64 nn, .int .i64 0] 138) := ⟨_, rfl⟩
   obtain ⟨ga, hga⟩ : ∃ ga, ga = wr.heap.size := ⟨_, rfl⟩
   have hka : Blk wa ga 138 [.int .i64 K, .string ⟨text.toArray⟩, .int .i64 nn, .int .i64 0] := by rw [hwa, hga]; exact Blk.new wr _ 138
   have hra : Below wr.heap.size wr wa := by rw [hwa]; exact (Below.refl _ _).alloc (Nat.le_refl _) _
   have HBA := Lib.hid (hbw.trans (hra.mono hbw.size))
   have HKA := Lib.hid hka
   have howa := ownsRow_below hown hra
   have HOA := Lib.hid howa
   have HGA := Lib.hid (show ∀ k, (Value.slice a' m c').ownBlock = some k → k ≠ ga from fun k hk => by
    have := (hown.lt k hk).2
    omega)
   have hbs := HBA.out.size
   have c0 := hka.ci 0 rfl
   have c1 := hka.ci 1 rfl
   have c2 := hka.ci 2 rfl
   have c3 := hka.ci 3 rfl
   clear hst hso hto hml hown hbw hra hp ht hm
   by_cases hk0 : k = 0
   ·have hk0' : ¬ (0 : Int) < k := by omega
    have HK0 := Lib.hid hk0
    clear hk0
    go_wp2_with fail
    rw [← hwa, ← hga]
    clear hwa hga
    refine (spell_any ⟨K, text, nn⟩ wa (HL.out.below HBA.out) HTO.out).mono ?_
    rintro e w3 ⟨rfl, hb3⟩
    obtain ⟨sp, hsp⟩ : ∃ sp, sp = spell fmtI ⟨K, text, nn⟩ := ⟨_, rfl⟩
    have hspl : sp.length ≤ 100 := by rw [hsp]; exact HSO.out
    have HSP := Lib.hid hsp
    rw [← hsp]
    have HO3 := Lib.hid (ownsRow_below HOA.out hb3)
    have HB3 := Lib.hid (HBA.out.trans (hb3.mono HBA.out.size))
    have hbs3 := HB3.out.size
    clear hsp hb3 howa c0 c1 c2 c3
    go_wp2_with (first | (at_builtin; refine Lib.wpList_append_own_string w3 rfl _ _ 39 9 rfl w.heap.size 5 i0 Tryz.underlying39 Tryz.underlying9 hi0.out hz0.out hs0.out hy0.out (.slice a' m c') (m) ((joinT fmtI (l.take k)).map B) rfl HO3.out ⟨sp.toArray⟩ rfl (by unfold maxLen; rw [lit_size, List.size_toArray]; omega) (by rw [lit_size, List.size_toArray]; omega) hbs3 ?_; intro v4 w4 ho4 hg4 hn4; (obtain ⟨a4, c4, rfl⟩ := ownsRow_shape ho4); (have HO4 := Lib.hid ho4); (have HG4 := Lib.hid hg4); clear ho4 hg4 hn4) | fail)
    go_roundw
    case rel => exact ⟨k + 1, m + sp.length, a4, c4, HKS.out, by go_num, rfl, by rw [HST.out, if_pos HK0.out, List.nil_append, ← HSP.out]; have h0 := HM.out; rw [HK0.out] at h0; simp [joinT] at h0; omega, by
     have h1 := HO4.out
     have h0 := HM.out
     rw [HK0.out] at h0
     simp [joinT] at h0
     rw [HST.out, if_pos HK0.out, List.nil_append, ← HSP.out]
     rw [HK0.out] at h1
     simp only [joinT, List.map_nil, List.nil_append, List.take_zero, lit_size, List.size_toArray] at h1
     exact h1, (HB3.out).grown HG4.out hbs3 (fun k hk => (HO3.out.lt k hk).1)⟩
    case measure => exact HME.out
   ·have hk0' : (0 : Int) < k := by omega
    have HK0 := Lib.hid hk0
    clear hk0
    have how := (HOWN.out.alloc (.cells #[.int .i64 K, .string ⟨text.toArray⟩, .int .i64 nn, .int .i64 0] 138)).alloc (.cells #[.int .u8 32] 5)
    have hbs2 : w.heap.size ≤ ((wr.alloc (.cells #[.int .i64 K, .string ⟨text.toArray⟩, .int .i64 nn, .int .i64 0] 138)).alloc (.cells #[.int .u8 32] 5)).heap.size := by rw [← hwa]; simp; omega
    have hrd2 : Rd ((wr.alloc (.cells #[.int .i64 K, .string ⟨text.toArray⟩, .int .i64 nn, .int .i64 0] 138)).alloc (.cells #[.int .u8 32] 5)) (some ⟨wr.heap.size + 1, 0, none⟩) [.int .u8 32] := by
     have := rd_new (wr.alloc (.cells #[.int .i64 K, .string ⟨text.toArray⟩, .int .i64 nn, .int .i64 0] 138)) #[.int .u8 32] 5
     simpa using this
    have HBA2 := Lib.hid (show Below w.heap.size w (wa.alloc (.cells #[.int .u8 32] 5)) from HBA.out.alloc HBA.out.size _)
    go_wp2_with (first | (at_builtin; refine wpList_append_rd ((wr.alloc (.cells #[.int .i64 K, .string ⟨text.toArray⟩, .int .i64 nn, .int .i64 0] 138)).alloc (.cells #[.int .u8 32] 5)) rfl _ _ 39 rfl w.heap.size 5 i0 _ 1 1 Tryz.underlying39 hi0.out hz0.out hs0.out hy0.out rfl (by decide) (.slice a' m c') m ((joinT fmtI (l.take k)).map B) rfl how (some ⟨wr.heap.size + 1, 0, none⟩) 1 1 [.int .u8 32] rfl rfl hrd2 (by intro z hz; simp at hz; subst hz; rfl) (by unfold maxLen; omega) (by omega) hbs2 ?_; intro a2 c2' w2 ho2 hb2 hm2; rw [← hwa] at hb2 hm2; (have hk2 := (HKA.out.alloc (.cells #[.int .u8 32] 5)).kept hm2.grown (fun e => HGA.out _ e.symm rfl)); (have d0 := hk2.ci 0 rfl); (have d1 := hk2.ci 1 rfl); (have d2 := hk2.ci 2 rfl); (have d3 := hk2.ci 3 rfl); (have HO2 := Lib.hid ho2); (have HB2 := Lib.hid (HBA2.out.trans hb2)); rw [hga] at d0 d1 d2 d3; clear hk2 ho2 hb2 hm2 c0 c1 c2 c3 how hbs2 hrd2 howa) | fail)
    clear hwa hga
    refine (spell_any ⟨K, text, nn⟩ w2 (HL.out.below HB2.out) HTO.out).mono ?_
    rintro e w3 ⟨rfl, hb3⟩
    obtain ⟨sp, hsp⟩ : ∃ sp, sp = spell fmtI ⟨K, text, nn⟩ := ⟨_, rfl⟩
    have hspl : sp.length ≤ 100 := by rw [hsp]; exact HSO.out
    have HSP := Lib.hid hsp
    rw [← hsp]
    have HO3 := Lib.hid (ownsRow_below HO2.out hb3)
    have HB3 := Lib.hid (HB2.out.trans (hb3.mono HB2.out.size))
    have hbs3 := HB3.out.size
    clear hsp hb3
    go_wp2_with (first | (at_builtin; refine Lib.wpList_append_own_string w3 rfl _ _ 39 9 rfl w.heap.size 5 i0 Tryz.underlying39 Tryz.underlying9 hi0.out hz0.out hs0.out hy0.out (.slice a2 (m + 1) c2') (m + 1) ((joinT fmtI (l.take k)).map B ++ [.int .u8 32]) rfl HO3.out ⟨sp.toArray⟩ rfl (by unfold maxLen; rw [lit_size, List.size_toArray]; omega) (by rw [lit_size, List.size_toArray]; omega) hbs3 ?_; intro v4 w4 ho4 hg4 hn4; (obtain ⟨a4, c4, rfl⟩ := ownsRow_shape ho4); (have HO4 := Lib.hid ho4); (have HG4 := Lib.hid hg4); clear ho4 hg4 hn4) | fail)
    go_roundw
    case rel => exact ⟨k + 1, m + 1 + sp.length, a4, c4, HKS.out, by go_num, rfl, by rw [HST.out, if_neg HK0.out, ← HSP.out]; have h0 := HM.out; simp only [List.length_append, List.length_cons, List.length_nil]; omega, by
     have h1 := HO4.out
     rw [HST.out, if_neg HK0.out, ← HSP.out, List.map_append, List.map_append]
     simp only [lit_size, List.size_toArray] at h1
     exact h1, (HB3.out).grown HG4.out hbs3 (fun k hk => (HO3.out.lt k hk).1)⟩
    case measure => exact HME.out
  ·have hk' : ¬ (k : Int) < n := by omega
   have hall : l.take k = l := List.take_of_length_le (by rw [HN.out]; omega)
   rw [hall] at hown hm
   have hpos : 0 < m := by rw [← hm]; exact List.length_pos_iff.2 HNE.out
   obtain ⟨g, rfl⟩ : ∃ g, a' = some ⟨g, 0, none⟩ := by
    rcases hown.2 with ⟨h1, h2⟩ | ⟨g, cap, cur, h1, _⟩
    ·omega
    ·cases h1; exact ⟨g, rfl⟩
   have hconv := run_convert_bytes_back (P := Tryz.prog) wr 39 9 5 ⟨g, 0, none⟩ c' (joinT fmtI l) Tryz.underlying39 Tryz.underlying5 Tryz.underlying9 (fun j hj => by
    have h1 := hown.cellAt j (by omega)
    rw [Addr.add_lit, Nat.zero_add, h1]
    simp [hj, B])
   rw [hm] at hconv
   clear hown hbw hm hall
   go_wp2_with fail
   go_ret
   exact ⟨rfl, HBW.out⟩
end Go.Proofs.YtfglgpbjjpoimaaGreatDoor
/- SaveEncodes: leaf. -/
set_option linter.unusedVariables false
namespace Go.Proofs.YtfglgpbjjpoimaaGreatDoor
open Go.RowKit Sv
def LeafP (x : Nd) (w : World) (e : Ending) (w' : World) : Prop := ∃ a c m, e = .returned (.slice a m c) ∧ (leafT x).length = m ∧ Rd w' a (tkcs (leafT x)) ∧ Below w.heap.size w w'
theorem leaf_fin {x : Nd} {w W : World} {cs : List Value} {m : Nat} (hb : Below w.heap.size w W) (hm : (leafT x).length = m) (hcs : cs = tkcs (leafT x)) :
  LeafP x w (.returned (.slice (some ⟨W.heap.size, 0, none⟩) m m)) (W.alloc (.cells cs.toArray 138)) := by
 subst hcs
 exact ⟨_, _, _, rfl, hm, by simpa using rd_new W (tkcs (leafT x)).toArray 138, hb.alloc hb.size _⟩
set_option maxHeartbeats 2000000 in
set_option maxRecDepth 20000 in
theorem leaf_any (x : Nd) (w : World) (h1 : 1 ≤ x.op) (h2 : x.op ≤ 11) : Calls Tryz.prog 121 #[.agg (ndc x).toArray] w (LeafP x w) := by
 obtain ⟨op, n, var, attr, a, b⟩ := x
 dsimp only at h1 h2
 simp only [ndc, T]
 obtain ⟨w0, hw0⟩ : ∃ w0, w0 = w.alloc (.cells #[.int .i64 op, .int .i64 n, .string ⟨var.toArray⟩, .string ⟨attr.toArray⟩, .int .i64 a, .int .i64 b] 102) := ⟨_, rfl⟩
 have hb0 : Below w.heap.size w w0 := by rw [hw0]; exact (Below.refl _ _).alloc (Nat.le_refl _) _
 have hE0 : Blk w0 w.heap.size 102 [.int .i64 op, .int .i64 n, .string ⟨var.toArray⟩, .string ⟨attr.toArray⟩, .int .i64 a, .int .i64 b] := by rw [hw0]; exact Blk.new w _ 102
 have HE := Lib.hid hE0
 have HB0 := Lib.hid hb0
 have hL : leafT ⟨op, n, var, attr, a, b⟩ = if op = 1 then [num n] else if op = 2 then [tk 44] else if op = 3 then [tk 45] else if op = 5 then [tk 46, tk 3, nme var, tk 4]
   else if op = 4 then fieldT ⟨op, n, var, attr, a, b⟩ else [tk (47 + (op - 6)), tk 3] ++ fieldT ⟨op, n, var, attr, a, b⟩ ++ [tk 4] := rfl
 have HLT := Lib.hid hL
 clear hb0 hL
 by_cases q1 : op = 1
 ·subst q1
  have hc := hE0.ci 1 rfl
  clear hE0
  go_enter Tryz.func121, Tryz.ntmps121
  go_wp2_with fail
  rw [← hw0]
  clear hw0
  refine (number_any' n w0).mono ?_
  rintro e w1 ⟨rfl, hb1⟩
  have HB1 := Lib.hid (HB0.out.trans (hb1.mono HB0.out.size))
  clear hb1 hc
  go_wp2_with fail
  refine (one_any _ _ _ _).mono ?_
  rintro e w2 ⟨rfl, rfl⟩
  go_wp2_with fail
  go_ret
  exact leaf_fin (cs := [.int .i64 2, .string ⟨#[]⟩, .int .i64 n, .int .i64 0]) HB1.out (by rw [HLT.out]; rfl) (by rw [HLT.out]; rfl)
 by_cases q2 : op = 2
 ·subst q2
  clear hE0
  go_enter Tryz.func121, Tryz.ntmps121
  go_wp2_with fail
  rw [← hw0]
  clear hw0
  refine (mark_any' 44 w0).mono ?_
  rintro e w1 ⟨rfl, hb1⟩
  have HB1 := Lib.hid (HB0.out.trans (hb1.mono HB0.out.size))
  clear hb1
  go_wp2_with fail
  refine (one_any _ _ _ _).mono ?_
  rintro e w2 ⟨rfl, rfl⟩
  go_wp2_with fail
  go_ret
  exact leaf_fin (cs := [.int .i64 44, .string ⟨#[]⟩, .int .i64 0, .int .i64 0]) HB1.out (by rw [HLT.out]; rfl) (by rw [HLT.out]; rfl)
 by_cases q3 : op = 3
 ·subst q3
  clear hE0
  go_enter Tryz.func121, Tryz.ntmps121
  go_wp2_with fail
  rw [← hw0]
  clear hw0
  refine (mark_any' 45 w0).mono ?_
  rintro e w1 ⟨rfl, hb1⟩
  have HB1 := Lib.hid (HB0.out.trans (hb1.mono HB0.out.size))
  clear hb1
  go_wp2_with fail
  refine (one_any _ _ _ _).mono ?_
  rintro e w2 ⟨rfl, rfl⟩
  go_wp2_with fail
  go_ret
  exact leaf_fin (cs := [.int .i64 45, .string ⟨#[]⟩, .int .i64 0, .int .i64 0]) HB1.out (by rw [HLT.out]; rfl) (by rw [HLT.out]; rfl)
 have p1 : (op == 1) = false := by simpa using q1
 have p2 : (op == 2) = false := by simpa using q2
 have p3 : (op == 3) = false := by simpa using q3
 have HBW := Lib.hid (show Below w0.heap.size w0 w0.drew from (Below.refl _ _).drew)
 have c2 : w0.drew.cell? ⟨w.heap.size, 2, none⟩ = some (.string ⟨var.toArray⟩) := hE0.ci 2 rfl
 have c3 : w0.drew.cell? ⟨w.heap.size, 3, none⟩ = some (.string ⟨attr.toArray⟩) := hE0.ci 3 rfl
 by_cases q5 : op = 5
 ·subst q5
  clear hE0
  go_enter Tryz.func121, Tryz.ntmps121
  go_wp2_with fail
  rw [← hw0]
  clear hw0
  go_region_held3 (fun W => W.cell? ⟨w.heap.size, 2, none⟩ = some (.string ⟨var.toArray⟩)) (first | exact c2 | assumption | exact d2a _) (first
   | (go_at_call 62; refine (mark_any' _ _).mono ?_; rintro e wN ⟨rfl, hbN⟩; (have HBW := Lib.hid (HBW.out.trans (hbN.mono HBW.out.size))); (have d2 := (HE.out.below HBW.out).ci 2 rfl); (have d2a := fun o => ((HE.out.below HBW.out).alloc o).ci 2 rfl); clear hbN)
   | (go_at_call 67; refine (name_any' _ _).mono ?_; rintro e wN ⟨rfl, hbN⟩; (have HBW := Lib.hid (HBW.out.trans (hbN.mono HBW.out.size))); (have d2 := (HE.out.below HBW.out).ci 2 rfl); (have d2a := fun o => ((HE.out.below HBW.out).alloc o).ci 2 rfl); clear hbN)
   | (go_at_call 135; refine (one_any _ _ _ _).mono ?_; rintro e _ ⟨rfl, rfl⟩))
  go_wp2_with fail
  go_ret
  exact leaf_fin (cs := [.int .i64 46, .string ⟨#[]⟩, .int .i64 0, .int .i64 0, .int .i64 3, .string ⟨#[]⟩, .int .i64 0, .int .i64 0, .int .i64 1, .string ⟨var.toArray⟩, .int .i64 0, .int .i64 0, .int .i64 4, .string ⟨#[]⟩, .int .i64 0, .int .i64 0]) (HB0.out.trans (HBW.out.mono HB0.out.size)) (by rw [HLT.out]; rfl) (by rw [HLT.out]; rfl)
 have p5 : (op == 5) = false := by simpa using q5
 clear hE0
 go_enter Tryz.func121, Tryz.ntmps121
 go_wp2_with fail
 rw [← hw0]
 clear hw0
 go_region_held3 (fun W => W.cell? ⟨w.heap.size, 2, none⟩ = some (.string ⟨var.toArray⟩) ∧ W.cell? ⟨w.heap.size, 3, none⟩ = some (.string ⟨attr.toArray⟩)) (first | exact ⟨c2, c3⟩ | (refine ⟨?_, ?_⟩ <;> first | assumption | exact d2a _ | exact d3a _)) (first
  | (go_at_call 62; refine (mark_any' _ _).mono ?_; rintro e wN ⟨rfl, hbN⟩; (have HBW := Lib.hid (HBW.out.trans (hbN.mono HBW.out.size))); (have d2 := (HE.out.below HBW.out).ci 2 rfl); (have d3 := (HE.out.below HBW.out).ci 3 rfl); (have d2a := fun o => ((HE.out.below HBW.out).alloc o).ci 2 rfl); (have d3a := fun o => ((HE.out.below HBW.out).alloc o).ci 3 rfl); clear hbN)
  | (go_at_call 67; refine (name_any' _ _).mono ?_; rintro e wN ⟨rfl, hbN⟩; (have HBW := Lib.hid (HBW.out.trans (hbN.mono HBW.out.size))); (have d2 := (HE.out.below HBW.out).ci 2 rfl); (have d3 := (HE.out.below HBW.out).ci 3 rfl); (have d2a := fun o => ((HE.out.below HBW.out).alloc o).ci 2 rfl); (have d3a := fun o => ((HE.out.below HBW.out).alloc o).ci 3 rfl); clear hbN)
  | (go_at_call 135; refine (one_any _ _ _ _).mono ?_; rintro e _ ⟨rfl, rfl⟩))
 have HBN := Lib.hid (HB0.out.trans (HBW.out.mono HB0.out.size))
 have HE1 := Lib.hid ((HE.out.below HBW.out).alloc (.cells #[.int .i64 1, .string ⟨var.toArray⟩, .int .i64 0, .int .i64 0, .int .i64 8, .string ⟨#[]⟩, .int .i64 0, .int .i64 0, .int .i64 1, .string ⟨attr.toArray⟩, .int .i64 0, .int .i64 0] 138))
 have k0 := HE1.out.ci 0 rfl
 by_cases q4 : op = 4
 ·subst q4
  go_wp2_with fail
  go_ret
  exact leaf_fin (cs := [.int .i64 1, .string ⟨var.toArray⟩, .int .i64 0, .int .i64 0, .int .i64 8, .string ⟨#[]⟩, .int .i64 0, .int .i64 0, .int .i64 1, .string ⟨attr.toArray⟩, .int .i64 0, .int .i64 0]) HBN.out (by rw [HLT.out]; rfl) (by rw [HLT.out]; rfl)
 have p4 : (op == 4) = false := by simpa using q4
 have h6 : 6 ≤ op := by omega
 have HRD := Lib.hid (rd_new wN #[.int .i64 1, .string ⟨var.toArray⟩, .int .i64 0, .int .i64 0, .int .i64 8, .string ⟨#[]⟩, .int .i64 0, .int .i64 0, .int .i64 1, .string ⟨attr.toArray⟩, .int .i64 0, .int .i64 0] 138)
 have HB1 := Lib.hid (HBN.out.alloc HBN.out.size (.cells #[.int .i64 1, .string ⟨var.toArray⟩, .int .i64 0, .int .i64 0, .int .i64 8, .string ⟨#[]⟩, .int .i64 0, .int .i64 0, .int .i64 1, .string ⟨attr.toArray⟩, .int .i64 0, .int .i64 0] 138))
 have HLT2 := Lib.hid (show leafT ⟨op, n, var, attr, a, b⟩ = [tk (47 + (op - 6)), tk 3] ++ fieldT ⟨op, n, var, attr, a, b⟩ ++ [tk 4] by rw [HLT.out, if_neg q1, if_neg q2, if_neg q3, if_neg q5, if_neg q4])
 clear q1 q2 q3 q4 q5 c2 c3
 go_wp2_with fail
 obtain ⟨w1, hw1⟩ : ∃ w1, w1 = wN.alloc (.cells #[.int .i64 1, .string ⟨var.toArray⟩, .int .i64 0, .int .i64 0, .int .i64 8, .string ⟨#[]⟩, .int .i64 0, .int .i64 0, .int .i64 1, .string ⟨attr.toArray⟩, .int .i64 0, .int .i64 0] 138) := ⟨_, rfl⟩
 obtain ⟨g1, hg1⟩ : ∃ g1, g1 = wN.heap.size := ⟨_, rfl⟩
 rw [← hw1] at HE1 HRD HB1 ⊢
 rw [← hg1] at HRD ⊢
 clear hw1 hg1 k0
 refine (mark_any' (47 + (op - 6)) w1).mono ?_
 rintro e w2 ⟨rfl, hb2⟩
 have HBA2 := Lib.hid hb2
 clear hb2
 go_wp2_with fail
 refine (mark_any' 3 w2).mono ?_
 rintro e w3 ⟨rfl, hb3⟩
 have HBA3 := Lib.hid (HBA2.out.trans (hb3.mono HBA2.out.size))
 clear hb3
 go_wp2_with fail
 refine (one_any _ _ _ _).mono ?_
 rintro e w4 ⟨rfl, rfl⟩
 have HR4 := Lib.hid (rd_new w3 #[.int .i64 (47 + (op - 6)), .string ⟨#[]⟩, .int .i64 0, .int .i64 0, .int .i64 3, .string ⟨#[]⟩, .int .i64 0, .int .i64 0] 138)
 obtain ⟨w4, hw4⟩ : ∃ w4, w4 = w3.alloc (.cells #[.int .i64 (47 + (op - 6)), .string ⟨#[]⟩, .int .i64 0, .int .i64 0, .int .i64 3, .string ⟨#[]⟩, .int .i64 0, .int .i64 0] 138) := ⟨_, rfl⟩
 have HBA4 := Lib.hid (show Below w1.heap.size w1 w4 by rw [hw4]; exact HBA3.out.alloc HBA3.out.size _)
 obtain ⟨g4, hg4⟩ : ∃ g4, g4 = w3.heap.size := ⟨_, rfl⟩
 rw [← hw4] at HR4 ⊢
 rw [← hg4] at HR4 ⊢
 clear hw4 hg4
 go_wp2_with fail
 refine (mark_any' 4 w4).mono ?_
 rintro e w5 ⟨rfl, hb5⟩
 have HBA5 := Lib.hid hb5
 clear hb5
 go_wp2_with fail
 refine (one_any _ _ _ _).mono ?_
 rintro e w6' ⟨rfl, rfl⟩
 have HR6 := Lib.hid (rd_new w5 #[.int .i64 4, .string ⟨#[]⟩, .int .i64 0, .int .i64 0] 138)
 obtain ⟨w6, hw6⟩ : ∃ w6, w6 = w5.alloc (.cells #[.int .i64 4, .string ⟨#[]⟩, .int .i64 0, .int .i64 0] 138) := ⟨_, rfl⟩
 have HBA6 := Lib.hid (show Below w4.heap.size w4 w6 by rw [hw6]; exact HBA5.out.alloc HBA5.out.size _)
 obtain ⟨g6, hg6⟩ : ∃ g6, g6 = w5.heap.size := ⟨_, rfl⟩
 rw [← hw6] at HR6 ⊢
 rw [← hg6] at HR6 ⊢
 clear hw6 hg6
 go_wp2_with fail
 have HR7 := Lib.hid (rd_new w6 #[.slice (some ⟨g4, 0, none⟩) 2 2, .slice (some ⟨g1, 0, none⟩) 3 3, .slice (some ⟨g6, 0, none⟩) 1 1] 132)
 obtain ⟨w7, hw7⟩ : ∃ w7, w7 = w6.alloc (.cells #[.slice (some ⟨g4, 0, none⟩) 2 2, .slice (some ⟨g1, 0, none⟩) 3 3, .slice (some ⟨g6, 0, none⟩) 1 1] 132) := ⟨_, rfl⟩
 have hb7 : Below w6.heap.size w6 w7 := by rw [hw7]; exact (Below.refl _ _).alloc (Nat.le_refl _) _
 obtain ⟨g7, hg7⟩ : ∃ g7, g7 = w6.heap.size := ⟨_, rfl⟩
 rw [← hw7] at HR7 ⊢
 rw [← hg7] at HR7 ⊢
 have HB7 := Lib.hid hb7
 clear hw7 hg7 hb7
 have hb47 := HBA6.out.trans (HB7.out.mono HBA6.out.size)
 have hb17 := HBA4.out.trans (hb47.mono HBA4.out.size)
 refine (glue_any (some ⟨g7, 0, none⟩) 3 3 [⟨[tk (47 + (op - 6)), tk 3], some ⟨g4, 0, none⟩, 2⟩, ⟨fieldT ⟨op, n, var, attr, a, b⟩, some ⟨g1, 0, none⟩, 3⟩, ⟨[tk 4], some ⟨g6, 0, none⟩, 1⟩] w7 rfl (by decide) HR7.out (by
  intro x hx
  rcases List.mem_cons.1 hx with rfl | hx
  ·exact ⟨HR4.out.below hb47, by simp⟩
  ·rcases List.mem_cons.1 hx with rfl | hx
   ·exact ⟨HRD.out.below hb17, by simp [fieldT]⟩
   ·rcases List.mem_cons.1 hx with rfl | hx
    ·exact ⟨HR6.out.below HB7.out, by simp⟩
    ·cases hx)).mono ?_
 rintro e w8 ⟨a8, c8, m8, rfl, hm8, hr8, hb8⟩
 have HFIN := Lib.hid (HB1.out.trans ((hb17.trans (hb8.mono hb17.size)).mono HB1.out.size))
 have HM8 := Lib.hid hm8
 have HR8 := Lib.hid hr8
 clear hb47 hb17 hm8 hr8 hb8
 go_wp2_with fail
 go_ret
 exact ⟨a8, c8, m8, rfl, by rw [HLT2.out, ← HM8.out]; rfl, by rw [HLT2.out]; exact HR8.out, HFIN.out⟩
end Go.Proofs.YtfglgpbjjpoimaaGreatDoor
