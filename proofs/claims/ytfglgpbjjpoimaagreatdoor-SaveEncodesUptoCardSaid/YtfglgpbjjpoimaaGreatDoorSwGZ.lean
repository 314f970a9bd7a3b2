/- SaveEncodes: the program's magic, refusal; append of bytes. -/
import Derived.Test.YtfglgpbjjpoimaaGreatDoorSwGX
import Derived.Test.YtfglgpbjjpoimaaGreatDoorSwZ8
import Derived.Test.YtfglgpbjjpoimaaGreatDoorSwHA
set_option linter.unusedVariables false
namespace Go.Proofs.YtfglgpbjjpoimaaGreatDoor
open Go.RowKit Sv
theorem bcells_one (l : List UInt8) : ∀ u ∈ l.map B, u.oneCell' = true := by
 intro u hu
 simp only [List.mem_map] at hu
 obtain ⟨v, _, rfl⟩ := hu
 rfl
theorem app_y (w : World) {ops : Array Oper} {rest : List Oper} {o : Oper} {a : Act} {Q : Exit → Act → World → Prop} (hgd : o.guard = none) (s x : Operand)
  (ho : o.op = .call { callee := .builtin .append, args := #[s, x], argTypes := #[39, 39] }) (base : Nat) (v : Value) (n : Nat) (l1 : List UInt8) (hs : a.eval s = v) (hown : w.ownsRow base 5 1 v n (l1.map B))
  (ao : Option Addr) (m c : Nat) (l2 : List UInt8) (hx : a.eval x = .slice ao m c) (hl : l2.length = m) (hrd : Rd w ao (l2.map B)) (hb : n + m ≤ 140737488355328) (hbase : base ≤ w.heap.size)
  (h : ∀ a' c' w', w'.ownsRow base 5 1 (.slice a' (n + m) c') (n + m) ((l1 ++ l2).map B) → Below base w w' →
   wpList Tryz.prog ops Q rest (a.put o.dst (.slice a' (n + m) c')) w') : wpList Tryz.prog ops Q (o :: rest) a w := by
 obtain ⟨i0, hi, hz0, hz1, hz2⟩ := info_parts info5
 refine wpList_append_rd w hgd s x 39 ho base 5 i0 (.int .u8 0) 1 1 Tryz.underlying39 hi hz0 hz1 hz2 rfl (by decide) v n _ hs hown ao m c _ hx (by simp [hl]) hrd (bcells_one l2) (by unfold maxLen; omega) (by omega) hbase ?_
 intro a' c' w' h1 h2 h3
 rw [← List.map_append] at h1
 exact h a' c' w' h1 (h3.below (fun k hk => (hown.lt k hk).1) hbase)
set_option maxHeartbeats 1000000 in
theorem magic_any (w : World) : Calls Tryz.prog 29 #[] w fun e w' => e = .returned (.agg (magicB.map B).toArray) ∧ Below w.heap.size w w' := by
 go_enter Tryz.func29, Tryz.ntmps29
 go_wp2_with fail
 go_returns
 exact ⟨rfl, bal (Below.refl _ _) (Nat.le_refl _) _⟩
set_option maxHeartbeats 1000000 in
theorem refusal_any (c p : Int) (w : World) : Calls Tryz.prog 21 #[.int .i64 c, .int .i64 p] w fun e w' => ∃ g, e = .returned (.iface 89 (.pointer (some ⟨g, 0, none⟩))) ∧ w.heap.size ≤ g ∧ Blk w' g 94 [.int .i64 c, .int .i64 p] ∧ Below w.heap.size w w' := by
 go_enter Tryz.func21, Tryz.ntmps21
 go_wp2_with fail
 go_returns
 exact ⟨w.heap.size, rfl, Nat.le_refl _, Blk.new w _ 94, bal (Below.refl _ _) (Nat.le_refl _) _⟩
end Go.Proofs.YtfglgpbjjpoimaaGreatDoor
/- SaveEncodes: the program's Encode. -/
set_option linter.unusedVariables false
namespace Go.Proofs.YtfglgpbjjpoimaaGreatDoor
open Go.RowKit Sv
/-- What the program's Encode answers. -/
def EncP (x : Stm) (w : World) (e : Ending) (w' : World) : Prop :=
 ((¬ StOK x ∧ ∃ g, e = .returned (.tuple #[.slice none 0 0, .iface 89 (.pointer (some ⟨g, 0, none⟩))]) ∧ w.heap.size ≤ g ∧ Blk w' g 94 [.int .i64 160, .int .i64 0]) ∨
  ∃ tx a c n, StOK x ∧ ansR fmtI x.q.q = some tx ∧ (imageL (bodyL x tx)).length = n ∧ e = .returned (.tuple #[.slice a n c, .nilIface]) ∧ Rd w' a ((imageL (bodyL x tx)).map B)) ∧ Below w.heap.size w w'
theorem bytesI_len10 (i : Int) (h : I64' i) : (bytesI i).length ≤ 10 := bytesU_len10 _ (zig_lt i h)
theorem byName_le20 {n : Nm} (h : NmB n) : (byName n).length ≤ 20 := by
 have h1 := bytesI_len10 n.ts h.1
 have h2 := bytesU_len10 n.id h.2
 unfold byName
 rw [List.length_append]; omega
set_option maxHeartbeats 4000000 in
set_option maxRecDepth 20000 in
theorem pencode_any (x : Stm) (w : World) (hl : Ld w) (h : RdSt w x) (hb : StB x) : Calls Tryz.prog 7 #[.agg (stc x).toArray] w (EncP x w) := by
 obtain ⟨w0, hw0⟩ : ∃ w0, w0 = w.alloc (.cells (stc x).toArray 36) := ⟨_, rfl⟩
 have hE : Blk w0 w.heap.size 36 (stc x) := by rw [hw0]; exact Blk.new w _ 36
 have HB0 := Lib.hid (show Below w.heap.size w w0 by rw [hw0]; exact bal (Below.refl _ _) (Nat.le_refl _) _)
 have HL := Lib.hid (hl.below HB0.out)
 have HR := Lib.hid (h.below HB0.out)
 have HPS := Lib.hid (fun W (hW : Below w0.heap.size w0 W) => printSchema_any x.ta x.tc x.types.length x.types W rfl (HL.out.below hW).kw (HR.out.below hW).types hb.tcap)
 have HPQ := Lib.hid (fun W (hW : Below w0.heap.size w0 W) => print_any x.q W (HL.out.below hW) (HR.out.below hW).q hb.qb hb.qi)
 have HPL := Lib.hid (fun W (hW : Below w0.heap.size w0 W) => pplain_any x W (HL.out.below hW) (HR.out.below hW) hb)
 have HSOK := Lib.hid (show StOK x ↔ SchemaOK (tys x.types) ∧ (shapedQ (nameB kwsL) x.q.q = true ∧ (ansR fmtI x.q.q).isSome = true) ∧ PlOK x from
  ⟨fun h => ⟨h.schema, h.query, ⟨h.cap, h.mark, h.waiting, h.used, h.held, h.kept⟩⟩, fun h => ⟨h.1, h.2.1, h.2.2.cap, h.2.2.mark, h.2.2.waiting, h.2.2.used, h.2.2.held, h.2.2.kept⟩⟩)
 have HSB := Lib.hid hb
 have hwl := hb.wl
 have hul := hb.ul
 have hmkb := hb.mark
 obtain ⟨X, hX⟩ : ∃ X, X = x := ⟨_, rfl⟩
 suffices H : Calls Tryz.prog 7 #[.agg (stc x).toArray] w (EncP X w) by rw [hX] at H; exact H
 have HX := Lib.hid hX
 clear h hl hb
 obtain ⟨types, ta, tc, ⟨items, ia, ic, mode, after, wher, wwa, wcap, within, by_, ret, ra, rc⟩, cap, mark, closed, held, ha, hc, kept, ka, kc, waiting, wa, wc', used, ua, uc⟩ := x
 obtain ⟨nt, hnt⟩ : ∃ n, n = types.length := ⟨_, rfl⟩
 obtain ⟨ni, hni⟩ : ∃ n, n = items.length := ⟨_, rfl⟩
 obtain ⟨nwh, hnwh⟩ : ∃ n, n = wher.length := ⟨_, rfl⟩
 obtain ⟨nr, hnr⟩ : ∃ n, n = ret.length := ⟨_, rfl⟩
 obtain ⟨nh, hnh⟩ : ∃ n, n = held.length := ⟨_, rfl⟩
 obtain ⟨nk, hnk⟩ : ∃ n, n = kept.length := ⟨_, rfl⟩
 obtain ⟨nw, hnw⟩ : ∃ n, n = waiting.length := ⟨_, rfl⟩
 obtain ⟨nu, hnu⟩ : ∃ n, n = used.length := ⟨_, rfl⟩
 dsimp only at hwl hul hmkb HPS
 simp only [stc, qmc, T, ← hnt, ← hni, ← hnwh, ← hnr, ← hnh, ← hnk, ← hnw, ← hnu] at hE hw0 hwl hul HPS HPQ HPL ⊢
 have HNT := Lib.hid hnt
 have HNI := Lib.hid hni
 have HNWH := Lib.hid hnwh
 have HNR := Lib.hid hnr
 have HNH := Lib.hid hnh
 have HNK := Lib.hid hnk
 have HNW := Lib.hid hnw
 have HNU := Lib.hid hnu
 have HE := Lib.hid (show Blk w0 w.heap.size 36 [.slice ta nt tc, .slice ia ni ic, .int .i64 mode, .int .i64 after, .slice wwa nwh wcap, .int .i64 within, .string ⟨by_.toArray⟩, .slice ra nr rc, .int .i64 cap, .int .i64 mark, .bool closed, .slice ha nh hc, .slice ka nk kc, .slice wa nw wc', .slice ua nu uc] from hE)
 have HMKB := Lib.hid hmkb
 clear hE hX hmkb hnt hni hnwh hnr hnh hnk hnw hnu
 have s0 := HE.out.ci 0 rfl
 go_enter Tryz.func7, Tryz.ntmps7
 go_upto_region 1 with fail
 rw [← hw0]
 clear hw0
 go_wp2_with fail
 refine (HPS.out w0 (Below.refl _ _)).mono ?_
 rintro e w1 ⟨r1, sc, rfl, hr1, hsc, hb1⟩
 have HR1 := Lib.hid hr1
 have HSCI := Lib.hid hsc
 have HB1 := Lib.hid hb1
 clear s0 hr1 hsc hb1
 have s1 := (HE.out.below HB1.out).ci 1 rfl
 have s2 := (HE.out.below HB1.out).ci 2 rfl
 have s3 := (HE.out.below HB1.out).ci 3 rfl
 have s4 := (HE.out.below HB1.out).ci 4 rfl
 have s5 := (HE.out.below HB1.out).ci 5 rfl
 have s6 := (HE.out.below HB1.out).ci 6 rfl
 have s7 := (HE.out.below HB1.out).ci 7 rfl
 go_wp2_with fail
 refine (HPQ.out w1 HB1.out).mono ?_
 rintro e w2 ⟨r2, tx, rfl, hr2, htx, hb2⟩
 have HR2 := Lib.hid hr2
 have HTXI := Lib.hid htx
 have HB2 := Lib.hid (HB1.out.trans (hb2.mono HB1.out.size))
 clear s1 s2 s3 s4 s5 s6 s7 hr2 htx hb2
 simp only [T]
 by_cases hr1 : r1 = 0
 rotate_left
 ·have HNO := Lib.hid (show ¬ StOK X from fun hs => hr1 (HR1.out.2 (by have h := (HX.out ▸ hs).schema; exact h)))
  have h1 : (r1 == 0) = false := by simpa using hr1
  have h2 : (r1 != 0) = true := by simpa using hr1
  clear hr1
  go_wp2_with fail
  refine (refusal_any 160 0 w2).mono ?_
  rintro e w3 ⟨g, rfl, hg, hk, hb3⟩
  have HG := Lib.hid (show w.heap.size ≤ g from Nat.le_trans HB0.out.size (Nat.le_trans HB2.out.size hg))
  have HK := Lib.hid hk
  have HB3 := Lib.hid (HB2.out.trans (hb3.mono HB2.out.size))
  clear hg hk hb3
  go_wp2_with fail
  go_ret2
  exact ⟨.inl ⟨HNO.out, g, rfl, HG.out, HK.out⟩, HB0.out.trans (HB3.out.mono HB0.out.size)⟩
 have HSCH := Lib.hid (HR1.out.1 hr1)
 subst hr1
 by_cases hr2 : r2 = 0
 rotate_left
 ·have HNO := Lib.hid (show ¬ StOK X from fun hs => hr2 (HR2.out.2 (by have h := (HX.out ▸ hs).query; exact h)))
  have h1 : (r2 == 0) = false := by simpa using hr2
  have h2 : (r2 != 0) = true := by simpa using hr2
  clear hr2
  go_wp2_with fail
  refine (refusal_any 160 0 w2).mono ?_
  rintro e w3 ⟨g, rfl, hg, hk, hb3⟩
  have HG := Lib.hid (show w.heap.size ≤ g from Nat.le_trans HB0.out.size (Nat.le_trans HB2.out.size hg))
  have HK := Lib.hid hk
  have HB3 := Lib.hid (HB2.out.trans (hb3.mono HB2.out.size))
  clear hg hk hb3
  go_wp2_with fail
  go_ret2
  exact ⟨.inl ⟨HNO.out, g, rfl, HG.out, HK.out⟩, HB0.out.trans (HB3.out.mono HB0.out.size)⟩
 have HQRY := Lib.hid (HR2.out.1 hr2)
 have HTXE := Lib.hid (HTXI.out hr2)
 subst hr2
 have s0 := (HE.out.below HB2.out).ci 0 rfl
 have s1 := (HE.out.below HB2.out).ci 1 rfl
 have s2 := (HE.out.below HB2.out).ci 2 rfl
 have s3 := (HE.out.below HB2.out).ci 3 rfl
 have s4 := (HE.out.below HB2.out).ci 4 rfl
 have s5 := (HE.out.below HB2.out).ci 5 rfl
 have s6 := (HE.out.below HB2.out).ci 6 rfl
 have s7 := (HE.out.below HB2.out).ci 7 rfl
 have s8 := (HE.out.below HB2.out).ci 8 rfl
 have s9 := (HE.out.below HB2.out).ci 9 rfl
 have s10 := (HE.out.below HB2.out).ci 10 rfl
 have s11 := (HE.out.below HB2.out).ci 11 rfl
 have s12 := (HE.out.below HB2.out).ci 12 rfl
 have s13 := (HE.out.below HB2.out).ci 13 rfl
 have s14 := (HE.out.below HB2.out).ci 14 rfl
 go_wp2_with fail
 refine (HPL.out w2 HB2.out).mono ?_
 rintro e w3 ⟨r3, rfl, hr3, hb3⟩
 have HR3 := Lib.hid hr3
 have HB3 := Lib.hid (HB2.out.trans (hb3.mono HB2.out.size))
 clear hr3 hb3 s0 s1 s2 s3 s4 s5 s6 s7 s8 s9 s10 s11 s12 s13 s14
 cases hr3 : r3 with
 | false =>
  have HNO := Lib.hid (show ¬ StOK X from fun hs => by
   have h := HR3.out.2 (HSOK.out.1 (HX.out ▸ hs)).2.2
   rw [hr3] at h; cases h)
  clear hr3
  go_wp2_with fail
  refine (refusal_any 160 0 w3).mono ?_
  rintro e w4 ⟨g, rfl, hg, hk, hb4⟩
  have HG := Lib.hid (show w.heap.size ≤ g from Nat.le_trans HB0.out.size (Nat.le_trans HB3.out.size hg))
  have HK := Lib.hid hk
  have HB4 := Lib.hid (HB3.out.trans (hb4.mono HB3.out.size))
  clear hg hk hb4
  go_wp2_with fail
  go_ret2
  exact ⟨.inl ⟨HNO.out, g, rfl, HG.out, HK.out⟩, HB0.out.trans (HB4.out.mono HB0.out.size)⟩
 | true =>
  have hok := HSOK.out.2 ⟨HSCH.out, HQRY.out, HR3.out.1 hr3⟩
  have HOK := Lib.hid (show StOK X by rw [HX.out]; exact hok)
  have HSC := Lib.hid (HSCI.out HSCH.out)
  have HSCL := Lib.hid (show sc.length ≤ 4000 by rw [HSC.out]; exact schema_len HSCH.out)
  have HTXL := Lib.hid (ans_len hok.query.1 HSB.out.qi HTXE.out)
  have HOKH := Lib.hid (ev_all hok.held)
  have HOKK := Lib.hid (ev_all hok.kept)
  have HHB := Lib.hid (show ∀ e ∈ held, EvB e from HSB.out.hb)
  have HKB := Lib.hid (show ∀ e ∈ kept, EvB e from HSB.out.kb)
  have HWB := Lib.hid (show ∀ m ∈ waiting, MtB m.m from HSB.out.wb)
  have HUB := Lib.hid (show ∀ n ∈ used, NmB n from HSB.out.ub)
  have HHL := Lib.hid (show nh ≤ 1048576 by rw [HNH.out]; exact HSB.out.hl)
  have HKL := Lib.hid (show nk ≤ 1048576 by rw [HNK.out]; exact HSB.out.kl)
  have HEVL := Lib.hid (show ∀ l : List Ev, (∀ e ∈ l, EvB e) → l.length ≤ 1048576 → (byEvs (tys types) l).length ≤ 115343400 from fun l h1 h2 => by
   have h3 := flat_le (byEv (tys types)) 110 l (fun v hv => byEv_le (h1 v hv))
   have h4 := bytesU_len10 l.length (by omega)
   unfold byEvs
   rw [List.length_append]; omega)
  have HLH := Lib.hid (HEVL.out held HHB.out HSB.out.hl)
  have HLK := Lib.hid (HEVL.out kept HKB.out HSB.out.kl)
  have HLW := Lib.hid (show ∀ k, ((waiting.take k).flatMap fun y => byMt y.m).length ≤ k * 43000100 from fun k => by
   have h3 := flat_le (fun y : Mm => byMt y.m) 43000100 (waiting.take k) (fun v hv => byMt_le (HWB.out v (List.mem_of_mem_take hv)))
   have h4 := List.length_take_le k waiting
   exact Nat.le_trans h3 (Nat.mul_le_mul_right _ h4))
  have hcb := hok.cap
  dsimp only at hcb
  obtain ⟨cp, hcp⟩ : ∃ cp : Nat, cap = cp := ⟨cap.toNat, by omega⟩
  have HCP := Lib.hid hcp
  have hcp1 : cp ≤ 4096 := by omega
  obtain ⟨w4, hw4⟩ : ∃ wb, wb = w3.alloc (.cells #[.slice none 0 0] 73) := ⟨_, rfl⟩
  obtain ⟨g, hg⟩ : ∃ gb, gb = w3.heap.size := ⟨_, rfl⟩
  have HG := Lib.hid hg
  have hk4 : Blk w4 g 73 [.slice none 0 0] := by rw [hw4, hg]; exact Blk.new w3 _ 73
  have HBG := Lib.hid (show Below g w3 w4 by rw [hw4, hg]; exact bal (Below.refl _ _) (Nat.le_refl _) _)
  have HGS := Lib.hid (show g ≤ w4.heap.size from Nat.le_of_lt hk4.lt)
  obtain ⟨L4, hL4⟩ : ∃ L : List UInt8, L = [] := ⟨_, rfl⟩
  have hl4 : L4.length ≤ 0 := by rw [hL4]; exact Nat.le_refl _
  have HL4 := Lib.hid hL4
  have HBT := Lib.hid (show Bt g g L4 w4 from ⟨Nat.le_refl _, none, 0, 0, by rw [hL4]; rfl, hk4, by rw [hL4]; simpa using World.ownsRow_nil w4 g 5 1, by simp [Value.ownBlock]⟩)
  have HRG := Lib.hid (fun W (hW : Below g w3 W) => (HR.out.below HB3.out).below (show Below w3.heap.size w3 W by rw [← HG.out]; exact hW))
  have HEG := Lib.hid (fun W (hW : Below g w3 W) => (HE.out.below HB3.out).below (show Below w3.heap.size w3 W by rw [← HG.out]; exact hW))
  rw [hcp] at HEG
  clear hr3 hok hcb hcp hk4 hL4
  go_upto_region 6 with fail
  rw [← hw4, ← hg]
  clear hw4 hg
  have HC := Lib.hid (stext_any g g sc L4 w4 (by have := HSCL.out; omega) (by omega) HGS.out HBT.out)
  go_wp2_with fail
  refine (HC.out).mono ?_
  rintro e w5 ⟨rfl, hp⟩
  obtain ⟨L5, hL5⟩ : ∃ L, L = L4 ++ byText sc := ⟨_, rfl⟩
  rw [← hL5] at hp
  have hl5 : L5.length ≤ 5000 := by rw [hL5, List.length_append]; have h1 := HSCL.out; have h2 := bytesU_len10 sc.length (by omega); simp only [byText, List.length_append]; omega
  have HL5 := Lib.hid hL5
  have HBT := Lib.hid hp.1
  have HBG := Lib.hid (HBG.out.trans hp.2.1)
  have HGS := Lib.hid (Nat.le_trans HGS.out hp.2.1.size)
  clear hp hL5 HC hl4
  have HC := Lib.hid (stext_any g g tx L5 w5 (by have := HTXL.out; omega) (by omega) HGS.out HBT.out)
  go_wp2_with fail
  refine (HC.out).mono ?_
  rintro e w6 ⟨rfl, hp⟩
  obtain ⟨L6, hL6⟩ : ∃ L, L = L5 ++ byText tx := ⟨_, rfl⟩
  rw [← hL6] at hp
  have hl6 : L6.length ≤ 60000 := by rw [hL6, List.length_append]; have h1 := HTXL.out; have h2 := bytesU_len10 tx.length (by omega); simp only [byText, List.length_append]; omega
  have HL6 := Lib.hid hL6
  have HBT := Lib.hid hp.1
  have HBG := Lib.hid (HBG.out.trans hp.2.1)
  have HGS := Lib.hid (Nat.le_trans HGS.out hp.2.1.size)
  clear hp hL6 HC hl5
  have s8 := (HEG.out _ HBG.out).ci 8 rfl
  have hcw : IntKind.u64.wrap (cp : Int) = cp := by rw [IntKind.wrap_u64]; omega
  have HC := Lib.hid (wcount_any g g cp L6 w6 (by omega) (by omega) HGS.out HBT.out)
  go_wp2_with fail
  refine (HC.out).mono ?_
  rintro e w7 ⟨rfl, hp⟩
  clear s8
  obtain ⟨L7, hL7⟩ : ∃ L, L = L6 ++ bytesU cp := ⟨_, rfl⟩
  rw [← hL7] at hp
  have hl7 : L7.length ≤ 60100 := by rw [hL7, List.length_append]; have h2 := bytesU_len10 cp (by omega); omega
  have HL7 := Lib.hid hL7
  have HBT := Lib.hid hp.1
  have HBG := Lib.hid (HBG.out.trans hp.2.1)
  have HGS := Lib.hid (Nat.le_trans HGS.out hp.2.1.size)
  clear hp hL7 HC hl6
  have s9 := (HEG.out _ HBG.out).ci 9 rfl
  have HC := Lib.hid (wnumber_any g g mark L7 w7 HMKB.out (by omega) HGS.out HBT.out)
  go_wp2_with fail
  refine (HC.out).mono ?_
  rintro e w8 ⟨rfl, hp⟩
  clear s9
  obtain ⟨L8, hL8⟩ : ∃ L, L = L7 ++ bytesI mark := ⟨_, rfl⟩
  rw [← hL8] at hp
  have hl8 : L8.length ≤ 60200 := by rw [hL8, List.length_append]; have h2 := bytesI_len10 mark HMKB.out; omega
  have HL8 := Lib.hid hL8
  have HBT := Lib.hid hp.1
  have HBG := Lib.hid (HBG.out.trans hp.2.1)
  have HGS := Lib.hid (Nat.le_trans HGS.out hp.2.1.size)
  clear hp hL8 HC hl7
  have s10 := (HEG.out _ HBG.out).ci 10 rfl
  have HC := Lib.hid (wflag_any g g closed L8 w8 (by omega) HGS.out HBT.out)
  go_wp2_with fail
  refine (HC.out).mono ?_
  rintro e w9 ⟨rfl, hp⟩
  clear s10
  obtain ⟨L9, hL9⟩ : ∃ L, L = L8 ++ closedB closed := ⟨_, rfl⟩
  rw [← hL9] at hp
  have hl9 : L9.length ≤ 60300 := by rw [hL9, List.length_append]; have h2 : (closedB closed).length = 1 := rfl; omega
  have HL9 := Lib.hid hL9
  have HBT := Lib.hid hp.1
  have HBG := Lib.hid (HBG.out.trans hp.2.1)
  have HGS := Lib.hid (Nat.le_trans HGS.out hp.2.1.size)
  clear hp hL9 HC hl8
  have s0 := (HEG.out _ HBG.out).ci 0 rfl
  have s11 := (HEG.out _ HBG.out).ci 11 rfl
  have HC := Lib.hid (sevents_any g g ta tc nt types ha hc nh held L9 w9 HNT.out.symm HNH.out.symm HHL.out (fun w' hw => ⟨(HRG.out _ (HBG.out.trans hw)).types, (HRG.out _ (HBG.out.trans hw)).held⟩) HOKH.out HHB.out (by omega) HGS.out HBT.out)
  go_wp2_with fail
  refine (HC.out).mono ?_
  rintro e w10 ⟨rfl, hp⟩
  clear s0 s11
  obtain ⟨L10, hL10⟩ : ∃ L, L = L9 ++ byEvs (tys types) held := ⟨_, rfl⟩
  rw [← hL10] at hp
  have hl10 : L10.length ≤ 200000000 := by rw [hL10, List.length_append]; have h2 := HLH.out; omega
  have HL10 := Lib.hid hL10
  have HBT := Lib.hid hp.1
  have HBG := Lib.hid (HBG.out.trans hp.2.1)
  have HGS := Lib.hid (Nat.le_trans HGS.out hp.2.1.size)
  clear hp hL10 HC hl9
  have s0 := (HEG.out _ HBG.out).ci 0 rfl
  have s12 := (HEG.out _ HBG.out).ci 12 rfl
  have HC := Lib.hid (sevents_any g g ta tc nt types ka kc nk kept L10 w10 HNT.out.symm HNK.out.symm HKL.out (fun w' hw => ⟨(HRG.out _ (HBG.out.trans hw)).types, (HRG.out _ (HBG.out.trans hw)).kept⟩) HOKK.out HKB.out (by omega) HGS.out HBT.out)
  go_wp2_with fail
  refine (HC.out).mono ?_
  rintro e w11 ⟨rfl, hp⟩
  clear s0 s12
  obtain ⟨L11, hL11⟩ : ∃ L, L = L10 ++ byEvs (tys types) kept := ⟨_, rfl⟩
  rw [← hL11] at hp
  have hl11 : L11.length ≤ 400000000 := by rw [hL11, List.length_append]; have h2 := HLK.out; omega
  have HL11 := Lib.hid hL11
  have HBT := Lib.hid hp.1
  have HBG := Lib.hid (HBG.out.trans hp.2.1)
  have HGS := Lib.hid (Nat.le_trans HGS.out hp.2.1.size)
  clear hp hL11 HC hl10
  have s13 := (HEG.out _ HBG.out).ci 13 rfl
  have hcw : IntKind.u64.wrap (nw : Int) = nw := by rw [IntKind.wrap_u64]; omega
  have HC := Lib.hid (wcount_any g g nw L11 w11 (by omega) (by omega) HGS.out HBT.out)
  go_wp2_with fail
  refine (HC.out).mono ?_
  rintro e w12 ⟨rfl, hp⟩
  clear s13
  obtain ⟨L12, hL12⟩ : ∃ L, L = L11 ++ bytesU nw := ⟨_, rfl⟩
  rw [← hL12] at hp
  have hl12 : L12.length ≤ 400000100 := by rw [hL12, List.length_append]; have h2 := bytesU_len10 nw (by omega); omega
  have HL12 := Lib.hid hL12
  have HBT := Lib.hid hp.1
  have HBG := Lib.hid (HBG.out.trans hp.2.1)
  have HGS := Lib.hid (Nat.le_trans HGS.out hp.2.1.size)
  clear hp hL12 HC hl11
  have s13 := (HEG.out _ HBG.out).ci 13 rfl
  go_wp2_with fail
  clear s13 hcw
  have HBT0 := Lib.hid HBT.out
  have HBG0 := Lib.hid HBG.out
  go_loopw [81] (fun i wr => ∃ k : Nat, k ≤ nw ∧ i = .int .i64 (k : Int) ∧ Bt g g (L12 ++ (waiting.take k).flatMap fun y => byMt y.m) wr ∧ Below g w3 wr ∧ g ≤ wr.heap.size) (fun i _ => nw - (intOf i).toNat)
  case atStart => exact ⟨0, Nat.zero_le _, rfl, by simpa using HBT0.out, HBG0.out, HGS.out⟩
  case round =>
   obtain ⟨k, hkn, rfl, hbt, hbg, hgs⟩ := hrel
   obtain ⟨wo, rfl⟩ : ∃ v, v = wr := ⟨_, rfl⟩
   have HBT := Lib.hid hbt
   have HBG := Lib.hid hbg
   have HGS := Lib.hid hgs
   clear hbt hgs
   by_cases hlt : k < nw
   ·have hlt' : (k : Int) < nw := by omega
    have hk0 : (0 : Int) ≤ k := by omega
    have hjl : k < waiting.length := by rw [← HNW.out]; exact hlt
    have HME := Lib.hid (meas_lt hlt)
    have HTK := Lib.hid (flat_snoc (fun y : Mm => byMt y.m) waiting k hjl)
    have HWN : RdM wo wa waiting := (HRG.out _ hbg).waiting
    obtain ⟨b, o, hwa, hrest⟩ := HWN.at k hjl
    clear hrest
    obtain ⟨y, hy⟩ : ∃ y, y = waiting[k] := ⟨_, rfl⟩
    obtain ⟨e0, e1, e2, e3⟩ := HWN.cells k hjl b o hwa y hy
    have hyb := HWB.out _ (List.getElem_mem (l := waiting) hjl)
    rw [← hy] at hyb HTK
    have HLEN := Lib.hid (show (L12 ++ (waiting.take k).flatMap fun y => byMt y.m).length ≤ 46000000000000 by
     have h1 := HLW.out k
     rw [List.length_append]
     have h2 : k * 43000100 ≤ 1048576 * 43000100 := Nat.mul_le_mul_right _ (by omega)
     omega)
    have HML := Lib.hid (fun W (hW : Below g w3 W) => show RdMl W y by
     have h : RdM W wa waiting := (HRG.out _ hW).waiting
     rw [hy]; exact h.2 _ (List.getElem_mem hjl))
    have HYB := Lib.hid hyb
    obtain ⟨⟨dec, names, lens, vals⟩, na, nc, la, lc, va, vc⟩ := y
    obtain ⟨nn, hnn⟩ : ∃ n, n = names.length := ⟨_, rfl⟩
    obtain ⟨nl, hnl⟩ : ∃ n, n = lens.length := ⟨_, rfl⟩
    obtain ⟨nv, hnv⟩ : ∃ n, n = vals.length := ⟨_, rfl⟩
    dsimp only at e0 e1 e2 e3
    rw [← hnn] at e1
    rw [← hnl] at e2
    rw [← hnv] at e3
    subst hwa
    obtain ⟨wm, hwm⟩ : ∃ wb, wb = wo.alloc (.cells #[.int .i64 dec, .slice na nn nc, .slice la nl lc, .slice va nv vc] 62) := ⟨_, rfl⟩
    obtain ⟨gm, hgm⟩ : ∃ gb, gb = wo.heap.size := ⟨_, rfl⟩
    have hbm : Below wo.heap.size wo wm := by rw [hwm]; exact bal (Below.refl _ _) (Nat.le_refl _) _
    have hFm : Blk wm gm 62 [.int .i64 dec, .slice na nn nc, .slice la nl lc, .slice va nv vc] := by rw [hwm, hgm]; exact Blk.new wo _ 62
    have HBM := Lib.hid (HBG.out.trans (hbm.mono HGS.out))
    have HGM := Lib.hid (Nat.le_trans HGS.out hbm.size)
    have HBTM := Lib.hid (HBT.out.below hbm)
    have HC := Lib.hid (smatch_any g g ⟨⟨dec, names, lens, vals⟩, na, nc, la, lc, va, vc⟩ _ wm (fun w' hw => HML.out w' (HBM.out.trans hw)) HYB.out (by have := HLEN.out; omega) HGM.out HBTM.out)
    simp only [mmc, ← hnn, ← hnl, ← hnv] at HC
    clear hbg hy hyb HWN hnn hnl hnv hbm
    go_upto_region 17 with fail
    rw [← hwm, ← hgm]
    clear hwm hgm e0 e1 e2 e3
    have m0 := hFm.ci 0 rfl
    have m1 := hFm.ci 1 rfl
    have m2 := hFm.ci 2 rfl
    have m3 := hFm.ci 3 rfl
    clear hFm
    go_wp2_with fail
    refine (HC.out).mono ?_
    rintro e wn ⟨rfl, hp⟩
    have HP1 := Lib.hid hp.1
    have HP2 := Lib.hid (HBM.out.trans hp.2.1)
    have HP3 := Lib.hid (Nat.le_trans HGM.out hp.2.1.size)
    clear m0 m1 m2 m3 hp
    go_wp2_with fail
    go_roundw
    case rel => exact ⟨k + 1, hlt, by go_num, by rw [HTK.out, ← List.append_assoc]; exact HP1.out, HP2.out, HP3.out⟩
    case measure => exact HME.out
   ·have hk' : ¬ (k : Int) < nw := by omega
    obtain rfl : nw = k := by omega
    obtain ⟨L13, hL13⟩ : ∃ L, L = L12 ++ waiting.flatMap fun y => byMt y.m := ⟨_, rfl⟩
    have HBT := Lib.hid (show Bt g g L13 wo by
     have h := HBT.out
     rw [List.take_of_length_le (by rw [HNW.out]; exact Nat.le_refl _)] at h
     rw [hL13]; exact h)
    have hl13 : L13.length ≤ 46000000000000 := by
     have h1 := HLW.out nw
     rw [List.take_of_length_le (by rw [HNW.out]; exact Nat.le_refl _)] at h1
     rw [hL13, List.length_append]
     have h2 : nw * 43000100 ≤ 1048576 * 43000100 := Nat.mul_le_mul_right _ (by omega)
     omega
    have HL13 := Lib.hid hL13
    obtain ⟨w13, rfl⟩ : ∃ v, v = wo := ⟨_, rfl⟩
    clear hL13 hbg HBT0 HBG0
    have s14 := (HEG.out _ HBG.out).ci 14 rfl
    have hcw : IntKind.u64.wrap (nu : Int) = nu := by rw [IntKind.wrap_u64]; omega
    have HC := Lib.hid (wcount_any g g nu L13 w13 (by omega) (by omega) HGS.out HBT.out)
    go_wp2_with fail
    refine (HC.out).mono ?_
    rintro e w14 ⟨rfl, hp⟩
    obtain ⟨L14, hL14⟩ : ∃ L, L = L13 ++ bytesU nu := ⟨_, rfl⟩
    rw [← hL14] at hp
    have hl14 : L14.length ≤ 46000000000100 := by rw [hL14, List.length_append]; have h2 := bytesU_len10 nu (by omega); omega
    have HL14 := Lib.hid hL14
    have HBT := Lib.hid hp.1
    have HBG := Lib.hid (HBG.out.trans hp.2.1)
    have HGS := Lib.hid (Nat.le_trans HGS.out hp.2.1.size)
    clear s14 hp hL14 HC hl13
    have s14 := (HEG.out _ HBG.out).ci 14 rfl
    go_wp2_with fail
    clear s14 hcw
    have HBT0 := Lib.hid HBT.out
    have HBG0 := Lib.hid HBG.out
    have HGS0 := Lib.hid HGS.out
    go_loopw [98] (fun i wr => ∃ k : Nat, k ≤ nu ∧ i = .int .i64 (k : Int) ∧ Bt g g (L14 ++ (used.take k).flatMap byName) wr ∧ Below g w3 wr ∧ g ≤ wr.heap.size) (fun i _ => nu - (intOf i).toNat)
    case atStart => exact ⟨0, Nat.zero_le _, rfl, by simpa using HBT0.out, HBG0.out, HGS0.out⟩
    case round =>
     obtain ⟨k, hkn, rfl, hbt, hbg, hgs⟩ := hrel
     obtain ⟨wo, rfl⟩ : ∃ v, v = wr := ⟨_, rfl⟩
     have HBT := Lib.hid hbt
     have HBG := Lib.hid hbg
     have HGS := Lib.hid hgs
     clear hbt hgs
     by_cases hlt : k < nu
     ·have hlt' : (k : Int) < nu := by omega
      have hk0 : (0 : Int) ≤ k := by omega
      have hjl : k < used.length := by rw [← HNU.out]; exact hlt
      have HME := Lib.hid (meas_lt hlt)
      have HTK := Lib.hid (flat_snoc byName used k hjl)
      obtain ⟨b, o, hua, e0, e1⟩ := (HRG.out _ hbg).used.at k hjl
      obtain ⟨y, hy⟩ : ∃ y, y = used[k] := ⟨_, rfl⟩
      have hyb := HUB.out _ (List.getElem_mem (l := used) hjl)
      rw [← hy] at e0 e1 hyb HTK
      have HYB := Lib.hid hyb
      have HLEN := Lib.hid (show (L14 ++ (used.take k).flatMap byName).length ≤ 47000000000000 by
       have h1 := flat_le byName 20 (used.take k) (fun v hv => byName_le20 (HUB.out v (List.mem_of_mem_take hv)))
       have h2 := List.length_take_le k used
       rw [List.length_append]
       omega)
      obtain ⟨ts, id⟩ := y
      dsimp only at e0 e1
      subst hua
      obtain ⟨wm, hwm⟩ : ∃ wb, wb = wo.alloc (.cells #[.int .i64 ts, .int .u64 (id : Int)] 82) := ⟨_, rfl⟩
      obtain ⟨gm, hgm⟩ : ∃ gb, gb = wo.heap.size := ⟨_, rfl⟩
      have hbm : Below wo.heap.size wo wm := by rw [hwm]; exact bal (Below.refl _ _) (Nat.le_refl _) _
      have hFm : Blk wm gm 82 [.int .i64 ts, .int .u64 (id : Int)] := by rw [hwm, hgm]; exact Blk.new wo _ 82
      have HBM := Lib.hid (HBG.out.trans (hbm.mono HGS.out))
      have HGM := Lib.hid (Nat.le_trans HGS.out hbm.size)
      have HBTM := Lib.hid (HBT.out.below hbm)
      have HC := Lib.hid (sname_any g g ⟨ts, id⟩ _ wm HYB.out (by have := HLEN.out; omega) HGM.out HBTM.out)
      simp only [nmc] at HC
      clear hbg hy hyb hbm
      go_upto_region 23 with fail
      rw [← hwm, ← hgm]
      clear hwm hgm e0 e1
      have m0 := hFm.ci 0 rfl
      have m1 := hFm.ci 1 rfl
      clear hFm
      go_wp2_with fail
      refine (HC.out).mono ?_
      rintro e wn ⟨rfl, hp⟩
      have HP1 := Lib.hid hp.1
      have HP2 := Lib.hid (HBM.out.trans hp.2.1)
      have HP3 := Lib.hid (Nat.le_trans HGM.out hp.2.1.size)
      clear m0 m1 hp
      go_wp2_with fail
      go_roundw
      case rel => exact ⟨k + 1, hlt, by go_num, by rw [HTK.out, ← List.append_assoc]; exact HP1.out, HP2.out, HP3.out⟩
      case measure => exact HME.out
     ·have hk' : ¬ (k : Int) < nu := by omega
      obtain rfl : nu = k := by omega
      have HBB := Lib.hid (show bodyL X tx = L14 ++ used.flatMap byName by
       rw [HL14.out, HL13.out, HL12.out, HL11.out, HL10.out, HL9.out, HL8.out, HL7.out, HL6.out, HL5.out, HL4.out, HX.out, HSC.out, HNW.out, HNU.out]
       unfold bodyL byMts byNames
       dsimp only
       rw [HCP.out]
       simp only [List.append_assoc, List.nil_append, Int.toNat_natCast])
      have HBT := Lib.hid (show Bt g g (bodyL X tx) wo by
       have h := HBT.out
       rw [List.take_of_length_le (by rw [HNU.out]; exact Nat.le_refl _)] at h
       rw [HBB.out]; exact h)
      have HBL := Lib.hid (show (bodyL X tx).length ≤ 47000000000000 by
       have h1 := flat_le byName 20 used (fun v hv => byName_le20 (HUB.out v hv))
       rw [HBB.out, List.length_append]
       have h2 : used.length = nu := HNU.out.symm
       omega)
      clear hbg HBT0 HBG0 HGS0
      have HMG := Lib.hid (show Calls Tryz.prog 29 #[] wo (fun e w' => e = .returned (.agg #[.int .u8 83, .int .u8 76, .int .u8 85, .int .u8 73, .int .u8 67, .int .u8 69, .int .u8 10, .int .u8 2]) ∧ Below wo.heap.size wo w') from magic_any wo)
      go_wp2_with fail
      refine (HMG.out).mono ?_
      rintro e wp ⟨rfl, hbp⟩
      obtain ⟨hg0, aO, cO, n, hn, hk, ho, hne⟩ := HBT.out.below hbp
      obtain ⟨wq, hwq⟩ : ∃ wb, wb = wp.alloc (.cells #[.int .u8 83, .int .u8 76, .int .u8 85, .int .u8 73, .int .u8 67, .int .u8 69, .int .u8 10, .int .u8 2] 84) := ⟨_, rfl⟩
      obtain ⟨gw, hgw⟩ : ∃ gb, gb = wp.heap.size := ⟨_, rfl⟩
      have hbq : Below wp.heap.size wp wq := by rw [hwq]; exact bal (Below.refl _ _) (Nat.le_refl _) _
      have hFq : Blk wq gw 84 [.int .u8 83, .int .u8 76, .int .u8 85, .int .u8 73, .int .u8 67, .int .u8 69, .int .u8 10, .int .u8 2] := by rw [hwq, hgw]; exact Blk.new wp _ 84
      have HRQ := Lib.hid (show Rd wq (some ⟨gw, 0, none⟩) (magicB.map B) from hFq.rd)
      have HKQ := Lib.hid (hk.below hbq)
      have HRO := Lib.hid ((ownsRow_rd ho).below hbq)
      have HN := Lib.hid hn
      have hn48 : n ≤ 47000000000000 := by rw [← hn]; exact HBL.out
      have HBQ := Lib.hid (show Below w.heap.size w wq from by
       have h1 : Below w0.heap.size w0 wo := HB3.out.trans (HBG.out.mono (by rw [HG.out]; exact HB3.out.size))
       have h2 := h1.trans ((hbp.trans (hbq.mono hbp.size)).mono h1.size)
       exact HB0.out.trans (h2.mono HB0.out.size))
      clear hbp hg0 hn hk ho hne hbq hFq
      go_upto_region 26 with fail
      rw [← hwq, ← hgw]
      clear hwq hgw
      go_upto_region 27 with (first | (at_builtin; refine app_y wq rfl _ _ rfl wq.heap.size (.slice none 0 0) 0 [] rfl (by simpa using World.ownsRow_nil wq wq.heap.size 5 1) _ 8 8 magicB rfl rfl HRQ.out (by omega) (Nat.le_refl _) ?_; intro a1 c1 w1 hown1 hb1) | fail)
      have HB1Q := Lib.hid hb1
      have HBE := Lib.hid (show Calls Tryz.prog 30 #[.slice a1 8 c1, .int .u64 (n : Int), .int .i64 8] w1 _ from bigEndian_any wq.heap.size a1 c1 8 n 8 magicB w1 (by omega) (Nat.le_refl _) rfl (by omega) hb1.size hown1)
      have k0 := (HKQ.out.below hb1).ci 0 rfl
      have hcw : IntKind.u64.wrap (n : Int) = n := by rw [IntKind.wrap_u64]; omega
      clear hown1 hb1
      go_wp2_with fail
      refine (HBE.out).mono ?_
      rintro e w2 ⟨a2, c2, m2, hm2, rfl, hown2, hb2⟩
      have hm2' : m2 ≤ 16 := by rw [← hm2, List.length_append, hiB_len]; exact Nat.le_refl _
      have HB2Q := Lib.hid (HB1Q.out.trans hb2)
      have HM2 := Lib.hid hm2
      have HS2 := Lib.hid (Nat.le_trans HB1Q.out.size hb2.size)
      have k1 := (HKQ.out.below HB2Q.out).ci 0 rfl
      have HRO2 := Lib.hid (HRO.out.below HB2Q.out)
      clear k0 hcw hm2 hb2
      go_upto_region 29 with (first | (at_builtin; refine app_y w2 rfl _ _ rfl wq.heap.size (.slice a2 m2 c2) m2 _ rfl hown2 aO n cO (bodyL X tx) rfl HN.out HRO2.out (by omega) HS2.out ?_; intro a3 c3 w5' hown3 hb3) | fail)
      have HHD := Lib.hid (show magicB ++ hiB n 8 ++ bodyL X tx = headL (bodyL X tx) by unfold headL; rw [HN.out])
      rw [HHD.out] at hown3
      have HB3Q := Lib.hid (HB2Q.out.trans hb3)
      have hm3 : (headL (bodyL X tx)).length = m2 + n := by rw [← HHD.out, List.length_append, HM2.out, HN.out]
      have HSU := Lib.hid (psum_any a3 c3 (m2 + n) (headL (bodyL X tx)) w5' hm3 (by omega) (ownsRow_rd hown3))
      have HSL := Lib.hid (sumN_lt (headL (bodyL X tx)))
      obtain ⟨sm, hsm⟩ : ∃ s, s = sumN (headL (bodyL X tx)) := ⟨_, rfl⟩
      rw [← hsm] at HSU HSL
      have HSM := Lib.hid hsm
      have hsl := HSL.out
      have HBE2 := Lib.hid (show Calls Tryz.prog 30 #[.slice a3 (m2 + n) c3, .int .u64 (sm : Int), .int .i64 4] w5' _ from bigEndian_any wq.heap.size a3 c3 (m2 + n) sm 4 (headL (bodyL X tx)) w5' (by omega) (by omega) hm3 (by omega) (Nat.le_trans HS2.out hb3.size) hown3)
      have hcw : IntKind.u64.wrap (sm : Int) = sm := by rw [IntKind.wrap_u64]; omega
      clear hown2 hown3 hb3 hm3 hsm k1 hsl
      go_wp2_with fail
      refine (HSU.out).mono ?_
      rintro e w5' ⟨rfl, rfl⟩
      go_wp2_with fail
      refine (HBE2.out).mono ?_
      rintro e w6' ⟨a4, c4, m4, hm4, rfl, hown4, hb4⟩
      have HM4 := Lib.hid hm4
      have HR4 := Lib.hid (ownsRow_rd hown4)
      have HBF := Lib.hid (show Below w.heap.size w w6' from HBQ.out.trans ((HB3Q.out.trans hb4).mono HBQ.out.size))
      clear hm4 hown4 hb4 hcw
      go_wp2_with fail
      go_ret2
      exact ⟨.inr ⟨tx, a4, c4, m4, HOK.out, by rw [HX.out]; exact HTXE.out, by unfold imageL; rw [← HSM.out]; exact HM4.out, rfl, by unfold imageL; rw [← HSM.out]; exact HR4.out⟩, HBF.out⟩
end Go.Proofs.YtfglgpbjjpoimaaGreatDoor
