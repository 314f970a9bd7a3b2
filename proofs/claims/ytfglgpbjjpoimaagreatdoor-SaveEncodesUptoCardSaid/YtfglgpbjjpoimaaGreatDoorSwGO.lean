/- SaveEncodes: the writer's text. -/
import Derived.Test.YtfglgpbjjpoimaaGreatDoorSwGK
import Derived.Test.YtfglgpbjjpoimaaGreatDoorSwV2
import Derived.Test.YtfglgpbjjpoimaaGreatDoorSwGL
import Derived.Deep.CutBlock
import Derived.Deep.CutRange
set_option linter.unusedVariables false
namespace Go.Proofs.YtfglgpbjjpoimaaGreatDoor
open Go.RowKit Sv
set_option maxHeartbeats 1000000 in
theorem wtext_any (base g : Nat) (s : S) (w : World) (hb : base ≤ w.heap.size) (h : Wt base g s w) (hl : Ld w) (hok : s.out.length ≤ 400 → (∀ t ∈ s.out, TkOK t) ∧ (∀ t ∈ s.out, (spell fmtI t).length ≤ 100) ∧ joinT fmtI s.out ≠ []) :
  Calls Tryz.prog 68 #[.pointer (some ⟨g, 0, none⟩)] w fun e w' => ∃ (r : Int) (tx : Str), e = .returned (.tuple #[T tx, .int .i64 r]) ∧ (r = 0 ↔ (textS fmtI s).isSome = true) ∧ (∀ y, textS fmtI s = some y → tx = y) ∧ Below w.heap.size w w' := by
 have hfull := full_any base g s w h
 have hc2 := h.c2
 obtain ⟨_, a, c, hk, hown, _⟩ := h
 have hc0 := hk.ci 0 rfl
 have hr := ownsRow_rd hown
 have HR := Lib.hid hr
 have HOK := Lib.hid hok
 have HL := Lib.hid hl
 obtain ⟨d, hd⟩ : ∃ d, d = s.deep := ⟨_, rfl⟩
 rw [← hd] at hc2
 have HD := Lib.hid hd
 clear hk hown hr hok hl hd
 by_cases hbig : 400 < s.out.length
 ·have hN : textS fmtI s = none := by unfold textS; rw [if_pos hbig]
  have HN := Lib.hid hN
  have hf : s.full = true := by rw [S.full_iff]; exact hbig
  rw [hf] at hfull
  clear hN hf hbig
  go_enter Tryz.func68, Tryz.ntmps68
  go_wp2_with fail
  refine hfull.mono ?_
  rintro e w' ⟨rfl, rfl⟩
  go_wp2_with fail
  go_ret2
  exact ⟨51, [], rfl, by rw [HN.out]; simp, by rw [HN.out]; simp, Below.refl _ _⟩
 ·have hf : s.full = false := by
   cases hq : s.full with
   | false => rfl
   | true => exact absurd ((S.full_iff s).1 hq) hbig
  rw [hf] at hfull
  have HSM := Lib.hid (show s.out.length ≤ 400 by omega)
  by_cases hdeep : 32 < d
  ·have hN : textS fmtI s = none := by unfold textS; rw [if_neg hbig, if_pos (by rw [← HD.out]; exact hdeep)]
   have HN := Lib.hid hN
   have hd' : (32 : Int) < d := by omega
   clear hN hbig hf
   go_enter Tryz.func68, Tryz.ntmps68
   go_wp2_with fail
   refine hfull.mono ?_
   rintro e w' ⟨rfl, rfl⟩
   go_wp2_with fail
   go_ret2
   exact ⟨41, [], rfl, by rw [HN.out]; simp, by rw [HN.out]; simp, Below.refl _ _⟩
  ·have hN : textS fmtI s = some (joinT fmtI s.out) := by unfold textS; rw [if_neg hbig, if_neg (by rw [← HD.out]; exact hdeep)]
   have HN := Lib.hid hN
   have hd' : ¬ (32 : Int) < d := by omega
   clear hN hbig hf
   obtain ⟨hok1, hok2, hok3⟩ := HOK.out HSM.out
   have HJ := Lib.hid (lexJoin_any a c s.out.length s.out w rfl (by have := HSM.out; omega) HL.out HR.out hok1 hok2 hok3)
   clear hok1 hok2 hok3
   obtain ⟨n, hn⟩ : ∃ n, n = s.out.length := ⟨_, rfl⟩
   have HJ := Lib.hid (by have h := HJ.out; rw [← hn] at h; exact h)
   rw [← hn] at hc0
   clear hn
   go_enter Tryz.func68, Tryz.ntmps68
   go_wp2_with fail
   refine hfull.mono ?_
   rintro e w' ⟨rfl, rfl⟩
   go_wp2_with fail
   refine (HJ.out).mono ?_
   rintro e w2 ⟨rfl, hb2⟩
   have HB2 := Lib.hid hb2
   clear hb2
   go_wp2_with fail
   go_ret2
   exact ⟨0, joinT fmtI s.out, rfl, by rw [HN.out]; simp, by rw [HN.out]; intro y hy; exact Option.some.inj hy, HB2.out⟩
end Go.Proofs.YtfglgpbjjpoimaaGreatDoor
/- SaveEncodes: the program's Print. -/
set_option linter.unusedVariables false
namespace Go.Proofs.YtfglgpbjjpoimaaGreatDoor
open Go.RowKit Sv
theorem RdN.ofI {w : World} {x : Qm} (h : RdQ w x) : RdN w x.wa x.wher := h.2.1
/-- What Print answers. -/
def PrintR (q : Qy) (w : World) (e : Ending) (w' : World) : Prop := ∃ (r : Int) (tx : Str), e = .returned (.tuple #[T tx, .int .i64 r]) ∧ (r = 0 ↔ shapedQ (nameB kwsL) q = true ∧ (ansR fmtI q).isSome = true) ∧ (r = 0 → ansR fmtI q = some tx) ∧ Below w.heap.size w w'
set_option maxHeartbeats 4000000 in
set_option maxRecDepth 20000 in
theorem print_any (x : Qm) (w : World) (hl : Ld w) (h : RdQ w x) (hB : QB x) (hi : QI x.q) : Calls Tryz.prog 19 #[.agg (qmc x).toArray] w (PrintR x.q w) := by
 have hBn := hB.items
 have hBw := hB.wher
 have hBr := hB.ret
 obtain ⟨w0, hw0⟩ : ∃ w0, w0 = w.alloc (.cells (qmc x).toArray 31) := ⟨_, rfl⟩
 have hb0 : Below w.heap.size w w0 := by rw [hw0]; exact (Below.refl _ _).alloc (Nat.le_refl _) _
 have hE0 : Blk w0 w.heap.size 31 (qmc x) := by rw [hw0]; exact Blk.new w _ 31
 have hshp := shaped_any x w0 (hl.kw.below hb0) (h.below hb0) hB
 have HL := Lib.hid (hl.below hb0)
 have HR := Lib.hid (h.below hb0)
 have HQB := Lib.hid hB
 have HQI := Lib.hid hi
 obtain ⟨q, hq⟩ : ∃ q, q = x.q := ⟨_, rfl⟩
 have HQ := Lib.hid hq
 rw [← hq] at hshp ⊢
 clear hb0 hl h hB hi hq
 obtain ⟨items, ia, ic, mode, after, wher, wwa, wcap, within, by_, ret, ra, rc⟩ := x
 dsimp only at hBn hBw hBr
 obtain ⟨n, hn⟩ : ∃ n, n = items.length := ⟨_, rfl⟩
 obtain ⟨nw, hnw⟩ : ∃ n, n = wher.length := ⟨_, rfl⟩
 obtain ⟨nr, hnr⟩ : ∃ n, n = ret.length := ⟨_, rfl⟩
 simp only [qmc, T, ← hn, ← hnw, ← hnr] at hshp hE0 hw0 ⊢
 rw [← hn] at hBn
 rw [← hnw] at hBw
 rw [← hnr] at hBr
 have HN := Lib.hid hn
 have HNW := Lib.hid hnw
 have HNR := Lib.hid hnr
 have HE := Lib.hid hE0
 have HSHP := Lib.hid hshp
 obtain ⟨gq, hgq⟩ : ∃ gq, gq = w.heap.size := ⟨_, rfl⟩
 have HGQ := Lib.hid hgq
 have HB0 := Lib.hid (show Below w.heap.size w w0 by rw [hw0]; exact (Below.refl _ _).alloc (Nat.le_refl _) _)
 clear hn hnw hnr hE0 hshp
 go_enter Tryz.func19, Tryz.ntmps19
 go_wp2_with fail
 rw [← hw0]
 refine (HSHP.out).mono ?_
 rintro e w1 ⟨rfl, hb1⟩
 cases hsp : shapedQ (nameB kwsL) q with
 | false =>
  have HSP := Lib.hid hsp
  have HB1 := Lib.hid (HB0.out.trans (hb1.mono HB0.out.size))
  clear hsp hb1 hw0
  go_wp2_with fail
  go_ret2
  exact ⟨50, [], rfl, ⟨fun h => absurd h (by decide), fun h => absurd h.1 (by rw [HSP.out]; simp)⟩, fun h => absurd h (by decide), HB1.out⟩
 | true =>
 obtain ⟨we, re, ht⟩ := trees_of hsp
 have HSP := Lib.hid hsp
 have HTR := Lib.hid ht
 have HB1 := Lib.hid (HB0.out.trans (hb1.mono HB0.out.size))
 rw [← hgq]
 obtain ⟨w2, hw2⟩ : ∃ w2, w2 = w1.alloc (.cells #[.slice none 0 0, .int .i64 0, .int .i64 0] 134) := ⟨_, rfl⟩
 have hb2 : Below w1.heap.size w1 w2 := by rw [hw2]; exact (Below.refl _ _).alloc (Nat.le_refl _) _
 obtain ⟨g, hg⟩ : ∃ g, g = w1.heap.size := ⟨_, rfl⟩
 have hwt : Wt g g ⟨[], 0, 0⟩ w2 := ⟨Nat.le_refl _, none, 0, by rw [hw2, hg]; exact Blk.new w1 [.slice none 0 0, .int .i64 0, .int .i64 0] 134, World.ownsRow_nil _ _ _ _, by simp [Value.ownBlock]⟩
 have HB := Lib.hid (show g ≤ w2.heap.size by rw [hg]; exact hb2.size)
 have HOLD := Lib.hid (show ∀ w', Below g w2 w' → Below w1.heap.size w1 w' from fun w' hb => by rw [hg] at hb; exact hb2.trans hb)
 have HOQ := Lib.hid (show ∀ w', Below g w2 w' → Ld w' ∧ RdQ w' ⟨items, ia, ic, mode, after, wher, wwa, wcap, within, by_, ret, ra, rc⟩ ∧ Blk w' gq 31 [.slice ia n ic, .int .i64 mode, .int .i64 after, .slice wwa nw wcap, .int .i64 within, .string ⟨by_.toArray⟩, .slice ra nr rc] from fun w' hb => by
  have h1 := HOLD.out w' hb
  have h2 := hb1.trans (h1.mono hb1.size)
  exact ⟨HL.out.below h2, HR.out.below h2, by rw [HGQ.out]; exact HE.out.below h2⟩)
 have HP := Lib.hid (WtP.refl hwt)
 have HFB := Lib.hid (show ∀ w', Below g w2 w' → Below w.heap.size w w' from fun w' hb => HB1.out.trans ((HOLD.out w' hb).mono HB1.out.size))
 clear hsp ht hb1 hb2 hwt hw0 hgq
 go_wp2_with fail
 rw [← hw2, ← hg]
 clear hw2 hg
 refine (mark_any' 30 w2).mono ?_
 rintro e w3 ⟨rfl, hb3⟩
 go_wp2_with fail
 refine (mark_any' 31 w3).mono ?_
 rintro e w4 ⟨rfl, hb4⟩
 go_wp2_with fail
 refine (mark_any' 3 w4).mono ?_
 rintro e w5 ⟨rfl, hb5⟩
 have HB5 := Lib.hid (hb3.trans ((hb4.trans (hb5.mono hb4.size)).mono hb3.size))
 clear hb3 hb4 hb5
 go_wp2_with fail
 refine (add_after g g ⟨[], 0, 0⟩ [tk 30, tk 31, tk 3] [.int .i64 30, .string ⟨#[]⟩, .int .i64 0, .int .i64 0, .int .i64 31, .string ⟨#[]⟩, .int .i64 0, .int .i64 0, .int .i64 3, .string ⟨#[]⟩, .int .i64 0, .int .i64 0] 3 w2 w5 HB.out HP.out.1 HB5.out rfl rfl (by simp)).mono ?_
 rintro e w6 ⟨rfl, hp6⟩
 have HP := Lib.hid hp6
 clear hp6
 -- STAGES
 have HQF := Lib.hid (show q.items = items.map (·.i) ∧ q.mode = mode ∧ q.after = after ∧ q.wher = wher ∧ q.within = within ∧ q.by_ = by_ ∧ q.ret = ret.map (·.t) by rw [HQ.out]; exact ⟨rfl, rfl, rfl, rfl, rfl, rfl, rfl⟩)
 obtain ⟨S1, hS1⟩ : ∃ S1 : S, S1 = (⟨[], 0, 0⟩ : S).add [tk 30, tk 31, tk 3] := ⟨_, rfl⟩
 have HS1 := Lib.hid hS1
 have hS1b : S1.out.length = 3 ∧ S1.op = 0 ∧ S1.deep = 0 := by rw [hS1]; exact ⟨rfl, rfl, rfl⟩
 have HS1B := Lib.hid hS1b
 have HP := Lib.hid (show WtP g g S1 w2 w6 by rw [hS1]; exact HP.out)
 clear hS1 hS1b
 go_upto_block 0 with fail
 go_cut [] from 5 (fun wx => ∃ s' : S, WtP g g s' w2 wx ∧ s' = loopS itemS commaT q.items 0 S1 ∧ s'.out.length ≤ 450 ∧ s'.op = 0 ∧ s'.deep = 0)
 case first =>
  go_wp2_with fail
  go_loopw [5] (fun i wr => ∃ (k : Nat) (s' : S), k ≤ n ∧ i = .int .i64 (k : Int) ∧ loopS itemS commaT q.items 0 S1 = loopS itemS commaT (q.items.drop k) k s' ∧ WtP g g s' w2 wr ∧ s'.out.length ≤ 450 ∧ s'.op = 0 ∧ s'.deep = 0) (fun i _ => n - (intOf i).toNat)
  case atStart => exact ⟨0, S1, Nat.zero_le _, rfl, rfl, HP.out, by have := HS1B.out.1; omega, HS1B.out.2.1, HS1B.out.2.2⟩
  case round =>
   obtain ⟨k, s', hkn, rfl, hlo, hp, ho, hop, hde⟩ := hrel
   have HLO := Lib.hid hlo
   have HP := Lib.hid hp
   have HO := Lib.hid (show s'.out.length ≤ 450 ∧ s'.op = 0 ∧ s'.deep = 0 from ⟨ho, hop, hde⟩)
   have hOQ := HOQ.out wr hp.2.1
   have c0 := hOQ.2.2.ci 0 rfl
   clear hlo hp ho hop hde
   by_cases hlt : k < n
   ·have hkl : k < items.length := by rw [← HN.out]; exact hlt
    have hlt' : (k : Int) < n := by omega
    have hk0 : (0 : Int) ≤ k := by omega
    obtain ⟨b, off, rfl, e0, e1, e2, e3, e4⟩ := hOQ.2.1.1.at k hkl
    have hbt := HQB.out.types _ (List.getElem_mem hkl)
    try dsimp only at hbt
    have hold : ∀ w', Below g wr w' → RdS w' items[k].a items[k].i.types := fun w' hb => (HOQ.out w' (HP.out.2.1.trans hb)).2.1.1.2 _ (List.getElem_mem hkl)
    have hdrop : q.items.drop k = items[k].i :: q.items.drop (k + 1) := by
     rw [HQF.out.1, List.drop_eq_getElem_cons (by simpa using hkl), List.getElem_map]
    obtain ⟨y, hy⟩ : ∃ y, y = items[k] := ⟨_, rfl⟩
    rw [← hy] at e0 e1 e2 e3 e4 hbt hold hdrop
    have hlo2 : loopS itemS commaT q.items 0 S1 = if s'.full = true then s' else loopS itemS commaT (q.items.drop (k + 1)) (k + 1) (itemS y.i (s'.add (commaT k))) := by
     rw [HLO.out, hdrop]; rfl
    have HLO2 := Lib.hid hlo2
    have HOLDI := Lib.hid hold
    have HBT := Lib.hid hbt
    have HME := Lib.hid (meas_lt hlt)
    have HKS := Lib.hid (show k + 1 ≤ n from hlt)
    obtain ⟨⟨neg, types, var, lo, hi⟩, ya, yc⟩ := y
    dsimp only at e0 e1 e2 e3 e4
    rw [T] at e2
    have hfull := full_any g g s' wr HP.out.1
    have HY := Lib.hid hy
    clear hlo2 hold hbt hdrop hy hOQ
    go_wp2_with fail
    refine hfull.mono ?_
    rintro e w' ⟨rfl, rfl⟩
    cases hf : s'.full with
    | true =>
     have HF := Lib.hid hf
     clear hf hfull
     go_wp2_with fail
     go_meet
     case rel => exact ⟨s', HP.out, by rw [HLO2.out, if_pos HF.out], HO.out.1, HO.out.2.1, HO.out.2.2⟩
    | false =>
     have HF := Lib.hid hf
     have HLE := Lib.hid (show s'.out.length ≤ 400 by
      have : ¬ s'.full = true := by rw [hf]; simp
      rw [S.full_iff] at this
      omega)
     clear hf hfull
     by_cases hk00 : k = 0
     ·have hk0' : ¬ (0 : Int) < k := by omega
      have HCO := Lib.hid (show s'.add (commaT k) = s' by rw [hk00]; exact S.add_nil s')
      clear hk00
      go_wp2_with fail
      refine (witem_any g g ⟨⟨neg, types, var, lo, hi⟩, ya, yc⟩ s' w' (Nat.le_trans HB.out HP.out.2.1.size) HP.out.1 HOLDI.out HBT.out (by have := HLE.out; omega)).mono ?_
      rintro e w5 ⟨rfl, hp5⟩
      have HP5 := Lib.hid (HP.out.trans hp5)
      have HBD := Lib.hid (item_bd ⟨neg, types, var, lo, hi⟩ s')
      clear hp5
      go_wp2_with fail
      go_roundw
      case rel => exact ⟨k + 1, _, HKS.out, by go_num, by rw [HLO2.out, if_neg (by rw [HF.out]; simp), HCO.out], HP5.out, by have h1 := HBD.out.1; have := HLE.out; omega, by rw [HBD.out.2.1]; exact HO.out.2.1, by rw [HBD.out.2.2]; exact HO.out.2.2⟩
      case measure => exact HME.out
     ·have hk0' : (0 : Int) < k := by omega
      have HCO := Lib.hid (show s'.add (commaT k) = s'.add [tk 7] by unfold commaT; rw [if_pos (by omega)])
      clear hk00
      go_wp2_with fail
      refine (mark_any' 7 w').mono ?_
      rintro e wm ⟨rfl, hbm⟩
      have HBM := Lib.hid hbm
      clear hbm
      go_wp2_with fail
      refine (add_after g g s' [tk 7] [.int .i64 7, .string ⟨#[]⟩, .int .i64 0, .int .i64 0] 1 w' wm (Nat.le_trans HB.out HP.out.2.1.size) HP.out.1 HBM.out rfl rfl (by have := HLE.out; omega)).mono ?_
      rintro e wn ⟨rfl, hpn⟩
      have HPW := Lib.hid hpn
      have HP := Lib.hid (HP.out.trans hpn)
      have hOQ := HOQ.out wn HP.out.2.1
      have c0 := hOQ.2.2.ci 0 rfl
      clear hpn e0 e1 e2 e3 e4
      obtain ⟨b', off', he', e0, e1, e2, e3, e4⟩ := hOQ.2.1.1.at k hkl
      cases he'
      rw [← HY.out] at e0 e1 e2 e3 e4
      dsimp only at e0 e1 e2 e3 e4
      rw [T] at e2
      clear hOQ
      go_wp2_with fail
      refine (witem_any g g ⟨⟨neg, types, var, lo, hi⟩, ya, yc⟩ (s'.add [tk 7]) wn (Nat.le_trans HB.out HP.out.2.1.size) HP.out.1 (fun w3 h3 => HOLDI.out w3 (HPW.out.2.1.trans h3)) HBT.out (by have := HLE.out; rw [S.add_len]; simp only [List.length_cons, List.length_nil]; omega)).mono ?_
      rintro e w5 ⟨rfl, hp5⟩
      have HP5 := Lib.hid (HP.out.trans hp5)
      have HBD := Lib.hid (item_bd ⟨neg, types, var, lo, hi⟩ (s'.add [tk 7]))
      clear hp5
      go_wp2_with fail
      go_roundw
      case rel => exact ⟨k + 1, _, HKS.out, by go_num, by rw [HLO2.out, if_neg (by rw [HF.out]; simp), HCO.out], HP5.out, by have h1 := HBD.out.1; have := HLE.out; rw [S.add_len] at h1; simp only [List.length_cons, List.length_nil] at h1; omega, by rw [HBD.out.2.1]; exact HO.out.2.1, by rw [HBD.out.2.2]; exact HO.out.2.2⟩
      case measure => exact HME.out
   ·have hk' : ¬ (k : Int) < n := by omega
    have HL2 := Lib.hid (show loopS itemS commaT q.items 0 S1 = s' by
     rw [HLO.out, List.drop_eq_nil_of_le (by rw [HQF.out.1, List.length_map, ← HN.out]; omega)]; rfl)
    go_wp2_with fail
    go_meet
    case rel => exact ⟨s', HP.out, HL2.out.symm, HO.out.1, HO.out.2.1, HO.out.2.2⟩
 case rest =>
  obtain ⟨s2, hp, hs2, ho, hop, hde⟩ := hcut
  have HP := Lib.hid hp
  have HS2 := Lib.hid hs2
  have HO := Lib.hid (show s2.out.length ≤ 450 ∧ s2.op = 0 ∧ s2.deep = 0 from ⟨ho, hop, hde⟩)
  clear hp hs2 ho hop hde
  go_wp2_with fail
  refine (mark_any' 4 wc).mono ?_
  rintro e w7 ⟨rfl, hbm⟩
  have HBM := Lib.hid hbm
  clear hbm
  go_wp2_with fail
  refine (add_after g g s2 [tk 4] [.int .i64 4, .string ⟨#[]⟩, .int .i64 0, .int .i64 0] 1 wc w7 (Nat.le_trans HB.out HP.out.2.1.size) HP.out.1 HBM.out rfl rfl (by have := HO.out.1; omega)).mono ?_
  rintro e w8 ⟨rfl, hpn⟩
  have HP := Lib.hid (HP.out.trans hpn)
  clear hpn
  have hOQ := HOQ.out w8 HP.out.2.1
  have c1 := hOQ.2.2.ci 1 rfl
  clear hOQ
  go_upto_if 49 with fail
  go_cut [] from 5 (fun wx => WtP g g ((s2.add [tk 4]).add (modeT q)) w2 wx)
  case first =>
   by_cases hm : mode = 0
   ·have HM := Lib.hid (show (s2.add [tk 4]).add (modeT q) = s2.add [tk 4] by unfold modeT; rw [HQF.out.2.1, if_pos hm]; exact S.add_nil _)
    subst hm
    go_wp2_with fail
    go_meet
    case rel => rw [HM.out]; exact HP.out
   ·have HM := Lib.hid (show modeT q = [tk 32, tk (33 + mode)] by unfold modeT; rw [HQF.out.2.1, if_neg hm])
    have hm1 : (mode == 0) = false := by simpa using hm
    have hm2 : (mode != 0) = true := by simpa using hm
    have hm3 : 0 ≤ mode ∧ mode ≤ 2 := by
     have := HSP.out
     unfold shapedQ at this
     simp only [Bool.and_eq_true, decide_eq_true_eq] at this
     rw [HQF.out.2.1] at this
     exact ⟨this.1.1.1.1.1.1.1.1.2, this.1.1.1.1.1.1.1.2⟩
    have hm4 := hm3.1
    have hm5 := hm3.2
    have hwr : IntKind.i64.wrap (33 + mode) = 33 + mode := by
     have : mode = 1 ∨ mode = 2 := by omega
     rcases this with h | h <;> rw [h] <;> rfl
    have HBW := Lib.hid (show Below w8.heap.size w8 w8.drew from (Below.refl _ _).drew)
    have HKQ := Lib.hid (HOQ.out w8 HP.out.2.1).2.2
    have d1 := HKQ.out.drew.ci 1 rfl
    clear hm hm3
    go_wp2_with fail
    go_region_law (first
     | (go_simp; go_at_call 62; refine (mark_any' _ _).mono ?_; rintro e w5' ⟨rfl, hb5⟩; (have HBW := Lib.hid (HBW.out.trans (hb5.mono HBW.out.size))); (have d1 := (HKQ.out.below HBW.out).ci 1 rfl); clear hb5)
     | (go_simp; go_at_call 61; refine (add_after g g (s2.add [tk 4]) [tk 32, tk (33 + mode)] [.int .i64 32, .string ⟨#[]⟩, .int .i64 0, .int .i64 0, .int .i64 (33 + mode), .string ⟨#[]⟩, .int .i64 0, .int .i64 0] 2 w8 _ (Nat.le_trans HB.out HP.out.2.1.size) HP.out.1 HBW.out rfl rfl (by have := HO.out.1; rw [S.add_len]; simp only [List.length_cons, List.length_nil]; omega)).mono ?_; rintro e w6' ⟨rfl, hp6⟩; (have HP6 := Lib.hid (HP.out.trans hp6)); clear hp6))
    all_goals (
     go_wp2_with fail
     go_meet
     case rel => rw [HM.out]; exact HP6.out)
  case rest =>
   have HP := Lib.hid hcut
   have HO3 := Lib.hid (show ((s2.add [tk 4]).add (modeT q)).out.length ≤ 460 by
    have : (modeT q).length ≤ 2 := by unfold modeT; split <;> simp
    have := HO.out.1
    rw [S.add_len, S.add_len]; simp only [List.length_cons, List.length_nil]; omega)
   obtain ⟨s4, hs4⟩ : ∃ s4, s4 = (s2.add [tk 4]).add (modeT q) := ⟨_, rfl⟩
   have HS4 := Lib.hid hs4
   have HS4B := Lib.hid (show s4.op = 0 ∧ s4.deep = 0 by rw [hs4]; exact HO.out.2)
   have HP := Lib.hid (show WtP g g s4 w2 wc by rw [hs4]; exact HP.out)
   have HO4 := Lib.hid (show s4.out.length ≤ 460 by rw [hs4]; exact HO3.out)
   clear hcut c1 hs4
   have hOQ := HOQ.out wc HP.out.2.1
   have c2 := hOQ.2.2.ci 2 rfl
   clear hOQ
   go_upto_if 60 with fail
   go_cut [] from 5 (fun wx => WtP g g (s4.add (afterT q)) w2 wx)
   case first =>
    by_cases hm : after = 0
    ·have HM := Lib.hid (show s4.add (afterT q) = s4 by unfold afterT; rw [HQF.out.2.2.1, if_pos hm]; exact S.add_nil _)
     subst hm
     go_wp2_with fail
     go_meet
     case rel => rw [HM.out]; exact HP.out
    ·have hm1 : (after == 0) = false := by simpa using hm
     have hm2 : (after != 0) = true := by simpa using hm
     have hm3 : 0 ≤ after ∧ after ≤ 3 := by
      have := HSP.out
      unfold shapedQ at this
      simp only [Bool.and_eq_true, decide_eq_true_eq] at this
      rw [HQF.out.2.2.1] at this
      exact ⟨this.1.1.1.1.1.1.2, this.1.1.1.1.1.2⟩
     obtain ⟨j, rfl⟩ : ∃ j : Nat, after = j := ⟨after.toNat, by omega⟩
     have hj4 : j < 4 := by omega
     have hj5 : (j : Int) < 4 := by omega
     have hj6 : (0 : Int) ≤ j := by omega
     have hav : aftersL.getD ((j : Int)).toNat 0 = aftersL[j]'(by simpa [aftersL] using hj4) := by
      rw [Int.toNat_natCast, List.getD_eq_getElem?_getD, List.getElem?_eq_getElem (by simpa [aftersL] using hj4)]; rfl
     obtain ⟨av, hav2⟩ : ∃ av, av = aftersL[j]'(by simpa [aftersL] using hj4) := ⟨_, rfl⟩
     have HM := Lib.hid (show afterT q = [tk 53, tk av] by unfold afterT; rw [HQF.out.2.2.1, if_neg hm, hav, hav2])
     have HAF := Lib.hid (show ∀ w', Below g w2 w' → w'.cell? ⟨1, j, none⟩ = some (.int .i64 av) from fun w' hb => by
      have h1 := (HOQ.out w' hb).1.aft j (by simpa [aftersL] using hj4)
      rw [List.getElem_map, ← hav2] at h1
      exact h1)
     have HBW := Lib.hid (show Below wc.heap.size wc wc.drew from (Below.refl _ _).drew)
     have HKQ := Lib.hid (HOQ.out wc HP.out.2.1).2.2
     have hgw : g ≤ wc.heap.size := Nat.le_trans HB.out HP.out.2.1.size
     have HGW := Lib.hid hgw
     have d2 := HKQ.out.drew.ci 2 rfl
     have a2 : wc.drew.cell? ⟨1, j, none⟩ = some (.int .i64 av) := HAF.out wc HP.out.2.1
     clear hm hm3 hav hav2 c2
     go_wp2_with fail
     go_region_law (first
      | (go_simp; go_at_call 62; refine (mark_any' _ _).mono ?_; rintro e w5' ⟨rfl, hb5⟩; (have HBW := Lib.hid (HBW.out.trans (hb5.mono HBW.out.size))); (have d2 := (HKQ.out.below HBW.out).ci 2 rfl); (have a2 := HAF.out _ (HP.out.2.1.trans (HBW.out.mono HGW.out))); clear hb5)
      | (go_simp; go_at_call 61; refine (add_after g g s4 [tk 53, tk av] [.int .i64 53, .string ⟨#[]⟩, .int .i64 0, .int .i64 0, .int .i64 av, .string ⟨#[]⟩, .int .i64 0, .int .i64 0] 2 wc _ (Nat.le_trans HB.out HP.out.2.1.size) HP.out.1 HBW.out rfl rfl (by have := HO4.out; omega)).mono ?_; rintro e w6' ⟨rfl, hp6⟩; (have HP6 := Lib.hid (HP.out.trans hp6)); clear hp6))
     all_goals (
      go_wp2_with fail
      go_meet
      case rel => rw [HM.out]; exact HP6.out)
   case rest =>
    have HP := Lib.hid hcut
    obtain ⟨s5, hs5⟩ : ∃ s5, s5 = s4.add (afterT q) := ⟨_, rfl⟩
    have HS5 := Lib.hid hs5
    have HP := Lib.hid (show WtP g g s5 w2 wc by rw [hs5]; exact HP.out)
    have HO5 := Lib.hid (show s5.out.length ≤ 470 ∧ s5.op = 0 ∧ s5.deep = 0 by
     have : (afterT q).length ≤ 2 := by unfold afterT; split <;> simp
     have := HO4.out
     rw [hs5, S.add_len]
     exact ⟨by omega, HS4B.out.1, HS4B.out.2⟩)
    clear hcut c2 hs5
    have hOQ := HOQ.out wc HP.out.2.1
    have c3 := hOQ.2.2.ci 3 rfl
    clear hOQ
    go_upto_if 73 with fail
    go_cut [] from 5 (fun wx => ∃ s6 : S, WtP g g s6 w2 wx ∧ s6 = whereS we s5 ∧ s6.out.length ≤ 9000000 ∧ s6.op = 0 ∧ s6.deep ≤ 3000000)
    case first =>
     by_cases hw : nw = 0
     ·have HM := Lib.hid (show whereS we s5 = s5 by
       have : we = none := HTR.out.none_ (by rw [HQF.out.2.2.2.1]; exact List.eq_nil_of_length_eq_zero (by rw [← HNW.out]; exact hw))
       rw [this]; rfl)
      subst hw
      go_wp2_with fail
      go_meet
      case rel => exact ⟨s5, HP.out, HM.out.symm, by have := HO5.out.1; omega, HO5.out.2.1, by have := HO5.out.2.2; omega⟩
     ·have hw' : (0 : Int) < nw := by omega
      have hne : q.wher ≠ [] := by
       rw [HQF.out.2.2.2.1]
       intro h
       have := HNW.out
       rw [h] at this
       exact hw this
      obtain ⟨ee, he, hsh, hsz⟩ := HTR.out.some_ hne
      rw [HQF.out.2.2.2.1] at hsh hsz
      have HSH := Lib.hid hsh
      have HSZ := Lib.hid hsz
      have HM := Lib.hid (show whereS we s5 = treeS ee (s5.add [tk 36]) by rw [he]; rfl)
      have HTB := Lib.hid (tree_bd ee (s5.add [tk 36]))
      have HEN := Lib.hid (show ee.size ≤ 1048576 by rw [hsz, ← HNW.out]; exact hBw)
      clear hw hne he hsh hsz
      go_wp2_with fail
      refine (mark_any' 36 wc).mono ?_
      rintro e w7 ⟨rfl, hbm⟩
      have HBM := Lib.hid hbm
      clear hbm
      go_wp2_with fail
      refine (add_after g g s5 [tk 36] [.int .i64 36, .string ⟨#[]⟩, .int .i64 0, .int .i64 0] 1 wc w7 (Nat.le_trans HB.out HP.out.2.1.size) HP.out.1 HBM.out rfl rfl (by have := HO5.out.1; omega)).mono ?_
      rintro e w8 ⟨rfl, hpn⟩
      have HP := Lib.hid (HP.out.trans hpn)
      clear hpn
      have hOQ := HOQ.out w8 HP.out.2.1
      have c3 := hOQ.2.2.ci 3 rfl
      clear hOQ
      go_wp2_with fail
      refine (wtree_any g g wwa wcap nw wher ee HSH.out HSZ.out HNW.out.symm hBw (s5.add [tk 36]) w8 (Nat.le_trans HB.out HP.out.2.1.size) HP.out.1 (fun w' hb => ⟨(HOQ.out w' (HP.out.2.1.trans hb)).1, (HOQ.out w' (HP.out.2.1.trans hb)).2.1.2.1⟩) (by rw [S.add_len]; have := HO5.out.1; simp only [List.length_cons, List.length_nil]; omega) HO5.out.2.1 (by show s5.deep ≤ _; have := HO5.out.2.2; omega)).mono ?_
      rintro e w9 ⟨rfl, hp9⟩
      have HP9 := Lib.hid (HP.out.trans hp9)
      clear hp9
      go_wp2_with fail
      go_meet
      case rel => exact ⟨_, HP9.out, HM.out.symm, by
       have h1 := HTB.out.1
       rw [S.add_len] at h1
       have := HO5.out.1
       have := HEN.out
       simp only [List.length_cons, List.length_nil] at h1
       omega, by rw [HTB.out.2.1]; exact HO5.out.2.1, by
       have h1 := HTB.out.2.2
       have h2 : (s5.add [tk 36]).deep = 0 := HO5.out.2.2
       have h3 : (s5.add [tk 36]).op = 0 := HO5.out.2.1
       have := HEN.out
       omega⟩
    case rest =>
     obtain ⟨s6, hp, hs6, ho, hop, hde⟩ := hcut
     have HP := Lib.hid hp
     have HS6 := Lib.hid hs6
     have HO6 := Lib.hid (show s6.out.length ≤ 9000000 ∧ s6.op = 0 ∧ s6.deep ≤ 3000000 from ⟨ho, hop, hde⟩)
     clear hp hs6 ho hop hde c3
     go_upto_region 19 with fail
     go_cut [] from 5 (fun wx => WtP g g (s6.add (withinT q)) w2 wx)
     case first =>
      have HM := Lib.hid (show withinT q = [tk 37, num within] by unfold withinT; rw [HQF.out.2.2.2.2.1])
      have HBW := Lib.hid (show Below wc.heap.size wc wc.drew from (Below.refl _ _).drew)
      have HKQ := Lib.hid (HOQ.out wc HP.out.2.1).2.2
      have d4 := HKQ.out.drew.ci 4 rfl
      go_region_law (first
       | (go_simp; go_at_call 62; refine (mark_any' _ _).mono ?_; rintro e w5' ⟨rfl, hb5⟩; (have HBW := Lib.hid (HBW.out.trans (hb5.mono HBW.out.size))); (have d4 := (HKQ.out.below HBW.out).ci 4 rfl); clear hb5)
       | (go_simp; go_at_call 66; refine (number_any' _ _).mono ?_; rintro e w5' ⟨rfl, hb5⟩; (have HBW := Lib.hid (HBW.out.trans (hb5.mono HBW.out.size))); (have d4 := (HKQ.out.below HBW.out).ci 4 rfl); clear hb5)
       | (go_simp; go_at_call 61; refine (add_after g g s6 [tk 37, num within] [.int .i64 37, .string ⟨#[]⟩, .int .i64 0, .int .i64 0, .int .i64 2, .string ⟨#[]⟩, .int .i64 within, .int .i64 0] 2 wc _ (Nat.le_trans HB.out HP.out.2.1.size) HP.out.1 HBW.out rfl rfl (by have := HO6.out.1; omega)).mono ?_; rintro e w6' ⟨rfl, hp6⟩; (have HP6 := Lib.hid (HP.out.trans hp6)); clear hp6))
      all_goals (
       go_wp2_with fail
       go_meet
       case rel => rw [HM.out]; exact HP6.out)
     case rest =>
      have HP := Lib.hid hcut
      obtain ⟨s7, hs7⟩ : ∃ s7, s7 = s6.add (withinT q) := ⟨_, rfl⟩
      have HS7 := Lib.hid hs7
      have HP := Lib.hid (show WtP g g s7 w2 wc by rw [hs7]; exact HP.out)
      have HO7 := Lib.hid (show s7.out.length ≤ 9000010 ∧ s7.op = 0 ∧ s7.deep ≤ 3000000 by
       have h1 := HO6.out
       have : (withinT q).length = 2 := rfl
       rw [hs7, S.add_len]
       exact ⟨by omega, h1.2.1, h1.2.2⟩)
      clear hcut hs7
      have hOQ := HOQ.out wc HP.out.2.1
      have c5 := hOQ.2.2.ci 5 rfl
      clear hOQ
      go_upto_if 91 with fail
      go_cut [] from 5 (fun wx => WtP g g (s7.add (byT q)) w2 wx)
      case first =>
       by_cases hb : by_ = []
       ·have HM := Lib.hid (show s7.add (byT q) = s7 by unfold byT; rw [HQF.out.2.2.2.2.2.1, if_pos (by rw [hb]; rfl)]; exact S.add_nil _)
        subst hb
        go_wp2_with fail
        go_meet
        case rel => rw [HM.out]; exact HP.out
       ·have hb1 := (nil_facts by_ hb).1
        have hb2 : by_.isEmpty = false := (nil_facts by_ hb).2
        have HM := Lib.hid (show byT q = [tk 38, tk 39, nme by_] by unfold byT; rw [HQF.out.2.2.2.2.2.1, if_neg (by rw [(nil_facts by_ hb).2]; simp)])
        have HBW := Lib.hid (show Below wc.heap.size wc wc.drew from (Below.refl _ _).drew)
        have HKQ := Lib.hid (HOQ.out wc HP.out.2.1).2.2
        have d5 := HKQ.out.drew.ci 5 rfl
        clear hb c5
        go_wp2_with fail
        any_goals (rename_i hq; rw [hb2] at hq; cases hq; done)
        go_region_law (first
         | (go_simp; go_at_call 62; refine (mark_any' _ _).mono ?_; rintro e w5' ⟨rfl, hb5⟩; (have HBW := Lib.hid (HBW.out.trans (hb5.mono HBW.out.size))); (have d5 := (HKQ.out.below HBW.out).ci 5 rfl); clear hb5)
         | (go_simp; go_at_call 67; refine (name_any' _ _).mono ?_; rintro e w5' ⟨rfl, hb5⟩; (have HBW := Lib.hid (HBW.out.trans (hb5.mono HBW.out.size))); (have d5 := (HKQ.out.below HBW.out).ci 5 rfl); clear hb5)
         | (go_simp; go_at_call 61; refine (add_after g g s7 [tk 38, tk 39, nme by_] [.int .i64 38, .string ⟨#[]⟩, .int .i64 0, .int .i64 0, .int .i64 39, .string ⟨#[]⟩, .int .i64 0, .int .i64 0, .int .i64 1, .string ⟨by_.toArray⟩, .int .i64 0, .int .i64 0] 3 wc _ (Nat.le_trans HB.out HP.out.2.1.size) HP.out.1 HBW.out rfl rfl (by have := HO7.out.1; omega)).mono ?_; rintro e w6' ⟨rfl, hp6⟩; (have HP6 := Lib.hid (HP.out.trans hp6)); clear hp6))
        all_goals (
         go_wp2_with fail
         go_meet
         case rel => rw [HM.out]; exact HP6.out)
      case rest =>
       have HP := Lib.hid hcut
       obtain ⟨s8, hs8⟩ : ∃ s8, s8 = s7.add (byT q) := ⟨_, rfl⟩
       have HS8 := Lib.hid hs8
       have HP := Lib.hid (show WtP g g s8 w2 wc by rw [hs8]; exact HP.out)
       have HO8 := Lib.hid (show s8.op = 0 ∧ s8.deep ≤ 3000000 by rw [hs8]; exact HO7.out.2)
       clear hcut hs8 c5
       have HREL := Lib.hid (show re.length = nr by rw [HTR.out.len, HQF.out.2.2.2.2.2.2, List.length_map, HNR.out])
       go_upto_block 2 with fail
       go_cut [] from 5 (fun wx => WtP g g (loopS treeS retT re 0 s8) w2 wx)
       case first =>
        go_wp2_with fail
        go_loopw [6] (fun i wr => ∃ (k : Nat) (s' : S), k ≤ nr ∧ i = .int .i64 (k : Int) ∧ loopS treeS retT re 0 s8 = loopS treeS retT (re.drop k) k s' ∧ WtP g g s' w2 wr ∧ s'.op = 0 ∧ s'.deep ≤ 3000000) (fun i _ => nr - (intOf i).toNat)
        case atStart => exact ⟨0, s8, Nat.zero_le _, rfl, rfl, HP.out, HO8.out.1, HO8.out.2⟩
        case round =>
         obtain ⟨k, s', hkn, rfl, hlo, hp, hop, hde⟩ := hrel
         have HLO := Lib.hid hlo
         have HP := Lib.hid hp
         have HO := Lib.hid (show s'.op = 0 ∧ s'.deep ≤ 3000000 from ⟨hop, hde⟩)
         have hOQ := HOQ.out wr hp.2.1
         have c6 := hOQ.2.2.ci 6 rfl
         clear hlo hp hop hde
         by_cases hlt : k < nr
         ·have hkl : k < ret.length := by rw [← HNR.out]; exact hlt
          have hkr : k < re.length := by rw [HREL.out]; exact hlt
          have hlt' : (k : Int) < nr := by omega
          have hk0 : (0 : Int) ≤ k := by omega
          have hrets := HTR.out.rets k (by rw [HQF.out.2.2.2.2.2.2, List.length_map]; exact hkl) hkr
          have hqt : q.ret[k]'(by rw [HQF.out.2.2.2.2.2.2, List.length_map]; exact hkl) = ret[k].t := by
           simp only [HQF.out.2.2.2.2.2.2, List.getElem_map]
          rw [hqt] at hrets
          have hbt := HQB.out.trees _ (List.getElem_mem hkl)
          have hold : ∀ w', Below g wr w' → Ld w' ∧ RdN w' ret[k].a ret[k].t := fun w' hb => ⟨(HOQ.out w' (HP.out.2.1.trans hb)).1, (HOQ.out w' (HP.out.2.1.trans hb)).2.1.2.2.2 _ (List.getElem_mem hkl)⟩
          have hcell : ∀ w', Below g wr w' → ∃ b off, ra = some ⟨b, off, none⟩ ∧ w'.cell? ⟨b, off + k, none⟩ = some (.slice ret[k].a ret[k].t.length ret[k].c) := fun w' hb => (HOQ.out w' (HP.out.2.1.trans hb)).2.1.2.2.at k hkl
          have hdrop : re.drop k = re[k] :: re.drop (k + 1) := List.drop_eq_getElem_cons hkr
          obtain ⟨y, hy⟩ : ∃ y, y = ret[k] := ⟨_, rfl⟩
          rw [← hy] at hrets hbt hold hcell
          obtain ⟨ee, hee⟩ : ∃ ee, ee = re[k] := ⟨_, rfl⟩
          rw [← hee] at hrets hdrop
          have hlo2 : loopS treeS retT re 0 s8 = if s'.full = true then s' else loopS treeS retT (re.drop (k + 1)) (k + 1) (treeS ee (s'.add (retT k))) := by
           rw [HLO.out, hdrop]; rfl
          obtain ⟨t, ta, tc⟩ := y
          dsimp only at hrets hbt hold hcell
          obtain ⟨nt, hnt⟩ : ∃ nt, nt = t.length := ⟨_, rfl⟩
          rw [← hnt] at hbt hcell
          have HLO2 := Lib.hid hlo2
          have HOLDT := Lib.hid hold
          have HCELL := Lib.hid hcell
          have HRT := Lib.hid hrets
          have HNT := Lib.hid hnt
          have HEN := Lib.hid (show ee.size ≤ 1048576 by rw [hrets.2, ← hnt]; exact hbt)
          have HME := Lib.hid (meas_lt hlt)
          have HKS := Lib.hid (show k + 1 ≤ nr from hlt)
          have hfull := full_any g g s' wr HP.out.1
          clear hlo2 hold hdrop hy hOQ hrets hqt hcell hee hnt
          go_wp2_with fail
          refine hfull.mono ?_
          rintro e w' ⟨rfl, rfl⟩
          cases hf : s'.full with
          | true =>
           have HF := Lib.hid hf
           clear hf hfull
           go_wp2_with fail
           go_meet
           case rel => rw [HLO2.out, if_pos HF.out]; exact HP.out
          | false =>
           have HF := Lib.hid hf
           have HLE := Lib.hid (show s'.out.length ≤ 400 by
            have : ¬ s'.full = true := by rw [hf]; simp
            rw [S.full_iff] at this
            omega)
           clear hf hfull
           by_cases hk00 : k = 0
           ·have HCO := Lib.hid (show s'.add (retT k) = s'.add [tk 40] by rw [hk00]; rfl)
            have hk1 : ((k : Int) == 0) = true := by simpa using hk00
            have hk2 : (k : Int) = 0 := by omega
            have HK0 := Lib.hid hk00
            clear hk00 hk2
            go_wp2_with fail
            refine (mark_any' 40 w').mono ?_
            rintro e w7 ⟨rfl, hbm⟩
            have HBM := Lib.hid hbm
            clear hbm
            go_wp2_with fail
            refine (add_after g g s' [tk 40] [.int .i64 40, .string ⟨#[]⟩, .int .i64 0, .int .i64 0] 1 w' w7 (Nat.le_trans HB.out HP.out.2.1.size) HP.out.1 HBM.out rfl rfl (by have := HLE.out; omega)).mono ?_
            rintro e w8 ⟨rfl, hpn⟩
            have HPN := Lib.hid hpn
            have HP := Lib.hid (HP.out.trans hpn)
            clear hpn
            have hOQ := HOQ.out w8 HP.out.2.1
            have c6 := hOQ.2.2.ci 6 rfl
            clear hOQ
            obtain ⟨b, off, hra, e0⟩ := HCELL.out w8 HPN.out.2.1
            have HTB := Lib.hid (tree_bd ee (s'.add [tk 40]))
            subst hra
            go_wp2_with fail
            refine (wtree_any g g ta tc nt t ee HRT.out.1 HRT.out.2 HNT.out.symm hbt (s'.add [tk 40]) w8 (Nat.le_trans HB.out HP.out.2.1.size) HP.out.1 (fun w' hb => HOLDT.out w' (HPN.out.2.1.trans hb)) (by rw [S.add_len]; have := HLE.out; simp only [List.length_cons, List.length_nil]; omega) HO.out.1 (by show s'.deep ≤ _; have := HO.out.2; omega)).mono ?_
            rintro e w9 ⟨rfl, hp9⟩
            have HP9 := Lib.hid (HP.out.trans hp9)
            clear hp9 e0
            go_wp2_with fail
            go_roundw
            case rel => exact ⟨k + 1, _, HKS.out, by go_num, by rw [HLO2.out, if_neg (by rw [HF.out]; simp), HCO.out], HP9.out, by rw [HTB.out.2.1]; exact HO.out.1, by
             have h1 := HTB.out.2.2
             have h2 : (s'.add [tk 40]).deep = s'.deep := rfl
             have h3 : (s'.add [tk 40]).op = 0 := HO.out.1
             have := HO.out.2
             have := HEN.out
             omega⟩
            case measure => exact HME.out
           ·have HCO := Lib.hid (show s'.add (retT k) = s'.add [tk 7] by unfold retT; rw [if_neg hk00])
            have hk1 : ((k : Int) == 0) = false := by simpa using hk00
            clear hk00
            go_wp2_with fail
            refine (mark_any' 7 w').mono ?_
            rintro e w7 ⟨rfl, hbm⟩
            have HBM := Lib.hid hbm
            clear hbm
            go_wp2_with fail
            refine (add_after g g s' [tk 7] [.int .i64 7, .string ⟨#[]⟩, .int .i64 0, .int .i64 0] 1 w' w7 (Nat.le_trans HB.out HP.out.2.1.size) HP.out.1 HBM.out rfl rfl (by have := HLE.out; omega)).mono ?_
            rintro e w8 ⟨rfl, hpn⟩
            have HPN := Lib.hid hpn
            have HP := Lib.hid (HP.out.trans hpn)
            clear hpn
            have hOQ := HOQ.out w8 HP.out.2.1
            have c6 := hOQ.2.2.ci 6 rfl
            clear hOQ
            obtain ⟨b, off, hra, e0⟩ := HCELL.out w8 HPN.out.2.1
            have HTB := Lib.hid (tree_bd ee (s'.add [tk 7]))
            subst hra
            go_wp2_with fail
            refine (wtree_any g g ta tc nt t ee HRT.out.1 HRT.out.2 HNT.out.symm hbt (s'.add [tk 7]) w8 (Nat.le_trans HB.out HP.out.2.1.size) HP.out.1 (fun w' hb => HOLDT.out w' (HPN.out.2.1.trans hb)) (by rw [S.add_len]; have := HLE.out; simp only [List.length_cons, List.length_nil]; omega) HO.out.1 (by show s'.deep ≤ _; have := HO.out.2; omega)).mono ?_
            rintro e w9 ⟨rfl, hp9⟩
            have HP9 := Lib.hid (HP.out.trans hp9)
            clear hp9 e0
            go_wp2_with fail
            go_roundw
            case rel => exact ⟨k + 1, _, HKS.out, by go_num, by rw [HLO2.out, if_neg (by rw [HF.out]; simp), HCO.out], HP9.out, by rw [HTB.out.2.1]; exact HO.out.1, by
             have h1 := HTB.out.2.2
             have h2 : (s'.add [tk 7]).deep = s'.deep := rfl
             have h3 : (s'.add [tk 7]).op = 0 := HO.out.1
             have := HO.out.2
             have := HEN.out
             omega⟩
            case measure => exact HME.out
         ·have hk' : ¬ (k : Int) < nr := by omega
          have HL2 := Lib.hid (show loopS treeS retT re 0 s8 = s' by
           rw [HLO.out, List.drop_eq_nil_of_le (by rw [HREL.out]; omega)]; rfl)
          go_wp2_with fail
          go_meet
          case rel => rw [HL2.out]; exact HP.out
       case rest =>
        have HP := Lib.hid hcut
        have hQS : queryS q we re ⟨[], 0, 0⟩ = loopS treeS retT re 0 s8 := by
         rw [HS8.out, HS7.out, HS6.out, HS5.out, HS4.out, HS2.out, HS1.out]; rfl
        rw [← hQS] at hcut
        have HQS := Lib.hid hcut
        have hans := print_same fmtI HSP.out HTR.out
        have HANS := Lib.hid hans
        have HTX := Lib.hid (wtext_any g g (queryS q we re ⟨[], 0, 0⟩) wc (Nat.le_trans HB.out HQS.out.2.1.size) HQS.out.1 (HOQ.out wc HQS.out.2.1).1 (fun hl => query_ok HSP.out (by rw [HQ.out]; exact HQI.out) HTR.out hl))
        clear hcut hQS hans
        go_wp2_with fail
        refine (HTX.out).mono ?_
        rintro e w9 ⟨r, tx, rfl, hr1, hr2, hb9⟩
        have HR1 := Lib.hid hr1
        have HR2 := Lib.hid hr2
        have HB9 := Lib.hid ((HFB.out wc HQS.out.2.1).trans (hb9.mono (HFB.out wc HQS.out.2.1).size))
        clear hr1 hr2 hb9
        go_wp2_with fail
        go_ret2
        refine ⟨r, tx, rfl, ?_, ?_, HB9.out⟩
        ·rw [HANS.out, HR1.out]
         exact ⟨fun h => ⟨HSP.out, h⟩, fun h => h.2⟩
        ·intro h0
         have h1 := HR1.out.1 h0
         rw [HANS.out]
         cases hy : textS fmtI (queryS q we re ⟨[], 0, 0⟩) with
         | none => rw [hy] at h1; cases h1
         | some y => rw [HR2.out y hy]
end Go.Proofs.YtfglgpbjjpoimaaGreatDoor
