/- SaveEncodes: the program's plain. -/
import Derived.Test.YtfglgpbjjpoimaaGreatDoorSwGX
import Derived.Test.YtfglgpbjjpoimaaGreatDoorSwHA
import Derived.Deep.CutBlock
set_option linter.unusedVariables false
namespace Go.Proofs.YtfglgpbjjpoimaaGreatDoor
open Go.RowKit Sv
/-- A state is plain but for its texts. -/
structure PlOK (x : Stm) : Prop where
 cap : 1 ≤ x.cap ∧ x.cap ≤ 4096
 mark : -1152921504606846977 ≤ x.mark ∧ x.mark ≤ 1152921504606846976
 waiting : MOk x.waiting x.waiting.length
 used : UOk x.used x.used.length
 held : LOk (tys x.types) x.held x.held.length
 kept : LOk (tys x.types) x.kept x.kept.length
set_option maxHeartbeats 4000000 in
set_option maxRecDepth 20000 in
theorem pplain_any (x : Stm) (w : World) (hl : Ld w) (h : RdSt w x) (hb : StB x) : Calls Tryz.prog 20 #[.agg (stc x).toArray] w (Tel (PlOK x) w) := by
 obtain ⟨w0, hw0⟩ : ∃ w0, w0 = w.alloc (.cells (stc x).toArray 36) := ⟨_, rfl⟩
 have hE : Blk w0 w.heap.size 36 (stc x) := by rw [hw0]; exact Blk.new w _ 36
 have HB0 := Lib.hid (show Below w.heap.size w w0 by rw [hw0]; exact bal (Below.refl _ _) (Nat.le_refl _) _)
 have HL := Lib.hid (hl.below HB0.out)
 have HR := Lib.hid (h.below HB0.out)
 have HSB := Lib.hid hb
 have HCE := Lib.hid (fun (e : Ev) (h8 : e.at_.length = 8) W (hW : Below w0.heap.size w0 W) => checkEvent_any x.ta x.tc x.types.length x.types e W rfl (HL.out.below hW).kw (HR.out.below hW).types h8)
 obtain ⟨P, hP⟩ : ∃ P : Prop, P = PlOK x := ⟨_, rfl⟩
 rw [← hP]
 have HP := Lib.hid hP
 have hwl := hb.wl
 have hul := hb.ul
 have hhl := hb.hl
 have hkl := hb.kl
 obtain ⟨types, ta, tc, ⟨items, ia, ic, mode, after, wher, wwa, wcap, within, by_, ret, ra, rc⟩, cap, mark, closed, held, ha, hc, kept, ka, kc, waiting, wa, wc', used, ua, uc⟩ := x
 dsimp only at hwl hul hhl hkl
 obtain ⟨nt, hnt⟩ : ∃ n, n = types.length := ⟨_, rfl⟩
 obtain ⟨ni, hni⟩ : ∃ n, n = items.length := ⟨_, rfl⟩
 obtain ⟨nwh, hnwh⟩ : ∃ n, n = wher.length := ⟨_, rfl⟩
 obtain ⟨nr, hnr⟩ : ∃ n, n = ret.length := ⟨_, rfl⟩
 obtain ⟨nh, hnh⟩ : ∃ n, n = held.length := ⟨_, rfl⟩
 obtain ⟨nk, hnk⟩ : ∃ n, n = kept.length := ⟨_, rfl⟩
 obtain ⟨nw, hnw⟩ : ∃ n, n = waiting.length := ⟨_, rfl⟩
 obtain ⟨nu, hnu⟩ : ∃ n, n = used.length := ⟨_, rfl⟩
 simp only [stc, T, ← hnt, ← hni, ← hnwh, ← hnr, ← hnh, ← hnk, ← hnw, ← hnu] at hE hw0 hwl hul hhl hkl HCE ⊢
 have HE := Lib.hid hE
 have HNW := Lib.hid hnw
 have HNU := Lib.hid hnu
 have HNH := Lib.hid hnh
 have HNK := Lib.hid hnk
 clear hl h hb hE hP hnt hni hnwh hnr hnh hnk hnw hnu
 have HBA := Lib.hid (show Below w.heap.size w w0 from HB0.out)
 have hbad : ∀ q : Prop, (P → q) → ¬ q → ¬ P := fun q h1 h2 h3 => h2 (h1 h3)
 clear hbad
 go_enter Tryz.func20, Tryz.ntmps20
 go_upto_region 1 with fail
 rw [← hw0]
 clear hw0
 have c8 := HE.out.ci 8 rfl
 have c9 := HE.out.ci 9 rfl
 by_cases hc1 : cap < 1
 ·have HNO := Lib.hid (show ¬ P by rw [HP.out]; exact fun hs => by have := hs.cap.1; dsimp only at this; omega)
  go_wp2_with fail
  go_ret
  exact .no rfl HNO.out HB0.out
 by_cases hc2 : 4096 < cap
 ·have HNO := Lib.hid (show ¬ P by rw [HP.out]; exact fun hs => by have := hs.cap.2; dsimp only at this; omega)
  go_wp2_with fail
  go_ret
  exact .no rfl HNO.out HB0.out
 by_cases hc3 : mark < -1152921504606846977
 ·have HNO := Lib.hid (show ¬ P by rw [HP.out]; exact fun hs => by have := hs.mark.1; dsimp only at this; omega)
  go_wp2_with fail
  go_ret
  exact .no rfl HNO.out HB0.out
 by_cases hc4 : 1152921504606846976 < mark
 ·have HNO := Lib.hid (show ¬ P by rw [HP.out]; exact fun hs => by have := hs.mark.2; dsimp only at this; omega)
  go_wp2_with fail
  go_ret
  exact .no rfl HNO.out HB0.out
 have HCAP := Lib.hid (show 1 ≤ cap ∧ cap ≤ 4096 by omega)
 have HMK := Lib.hid (show -1152921504606846977 ≤ mark ∧ mark ≤ 1152921504606846976 by omega)
 have c11 := HE.out.ci 11 rfl
 have c12 := HE.out.ci 12 rfl
 obtain ⟨HK2, hHK2⟩ : ∃ K : Nat → Prop, K = fun q => (0 < q → LOk (tys types) held held.length) ∧ (1 < q → LOk (tys types) kept kept.length) := ⟨_, rfl⟩
 have HHK := Lib.hid hHK2
 clear hHK2
 go_wp2_with fail
 clear c8 c9 c11 c12 hc1 hc2 hc3 hc4
 go_loopw [36] (fun i wr => ∃ q : Nat, ∃ z : Int, z = q ∧ q ≤ 2 ∧ i = .int .i64 z ∧ HK2 q ∧ Below w0.heap.size w0 wr) (fun i _ => 2 - (intOf i).toNat)
 case atStart => exact ⟨0, 0, rfl, by omega, rfl, by rw [HHK.out]; exact ⟨fun h => by omega, fun h => by omega⟩, Below.refl _ _⟩
 case round =>
  obtain ⟨q, z, hqz, hq2, rfl, hkq, hbw⟩ := hrel
  have HKQ := Lib.hid hkq
  have HBR := Lib.hid hbw
  clear hkq
  by_cases hlt2 : q < 2
  ·have hq01 : q = 0 ∨ q = 1 := by omega
   rcases hq01 with rfl | rfl
   ·obtain rfl : z = 0 := hqz
    obtain ⟨wv, rfl⟩ : ∃ v, v = wr := ⟨_, rfl⟩
    clear hbw
    have hix : (Instr.index 147 (.agg #[.slice ha nh hc, .slice ka nk kc]) (.int .i64 0)).run Tryz.prog wv = .ok (.slice ha nh hc) wv := by first | rfl | kernel_rfl | simp [Instr.index]
    go_wp2_with fail
    go_loopw [41] (fun i wr => ∃ k : Nat, k ≤ nh ∧ i = .int .i64 (k : Int) ∧ LOk (tys types) held k ∧ Below w0.heap.size w0 wr) (fun i _ => nh - (intOf i).toNat)
    case atStart => exact ⟨0, Nat.zero_le _, rfl, ⟨fun i hi hk => by omega, fun i hi hk => by omega⟩, HBR.out⟩
    case round =>
     obtain ⟨k, hkn, rfl, hpk, hbw⟩ := hrel
     have HPK := Lib.hid hpk
     have HBK := Lib.hid hbw
     clear hpk
     by_cases hlt : k < nh
     ·have hjl : k < held.length := by rw [← HNH.out]; exact hlt
      have hmem : held[k] ∈ held := List.getElem_mem hjl
      have HEV := Lib.hid (fun W (hW : Below w0.heap.size w0 W) => show RdE W ha held from (HR.out.below hW).held)
      obtain ⟨b, off, hea⟩ := (HEV.out wr hbw).some k hjl
      have hebv := HSB.out.hb _ hmem
      obtain ⟨a0, a1, a2, a3, a4, a5, a6, a7, hat⟩ := at8 hebv.len
      obtain ⟨ts, id, typ, at_, hev⟩ : ∃ ts id typ at_, held[k] = ⟨ts, id, typ, at_⟩ := ⟨_, _, _, _, rfl⟩
      have hce := HCE.out held[k] hebv.len
      have hidb := hebv.id
      rw [hev] at hat hidb
      dsimp only at hat hidb
      subst hat
      obtain ⟨id, rfl⟩ : ∃ i : Nat, id = i := ⟨id.toNat, by omega⟩
      have hce2 : ∀ W, Below w0.heap.size w0 W → Calls Tryz.prog 69 #[.agg #[.slice ta nt tc], .agg #[.int .i64 ts, .int .u64 (id : Int), .int .i64 typ, .int .i64 a0, .int .i64 a1, .int .i64 a2, .int .i64 a3, .int .i64 a4, .int .i64 a5, .int .i64 a6, .int .i64 a7]] W (fun e' w' => ∃ r : Int, e' = .returned (.int .i64 r) ∧ (r = 0 ↔ EvOK (tys types) held[k]) ∧ Below W.heap.size W w') := fun W hW => by
       have h := hce W hW
       rw [show (evc held[k]).toArray = #[.int .i64 ts, .int .u64 (id : Int), .int .i64 typ, .int .i64 a0, .int .i64 a1, .int .i64 a2, .int .i64 a3, .int .i64 a4, .int .i64 a5, .int .i64 a6, .int .i64 a7] by rw [hev]; rfl] at h
       exact h
      have hnm1 : evNm held[k] = ⟨ts, id⟩ := by rw [hev]; unfold evNm; simp
      have hcells := (HEV.out wr hbw).cells k hjl ts (id : Int) typ a0 a1 a2 a3 a4 a5 a6 a7 hev b off hea
      obtain ⟨wb, hwb⟩ : ∃ wb, wb = wr.alloc (.cells #[.int .i64 ts, .int .u64 (id : Int), .int .i64 typ, .int .i64 a0, .int .i64 a1, .int .i64 a2, .int .i64 a3, .int .i64 a4, .int .i64 a5, .int .i64 a6, .int .i64 a7] 108) := ⟨_, rfl⟩
      obtain ⟨gb, hgb⟩ : ∃ gb, gb = wr.heap.size := ⟨_, rfl⟩
      have hbb : Below wr.heap.size wr wb := by rw [hwb]; exact bal (Below.refl _ _) (Nat.le_refl _) _
      have hFb : Blk wb gb 108 [.int .i64 ts, .int .u64 (id : Int), .int .i64 typ, .int .i64 a0, .int .i64 a1, .int .i64 a2, .int .i64 a3, .int .i64 a4, .int .i64 a5, .int .i64 a6, .int .i64 a7] := by rw [hwb, hgb]; exact Blk.new wr _ 108
      have HFB := Lib.hid hFb
      have HBB := Lib.hid (hbw.trans (hbb.mono hbw.size))
      have HNM1 := Lib.hid hnm1
      have HCE2 := Lib.hid hce2
      have HME := Lib.hid (meas_lt hlt)
      have hlt' : (k : Int) < nh := by omega
      have hj0 : (0 : Int) ≤ k := by omega
      obtain ⟨e0, e1, e2, e3, e4, e5, e6, e7, e8, e9, e10⟩ := hcells
      have HEA := Lib.hid hea
      subst hea
      clear hmem hebv hce hce2 hev hidb hnm1 hbb hFb hbw
      go_upto_region 9 with fail
      rw [← hwb, ← hgb]
      clear hwb hgb e0 e1 e2 e3 e4 e5 e6 e7 e8 e9 e10
      have HBQ := Lib.hid (show Below wb.heap.size wb wb.drew from (Below.refl _ _).drew)
      have s0 := (HE.out.below (HBB.out.trans (HBQ.out.mono HBB.out.size))).ci 0 rfl
      have g0 := (HFB.out.below HBQ.out).ci 0 rfl ; have g1 := (HFB.out.below HBQ.out).ci 1 rfl ; have g2 := (HFB.out.below HBQ.out).ci 2 rfl ; have g3 := (HFB.out.below HBQ.out).ci 3 rfl ; have g4 := (HFB.out.below HBQ.out).ci 4 rfl ; have g5 := (HFB.out.below HBQ.out).ci 5 rfl ; have g6 := (HFB.out.below HBQ.out).ci 6 rfl ; have g7 := (HFB.out.below HBQ.out).ci 7 rfl ; have g8 := (HFB.out.below HBQ.out).ci 8 rfl ; have g9 := (HFB.out.below HBQ.out).ci 9 rfl ; have g10 := (HFB.out.below HBQ.out).ci 10 rfl
      by_cases hok : EvOK (tys types) held[k]
      ·have HOKK := Lib.hid hok
       clear hok
       by_cases hk0 : k = 0
       ·have HPS := Lib.hid (show LOk (tys types) held (k + 1) by
         have h := HOKK.out
         subst hk0
         exact LOk.one hjl h)
        have h00 : ¬ (0 : Int) < k := by omega
        have h02 : ¬ 0 < k := by omega
        have h03 : decide (0 < k) = false := by simpa using h02
        clear hk0
        go_wp2_with fail
        refine wp_region_held_drew (S := fun W => W.cell? ⟨w.heap.size, 0, none⟩ = some (.slice ta nt tc) ∧ W.cell? ⟨gb, 0, none⟩ = some (.int .i64 ts) ∧ W.cell? ⟨gb, 1, none⟩ = some (.int .u64 (id : Int)) ∧ W.cell? ⟨gb, 2, none⟩ = some (.int .i64 typ) ∧ W.cell? ⟨gb, 3, none⟩ = some (.int .i64 a0) ∧ W.cell? ⟨gb, 4, none⟩ = some (.int .i64 a1) ∧ W.cell? ⟨gb, 5, none⟩ = some (.int .i64 a2) ∧ W.cell? ⟨gb, 6, none⟩ = some (.int .i64 a3) ∧ W.cell? ⟨gb, 7, none⟩ = some (.int .i64 a4) ∧ W.cell? ⟨gb, 8, none⟩ = some (.int .i64 a5) ∧ W.cell? ⟨gb, 9, none⟩ = some (.int .i64 a6) ∧ W.cell? ⟨gb, 10, none⟩ = some (.int .i64 a7)) (by kernel_rfl) ⟨s0, g0, g1, g2, g3, g4, g5, g6, g7, g8, g9, g10⟩ (fun hHeld => ?_)
        refine wpAnyH_take (i := 0) (oi := ⟨some 46, .fieldAddr 36 (.tmp 1) 0, 0, "save.go:80", #[], none⟩) (v := .pointer (some ⟨w.heap.size, 0, none⟩)) rfl (by kernel_rfl) (by kernel_rfl) (by kernel_rfl) (fun _ _ _ h => h) (.inl ⟨by rfl, ?_⟩) (by assumption) ?_
        ·intro w hSw; (try dsimp only at hSw); go_simp; all_goals (with_reducible rfl)
        try simp only [Act.put, sv_a, sv_0, sv_1]
        refine wpAnyH_take (i := 1) (oi := ⟨some 47, .load 24 (.tmp 46), 24, "save.go:80", #[⟨0, .data⟩], none⟩) (v := .agg #[.slice ta nt tc]) rfl (by kernel_rfl) (by kernel_rfl) (by kernel_rfl) (fun _ _ _ h => h) (.inl ⟨by rfl, ?_⟩) (by assumption) ?_
        ·intro w hSw; (try dsimp only at hSw); go_simp; all_goals (with_reducible rfl)
        try simp only [Act.put, sv_a, sv_0, sv_1]
        refine wpAnyH_take (i := 2) (oi := ⟨some 48, .load 108 (.tmp 6), 108, "save.go:80", #[], none⟩) (v := .agg #[.int .i64 ts, .int .u64 (id : Int), .int .i64 typ, .int .i64 a0, .int .i64 a1, .int .i64 a2, .int .i64 a3, .int .i64 a4, .int .i64 a5, .int .i64 a6, .int .i64 a7]) rfl (by kernel_rfl) (by kernel_rfl) (by kernel_rfl) (fun _ _ _ h => h) (.inl ⟨by rfl, ?_⟩) (by assumption) ?_
        ·intro w hSw; (try dsimp only at hSw); go_simp; all_goals (with_reducible rfl)
        try simp only [Act.put, sv_a, sv_0, sv_1]
        refine wpAnyH_ready (rs := [3]) (by kernel_rfl) (by simp) ?_
        refine AllReadyH.cons (o := ⟨some 49, .call { callee := .value (.func 69), args := #[.tmp 47, .tmp 48], argTypes := #[24, 108] }, 40, "save.go:80", #[⟨1, .data⟩, ⟨2, .data⟩], none⟩) rfl (fun K hK => ?_) AllReadyH.nil
        go_simp
        go_at_call 69
        refine (HCE2.out _ (HBB.out.trans (HBQ.out.mono HBB.out.size))).mono ?_
        rintro e wC ⟨r, rfl, hr, hbC⟩
        obtain rfl : r = 0 := hr.2 HOKK.out
        have HBQ := Lib.hid (HBQ.out.trans (hbC.mono HBQ.out.size))
        clear s0 g0 g1 g2 g3 g4 g5 g6 g7 g8 g9 g10
        have s0 := (HE.out.below (HBB.out.trans (HBQ.out.mono HBB.out.size))).ci 0 rfl
        have g0 := (HFB.out.below HBQ.out).ci 0 rfl
        have g1 := (HFB.out.below HBQ.out).ci 1 rfl
        have g2 := (HFB.out.below HBQ.out).ci 2 rfl
        have g3 := (HFB.out.below HBQ.out).ci 3 rfl
        have g4 := (HFB.out.below HBQ.out).ci 4 rfl
        have g5 := (HFB.out.below HBQ.out).ci 5 rfl
        have g6 := (HFB.out.below HBQ.out).ci 6 rfl
        have g7 := (HFB.out.below HBQ.out).ci 7 rfl
        have g8 := (HFB.out.below HBQ.out).ci 8 rfl
        have g9 := (HFB.out.below HBQ.out).ci 9 rfl
        have g10 := (HFB.out.below HBQ.out).ci 10 rfl
        clear hbC hr
        go_wp2_with fail
        refine hK.out _ _ ⟨s0, g0, g1, g2, g3, g4, g5, g6, g7, g8, g9, g10⟩ (fun hHeld => ?_)
        clear hK K
        try simp only [Act.put, sv_a, sv_0, sv_1]
        refine wpAnyH_take (i := 4) (oi := ⟨some 50, .binOp .neq 40 (.tmp 49) (.const (.int .i64 0)) 40, 4, "save.go:80", #[⟨3, .data⟩], none⟩) (v := .bool false) rfl (by kernel_rfl) (by kernel_rfl) (by kernel_rfl) (fun _ _ _ h => h) (.inl ⟨by rfl, ?_⟩) (by assumption) ?_
        ·intro w hSw; (try dsimp only at hSw); go_simp; all_goals (with_reducible rfl)
        try simp only [Act.put, sv_a, sv_0, sv_1]
        refine wpAnyH_take (i := 5) (oi := ⟨some 51, .move (.tmp 50), 4, "save.go:80", #[⟨4, .data⟩, ⟨3, .chain⟩], none⟩) (v := .bool false) rfl (by kernel_rfl) (by kernel_rfl) (by kernel_rfl) (fun _ _ _ h => h) (.inl ⟨by rfl, ?_⟩) (by assumption) ?_
        ·intro w hSw; (try dsimp only at hSw); go_simp; all_goals (with_reducible rfl)
        try simp only [Act.put, sv_a, sv_0, sv_1]
        refine wpAnyH_take (i := 6) (oi := ⟨some 52, .move (.tmp 5), 3, "save.go:80", #[⟨5, .guard⟩], some (5, false)⟩) (v := .int .i64 ((k : Int))) rfl (by kernel_rfl) (by kernel_rfl) (by kernel_rfl) (fun _ _ _ h => h) (.inl ⟨by rfl, ?_⟩) (by assumption) ?_
        ·intro w hSw; (try dsimp only at hSw); go_simp; all_goals (with_reducible rfl)
        try simp only [Act.put, sv_a, sv_0, sv_1]
        refine wpAnyH_take (i := 7) (oi := ⟨some 53, .binOp .gtr 3 (.tmp 52) (.const (.int .i64 0)) 3, 4, "save.go:80", #[⟨6, .data⟩, ⟨5, .guard⟩], some (5, false)⟩) (v := .bool false) rfl (by kernel_rfl) (by kernel_rfl) (by kernel_rfl) (fun _ _ _ h => h) (.inl ⟨by rfl, ?_⟩) (by assumption) ?_
        ·intro w hSw; (try dsimp only at hSw); go_simp; all_goals (with_reducible rfl)
        try simp only [Act.put, sv_a, sv_0, sv_1]
        refine wpAnyH_take (i := 8) (oi := ⟨some 54, .move (.tmp 53), 4, "save.go:80", #[⟨7, .data⟩, ⟨5, .chain⟩, ⟨5, .guard⟩], some (5, false)⟩) (v := .bool false) rfl (by kernel_rfl) (by kernel_rfl) (by kernel_rfl) (fun _ _ _ h => h) (.inl ⟨by rfl, ?_⟩) (by assumption) ?_
        ·intro w hSw; (try dsimp only at hSw); go_simp; all_goals (with_reducible rfl)
        try simp only [Act.put, sv_a, sv_0, sv_1]
        refine wpAnyH_take (i := 9) (oi := ⟨some 55, .move (.tmp 4), 32, "save.go:80", #[⟨8, .guard⟩], some (8, true)⟩) (v := undef) rfl (by kernel_rfl) (by kernel_rfl) (by kernel_rfl) (fun _ _ _ h => h) (.inr ⟨by rfl, rfl⟩) (by assumption) ?_
        try simp only [Act.put, sv_a, sv_0, sv_1]
        refine wpAnyH_take (i := 10) (oi := ⟨some 56, .move (.tmp 5), 3, "save.go:80", #[⟨8, .guard⟩], some (8, true)⟩) (v := undef) rfl (by kernel_rfl) (by kernel_rfl) (by kernel_rfl) (fun _ _ _ h => h) (.inr ⟨by rfl, rfl⟩) (by assumption) ?_
        try simp only [Act.put, sv_a, sv_0, sv_1]
        refine wpAnyH_take (i := 11) (oi := ⟨some 57, .binOp .sub 3 (.tmp 56) (.const (.int .i64 1)) 3, 3, "save.go:80", #[⟨10, .data⟩, ⟨8, .guard⟩], some (8, true)⟩) (v := undef) rfl (by kernel_rfl) (by kernel_rfl) (by kernel_rfl) (fun _ _ _ h => h) (.inr ⟨by rfl, rfl⟩) (by assumption) ?_
        try simp only [Act.put, sv_a, sv_0, sv_1]
        refine wpAnyH_take (i := 12) (oi := ⟨some 58, .indexAddr 32 (.tmp 55) (.tmp 57), 0, "save.go:80", #[⟨9, .data⟩, ⟨11, .data⟩, ⟨8, .guard⟩], some (8, true)⟩) (v := undef) rfl (by kernel_rfl) (by kernel_rfl) (by kernel_rfl) (fun _ _ _ h => h) (.inr ⟨by rfl, rfl⟩) (by assumption) ?_
        try simp only [Act.put, sv_a, sv_0, sv_1]
        refine wpAnyH_take (i := 13) (oi := ⟨some 59, .load 108 (.tmp 58), 108, "save.go:80", #[⟨12, .data⟩, ⟨8, .guard⟩], some (8, true)⟩) (v := undef) rfl (by kernel_rfl) (by kernel_rfl) (by kernel_rfl) (fun _ _ _ h => h) (.inr ⟨by rfl, rfl⟩) (by assumption) ?_
        try simp only [Act.put, sv_a, sv_0, sv_1]
        refine wpAnyH_take (i := 14) (oi := ⟨some 60, .load 108 (.tmp 6), 108, "save.go:80", #[⟨8, .guard⟩], some (8, true)⟩) (v := undef) rfl (by kernel_rfl) (by kernel_rfl) (by kernel_rfl) (fun _ _ _ h => h) (.inr ⟨by rfl, rfl⟩) (by assumption) ?_
        try simp only [Act.put, sv_a, sv_0, sv_1]
        refine wpAnyH_take (i := 15) (oi := ⟨some 61, .call { callee := .value (.func 70), args := #[.tmp 59, .tmp 60], argTypes := #[108, 108] }, 4, "save.go:80", #[⟨13, .data⟩, ⟨14, .data⟩, ⟨8, .chain⟩, ⟨8, .guard⟩], some (8, true)⟩) (v := undef) rfl (by kernel_rfl) (by kernel_rfl) (by kernel_rfl) (fun _ _ _ h => h) (.inr ⟨by rfl, rfl⟩) (by assumption) ?_
        try simp only [Act.put, sv_a, sv_0, sv_1]
        refine wpAnyH_take (i := 16) (oi := ⟨some 62, .unOp .not 4 (.tmp 61), 4, "save.go:80", #[⟨15, .data⟩, ⟨8, .guard⟩], some (8, true)⟩) (v := undef) rfl (by kernel_rfl) (by kernel_rfl) (by kernel_rfl) (fun _ _ _ h => h) (.inr ⟨by rfl, rfl⟩) (by assumption) ?_
        try simp only [Act.put, sv_a, sv_0, sv_1]
        refine wpAnyH_take (i := 17) (oi := ⟨some 63, .pick (.tmp 54) (.tmp 62) (.const (.bool false)), 4, "save.go:80", #[⟨8, .data⟩, ⟨16, .data⟩, ⟨5, .guard⟩], some (5, false)⟩) (v := .bool false) rfl (by kernel_rfl) (by kernel_rfl) (by kernel_rfl) (fun _ _ _ h => h) (.inl ⟨by rfl, ?_⟩) (by assumption) ?_
        ·intro w hSw; (try dsimp only at hSw); go_simp; all_goals (with_reducible rfl)
        try simp only [Act.put, sv_a, sv_0, sv_1]
        refine wpAnyH_take (i := 18) (oi := ⟨some 64, .pick (.tmp 51) (.const (.bool true)) (.tmp 63), 4, "save.go:80", #[⟨5, .data⟩, ⟨17, .data⟩], none⟩) (v := .bool false) rfl (by kernel_rfl) (by kernel_rfl) (by kernel_rfl) (fun _ _ _ h => h) (.inl ⟨by rfl, ?_⟩) (by assumption) ?_
        ·intro w hSw; (try dsimp only at hSw); go_simp; all_goals (with_reducible rfl)
        try simp only [Act.put, sv_a, sv_0, sv_1]
        refine wpAnyH_done (by kernel_rfl) ?_ _
        have HB3 := Lib.hid (HBB.out.trans (HBQ.out.mono HBB.out.size))
        clear s0 g0 g1 g2 g3 g4 g5 g6 g7 g8 g9 g10
        go_wp2_with fail
        go_roundw
        case rel => exact ⟨k + 1, hlt, by go_num, HPS.out, HB3.out⟩
        case measure => exact HME.out
       ·obtain ⟨p, rfl⟩ : ∃ p, k = p + 1 := ⟨k - 1, by omega⟩
        clear hk0
        have hjl2 : p < held.length := by omega
        have heb2 := HSB.out.hb _ (List.getElem_mem (l := held) hjl2)
        obtain ⟨v0, v1, v2, v3, v4, v5, v6, v7, hat2⟩ := at8 heb2.len
        have hidb2 := heb2.id
        obtain ⟨ts2, i2, typ2, at2, hev2⟩ : ∃ ts id typ at_, held[p] = ⟨ts, id, typ, at_⟩ := ⟨_, _, _, _, rfl⟩
        rw [hev2] at hat2 hidb2
        dsimp only at hat2 hidb2
        subst hat2
        obtain ⟨i2, rfl⟩ : ∃ i : Nat, i2 = i := ⟨i2.toNat, by omega⟩
        have hnm2 : evNm held[p] = ⟨ts2, i2⟩ := by rw [hev2]; unfold evNm; simp
        have HC2 := Lib.hid (fun W (hW : Below w0.heap.size w0 W) => (HEV.out W hW).cells p hjl2 ts2 (i2 : Int) typ2 v0 v1 v2 v3 v4 v5 v6 v7 hev2 b off rfl)
        have HNM2 := Lib.hid hnm2
        have HBF := Lib.hid (evbefore_any ts2 typ2 v0 v1 v2 v3 v4 v5 v6 v7 ts typ a0 a1 a2 a3 a4 a5 a6 a7 i2 id)
        obtain ⟨e0, e1, e2, e3, e4, e5, e6, e7, e8, e9, e10⟩ := HC2.out wb.drew (HBB.out.trans (HBQ.out.mono HBB.out.size))
        have hp1 : (0 : Int) < (p : Int) + 1 := by omega
        have hp1' : decide ((0 : Int) < (p : Int) + 1) = true := by simp; try omega
        have hp2 : (p : Int) < nh := by omega
        have hp3 : (0 : Int) ≤ p := by omega
        have hp4 : IntKind.i64.wrap ((p : Int) + 1 - 1) = p := by rw [IntKind.wrap_i64]; omega
        have hp5 : IntKind.i64.wrap (p : Int) = p := by rw [IntKind.wrap_i64]; omega
        have hp6 : wrap64 (p : Int) = p := by unfold wrap64; omega
        have hp7 : (p : Int) + 1 < nh := by omega
        have hp8 : (0 : Int) ≤ (p : Int) + 1 := by omega
        clear heb2 hidb2 hev2 hnm2
        cases hlt2 : nmLt ⟨ts2, i2⟩ ⟨ts, id⟩ with
        | true =>
         have HLT := Lib.hid hlt2
         have HPS := Lib.hid (show LOk (tys types) held (p + 1 + 1) from LOk.step hjl HPK.out HOKK.out (by rw [HNM2.out, HNM1.out]; exact hlt2))
         clear hlt2
         go_wp2_with fail
         refine wp_region_held_drew (S := fun W => W.cell? ⟨w.heap.size, 0, none⟩ = some (.slice ta nt tc) ∧ W.cell? ⟨gb, 0, none⟩ = some (.int .i64 ts) ∧ W.cell? ⟨gb, 1, none⟩ = some (.int .u64 (id : Int)) ∧ W.cell? ⟨gb, 2, none⟩ = some (.int .i64 typ) ∧ W.cell? ⟨gb, 3, none⟩ = some (.int .i64 a0) ∧ W.cell? ⟨gb, 4, none⟩ = some (.int .i64 a1) ∧ W.cell? ⟨gb, 5, none⟩ = some (.int .i64 a2) ∧ W.cell? ⟨gb, 6, none⟩ = some (.int .i64 a3) ∧ W.cell? ⟨gb, 7, none⟩ = some (.int .i64 a4) ∧ W.cell? ⟨gb, 8, none⟩ = some (.int .i64 a5) ∧ W.cell? ⟨gb, 9, none⟩ = some (.int .i64 a6) ∧ W.cell? ⟨gb, 10, none⟩ = some (.int .i64 a7) ∧ W.cell? ⟨b, off + p * 11, none⟩ = some (.int .i64 ts2) ∧ W.cell? ⟨b, off + p * 11 + 1, none⟩ = some (.int .u64 (i2 : Int)) ∧ W.cell? ⟨b, off + p * 11 + 2, none⟩ = some (.int .i64 typ2) ∧ W.cell? ⟨b, off + p * 11 + 3, none⟩ = some (.int .i64 v0) ∧ W.cell? ⟨b, off + p * 11 + 4, none⟩ = some (.int .i64 v1) ∧ W.cell? ⟨b, off + p * 11 + 5, none⟩ = some (.int .i64 v2) ∧ W.cell? ⟨b, off + p * 11 + 6, none⟩ = some (.int .i64 v3) ∧ W.cell? ⟨b, off + p * 11 + 7, none⟩ = some (.int .i64 v4) ∧ W.cell? ⟨b, off + p * 11 + 8, none⟩ = some (.int .i64 v5) ∧ W.cell? ⟨b, off + p * 11 + 9, none⟩ = some (.int .i64 v6) ∧ W.cell? ⟨b, off + p * 11 + 10, none⟩ = some (.int .i64 v7)) (by kernel_rfl) ⟨s0, g0, g1, g2, g3, g4, g5, g6, g7, g8, g9, g10, e0, e1, e2, e3, e4, e5, e6, e7, e8, e9, e10⟩ (fun hHeld => ?_)
         refine wpAnyH_take (i := 0) (oi := ⟨some 46, .fieldAddr 36 (.tmp 1) 0, 0, "save.go:80", #[], none⟩) (v := .pointer (some ⟨w.heap.size, 0, none⟩)) rfl (by kernel_rfl) (by kernel_rfl) (by kernel_rfl) (fun _ _ _ h => h) (.inl ⟨by rfl, ?_⟩) (by assumption) ?_
         ·intro w hSw; (try dsimp only at hSw); go_simp; all_goals (with_reducible rfl)
         try simp only [Act.put, sv_a, sv_0, sv_1]
         refine wpAnyH_take (i := 1) (oi := ⟨some 47, .load 24 (.tmp 46), 24, "save.go:80", #[⟨0, .data⟩], none⟩) (v := .agg #[.slice ta nt tc]) rfl (by kernel_rfl) (by kernel_rfl) (by kernel_rfl) (fun _ _ _ h => h) (.inl ⟨by rfl, ?_⟩) (by assumption) ?_
         ·intro w hSw; (try dsimp only at hSw); go_simp; all_goals (with_reducible rfl)
         try simp only [Act.put, sv_a, sv_0, sv_1]
         refine wpAnyH_take (i := 2) (oi := ⟨some 48, .load 108 (.tmp 6), 108, "save.go:80", #[], none⟩) (v := .agg #[.int .i64 ts, .int .u64 (id : Int), .int .i64 typ, .int .i64 a0, .int .i64 a1, .int .i64 a2, .int .i64 a3, .int .i64 a4, .int .i64 a5, .int .i64 a6, .int .i64 a7]) rfl (by kernel_rfl) (by kernel_rfl) (by kernel_rfl) (fun _ _ _ h => h) (.inl ⟨by rfl, ?_⟩) (by assumption) ?_
         ·intro w hSw; (try dsimp only at hSw); go_simp; all_goals (with_reducible rfl)
         try simp only [Act.put, sv_a, sv_0, sv_1]
         refine wpAnyH_ready (rs := [3]) (by kernel_rfl) (by simp) ?_
         refine AllReadyH.cons (o := ⟨some 49, .call { callee := .value (.func 69), args := #[.tmp 47, .tmp 48], argTypes := #[24, 108] }, 40, "save.go:80", #[⟨1, .data⟩, ⟨2, .data⟩], none⟩) rfl (fun K hK => ?_) AllReadyH.nil
         go_simp
         go_at_call 69
         refine (HCE2.out _ (HBB.out.trans (HBQ.out.mono HBB.out.size))).mono ?_
         rintro e wC ⟨r, rfl, hr, hbC⟩
         obtain rfl : r = 0 := hr.2 HOKK.out
         have HBQ := Lib.hid (HBQ.out.trans (hbC.mono HBQ.out.size))
         clear s0 g0 g1 g2 g3 g4 g5 g6 g7 g8 g9 g10 e0 e1 e2 e3 e4 e5 e6 e7 e8 e9 e10
         have s0 := (HE.out.below (HBB.out.trans (HBQ.out.mono HBB.out.size))).ci 0 rfl
         have g0 := (HFB.out.below HBQ.out).ci 0 rfl
         have g1 := (HFB.out.below HBQ.out).ci 1 rfl
         have g2 := (HFB.out.below HBQ.out).ci 2 rfl
         have g3 := (HFB.out.below HBQ.out).ci 3 rfl
         have g4 := (HFB.out.below HBQ.out).ci 4 rfl
         have g5 := (HFB.out.below HBQ.out).ci 5 rfl
         have g6 := (HFB.out.below HBQ.out).ci 6 rfl
         have g7 := (HFB.out.below HBQ.out).ci 7 rfl
         have g8 := (HFB.out.below HBQ.out).ci 8 rfl
         have g9 := (HFB.out.below HBQ.out).ci 9 rfl
         have g10 := (HFB.out.below HBQ.out).ci 10 rfl
         obtain ⟨e0, e1, e2, e3, e4, e5, e6, e7, e8, e9, e10⟩ := HC2.out _ (HBB.out.trans (HBQ.out.mono HBB.out.size))
         clear hbC hr
         go_wp2_with fail
         refine hK.out _ _ ⟨s0, g0, g1, g2, g3, g4, g5, g6, g7, g8, g9, g10, e0, e1, e2, e3, e4, e5, e6, e7, e8, e9, e10⟩ (fun hHeld => ?_)
         clear hK K
         try simp only [Act.put, sv_a, sv_0, sv_1]
         refine wpAnyH_take (i := 4) (oi := ⟨some 50, .binOp .neq 40 (.tmp 49) (.const (.int .i64 0)) 40, 4, "save.go:80", #[⟨3, .data⟩], none⟩) (v := .bool false) rfl (by kernel_rfl) (by kernel_rfl) (by kernel_rfl) (fun _ _ _ h => h) (.inl ⟨by rfl, ?_⟩) (by assumption) ?_
         ·intro w hSw; (try dsimp only at hSw); go_simp; all_goals (with_reducible rfl)
         try simp only [Act.put, sv_a, sv_0, sv_1]
         refine wpAnyH_take (i := 5) (oi := ⟨some 51, .move (.tmp 50), 4, "save.go:80", #[⟨4, .data⟩, ⟨3, .chain⟩], none⟩) (v := .bool false) rfl (by kernel_rfl) (by kernel_rfl) (by kernel_rfl) (fun _ _ _ h => h) (.inl ⟨by rfl, ?_⟩) (by assumption) ?_
         ·intro w hSw; (try dsimp only at hSw); go_simp; all_goals (with_reducible rfl)
         try simp only [Act.put, sv_a, sv_0, sv_1]
         refine wpAnyH_take (i := 6) (oi := ⟨some 52, .move (.tmp 5), 3, "save.go:80", #[⟨5, .guard⟩], some (5, false)⟩) (v := .int .i64 ((p : Int) + 1)) rfl (by kernel_rfl) (by kernel_rfl) (by kernel_rfl) (fun _ _ _ h => h) (.inl ⟨by rfl, ?_⟩) (by assumption) ?_
         ·intro w hSw; (try dsimp only at hSw); go_simp; all_goals (with_reducible rfl)
         try simp only [Act.put, sv_a, sv_0, sv_1]
         refine wpAnyH_take (i := 7) (oi := ⟨some 53, .binOp .gtr 3 (.tmp 52) (.const (.int .i64 0)) 3, 4, "save.go:80", #[⟨6, .data⟩, ⟨5, .guard⟩], some (5, false)⟩) (v := .bool true) rfl (by kernel_rfl) (by kernel_rfl) (by kernel_rfl) (fun _ _ _ h => h) (.inl ⟨by rfl, ?_⟩) (by assumption) ?_
         ·intro w hSw; (try dsimp only at hSw); go_simp; all_goals (with_reducible rfl)
         try simp only [Act.put, sv_a, sv_0, sv_1]
         refine wpAnyH_take (i := 8) (oi := ⟨some 54, .move (.tmp 53), 4, "save.go:80", #[⟨7, .data⟩, ⟨5, .chain⟩, ⟨5, .guard⟩], some (5, false)⟩) (v := .bool true) rfl (by kernel_rfl) (by kernel_rfl) (by kernel_rfl) (fun _ _ _ h => h) (.inl ⟨by rfl, ?_⟩) (by assumption) ?_
         ·intro w hSw; (try dsimp only at hSw); go_simp; all_goals (with_reducible rfl)
         try simp only [Act.put, sv_a, sv_0, sv_1]
         refine wpAnyH_take (i := 9) (oi := ⟨some 55, .move (.tmp 4), 32, "save.go:80", #[⟨8, .guard⟩], some (8, true)⟩) (v := .slice (some ⟨b, off, none⟩) nh hc) rfl (by kernel_rfl) (by kernel_rfl) (by kernel_rfl) (fun _ _ _ h => h) (.inl ⟨by rfl, ?_⟩) (by assumption) ?_
         ·intro w hSw; (try dsimp only at hSw); go_simp; all_goals (with_reducible rfl)
         try simp only [Act.put, sv_a, sv_0, sv_1]
         refine wpAnyH_take (i := 10) (oi := ⟨some 56, .move (.tmp 5), 3, "save.go:80", #[⟨8, .guard⟩], some (8, true)⟩) (v := .int .i64 ((p : Int) + 1)) rfl (by kernel_rfl) (by kernel_rfl) (by kernel_rfl) (fun _ _ _ h => h) (.inl ⟨by rfl, ?_⟩) (by assumption) ?_
         ·intro w hSw; (try dsimp only at hSw); go_simp; all_goals (with_reducible rfl)
         try simp only [Act.put, sv_a, sv_0, sv_1]
         refine wpAnyH_take (i := 11) (oi := ⟨some 57, .binOp .sub 3 (.tmp 56) (.const (.int .i64 1)) 3, 3, "save.go:80", #[⟨10, .data⟩, ⟨8, .guard⟩], some (8, true)⟩) (v := .int .i64 (p : Int)) rfl (by kernel_rfl) (by kernel_rfl) (by kernel_rfl) (fun _ _ _ h => h) (.inl ⟨by rfl, ?_⟩) (by assumption) ?_
         ·intro w hSw; (try dsimp only at hSw); go_simp; all_goals (with_reducible rfl)
         try simp only [Act.put, sv_a, sv_0, sv_1]
         refine wpAnyH_take (i := 12) (oi := ⟨some 58, .indexAddr 32 (.tmp 55) (.tmp 57), 0, "save.go:80", #[⟨9, .data⟩, ⟨11, .data⟩, ⟨8, .guard⟩], some (8, true)⟩) (v := .pointer (some ⟨b, off + p * 11, none⟩)) rfl (by kernel_rfl) (by kernel_rfl) (by kernel_rfl) (fun _ _ _ h => h) (.inl ⟨by rfl, ?_⟩) (by assumption) ?_
         ·intro w hSw; (try dsimp only at hSw); go_simp; all_goals (with_reducible rfl)
         try simp only [Act.put, sv_a, sv_0, sv_1]
         refine wpAnyH_take (i := 13) (oi := ⟨some 59, .load 108 (.tmp 58), 108, "save.go:80", #[⟨12, .data⟩, ⟨8, .guard⟩], some (8, true)⟩) (v := .agg #[.int .i64 ts2, .int .u64 (i2 : Int), .int .i64 typ2, .int .i64 v0, .int .i64 v1, .int .i64 v2, .int .i64 v3, .int .i64 v4, .int .i64 v5, .int .i64 v6, .int .i64 v7]) rfl (by kernel_rfl) (by kernel_rfl) (by kernel_rfl) (fun _ _ _ h => h) (.inl ⟨by rfl, ?_⟩) (by assumption) ?_
         ·intro w hSw; (try dsimp only at hSw); go_simp; all_goals (with_reducible rfl)
         try simp only [Act.put, sv_a, sv_0, sv_1]
         refine wpAnyH_take (i := 14) (oi := ⟨some 60, .load 108 (.tmp 6), 108, "save.go:80", #[⟨8, .guard⟩], some (8, true)⟩) (v := .agg #[.int .i64 ts, .int .u64 (id : Int), .int .i64 typ, .int .i64 a0, .int .i64 a1, .int .i64 a2, .int .i64 a3, .int .i64 a4, .int .i64 a5, .int .i64 a6, .int .i64 a7]) rfl (by kernel_rfl) (by kernel_rfl) (by kernel_rfl) (fun _ _ _ h => h) (.inl ⟨by rfl, ?_⟩) (by assumption) ?_
         ·intro w hSw; (try dsimp only at hSw); go_simp; all_goals (with_reducible rfl)
         try simp only [Act.put, sv_a, sv_0, sv_1]
         refine wpAnyH_ready (rs := [15]) (by kernel_rfl) (by simp) ?_
         refine AllReadyH.cons (o := ⟨some 61, .call { callee := .value (.func 70), args := #[.tmp 59, .tmp 60], argTypes := #[108, 108] }, 4, "save.go:80", #[⟨13, .data⟩, ⟨14, .data⟩, ⟨8, .chain⟩, ⟨8, .guard⟩], some (8, true)⟩) rfl (fun K hK => ?_) AllReadyH.nil
         go_simp
         go_at_call 70
         refine (HBF.out _).mono ?_
         rintro e wD ⟨rfl, hbD⟩
         rw [HLT.out]
         have HBQ := Lib.hid (HBQ.out.trans (hbD.mono HBQ.out.size))
         clear s0 g0 g1 g2 g3 g4 g5 g6 g7 g8 g9 g10 e0 e1 e2 e3 e4 e5 e6 e7 e8 e9 e10
         have s0 := (HE.out.below (HBB.out.trans (HBQ.out.mono HBB.out.size))).ci 0 rfl
         have g0 := (HFB.out.below HBQ.out).ci 0 rfl
         have g1 := (HFB.out.below HBQ.out).ci 1 rfl
         have g2 := (HFB.out.below HBQ.out).ci 2 rfl
         have g3 := (HFB.out.below HBQ.out).ci 3 rfl
         have g4 := (HFB.out.below HBQ.out).ci 4 rfl
         have g5 := (HFB.out.below HBQ.out).ci 5 rfl
         have g6 := (HFB.out.below HBQ.out).ci 6 rfl
         have g7 := (HFB.out.below HBQ.out).ci 7 rfl
         have g8 := (HFB.out.below HBQ.out).ci 8 rfl
         have g9 := (HFB.out.below HBQ.out).ci 9 rfl
         have g10 := (HFB.out.below HBQ.out).ci 10 rfl
         obtain ⟨e0, e1, e2, e3, e4, e5, e6, e7, e8, e9, e10⟩ := HC2.out _ (HBB.out.trans (HBQ.out.mono HBB.out.size))
         clear hbD
         go_wp2_with fail
         refine hK.out _ _ ⟨s0, g0, g1, g2, g3, g4, g5, g6, g7, g8, g9, g10, e0, e1, e2, e3, e4, e5, e6, e7, e8, e9, e10⟩ (fun hHeld => ?_)
         clear hK K
         try simp only [Act.put, sv_a, sv_0, sv_1]
         refine wpAnyH_take (i := 16) (oi := ⟨some 62, .unOp .not 4 (.tmp 61), 4, "save.go:80", #[⟨15, .data⟩, ⟨8, .guard⟩], some (8, true)⟩) (v := .bool false) rfl (by kernel_rfl) (by kernel_rfl) (by kernel_rfl) (fun _ _ _ h => h) (.inl ⟨by rfl, ?_⟩) (by assumption) ?_
         ·intro w hSw; (try dsimp only at hSw); go_simp; all_goals (with_reducible rfl)
         try simp only [Act.put, sv_a, sv_0, sv_1]
         refine wpAnyH_take (i := 17) (oi := ⟨some 63, .pick (.tmp 54) (.tmp 62) (.const (.bool false)), 4, "save.go:80", #[⟨8, .data⟩, ⟨16, .data⟩, ⟨5, .guard⟩], some (5, false)⟩) (v := .bool false) rfl (by kernel_rfl) (by kernel_rfl) (by kernel_rfl) (fun _ _ _ h => h) (.inl ⟨by rfl, ?_⟩) (by assumption) ?_
         ·intro w hSw; (try dsimp only at hSw); go_simp; all_goals (with_reducible rfl)
         try simp only [Act.put, sv_a, sv_0, sv_1]
         refine wpAnyH_take (i := 18) (oi := ⟨some 64, .pick (.tmp 51) (.const (.bool true)) (.tmp 63), 4, "save.go:80", #[⟨5, .data⟩, ⟨17, .data⟩], none⟩) (v := .bool false) rfl (by kernel_rfl) (by kernel_rfl) (by kernel_rfl) (fun _ _ _ h => h) (.inl ⟨by rfl, ?_⟩) (by assumption) ?_
         ·intro w hSw; (try dsimp only at hSw); go_simp; all_goals (with_reducible rfl)
         try simp only [Act.put, sv_a, sv_0, sv_1]
         refine wpAnyH_done (by kernel_rfl) ?_ _

         have HB3 := Lib.hid (HBB.out.trans (HBQ.out.mono HBB.out.size))
         clear s0 g0 g1 g2 g3 g4 g5 g6 g7 g8 g9 g10 e0 e1 e2 e3 e4 e5 e6 e7 e8 e9 e10
         go_wp2_with fail
         go_roundw
         case rel => exact ⟨p + 1 + 1, hlt, by go_num, HPS.out, HB3.out⟩
         case measure => exact HME.out
        | false =>
         have HLT := Lib.hid hlt2
         have HNO := Lib.hid (show ¬ P by rw [HP.out]; exact fun hs => LOk.no2 hjl (show p + 1 < held.length from hjl) (by rw [HNM2.out, HNM1.out]; exact hlt2) hs.held)
         clear hlt2
         go_wp2_with fail
         refine wp_region_held_drew (S := fun W => W.cell? ⟨w.heap.size, 0, none⟩ = some (.slice ta nt tc) ∧ W.cell? ⟨gb, 0, none⟩ = some (.int .i64 ts) ∧ W.cell? ⟨gb, 1, none⟩ = some (.int .u64 (id : Int)) ∧ W.cell? ⟨gb, 2, none⟩ = some (.int .i64 typ) ∧ W.cell? ⟨gb, 3, none⟩ = some (.int .i64 a0) ∧ W.cell? ⟨gb, 4, none⟩ = some (.int .i64 a1) ∧ W.cell? ⟨gb, 5, none⟩ = some (.int .i64 a2) ∧ W.cell? ⟨gb, 6, none⟩ = some (.int .i64 a3) ∧ W.cell? ⟨gb, 7, none⟩ = some (.int .i64 a4) ∧ W.cell? ⟨gb, 8, none⟩ = some (.int .i64 a5) ∧ W.cell? ⟨gb, 9, none⟩ = some (.int .i64 a6) ∧ W.cell? ⟨gb, 10, none⟩ = some (.int .i64 a7) ∧ W.cell? ⟨b, off + p * 11, none⟩ = some (.int .i64 ts2) ∧ W.cell? ⟨b, off + p * 11 + 1, none⟩ = some (.int .u64 (i2 : Int)) ∧ W.cell? ⟨b, off + p * 11 + 2, none⟩ = some (.int .i64 typ2) ∧ W.cell? ⟨b, off + p * 11 + 3, none⟩ = some (.int .i64 v0) ∧ W.cell? ⟨b, off + p * 11 + 4, none⟩ = some (.int .i64 v1) ∧ W.cell? ⟨b, off + p * 11 + 5, none⟩ = some (.int .i64 v2) ∧ W.cell? ⟨b, off + p * 11 + 6, none⟩ = some (.int .i64 v3) ∧ W.cell? ⟨b, off + p * 11 + 7, none⟩ = some (.int .i64 v4) ∧ W.cell? ⟨b, off + p * 11 + 8, none⟩ = some (.int .i64 v5) ∧ W.cell? ⟨b, off + p * 11 + 9, none⟩ = some (.int .i64 v6) ∧ W.cell? ⟨b, off + p * 11 + 10, none⟩ = some (.int .i64 v7)) (by kernel_rfl) ⟨s0, g0, g1, g2, g3, g4, g5, g6, g7, g8, g9, g10, e0, e1, e2, e3, e4, e5, e6, e7, e8, e9, e10⟩ (fun hHeld => ?_)
         refine wpAnyH_take (i := 0) (oi := ⟨some 46, .fieldAddr 36 (.tmp 1) 0, 0, "save.go:80", #[], none⟩) (v := .pointer (some ⟨w.heap.size, 0, none⟩)) rfl (by kernel_rfl) (by kernel_rfl) (by kernel_rfl) (fun _ _ _ h => h) (.inl ⟨by rfl, ?_⟩) (by assumption) ?_
         ·intro w hSw; (try dsimp only at hSw); go_simp; all_goals (with_reducible rfl)
         try simp only [Act.put, sv_a, sv_0, sv_1]
         refine wpAnyH_take (i := 1) (oi := ⟨some 47, .load 24 (.tmp 46), 24, "save.go:80", #[⟨0, .data⟩], none⟩) (v := .agg #[.slice ta nt tc]) rfl (by kernel_rfl) (by kernel_rfl) (by kernel_rfl) (fun _ _ _ h => h) (.inl ⟨by rfl, ?_⟩) (by assumption) ?_
         ·intro w hSw; (try dsimp only at hSw); go_simp; all_goals (with_reducible rfl)
         try simp only [Act.put, sv_a, sv_0, sv_1]
         refine wpAnyH_take (i := 2) (oi := ⟨some 48, .load 108 (.tmp 6), 108, "save.go:80", #[], none⟩) (v := .agg #[.int .i64 ts, .int .u64 (id : Int), .int .i64 typ, .int .i64 a0, .int .i64 a1, .int .i64 a2, .int .i64 a3, .int .i64 a4, .int .i64 a5, .int .i64 a6, .int .i64 a7]) rfl (by kernel_rfl) (by kernel_rfl) (by kernel_rfl) (fun _ _ _ h => h) (.inl ⟨by rfl, ?_⟩) (by assumption) ?_
         ·intro w hSw; (try dsimp only at hSw); go_simp; all_goals (with_reducible rfl)
         try simp only [Act.put, sv_a, sv_0, sv_1]
         refine wpAnyH_ready (rs := [3]) (by kernel_rfl) (by simp) ?_
         refine AllReadyH.cons (o := ⟨some 49, .call { callee := .value (.func 69), args := #[.tmp 47, .tmp 48], argTypes := #[24, 108] }, 40, "save.go:80", #[⟨1, .data⟩, ⟨2, .data⟩], none⟩) rfl (fun K hK => ?_) AllReadyH.nil
         go_simp
         go_at_call 69
         refine (HCE2.out _ (HBB.out.trans (HBQ.out.mono HBB.out.size))).mono ?_
         rintro e wC ⟨r, rfl, hr, hbC⟩
         obtain rfl : r = 0 := hr.2 HOKK.out
         have HBQ := Lib.hid (HBQ.out.trans (hbC.mono HBQ.out.size))
         clear s0 g0 g1 g2 g3 g4 g5 g6 g7 g8 g9 g10 e0 e1 e2 e3 e4 e5 e6 e7 e8 e9 e10
         have s0 := (HE.out.below (HBB.out.trans (HBQ.out.mono HBB.out.size))).ci 0 rfl
         have g0 := (HFB.out.below HBQ.out).ci 0 rfl
         have g1 := (HFB.out.below HBQ.out).ci 1 rfl
         have g2 := (HFB.out.below HBQ.out).ci 2 rfl
         have g3 := (HFB.out.below HBQ.out).ci 3 rfl
         have g4 := (HFB.out.below HBQ.out).ci 4 rfl
         have g5 := (HFB.out.below HBQ.out).ci 5 rfl
         have g6 := (HFB.out.below HBQ.out).ci 6 rfl
         have g7 := (HFB.out.below HBQ.out).ci 7 rfl
         have g8 := (HFB.out.below HBQ.out).ci 8 rfl
         have g9 := (HFB.out.below HBQ.out).ci 9 rfl
         have g10 := (HFB.out.below HBQ.out).ci 10 rfl
         obtain ⟨e0, e1, e2, e3, e4, e5, e6, e7, e8, e9, e10⟩ := HC2.out _ (HBB.out.trans (HBQ.out.mono HBB.out.size))
         clear hbC hr
         go_wp2_with fail
         refine hK.out _ _ ⟨s0, g0, g1, g2, g3, g4, g5, g6, g7, g8, g9, g10, e0, e1, e2, e3, e4, e5, e6, e7, e8, e9, e10⟩ (fun hHeld => ?_)
         clear hK K
         try simp only [Act.put, sv_a, sv_0, sv_1]
         refine wpAnyH_take (i := 4) (oi := ⟨some 50, .binOp .neq 40 (.tmp 49) (.const (.int .i64 0)) 40, 4, "save.go:80", #[⟨3, .data⟩], none⟩) (v := .bool false) rfl (by kernel_rfl) (by kernel_rfl) (by kernel_rfl) (fun _ _ _ h => h) (.inl ⟨by rfl, ?_⟩) (by assumption) ?_
         ·intro w hSw; (try dsimp only at hSw); go_simp; all_goals (with_reducible rfl)
         try simp only [Act.put, sv_a, sv_0, sv_1]
         refine wpAnyH_take (i := 5) (oi := ⟨some 51, .move (.tmp 50), 4, "save.go:80", #[⟨4, .data⟩, ⟨3, .chain⟩], none⟩) (v := .bool false) rfl (by kernel_rfl) (by kernel_rfl) (by kernel_rfl) (fun _ _ _ h => h) (.inl ⟨by rfl, ?_⟩) (by assumption) ?_
         ·intro w hSw; (try dsimp only at hSw); go_simp; all_goals (with_reducible rfl)
         try simp only [Act.put, sv_a, sv_0, sv_1]
         refine wpAnyH_take (i := 6) (oi := ⟨some 52, .move (.tmp 5), 3, "save.go:80", #[⟨5, .guard⟩], some (5, false)⟩) (v := .int .i64 ((p : Int) + 1)) rfl (by kernel_rfl) (by kernel_rfl) (by kernel_rfl) (fun _ _ _ h => h) (.inl ⟨by rfl, ?_⟩) (by assumption) ?_
         ·intro w hSw; (try dsimp only at hSw); go_simp; all_goals (with_reducible rfl)
         try simp only [Act.put, sv_a, sv_0, sv_1]
         refine wpAnyH_take (i := 7) (oi := ⟨some 53, .binOp .gtr 3 (.tmp 52) (.const (.int .i64 0)) 3, 4, "save.go:80", #[⟨6, .data⟩, ⟨5, .guard⟩], some (5, false)⟩) (v := .bool true) rfl (by kernel_rfl) (by kernel_rfl) (by kernel_rfl) (fun _ _ _ h => h) (.inl ⟨by rfl, ?_⟩) (by assumption) ?_
         ·intro w hSw; (try dsimp only at hSw); go_simp; all_goals (with_reducible rfl)
         try simp only [Act.put, sv_a, sv_0, sv_1]
         refine wpAnyH_take (i := 8) (oi := ⟨some 54, .move (.tmp 53), 4, "save.go:80", #[⟨7, .data⟩, ⟨5, .chain⟩, ⟨5, .guard⟩], some (5, false)⟩) (v := .bool true) rfl (by kernel_rfl) (by kernel_rfl) (by kernel_rfl) (fun _ _ _ h => h) (.inl ⟨by rfl, ?_⟩) (by assumption) ?_
         ·intro w hSw; (try dsimp only at hSw); go_simp; all_goals (with_reducible rfl)
         try simp only [Act.put, sv_a, sv_0, sv_1]
         refine wpAnyH_take (i := 9) (oi := ⟨some 55, .move (.tmp 4), 32, "save.go:80", #[⟨8, .guard⟩], some (8, true)⟩) (v := .slice (some ⟨b, off, none⟩) nh hc) rfl (by kernel_rfl) (by kernel_rfl) (by kernel_rfl) (fun _ _ _ h => h) (.inl ⟨by rfl, ?_⟩) (by assumption) ?_
         ·intro w hSw; (try dsimp only at hSw); go_simp; all_goals (with_reducible rfl)
         try simp only [Act.put, sv_a, sv_0, sv_1]
         refine wpAnyH_take (i := 10) (oi := ⟨some 56, .move (.tmp 5), 3, "save.go:80", #[⟨8, .guard⟩], some (8, true)⟩) (v := .int .i64 ((p : Int) + 1)) rfl (by kernel_rfl) (by kernel_rfl) (by kernel_rfl) (fun _ _ _ h => h) (.inl ⟨by rfl, ?_⟩) (by assumption) ?_
         ·intro w hSw; (try dsimp only at hSw); go_simp; all_goals (with_reducible rfl)
         try simp only [Act.put, sv_a, sv_0, sv_1]
         refine wpAnyH_take (i := 11) (oi := ⟨some 57, .binOp .sub 3 (.tmp 56) (.const (.int .i64 1)) 3, 3, "save.go:80", #[⟨10, .data⟩, ⟨8, .guard⟩], some (8, true)⟩) (v := .int .i64 (p : Int)) rfl (by kernel_rfl) (by kernel_rfl) (by kernel_rfl) (fun _ _ _ h => h) (.inl ⟨by rfl, ?_⟩) (by assumption) ?_
         ·intro w hSw; (try dsimp only at hSw); go_simp; all_goals (with_reducible rfl)
         try simp only [Act.put, sv_a, sv_0, sv_1]
         refine wpAnyH_take (i := 12) (oi := ⟨some 58, .indexAddr 32 (.tmp 55) (.tmp 57), 0, "save.go:80", #[⟨9, .data⟩, ⟨11, .data⟩, ⟨8, .guard⟩], some (8, true)⟩) (v := .pointer (some ⟨b, off + p * 11, none⟩)) rfl (by kernel_rfl) (by kernel_rfl) (by kernel_rfl) (fun _ _ _ h => h) (.inl ⟨by rfl, ?_⟩) (by assumption) ?_
         ·intro w hSw; (try dsimp only at hSw); go_simp; all_goals (with_reducible rfl)
         try simp only [Act.put, sv_a, sv_0, sv_1]
         refine wpAnyH_take (i := 13) (oi := ⟨some 59, .load 108 (.tmp 58), 108, "save.go:80", #[⟨12, .data⟩, ⟨8, .guard⟩], some (8, true)⟩) (v := .agg #[.int .i64 ts2, .int .u64 (i2 : Int), .int .i64 typ2, .int .i64 v0, .int .i64 v1, .int .i64 v2, .int .i64 v3, .int .i64 v4, .int .i64 v5, .int .i64 v6, .int .i64 v7]) rfl (by kernel_rfl) (by kernel_rfl) (by kernel_rfl) (fun _ _ _ h => h) (.inl ⟨by rfl, ?_⟩) (by assumption) ?_
         ·intro w hSw; (try dsimp only at hSw); go_simp; all_goals (with_reducible rfl)
         try simp only [Act.put, sv_a, sv_0, sv_1]
         refine wpAnyH_take (i := 14) (oi := ⟨some 60, .load 108 (.tmp 6), 108, "save.go:80", #[⟨8, .guard⟩], some (8, true)⟩) (v := .agg #[.int .i64 ts, .int .u64 (id : Int), .int .i64 typ, .int .i64 a0, .int .i64 a1, .int .i64 a2, .int .i64 a3, .int .i64 a4, .int .i64 a5, .int .i64 a6, .int .i64 a7]) rfl (by kernel_rfl) (by kernel_rfl) (by kernel_rfl) (fun _ _ _ h => h) (.inl ⟨by rfl, ?_⟩) (by assumption) ?_
         ·intro w hSw; (try dsimp only at hSw); go_simp; all_goals (with_reducible rfl)
         try simp only [Act.put, sv_a, sv_0, sv_1]
         refine wpAnyH_ready (rs := [15]) (by kernel_rfl) (by simp) ?_
         refine AllReadyH.cons (o := ⟨some 61, .call { callee := .value (.func 70), args := #[.tmp 59, .tmp 60], argTypes := #[108, 108] }, 4, "save.go:80", #[⟨13, .data⟩, ⟨14, .data⟩, ⟨8, .chain⟩, ⟨8, .guard⟩], some (8, true)⟩) rfl (fun K hK => ?_) AllReadyH.nil
         go_simp
         go_at_call 70
         refine (HBF.out _).mono ?_
         rintro e wD ⟨rfl, hbD⟩
         rw [HLT.out]
         have HBQ := Lib.hid (HBQ.out.trans (hbD.mono HBQ.out.size))
         clear s0 g0 g1 g2 g3 g4 g5 g6 g7 g8 g9 g10 e0 e1 e2 e3 e4 e5 e6 e7 e8 e9 e10
         have s0 := (HE.out.below (HBB.out.trans (HBQ.out.mono HBB.out.size))).ci 0 rfl
         have g0 := (HFB.out.below HBQ.out).ci 0 rfl
         have g1 := (HFB.out.below HBQ.out).ci 1 rfl
         have g2 := (HFB.out.below HBQ.out).ci 2 rfl
         have g3 := (HFB.out.below HBQ.out).ci 3 rfl
         have g4 := (HFB.out.below HBQ.out).ci 4 rfl
         have g5 := (HFB.out.below HBQ.out).ci 5 rfl
         have g6 := (HFB.out.below HBQ.out).ci 6 rfl
         have g7 := (HFB.out.below HBQ.out).ci 7 rfl
         have g8 := (HFB.out.below HBQ.out).ci 8 rfl
         have g9 := (HFB.out.below HBQ.out).ci 9 rfl
         have g10 := (HFB.out.below HBQ.out).ci 10 rfl
         obtain ⟨e0, e1, e2, e3, e4, e5, e6, e7, e8, e9, e10⟩ := HC2.out _ (HBB.out.trans (HBQ.out.mono HBB.out.size))
         clear hbD
         go_wp2_with fail
         refine hK.out _ _ ⟨s0, g0, g1, g2, g3, g4, g5, g6, g7, g8, g9, g10, e0, e1, e2, e3, e4, e5, e6, e7, e8, e9, e10⟩ (fun hHeld => ?_)
         clear hK K
         try simp only [Act.put, sv_a, sv_0, sv_1]
         refine wpAnyH_take (i := 16) (oi := ⟨some 62, .unOp .not 4 (.tmp 61), 4, "save.go:80", #[⟨15, .data⟩, ⟨8, .guard⟩], some (8, true)⟩) (v := .bool true) rfl (by kernel_rfl) (by kernel_rfl) (by kernel_rfl) (fun _ _ _ h => h) (.inl ⟨by rfl, ?_⟩) (by assumption) ?_
         ·intro w hSw; (try dsimp only at hSw); go_simp; all_goals (with_reducible rfl)
         try simp only [Act.put, sv_a, sv_0, sv_1]
         refine wpAnyH_take (i := 17) (oi := ⟨some 63, .pick (.tmp 54) (.tmp 62) (.const (.bool false)), 4, "save.go:80", #[⟨8, .data⟩, ⟨16, .data⟩, ⟨5, .guard⟩], some (5, false)⟩) (v := .bool true) rfl (by kernel_rfl) (by kernel_rfl) (by kernel_rfl) (fun _ _ _ h => h) (.inl ⟨by rfl, ?_⟩) (by assumption) ?_
         ·intro w hSw; (try dsimp only at hSw); go_simp; all_goals (with_reducible rfl)
         try simp only [Act.put, sv_a, sv_0, sv_1]
         refine wpAnyH_take (i := 18) (oi := ⟨some 64, .pick (.tmp 51) (.const (.bool true)) (.tmp 63), 4, "save.go:80", #[⟨5, .data⟩, ⟨17, .data⟩], none⟩) (v := .bool true) rfl (by kernel_rfl) (by kernel_rfl) (by kernel_rfl) (fun _ _ _ h => h) (.inl ⟨by rfl, ?_⟩) (by assumption) ?_
         ·intro w hSw; (try dsimp only at hSw); go_simp; all_goals (with_reducible rfl)
         try simp only [Act.put, sv_a, sv_0, sv_1]
         refine wpAnyH_done (by kernel_rfl) ?_ _

         have HB3 := Lib.hid (HBB.out.trans (HBQ.out.mono HBB.out.size))
         clear s0 g0 g1 g2 g3 g4 g5 g6 g7 g8 g9 g10 e0 e1 e2 e3 e4 e5 e6 e7 e8 e9 e10
         go_wp2_with fail
         go_ret
         exact .no rfl HNO.out (HB0.out.trans (HB3.out.mono HB0.out.size))
      ·have HNO := Lib.hid (show ¬ P by rw [HP.out]; exact fun hs => LOk.no1 hjl (show k < held.length from hjl) hok hs.held)
       have HNOK := Lib.hid hok
       clear hok
       go_wp2_with fail
       refine wp_region_held_drew (S := fun W => W.cell? ⟨w.heap.size, 0, none⟩ = some (.slice ta nt tc) ∧ W.cell? ⟨gb, 0, none⟩ = some (.int .i64 ts) ∧ W.cell? ⟨gb, 1, none⟩ = some (.int .u64 (id : Int)) ∧ W.cell? ⟨gb, 2, none⟩ = some (.int .i64 typ) ∧ W.cell? ⟨gb, 3, none⟩ = some (.int .i64 a0) ∧ W.cell? ⟨gb, 4, none⟩ = some (.int .i64 a1) ∧ W.cell? ⟨gb, 5, none⟩ = some (.int .i64 a2) ∧ W.cell? ⟨gb, 6, none⟩ = some (.int .i64 a3) ∧ W.cell? ⟨gb, 7, none⟩ = some (.int .i64 a4) ∧ W.cell? ⟨gb, 8, none⟩ = some (.int .i64 a5) ∧ W.cell? ⟨gb, 9, none⟩ = some (.int .i64 a6) ∧ W.cell? ⟨gb, 10, none⟩ = some (.int .i64 a7)) (by kernel_rfl) ⟨s0, g0, g1, g2, g3, g4, g5, g6, g7, g8, g9, g10⟩ (fun hHeld => ?_)
       refine wpAnyH_take (i := 0) (oi := ⟨some 46, .fieldAddr 36 (.tmp 1) 0, 0, "save.go:80", #[], none⟩) (v := .pointer (some ⟨w.heap.size, 0, none⟩)) rfl (by kernel_rfl) (by kernel_rfl) (by kernel_rfl) (fun _ _ _ h => h) (.inl ⟨by rfl, ?_⟩) (by assumption) ?_
       ·intro w hSw; (try dsimp only at hSw); go_simp; all_goals (with_reducible rfl)
       try simp only [Act.put, sv_a, sv_0, sv_1]
       refine wpAnyH_take (i := 1) (oi := ⟨some 47, .load 24 (.tmp 46), 24, "save.go:80", #[⟨0, .data⟩], none⟩) (v := .agg #[.slice ta nt tc]) rfl (by kernel_rfl) (by kernel_rfl) (by kernel_rfl) (fun _ _ _ h => h) (.inl ⟨by rfl, ?_⟩) (by assumption) ?_
       ·intro w hSw; (try dsimp only at hSw); go_simp; all_goals (with_reducible rfl)
       try simp only [Act.put, sv_a, sv_0, sv_1]
       refine wpAnyH_take (i := 2) (oi := ⟨some 48, .load 108 (.tmp 6), 108, "save.go:80", #[], none⟩) (v := .agg #[.int .i64 ts, .int .u64 (id : Int), .int .i64 typ, .int .i64 a0, .int .i64 a1, .int .i64 a2, .int .i64 a3, .int .i64 a4, .int .i64 a5, .int .i64 a6, .int .i64 a7]) rfl (by kernel_rfl) (by kernel_rfl) (by kernel_rfl) (fun _ _ _ h => h) (.inl ⟨by rfl, ?_⟩) (by assumption) ?_
       ·intro w hSw; (try dsimp only at hSw); go_simp; all_goals (with_reducible rfl)
       try simp only [Act.put, sv_a, sv_0, sv_1]
       refine wpAnyH_ready (rs := [3]) (by kernel_rfl) (by simp) ?_
       refine AllReadyH.cons (o := ⟨some 49, .call { callee := .value (.func 69), args := #[.tmp 47, .tmp 48], argTypes := #[24, 108] }, 40, "save.go:80", #[⟨1, .data⟩, ⟨2, .data⟩], none⟩) rfl (fun K hK => ?_) AllReadyH.nil
       go_simp
       go_at_call 69
       refine (HCE2.out _ (HBB.out.trans (HBQ.out.mono HBB.out.size))).mono ?_
       rintro e wC ⟨r, rfl, hr, hbC⟩
       have hr1 : (r == 0) = false := by simpa using fun h => HNOK.out (hr.1 h)
       have hr2 : (r != 0) = true := by simpa using fun h => HNOK.out (hr.1 h)
       have HBQ := Lib.hid (HBQ.out.trans (hbC.mono HBQ.out.size))
       clear s0 g0 g1 g2 g3 g4 g5 g6 g7 g8 g9 g10
       have s0 := (HE.out.below (HBB.out.trans (HBQ.out.mono HBB.out.size))).ci 0 rfl
       have g0 := (HFB.out.below HBQ.out).ci 0 rfl
       have g1 := (HFB.out.below HBQ.out).ci 1 rfl
       have g2 := (HFB.out.below HBQ.out).ci 2 rfl
       have g3 := (HFB.out.below HBQ.out).ci 3 rfl
       have g4 := (HFB.out.below HBQ.out).ci 4 rfl
       have g5 := (HFB.out.below HBQ.out).ci 5 rfl
       have g6 := (HFB.out.below HBQ.out).ci 6 rfl
       have g7 := (HFB.out.below HBQ.out).ci 7 rfl
       have g8 := (HFB.out.below HBQ.out).ci 8 rfl
       have g9 := (HFB.out.below HBQ.out).ci 9 rfl
       have g10 := (HFB.out.below HBQ.out).ci 10 rfl
       clear hbC hr
       go_wp2_with fail
       refine hK.out _ _ ⟨s0, g0, g1, g2, g3, g4, g5, g6, g7, g8, g9, g10⟩ (fun hHeld => ?_)
       clear hK K
       try simp only [Act.put, sv_a, sv_0, sv_1]
       refine wpAnyH_take (i := 4) (oi := ⟨some 50, .binOp .neq 40 (.tmp 49) (.const (.int .i64 0)) 40, 4, "save.go:80", #[⟨3, .data⟩], none⟩) (v := .bool true) rfl (by kernel_rfl) (by kernel_rfl) (by kernel_rfl) (fun _ _ _ h => h) (.inl ⟨by rfl, ?_⟩) (by assumption) ?_
       ·intro w hSw; (try dsimp only at hSw); go_simp; all_goals (with_reducible rfl)
       try simp only [Act.put, sv_a, sv_0, sv_1]
       refine wpAnyH_take (i := 5) (oi := ⟨some 51, .move (.tmp 50), 4, "save.go:80", #[⟨4, .data⟩, ⟨3, .chain⟩], none⟩) (v := .bool true) rfl (by kernel_rfl) (by kernel_rfl) (by kernel_rfl) (fun _ _ _ h => h) (.inl ⟨by rfl, ?_⟩) (by assumption) ?_
       ·intro w hSw; (try dsimp only at hSw); go_simp; all_goals (with_reducible rfl)
       try simp only [Act.put, sv_a, sv_0, sv_1]
       refine wpAnyH_take (i := 6) (oi := ⟨some 52, .move (.tmp 5), 3, "save.go:80", #[⟨5, .guard⟩], some (5, false)⟩) (v := undef) rfl (by kernel_rfl) (by kernel_rfl) (by kernel_rfl) (fun _ _ _ h => h) (.inr ⟨by rfl, rfl⟩) (by assumption) ?_
       try simp only [Act.put, sv_a, sv_0, sv_1]
       refine wpAnyH_take (i := 7) (oi := ⟨some 53, .binOp .gtr 3 (.tmp 52) (.const (.int .i64 0)) 3, 4, "save.go:80", #[⟨6, .data⟩, ⟨5, .guard⟩], some (5, false)⟩) (v := undef) rfl (by kernel_rfl) (by kernel_rfl) (by kernel_rfl) (fun _ _ _ h => h) (.inr ⟨by rfl, rfl⟩) (by assumption) ?_
       try simp only [Act.put, sv_a, sv_0, sv_1]
       refine wpAnyH_take (i := 8) (oi := ⟨some 54, .move (.tmp 53), 4, "save.go:80", #[⟨7, .data⟩, ⟨5, .chain⟩, ⟨5, .guard⟩], some (5, false)⟩) (v := undef) rfl (by kernel_rfl) (by kernel_rfl) (by kernel_rfl) (fun _ _ _ h => h) (.inr ⟨by rfl, rfl⟩) (by assumption) ?_
       try simp only [Act.put, sv_a, sv_0, sv_1]
       refine wpAnyH_take (i := 9) (oi := ⟨some 55, .move (.tmp 4), 32, "save.go:80", #[⟨8, .guard⟩], some (8, true)⟩) (v := undef) rfl (by kernel_rfl) (by kernel_rfl) (by kernel_rfl) (fun _ _ _ h => h) (.inr ⟨by rfl, rfl⟩) (by assumption) ?_
       try simp only [Act.put, sv_a, sv_0, sv_1]
       refine wpAnyH_take (i := 10) (oi := ⟨some 56, .move (.tmp 5), 3, "save.go:80", #[⟨8, .guard⟩], some (8, true)⟩) (v := undef) rfl (by kernel_rfl) (by kernel_rfl) (by kernel_rfl) (fun _ _ _ h => h) (.inr ⟨by rfl, rfl⟩) (by assumption) ?_
       try simp only [Act.put, sv_a, sv_0, sv_1]
       refine wpAnyH_take (i := 11) (oi := ⟨some 57, .binOp .sub 3 (.tmp 56) (.const (.int .i64 1)) 3, 3, "save.go:80", #[⟨10, .data⟩, ⟨8, .guard⟩], some (8, true)⟩) (v := undef) rfl (by kernel_rfl) (by kernel_rfl) (by kernel_rfl) (fun _ _ _ h => h) (.inr ⟨by rfl, rfl⟩) (by assumption) ?_
       try simp only [Act.put, sv_a, sv_0, sv_1]
       refine wpAnyH_take (i := 12) (oi := ⟨some 58, .indexAddr 32 (.tmp 55) (.tmp 57), 0, "save.go:80", #[⟨9, .data⟩, ⟨11, .data⟩, ⟨8, .guard⟩], some (8, true)⟩) (v := undef) rfl (by kernel_rfl) (by kernel_rfl) (by kernel_rfl) (fun _ _ _ h => h) (.inr ⟨by rfl, rfl⟩) (by assumption) ?_
       try simp only [Act.put, sv_a, sv_0, sv_1]
       refine wpAnyH_take (i := 13) (oi := ⟨some 59, .load 108 (.tmp 58), 108, "save.go:80", #[⟨12, .data⟩, ⟨8, .guard⟩], some (8, true)⟩) (v := undef) rfl (by kernel_rfl) (by kernel_rfl) (by kernel_rfl) (fun _ _ _ h => h) (.inr ⟨by rfl, rfl⟩) (by assumption) ?_
       try simp only [Act.put, sv_a, sv_0, sv_1]
       refine wpAnyH_take (i := 14) (oi := ⟨some 60, .load 108 (.tmp 6), 108, "save.go:80", #[⟨8, .guard⟩], some (8, true)⟩) (v := undef) rfl (by kernel_rfl) (by kernel_rfl) (by kernel_rfl) (fun _ _ _ h => h) (.inr ⟨by rfl, rfl⟩) (by assumption) ?_
       try simp only [Act.put, sv_a, sv_0, sv_1]
       refine wpAnyH_take (i := 15) (oi := ⟨some 61, .call { callee := .value (.func 70), args := #[.tmp 59, .tmp 60], argTypes := #[108, 108] }, 4, "save.go:80", #[⟨13, .data⟩, ⟨14, .data⟩, ⟨8, .chain⟩, ⟨8, .guard⟩], some (8, true)⟩) (v := undef) rfl (by kernel_rfl) (by kernel_rfl) (by kernel_rfl) (fun _ _ _ h => h) (.inr ⟨by rfl, rfl⟩) (by assumption) ?_
       try simp only [Act.put, sv_a, sv_0, sv_1]
       refine wpAnyH_take (i := 16) (oi := ⟨some 62, .unOp .not 4 (.tmp 61), 4, "save.go:80", #[⟨15, .data⟩, ⟨8, .guard⟩], some (8, true)⟩) (v := undef) rfl (by kernel_rfl) (by kernel_rfl) (by kernel_rfl) (fun _ _ _ h => h) (.inr ⟨by rfl, rfl⟩) (by assumption) ?_
       try simp only [Act.put, sv_a, sv_0, sv_1]
       refine wpAnyH_take (i := 17) (oi := ⟨some 63, .pick (.tmp 54) (.tmp 62) (.const (.bool false)), 4, "save.go:80", #[⟨8, .data⟩, ⟨16, .data⟩, ⟨5, .guard⟩], some (5, false)⟩) (v := undef) rfl (by kernel_rfl) (by kernel_rfl) (by kernel_rfl) (fun _ _ _ h => h) (.inr ⟨by rfl, rfl⟩) (by assumption) ?_
       try simp only [Act.put, sv_a, sv_0, sv_1]
       refine wpAnyH_take (i := 18) (oi := ⟨some 64, .pick (.tmp 51) (.const (.bool true)) (.tmp 63), 4, "save.go:80", #[⟨5, .data⟩, ⟨17, .data⟩], none⟩) (v := .bool true) rfl (by kernel_rfl) (by kernel_rfl) (by kernel_rfl) (fun _ _ _ h => h) (.inl ⟨by rfl, ?_⟩) (by assumption) ?_
       ·intro w hSw; (try dsimp only at hSw); go_simp; all_goals (with_reducible rfl)
       try simp only [Act.put, sv_a, sv_0, sv_1]
       refine wpAnyH_done (by kernel_rfl) ?_ _
       have HB3 := Lib.hid (HBB.out.trans (HBQ.out.mono HBB.out.size))
       clear s0 g0 g1 g2 g3 g4 g5 g6 g7 g8 g9 g10
       go_wp2_with fail
       go_ret
       exact .no rfl HNO.out (HB0.out.trans (HB3.out.mono HB0.out.size))
     ·have hk' : ¬ (k : Int) < nh := by omega
      have HKN := Lib.hid (show HK2 (0 + 1) by
       have h1 := HKQ.out
       rw [HHK.out] at h1 ⊢
       have h2 : LOk (tys types) held held.length := by
        have h := HPK.out
        rw [show k = held.length by rw [← HNH.out]; omega] at h
        exact h
       exact ⟨fun _ => h2, fun h => by omega⟩)
      clear hbw
      go_wp2_with fail
      go_roundw
      case rel => exact ⟨0 + 1, 1, rfl, by omega, by go_num, HKN.out, HBK.out⟩
      case measure => simp [intOf]
   ·obtain rfl : z = 1 := hqz
    obtain ⟨wv, rfl⟩ : ∃ v, v = wr := ⟨_, rfl⟩
    clear hbw
    have hix : (Instr.index 147 (.agg #[.slice ha nh hc, .slice ka nk kc]) (.int .i64 1)).run Tryz.prog wv = .ok (.slice ka nk kc) wv := by first | rfl | kernel_rfl | simp [Instr.index]
    go_wp2_with fail
    go_loopw [41] (fun i wr => ∃ k : Nat, k ≤ nk ∧ i = .int .i64 (k : Int) ∧ LOk (tys types) kept k ∧ Below w0.heap.size w0 wr) (fun i _ => nk - (intOf i).toNat)
    case atStart => exact ⟨0, Nat.zero_le _, rfl, ⟨fun i hi hk => by omega, fun i hi hk => by omega⟩, HBR.out⟩
    case round =>
     obtain ⟨k, hkn, rfl, hpk, hbw⟩ := hrel
     have HPK := Lib.hid hpk
     have HBK := Lib.hid hbw
     clear hpk
     by_cases hlt : k < nk
     ·have hjl : k < kept.length := by rw [← HNK.out]; exact hlt
      have hmem : kept[k] ∈ kept := List.getElem_mem hjl
      have HEV := Lib.hid (fun W (hW : Below w0.heap.size w0 W) => show RdE W ka kept from (HR.out.below hW).kept)
      obtain ⟨b, off, hea⟩ := (HEV.out wr hbw).some k hjl
      have hebv := HSB.out.kb _ hmem
      obtain ⟨a0, a1, a2, a3, a4, a5, a6, a7, hat⟩ := at8 hebv.len
      obtain ⟨ts, id, typ, at_, hev⟩ : ∃ ts id typ at_, kept[k] = ⟨ts, id, typ, at_⟩ := ⟨_, _, _, _, rfl⟩
      have hce := HCE.out kept[k] hebv.len
      have hidb := hebv.id
      rw [hev] at hat hidb
      dsimp only at hat hidb
      subst hat
      obtain ⟨id, rfl⟩ : ∃ i : Nat, id = i := ⟨id.toNat, by omega⟩
      have hce2 : ∀ W, Below w0.heap.size w0 W → Calls Tryz.prog 69 #[.agg #[.slice ta nt tc], .agg #[.int .i64 ts, .int .u64 (id : Int), .int .i64 typ, .int .i64 a0, .int .i64 a1, .int .i64 a2, .int .i64 a3, .int .i64 a4, .int .i64 a5, .int .i64 a6, .int .i64 a7]] W (fun e' w' => ∃ r : Int, e' = .returned (.int .i64 r) ∧ (r = 0 ↔ EvOK (tys types) kept[k]) ∧ Below W.heap.size W w') := fun W hW => by
       have h := hce W hW
       rw [show (evc kept[k]).toArray = #[.int .i64 ts, .int .u64 (id : Int), .int .i64 typ, .int .i64 a0, .int .i64 a1, .int .i64 a2, .int .i64 a3, .int .i64 a4, .int .i64 a5, .int .i64 a6, .int .i64 a7] by rw [hev]; rfl] at h
       exact h
      have hnm1 : evNm kept[k] = ⟨ts, id⟩ := by rw [hev]; unfold evNm; simp
      have hcells := (HEV.out wr hbw).cells k hjl ts (id : Int) typ a0 a1 a2 a3 a4 a5 a6 a7 hev b off hea
      obtain ⟨wb, hwb⟩ : ∃ wb, wb = wr.alloc (.cells #[.int .i64 ts, .int .u64 (id : Int), .int .i64 typ, .int .i64 a0, .int .i64 a1, .int .i64 a2, .int .i64 a3, .int .i64 a4, .int .i64 a5, .int .i64 a6, .int .i64 a7] 108) := ⟨_, rfl⟩
      obtain ⟨gb, hgb⟩ : ∃ gb, gb = wr.heap.size := ⟨_, rfl⟩
      have hbb : Below wr.heap.size wr wb := by rw [hwb]; exact bal (Below.refl _ _) (Nat.le_refl _) _
      have hFb : Blk wb gb 108 [.int .i64 ts, .int .u64 (id : Int), .int .i64 typ, .int .i64 a0, .int .i64 a1, .int .i64 a2, .int .i64 a3, .int .i64 a4, .int .i64 a5, .int .i64 a6, .int .i64 a7] := by rw [hwb, hgb]; exact Blk.new wr _ 108
      have HFB := Lib.hid hFb
      have HBB := Lib.hid (hbw.trans (hbb.mono hbw.size))
      have HNM1 := Lib.hid hnm1
      have HCE2 := Lib.hid hce2
      have HME := Lib.hid (meas_lt hlt)
      have hlt' : (k : Int) < nk := by omega
      have hj0 : (0 : Int) ≤ k := by omega
      obtain ⟨e0, e1, e2, e3, e4, e5, e6, e7, e8, e9, e10⟩ := hcells
      have HEA := Lib.hid hea
      subst hea
      clear hmem hebv hce hce2 hev hidb hnm1 hbb hFb hbw
      go_upto_region 9 with fail
      rw [← hwb, ← hgb]
      clear hwb hgb e0 e1 e2 e3 e4 e5 e6 e7 e8 e9 e10
      have HBQ := Lib.hid (show Below wb.heap.size wb wb.drew from (Below.refl _ _).drew)
      have s0 := (HE.out.below (HBB.out.trans (HBQ.out.mono HBB.out.size))).ci 0 rfl
      have g0 := (HFB.out.below HBQ.out).ci 0 rfl ; have g1 := (HFB.out.below HBQ.out).ci 1 rfl ; have g2 := (HFB.out.below HBQ.out).ci 2 rfl ; have g3 := (HFB.out.below HBQ.out).ci 3 rfl ; have g4 := (HFB.out.below HBQ.out).ci 4 rfl ; have g5 := (HFB.out.below HBQ.out).ci 5 rfl ; have g6 := (HFB.out.below HBQ.out).ci 6 rfl ; have g7 := (HFB.out.below HBQ.out).ci 7 rfl ; have g8 := (HFB.out.below HBQ.out).ci 8 rfl ; have g9 := (HFB.out.below HBQ.out).ci 9 rfl ; have g10 := (HFB.out.below HBQ.out).ci 10 rfl
      by_cases hok : EvOK (tys types) kept[k]
      ·have HOKK := Lib.hid hok
       clear hok
       by_cases hk0 : k = 0
       ·have HPS := Lib.hid (show LOk (tys types) kept (k + 1) by
         have h := HOKK.out
         subst hk0
         exact LOk.one hjl h)
        have h00 : ¬ (0 : Int) < k := by omega
        have h02 : ¬ 0 < k := by omega
        have h03 : decide (0 < k) = false := by simpa using h02
        clear hk0
        go_wp2_with fail
        refine wp_region_held_drew (S := fun W => W.cell? ⟨w.heap.size, 0, none⟩ = some (.slice ta nt tc) ∧ W.cell? ⟨gb, 0, none⟩ = some (.int .i64 ts) ∧ W.cell? ⟨gb, 1, none⟩ = some (.int .u64 (id : Int)) ∧ W.cell? ⟨gb, 2, none⟩ = some (.int .i64 typ) ∧ W.cell? ⟨gb, 3, none⟩ = some (.int .i64 a0) ∧ W.cell? ⟨gb, 4, none⟩ = some (.int .i64 a1) ∧ W.cell? ⟨gb, 5, none⟩ = some (.int .i64 a2) ∧ W.cell? ⟨gb, 6, none⟩ = some (.int .i64 a3) ∧ W.cell? ⟨gb, 7, none⟩ = some (.int .i64 a4) ∧ W.cell? ⟨gb, 8, none⟩ = some (.int .i64 a5) ∧ W.cell? ⟨gb, 9, none⟩ = some (.int .i64 a6) ∧ W.cell? ⟨gb, 10, none⟩ = some (.int .i64 a7)) (by kernel_rfl) ⟨s0, g0, g1, g2, g3, g4, g5, g6, g7, g8, g9, g10⟩ (fun hHeld => ?_)
        refine wpAnyH_take (i := 0) (oi := ⟨some 46, .fieldAddr 36 (.tmp 1) 0, 0, "save.go:80", #[], none⟩) (v := .pointer (some ⟨w.heap.size, 0, none⟩)) rfl (by kernel_rfl) (by kernel_rfl) (by kernel_rfl) (fun _ _ _ h => h) (.inl ⟨by rfl, ?_⟩) (by assumption) ?_
        ·intro w hSw; (try dsimp only at hSw); go_simp; all_goals (with_reducible rfl)
        try simp only [Act.put, sv_a, sv_0, sv_1]
        refine wpAnyH_take (i := 1) (oi := ⟨some 47, .load 24 (.tmp 46), 24, "save.go:80", #[⟨0, .data⟩], none⟩) (v := .agg #[.slice ta nt tc]) rfl (by kernel_rfl) (by kernel_rfl) (by kernel_rfl) (fun _ _ _ h => h) (.inl ⟨by rfl, ?_⟩) (by assumption) ?_
        ·intro w hSw; (try dsimp only at hSw); go_simp; all_goals (with_reducible rfl)
        try simp only [Act.put, sv_a, sv_0, sv_1]
        refine wpAnyH_take (i := 2) (oi := ⟨some 48, .load 108 (.tmp 6), 108, "save.go:80", #[], none⟩) (v := .agg #[.int .i64 ts, .int .u64 (id : Int), .int .i64 typ, .int .i64 a0, .int .i64 a1, .int .i64 a2, .int .i64 a3, .int .i64 a4, .int .i64 a5, .int .i64 a6, .int .i64 a7]) rfl (by kernel_rfl) (by kernel_rfl) (by kernel_rfl) (fun _ _ _ h => h) (.inl ⟨by rfl, ?_⟩) (by assumption) ?_
        ·intro w hSw; (try dsimp only at hSw); go_simp; all_goals (with_reducible rfl)
        try simp only [Act.put, sv_a, sv_0, sv_1]
        refine wpAnyH_ready (rs := [3]) (by kernel_rfl) (by simp) ?_
        refine AllReadyH.cons (o := ⟨some 49, .call { callee := .value (.func 69), args := #[.tmp 47, .tmp 48], argTypes := #[24, 108] }, 40, "save.go:80", #[⟨1, .data⟩, ⟨2, .data⟩], none⟩) rfl (fun K hK => ?_) AllReadyH.nil
        go_simp
        go_at_call 69
        refine (HCE2.out _ (HBB.out.trans (HBQ.out.mono HBB.out.size))).mono ?_
        rintro e wC ⟨r, rfl, hr, hbC⟩
        obtain rfl : r = 0 := hr.2 HOKK.out
        have HBQ := Lib.hid (HBQ.out.trans (hbC.mono HBQ.out.size))
        clear s0 g0 g1 g2 g3 g4 g5 g6 g7 g8 g9 g10
        have s0 := (HE.out.below (HBB.out.trans (HBQ.out.mono HBB.out.size))).ci 0 rfl
        have g0 := (HFB.out.below HBQ.out).ci 0 rfl
        have g1 := (HFB.out.below HBQ.out).ci 1 rfl
        have g2 := (HFB.out.below HBQ.out).ci 2 rfl
        have g3 := (HFB.out.below HBQ.out).ci 3 rfl
        have g4 := (HFB.out.below HBQ.out).ci 4 rfl
        have g5 := (HFB.out.below HBQ.out).ci 5 rfl
        have g6 := (HFB.out.below HBQ.out).ci 6 rfl
        have g7 := (HFB.out.below HBQ.out).ci 7 rfl
        have g8 := (HFB.out.below HBQ.out).ci 8 rfl
        have g9 := (HFB.out.below HBQ.out).ci 9 rfl
        have g10 := (HFB.out.below HBQ.out).ci 10 rfl
        clear hbC hr
        go_wp2_with fail
        refine hK.out _ _ ⟨s0, g0, g1, g2, g3, g4, g5, g6, g7, g8, g9, g10⟩ (fun hHeld => ?_)
        clear hK K
        try simp only [Act.put, sv_a, sv_0, sv_1]
        refine wpAnyH_take (i := 4) (oi := ⟨some 50, .binOp .neq 40 (.tmp 49) (.const (.int .i64 0)) 40, 4, "save.go:80", #[⟨3, .data⟩], none⟩) (v := .bool false) rfl (by kernel_rfl) (by kernel_rfl) (by kernel_rfl) (fun _ _ _ h => h) (.inl ⟨by rfl, ?_⟩) (by assumption) ?_
        ·intro w hSw; (try dsimp only at hSw); go_simp; all_goals (with_reducible rfl)
        try simp only [Act.put, sv_a, sv_0, sv_1]
        refine wpAnyH_take (i := 5) (oi := ⟨some 51, .move (.tmp 50), 4, "save.go:80", #[⟨4, .data⟩, ⟨3, .chain⟩], none⟩) (v := .bool false) rfl (by kernel_rfl) (by kernel_rfl) (by kernel_rfl) (fun _ _ _ h => h) (.inl ⟨by rfl, ?_⟩) (by assumption) ?_
        ·intro w hSw; (try dsimp only at hSw); go_simp; all_goals (with_reducible rfl)
        try simp only [Act.put, sv_a, sv_0, sv_1]
        refine wpAnyH_take (i := 6) (oi := ⟨some 52, .move (.tmp 5), 3, "save.go:80", #[⟨5, .guard⟩], some (5, false)⟩) (v := .int .i64 ((k : Int))) rfl (by kernel_rfl) (by kernel_rfl) (by kernel_rfl) (fun _ _ _ h => h) (.inl ⟨by rfl, ?_⟩) (by assumption) ?_
        ·intro w hSw; (try dsimp only at hSw); go_simp; all_goals (with_reducible rfl)
        try simp only [Act.put, sv_a, sv_0, sv_1]
        refine wpAnyH_take (i := 7) (oi := ⟨some 53, .binOp .gtr 3 (.tmp 52) (.const (.int .i64 0)) 3, 4, "save.go:80", #[⟨6, .data⟩, ⟨5, .guard⟩], some (5, false)⟩) (v := .bool false) rfl (by kernel_rfl) (by kernel_rfl) (by kernel_rfl) (fun _ _ _ h => h) (.inl ⟨by rfl, ?_⟩) (by assumption) ?_
        ·intro w hSw; (try dsimp only at hSw); go_simp; all_goals (with_reducible rfl)
        try simp only [Act.put, sv_a, sv_0, sv_1]
        refine wpAnyH_take (i := 8) (oi := ⟨some 54, .move (.tmp 53), 4, "save.go:80", #[⟨7, .data⟩, ⟨5, .chain⟩, ⟨5, .guard⟩], some (5, false)⟩) (v := .bool false) rfl (by kernel_rfl) (by kernel_rfl) (by kernel_rfl) (fun _ _ _ h => h) (.inl ⟨by rfl, ?_⟩) (by assumption) ?_
        ·intro w hSw; (try dsimp only at hSw); go_simp; all_goals (with_reducible rfl)
        try simp only [Act.put, sv_a, sv_0, sv_1]
        refine wpAnyH_take (i := 9) (oi := ⟨some 55, .move (.tmp 4), 32, "save.go:80", #[⟨8, .guard⟩], some (8, true)⟩) (v := undef) rfl (by kernel_rfl) (by kernel_rfl) (by kernel_rfl) (fun _ _ _ h => h) (.inr ⟨by rfl, rfl⟩) (by assumption) ?_
        try simp only [Act.put, sv_a, sv_0, sv_1]
        refine wpAnyH_take (i := 10) (oi := ⟨some 56, .move (.tmp 5), 3, "save.go:80", #[⟨8, .guard⟩], some (8, true)⟩) (v := undef) rfl (by kernel_rfl) (by kernel_rfl) (by kernel_rfl) (fun _ _ _ h => h) (.inr ⟨by rfl, rfl⟩) (by assumption) ?_
        try simp only [Act.put, sv_a, sv_0, sv_1]
        refine wpAnyH_take (i := 11) (oi := ⟨some 57, .binOp .sub 3 (.tmp 56) (.const (.int .i64 1)) 3, 3, "save.go:80", #[⟨10, .data⟩, ⟨8, .guard⟩], some (8, true)⟩) (v := undef) rfl (by kernel_rfl) (by kernel_rfl) (by kernel_rfl) (fun _ _ _ h => h) (.inr ⟨by rfl, rfl⟩) (by assumption) ?_
        try simp only [Act.put, sv_a, sv_0, sv_1]
        refine wpAnyH_take (i := 12) (oi := ⟨some 58, .indexAddr 32 (.tmp 55) (.tmp 57), 0, "save.go:80", #[⟨9, .data⟩, ⟨11, .data⟩, ⟨8, .guard⟩], some (8, true)⟩) (v := undef) rfl (by kernel_rfl) (by kernel_rfl) (by kernel_rfl) (fun _ _ _ h => h) (.inr ⟨by rfl, rfl⟩) (by assumption) ?_
        try simp only [Act.put, sv_a, sv_0, sv_1]
        refine wpAnyH_take (i := 13) (oi := ⟨some 59, .load 108 (.tmp 58), 108, "save.go:80", #[⟨12, .data⟩, ⟨8, .guard⟩], some (8, true)⟩) (v := undef) rfl (by kernel_rfl) (by kernel_rfl) (by kernel_rfl) (fun _ _ _ h => h) (.inr ⟨by rfl, rfl⟩) (by assumption) ?_
        try simp only [Act.put, sv_a, sv_0, sv_1]
        refine wpAnyH_take (i := 14) (oi := ⟨some 60, .load 108 (.tmp 6), 108, "save.go:80", #[⟨8, .guard⟩], some (8, true)⟩) (v := undef) rfl (by kernel_rfl) (by kernel_rfl) (by kernel_rfl) (fun _ _ _ h => h) (.inr ⟨by rfl, rfl⟩) (by assumption) ?_
        try simp only [Act.put, sv_a, sv_0, sv_1]
        refine wpAnyH_take (i := 15) (oi := ⟨some 61, .call { callee := .value (.func 70), args := #[.tmp 59, .tmp 60], argTypes := #[108, 108] }, 4, "save.go:80", #[⟨13, .data⟩, ⟨14, .data⟩, ⟨8, .chain⟩, ⟨8, .guard⟩], some (8, true)⟩) (v := undef) rfl (by kernel_rfl) (by kernel_rfl) (by kernel_rfl) (fun _ _ _ h => h) (.inr ⟨by rfl, rfl⟩) (by assumption) ?_
        try simp only [Act.put, sv_a, sv_0, sv_1]
        refine wpAnyH_take (i := 16) (oi := ⟨some 62, .unOp .not 4 (.tmp 61), 4, "save.go:80", #[⟨15, .data⟩, ⟨8, .guard⟩], some (8, true)⟩) (v := undef) rfl (by kernel_rfl) (by kernel_rfl) (by kernel_rfl) (fun _ _ _ h => h) (.inr ⟨by rfl, rfl⟩) (by assumption) ?_
        try simp only [Act.put, sv_a, sv_0, sv_1]
        refine wpAnyH_take (i := 17) (oi := ⟨some 63, .pick (.tmp 54) (.tmp 62) (.const (.bool false)), 4, "save.go:80", #[⟨8, .data⟩, ⟨16, .data⟩, ⟨5, .guard⟩], some (5, false)⟩) (v := .bool false) rfl (by kernel_rfl) (by kernel_rfl) (by kernel_rfl) (fun _ _ _ h => h) (.inl ⟨by rfl, ?_⟩) (by assumption) ?_
        ·intro w hSw; (try dsimp only at hSw); go_simp; all_goals (with_reducible rfl)
        try simp only [Act.put, sv_a, sv_0, sv_1]
        refine wpAnyH_take (i := 18) (oi := ⟨some 64, .pick (.tmp 51) (.const (.bool true)) (.tmp 63), 4, "save.go:80", #[⟨5, .data⟩, ⟨17, .data⟩], none⟩) (v := .bool false) rfl (by kernel_rfl) (by kernel_rfl) (by kernel_rfl) (fun _ _ _ h => h) (.inl ⟨by rfl, ?_⟩) (by assumption) ?_
        ·intro w hSw; (try dsimp only at hSw); go_simp; all_goals (with_reducible rfl)
        try simp only [Act.put, sv_a, sv_0, sv_1]
        refine wpAnyH_done (by kernel_rfl) ?_ _
        have HB3 := Lib.hid (HBB.out.trans (HBQ.out.mono HBB.out.size))
        clear s0 g0 g1 g2 g3 g4 g5 g6 g7 g8 g9 g10
        go_wp2_with fail
        go_roundw
        case rel => exact ⟨k + 1, hlt, by go_num, HPS.out, HB3.out⟩
        case measure => exact HME.out
       ·obtain ⟨p, rfl⟩ : ∃ p, k = p + 1 := ⟨k - 1, by omega⟩
        clear hk0
        have hjl2 : p < kept.length := by omega
        have heb2 := HSB.out.kb _ (List.getElem_mem (l := kept) hjl2)
        obtain ⟨v0, v1, v2, v3, v4, v5, v6, v7, hat2⟩ := at8 heb2.len
        have hidb2 := heb2.id
        obtain ⟨ts2, i2, typ2, at2, hev2⟩ : ∃ ts id typ at_, kept[p] = ⟨ts, id, typ, at_⟩ := ⟨_, _, _, _, rfl⟩
        rw [hev2] at hat2 hidb2
        dsimp only at hat2 hidb2
        subst hat2
        obtain ⟨i2, rfl⟩ : ∃ i : Nat, i2 = i := ⟨i2.toNat, by omega⟩
        have hnm2 : evNm kept[p] = ⟨ts2, i2⟩ := by rw [hev2]; unfold evNm; simp
        have HC2 := Lib.hid (fun W (hW : Below w0.heap.size w0 W) => (HEV.out W hW).cells p hjl2 ts2 (i2 : Int) typ2 v0 v1 v2 v3 v4 v5 v6 v7 hev2 b off rfl)
        have HNM2 := Lib.hid hnm2
        have HBF := Lib.hid (evbefore_any ts2 typ2 v0 v1 v2 v3 v4 v5 v6 v7 ts typ a0 a1 a2 a3 a4 a5 a6 a7 i2 id)
        obtain ⟨e0, e1, e2, e3, e4, e5, e6, e7, e8, e9, e10⟩ := HC2.out wb.drew (HBB.out.trans (HBQ.out.mono HBB.out.size))
        have hp1 : (0 : Int) < (p : Int) + 1 := by omega
        have hp1' : decide ((0 : Int) < (p : Int) + 1) = true := by simp; try omega
        have hp2 : (p : Int) < nk := by omega
        have hp3 : (0 : Int) ≤ p := by omega
        have hp4 : IntKind.i64.wrap ((p : Int) + 1 - 1) = p := by rw [IntKind.wrap_i64]; omega
        have hp5 : IntKind.i64.wrap (p : Int) = p := by rw [IntKind.wrap_i64]; omega
        have hp6 : wrap64 (p : Int) = p := by unfold wrap64; omega
        have hp7 : (p : Int) + 1 < nk := by omega
        have hp8 : (0 : Int) ≤ (p : Int) + 1 := by omega
        clear heb2 hidb2 hev2 hnm2
        cases hlt2 : nmLt ⟨ts2, i2⟩ ⟨ts, id⟩ with
        | true =>
         have HLT := Lib.hid hlt2
         have HPS := Lib.hid (show LOk (tys types) kept (p + 1 + 1) from LOk.step hjl HPK.out HOKK.out (by rw [HNM2.out, HNM1.out]; exact hlt2))
         clear hlt2
         go_wp2_with fail
         refine wp_region_held_drew (S := fun W => W.cell? ⟨w.heap.size, 0, none⟩ = some (.slice ta nt tc) ∧ W.cell? ⟨gb, 0, none⟩ = some (.int .i64 ts) ∧ W.cell? ⟨gb, 1, none⟩ = some (.int .u64 (id : Int)) ∧ W.cell? ⟨gb, 2, none⟩ = some (.int .i64 typ) ∧ W.cell? ⟨gb, 3, none⟩ = some (.int .i64 a0) ∧ W.cell? ⟨gb, 4, none⟩ = some (.int .i64 a1) ∧ W.cell? ⟨gb, 5, none⟩ = some (.int .i64 a2) ∧ W.cell? ⟨gb, 6, none⟩ = some (.int .i64 a3) ∧ W.cell? ⟨gb, 7, none⟩ = some (.int .i64 a4) ∧ W.cell? ⟨gb, 8, none⟩ = some (.int .i64 a5) ∧ W.cell? ⟨gb, 9, none⟩ = some (.int .i64 a6) ∧ W.cell? ⟨gb, 10, none⟩ = some (.int .i64 a7) ∧ W.cell? ⟨b, off + p * 11, none⟩ = some (.int .i64 ts2) ∧ W.cell? ⟨b, off + p * 11 + 1, none⟩ = some (.int .u64 (i2 : Int)) ∧ W.cell? ⟨b, off + p * 11 + 2, none⟩ = some (.int .i64 typ2) ∧ W.cell? ⟨b, off + p * 11 + 3, none⟩ = some (.int .i64 v0) ∧ W.cell? ⟨b, off + p * 11 + 4, none⟩ = some (.int .i64 v1) ∧ W.cell? ⟨b, off + p * 11 + 5, none⟩ = some (.int .i64 v2) ∧ W.cell? ⟨b, off + p * 11 + 6, none⟩ = some (.int .i64 v3) ∧ W.cell? ⟨b, off + p * 11 + 7, none⟩ = some (.int .i64 v4) ∧ W.cell? ⟨b, off + p * 11 + 8, none⟩ = some (.int .i64 v5) ∧ W.cell? ⟨b, off + p * 11 + 9, none⟩ = some (.int .i64 v6) ∧ W.cell? ⟨b, off + p * 11 + 10, none⟩ = some (.int .i64 v7)) (by kernel_rfl) ⟨s0, g0, g1, g2, g3, g4, g5, g6, g7, g8, g9, g10, e0, e1, e2, e3, e4, e5, e6, e7, e8, e9, e10⟩ (fun hHeld => ?_)
         refine wpAnyH_take (i := 0) (oi := ⟨some 46, .fieldAddr 36 (.tmp 1) 0, 0, "save.go:80", #[], none⟩) (v := .pointer (some ⟨w.heap.size, 0, none⟩)) rfl (by kernel_rfl) (by kernel_rfl) (by kernel_rfl) (fun _ _ _ h => h) (.inl ⟨by rfl, ?_⟩) (by assumption) ?_
         ·intro w hSw; (try dsimp only at hSw); go_simp; all_goals (with_reducible rfl)
         try simp only [Act.put, sv_a, sv_0, sv_1]
         refine wpAnyH_take (i := 1) (oi := ⟨some 47, .load 24 (.tmp 46), 24, "save.go:80", #[⟨0, .data⟩], none⟩) (v := .agg #[.slice ta nt tc]) rfl (by kernel_rfl) (by kernel_rfl) (by kernel_rfl) (fun _ _ _ h => h) (.inl ⟨by rfl, ?_⟩) (by assumption) ?_
         ·intro w hSw; (try dsimp only at hSw); go_simp; all_goals (with_reducible rfl)
         try simp only [Act.put, sv_a, sv_0, sv_1]
         refine wpAnyH_take (i := 2) (oi := ⟨some 48, .load 108 (.tmp 6), 108, "save.go:80", #[], none⟩) (v := .agg #[.int .i64 ts, .int .u64 (id : Int), .int .i64 typ, .int .i64 a0, .int .i64 a1, .int .i64 a2, .int .i64 a3, .int .i64 a4, .int .i64 a5, .int .i64 a6, .int .i64 a7]) rfl (by kernel_rfl) (by kernel_rfl) (by kernel_rfl) (fun _ _ _ h => h) (.inl ⟨by rfl, ?_⟩) (by assumption) ?_
         ·intro w hSw; (try dsimp only at hSw); go_simp; all_goals (with_reducible rfl)
         try simp only [Act.put, sv_a, sv_0, sv_1]
         refine wpAnyH_ready (rs := [3]) (by kernel_rfl) (by simp) ?_
         refine AllReadyH.cons (o := ⟨some 49, .call { callee := .value (.func 69), args := #[.tmp 47, .tmp 48], argTypes := #[24, 108] }, 40, "save.go:80", #[⟨1, .data⟩, ⟨2, .data⟩], none⟩) rfl (fun K hK => ?_) AllReadyH.nil
         go_simp
         go_at_call 69
         refine (HCE2.out _ (HBB.out.trans (HBQ.out.mono HBB.out.size))).mono ?_
         rintro e wC ⟨r, rfl, hr, hbC⟩
         obtain rfl : r = 0 := hr.2 HOKK.out
         have HBQ := Lib.hid (HBQ.out.trans (hbC.mono HBQ.out.size))
         clear s0 g0 g1 g2 g3 g4 g5 g6 g7 g8 g9 g10 e0 e1 e2 e3 e4 e5 e6 e7 e8 e9 e10
         have s0 := (HE.out.below (HBB.out.trans (HBQ.out.mono HBB.out.size))).ci 0 rfl
         have g0 := (HFB.out.below HBQ.out).ci 0 rfl
         have g1 := (HFB.out.below HBQ.out).ci 1 rfl
         have g2 := (HFB.out.below HBQ.out).ci 2 rfl
         have g3 := (HFB.out.below HBQ.out).ci 3 rfl
         have g4 := (HFB.out.below HBQ.out).ci 4 rfl
         have g5 := (HFB.out.below HBQ.out).ci 5 rfl
         have g6 := (HFB.out.below HBQ.out).ci 6 rfl
         have g7 := (HFB.out.below HBQ.out).ci 7 rfl
         have g8 := (HFB.out.below HBQ.out).ci 8 rfl
         have g9 := (HFB.out.below HBQ.out).ci 9 rfl
         have g10 := (HFB.out.below HBQ.out).ci 10 rfl
         obtain ⟨e0, e1, e2, e3, e4, e5, e6, e7, e8, e9, e10⟩ := HC2.out _ (HBB.out.trans (HBQ.out.mono HBB.out.size))
         clear hbC hr
         go_wp2_with fail
         refine hK.out _ _ ⟨s0, g0, g1, g2, g3, g4, g5, g6, g7, g8, g9, g10, e0, e1, e2, e3, e4, e5, e6, e7, e8, e9, e10⟩ (fun hHeld => ?_)
         clear hK K
         try simp only [Act.put, sv_a, sv_0, sv_1]
         refine wpAnyH_take (i := 4) (oi := ⟨some 50, .binOp .neq 40 (.tmp 49) (.const (.int .i64 0)) 40, 4, "save.go:80", #[⟨3, .data⟩], none⟩) (v := .bool false) rfl (by kernel_rfl) (by kernel_rfl) (by kernel_rfl) (fun _ _ _ h => h) (.inl ⟨by rfl, ?_⟩) (by assumption) ?_
         ·intro w hSw; (try dsimp only at hSw); go_simp; all_goals (with_reducible rfl)
         try simp only [Act.put, sv_a, sv_0, sv_1]
         refine wpAnyH_take (i := 5) (oi := ⟨some 51, .move (.tmp 50), 4, "save.go:80", #[⟨4, .data⟩, ⟨3, .chain⟩], none⟩) (v := .bool false) rfl (by kernel_rfl) (by kernel_rfl) (by kernel_rfl) (fun _ _ _ h => h) (.inl ⟨by rfl, ?_⟩) (by assumption) ?_
         ·intro w hSw; (try dsimp only at hSw); go_simp; all_goals (with_reducible rfl)
         try simp only [Act.put, sv_a, sv_0, sv_1]
         refine wpAnyH_take (i := 6) (oi := ⟨some 52, .move (.tmp 5), 3, "save.go:80", #[⟨5, .guard⟩], some (5, false)⟩) (v := .int .i64 ((p : Int) + 1)) rfl (by kernel_rfl) (by kernel_rfl) (by kernel_rfl) (fun _ _ _ h => h) (.inl ⟨by rfl, ?_⟩) (by assumption) ?_
         ·intro w hSw; (try dsimp only at hSw); go_simp; all_goals (with_reducible rfl)
         try simp only [Act.put, sv_a, sv_0, sv_1]
         refine wpAnyH_take (i := 7) (oi := ⟨some 53, .binOp .gtr 3 (.tmp 52) (.const (.int .i64 0)) 3, 4, "save.go:80", #[⟨6, .data⟩, ⟨5, .guard⟩], some (5, false)⟩) (v := .bool true) rfl (by kernel_rfl) (by kernel_rfl) (by kernel_rfl) (fun _ _ _ h => h) (.inl ⟨by rfl, ?_⟩) (by assumption) ?_
         ·intro w hSw; (try dsimp only at hSw); go_simp; all_goals (with_reducible rfl)
         try simp only [Act.put, sv_a, sv_0, sv_1]
         refine wpAnyH_take (i := 8) (oi := ⟨some 54, .move (.tmp 53), 4, "save.go:80", #[⟨7, .data⟩, ⟨5, .chain⟩, ⟨5, .guard⟩], some (5, false)⟩) (v := .bool true) rfl (by kernel_rfl) (by kernel_rfl) (by kernel_rfl) (fun _ _ _ h => h) (.inl ⟨by rfl, ?_⟩) (by assumption) ?_
         ·intro w hSw; (try dsimp only at hSw); go_simp; all_goals (with_reducible rfl)
         try simp only [Act.put, sv_a, sv_0, sv_1]
         refine wpAnyH_take (i := 9) (oi := ⟨some 55, .move (.tmp 4), 32, "save.go:80", #[⟨8, .guard⟩], some (8, true)⟩) (v := .slice (some ⟨b, off, none⟩) nk kc) rfl (by kernel_rfl) (by kernel_rfl) (by kernel_rfl) (fun _ _ _ h => h) (.inl ⟨by rfl, ?_⟩) (by assumption) ?_
         ·intro w hSw; (try dsimp only at hSw); go_simp; all_goals (with_reducible rfl)
         try simp only [Act.put, sv_a, sv_0, sv_1]
         refine wpAnyH_take (i := 10) (oi := ⟨some 56, .move (.tmp 5), 3, "save.go:80", #[⟨8, .guard⟩], some (8, true)⟩) (v := .int .i64 ((p : Int) + 1)) rfl (by kernel_rfl) (by kernel_rfl) (by kernel_rfl) (fun _ _ _ h => h) (.inl ⟨by rfl, ?_⟩) (by assumption) ?_
         ·intro w hSw; (try dsimp only at hSw); go_simp; all_goals (with_reducible rfl)
         try simp only [Act.put, sv_a, sv_0, sv_1]
         refine wpAnyH_take (i := 11) (oi := ⟨some 57, .binOp .sub 3 (.tmp 56) (.const (.int .i64 1)) 3, 3, "save.go:80", #[⟨10, .data⟩, ⟨8, .guard⟩], some (8, true)⟩) (v := .int .i64 (p : Int)) rfl (by kernel_rfl) (by kernel_rfl) (by kernel_rfl) (fun _ _ _ h => h) (.inl ⟨by rfl, ?_⟩) (by assumption) ?_
         ·intro w hSw; (try dsimp only at hSw); go_simp; all_goals (with_reducible rfl)
         try simp only [Act.put, sv_a, sv_0, sv_1]
         refine wpAnyH_take (i := 12) (oi := ⟨some 58, .indexAddr 32 (.tmp 55) (.tmp 57), 0, "save.go:80", #[⟨9, .data⟩, ⟨11, .data⟩, ⟨8, .guard⟩], some (8, true)⟩) (v := .pointer (some ⟨b, off + p * 11, none⟩)) rfl (by kernel_rfl) (by kernel_rfl) (by kernel_rfl) (fun _ _ _ h => h) (.inl ⟨by rfl, ?_⟩) (by assumption) ?_
         ·intro w hSw; (try dsimp only at hSw); go_simp; all_goals (with_reducible rfl)
         try simp only [Act.put, sv_a, sv_0, sv_1]
         refine wpAnyH_take (i := 13) (oi := ⟨some 59, .load 108 (.tmp 58), 108, "save.go:80", #[⟨12, .data⟩, ⟨8, .guard⟩], some (8, true)⟩) (v := .agg #[.int .i64 ts2, .int .u64 (i2 : Int), .int .i64 typ2, .int .i64 v0, .int .i64 v1, .int .i64 v2, .int .i64 v3, .int .i64 v4, .int .i64 v5, .int .i64 v6, .int .i64 v7]) rfl (by kernel_rfl) (by kernel_rfl) (by kernel_rfl) (fun _ _ _ h => h) (.inl ⟨by rfl, ?_⟩) (by assumption) ?_
         ·intro w hSw; (try dsimp only at hSw); go_simp; all_goals (with_reducible rfl)
         try simp only [Act.put, sv_a, sv_0, sv_1]
         refine wpAnyH_take (i := 14) (oi := ⟨some 60, .load 108 (.tmp 6), 108, "save.go:80", #[⟨8, .guard⟩], some (8, true)⟩) (v := .agg #[.int .i64 ts, .int .u64 (id : Int), .int .i64 typ, .int .i64 a0, .int .i64 a1, .int .i64 a2, .int .i64 a3, .int .i64 a4, .int .i64 a5, .int .i64 a6, .int .i64 a7]) rfl (by kernel_rfl) (by kernel_rfl) (by kernel_rfl) (fun _ _ _ h => h) (.inl ⟨by rfl, ?_⟩) (by assumption) ?_
         ·intro w hSw; (try dsimp only at hSw); go_simp; all_goals (with_reducible rfl)
         try simp only [Act.put, sv_a, sv_0, sv_1]
         refine wpAnyH_ready (rs := [15]) (by kernel_rfl) (by simp) ?_
         refine AllReadyH.cons (o := ⟨some 61, .call { callee := .value (.func 70), args := #[.tmp 59, .tmp 60], argTypes := #[108, 108] }, 4, "save.go:80", #[⟨13, .data⟩, ⟨14, .data⟩, ⟨8, .chain⟩, ⟨8, .guard⟩], some (8, true)⟩) rfl (fun K hK => ?_) AllReadyH.nil
         go_simp
         go_at_call 70
         refine (HBF.out _).mono ?_
         rintro e wD ⟨rfl, hbD⟩
         rw [HLT.out]
         have HBQ := Lib.hid (HBQ.out.trans (hbD.mono HBQ.out.size))
         clear s0 g0 g1 g2 g3 g4 g5 g6 g7 g8 g9 g10 e0 e1 e2 e3 e4 e5 e6 e7 e8 e9 e10
         have s0 := (HE.out.below (HBB.out.trans (HBQ.out.mono HBB.out.size))).ci 0 rfl
         have g0 := (HFB.out.below HBQ.out).ci 0 rfl
         have g1 := (HFB.out.below HBQ.out).ci 1 rfl
         have g2 := (HFB.out.below HBQ.out).ci 2 rfl
         have g3 := (HFB.out.below HBQ.out).ci 3 rfl
         have g4 := (HFB.out.below HBQ.out).ci 4 rfl
         have g5 := (HFB.out.below HBQ.out).ci 5 rfl
         have g6 := (HFB.out.below HBQ.out).ci 6 rfl
         have g7 := (HFB.out.below HBQ.out).ci 7 rfl
         have g8 := (HFB.out.below HBQ.out).ci 8 rfl
         have g9 := (HFB.out.below HBQ.out).ci 9 rfl
         have g10 := (HFB.out.below HBQ.out).ci 10 rfl
         obtain ⟨e0, e1, e2, e3, e4, e5, e6, e7, e8, e9, e10⟩ := HC2.out _ (HBB.out.trans (HBQ.out.mono HBB.out.size))
         clear hbD
         go_wp2_with fail
         refine hK.out _ _ ⟨s0, g0, g1, g2, g3, g4, g5, g6, g7, g8, g9, g10, e0, e1, e2, e3, e4, e5, e6, e7, e8, e9, e10⟩ (fun hHeld => ?_)
         clear hK K
         try simp only [Act.put, sv_a, sv_0, sv_1]
         refine wpAnyH_take (i := 16) (oi := ⟨some 62, .unOp .not 4 (.tmp 61), 4, "save.go:80", #[⟨15, .data⟩, ⟨8, .guard⟩], some (8, true)⟩) (v := .bool false) rfl (by kernel_rfl) (by kernel_rfl) (by kernel_rfl) (fun _ _ _ h => h) (.inl ⟨by rfl, ?_⟩) (by assumption) ?_
         ·intro w hSw; (try dsimp only at hSw); go_simp; all_goals (with_reducible rfl)
         try simp only [Act.put, sv_a, sv_0, sv_1]
         refine wpAnyH_take (i := 17) (oi := ⟨some 63, .pick (.tmp 54) (.tmp 62) (.const (.bool false)), 4, "save.go:80", #[⟨8, .data⟩, ⟨16, .data⟩, ⟨5, .guard⟩], some (5, false)⟩) (v := .bool false) rfl (by kernel_rfl) (by kernel_rfl) (by kernel_rfl) (fun _ _ _ h => h) (.inl ⟨by rfl, ?_⟩) (by assumption) ?_
         ·intro w hSw; (try dsimp only at hSw); go_simp; all_goals (with_reducible rfl)
         try simp only [Act.put, sv_a, sv_0, sv_1]
         refine wpAnyH_take (i := 18) (oi := ⟨some 64, .pick (.tmp 51) (.const (.bool true)) (.tmp 63), 4, "save.go:80", #[⟨5, .data⟩, ⟨17, .data⟩], none⟩) (v := .bool false) rfl (by kernel_rfl) (by kernel_rfl) (by kernel_rfl) (fun _ _ _ h => h) (.inl ⟨by rfl, ?_⟩) (by assumption) ?_
         ·intro w hSw; (try dsimp only at hSw); go_simp; all_goals (with_reducible rfl)
         try simp only [Act.put, sv_a, sv_0, sv_1]
         refine wpAnyH_done (by kernel_rfl) ?_ _

         have HB3 := Lib.hid (HBB.out.trans (HBQ.out.mono HBB.out.size))
         clear s0 g0 g1 g2 g3 g4 g5 g6 g7 g8 g9 g10 e0 e1 e2 e3 e4 e5 e6 e7 e8 e9 e10
         go_wp2_with fail
         go_roundw
         case rel => exact ⟨p + 1 + 1, hlt, by go_num, HPS.out, HB3.out⟩
         case measure => exact HME.out
        | false =>
         have HLT := Lib.hid hlt2
         have HNO := Lib.hid (show ¬ P by rw [HP.out]; exact fun hs => LOk.no2 hjl (show p + 1 < kept.length from hjl) (by rw [HNM2.out, HNM1.out]; exact hlt2) hs.kept)
         clear hlt2
         go_wp2_with fail
         refine wp_region_held_drew (S := fun W => W.cell? ⟨w.heap.size, 0, none⟩ = some (.slice ta nt tc) ∧ W.cell? ⟨gb, 0, none⟩ = some (.int .i64 ts) ∧ W.cell? ⟨gb, 1, none⟩ = some (.int .u64 (id : Int)) ∧ W.cell? ⟨gb, 2, none⟩ = some (.int .i64 typ) ∧ W.cell? ⟨gb, 3, none⟩ = some (.int .i64 a0) ∧ W.cell? ⟨gb, 4, none⟩ = some (.int .i64 a1) ∧ W.cell? ⟨gb, 5, none⟩ = some (.int .i64 a2) ∧ W.cell? ⟨gb, 6, none⟩ = some (.int .i64 a3) ∧ W.cell? ⟨gb, 7, none⟩ = some (.int .i64 a4) ∧ W.cell? ⟨gb, 8, none⟩ = some (.int .i64 a5) ∧ W.cell? ⟨gb, 9, none⟩ = some (.int .i64 a6) ∧ W.cell? ⟨gb, 10, none⟩ = some (.int .i64 a7) ∧ W.cell? ⟨b, off + p * 11, none⟩ = some (.int .i64 ts2) ∧ W.cell? ⟨b, off + p * 11 + 1, none⟩ = some (.int .u64 (i2 : Int)) ∧ W.cell? ⟨b, off + p * 11 + 2, none⟩ = some (.int .i64 typ2) ∧ W.cell? ⟨b, off + p * 11 + 3, none⟩ = some (.int .i64 v0) ∧ W.cell? ⟨b, off + p * 11 + 4, none⟩ = some (.int .i64 v1) ∧ W.cell? ⟨b, off + p * 11 + 5, none⟩ = some (.int .i64 v2) ∧ W.cell? ⟨b, off + p * 11 + 6, none⟩ = some (.int .i64 v3) ∧ W.cell? ⟨b, off + p * 11 + 7, none⟩ = some (.int .i64 v4) ∧ W.cell? ⟨b, off + p * 11 + 8, none⟩ = some (.int .i64 v5) ∧ W.cell? ⟨b, off + p * 11 + 9, none⟩ = some (.int .i64 v6) ∧ W.cell? ⟨b, off + p * 11 + 10, none⟩ = some (.int .i64 v7)) (by kernel_rfl) ⟨s0, g0, g1, g2, g3, g4, g5, g6, g7, g8, g9, g10, e0, e1, e2, e3, e4, e5, e6, e7, e8, e9, e10⟩ (fun hHeld => ?_)
         refine wpAnyH_take (i := 0) (oi := ⟨some 46, .fieldAddr 36 (.tmp 1) 0, 0, "save.go:80", #[], none⟩) (v := .pointer (some ⟨w.heap.size, 0, none⟩)) rfl (by kernel_rfl) (by kernel_rfl) (by kernel_rfl) (fun _ _ _ h => h) (.inl ⟨by rfl, ?_⟩) (by assumption) ?_
         ·intro w hSw; (try dsimp only at hSw); go_simp; all_goals (with_reducible rfl)
         try simp only [Act.put, sv_a, sv_0, sv_1]
         refine wpAnyH_take (i := 1) (oi := ⟨some 47, .load 24 (.tmp 46), 24, "save.go:80", #[⟨0, .data⟩], none⟩) (v := .agg #[.slice ta nt tc]) rfl (by kernel_rfl) (by kernel_rfl) (by kernel_rfl) (fun _ _ _ h => h) (.inl ⟨by rfl, ?_⟩) (by assumption) ?_
         ·intro w hSw; (try dsimp only at hSw); go_simp; all_goals (with_reducible rfl)
         try simp only [Act.put, sv_a, sv_0, sv_1]
         refine wpAnyH_take (i := 2) (oi := ⟨some 48, .load 108 (.tmp 6), 108, "save.go:80", #[], none⟩) (v := .agg #[.int .i64 ts, .int .u64 (id : Int), .int .i64 typ, .int .i64 a0, .int .i64 a1, .int .i64 a2, .int .i64 a3, .int .i64 a4, .int .i64 a5, .int .i64 a6, .int .i64 a7]) rfl (by kernel_rfl) (by kernel_rfl) (by kernel_rfl) (fun _ _ _ h => h) (.inl ⟨by rfl, ?_⟩) (by assumption) ?_
         ·intro w hSw; (try dsimp only at hSw); go_simp; all_goals (with_reducible rfl)
         try simp only [Act.put, sv_a, sv_0, sv_1]
         refine wpAnyH_ready (rs := [3]) (by kernel_rfl) (by simp) ?_
         refine AllReadyH.cons (o := ⟨some 49, .call { callee := .value (.func 69), args := #[.tmp 47, .tmp 48], argTypes := #[24, 108] }, 40, "save.go:80", #[⟨1, .data⟩, ⟨2, .data⟩], none⟩) rfl (fun K hK => ?_) AllReadyH.nil
         go_simp
         go_at_call 69
         refine (HCE2.out _ (HBB.out.trans (HBQ.out.mono HBB.out.size))).mono ?_
         rintro e wC ⟨r, rfl, hr, hbC⟩
         obtain rfl : r = 0 := hr.2 HOKK.out
         have HBQ := Lib.hid (HBQ.out.trans (hbC.mono HBQ.out.size))
         clear s0 g0 g1 g2 g3 g4 g5 g6 g7 g8 g9 g10 e0 e1 e2 e3 e4 e5 e6 e7 e8 e9 e10
         have s0 := (HE.out.below (HBB.out.trans (HBQ.out.mono HBB.out.size))).ci 0 rfl
         have g0 := (HFB.out.below HBQ.out).ci 0 rfl
         have g1 := (HFB.out.below HBQ.out).ci 1 rfl
         have g2 := (HFB.out.below HBQ.out).ci 2 rfl
         have g3 := (HFB.out.below HBQ.out).ci 3 rfl
         have g4 := (HFB.out.below HBQ.out).ci 4 rfl
         have g5 := (HFB.out.below HBQ.out).ci 5 rfl
         have g6 := (HFB.out.below HBQ.out).ci 6 rfl
         have g7 := (HFB.out.below HBQ.out).ci 7 rfl
         have g8 := (HFB.out.below HBQ.out).ci 8 rfl
         have g9 := (HFB.out.below HBQ.out).ci 9 rfl
         have g10 := (HFB.out.below HBQ.out).ci 10 rfl
         obtain ⟨e0, e1, e2, e3, e4, e5, e6, e7, e8, e9, e10⟩ := HC2.out _ (HBB.out.trans (HBQ.out.mono HBB.out.size))
         clear hbC hr
         go_wp2_with fail
         refine hK.out _ _ ⟨s0, g0, g1, g2, g3, g4, g5, g6, g7, g8, g9, g10, e0, e1, e2, e3, e4, e5, e6, e7, e8, e9, e10⟩ (fun hHeld => ?_)
         clear hK K
         try simp only [Act.put, sv_a, sv_0, sv_1]
         refine wpAnyH_take (i := 4) (oi := ⟨some 50, .binOp .neq 40 (.tmp 49) (.const (.int .i64 0)) 40, 4, "save.go:80", #[⟨3, .data⟩], none⟩) (v := .bool false) rfl (by kernel_rfl) (by kernel_rfl) (by kernel_rfl) (fun _ _ _ h => h) (.inl ⟨by rfl, ?_⟩) (by assumption) ?_
         ·intro w hSw; (try dsimp only at hSw); go_simp; all_goals (with_reducible rfl)
         try simp only [Act.put, sv_a, sv_0, sv_1]
         refine wpAnyH_take (i := 5) (oi := ⟨some 51, .move (.tmp 50), 4, "save.go:80", #[⟨4, .data⟩, ⟨3, .chain⟩], none⟩) (v := .bool false) rfl (by kernel_rfl) (by kernel_rfl) (by kernel_rfl) (fun _ _ _ h => h) (.inl ⟨by rfl, ?_⟩) (by assumption) ?_
         ·intro w hSw; (try dsimp only at hSw); go_simp; all_goals (with_reducible rfl)
         try simp only [Act.put, sv_a, sv_0, sv_1]
         refine wpAnyH_take (i := 6) (oi := ⟨some 52, .move (.tmp 5), 3, "save.go:80", #[⟨5, .guard⟩], some (5, false)⟩) (v := .int .i64 ((p : Int) + 1)) rfl (by kernel_rfl) (by kernel_rfl) (by kernel_rfl) (fun _ _ _ h => h) (.inl ⟨by rfl, ?_⟩) (by assumption) ?_
         ·intro w hSw; (try dsimp only at hSw); go_simp; all_goals (with_reducible rfl)
         try simp only [Act.put, sv_a, sv_0, sv_1]
         refine wpAnyH_take (i := 7) (oi := ⟨some 53, .binOp .gtr 3 (.tmp 52) (.const (.int .i64 0)) 3, 4, "save.go:80", #[⟨6, .data⟩, ⟨5, .guard⟩], some (5, false)⟩) (v := .bool true) rfl (by kernel_rfl) (by kernel_rfl) (by kernel_rfl) (fun _ _ _ h => h) (.inl ⟨by rfl, ?_⟩) (by assumption) ?_
         ·intro w hSw; (try dsimp only at hSw); go_simp; all_goals (with_reducible rfl)
         try simp only [Act.put, sv_a, sv_0, sv_1]
         refine wpAnyH_take (i := 8) (oi := ⟨some 54, .move (.tmp 53), 4, "save.go:80", #[⟨7, .data⟩, ⟨5, .chain⟩, ⟨5, .guard⟩], some (5, false)⟩) (v := .bool true) rfl (by kernel_rfl) (by kernel_rfl) (by kernel_rfl) (fun _ _ _ h => h) (.inl ⟨by rfl, ?_⟩) (by assumption) ?_
         ·intro w hSw; (try dsimp only at hSw); go_simp; all_goals (with_reducible rfl)
         try simp only [Act.put, sv_a, sv_0, sv_1]
         refine wpAnyH_take (i := 9) (oi := ⟨some 55, .move (.tmp 4), 32, "save.go:80", #[⟨8, .guard⟩], some (8, true)⟩) (v := .slice (some ⟨b, off, none⟩) nk kc) rfl (by kernel_rfl) (by kernel_rfl) (by kernel_rfl) (fun _ _ _ h => h) (.inl ⟨by rfl, ?_⟩) (by assumption) ?_
         ·intro w hSw; (try dsimp only at hSw); go_simp; all_goals (with_reducible rfl)
         try simp only [Act.put, sv_a, sv_0, sv_1]
         refine wpAnyH_take (i := 10) (oi := ⟨some 56, .move (.tmp 5), 3, "save.go:80", #[⟨8, .guard⟩], some (8, true)⟩) (v := .int .i64 ((p : Int) + 1)) rfl (by kernel_rfl) (by kernel_rfl) (by kernel_rfl) (fun _ _ _ h => h) (.inl ⟨by rfl, ?_⟩) (by assumption) ?_
         ·intro w hSw; (try dsimp only at hSw); go_simp; all_goals (with_reducible rfl)
         try simp only [Act.put, sv_a, sv_0, sv_1]
         refine wpAnyH_take (i := 11) (oi := ⟨some 57, .binOp .sub 3 (.tmp 56) (.const (.int .i64 1)) 3, 3, "save.go:80", #[⟨10, .data⟩, ⟨8, .guard⟩], some (8, true)⟩) (v := .int .i64 (p : Int)) rfl (by kernel_rfl) (by kernel_rfl) (by kernel_rfl) (fun _ _ _ h => h) (.inl ⟨by rfl, ?_⟩) (by assumption) ?_
         ·intro w hSw; (try dsimp only at hSw); go_simp; all_goals (with_reducible rfl)
         try simp only [Act.put, sv_a, sv_0, sv_1]
         refine wpAnyH_take (i := 12) (oi := ⟨some 58, .indexAddr 32 (.tmp 55) (.tmp 57), 0, "save.go:80", #[⟨9, .data⟩, ⟨11, .data⟩, ⟨8, .guard⟩], some (8, true)⟩) (v := .pointer (some ⟨b, off + p * 11, none⟩)) rfl (by kernel_rfl) (by kernel_rfl) (by kernel_rfl) (fun _ _ _ h => h) (.inl ⟨by rfl, ?_⟩) (by assumption) ?_
         ·intro w hSw; (try dsimp only at hSw); go_simp; all_goals (with_reducible rfl)
         try simp only [Act.put, sv_a, sv_0, sv_1]
         refine wpAnyH_take (i := 13) (oi := ⟨some 59, .load 108 (.tmp 58), 108, "save.go:80", #[⟨12, .data⟩, ⟨8, .guard⟩], some (8, true)⟩) (v := .agg #[.int .i64 ts2, .int .u64 (i2 : Int), .int .i64 typ2, .int .i64 v0, .int .i64 v1, .int .i64 v2, .int .i64 v3, .int .i64 v4, .int .i64 v5, .int .i64 v6, .int .i64 v7]) rfl (by kernel_rfl) (by kernel_rfl) (by kernel_rfl) (fun _ _ _ h => h) (.inl ⟨by rfl, ?_⟩) (by assumption) ?_
         ·intro w hSw; (try dsimp only at hSw); go_simp; all_goals (with_reducible rfl)
         try simp only [Act.put, sv_a, sv_0, sv_1]
         refine wpAnyH_take (i := 14) (oi := ⟨some 60, .load 108 (.tmp 6), 108, "save.go:80", #[⟨8, .guard⟩], some (8, true)⟩) (v := .agg #[.int .i64 ts, .int .u64 (id : Int), .int .i64 typ, .int .i64 a0, .int .i64 a1, .int .i64 a2, .int .i64 a3, .int .i64 a4, .int .i64 a5, .int .i64 a6, .int .i64 a7]) rfl (by kernel_rfl) (by kernel_rfl) (by kernel_rfl) (fun _ _ _ h => h) (.inl ⟨by rfl, ?_⟩) (by assumption) ?_
         ·intro w hSw; (try dsimp only at hSw); go_simp; all_goals (with_reducible rfl)
         try simp only [Act.put, sv_a, sv_0, sv_1]
         refine wpAnyH_ready (rs := [15]) (by kernel_rfl) (by simp) ?_
         refine AllReadyH.cons (o := ⟨some 61, .call { callee := .value (.func 70), args := #[.tmp 59, .tmp 60], argTypes := #[108, 108] }, 4, "save.go:80", #[⟨13, .data⟩, ⟨14, .data⟩, ⟨8, .chain⟩, ⟨8, .guard⟩], some (8, true)⟩) rfl (fun K hK => ?_) AllReadyH.nil
         go_simp
         go_at_call 70
         refine (HBF.out _).mono ?_
         rintro e wD ⟨rfl, hbD⟩
         rw [HLT.out]
         have HBQ := Lib.hid (HBQ.out.trans (hbD.mono HBQ.out.size))
         clear s0 g0 g1 g2 g3 g4 g5 g6 g7 g8 g9 g10 e0 e1 e2 e3 e4 e5 e6 e7 e8 e9 e10
         have s0 := (HE.out.below (HBB.out.trans (HBQ.out.mono HBB.out.size))).ci 0 rfl
         have g0 := (HFB.out.below HBQ.out).ci 0 rfl
         have g1 := (HFB.out.below HBQ.out).ci 1 rfl
         have g2 := (HFB.out.below HBQ.out).ci 2 rfl
         have g3 := (HFB.out.below HBQ.out).ci 3 rfl
         have g4 := (HFB.out.below HBQ.out).ci 4 rfl
         have g5 := (HFB.out.below HBQ.out).ci 5 rfl
         have g6 := (HFB.out.below HBQ.out).ci 6 rfl
         have g7 := (HFB.out.below HBQ.out).ci 7 rfl
         have g8 := (HFB.out.below HBQ.out).ci 8 rfl
         have g9 := (HFB.out.below HBQ.out).ci 9 rfl
         have g10 := (HFB.out.below HBQ.out).ci 10 rfl
         obtain ⟨e0, e1, e2, e3, e4, e5, e6, e7, e8, e9, e10⟩ := HC2.out _ (HBB.out.trans (HBQ.out.mono HBB.out.size))
         clear hbD
         go_wp2_with fail
         refine hK.out _ _ ⟨s0, g0, g1, g2, g3, g4, g5, g6, g7, g8, g9, g10, e0, e1, e2, e3, e4, e5, e6, e7, e8, e9, e10⟩ (fun hHeld => ?_)
         clear hK K
         try simp only [Act.put, sv_a, sv_0, sv_1]
         refine wpAnyH_take (i := 16) (oi := ⟨some 62, .unOp .not 4 (.tmp 61), 4, "save.go:80", #[⟨15, .data⟩, ⟨8, .guard⟩], some (8, true)⟩) (v := .bool true) rfl (by kernel_rfl) (by kernel_rfl) (by kernel_rfl) (fun _ _ _ h => h) (.inl ⟨by rfl, ?_⟩) (by assumption) ?_
         ·intro w hSw; (try dsimp only at hSw); go_simp; all_goals (with_reducible rfl)
         try simp only [Act.put, sv_a, sv_0, sv_1]
         refine wpAnyH_take (i := 17) (oi := ⟨some 63, .pick (.tmp 54) (.tmp 62) (.const (.bool false)), 4, "save.go:80", #[⟨8, .data⟩, ⟨16, .data⟩, ⟨5, .guard⟩], some (5, false)⟩) (v := .bool true) rfl (by kernel_rfl) (by kernel_rfl) (by kernel_rfl) (fun _ _ _ h => h) (.inl ⟨by rfl, ?_⟩) (by assumption) ?_
         ·intro w hSw; (try dsimp only at hSw); go_simp; all_goals (with_reducible rfl)
         try simp only [Act.put, sv_a, sv_0, sv_1]
         refine wpAnyH_take (i := 18) (oi := ⟨some 64, .pick (.tmp 51) (.const (.bool true)) (.tmp 63), 4, "save.go:80", #[⟨5, .data⟩, ⟨17, .data⟩], none⟩) (v := .bool true) rfl (by kernel_rfl) (by kernel_rfl) (by kernel_rfl) (fun _ _ _ h => h) (.inl ⟨by rfl, ?_⟩) (by assumption) ?_
         ·intro w hSw; (try dsimp only at hSw); go_simp; all_goals (with_reducible rfl)
         try simp only [Act.put, sv_a, sv_0, sv_1]
         refine wpAnyH_done (by kernel_rfl) ?_ _

         have HB3 := Lib.hid (HBB.out.trans (HBQ.out.mono HBB.out.size))
         clear s0 g0 g1 g2 g3 g4 g5 g6 g7 g8 g9 g10 e0 e1 e2 e3 e4 e5 e6 e7 e8 e9 e10
         go_wp2_with fail
         go_ret
         exact .no rfl HNO.out (HB0.out.trans (HB3.out.mono HB0.out.size))
      ·have HNO := Lib.hid (show ¬ P by rw [HP.out]; exact fun hs => LOk.no1 hjl (show k < kept.length from hjl) hok hs.kept)
       have HNOK := Lib.hid hok
       clear hok
       go_wp2_with fail
       refine wp_region_held_drew (S := fun W => W.cell? ⟨w.heap.size, 0, none⟩ = some (.slice ta nt tc) ∧ W.cell? ⟨gb, 0, none⟩ = some (.int .i64 ts) ∧ W.cell? ⟨gb, 1, none⟩ = some (.int .u64 (id : Int)) ∧ W.cell? ⟨gb, 2, none⟩ = some (.int .i64 typ) ∧ W.cell? ⟨gb, 3, none⟩ = some (.int .i64 a0) ∧ W.cell? ⟨gb, 4, none⟩ = some (.int .i64 a1) ∧ W.cell? ⟨gb, 5, none⟩ = some (.int .i64 a2) ∧ W.cell? ⟨gb, 6, none⟩ = some (.int .i64 a3) ∧ W.cell? ⟨gb, 7, none⟩ = some (.int .i64 a4) ∧ W.cell? ⟨gb, 8, none⟩ = some (.int .i64 a5) ∧ W.cell? ⟨gb, 9, none⟩ = some (.int .i64 a6) ∧ W.cell? ⟨gb, 10, none⟩ = some (.int .i64 a7)) (by kernel_rfl) ⟨s0, g0, g1, g2, g3, g4, g5, g6, g7, g8, g9, g10⟩ (fun hHeld => ?_)
       refine wpAnyH_take (i := 0) (oi := ⟨some 46, .fieldAddr 36 (.tmp 1) 0, 0, "save.go:80", #[], none⟩) (v := .pointer (some ⟨w.heap.size, 0, none⟩)) rfl (by kernel_rfl) (by kernel_rfl) (by kernel_rfl) (fun _ _ _ h => h) (.inl ⟨by rfl, ?_⟩) (by assumption) ?_
       ·intro w hSw; (try dsimp only at hSw); go_simp; all_goals (with_reducible rfl)
       try simp only [Act.put, sv_a, sv_0, sv_1]
       refine wpAnyH_take (i := 1) (oi := ⟨some 47, .load 24 (.tmp 46), 24, "save.go:80", #[⟨0, .data⟩], none⟩) (v := .agg #[.slice ta nt tc]) rfl (by kernel_rfl) (by kernel_rfl) (by kernel_rfl) (fun _ _ _ h => h) (.inl ⟨by rfl, ?_⟩) (by assumption) ?_
       ·intro w hSw; (try dsimp only at hSw); go_simp; all_goals (with_reducible rfl)
       try simp only [Act.put, sv_a, sv_0, sv_1]
       refine wpAnyH_take (i := 2) (oi := ⟨some 48, .load 108 (.tmp 6), 108, "save.go:80", #[], none⟩) (v := .agg #[.int .i64 ts, .int .u64 (id : Int), .int .i64 typ, .int .i64 a0, .int .i64 a1, .int .i64 a2, .int .i64 a3, .int .i64 a4, .int .i64 a5, .int .i64 a6, .int .i64 a7]) rfl (by kernel_rfl) (by kernel_rfl) (by kernel_rfl) (fun _ _ _ h => h) (.inl ⟨by rfl, ?_⟩) (by assumption) ?_
       ·intro w hSw; (try dsimp only at hSw); go_simp; all_goals (with_reducible rfl)
       try simp only [Act.put, sv_a, sv_0, sv_1]
       refine wpAnyH_ready (rs := [3]) (by kernel_rfl) (by simp) ?_
       refine AllReadyH.cons (o := ⟨some 49, .call { callee := .value (.func 69), args := #[.tmp 47, .tmp 48], argTypes := #[24, 108] }, 40, "save.go:80", #[⟨1, .data⟩, ⟨2, .data⟩], none⟩) rfl (fun K hK => ?_) AllReadyH.nil
       go_simp
       go_at_call 69
       refine (HCE2.out _ (HBB.out.trans (HBQ.out.mono HBB.out.size))).mono ?_
       rintro e wC ⟨r, rfl, hr, hbC⟩
       have hr1 : (r == 0) = false := by simpa using fun h => HNOK.out (hr.1 h)
       have hr2 : (r != 0) = true := by simpa using fun h => HNOK.out (hr.1 h)
       have HBQ := Lib.hid (HBQ.out.trans (hbC.mono HBQ.out.size))
       clear s0 g0 g1 g2 g3 g4 g5 g6 g7 g8 g9 g10
       have s0 := (HE.out.below (HBB.out.trans (HBQ.out.mono HBB.out.size))).ci 0 rfl
       have g0 := (HFB.out.below HBQ.out).ci 0 rfl
       have g1 := (HFB.out.below HBQ.out).ci 1 rfl
       have g2 := (HFB.out.below HBQ.out).ci 2 rfl
       have g3 := (HFB.out.below HBQ.out).ci 3 rfl
       have g4 := (HFB.out.below HBQ.out).ci 4 rfl
       have g5 := (HFB.out.below HBQ.out).ci 5 rfl
       have g6 := (HFB.out.below HBQ.out).ci 6 rfl
       have g7 := (HFB.out.below HBQ.out).ci 7 rfl
       have g8 := (HFB.out.below HBQ.out).ci 8 rfl
       have g9 := (HFB.out.below HBQ.out).ci 9 rfl
       have g10 := (HFB.out.below HBQ.out).ci 10 rfl
       clear hbC hr
       go_wp2_with fail
       refine hK.out _ _ ⟨s0, g0, g1, g2, g3, g4, g5, g6, g7, g8, g9, g10⟩ (fun hHeld => ?_)
       clear hK K
       try simp only [Act.put, sv_a, sv_0, sv_1]
       refine wpAnyH_take (i := 4) (oi := ⟨some 50, .binOp .neq 40 (.tmp 49) (.const (.int .i64 0)) 40, 4, "save.go:80", #[⟨3, .data⟩], none⟩) (v := .bool true) rfl (by kernel_rfl) (by kernel_rfl) (by kernel_rfl) (fun _ _ _ h => h) (.inl ⟨by rfl, ?_⟩) (by assumption) ?_
       ·intro w hSw; (try dsimp only at hSw); go_simp; all_goals (with_reducible rfl)
       try simp only [Act.put, sv_a, sv_0, sv_1]
       refine wpAnyH_take (i := 5) (oi := ⟨some 51, .move (.tmp 50), 4, "save.go:80", #[⟨4, .data⟩, ⟨3, .chain⟩], none⟩) (v := .bool true) rfl (by kernel_rfl) (by kernel_rfl) (by kernel_rfl) (fun _ _ _ h => h) (.inl ⟨by rfl, ?_⟩) (by assumption) ?_
       ·intro w hSw; (try dsimp only at hSw); go_simp; all_goals (with_reducible rfl)
       try simp only [Act.put, sv_a, sv_0, sv_1]
       refine wpAnyH_take (i := 6) (oi := ⟨some 52, .move (.tmp 5), 3, "save.go:80", #[⟨5, .guard⟩], some (5, false)⟩) (v := undef) rfl (by kernel_rfl) (by kernel_rfl) (by kernel_rfl) (fun _ _ _ h => h) (.inr ⟨by rfl, rfl⟩) (by assumption) ?_
       try simp only [Act.put, sv_a, sv_0, sv_1]
       refine wpAnyH_take (i := 7) (oi := ⟨some 53, .binOp .gtr 3 (.tmp 52) (.const (.int .i64 0)) 3, 4, "save.go:80", #[⟨6, .data⟩, ⟨5, .guard⟩], some (5, false)⟩) (v := undef) rfl (by kernel_rfl) (by kernel_rfl) (by kernel_rfl) (fun _ _ _ h => h) (.inr ⟨by rfl, rfl⟩) (by assumption) ?_
       try simp only [Act.put, sv_a, sv_0, sv_1]
       refine wpAnyH_take (i := 8) (oi := ⟨some 54, .move (.tmp 53), 4, "save.go:80", #[⟨7, .data⟩, ⟨5, .chain⟩, ⟨5, .guard⟩], some (5, false)⟩) (v := undef) rfl (by kernel_rfl) (by kernel_rfl) (by kernel_rfl) (fun _ _ _ h => h) (.inr ⟨by rfl, rfl⟩) (by assumption) ?_
       try simp only [Act.put, sv_a, sv_0, sv_1]
       refine wpAnyH_take (i := 9) (oi := ⟨some 55, .move (.tmp 4), 32, "save.go:80", #[⟨8, .guard⟩], some (8, true)⟩) (v := undef) rfl (by kernel_rfl) (by kernel_rfl) (by kernel_rfl) (fun _ _ _ h => h) (.inr ⟨by rfl, rfl⟩) (by assumption) ?_
       try simp only [Act.put, sv_a, sv_0, sv_1]
       refine wpAnyH_take (i := 10) (oi := ⟨some 56, .move (.tmp 5), 3, "save.go:80", #[⟨8, .guard⟩], some (8, true)⟩) (v := undef) rfl (by kernel_rfl) (by kernel_rfl) (by kernel_rfl) (fun _ _ _ h => h) (.inr ⟨by rfl, rfl⟩) (by assumption) ?_
       try simp only [Act.put, sv_a, sv_0, sv_1]
       refine wpAnyH_take (i := 11) (oi := ⟨some 57, .binOp .sub 3 (.tmp 56) (.const (.int .i64 1)) 3, 3, "save.go:80", #[⟨10, .data⟩, ⟨8, .guard⟩], some (8, true)⟩) (v := undef) rfl (by kernel_rfl) (by kernel_rfl) (by kernel_rfl) (fun _ _ _ h => h) (.inr ⟨by rfl, rfl⟩) (by assumption) ?_
       try simp only [Act.put, sv_a, sv_0, sv_1]
       refine wpAnyH_take (i := 12) (oi := ⟨some 58, .indexAddr 32 (.tmp 55) (.tmp 57), 0, "save.go:80", #[⟨9, .data⟩, ⟨11, .data⟩, ⟨8, .guard⟩], some (8, true)⟩) (v := undef) rfl (by kernel_rfl) (by kernel_rfl) (by kernel_rfl) (fun _ _ _ h => h) (.inr ⟨by rfl, rfl⟩) (by assumption) ?_
       try simp only [Act.put, sv_a, sv_0, sv_1]
       refine wpAnyH_take (i := 13) (oi := ⟨some 59, .load 108 (.tmp 58), 108, "save.go:80", #[⟨12, .data⟩, ⟨8, .guard⟩], some (8, true)⟩) (v := undef) rfl (by kernel_rfl) (by kernel_rfl) (by kernel_rfl) (fun _ _ _ h => h) (.inr ⟨by rfl, rfl⟩) (by assumption) ?_
       try simp only [Act.put, sv_a, sv_0, sv_1]
       refine wpAnyH_take (i := 14) (oi := ⟨some 60, .load 108 (.tmp 6), 108, "save.go:80", #[⟨8, .guard⟩], some (8, true)⟩) (v := undef) rfl (by kernel_rfl) (by kernel_rfl) (by kernel_rfl) (fun _ _ _ h => h) (.inr ⟨by rfl, rfl⟩) (by assumption) ?_
       try simp only [Act.put, sv_a, sv_0, sv_1]
       refine wpAnyH_take (i := 15) (oi := ⟨some 61, .call { callee := .value (.func 70), args := #[.tmp 59, .tmp 60], argTypes := #[108, 108] }, 4, "save.go:80", #[⟨13, .data⟩, ⟨14, .data⟩, ⟨8, .chain⟩, ⟨8, .guard⟩], some (8, true)⟩) (v := undef) rfl (by kernel_rfl) (by kernel_rfl) (by kernel_rfl) (fun _ _ _ h => h) (.inr ⟨by rfl, rfl⟩) (by assumption) ?_
       try simp only [Act.put, sv_a, sv_0, sv_1]
       refine wpAnyH_take (i := 16) (oi := ⟨some 62, .unOp .not 4 (.tmp 61), 4, "save.go:80", #[⟨15, .data⟩, ⟨8, .guard⟩], some (8, true)⟩) (v := undef) rfl (by kernel_rfl) (by kernel_rfl) (by kernel_rfl) (fun _ _ _ h => h) (.inr ⟨by rfl, rfl⟩) (by assumption) ?_
       try simp only [Act.put, sv_a, sv_0, sv_1]
       refine wpAnyH_take (i := 17) (oi := ⟨some 63, .pick (.tmp 54) (.tmp 62) (.const (.bool false)), 4, "save.go:80", #[⟨8, .data⟩, ⟨16, .data⟩, ⟨5, .guard⟩], some (5, false)⟩) (v := undef) rfl (by kernel_rfl) (by kernel_rfl) (by kernel_rfl) (fun _ _ _ h => h) (.inr ⟨by rfl, rfl⟩) (by assumption) ?_
       try simp only [Act.put, sv_a, sv_0, sv_1]
       refine wpAnyH_take (i := 18) (oi := ⟨some 64, .pick (.tmp 51) (.const (.bool true)) (.tmp 63), 4, "save.go:80", #[⟨5, .data⟩, ⟨17, .data⟩], none⟩) (v := .bool true) rfl (by kernel_rfl) (by kernel_rfl) (by kernel_rfl) (fun _ _ _ h => h) (.inl ⟨by rfl, ?_⟩) (by assumption) ?_
       ·intro w hSw; (try dsimp only at hSw); go_simp; all_goals (with_reducible rfl)
       try simp only [Act.put, sv_a, sv_0, sv_1]
       refine wpAnyH_done (by kernel_rfl) ?_ _
       have HB3 := Lib.hid (HBB.out.trans (HBQ.out.mono HBB.out.size))
       clear s0 g0 g1 g2 g3 g4 g5 g6 g7 g8 g9 g10
       go_wp2_with fail
       go_ret
       exact .no rfl HNO.out (HB0.out.trans (HB3.out.mono HB0.out.size))
     ·have hk' : ¬ (k : Int) < nk := by omega
      have HKN := Lib.hid (show HK2 (1 + 1) by
       have h1 := HKQ.out
       rw [HHK.out] at h1 ⊢
       have h2 : LOk (tys types) kept kept.length := by
        have h := HPK.out
        rw [show k = kept.length by rw [← HNK.out]; omega] at h
        exact h
       exact ⟨fun _ => h1.1 (by omega), fun _ => h2⟩)
      clear hbw
      go_wp2_with fail
      go_roundw
      case rel => exact ⟨1 + 1, 2, rfl, by omega, by go_num, HKN.out, HBK.out⟩
      case measure => simp [intOf]
  ·obtain rfl : q = 2 := by omega
   obtain rfl : z = 2 := hqz
   have HLISTS := Lib.hid (show LOk (tys types) held held.length ∧ LOk (tys types) kept kept.length by
    have h1 := HKQ.out
    rw [HHK.out] at h1
    exact ⟨h1.1 (by omega), h1.2 (by omega)⟩)
   obtain ⟨wv, rfl⟩ : ∃ v, v = wr := ⟨_, rfl⟩
   have c13 := (HE.out.below hbw).ci 13 rfl
   have h22 : ¬ (2 : Int) < 2 := by omega
   clear hbw
   go_wp2_with fail
   clear c13
   have HBV := Lib.hid HBR.out
   go_loopw [70] (fun i wr => ∃ k : Nat, k ≤ nw ∧ i = .int .i64 (k : Int) ∧ MOk waiting k ∧ Below w0.heap.size w0 wr) (fun i _ => nw - (intOf i).toNat)
   case atStart => exact ⟨0, Nat.zero_le _, rfl, ⟨fun i hi hk => by omega, fun i hi hk => by omega⟩, HBV.out⟩
   case round =>
    obtain ⟨k, hkn, rfl, hmk, hbw⟩ := hrel
    have HMKK := Lib.hid hmk
    have HBR := Lib.hid hbw
    clear hmk
    by_cases hlt : k < nw
    ·have hjl : k < waiting.length := by rw [← HNW.out]; exact hlt
     have hWR : RdM wr wa waiting := (HR.out.below hbw).waiting
     obtain ⟨b, off, hwa⟩ : ∃ b off, wa = some ⟨b, off, none⟩ := by
      obtain ⟨b, off, h, _⟩ := hWR.at k hjl
      exact ⟨b, off, h⟩
     obtain ⟨y, hy⟩ : ∃ y, y = waiting[k] := ⟨_, rfl⟩
     have hcl := hWR.cells k hjl b off hwa y hy
     have hyb := HSB.out.wb _ (List.getElem_mem (l := waiting) hjl)
     rw [← hy] at hyb
     have HY := Lib.hid hy
     have HYB := Lib.hid hyb
     have HYL := Lib.hid (fun W (hW : Below w0.heap.size w0 W) => show RdMl W y by
      have h : RdM W wa waiting := (HR.out.below hW).waiting
      rw [hy]; exact h.2 _ (List.getElem_mem hjl))
     obtain ⟨⟨yd, yn, yl, yv⟩, yna, ync, yla, ylc, yva, yvc⟩ := y
     obtain ⟨nv, hnv⟩ : ∃ n, n = yv.length := ⟨_, rfl⟩
     obtain ⟨e0, e1, e2, e3⟩ := hcl
     dsimp only at e0 e1 e2 e3
     rw [← hnv] at e3
     have hnv2 : nv ≤ 1048576 := by have := hyb.vals; dsimp only at this; omega
     have HNV := Lib.hid hnv
     have HME := Lib.hid (meas_lt hlt)
     have hlt' : (k : Int) < nw := by omega
     have hj0 : (0 : Int) ≤ k := by omega
     obtain ⟨wb, hwb⟩ : ∃ wb, wb = wr.alloc (.cells #[.int .i64 yd, .slice yna yn.length ync, .slice yla yl.length ylc, .slice yva nv yvc] 62) := ⟨_, rfl⟩
     obtain ⟨gb, hgb⟩ : ∃ gb, gb = wr.heap.size := ⟨_, rfl⟩
     have hbb : Below wr.heap.size wr wb := by rw [hwb]; exact bal (Below.refl _ _) (Nat.le_refl _) _
     have hFb : Blk wb gb 62 [.int .i64 yd, .slice yna yn.length ync, .slice yla yl.length ylc, .slice yva nv yvc] := by rw [hwb, hgb]; exact Blk.new wr _ 62
     have HFB := Lib.hid hFb
     have HBB := Lib.hid (hbw.trans (hbb.mono hbw.size))
     have HWA := Lib.hid hwa
     subst hwa
     clear hWR hy hyb hbw hnv hbb hFb
     go_upto_region 16 with fail
     rw [← hwb, ← hgb]
     clear hwb hgb e0 e1 e2 e3
     by_cases hk0 : k = 0
     ·have h00 : ¬ (0 : Int) < k := by omega
      have h02 : ¬ 0 < k := by omega
      have h03 : decide (0 < k) = false := by simpa using h02
      have HK0 := Lib.hid hk0
      clear hk0
      go_wp2_with fail
      go_quiet (fail)
      obtain ⟨wz, hwz⟩ : ∃ wz, wz = wb.drewN nq := ⟨_, rfl⟩
      rw [← hwz]
      have hbq : Below wb.heap.size wb wz := by rw [hwz]; exact below_draws wb
      have hbz : Below w0.heap.size w0 wz := HBB.out.trans (hbq.mono HBB.out.size)
      have hfz := HFB.out.below hbq
      have hk0 := HK0.out
      clear hwz hbq
      have HBZ := Lib.hid hbz
      have d3 := hfz.ci 3 rfl
      clear hbz hfz
      go_wp2_with fail
      clear d3
      go_loopw [91] (fun i wr => ∃ j : Nat, j ≤ nv ∧ i = .int .i64 (j : Int) ∧ (yv.take j).all (fun v => v.1 || decide (v.2 = 0)) = true ∧ Below w0.heap.size w0 wr) (fun i _ => nv - (intOf i).toNat)
      case atStart => exact ⟨0, Nat.zero_le _, rfl, by simp, HBZ.out⟩
      case round =>
       obtain ⟨j, hjn, rfl, hal, hbw⟩ := hrel
       have HAL := Lib.hid hal
       have HBJ := Lib.hid hbw
       by_cases hltj : j < nv
       ·have hjl3 : j < yv.length := by rw [← HNV.out]; exact hltj
        obtain ⟨b2, off2, hva, e0, e1⟩ := (HYL.out wr hbw).2.2.at j hjl3
        obtain ⟨u, hu⟩ : ∃ u, u = yv[j] := ⟨_, rfl⟩
        have hno := @all_noG (Bool × Int) yv (fun v => v.1 || decide (v.2 = 0)) j hjl3
        have hst := fun h => all_stepG (p := fun v : Bool × Int => v.1 || decide (v.2 = 0)) hjl3 HAL.out h
        rw [← hu] at e0 e1 hno hst
        obtain ⟨uk, un⟩ := u
        dsimp only at hva e0 e1 hno hst
        have HNOF := Lib.hid hno
        have HSTF := Lib.hid hst
        have HMEJ := Lib.hid (meas_lt hltj)
        have HKS := Lib.hid (show j + 1 ≤ nv from hltj)
        have hltj' : (j : Int) < nv := by omega
        have hjj0 : (0 : Int) ≤ j := by omega
        obtain ⟨wc2, hwc2⟩ : ∃ wb, wb = wr.alloc (.cells #[.bool uk, .int .i64 un] 64) := ⟨_, rfl⟩
        obtain ⟨gb2, hgb2⟩ : ∃ gb, gb = wr.heap.size := ⟨_, rfl⟩
        have hbb2 : Below wr.heap.size wr wc2 := by rw [hwc2]; exact bal (Below.refl _ _) (Nat.le_refl _) _
        have hFb2 : Blk wc2 gb2 64 [.bool uk, .int .i64 un] := by rw [hwc2, hgb2]; exact Blk.new wr _ 64
        have HBE := Lib.hid (hbw.trans (hbb2.mono hbw.size))
        have e0' := hFb2.ci 0 rfl
        have e1' := hFb2.ci 1 rfl
        clear hal hno hst hu hbb2 hFb2 hbw
        subst hva
        go_upto_region 21 with fail
        rw [← hwc2, ← hgb2]
        clear hwc2 hgb2 e0 e1
        cases uk with
        | true =>
         have HST := Lib.hid (HSTF.out rfl)
         go_wp2_with fail
         go_roundw
         case rel => exact ⟨j + 1, HKS.out, by go_num, HST.out, HBE.out⟩
         case measure => exact HMEJ.out
        | false =>
         by_cases hz : un = 0
         ·subst hz
          have HST := Lib.hid (HSTF.out rfl)
          go_wp2_with fail
          go_roundw
          case rel => exact ⟨j + 1, HKS.out, by go_num, HST.out, HBE.out⟩
          case measure => exact HMEJ.out
         ·have h1 : (un == 0) = false := by simpa using hz
          have h2 : (un != 0) = true := by simpa using hz
          have HNO := Lib.hid (show ¬ P by
           rw [HP.out]
           exact fun hs => MOk.no1 hjl (show k < waiting.length from hjl) (by rw [← HY.out]; exact HNOF.out (by simpa using hz)) hs.waiting)
          clear hz
          go_wp2_with fail
          go_ret
          exact .no rfl HNO.out (HB0.out.trans (HBE.out.mono HB0.out.size))
       ·have hkj' : ¬ (j : Int) < nv := by omega
        have hcv : cleanB yv = true := by
         rw [List.take_of_length_le (by rw [← HNV.out]; omega)] at hal
         exact hal
        have HPS := Lib.hid (show MOk waiting (k + 1) by
         have h : cleanB waiting[k].m.vals = true := by rw [← HY.out]; exact hcv
         subst hk0; exact MOk.one hjl h)
        clear hal hbw hk0 hcv
        go_wp2_with fail
        go_roundw
        case rel => exact ⟨k + 1, hlt, by go_num, HPS.out, HBJ.out⟩
        case measure => exact HME.out

     ·obtain ⟨p, rfl⟩ : ∃ p, k = p + 1 := ⟨k - 1, by omega⟩
      clear hk0
      have hjl2 : p < waiting.length := by omega
      obtain ⟨z, hz⟩ : ∃ z, z = waiting[p] := ⟨_, rfl⟩
      have HCELLZ := Lib.hid (fun W (hW : Below w0.heap.size w0 W) => ((HR.out.below hW).waiting : RdM W _ waiting).cells p hjl2 b off rfl z hz)
      have HZL := Lib.hid (fun W (hW : Below w0.heap.size w0 W) => show RdMl W z by
       have h : RdM W _ waiting := (HR.out.below hW).waiting
       rw [hz]; exact h.2 _ (List.getElem_mem hjl2))
      have hzb := HSB.out.wb _ (List.getElem_mem (l := waiting) hjl2)
      rw [← hz] at hzb
      have hbf := fun W (hW : Below w0.heap.size w0 W) => mbefore_any z ⟨⟨yd, yn, yl, yv⟩, yna, ync, yla, ylc, yva, yvc⟩ W (HZL.out W hW) (HYL.out W hW) hzb.names hzb.lens HYB.out.names HYB.out.lens
      have HZ := Lib.hid hz
      obtain ⟨⟨zd, zn, zl, zv⟩, zna, znc, zla, zlc, zva, zvc⟩ := z
      simp only [mmc] at hbf
      rw [← HNV.out] at hbf
      have HBF := Lib.hid hbf
      have HBQ := Lib.hid (show Below wb.heap.size wb wb.drew from (Below.refl _ _).drew)
      obtain ⟨g0, g1, g2, g3⟩ := HCELLZ.out wb.drew (HBB.out.trans (HBQ.out.mono HBB.out.size))
      have f0 := (HFB.out.below HBQ.out).ci 0 rfl
      have f1 := (HFB.out.below HBQ.out).ci 1 rfl
      have f2 := (HFB.out.below HBQ.out).ci 2 rfl
      have f3 := (HFB.out.below HBQ.out).ci 3 rfl
      have t13 := (HE.out.below (HBB.out.trans (HBQ.out.mono HBB.out.size))).ci 13 rfl
      dsimp only at g0 g1 g2 g3
      have hp1 : (0 : Int) < (p : Int) + 1 := by omega
      have hp1' : decide ((0 : Int) < (p : Int) + 1) = true := by simp; try omega
      have hp2 : (p : Int) < nw := by omega
      have hp3 : (0 : Int) ≤ p := by omega
      have hp4 : IntKind.i64.wrap ((p : Int) + 1 - 1) = p := by rw [IntKind.wrap_i64]; omega
      have hp5 : IntKind.i64.wrap (p : Int) = p := by rw [IntKind.wrap_i64]; omega
      have hp6 : wrap64 (p : Int) = p := by unfold wrap64; omega
      have hp7 : (p : Int) + 1 < nw := by omega
      have hp8 : (0 : Int) ≤ (p : Int) + 1 := by omega

      clear hzb hz hbf
      go_wp2_with fail
      go_region_held3 (fun W => W.cell? ⟨w.heap.size, 13, none⟩ = some (.slice (some ⟨b, off, none⟩) nw wc') ∧ W.cell? ⟨b, off + p * 4, none⟩ = some (.int .i64 zd) ∧ W.cell? ⟨b, off + p * 4 + 1, none⟩ = some (.slice zna zn.length znc) ∧ W.cell? ⟨b, off + p * 4 + 2, none⟩ = some (.slice zla zl.length zlc) ∧ W.cell? ⟨b, off + p * 4 + 3, none⟩ = some (.slice zva zv.length zvc) ∧ W.cell? ⟨gb, 0, none⟩ = some (.int .i64 yd) ∧ W.cell? ⟨gb, 1, none⟩ = some (.slice yna yn.length ync) ∧ W.cell? ⟨gb, 2, none⟩ = some (.slice yla yl.length ylc) ∧ W.cell? ⟨gb, 3, none⟩ = some (.slice yva nv yvc))
       (first | exact ⟨t13, g0, g1, g2, g3, f0, f1, f2, f3⟩ | (refine ⟨?_, ?_, ?_, ?_, ?_, ?_, ?_, ?_, ?_⟩ <;> assumption)) (first
       | (go_at_call 71; refine (HBF.out _ (HBB.out.trans (HBQ.out.mono HBB.out.size))).mono ?_; rintro e wD ⟨rfl, hbD⟩; (have HBQ := Lib.hid (HBQ.out.trans (hbD.mono HBQ.out.size))); (obtain ⟨g0, g1, g2, g3⟩ := HCELLZ.out _ (HBB.out.trans (HBQ.out.mono HBB.out.size))); (have f0 := (HFB.out.below HBQ.out).ci 0 rfl); (have f1 := (HFB.out.below HBQ.out).ci 1 rfl); (have f2 := (HFB.out.below HBQ.out).ci 2 rfl); (have f3 := (HFB.out.below HBQ.out).ci 3 rfl); (have t13 := (HE.out.below (HBB.out.trans (HBQ.out.mono HBB.out.size))).ci 13 rfl); clear hbD))
      have hbz := HBB.out.trans (HBQ.out.mono HBB.out.size)
      have hfz := HFB.out.below HBQ.out
      clear g0 g1 g2 g3 f0 f1 f2 f3 t13
      cases hlt2 : mtLt ⟨zd, zn, zl, zv⟩ ⟨yd, yn, yl, yv⟩ with
      | true =>
       have HLTM := Lib.hid (show mtLt waiting[p].m waiting[p + 1].m = true by rw [← HY.out, ← HZ.out]; exact hlt2)
       clear hlt2
       have HBZ := Lib.hid hbz
       have d3 := hfz.ci 3 rfl
       clear hbz hfz
       go_wp2_with fail
       clear d3
       go_loopw [91] (fun i wr => ∃ j : Nat, j ≤ nv ∧ i = .int .i64 (j : Int) ∧ (yv.take j).all (fun v => v.1 || decide (v.2 = 0)) = true ∧ Below w0.heap.size w0 wr) (fun i _ => nv - (intOf i).toNat)
       case atStart => exact ⟨0, Nat.zero_le _, rfl, by simp, HBZ.out⟩
       case round =>
        obtain ⟨j, hjn, rfl, hal, hbw⟩ := hrel
        have HAL := Lib.hid hal
        have HBJ := Lib.hid hbw
        by_cases hltj : j < nv
        ·have hjl3 : j < yv.length := by rw [← HNV.out]; exact hltj
         obtain ⟨b2, off2, hva, e0, e1⟩ := (HYL.out wr hbw).2.2.at j hjl3
         obtain ⟨u, hu⟩ : ∃ u, u = yv[j] := ⟨_, rfl⟩
         have hno := @all_noG (Bool × Int) yv (fun v => v.1 || decide (v.2 = 0)) j hjl3
         have hst := fun h => all_stepG (p := fun v : Bool × Int => v.1 || decide (v.2 = 0)) hjl3 HAL.out h
         rw [← hu] at e0 e1 hno hst
         obtain ⟨uk, un⟩ := u
         dsimp only at hva e0 e1 hno hst
         have HNOF := Lib.hid hno
         have HSTF := Lib.hid hst
         have HMEJ := Lib.hid (meas_lt hltj)
         have HKS := Lib.hid (show j + 1 ≤ nv from hltj)
         have hltj' : (j : Int) < nv := by omega
         have hjj0 : (0 : Int) ≤ j := by omega
         obtain ⟨wc2, hwc2⟩ : ∃ wb, wb = wr.alloc (.cells #[.bool uk, .int .i64 un] 64) := ⟨_, rfl⟩
         obtain ⟨gb2, hgb2⟩ : ∃ gb, gb = wr.heap.size := ⟨_, rfl⟩
         have hbb2 : Below wr.heap.size wr wc2 := by rw [hwc2]; exact bal (Below.refl _ _) (Nat.le_refl _) _
         have hFb2 : Blk wc2 gb2 64 [.bool uk, .int .i64 un] := by rw [hwc2, hgb2]; exact Blk.new wr _ 64
         have HBE := Lib.hid (hbw.trans (hbb2.mono hbw.size))
         have e0' := hFb2.ci 0 rfl
         have e1' := hFb2.ci 1 rfl
         clear hal hno hst hu hbb2 hFb2 hbw
         subst hva
         go_upto_region 21 with fail
         rw [← hwc2, ← hgb2]
         clear hwc2 hgb2 e0 e1
         cases uk with
         | true =>
          have HST := Lib.hid (HSTF.out rfl)
          go_wp2_with fail
          go_roundw
          case rel => exact ⟨j + 1, HKS.out, by go_num, HST.out, HBE.out⟩
          case measure => exact HMEJ.out
         | false =>
          by_cases hz : un = 0
          ·subst hz
           have HST := Lib.hid (HSTF.out rfl)
           go_wp2_with fail
           go_roundw
           case rel => exact ⟨j + 1, HKS.out, by go_num, HST.out, HBE.out⟩
           case measure => exact HMEJ.out
          ·have h1 : (un == 0) = false := by simpa using hz
           have h2 : (un != 0) = true := by simpa using hz
           have HNO := Lib.hid (show ¬ P by
            rw [HP.out]
            exact fun hs => MOk.no1 hjl (show p + 1 < waiting.length from hjl) (by rw [← HY.out]; exact HNOF.out (by simpa using hz)) hs.waiting)
           clear hz
           go_wp2_with fail
           go_ret
           exact .no rfl HNO.out (HB0.out.trans (HBE.out.mono HB0.out.size))
        ·have hkj' : ¬ (j : Int) < nv := by omega
         have hcv : cleanB yv = true := by
          rw [List.take_of_length_le (by rw [← HNV.out]; omega)] at hal
          exact hal
         have HPS := Lib.hid (show MOk waiting (p + 1 + 1) by
          have h : cleanB waiting[p + 1].m.vals = true := by rw [← HY.out]; exact hcv
          exact MOk.step hjl HMKK.out h HLTM.out)
         clear hal hbw hcv
         go_wp2_with fail
         go_roundw
         case rel => exact ⟨p + 1 + 1, hlt, by go_num, HPS.out, HBJ.out⟩
         case measure => exact HME.out

      | false =>
       have HNO := Lib.hid (show ¬ P by
        rw [HP.out]
        exact fun hs => MOk.no2 hjl (show p + 1 < waiting.length from hjl) (by rw [← HY.out, ← HZ.out]; exact hlt2) hs.waiting)
       have HB3 := Lib.hid hbz
       clear hlt2 hbz hfz
       go_wp2_with fail
       go_ret
       exact .no rfl HNO.out (HB0.out.trans (HB3.out.mono HB0.out.size))
    ·have hk' : ¬ (k : Int) < nw := by omega
     have HMW := Lib.hid (show MOk waiting waiting.length by
      have h := HMKK.out
      rw [show k = waiting.length by rw [← HNW.out]; omega] at h
      exact h)
     have s14 := (HE.out.below hbw).ci 14 rfl
     obtain ⟨wv, rfl⟩ : ∃ wv, wv = wr := ⟨_, rfl⟩
     clear hbw
     go_wp2_with fail
     clear s14
     have HBV := Lib.hid HBR.out
     go_loopw [108] (fun i wr => ∃ k : Nat, k ≤ nu ∧ i = .int .i64 (k : Int) ∧ UOk used k ∧ Below w0.heap.size w0 wr) (fun i _ => nu - (intOf i).toNat)
     case atStart => exact ⟨0, Nat.zero_le _, rfl, fun i hi hk => by omega, HBV.out⟩
     case round =>
      obtain ⟨k, hkn, rfl, huk, hbw⟩ := hrel
      have HUKK := Lib.hid huk
      have HBR := Lib.hid hbw
      clear huk
      by_cases hlt : k < nu
      ·have hjl : k < used.length := by rw [← HNU.out]; exact hlt
       have hlt' : (k : Int) < nu := by omega
       have hj0 : (0 : Int) ≤ k := by omega
       have hu0 : RdNm wr ua used := (HR.out.below hbw).used
       obtain ⟨b, off, hua, e0, e1⟩ := hu0.at k hjl
       obtain ⟨y, hy⟩ : ∃ y, y = used[k] := ⟨_, rfl⟩
       rw [← hy] at e0 e1
       have HY := Lib.hid hy
       obtain ⟨yt, yi⟩ := y
       dsimp only at e0 e1
       have HME := Lib.hid (meas_lt hlt)
       obtain ⟨wb, hwb⟩ : ∃ wb, wb = wr.alloc (.cells #[.int .i64 yt, .int .u64 (yi : Int)] 82) := ⟨_, rfl⟩
       obtain ⟨gb, hgb⟩ : ∃ gb, gb = wr.heap.size := ⟨_, rfl⟩
       have hbb : Below wr.heap.size wr wb := by rw [hwb]; exact bal (Below.refl _ _) (Nat.le_refl _) _
       have hFb : Blk wb gb 82 [.int .i64 yt, .int .u64 (yi : Int)] := by rw [hwb, hgb]; exact Blk.new wr _ 82
       have HFB := Lib.hid hFb
       have HBB := Lib.hid (hbw.trans (hbb.mono hbw.size))
       have HUA := Lib.hid hua
       subst hua
       clear hu0 hy hbw hbb hFb
       go_upto_region 28 with fail
       rw [← hwb, ← hgb]
       clear hwb hgb e0 e1
       by_cases hk0 : k = 0
       ·have HPS := Lib.hid (show UOk used (k + 1) from fun i hi hk => by omega)
        have h00 : ¬ (0 : Int) < k := by omega
        have h02 : ¬ 0 < k := by omega
        have h03 : decide (0 < k) = false := by simpa using h02
        clear hk0
        go_wp2_with fail
        go_quiet (fail)
        go_wp2_with fail
        go_roundw
        case rel => exact ⟨k + 1, hlt, by go_num, HPS.out, HBB.out.trans ((below_draws wb).mono HBB.out.size)⟩
        case measure => exact HME.out
       ·obtain ⟨p, rfl⟩ : ∃ p, k = p + 1 := ⟨k - 1, by omega⟩
        clear hk0
        have hjl2 : p < used.length := by omega
        obtain ⟨z, hz⟩ : ∃ z, z = used[p] := ⟨_, rfl⟩
        have HCELLZ := Lib.hid (fun W (hW : Below w0.heap.size w0 W) => show W.cell? ⟨b, off + p * 2, none⟩ = some (.int .i64 z.ts) ∧ W.cell? ⟨b, off + p * 2 + 1, none⟩ = some (.int .u64 (z.id : Int)) by
         have hu : RdNm W _ used := (HR.out.below hW).used
         obtain ⟨b1, o1, q1, q2, q3⟩ := hu.at p hjl2
         cases q1
         rw [hz]
         exact ⟨q2, q3⟩)
        have HZ := Lib.hid hz
        obtain ⟨zt, zi⟩ := z
        dsimp only at HCELLZ
        have HBF := Lib.hid (nmbefore_any ⟨zt, zi⟩ ⟨yt, yi⟩)
        simp only [nmc] at HBF
        have HBQ := Lib.hid (show Below wb.heap.size wb wb.drew from (Below.refl _ _).drew)
        obtain ⟨g0, g1⟩ := HCELLZ.out wb.drew (HBB.out.trans (HBQ.out.mono HBB.out.size))
        have f0 := (HFB.out.below HBQ.out).ci 0 rfl
        have f1 := (HFB.out.below HBQ.out).ci 1 rfl
        have t14 := (HE.out.below (HBB.out.trans (HBQ.out.mono HBB.out.size))).ci 14 rfl
        have hp1 : (0 : Int) < (p : Int) + 1 := by omega
        have hp1' : decide ((0 : Int) < (p : Int) + 1) = true := by simp; try omega
        have hp2 : (p : Int) < nu := by omega
        have hp3 : (0 : Int) ≤ p := by omega
        have hp4 : IntKind.i64.wrap ((p : Int) + 1 - 1) = p := by rw [IntKind.wrap_i64]; omega
        have hp5 : IntKind.i64.wrap (p : Int) = p := by rw [IntKind.wrap_i64]; omega
        have hp6 : wrap64 (p : Int) = p := by unfold wrap64; omega
        have hp7 : (p : Int) + 1 < nu := by omega
        have hp8 : (0 : Int) ≤ (p : Int) + 1 := by omega

        clear hz
        go_wp2_with fail
        go_region_held3 (fun W => W.cell? ⟨w.heap.size, 14, none⟩ = some (.slice (some ⟨b, off, none⟩) nu uc) ∧ W.cell? ⟨b, off + p * 2, none⟩ = some (.int .i64 zt) ∧ W.cell? ⟨b, off + p * 2 + 1, none⟩ = some (.int .u64 (zi : Int)) ∧ W.cell? ⟨gb, 0, none⟩ = some (.int .i64 yt) ∧ W.cell? ⟨gb, 1, none⟩ = some (.int .u64 (yi : Int)))
         (first | exact ⟨t14, g0, g1, f0, f1⟩ | (refine ⟨?_, ?_, ?_, ?_, ?_⟩ <;> assumption)) (first
         | (go_at_call 72; refine (HBF.out _).mono ?_; rintro e wD ⟨rfl, hbD⟩; (have HBQ := Lib.hid (HBQ.out.trans (hbD.mono HBQ.out.size))); (obtain ⟨g0, g1⟩ := HCELLZ.out _ (HBB.out.trans (HBQ.out.mono HBB.out.size))); (have f0 := (HFB.out.below HBQ.out).ci 0 rfl); (have f1 := (HFB.out.below HBQ.out).ci 1 rfl); (have t14 := (HE.out.below (HBB.out.trans (HBQ.out.mono HBB.out.size))).ci 14 rfl); clear hbD))
        have HB3 := Lib.hid (HBB.out.trans (HBQ.out.mono HBB.out.size))
        clear g0 g1 f0 f1 t14
        cases hlt2 : nmLt ⟨zt, zi⟩ ⟨yt, yi⟩ with
        | true =>
         have HPS := Lib.hid (show UOk used (p + 1 + 1) from UOk.step hjl HUKK.out (by rw [← HY.out, ← HZ.out]; exact hlt2))
         clear hlt2
         go_wp2_with fail
         go_roundw
         case rel => exact ⟨p + 1 + 1, hlt, by go_num, HPS.out, HB3.out⟩
         case measure => exact HME.out
        | false =>
         have HNO := Lib.hid (show ¬ P by
          rw [HP.out]
          exact fun hs => UOk.no2 hjl (show p + 1 < used.length from hjl) (by rw [← HY.out, ← HZ.out]; exact hlt2) hs.used)
         clear hlt2
         go_wp2_with fail
         go_ret
         exact .no rfl HNO.out (HB0.out.trans (HB3.out.mono HB0.out.size))
      ·have hk' : ¬ (k : Int) < nu := by omega
       have HIFF := Lib.hid (show P by
        rw [HP.out]
        refine ⟨HCAP.out, HMK.out, HMW.out, ?_, HLISTS.out.1, HLISTS.out.2⟩
        have h := HUKK.out
        rw [show k = used.length by rw [← HNU.out]; omega] at h
        exact h)
       clear hbw
       go_wp2_with fail
       go_ret
       exact .yes rfl HIFF.out (HB0.out.trans (HBR.out.mono HB0.out.size))
end Go.Proofs.YtfglgpbjjpoimaaGreatDoor
