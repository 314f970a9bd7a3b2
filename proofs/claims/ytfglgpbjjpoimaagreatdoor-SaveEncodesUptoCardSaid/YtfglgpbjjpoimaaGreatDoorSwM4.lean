/- x -/
import Derived.Test.YtfglgpbjjpoimaaGreatDoorSwHA
import Derived.Deep.CutBlock
set_option linter.unusedVariables false
namespace Go.Proofs.YtfglgpbjjpoimaaGreatDoor
open Go.RowKit Sv
def isub (y : Im) : List (Option Addr × List Value) := [(y.a, y.i.types.map T)]
def rsub (y : Tr) : List (Option Addr × List Value) := [(y.a, ndcs y.t)]
def qcs (mode after within : Int) (by_ : Str) (aw : Option Addr) (nwh cw : Nat) (v v2 : Value) : List Value := [v, .int .i64 mode, .int .i64 after, .slice aw nwh cw, .int .i64 within, .string ⟨by_.toArray⟩, v2]
def AdQ (base : Nat) (w : World) (y : Qm) : Prop := Ad base w y.ia ∧ (∀ z ∈ y.items, Ad base w z.a) ∧ Ad base w y.wa ∧ Ad base w y.ra ∧ ∀ z ∈ y.ret, Ad base w z.a
set_option maxHeartbeats 1000000 in
set_option maxRecDepth 20000 in
theorem twinQuery_any (x : Qm) (w : World) (h : RdQ w x) (hb : QB x) :
  Calls Tryz.prog 12 #[.agg (qmc x).toArray] w fun e w' => ∃ y : Qm, e = .returned (.agg (qmc y).toArray) ∧ y.q = x.q ∧ RdQ w' y ∧ AdQ w.heap.size w' y ∧ Below w.heap.size w w' := by
 obtain ⟨w0, hw0⟩ : ∃ w0, w0 = (w.alloc (.cells (qmc x).toArray 31)).alloc (.cells #[.slice none 0 0, .int .i64 0, .int .i64 0, .slice none 0 0, .int .i64 0, .string ⟨#[]⟩, .slice none 0 0] 31) := ⟨_, rfl⟩
 have hE : Blk w0 w.heap.size 31 (qmc x) := by rw [hw0]; exact (Blk.new w _ 31).below (bal (Below.refl _ _) (Nat.le_refl _) _)
 have hZ : Blk w0 (w.heap.size + 1) 31 [.slice none 0 0, .int .i64 0, .int .i64 0, .slice none 0 0, .int .i64 0, .string ⟨#[]⟩, .slice none 0 0] := by
  have h := Blk.new (w.alloc (.cells (qmc x).toArray 31)) [.slice none 0 0, .int .i64 0, .int .i64 0, .slice none 0 0, .int .i64 0, .string ⟨#[]⟩, .slice none 0 0] 31
  rw [World.size_alloc] at h
  rw [hw0]; exact h
 have HZ := Lib.hid hZ
 clear hZ
 have HB0 := Lib.hid (show Below w.heap.size w w0 by rw [hw0]; exact bal (bal (Below.refl _ _) (Nat.le_refl _) _) (Nat.le_refl _) _)
 have HR := Lib.hid (h.below HB0.out)
 have HTW := Lib.hid (fun W (hW : Below w0.heap.size w0 W) => twinTree_any x.wa x.wc x.wher.length x.wher W rfl hb.wher (Rd.below HR.out.2.1 hW))
 have HQB := Lib.hid hb
 obtain ⟨items, ia, ic, mode, after, wher, wwa, wcap, within, by_, ret, ra, rc⟩ := x
 obtain ⟨ni, hni⟩ : ∃ n, n = items.length := ⟨_, rfl⟩
 obtain ⟨nwh, hnwh⟩ : ∃ n, n = wher.length := ⟨_, rfl⟩
 obtain ⟨nr, hnr⟩ : ∃ n, n = ret.length := ⟨_, rfl⟩
 dsimp only at HTW
 simp only [qmc, T, ← hni, ← hnwh, ← hnr] at hE hw0 HTW ⊢
 have HE := Lib.hid hE
 have HNI := Lib.hid hni
 have HNW := Lib.hid hnwh
 have HNR := Lib.hid hnr
 clear hE hni hnwh hnr h hb
 go_enter Tryz.func12, Tryz.ntmps12
 go_upto_region 1 with fail
 rw [← hw0]
 clear hw0
 have HS := Lib.hid (fun W (hW : Below w0.heap.size w0 W) => show W.cell? ⟨w.heap.size, 1, none⟩ = some (.int .i64 mode) ∧ W.cell? ⟨w.heap.size, 2, none⟩ = some (.int .i64 after) ∧ W.cell? ⟨w.heap.size, 3, none⟩ = some (.slice wwa nwh wcap) ∧ W.cell? ⟨w.heap.size, 4, none⟩ = some (.int .i64 within) ∧ W.cell? ⟨w.heap.size, 5, none⟩ = some (.string ⟨by_.toArray⟩) from ⟨(HE.out.below hW).ci 1 rfl, (HE.out.below hW).ci 2 rfl, (HE.out.below hW).ci 3 rfl, (HE.out.below hW).ci 4 rfl, (HE.out.below hW).ci 5 rfl⟩)
 go_cut [3] from 10 (fun v wx => ∃ (g : Nat) (aw : Option Addr) (cw : Nat), v = .pointer (some ⟨g, 0, none⟩) ∧ w0.heap.size ≤ g ∧ Blk wx g 31 [.slice none 0 0, .int .i64 mode, .int .i64 after, .slice aw nwh cw, .int .i64 within, .string ⟨by_.toArray⟩, .slice none 0 0] ∧ Below w0.heap.size w0 wx ∧ RdN wx aw wher ∧ Ad w0.heap.size wx aw ∧ ∀ off, aw ≠ some ⟨g, off, none⟩)
 case first =>
  refine wp_region_held_drew (S := fun W => W.cell? ⟨w.heap.size, 1, none⟩ = some (.int .i64 mode) ∧ W.cell? ⟨w.heap.size, 2, none⟩ = some (.int .i64 after) ∧ W.cell? ⟨w.heap.size, 3, none⟩ = some (.slice wwa nwh wcap) ∧ W.cell? ⟨w.heap.size, 4, none⟩ = some (.int .i64 within) ∧ W.cell? ⟨w.heap.size, 5, none⟩ = some (.string ⟨by_.toArray⟩)) (by kernel_rfl) (HS.out _ (Below.refl _ _).drew) (fun hHeld => ?_)
  refine wpAnyH_take (i := 0) (oi := ⟨some 10, .fieldAddr 31 (.tmp 1) 1, 0, "law.go:200", #[], none⟩) (v := .pointer (some ⟨w.heap.size, 1, none⟩)) rfl (by kernel_rfl) (by kernel_rfl) (by kernel_rfl) (fun _ _ _ h => h) (.inl ⟨by rfl, ?_⟩) (by assumption) ?_
  ·intro w hSw; (try dsimp only at hSw); go_simp; all_goals (with_reducible rfl)
  try simp only [Act.put, sv_a, sv_0, sv_1]
  refine wpAnyH_take (i := 1) (oi := ⟨some 11, .load 26 (.tmp 10), 26, "law.go:200", #[⟨0, .data⟩], none⟩) (v := .int .i64 mode) rfl (by kernel_rfl) (by kernel_rfl) (by kernel_rfl) (fun _ _ _ h => h) (.inl ⟨by rfl, ?_⟩) (by assumption) ?_
  ·intro w hSw; (try dsimp only at hSw); go_simp; all_goals (with_reducible rfl)
  try simp only [Act.put, sv_a, sv_0, sv_1]
  refine wpAnyH_take (i := 2) (oi := ⟨some 12, .fieldAddr 31 (.tmp 1) 2, 0, "law.go:200", #[], none⟩) (v := .pointer (some ⟨w.heap.size, 2, none⟩)) rfl (by kernel_rfl) (by kernel_rfl) (by kernel_rfl) (fun _ _ _ h => h) (.inl ⟨by rfl, ?_⟩) (by assumption) ?_
  ·intro w hSw; (try dsimp only at hSw); go_simp; all_goals (with_reducible rfl)
  try simp only [Act.put, sv_a, sv_0, sv_1]
  refine wpAnyH_take (i := 3) (oi := ⟨some 13, .load 27 (.tmp 12), 27, "law.go:200", #[⟨2, .data⟩], none⟩) (v := .int .i64 after) rfl (by kernel_rfl) (by kernel_rfl) (by kernel_rfl) (fun _ _ _ h => h) (.inl ⟨by rfl, ?_⟩) (by assumption) ?_
  ·intro w hSw; (try dsimp only at hSw); go_simp; all_goals (with_reducible rfl)
  try simp only [Act.put, sv_a, sv_0, sv_1]
  refine wpAnyH_take (i := 4) (oi := ⟨some 14, .fieldAddr 31 (.tmp 1) 4, 0, "law.go:200", #[], none⟩) (v := .pointer (some ⟨w.heap.size, 4, none⟩)) rfl (by kernel_rfl) (by kernel_rfl) (by kernel_rfl) (fun _ _ _ h => h) (.inl ⟨by rfl, ?_⟩) (by assumption) ?_
  ·intro w hSw; (try dsimp only at hSw); go_simp; all_goals (with_reducible rfl)
  try simp only [Act.put, sv_a, sv_0, sv_1]
  refine wpAnyH_take (i := 5) (oi := ⟨some 15, .load 2 (.tmp 14), 2, "law.go:200", #[⟨4, .data⟩], none⟩) (v := .int .i64 within) rfl (by kernel_rfl) (by kernel_rfl) (by kernel_rfl) (fun _ _ _ h => h) (.inl ⟨by rfl, ?_⟩) (by assumption) ?_
  ·intro w hSw; (try dsimp only at hSw); go_simp; all_goals (with_reducible rfl)
  try simp only [Act.put, sv_a, sv_0, sv_1]
  refine wpAnyH_take (i := 6) (oi := ⟨some 16, .fieldAddr 31 (.tmp 1) 5, 0, "law.go:200", #[], none⟩) (v := .pointer (some ⟨w.heap.size, 5, none⟩)) rfl (by kernel_rfl) (by kernel_rfl) (by kernel_rfl) (fun _ _ _ h => h) (.inl ⟨by rfl, ?_⟩) (by assumption) ?_
  ·intro w hSw; (try dsimp only at hSw); go_simp; all_goals (with_reducible rfl)
  try simp only [Act.put, sv_a, sv_0, sv_1]
  refine wpAnyH_take (i := 7) (oi := ⟨some 17, .load 9 (.tmp 16), 9, "law.go:200", #[⟨6, .data⟩], none⟩) (v := .string ⟨by_.toArray⟩) rfl (by kernel_rfl) (by kernel_rfl) (by kernel_rfl) (fun _ _ _ h => h) (.inl ⟨by rfl, ?_⟩) (by assumption) ?_
  ·intro w hSw; (try dsimp only at hSw); go_simp; all_goals (with_reducible rfl)
  try simp only [Act.put, sv_a, sv_0, sv_1]
  refine wpAnyH_take (i := 8) (oi := ⟨some 18, .fieldAddr 31 (.tmp 1) 3, 0, "law.go:200", #[], none⟩) (v := .pointer (some ⟨w.heap.size, 3, none⟩)) rfl (by kernel_rfl) (by kernel_rfl) (by kernel_rfl) (fun _ _ _ h => h) (.inl ⟨by rfl, ?_⟩) (by assumption) ?_
  ·intro w hSw; (try dsimp only at hSw); go_simp; all_goals (with_reducible rfl)
  try simp only [Act.put, sv_a, sv_0, sv_1]
  refine wpAnyH_take (i := 9) (oi := ⟨some 19, .load 28 (.tmp 18), 28, "law.go:200", #[⟨8, .data⟩], none⟩) (v := .slice wwa nwh wcap) rfl (by kernel_rfl) (by kernel_rfl) (by kernel_rfl) (fun _ _ _ h => h) (.inl ⟨by rfl, ?_⟩) (by assumption) ?_
  ·intro w hSw; (try dsimp only at hSw); go_simp; all_goals (with_reducible rfl)
  try simp only [Act.put, sv_a, sv_0, sv_1]
  have HBQ := Lib.hid (show Below w0.heap.size w0 w0.drew from (Below.refl _ _).drew)
  refine wpAnyH_ready (rs := [10, 12]) (by kernel_rfl) (by simp) ?_
  refine AllReadyH.cons (o := ⟨some 20, .call { callee := .value (.func 39), args := #[.tmp 19], argTypes := #[28] }, 28, "law.go:200", #[⟨9, .data⟩], none⟩) rfl (fun K hK => ?_) (AllReadyH.cons (o := ⟨some 3, .alloc 31, 0, "law.go:200", #[], none⟩) rfl (fun K hK => ?_) AllReadyH.nil)
  ·go_simp
   go_at_call 39
   refine (HTW.out _ HBQ.out).mono ?_
   rintro e wC ⟨aw, cw, rfl, hown, hbC⟩
   have HBC := Lib.hid (HBQ.out.trans (hbC.mono HBQ.out.size))
   have HOW := Lib.hid hown
   go_wp2_with fail
   refine hK.out _ _ (HS.out _ HBC.out) (fun hHeld => ?_)
   clear hK K
   try simp only [Act.put, sv_a, sv_0, sv_1]
   refine wpAnyH_take (i := 11) (oi := ⟨some 21, .build 31 #[(1, .tmp 11), (2, .tmp 13), (4, .tmp 15), (5, .tmp 17), (3, .tmp 20)], 31, "law.go:200", #[⟨1, .data⟩, ⟨3, .data⟩, ⟨5, .data⟩, ⟨7, .data⟩, ⟨10, .data⟩], none⟩) (v := .agg #[.slice none 0 0, .int .i64 mode, .int .i64 after, .slice aw nwh cw, .int .i64 within, .string ⟨by_.toArray⟩, .slice none 0 0]) rfl (by kernel_rfl) (by kernel_rfl) (by kernel_rfl) (fun _ _ _ h => h) (.inl ⟨by rfl, ?_⟩) (by assumption) ?_
   ·intro w hSw; (try dsimp only at hSw); go_simp; all_goals (with_reducible rfl)
   try simp only [Act.put, sv_a, sv_0, sv_1]
   refine wpAnyH_ready (rs := [12]) (by kernel_rfl) (by simp) ?_
   refine AllReadyH.cons (o := ⟨some 3, .alloc 31, 0, "law.go:200", #[], none⟩) rfl (fun K hK => ?_) AllReadyH.nil
   go_simp
   have HBQ := Lib.hid (show Below w0.heap.size w0 (wC.alloc (Obj.cells #[.slice none 0 0, .int .i64 0, .int .i64 0, .slice none 0 0, .int .i64 0, .string ⟨#[]⟩, .slice none 0 0] 31)) from bal (by first | exact HBC.out | exact HBQ.out) (Nat.le_refl _) _)
   refine hK.out _ _ (HS.out _ HBQ.out) (fun hHeld => ?_)
   clear hK K
   try simp only [Act.put, sv_a, sv_0, sv_1]
   refine wpAnyH_ready (rs := [13]) (by kernel_rfl) (by simp) ?_
   refine AllReadyH.cons (o := ⟨none, .store 31 (.tmp 3) (.tmp 21), 0, "law.go:200", #[⟨12, .data⟩, ⟨11, .data⟩, ⟨10, .chain⟩, ⟨0, .phase⟩, ⟨1, .phase⟩, ⟨2, .phase⟩, ⟨3, .phase⟩, ⟨4, .phase⟩, ⟨5, .phase⟩, ⟨6, .phase⟩, ⟨7, .phase⟩, ⟨8, .phase⟩, ⟨9, .phase⟩, ⟨10, .phase⟩, ⟨11, .phase⟩, ⟨12, .phase⟩], none⟩) rfl (fun K hK => ?_) AllReadyH.nil
   go_simp
   have HBQ := Lib.hid (show Below w0.heap.size w0 (wC.alloc (.cells (#[.slice none 0 0, .int .i64 mode, .int .i64 after, .slice aw nwh cw, .int .i64 within, .string ⟨by_.toArray⟩, .slice none 0 0] : Array Value) 31)) from bal HBC.out (Nat.le_refl _) _)
   refine hK.out _ _ (HS.out _ HBQ.out) (fun hHeld => ?_)
   clear hK K
   try simp only [Act.put, sv_a, sv_0, sv_1]
   refine wpAnyH_done (by kernel_rfl) ?_ _
   go_wp2_with fail
   go_meet
   case rel => exact ⟨wC.heap.size, aw, cw, rfl, HBC.out.size, Blk.new wC _ 31, HBQ.out, (ownsRow_rd HOW.out).below (bal (Below.refl _ _) (Nat.le_refl _) _), (own_ad HOW.out).mono (Nat.le_refl _) (bal (Below.refl wC.heap.size wC) (Nat.le_refl _) _).size, own_ne HOW.out (Nat.le_refl _)⟩
  ·go_simp
   have HBQ := Lib.hid (show Below w0.heap.size w0 (w0.drew.alloc (Obj.cells #[.slice none 0 0, .int .i64 0, .int .i64 0, .slice none 0 0, .int .i64 0, .string ⟨#[]⟩, .slice none 0 0] 31)) from bal (by first | exact HBC.out | exact HBQ.out) (Nat.le_refl _) _)
   refine hK.out _ _ (HS.out _ HBQ.out) (fun hHeld => ?_)
   clear hK K
   try simp only [Act.put, sv_a, sv_0, sv_1]
   have HG := Lib.hid (show Blk (w0.drew.alloc (Obj.cells #[.slice none 0 0, .int .i64 0, .int .i64 0, .slice none 0 0, .int .i64 0, .string ⟨#[]⟩, .slice none 0 0] 31)) w0.heap.size 31 [.slice none 0 0, .int .i64 0, .int .i64 0, .slice none 0 0, .int .i64 0, .string ⟨#[]⟩, .slice none 0 0] from Blk.new w0.drew _ 31)
   refine wpAnyH_ready (rs := [10]) (by kernel_rfl) (by simp) ?_
   refine AllReadyH.cons (o := ⟨some 20, .call { callee := .value (.func 39), args := #[.tmp 19], argTypes := #[28] }, 28, "law.go:200", #[⟨9, .data⟩], none⟩) rfl (fun K hK => ?_) AllReadyH.nil
   go_simp
   go_at_call 39
   refine (HTW.out _ HBQ.out).mono ?_
   rintro e wC ⟨aw, cw, rfl, hown, hbC⟩
   have HBC := Lib.hid (HBQ.out.trans (hbC.mono HBQ.out.size))
   have HOW := Lib.hid hown
   go_wp2_with fail
   refine hK.out _ _ (HS.out _ HBC.out) (fun hHeld => ?_)
   clear hK K
   try simp only [Act.put, sv_a, sv_0, sv_1]
   refine wpAnyH_take (i := 11) (oi := ⟨some 21, .build 31 #[(1, .tmp 11), (2, .tmp 13), (4, .tmp 15), (5, .tmp 17), (3, .tmp 20)], 31, "law.go:200", #[⟨1, .data⟩, ⟨3, .data⟩, ⟨5, .data⟩, ⟨7, .data⟩, ⟨10, .data⟩], none⟩) (v := .agg #[.slice none 0 0, .int .i64 mode, .int .i64 after, .slice aw nwh cw, .int .i64 within, .string ⟨by_.toArray⟩, .slice none 0 0]) rfl (by kernel_rfl) (by kernel_rfl) (by kernel_rfl) (fun _ _ _ h => h) (.inl ⟨by rfl, ?_⟩) (by assumption) ?_
   ·intro w hSw; (try dsimp only at hSw); go_simp; all_goals (with_reducible rfl)
   try simp only [Act.put, sv_a, sv_0, sv_1]
   have hg := HG.out.below hbC
   have q0 := hg.ci 0 rfl
   have q1 := hg.ci 1 rfl
   have q2 := hg.ci 2 rfl
   have q3 := hg.ci 3 rfl
   have q4 := hg.ci 4 rfl
   have q5 := hg.ci 5 rfl
   have q6 := hg.ci 6 rfl
   have q7 : ∀ i, wC.frozen? ⟨w0.heap.size, i, none⟩ = false := fun i => hg.frozen i
   have HG2 := Lib.hid hg
   clear hg
   refine wpAnyH_ready (rs := [13]) (by kernel_rfl) (by simp) ?_
   refine AllReadyH.cons (o := ⟨none, .store 31 (.tmp 3) (.tmp 21), 0, "law.go:200", #[⟨12, .data⟩, ⟨11, .data⟩, ⟨10, .chain⟩, ⟨0, .phase⟩, ⟨1, .phase⟩, ⟨2, .phase⟩, ⟨3, .phase⟩, ⟨4, .phase⟩, ⟨5, .phase⟩, ⟨6, .phase⟩, ⟨7, .phase⟩, ⟨8, .phase⟩, ⟨9, .phase⟩, ⟨10, .phase⟩, ⟨11, .phase⟩, ⟨12, .phase⟩], none⟩) rfl (fun K hK => ?_) AllReadyH.nil
   go_simp
   have HST := Lib.hid (((((((((Sto.refl HG2.out).set 0 (.slice none 0 0)).set 1 (.int .i64 mode)).set 2 (.int .i64 after)).set 3 (.slice aw nwh cw)).set 4 (.int .i64 within)).set 5 (.string ⟨by_.toArray⟩)).set 6 (.slice none 0 0)))
   simp only [List.set_cons_zero, List.set_cons_succ] at HST
   have HBQ := Lib.hid (HST.out.below HBC.out (Nat.le_refl _) (Nat.le_refl _))
   refine hK.out _ _ (HS.out _ HBQ.out) (fun hHeld => ?_)
   clear hK K
   try simp only [Act.put, sv_a, sv_0, sv_1]
   refine wpAnyH_done (by kernel_rfl) ?_ _
   go_wp2_with fail
   go_meet
   case rel => exact ⟨w0.heap.size, aw, cw, rfl, Nat.le_refl _, HST.out.blk, HBQ.out, HST.out.rd (ownsRow_rd HOW.out) ((own_ge HOW.out).ne (by show w0.heap.size < Array.size (Array.push _ _); simp)), (own_ad HOW.out).mono (by show w0.heap.size ≤ Array.size (Array.push _ _); simp) HST.out.grown.size, (own_ge HOW.out).ne (by show w0.heap.size < Array.size (Array.push _ _); simp)⟩
 case rest =>
  obtain ⟨g, aw, cw, rfl, hg, hbk, hbw, hrn, hge, hne⟩ := hcut
  have HG := Lib.hid hg
  have HBK := Lib.hid hbk
  have HBX := Lib.hid hbw
  have HRN := Lib.hid hrn
  have HGE := Lib.hid hge
  have HNE := Lib.hid hne
  have s0 := (HE.out.below hbw).ci 0 rfl
  clear hg hbk hbw hrn hge hne
  go_wp2_with fail
  clear s0
  go_loopw [4] (fun i wr => ∃ (k : Nat) (ys : List Im) (a1 : Option Addr) (c1 : Nat), k ≤ ni ∧ i = .int .i64 (k : Int) ∧ ys.map (·.i) = (items.take k).map (·.i) ∧ Blk wr g 31 (qcs mode after within by_ aw nwh cw (.slice a1 k c1) (.slice none 0 0)) ∧ (Value.slice a1 k c1).ownBlock ≠ some g ∧ LSt imc isub 105 5 (g + 1) ys (.slice a1 k c1) wr ∧ FrV g (.slice none 0 0) wc (.slice a1 k c1) wr ∧ Below w0.heap.size w0 wr) (fun i _ => ni - (intOf i).toNat)
  case atStart => exact ⟨0, [], none, 0, Nat.zero_le _, rfl, rfl, HBK.out, by simp [Value.ownBlock], LSt.nil _, FrV.refl _ _ _, HBX.out⟩
  case round =>
   obtain ⟨k, ys, a1, c1, hkn, rfl, hys, hbk, hno, hls, hfr, hbw⟩ := hrel
   obtain ⟨wo, rfl⟩ : ∃ v, v = wr := ⟨_, rfl⟩
   have HYS := Lib.hid hys
   have HBK := Lib.hid hbk
   have HNO := Lib.hid hno
   have HLS := Lib.hid hls
   have HFR := Lib.hid hfr
   have HBW := Lib.hid hbw
   have s0 := (HE.out.below hbw).ci 0 rfl
   clear hys hbk hno hls hfr
   by_cases hlt : k < ni
   ·have hlt' : (k : Int) < ni := by omega
    have hk0 : (0 : Int) ≤ k := by omega
    have hjl : k < items.length := by rw [← HNI.out]; exact hlt
    have HME := Lib.hid (meas_lt hlt)
    obtain ⟨b, o, hia, e0, e1, e2, e3, e4⟩ := RdI.at (HR.out.below hbw).1 k hjl
    dsimp only at hia
    obtain ⟨y, hy⟩ : ∃ y, y = items[k] := ⟨_, rfl⟩
    have HTY := Lib.hid (fun W (hW : Below w0.heap.size w0 W) => show RdS W y.a y.i.types by
     have h : RdI W _ items := (HR.out.below hW).1
     rw [hy]; exact h.2 _ (List.getElem_mem hjl))
    have hnt : y.i.types.length ≤ 1048576 := by rw [hy]; exact HQB.out.types _ (List.getElem_mem hjl)
    dsimp only at e0 e1 e2 e3 e4
    rw [← hy] at e0 e1 e2 e3 e4
    have HY := Lib.hid hy
    obtain ⟨⟨neg, tys, var, lo, hi⟩, ta, tc⟩ := y
    obtain ⟨nt, hnt2⟩ : ∃ n, n = tys.length := ⟨_, rfl⟩
    simp only [T] at e0 e1 e2 e3 e4
    dsimp only at hnt
    rw [← hnt2] at e1 hnt
    have HNT := Lib.hid hnt2
    have HIA := Lib.hid hia
    subst hia
    obtain ⟨wi, hwi⟩ : ∃ wb, wb = wo.alloc (.cells #[.bool neg, .slice ta nt tc, .string ⟨var.toArray⟩, .int .i64 lo, .int .i64 hi] 105) := ⟨_, rfl⟩
    obtain ⟨gi, hgi⟩ : ∃ gb, gb = wo.heap.size := ⟨_, rfl⟩
    have hbi : Below wo.heap.size wo wi := by rw [hwi]; exact bal (Below.refl _ _) (Nat.le_refl _) _
    have hFi : Blk wi gi 105 [.bool neg, .slice ta nt tc, .string ⟨var.toArray⟩, .int .i64 lo, .int .i64 hi] := by rw [hwi, hgi]; exact Blk.new wo _ 105
    have HBI := Lib.hid hbi
    have HFI := Lib.hid hFi
    have i0 := hFi.ci 0 rfl
    have i2 := hFi.ci 2 rfl
    have i3 := hFi.ci 3 rfl
    have i4 := hFi.ci 4 rfl
    have HGI := Lib.hid hgi
    have HSI := Lib.hid (show wi.heap.size = gi + 1 by rw [hwi, hgi]; show Array.size (Array.push _ _) = _; simp)
    clear hbw hy hnt2
    go_upto_region 6 with fail
    rw [← hwi, ← hgi]
    clear hwi hgi hbi hFi e0 e1 e2 e3 e4 s0
    obtain ⟨wj, hwj⟩ : ∃ wb, wb = wi.alloc (.cells #[.bool neg, .slice none 0 0, .string ⟨var.toArray⟩, .int .i64 lo, .int .i64 hi] 105) := ⟨_, rfl⟩
    obtain ⟨gj, hgj⟩ : ∃ gb, gb = wi.heap.size := ⟨_, rfl⟩
    have hbj : Below wi.heap.size wi wj := by rw [hwj]; exact bal (Below.refl _ _) (Nat.le_refl _) _
    have hFj : Blk wj gj 105 [.bool neg, .slice none 0 0, .string ⟨var.toArray⟩, .int .i64 lo, .int .i64 hi] := by rw [hwj, hgj]; exact Blk.new wi _ 105
    have HBJ := Lib.hid (HBI.out.trans (hbj.mono HBI.out.size))
    have HFIJ := Lib.hid (HFI.out.below hbj)
    have HFJ := Lib.hid hFj
    have HGJ := Lib.hid (show gj = gi + 1 by rw [hgj, HSI.out])
    have HSJ := Lib.hid (show wj.heap.size = gj + 1 by rw [hwj, hgj]; show Array.size (Array.push _ _) = _; simp)
    go_upto_region 7 with fail
    rw [← hwj, ← hgj]
    clear hwj hgj hbj hFj i0 i2 i3 i4
    go_wp2_with fail
    go_loopw [7] (fun i wr => ∃ (j : Nat) (a2 : Option Addr) (c2 : Nat), j ≤ nt ∧ i = .int .i64 (j : Int) ∧ Blk wr gj 105 [.bool neg, .slice a2 j c2, .string ⟨var.toArray⟩, .int .i64 lo, .int .i64 hi] ∧ (Value.slice a2 j c2).ownBlock ≠ some gj ∧ wr.ownsRow gj 9 1 (.slice a2 j c2) j ((tys.take j).map T) ∧ Below gj wj wr) (fun i _ => nt - (intOf i).toNat)
    case atStart => exact ⟨0, none, 0, Nat.zero_le _, rfl, HFJ.out, by simp [Value.ownBlock], by simpa using World.ownsRow_nil wj gj 9 1, Below.refl _ _⟩
    case round =>
     obtain ⟨j, a2, c2, hjn, rfl, hbk2, hno2, hown2, hbw2⟩ := hrel
     have HBW2 := Lib.hid hbw2
     have HOWN2 := Lib.hid hown2
     have HNO2 := Lib.hid hno2
     have HBK2 := Lib.hid hbk2
     have HSZ := Lib.hid (show gj ≤ wr.drew.heap.size from Nat.le_trans (by rw [HSJ.out]; omega) hbw2.size)
     have HBX2 := Lib.hid (show Below w0.heap.size w0 wr from (HBW.out.trans (HBJ.out.mono HBW.out.size)).trans (hbw2.mono (by have := HBW.out.size; rw [HGJ.out, HGI.out]; omega)))
     have i1 := (blk_low HFIJ.out hbw2 (by rw [HGJ.out]; omega)).ci 1 rfl
     have j1 := hbk2.ci 1 rfl
     clear hbw2 hown2 hno2
     by_cases hltj : j < nt
     ·have hltj' : (j : Int) < nt := by omega
      have hj0 : (0 : Int) ≤ j := by omega
      have hjl2 : j < tys.length := by rw [← HNT.out]; exact hltj
      have HMEJ := Lib.hid (meas_lt hltj)
      have HTK := Lib.hid (take_snoc tys j hjl2)
      obtain ⟨b3, o3, hta, t0⟩ := RdS.at (HTY.out wr HBX2.out) j hjl2
      obtain ⟨s, hs⟩ : ∃ s, s = tys[j] := ⟨_, rfl⟩
      rw [← hs] at HTK
      simp only [T] at t0
      rw [← hs] at t0
      subst hta
      have j1a := (hbk2.alloc (.cells #[.string ⟨s.toArray⟩] 9)).ci 1 rfl
      clear hs hbk2
      go_wp2_with fail
      go_region_law (refine step_one wr.drew rfl _ _ 56 9 _ 1 16 inf9 Tryz.underlying56 rfl (by decide) (by decide) rfl gj (.slice a2 j c2) j _ [.string ⟨s.toArray⟩] rfl HOWN2.out rfl rfl (by intro z hz; simp only [List.mem_cons, List.not_mem_nil, or_false] at hz; subst hz; rfl) (by omega) HSZ.out ?_; intro a3 c3 w3 hown3 hb3 hm3; (obtain ⟨hk1, hk2, ho3, hn3, hbe3, hfr3⟩ := row_stored (w := wr.drew) (i := 1) HSZ.out (Nat.le_refl _) HBK2.out (by simp) rfl HNO2.out hown3 hb3 hm3); (have hc3 := hk1.ci 1 rfl); (have hf3 := hk1.frozen 1); (have HQ1 := Lib.hid hk2); (have HQ2 := Lib.hid ho3); (have HQ3 := Lib.hid hn3); (have HQ4 := Lib.hid hbe3); clear hk1 hk2 ho3 hn3 hbe3 hfr3 hown3 hb3 hm3)
      all_goals (
       go_wp2_with fail
       go_roundw
       case rel => exact ⟨j + 1, a3, c3, hltj, by go_num, HQ1.out, HQ3.out, by rw [HTK.out, List.map_append]; exact HQ2.out, HBW2.out.trans ((Below.refl _ _).drew.trans HQ4.out)⟩
       case measure => exact HMEJ.out)
     ·have hk' : ¬ (j : Int) < nt := by omega
      obtain rfl : j = nt := by omega
      have HWW := Lib.hid (show Below wo.heap.size wo wr from HBJ.out.trans (HBW2.out.mono (by rw [HGJ.out, HGI.out]; omega)))
      have hgo := HBK.out.lt
      have HBG := Lib.hid (HBK.out.below HWW.out)
      have g0 := HBG.out.ci 0 rfl
      have j0 := HBK2.out.ci 0 rfl
      have j2 := HBK2.out.ci 2 rfl
      have j3 := HBK2.out.ci 3 rfl
      have j4 := HBK2.out.ci 4 rfl
      clear hbk2 hgo
      go_upto_region 11 with fail
      clear i1
      have hgs := HBK.out.lt
      have HLEN := Lib.hid (show ys.length = k by
       have h := congrArg List.length HYS.out
       simp only [List.length_map, List.length_take] at h
       omega)
      have hgi2 : g < gi := by rw [HGI.out]; exact hgs
      have HGG := Lib.hid hgi2
      have HWS := Lib.hid (show g + 1 ≤ wr.heap.size from Nat.le_trans (by rw [HGI.out] at hgi2; exact hgi2) HWW.out.size)
      have hown1 : wr.ownsRow (g + 1) 105 5 (.slice a1 k c1) k (ys.flatMap imc) := by
       have h := (HLS.out.below HWW.out).own
       rw [HLEN.out] at h
       exact h
      have hk48 : k ≤ 1048576 := by have := HQB.out.items; dsimp only at this; omega
      clear hgs hgi2
      go_wp2_with (first | (at_builtin; refine app_one wr rfl _ _ 25 105 _ 5 _ inf105 Tryz.underlying25 rfl (by decide) (by decide) rfl (g + 1) (.slice a1 k c1) k _ [.bool neg, .slice a2 j c2, .string ⟨var.toArray⟩, .int .i64 lo, .int .i64 hi] rfl hown1 rfl rfl (by intro z hz; simp only [List.mem_cons, List.not_mem_nil, or_false] at hz; rcases hz with rfl | rfl | rfl | rfl | rfl <;> rfl) hk48 HWS.out ?_; intro a3 c3 w3 hown3 hb3 hm3; (obtain ⟨hk1, hk2, ho3, hn3, hbe3, hfr3⟩ := row_stored (i := 0) HWS.out (Nat.le_succ _) HBG.out (by simp [qcs]) rfl HNO.out hown3 hb3 hm3); (have hc3 := hk1.ci 0 rfl); (have hf3 := hk1.frozen 0); (have HQ1 := Lib.hid hk2); (have HQ2 := Lib.hid ho3); (have HQ3 := Lib.hid hn3); (have HQ4 := Lib.hid hbe3); (have HQ5 := Lib.hid hfr3); clear hk1 hk2 ho3 hn3 hbe3 hfr3 hown3 hb3 hm3) | fail)
      clear hown1
      go_roundw
      case rel =>
       have HL2 := (HLS.out.below HWW.out).step ⟨⟨neg, tys, var, lo, hi⟩, a2, c2⟩ (g := g) (fun p hp => by
        obtain rfl := List.mem_singleton.1 hp
        refine ⟨by have h := ownsRow_rd HOWN2.out; rw [List.take_of_length_le (by rw [HNT.out]; exact Nat.le_refl _)] at h; exact h, fun b off e => ?_⟩
        obtain ⟨q1, q2⟩ := own_ad HOWN2.out b off e
        have h1 := HGG.out
        have h2 := HGJ.out
        refine ⟨by omega, q2, fun e2 => ?_⟩
        have h3 := (HLS.out.own.lt b e2).2
        rw [← HGI.out] at h3
        omega) (Nat.lt_succ_self _) (by rw [HLEN.out]; simp only [imc, T]; rw [← HNT.out]; exact HQ2.out) HQ5.out
       refine ⟨k + 1, ys ++ [⟨⟨neg, tys, var, lo, hi⟩, a2, c2⟩], a3, c3, hlt, by go_num, ?_, HQ1.out, HQ3.out, HL2, HFR.out.trans ((FrV.of_below HWW.out).trans HQ5.out), (HBX2.out).trans (HQ4.out.mono HG.out)⟩
       rw [List.map_append, HYS.out, take_snoc items k hjl, List.map_append, ← HY.out]
       rfl
      case measure => exact HME.out
   ·have hk' : ¬ (k : Int) < ni := by omega
    obtain rfl : k = ni := by omega
    obtain ⟨wv, rfl⟩ : ∃ v, v = wo := ⟨_, rfl⟩
    clear hbw
    have HB2 := Lib.hid HBK.out
    have s6 := (HE.out.below HBW.out).ci 6 rfl
    go_wp2_with fail
    clear s0 s6
    go_loopw [8] (fun i wr => ∃ (j : Nat) (zs : List Tr) (a3 : Option Addr) (c3 : Nat), j ≤ nr ∧ i = .int .i64 (j : Int) ∧ zs.map (·.t) = (ret.take j).map (·.t) ∧ Blk wr g 31 (qcs mode after within by_ aw nwh cw (.slice a1 k c1) (.slice a3 j c3)) ∧ (Value.slice a3 j c3).ownBlock ≠ some g ∧ LSt (fun y => [trv y]) rsub 28 1 (g + 1) zs (.slice a3 j c3) wr ∧ FrV g (.slice none 0 0) wv (.slice a3 j c3) wr ∧ Below w0.heap.size w0 wr) (fun i _ => nr - (intOf i).toNat)
    case atStart => exact ⟨0, [], none, 0, Nat.zero_le _, rfl, rfl, HBK.out, by simp [Value.ownBlock], LSt.nil _, FrV.refl _ _ _, HBW.out⟩
    case round =>
     obtain ⟨j, zs, a3, c3, hjn, rfl, hzs, hbk2, hno2, hls2, hfr2, hbw2⟩ := hrel
     have HZS := Lib.hid hzs
     have HBK2 := Lib.hid hbk2
     have HNO2 := Lib.hid hno2
     have HLS2 := Lib.hid hls2
     have HFR2 := Lib.hid hfr2
     have HBW2 := Lib.hid hbw2
     have s6 := (HE.out.below hbw2).ci 6 rfl
     clear hzs hbk2 hno2 hls2 hfr2
     by_cases hltj : j < nr
     ·have hltj' : (j : Int) < nr := by omega
      have hj0 : (0 : Int) ≤ j := by omega
      have hjl : j < ret.length := by rw [← HNR.out]; exact hltj
      have HME := Lib.hid (meas_lt hltj)
      obtain ⟨b, o, hra, e0⟩ := RdR.at (HR.out.below hbw2).2.2 j hjl
      dsimp only at hra
      obtain ⟨y, hy⟩ : ∃ y, y = ret[j] := ⟨_, rfl⟩
      have hnt : y.t.length ≤ 1048576 := by rw [hy]; exact HQB.out.trees _ (List.getElem_mem hjl)
      have HTT := Lib.hid (twinTree_any y.a y.c y.t.length y.t wr rfl hnt (by
       have h : RdR wr _ ret := (HR.out.below hbw2).2.2
       rw [hy]; exact h.2 _ (List.getElem_mem hjl)))
      dsimp only at e0
      rw [← hy] at e0
      have HY := Lib.hid hy
      obtain ⟨t, ta, tc⟩ := y
      obtain ⟨nt, hnt2⟩ : ∃ n, n = t.length := ⟨_, rfl⟩
      dsimp only at hnt HTT e0
      rw [← hnt2] at e0 hnt HTT
      have HNT := Lib.hid hnt2
      subst hra
      clear hbw2 hy hnt2
      go_wp2_with fail
      refine (HTT.out).mono ?_
      rintro e wt ⟨at_, ct, rfl, hot, hbt⟩
      have hgs := HBK2.out.lt
      have HBG := Lib.hid (HBK2.out.below hbt)
      have g6 := HBG.out.ci 6 rfl
      have HLEN := Lib.hid (show zs.length = j by
       have h := congrArg List.length HZS.out
       simp only [List.length_map, List.length_take] at h
       omega)
      have HWS := Lib.hid (show g + 1 ≤ wt.heap.size from Nat.le_trans hgs hbt.size)
      have hown1 : wt.ownsRow (g + 1) 28 1 (.slice a3 j c3) j (zs.flatMap fun y => [trv y]) := by
       have h := (HLS2.out.below hbt).own
       rw [HLEN.out] at h
       exact h
      have hk48 : j ≤ 1048576 := by have := HQB.out.ret; dsimp only at this; omega
      have HOT := Lib.hid hot
      have HBT := Lib.hid hbt
      clear hgs s6 e0 hot hbt
      go_wp2_with (first | (at_builtin; refine app_one wt rfl _ _ 29 28 _ 1 _ inf28 Tryz.underlying29 rfl (by decide) (by decide) rfl (g + 1) (.slice a3 j c3) j _ [.slice at_ nt ct] rfl hown1 rfl rfl (by intro z hz; simp only [List.mem_cons, List.not_mem_nil, or_false] at hz; subst hz; rfl) hk48 HWS.out ?_; intro a4 c4 w3 hown3 hb3 hm3; (obtain ⟨hk1, hk2, ho3, hn3, hbe3, hfr3⟩ := row_stored (i := 6) HWS.out (Nat.le_succ _) HBG.out (by simp [qcs]) rfl HNO2.out hown3 hb3 hm3); (have hc3 := hk1.ci 6 rfl); (have hf3 := hk1.frozen 6); (have HQ1 := Lib.hid hk2); (have HQ2 := Lib.hid ho3); (have HQ3 := Lib.hid hn3); (have HQ4 := Lib.hid hbe3); (have HQ5 := Lib.hid hfr3); clear hk1 hk2 ho3 hn3 hbe3 hfr3 hown3 hb3 hm3) | fail)
      clear hown1
      go_roundw
      case rel =>
       have HL2 := (HLS2.out.below HBT.out).step ⟨t, at_, ct⟩ (g := g) (fun p hp => by
        obtain rfl := List.mem_singleton.1 hp
        refine ⟨ownsRow_rd HOT.out, fun b off e => ?_⟩
        obtain ⟨q1, q2⟩ := own_ad HOT.out b off e
        have hgs := HBK2.out.lt
        refine ⟨by omega, q2, fun e2 => ?_⟩
        have h3 := (HLS2.out.own.lt b e2).2
        omega) (Nat.lt_succ_self _) (by rw [HLEN.out]; simp only [trv]; rw [← HNT.out]; exact HQ2.out) HQ5.out
       refine ⟨j + 1, zs ++ [⟨t, at_, ct⟩], a4, c4, hltj, by go_num, ?_, HQ1.out, HQ3.out, HL2, HFR2.out.trans ((FrV.of_below HBT.out).trans HQ5.out), (HBW2.out.trans (HBT.out.mono HBW2.out.size)).trans (HQ4.out.mono HG.out)⟩
       rw [List.map_append, HZS.out, take_snoc ret j hjl, List.map_append, ← HY.out]
       rfl
      case measure => exact HME.out
     ·have hj' : ¬ (j : Int) < nr := by omega
      obtain rfl : j = nr := by omega
      have g0 := HBK2.out.ci 0 rfl
      have g1 := HBK2.out.ci 1 rfl
      have g2 := HBK2.out.ci 2 rfl
      have g3 := HBK2.out.ci 3 rfl
      have g4 := HBK2.out.ci 4 rfl
      have g5 := HBK2.out.ci 5 rfl
      have g6 := HBK2.out.ci 6 rfl
      have hz := HZ.out.below hbw2
      have hth := hz.there 0 7 (Nat.le_refl _)
      have hrg := HBK2.out.whole
      have HST := Lib.hid (blk_over hz (qcs mode after within by_ aw nwh cw (.slice a1 k c1) (.slice a3 j c3)) rfl)
      obtain ⟨CS, hCS⟩ : ∃ CS, CS = qcs mode after within by_ aw nwh cw (.slice a1 k c1) (.slice a3 j c3) := ⟨_, rfl⟩
      have HCS := Lib.hid hCS
      have hsz : (Tryz.prog.info? 31).map (·.size) = some CS.length := by rw [hCS]; kernel_rfl
      have hall : CS.toArray.all (·.oneCell') = true := by rw [hCS]; kernel_rfl
      have hsz2 : (Tryz.prog.info? 31).map (·.size) = some CS.toArray.size := by rw [hCS]; kernel_rfl
      have hth2 : wr.there (w.heap.size + 1) 0 CS.toArray.size := by rw [hCS]; exact hth
      rw [← hCS] at hrg HST
      clear hbw2 hz g0 g1 g2 g3 g4 g5 g6 hth hCS
      go_wp2_with (first | ((with_reducible refine at_dst 85 ?_); refine wpList_load_midg rfl 31 _ rfl g 0 rfl _ _ hrg Tryz.underlying31 rfl hsz ?_) | ((with_reducible refine at_store ?_); refine wpList_store_mid rfl 31 _ _ rfl (w.heap.size + 1) 0 CS.toArray rfl rfl hth2 hsz2 hall ?_) | fail)
      refine bodyPost_ret (results_cell rfl _ _ _ (w.heap.size + 1) 0 (.agg CS.toArray) rfl (run_loadVar_mid _ (w.heap.size + 1) 0 31 CS _ HST.out.blk.whole Tryz.underlying31 rfl hsz)) rfl ?_
      have hgs := HBK2.out.lt
      have hi1 : ys.map (·.i) = items.map (·.i) := by rw [HYS.out, List.take_of_length_le (by rw [HNI.out]; exact Nat.le_refl _)]
      have hr1 : zs.map (·.t) = ret.map (·.t) := by rw [HZS.out, List.take_of_length_le (by rw [HNR.out]; exact Nat.le_refl _)]
      have hyl : ys.length = k := by have h := congrArg List.length hi1; simp only [List.length_map] at h; rw [h, HNI.out]
      have hzl : zs.length = j := by have h := congrArg List.length hr1; simp only [List.length_map] at h; rw [h, HNR.out]
      have hwl : w.heap.size ≤ g + 1 := Nat.le_trans HB0.out.size (Nat.le_trans HG.out (Nat.le_succ _))
      have hg1 : w.heap.size + 1 < w0.heap.size := HZ.out.lt
      have hg2 : w.heap.size + 1 < g + 1 := by have := HG.out; omega
      have HL1 := (HLS.out.frv (Nat.lt_succ_self g) HFR2.out).frv hg2 HST.out.frv
      have HL2 := HLS2.out.frv hg2 HST.out.frv
      have hio := HL1.own
      rw [hyl] at hio
      have hzo := HL2.own
      rw [hzl] at hzo
      have hr0 := rd_frv (rd_frv (rd_frv HRN.out HNE.out HFR.out) HNE.out HFR2.out) (fun off e => by have := (HGE.out _ off e).1; omega) HST.out.frv
      refine ⟨⟨ys, a1, c1, mode, after, wher, aw, cw, within, by_, zs, a3, c3⟩, ?_, ?_, ⟨⟨ownsRow_rd hio, fun z hz => (HL1.sub z hz _ (List.mem_singleton_self _)).1⟩, hr0, ⟨?_, fun z hz => (HL2.sub z hz _ (List.mem_singleton_self _)).1⟩⟩, ⟨?_, fun z hz b off e => ?_, HGE.out.mono HB0.out.size (Nat.le_trans (Nat.le_trans HFR.out.1 HFR2.out.1) HST.out.grown.size), ?_, fun z hz b off e => ?_⟩, HST.out.below (HB0.out.trans (HBW2.out.mono HB0.out.size)) (Nat.le_refl _) (Nat.le_succ _)⟩
      ·rw [HCS.out]; simp only [qcs, hyl, hzl, ← HNW.out]
      ·simp only [Qm.q, hi1, hr1]
      ·have h := ownsRow_rd hzo
       rw [show zs.map trv = zs.flatMap fun y => [trv y] from List.map_eq_flatMap ..]
       exact h
      ·exact (own_ad HL1.own).mono hwl (Nat.le_refl _)
      ·obtain ⟨q1, q2, _⟩ := (HL1.sub z hz _ (List.mem_singleton_self _)).2 b off e
       exact ⟨Nat.le_trans hwl q1, q2⟩
      ·exact (own_ad HL2.own).mono hwl (Nat.le_refl _)
      ·obtain ⟨q1, q2, _⟩ := (HL2.sub z hz _ (List.mem_singleton_self _)).2 b off e
       exact ⟨Nat.le_trans hwl q1, q2⟩
end Go.Proofs.YtfglgpbjjpoimaaGreatDoor
