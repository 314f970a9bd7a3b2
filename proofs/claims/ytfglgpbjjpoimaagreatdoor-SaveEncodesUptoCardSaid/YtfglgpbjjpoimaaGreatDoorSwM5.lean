/- SaveEncodes: the law's twin of a state. -/
import Derived.Test.YtfglgpbjjpoimaaGreatDoorSwM4
import Derived.Test.YtfglgpbjjpoimaaGreatDoorSwHB
import Derived.Deep.CutBlock
import Derived.Deep.CutRange
set_option linter.unusedVariables false
namespace Go.Proofs.YtfglgpbjjpoimaaGreatDoor
open Go.RowKit Sv
/-- An address in the blocks from base on, but for block g. -/
def AdX (base g : Nat) (w : World) (a : Option Addr) : Prop := ∀ b off, a = some ⟨b, off, none⟩ → base ≤ b ∧ b < w.heap.size ∧ b ≠ g
theorem AdX.ne {base g : Nat} {w : World} {a : Option Addr} (h : AdX base g w a) : ∀ off, a ≠ some ⟨g, off, none⟩ := fun off e => (h g off e).2.2 rfl
theorem Ad.x {lo base g : Nat} {w w' : World} {a : Option Addr} (h : Ad lo w a) (hb : base ≤ lo) (hw : w.heap.size ≤ w'.heap.size) (hg : w.heap.size ≤ g ∨ g < lo) : AdX base g w' a := fun b off e => by
 obtain ⟨h1, h2⟩ := h b off e
 omega
def AdQX (base g : Nat) (w : World) (y : Qm) : Prop := AdX base g w y.ia ∧ (∀ z ∈ y.items, AdX base g w z.a) ∧ AdX base g w y.wa ∧ AdX base g w y.ra ∧ ∀ z ∈ y.ret, AdX base g w z.a
theorem AdQ.x {lo base g : Nat} {w w' : World} {y : Qm} (h : AdQ lo w y) (hb : base ≤ lo) (hw : w.heap.size ≤ w'.heap.size) (hg : w.heap.size ≤ g ∨ g < lo) : AdQX base g w' y :=
 ⟨h.1.x hb hw hg, fun z hz => (h.2.1 z hz).x hb hw hg, h.2.2.1.x hb hw hg, h.2.2.2.1.x hb hw hg, fun z hz => (h.2.2.2.2 z hz).x hb hw hg⟩
theorem RdQ.sto {W W' W2 : World} {base g : Nat} {t : TypeId} {cs : List Value} {y : Qm} (h : RdQ W y) (hs : Sto W g t cs W') (ha : AdQX base g W2 y) : RdQ W' y :=
 ⟨⟨hs.rd h.1.1 ha.1.ne, fun z hz => hs.rd (h.1.2 z hz) (ha.2.1 z hz).ne⟩, hs.rd h.2.1 ha.2.2.1.ne, ⟨hs.rd h.2.2.1 ha.2.2.2.1.ne, fun z hz => hs.rd (h.2.2.2 z hz) (ha.2.2.2.2 z hz).ne⟩⟩
theorem RdQ.frv {W W' W2 : World} {base g : Nat} {v' : Value} {y : Qm} (h : RdQ W y) (hs : FrV g (.slice none 0 0) W v' W') (ha : AdQX base g W2 y) : RdQ W' y :=
 ⟨⟨rd_frv h.1.1 ha.1.ne hs, fun z hz => rd_frv (h.1.2 z hz) (ha.2.1 z hz).ne hs⟩, rd_frv h.2.1 ha.2.2.1.ne hs, ⟨rd_frv h.2.2.1 ha.2.2.2.1.ne hs, fun z hz => rd_frv (h.2.2.2 z hz) (ha.2.2.2.2 z hz).ne hs⟩⟩
theorem blk_frv {g k : Nat} {t : TypeId} {cs : List Value} {v' : Value} {W W' : World} (h : Blk W k t cs) (hk : k ≠ g) (hf : FrV g (.slice none 0 0) W v' W') : Blk W' k t cs := by
 unfold Blk
 rw [(hf.2 k h.lt hk (by simp [Value.ownBlock])).1]
 exact h
theorem mem_of_map {α β : Type} {f : α → β} {l1 l2 : List α} (h : l1.map f = l2.map f) : ∀ z ∈ l1, ∃ z' ∈ l2, f z' = f z := fun z hz => by
 have h1 : f z ∈ l1.map f := List.mem_map_of_mem hz
 rw [h] at h1
 obtain ⟨z', h2, h3⟩ := List.mem_map.1 h1
 exact ⟨z', h2, h3⟩
def tsub (y : Tp) : List (Option Addr × List Value) := [(y.a, y.attrs.map T)]
def msub (y : Mm) : List (Option Addr × List Value) := [(y.na, y.m.names.flatMap nmc), (y.la, y.m.lens.map Z), (y.va, y.m.vals.flatMap vlc)]
set_option maxHeartbeats 4000000 in
set_option maxRecDepth 20000 in
theorem twin_any (x : Stm) (w : World) (h : RdSt w x) (hb : StB x) (hat : ∀ t ∈ x.types, t.attrs.length ≤ 1048576) :
  Calls Tryz.prog 5 #[.agg (stc x).toArray] w fun e w' => ∃ y : Stm, e = .returned (.agg (stc y).toArray) ∧ RdSt w' y ∧ SameSt x y ∧ StB y ∧ Below w.heap.size w w' := by
 obtain ⟨w0, hw0⟩ : ∃ w0, w0 = (w.alloc (.cells (stc x).toArray 36)).alloc (.cells #[.slice none 0 0, .slice none 0 0, .int .i64 0, .int .i64 0, .slice none 0 0, .int .i64 0, .string ⟨#[]⟩, .slice none 0 0, .int .i64 0, .int .i64 0, .bool false, .slice none 0 0, .slice none 0 0, .slice none 0 0, .slice none 0 0] 36) := ⟨_, rfl⟩
 have hE : Blk w0 w.heap.size 36 (stc x) := by rw [hw0]; exact (Blk.new w _ 36).below (bal (Below.refl _ _) (Nat.le_refl _) _)
 have HZ := Lib.hid (show Blk w0 (w.heap.size + 1) 36 [.slice none 0 0, .slice none 0 0, .int .i64 0, .int .i64 0, .slice none 0 0, .int .i64 0, .string ⟨#[]⟩, .slice none 0 0, .int .i64 0, .int .i64 0, .bool false, .slice none 0 0, .slice none 0 0, .slice none 0 0, .slice none 0 0] by
  have h := Blk.new (w.alloc (.cells (stc x).toArray 36)) [.slice none 0 0, .slice none 0 0, .int .i64 0, .int .i64 0, .slice none 0 0, .int .i64 0, .string ⟨#[]⟩, .slice none 0 0, .int .i64 0, .int .i64 0, .bool false, .slice none 0 0, .slice none 0 0, .slice none 0 0, .slice none 0 0] 36
  rw [World.size_alloc] at h
  rw [hw0]; exact h)
 have HB0 := Lib.hid (show Below w.heap.size w w0 by rw [hw0]; exact bal (bal (Below.refl _ _) (Nat.le_refl _) _) (Nat.le_refl _) _)
 have HR := Lib.hid (h.below HB0.out)
 have HTQ := Lib.hid (fun W (hW : Below w0.heap.size w0 W) => twinQuery_any x.q W (HR.out.below hW).q hb.qb)
 have HTH := Lib.hid (fun W (hW : Below w0.heap.size w0 W) => twinEvents_any x.ha x.hc x.held.length x.held W rfl hb.hl (HR.out.below hW).held)
 have HTK := Lib.hid (fun W (hW : Below w0.heap.size w0 W) => twinEvents_any x.ka x.kc x.kept.length x.kept W rfl hb.kl (HR.out.below hW).kept)
 have HTU := Lib.hid (fun W (hW : Below w0.heap.size w0 W) => twinNames_any x.ua x.uc x.used.length x.used W rfl hb.ul (HR.out.below hW).used)
 have HSB := Lib.hid hb
 have HAT := Lib.hid hat
 obtain ⟨types, ta, tc, ⟨items, ia, ic, mode, after, wher, wwa, wcap, within, by_, ret, ra, rc⟩, cap, mark, closed, held, ha, hc, kept, ka, kc, waiting, wa, wc', used, ua, uc⟩ := x
 obtain ⟨nt, hnt⟩ : ∃ n, n = types.length := ⟨_, rfl⟩
 obtain ⟨ni, hni⟩ : ∃ n, n = items.length := ⟨_, rfl⟩
 obtain ⟨nwh, hnwh⟩ : ∃ n, n = wher.length := ⟨_, rfl⟩
 obtain ⟨nr, hnr⟩ : ∃ n, n = ret.length := ⟨_, rfl⟩
 obtain ⟨nh, hnh⟩ : ∃ n, n = held.length := ⟨_, rfl⟩
 obtain ⟨nk, hnk⟩ : ∃ n, n = kept.length := ⟨_, rfl⟩
 obtain ⟨nw, hnw⟩ : ∃ n, n = waiting.length := ⟨_, rfl⟩
 obtain ⟨nu, hnu⟩ : ∃ n, n = used.length := ⟨_, rfl⟩
 dsimp only at HTQ HTH HTK HTU
 simp only [stc, T, ← hnt, ← hni, ← hnwh, ← hnr, ← hnh, ← hnk, ← hnw, ← hnu] at hE hw0 HTH HTK HTU ⊢
 have HNT := Lib.hid hnt
 have HNI := Lib.hid hni
 have HNWH := Lib.hid hnwh
 have HNR := Lib.hid hnr
 have HNH := Lib.hid hnh
 have HNK := Lib.hid hnk
 have HNW := Lib.hid hnw
 have HNU := Lib.hid hnu
 have HTQ := Lib.hid (show ∀ W, Below w0.heap.size w0 W → Calls Tryz.prog 12 #[.agg #[.slice ia ni ic, .int .i64 mode, .int .i64 after, .slice wwa nwh wcap, .int .i64 within, .string ⟨by_.toArray⟩, .slice ra nr rc]] W (fun e W' => ∃ (items2 : List Im) (ia2 : Option Addr) (ic2 : Nat) (wwa2 : Option Addr) (wcap2 : Nat) (ret2 : List Tr) (ra2 : Option Addr) (rc2 : Nat), e = .returned (.agg #[.slice ia2 ni ic2, .int .i64 mode, .int .i64 after, .slice wwa2 nwh wcap2, .int .i64 within, .string ⟨by_.toArray⟩, .slice ra2 nr rc2]) ∧ items2.map (·.i) = items.map (·.i) ∧ ret2.map (·.t) = ret.map (·.t) ∧ RdQ W' ⟨items2, ia2, ic2, mode, after, wher, wwa2, wcap2, within, by_, ret2, ra2, rc2⟩ ∧ AdQ W.heap.size W' ⟨items2, ia2, ic2, mode, after, wher, wwa2, wcap2, within, by_, ret2, ra2, rc2⟩ ∧ Below W.heap.size W W') from fun W hW => by
  have h := HTQ.out W hW
  simp only [qmc, T, ← hni, ← hnwh, ← hnr] at h
  refine h.mono ?_
  rintro e W' ⟨⟨items2, ia2, ic2, mode2, after2, wher2, wwa2, wcap2, within2, by2, ret2, ra2, rc2⟩, rfl, hq, h1, h2, h3⟩
  simp only [Qm.q, Qy.mk.injEq] at hq
  obtain ⟨q1, rfl, rfl, rfl, rfl, rfl, q2⟩ := hq
  have e1 : items2.length = ni := by rw [hni]; have h := congrArg List.length q1; simpa using h
  have e2 : ret2.length = nr := by rw [hnr]; have h := congrArg List.length q2; simpa using h
  exact ⟨items2, ia2, ic2, wwa2, wcap2, ret2, ra2, rc2, by dsimp only; rw [e1, e2, ← hnwh], q1, q2, h1, h2, h3⟩)
 have HTH := Lib.hid (show ∀ W, Below w0.heap.size w0 W → Calls Tryz.prog 13 #[.slice ha nh hc] W (fun e W' => ∃ a c, e = .returned (.slice a nh c) ∧ RdE W' a held ∧ Ad W.heap.size W' a ∧ Below W.heap.size W W') from fun W hW => (HTH.out W hW).mono fun e W' ⟨a, c, h1, h2, h3⟩ => ⟨a, c, h1, ⟨ownsRow_rd h2, HR.out.held.2⟩, own_ad h2, h3⟩)
 have HTK := Lib.hid (show ∀ W, Below w0.heap.size w0 W → Calls Tryz.prog 13 #[.slice ka nk kc] W (fun e W' => ∃ a c, e = .returned (.slice a nk c) ∧ RdE W' a kept ∧ Ad W.heap.size W' a ∧ Below W.heap.size W W') from fun W hW => (HTK.out W hW).mono fun e W' ⟨a, c, h1, h2, h3⟩ => ⟨a, c, h1, ⟨ownsRow_rd h2, HR.out.kept.2⟩, own_ad h2, h3⟩)
 have HTU := Lib.hid (show ∀ W, Below w0.heap.size w0 W → Calls Tryz.prog 14 #[.slice ua nu uc] W (fun e W' => ∃ a c, e = .returned (.slice a nu c) ∧ RdNm W' a used ∧ Ad W.heap.size W' a ∧ Below W.heap.size W W') from fun W hW => (HTU.out W hW).mono fun e W' ⟨a, c, h1, h2, h3⟩ => ⟨a, c, h1, ownsRow_rd h2, own_ad h2, h3⟩)
 have HE := Lib.hid (show Blk w0 w.heap.size 36 [.slice ta nt tc, .slice ia ni ic, .int .i64 mode, .int .i64 after, .slice wwa nwh wcap, .int .i64 within, .string ⟨by_.toArray⟩, .slice ra nr rc, .int .i64 cap, .int .i64 mark, .bool closed, .slice ha nh hc, .slice ka nk kc, .slice wa nw wc', .slice ua nu uc] from hE)
 clear hE hnt hni hnwh hnr hnh hnk hnw hnu h hb hat
 go_enter Tryz.func5, Tryz.ntmps5
 go_upto_region 1 with fail
 rw [← hw0]
 clear hw0
 have HS := Lib.hid (fun W (hW : Below w0.heap.size w0 W) => show W.cell? ⟨w.heap.size, 1, none⟩ = some (.slice ia ni ic) ∧ W.cell? ⟨w.heap.size, 2, none⟩ = some (.int .i64 mode) ∧ W.cell? ⟨w.heap.size, 3, none⟩ = some (.int .i64 after) ∧ W.cell? ⟨w.heap.size, 4, none⟩ = some (.slice wwa nwh wcap) ∧ W.cell? ⟨w.heap.size, 5, none⟩ = some (.int .i64 within) ∧ W.cell? ⟨w.heap.size, 6, none⟩ = some (.string ⟨by_.toArray⟩) ∧ W.cell? ⟨w.heap.size, 7, none⟩ = some (.slice ra nr rc) ∧ W.cell? ⟨w.heap.size, 8, none⟩ = some (.int .i64 cap) ∧ W.cell? ⟨w.heap.size, 9, none⟩ = some (.int .i64 mark) ∧ W.cell? ⟨w.heap.size, 10, none⟩ = some (.bool closed) ∧ W.cell? ⟨w.heap.size, 11, none⟩ = some (.slice ha nh hc) ∧ W.cell? ⟨w.heap.size, 12, none⟩ = some (.slice ka nk kc) ∧ W.cell? ⟨w.heap.size, 14, none⟩ = some (.slice ua nu uc) from ⟨(HE.out.below hW).ci 1 rfl, (HE.out.below hW).ci 2 rfl, (HE.out.below hW).ci 3 rfl, (HE.out.below hW).ci 4 rfl, (HE.out.below hW).ci 5 rfl, (HE.out.below hW).ci 6 rfl, (HE.out.below hW).ci 7 rfl, (HE.out.below hW).ci 8 rfl, (HE.out.below hW).ci 9 rfl, (HE.out.below hW).ci 10 rfl, (HE.out.below hW).ci 11 rfl, (HE.out.below hW).ci 12 rfl, (HE.out.below hW).ci 14 rfl⟩)
 go_cut [3] from 12 (fun v wx => ∃ (g : Nat) (items2 : List Im) (ia2 : Option Addr) (ic2 : Nat) (wwa2 : Option Addr) (wcap2 : Nat) (ret2 : List Tr) (ra2 : Option Addr) (rc2 : Nat) (ha2 : Option Addr) (hc2 : Nat) (ka2 : Option Addr) (kc2 : Nat) (ua2 : Option Addr) (uc2 : Nat), v = .pointer (some ⟨g, 0, none⟩) ∧ w0.heap.size ≤ g ∧ Blk wx g 36 [.slice none 0 0, .slice ia2 ni ic2, .int .i64 mode, .int .i64 after, .slice wwa2 nwh wcap2, .int .i64 within, .string ⟨by_.toArray⟩, .slice ra2 nr rc2, .int .i64 cap, .int .i64 mark, .bool closed, .slice ha2 nh hc2, .slice ka2 nk kc2, .slice none 0 0, .slice ua2 nu uc2] ∧ Below w0.heap.size w0 wx ∧ items2.map (·.i) = items.map (·.i) ∧ ret2.map (·.t) = ret.map (·.t) ∧ RdQ wx ⟨items2, ia2, ic2, mode, after, wher, wwa2, wcap2, within, by_, ret2, ra2, rc2⟩ ∧ AdQX w0.heap.size g wx ⟨items2, ia2, ic2, mode, after, wher, wwa2, wcap2, within, by_, ret2, ra2, rc2⟩ ∧ RdE wx ha2 held ∧ AdX w0.heap.size g wx ha2 ∧ RdE wx ka2 kept ∧ AdX w0.heap.size g wx ka2 ∧ RdNm wx ua2 used ∧ AdX w0.heap.size g wx ua2)
 case first =>
  refine wp_region_held_drew (S := fun W => W.cell? ⟨w.heap.size, 1, none⟩ = some (.slice ia ni ic) ∧ W.cell? ⟨w.heap.size, 2, none⟩ = some (.int .i64 mode) ∧ W.cell? ⟨w.heap.size, 3, none⟩ = some (.int .i64 after) ∧ W.cell? ⟨w.heap.size, 4, none⟩ = some (.slice wwa nwh wcap) ∧ W.cell? ⟨w.heap.size, 5, none⟩ = some (.int .i64 within) ∧ W.cell? ⟨w.heap.size, 6, none⟩ = some (.string ⟨by_.toArray⟩) ∧ W.cell? ⟨w.heap.size, 7, none⟩ = some (.slice ra nr rc) ∧ W.cell? ⟨w.heap.size, 8, none⟩ = some (.int .i64 cap) ∧ W.cell? ⟨w.heap.size, 9, none⟩ = some (.int .i64 mark) ∧ W.cell? ⟨w.heap.size, 10, none⟩ = some (.bool closed) ∧ W.cell? ⟨w.heap.size, 11, none⟩ = some (.slice ha nh hc) ∧ W.cell? ⟨w.heap.size, 12, none⟩ = some (.slice ka nk kc) ∧ W.cell? ⟨w.heap.size, 14, none⟩ = some (.slice ua nu uc)) (by kernel_rfl) (HS.out _ (Below.refl _ _).drew) (fun hHeld => ?_)
  refine wpAnyH_take (i := 0) (oi := ⟨some 12, .fieldAddr 36 (.tmp 1) 1, 0, "law.go:218", #[], none⟩) (v := .pointer (some ⟨w.heap.size, 1, none⟩)) rfl (by kernel_rfl) (by kernel_rfl) (by kernel_rfl) (fun _ _ _ h => h) (.inl ⟨by rfl, ?_⟩) (by assumption) ?_
  ·intro w hSw; (try dsimp only at hSw); go_simp; all_goals (with_reducible rfl)
  try simp only [Act.put, sv_a, sv_0, sv_1]
  refine wpAnyH_take (i := 1) (oi := ⟨some 13, .load 31 (.tmp 12), 31, "law.go:218", #[⟨0, .data⟩], none⟩) (v := .agg #[.slice ia ni ic, .int .i64 mode, .int .i64 after, .slice wwa nwh wcap, .int .i64 within, .string ⟨by_.toArray⟩, .slice ra nr rc]) rfl (by kernel_rfl) (by kernel_rfl) (by kernel_rfl) (fun _ _ _ h => h) (.inl ⟨by rfl, ?_⟩) (by assumption) ?_
  ·intro w hSw; (try dsimp only at hSw); go_simp; all_goals (with_reducible rfl)
  try simp only [Act.put, sv_a, sv_0, sv_1]
  refine wpAnyH_take (i := 3) (oi := ⟨some 15, .fieldAddr 36 (.tmp 1) 2, 0, "law.go:218", #[], none⟩) (v := .pointer (some ⟨w.heap.size, 8, none⟩)) rfl (by kernel_rfl) (by kernel_rfl) (by kernel_rfl) (fun _ _ _ h => h) (.inl ⟨by rfl, ?_⟩) (by assumption) ?_
  ·intro w hSw; (try dsimp only at hSw); go_simp; all_goals (with_reducible rfl)
  try simp only [Act.put, sv_a, sv_0, sv_1]
  refine wpAnyH_take (i := 4) (oi := ⟨some 16, .load 3 (.tmp 15), 3, "law.go:218", #[⟨3, .data⟩], none⟩) (v := .int .i64 cap) rfl (by kernel_rfl) (by kernel_rfl) (by kernel_rfl) (fun _ _ _ h => h) (.inl ⟨by rfl, ?_⟩) (by assumption) ?_
  ·intro w hSw; (try dsimp only at hSw); go_simp; all_goals (with_reducible rfl)
  try simp only [Act.put, sv_a, sv_0, sv_1]
  refine wpAnyH_take (i := 5) (oi := ⟨some 17, .fieldAddr 36 (.tmp 1) 3, 0, "law.go:218", #[], none⟩) (v := .pointer (some ⟨w.heap.size, 9, none⟩)) rfl (by kernel_rfl) (by kernel_rfl) (by kernel_rfl) (fun _ _ _ h => h) (.inl ⟨by rfl, ?_⟩) (by assumption) ?_
  ·intro w hSw; (try dsimp only at hSw); go_simp; all_goals (with_reducible rfl)
  try simp only [Act.put, sv_a, sv_0, sv_1]
  refine wpAnyH_take (i := 6) (oi := ⟨some 18, .load 2 (.tmp 17), 2, "law.go:218", #[⟨5, .data⟩], none⟩) (v := .int .i64 mark) rfl (by kernel_rfl) (by kernel_rfl) (by kernel_rfl) (fun _ _ _ h => h) (.inl ⟨by rfl, ?_⟩) (by assumption) ?_
  ·intro w hSw; (try dsimp only at hSw); go_simp; all_goals (with_reducible rfl)
  try simp only [Act.put, sv_a, sv_0, sv_1]
  refine wpAnyH_take (i := 7) (oi := ⟨some 19, .fieldAddr 36 (.tmp 1) 4, 0, "law.go:218", #[], none⟩) (v := .pointer (some ⟨w.heap.size, 10, none⟩)) rfl (by kernel_rfl) (by kernel_rfl) (by kernel_rfl) (fun _ _ _ h => h) (.inl ⟨by rfl, ?_⟩) (by assumption) ?_
  ·intro w hSw; (try dsimp only at hSw); go_simp; all_goals (with_reducible rfl)
  try simp only [Act.put, sv_a, sv_0, sv_1]
  refine wpAnyH_take (i := 8) (oi := ⟨some 20, .load 4 (.tmp 19), 4, "law.go:218", #[⟨7, .data⟩], none⟩) (v := .bool closed) rfl (by kernel_rfl) (by kernel_rfl) (by kernel_rfl) (fun _ _ _ h => h) (.inl ⟨by rfl, ?_⟩) (by assumption) ?_
  ·intro w hSw; (try dsimp only at hSw); go_simp; all_goals (with_reducible rfl)
  try simp only [Act.put, sv_a, sv_0, sv_1]
  refine wpAnyH_take (i := 9) (oi := ⟨some 21, .fieldAddr 36 (.tmp 1) 5, 0, "law.go:218", #[], none⟩) (v := .pointer (some ⟨w.heap.size, 11, none⟩)) rfl (by kernel_rfl) (by kernel_rfl) (by kernel_rfl) (fun _ _ _ h => h) (.inl ⟨by rfl, ?_⟩) (by assumption) ?_
  ·intro w hSw; (try dsimp only at hSw); go_simp; all_goals (with_reducible rfl)
  try simp only [Act.put, sv_a, sv_0, sv_1]
  refine wpAnyH_take (i := 10) (oi := ⟨some 22, .load 32 (.tmp 21), 32, "law.go:218", #[⟨9, .data⟩], none⟩) (v := .slice ha nh hc) rfl (by kernel_rfl) (by kernel_rfl) (by kernel_rfl) (fun _ _ _ h => h) (.inl ⟨by rfl, ?_⟩) (by assumption) ?_
  ·intro w hSw; (try dsimp only at hSw); go_simp; all_goals (with_reducible rfl)
  try simp only [Act.put, sv_a, sv_0, sv_1]
  refine wpAnyH_take (i := 12) (oi := ⟨some 24, .fieldAddr 36 (.tmp 1) 6, 0, "law.go:218", #[], none⟩) (v := .pointer (some ⟨w.heap.size, 12, none⟩)) rfl (by kernel_rfl) (by kernel_rfl) (by kernel_rfl) (fun _ _ _ h => h) (.inl ⟨by rfl, ?_⟩) (by assumption) ?_
  ·intro w hSw; (try dsimp only at hSw); go_simp; all_goals (with_reducible rfl)
  try simp only [Act.put, sv_a, sv_0, sv_1]
  refine wpAnyH_take (i := 13) (oi := ⟨some 25, .load 32 (.tmp 24), 32, "law.go:218", #[⟨12, .data⟩], none⟩) (v := .slice ka nk kc) rfl (by kernel_rfl) (by kernel_rfl) (by kernel_rfl) (fun _ _ _ h => h) (.inl ⟨by rfl, ?_⟩) (by assumption) ?_
  ·intro w hSw; (try dsimp only at hSw); go_simp; all_goals (with_reducible rfl)
  try simp only [Act.put, sv_a, sv_0, sv_1]
  refine wpAnyH_take (i := 15) (oi := ⟨some 27, .fieldAddr 36 (.tmp 1) 8, 0, "law.go:218", #[], none⟩) (v := .pointer (some ⟨w.heap.size, 14, none⟩)) rfl (by kernel_rfl) (by kernel_rfl) (by kernel_rfl) (fun _ _ _ h => h) (.inl ⟨by rfl, ?_⟩) (by assumption) ?_
  ·intro w hSw; (try dsimp only at hSw); go_simp; all_goals (with_reducible rfl)
  try simp only [Act.put, sv_a, sv_0, sv_1]
  refine wpAnyH_take (i := 16) (oi := ⟨some 28, .load 34 (.tmp 27), 34, "law.go:218", #[⟨15, .data⟩], none⟩) (v := .slice ua nu uc) rfl (by kernel_rfl) (by kernel_rfl) (by kernel_rfl) (fun _ _ _ h => h) (.inl ⟨by rfl, ?_⟩) (by assumption) ?_
  ·intro w hSw; (try dsimp only at hSw); go_simp; all_goals (with_reducible rfl)
  try simp only [Act.put, sv_a, sv_0, sv_1]
  have HBQ := Lib.hid (show Below w0.heap.size w0 w0.drew from (Below.refl _ _).drew)
  refine wpAnyH_ready (rs := [2, 19]) (by kernel_rfl) (by simp) ?_
  refine AllReadyH.cons (o := ⟨some 14, .call { callee := .value (.func 12), args := #[.tmp 13], argTypes := #[31] }, 31, "law.go:218", #[⟨1, .data⟩], none⟩) rfl (fun K hK => ?_) (AllReadyH.cons (o := ⟨some 3, .alloc 36, 0, "law.go:218", #[], none⟩) rfl (fun K hK => ?_) AllReadyH.nil)
  ·go_simp
   go_at_call 12
   refine (HTQ.out _ HBQ.out).mono ?_
   rintro e U1 ⟨items2, ia2, ic2, wwa2, wcap2, ret2, ra2, rc2, rfl, hq1, hq2, hq3, hq4, hb⟩
   have HQ1 := Lib.hid hq1
   have HQ2 := Lib.hid hq2
   clear hq1 hq2
   have HR0 := Lib.hid hq3
   have HA0 := Lib.hid hq4
   have HB0 := Lib.hid (HBQ.out.size)
   have HS0 := Lib.hid (Nat.le_refl U1.heap.size)
   have HBQ := Lib.hid (HBQ.out.trans (hb.mono HBQ.out.size))
   clear hq3 hq4 hb
   go_wp2_with fail
   refine hK.out _ _ (HS.out _ HBQ.out) (fun hHeld => ?_)
   clear hK K
   try simp only [Act.put, sv_a, sv_0, sv_1]
   refine wpAnyH_ready (rs := [11, 19]) (by kernel_rfl) (by simp) ?_
   refine AllReadyH.cons (o := ⟨some 23, .call { callee := .value (.func 13), args := #[.tmp 22], argTypes := #[32] }, 32, "law.go:218", #[⟨10, .data⟩, ⟨2, .chain⟩], none⟩) rfl (fun K hK => ?_) (AllReadyH.cons (o := ⟨some 3, .alloc 36, 0, "law.go:218", #[], none⟩) rfl (fun K hK => ?_) AllReadyH.nil)
   ·go_simp
    go_at_call 13
    refine (HTH.out _ HBQ.out).mono ?_
    rintro e U2 ⟨ha2, hc2, rfl, hq3, hq4, hb⟩
    have HR0 := Lib.hid (HR0.out.below hb)
    have HS0 := Lib.hid (Nat.le_trans HS0.out (hb).size)
    have HR1 := Lib.hid hq3
    have HA1 := Lib.hid hq4
    have HB1 := Lib.hid (HBQ.out.size)
    have HS1 := Lib.hid (Nat.le_refl U2.heap.size)
    have HBQ := Lib.hid (HBQ.out.trans (hb.mono HBQ.out.size))
    clear hq3 hq4 hb
    go_wp2_with fail
    refine hK.out _ _ (HS.out _ HBQ.out) (fun hHeld => ?_)
    clear hK K
    try simp only [Act.put, sv_a, sv_0, sv_1]
    refine wpAnyH_ready (rs := [14, 19]) (by kernel_rfl) (by simp) ?_
    refine AllReadyH.cons (o := ⟨some 26, .call { callee := .value (.func 13), args := #[.tmp 25], argTypes := #[32] }, 32, "law.go:218", #[⟨13, .data⟩, ⟨11, .chain⟩], none⟩) rfl (fun K hK => ?_) (AllReadyH.cons (o := ⟨some 3, .alloc 36, 0, "law.go:218", #[], none⟩) rfl (fun K hK => ?_) AllReadyH.nil)
    ·go_simp
     go_at_call 13
     refine (HTK.out _ HBQ.out).mono ?_
     rintro e U3 ⟨ka2, kc2, rfl, hq3, hq4, hb⟩
     have HR0 := Lib.hid (HR0.out.below hb)
     have HS0 := Lib.hid (Nat.le_trans HS0.out (hb).size)
     have HR1 := Lib.hid (HR1.out.below hb)
     have HS1 := Lib.hid (Nat.le_trans HS1.out (hb).size)
     have HR2 := Lib.hid hq3
     have HA2 := Lib.hid hq4
     have HB2 := Lib.hid (HBQ.out.size)
     have HS2 := Lib.hid (Nat.le_refl U3.heap.size)
     have HBQ := Lib.hid (HBQ.out.trans (hb.mono HBQ.out.size))
     clear hq3 hq4 hb
     go_wp2_with fail
     refine hK.out _ _ (HS.out _ HBQ.out) (fun hHeld => ?_)
     clear hK K
     try simp only [Act.put, sv_a, sv_0, sv_1]
     refine wpAnyH_ready (rs := [17, 19]) (by kernel_rfl) (by simp) ?_
     refine AllReadyH.cons (o := ⟨some 29, .call { callee := .value (.func 14), args := #[.tmp 28], argTypes := #[34] }, 34, "law.go:218", #[⟨16, .data⟩, ⟨14, .chain⟩], none⟩) rfl (fun K hK => ?_) (AllReadyH.cons (o := ⟨some 3, .alloc 36, 0, "law.go:218", #[], none⟩) rfl (fun K hK => ?_) AllReadyH.nil)
     ·go_simp
      go_at_call 14
      refine (HTU.out _ HBQ.out).mono ?_
      rintro e U4 ⟨ua2, uc2, rfl, hq3, hq4, hb⟩
      have HR0 := Lib.hid (HR0.out.below hb)
      have HS0 := Lib.hid (Nat.le_trans HS0.out (hb).size)
      have HR1 := Lib.hid (HR1.out.below hb)
      have HS1 := Lib.hid (Nat.le_trans HS1.out (hb).size)
      have HR2 := Lib.hid (HR2.out.below hb)
      have HS2 := Lib.hid (Nat.le_trans HS2.out (hb).size)
      have HR3 := Lib.hid hq3
      have HA3 := Lib.hid hq4
      have HB3 := Lib.hid (HBQ.out.size)
      have HS3 := Lib.hid (Nat.le_refl U4.heap.size)
      have HBQ := Lib.hid (HBQ.out.trans (hb.mono HBQ.out.size))
      clear hq3 hq4 hb
      go_wp2_with fail
      refine hK.out _ _ (HS.out _ HBQ.out) (fun hHeld => ?_)
      clear hK K
      try simp only [Act.put, sv_a, sv_0, sv_1]
      refine wpAnyH_take (i := 18) (oi := ⟨some 30, .build 36 #[(1, .tmp 14), (2, .tmp 16), (3, .tmp 18), (4, .tmp 20), (5, .tmp 23), (6, .tmp 26), (8, .tmp 29)], 36, "law.go:218", #[⟨2, .data⟩, ⟨4, .data⟩, ⟨6, .data⟩, ⟨8, .data⟩, ⟨11, .data⟩, ⟨14, .data⟩, ⟨17, .data⟩], none⟩) (v := .agg ([.slice none 0 0, .slice ia2 ni ic2, .int .i64 mode, .int .i64 after, .slice wwa2 nwh wcap2, .int .i64 within, .string ⟨by_.toArray⟩, .slice ra2 nr rc2, .int .i64 cap, .int .i64 mark, .bool closed, .slice ha2 nh hc2, .slice ka2 nk kc2, .slice none 0 0, .slice ua2 nu uc2] : List Value).toArray) rfl (by kernel_rfl) (by kernel_rfl) (by kernel_rfl) (fun _ _ _ h => h) (.inl ⟨by rfl, ?_⟩) (by assumption) ?_
      ·intro w hSw; (try dsimp only at hSw); go_simp; all_goals (with_reducible rfl)
      try simp only [Act.put, sv_a, sv_0, sv_1]
      refine wpAnyH_ready (rs := [19]) (by kernel_rfl) (by simp) ?_
      refine AllReadyH.cons (o := ⟨some 3, .alloc 36, 0, "law.go:218", #[], none⟩) rfl (fun K hK => ?_) AllReadyH.nil
      go_simp
      obtain ⟨U5, hU⟩ : ∃ u, u = (U4).alloc (.cells #[.slice none 0 0, .slice none 0 0, .int .i64 0, .int .i64 0, .slice none 0 0, .int .i64 0, .string ⟨#[]⟩, .slice none 0 0, .int .i64 0, .int .i64 0, .bool false, .slice none 0 0, .slice none 0 0, .slice none 0 0, .slice none 0 0] 36) := ⟨_, rfl⟩
      obtain ⟨g, hg⟩ : ∃ g, g = U4.heap.size := ⟨_, rfl⟩
      have HG := Lib.hid (show Blk U5 g 36 [.slice none 0 0, .slice none 0 0, .int .i64 0, .int .i64 0, .slice none 0 0, .int .i64 0, .string ⟨#[]⟩, .slice none 0 0, .int .i64 0, .int .i64 0, .bool false, .slice none 0 0, .slice none 0 0, .slice none 0 0, .slice none 0 0] by rw [hU, hg]; exact Blk.new (U4) [.slice none 0 0, .slice none 0 0, .int .i64 0, .int .i64 0, .slice none 0 0, .int .i64 0, .string ⟨#[]⟩, .slice none 0 0, .int .i64 0, .int .i64 0, .bool false, .slice none 0 0, .slice none 0 0, .slice none 0 0, .slice none 0 0] 36)
      have hb : Below (U4).heap.size (U4) U5 := by rw [hU]; exact bal (Below.refl _ _) (Nat.le_refl _) _
      have HGE := Lib.hid (show w0.heap.size ≤ g by rw [hg]; exact HBQ.out.size)
      first | rw [← hU] | rw [show (w0.alloc (.cells #[.slice none 0 0, .slice none 0 0, .int .i64 0, .int .i64 0, .slice none 0 0, .int .i64 0, .string ⟨#[]⟩, .slice none 0 0, .int .i64 0, .int .i64 0, .bool false, .slice none 0 0, .slice none 0 0, .slice none 0 0, .slice none 0 0] 36)).drew = U5 from hU.symm]
      first | rw [← hg] | skip
      have HO0 := Lib.hid (show U1.heap.size ≤ g ∨ g < (w0.drew).heap.size from Or.inl (by rw [hg]; exact HS0.out))
      have HO1 := Lib.hid (show U2.heap.size ≤ g ∨ g < (U1).heap.size from Or.inl (by rw [hg]; exact HS1.out))
      have HO2 := Lib.hid (show U3.heap.size ≤ g ∨ g < (U2).heap.size from Or.inl (by rw [hg]; exact HS2.out))
      have HO3 := Lib.hid (show U4.heap.size ≤ g ∨ g < (U3).heap.size from Or.inl (by rw [hg]; exact HS3.out))
      have HR0 := Lib.hid (HR0.out.below hb)
      have HS0 := Lib.hid (Nat.le_trans HS0.out (hb).size)
      have HR1 := Lib.hid (HR1.out.below hb)
      have HS1 := Lib.hid (Nat.le_trans HS1.out (hb).size)
      have HR2 := Lib.hid (HR2.out.below hb)
      have HS2 := Lib.hid (Nat.le_trans HS2.out (hb).size)
      have HR3 := Lib.hid (HR3.out.below hb)
      have HS3 := Lib.hid (Nat.le_trans HS3.out (hb).size)
      have HBQ := Lib.hid (HBQ.out.trans (hb.mono HBQ.out.size))
      clear hU hg hb
      refine hK.out _ _ (HS.out _ HBQ.out) (fun hHeld => ?_)
      clear hK K
      try simp only [Act.put, sv_a, sv_0, sv_1]
      have hth := HG.out.there 0 15 (Nat.le_refl _)
      have HST := Lib.hid (blk_over HG.out [.slice none 0 0, .slice ia2 ni ic2, .int .i64 mode, .int .i64 after, .slice wwa2 nwh wcap2, .int .i64 within, .string ⟨by_.toArray⟩, .slice ra2 nr rc2, .int .i64 cap, .int .i64 mark, .bool closed, .slice ha2 nh hc2, .slice ka2 nk kc2, .slice none 0 0, .slice ua2 nu uc2] rfl)
      refine wpAnyH_ready (rs := [20]) (by kernel_rfl) (by simp) ?_
      refine AllReadyH.cons (o := ⟨none, .store 36 (.tmp 3) (.tmp 30), 0, "law.go:218", #[⟨19, .data⟩, ⟨18, .data⟩, ⟨17, .chain⟩, ⟨0, .phase⟩, ⟨1, .phase⟩, ⟨2, .phase⟩, ⟨3, .phase⟩, ⟨4, .phase⟩, ⟨5, .phase⟩, ⟨6, .phase⟩, ⟨7, .phase⟩, ⟨8, .phase⟩, ⟨9, .phase⟩, ⟨10, .phase⟩, ⟨11, .phase⟩, ⟨12, .phase⟩, ⟨13, .phase⟩, ⟨14, .phase⟩, ⟨15, .phase⟩, ⟨16, .phase⟩, ⟨17, .phase⟩, ⟨18, .phase⟩, ⟨19, .phase⟩], none⟩) rfl (fun K hK => ?_) AllReadyH.nil
      rw [if_pos (by rfl)]
      refine wp_store_mid 36 _ _ rfl g 0 ([.slice none 0 0, .slice ia2 ni ic2, .int .i64 mode, .int .i64 after, .slice wwa2 nwh wcap2, .int .i64 within, .string ⟨by_.toArray⟩, .slice ra2 nr rc2, .int .i64 cap, .int .i64 mark, .bool closed, .slice ha2 nh hc2, .slice ka2 nk kc2, .slice none 0 0, .slice ua2 nu uc2] : List Value).toArray rfl rfl hth (by kernel_rfl) (by kernel_rfl) ?_
      have HBQ := Lib.hid (HST.out.below HBQ.out (Nat.le_refl _) HGE.out)
      refine hK.out _ _ (HS.out _ HBQ.out) (fun hHeld => ?_)
      clear hK K hth
      try simp only [Act.put]
      refine wpAnyH_done (by kernel_rfl) ?_ _
      go_wp2_with fail
      go_meet
      case rel => exact ⟨g, items2, ia2, ic2, wwa2, wcap2, ret2, ra2, rc2, ha2, hc2, ka2, kc2, ua2, uc2, rfl, HGE.out, HST.out.blk, HBQ.out, HQ1.out, HQ2.out, HR0.out.sto HST.out (HA0.out.x HB0.out (Nat.le_trans HS0.out HST.out.grown.size) HO0.out), HA0.out.x HB0.out (Nat.le_trans HS0.out HST.out.grown.size) HO0.out, ⟨HST.out.rd HR1.out.1 (HA1.out.x HB1.out (Nat.le_trans HS1.out HST.out.grown.size) HO1.out).ne, HR1.out.2⟩, HA1.out.x HB1.out (Nat.le_trans HS1.out HST.out.grown.size) HO1.out, ⟨HST.out.rd HR2.out.1 (HA2.out.x HB2.out (Nat.le_trans HS2.out HST.out.grown.size) HO2.out).ne, HR2.out.2⟩, HA2.out.x HB2.out (Nat.le_trans HS2.out HST.out.grown.size) HO2.out, HST.out.rd HR3.out (HA3.out.x HB3.out (Nat.le_trans HS3.out HST.out.grown.size) HO3.out).ne, HA3.out.x HB3.out (Nat.le_trans HS3.out HST.out.grown.size) HO3.out⟩
     ·go_simp
      obtain ⟨U6, hU⟩ : ∃ u, u = (U3).alloc (.cells #[.slice none 0 0, .slice none 0 0, .int .i64 0, .int .i64 0, .slice none 0 0, .int .i64 0, .string ⟨#[]⟩, .slice none 0 0, .int .i64 0, .int .i64 0, .bool false, .slice none 0 0, .slice none 0 0, .slice none 0 0, .slice none 0 0] 36) := ⟨_, rfl⟩
      obtain ⟨g, hg⟩ : ∃ g, g = U3.heap.size := ⟨_, rfl⟩
      have HG := Lib.hid (show Blk U6 g 36 [.slice none 0 0, .slice none 0 0, .int .i64 0, .int .i64 0, .slice none 0 0, .int .i64 0, .string ⟨#[]⟩, .slice none 0 0, .int .i64 0, .int .i64 0, .bool false, .slice none 0 0, .slice none 0 0, .slice none 0 0, .slice none 0 0] by rw [hU, hg]; exact Blk.new (U3) [.slice none 0 0, .slice none 0 0, .int .i64 0, .int .i64 0, .slice none 0 0, .int .i64 0, .string ⟨#[]⟩, .slice none 0 0, .int .i64 0, .int .i64 0, .bool false, .slice none 0 0, .slice none 0 0, .slice none 0 0, .slice none 0 0] 36)
      have hb : Below (U3).heap.size (U3) U6 := by rw [hU]; exact bal (Below.refl _ _) (Nat.le_refl _) _
      have HGE := Lib.hid (show w0.heap.size ≤ g by rw [hg]; exact HBQ.out.size)
      first | rw [← hU] | rw [show (w0.alloc (.cells #[.slice none 0 0, .slice none 0 0, .int .i64 0, .int .i64 0, .slice none 0 0, .int .i64 0, .string ⟨#[]⟩, .slice none 0 0, .int .i64 0, .int .i64 0, .bool false, .slice none 0 0, .slice none 0 0, .slice none 0 0, .slice none 0 0] 36)).drew = U6 from hU.symm]
      first | rw [← hg] | skip
      have HO0 := Lib.hid (show U1.heap.size ≤ g ∨ g < (w0.drew).heap.size from Or.inl (by rw [hg]; exact HS0.out))
      have HO1 := Lib.hid (show U2.heap.size ≤ g ∨ g < (U1).heap.size from Or.inl (by rw [hg]; exact HS1.out))
      have HO2 := Lib.hid (show U3.heap.size ≤ g ∨ g < (U2).heap.size from Or.inl (by rw [hg]; exact HS2.out))
      have HR0 := Lib.hid (HR0.out.below hb)
      have HS0 := Lib.hid (Nat.le_trans HS0.out (hb).size)
      have HR1 := Lib.hid (HR1.out.below hb)
      have HS1 := Lib.hid (Nat.le_trans HS1.out (hb).size)
      have HR2 := Lib.hid (HR2.out.below hb)
      have HS2 := Lib.hid (Nat.le_trans HS2.out (hb).size)
      have HBQ := Lib.hid (HBQ.out.trans (hb.mono HBQ.out.size))
      clear hU hg hb
      refine hK.out _ _ (HS.out _ HBQ.out) (fun hHeld => ?_)
      clear hK K
      try simp only [Act.put, sv_a, sv_0, sv_1]
      refine wpAnyH_ready (rs := [17]) (by kernel_rfl) (by simp) ?_
      refine AllReadyH.cons (o := ⟨some 29, .call { callee := .value (.func 14), args := #[.tmp 28], argTypes := #[34] }, 34, "law.go:218", #[⟨16, .data⟩, ⟨14, .chain⟩], none⟩) rfl (fun K hK => ?_) AllReadyH.nil
      go_simp
      go_at_call 14
      refine (HTU.out _ HBQ.out).mono ?_
      rintro e U7 ⟨ua2, uc2, rfl, hq3, hq4, hb⟩
      have HR0 := Lib.hid (HR0.out.below hb)
      have HS0 := Lib.hid (Nat.le_trans HS0.out (hb).size)
      have HR1 := Lib.hid (HR1.out.below hb)
      have HS1 := Lib.hid (Nat.le_trans HS1.out (hb).size)
      have HR2 := Lib.hid (HR2.out.below hb)
      have HS2 := Lib.hid (Nat.le_trans HS2.out (hb).size)
      have HR3 := Lib.hid hq3
      have HA3 := Lib.hid hq4
      have HB3 := Lib.hid (HBQ.out.size)
      have HS3 := Lib.hid (Nat.le_refl U7.heap.size)
      have HO3 := Lib.hid (show U7.heap.size ≤ g ∨ g < (U6).heap.size from Or.inr HG.out.lt)
      have HG := Lib.hid (HG.out.below hb)
      have HBQ := Lib.hid (HBQ.out.trans (hb.mono HBQ.out.size))
      clear hq3 hq4 hb
      go_wp2_with fail
      refine hK.out _ _ (HS.out _ HBQ.out) (fun hHeld => ?_)
      clear hK K
      try simp only [Act.put, sv_a, sv_0, sv_1]
      refine wpAnyH_take (i := 18) (oi := ⟨some 30, .build 36 #[(1, .tmp 14), (2, .tmp 16), (3, .tmp 18), (4, .tmp 20), (5, .tmp 23), (6, .tmp 26), (8, .tmp 29)], 36, "law.go:218", #[⟨2, .data⟩, ⟨4, .data⟩, ⟨6, .data⟩, ⟨8, .data⟩, ⟨11, .data⟩, ⟨14, .data⟩, ⟨17, .data⟩], none⟩) (v := .agg ([.slice none 0 0, .slice ia2 ni ic2, .int .i64 mode, .int .i64 after, .slice wwa2 nwh wcap2, .int .i64 within, .string ⟨by_.toArray⟩, .slice ra2 nr rc2, .int .i64 cap, .int .i64 mark, .bool closed, .slice ha2 nh hc2, .slice ka2 nk kc2, .slice none 0 0, .slice ua2 nu uc2] : List Value).toArray) rfl (by kernel_rfl) (by kernel_rfl) (by kernel_rfl) (fun _ _ _ h => h) (.inl ⟨by rfl, ?_⟩) (by assumption) ?_
      ·intro w hSw; (try dsimp only at hSw); go_simp; all_goals (with_reducible rfl)
      try simp only [Act.put, sv_a, sv_0, sv_1]
      have hth := HG.out.there 0 15 (Nat.le_refl _)
      have HST := Lib.hid (blk_over HG.out [.slice none 0 0, .slice ia2 ni ic2, .int .i64 mode, .int .i64 after, .slice wwa2 nwh wcap2, .int .i64 within, .string ⟨by_.toArray⟩, .slice ra2 nr rc2, .int .i64 cap, .int .i64 mark, .bool closed, .slice ha2 nh hc2, .slice ka2 nk kc2, .slice none 0 0, .slice ua2 nu uc2] rfl)
      refine wpAnyH_ready (rs := [20]) (by kernel_rfl) (by simp) ?_
      refine AllReadyH.cons (o := ⟨none, .store 36 (.tmp 3) (.tmp 30), 0, "law.go:218", #[⟨19, .data⟩, ⟨18, .data⟩, ⟨17, .chain⟩, ⟨0, .phase⟩, ⟨1, .phase⟩, ⟨2, .phase⟩, ⟨3, .phase⟩, ⟨4, .phase⟩, ⟨5, .phase⟩, ⟨6, .phase⟩, ⟨7, .phase⟩, ⟨8, .phase⟩, ⟨9, .phase⟩, ⟨10, .phase⟩, ⟨11, .phase⟩, ⟨12, .phase⟩, ⟨13, .phase⟩, ⟨14, .phase⟩, ⟨15, .phase⟩, ⟨16, .phase⟩, ⟨17, .phase⟩, ⟨18, .phase⟩, ⟨19, .phase⟩], none⟩) rfl (fun K hK => ?_) AllReadyH.nil
      rw [if_pos (by rfl)]
      refine wp_store_mid 36 _ _ rfl g 0 ([.slice none 0 0, .slice ia2 ni ic2, .int .i64 mode, .int .i64 after, .slice wwa2 nwh wcap2, .int .i64 within, .string ⟨by_.toArray⟩, .slice ra2 nr rc2, .int .i64 cap, .int .i64 mark, .bool closed, .slice ha2 nh hc2, .slice ka2 nk kc2, .slice none 0 0, .slice ua2 nu uc2] : List Value).toArray rfl rfl hth (by kernel_rfl) (by kernel_rfl) ?_
      have HBQ := Lib.hid (HST.out.below HBQ.out (Nat.le_refl _) HGE.out)
      refine hK.out _ _ (HS.out _ HBQ.out) (fun hHeld => ?_)
      clear hK K hth
      try simp only [Act.put]
      refine wpAnyH_done (by kernel_rfl) ?_ _
      go_wp2_with fail
      go_meet
      case rel => exact ⟨g, items2, ia2, ic2, wwa2, wcap2, ret2, ra2, rc2, ha2, hc2, ka2, kc2, ua2, uc2, rfl, HGE.out, HST.out.blk, HBQ.out, HQ1.out, HQ2.out, HR0.out.sto HST.out (HA0.out.x HB0.out (Nat.le_trans HS0.out HST.out.grown.size) HO0.out), HA0.out.x HB0.out (Nat.le_trans HS0.out HST.out.grown.size) HO0.out, ⟨HST.out.rd HR1.out.1 (HA1.out.x HB1.out (Nat.le_trans HS1.out HST.out.grown.size) HO1.out).ne, HR1.out.2⟩, HA1.out.x HB1.out (Nat.le_trans HS1.out HST.out.grown.size) HO1.out, ⟨HST.out.rd HR2.out.1 (HA2.out.x HB2.out (Nat.le_trans HS2.out HST.out.grown.size) HO2.out).ne, HR2.out.2⟩, HA2.out.x HB2.out (Nat.le_trans HS2.out HST.out.grown.size) HO2.out, HST.out.rd HR3.out (HA3.out.x HB3.out (Nat.le_trans HS3.out HST.out.grown.size) HO3.out).ne, HA3.out.x HB3.out (Nat.le_trans HS3.out HST.out.grown.size) HO3.out⟩
    ·go_simp
     obtain ⟨U8, hU⟩ : ∃ u, u = (U2).alloc (.cells #[.slice none 0 0, .slice none 0 0, .int .i64 0, .int .i64 0, .slice none 0 0, .int .i64 0, .string ⟨#[]⟩, .slice none 0 0, .int .i64 0, .int .i64 0, .bool false, .slice none 0 0, .slice none 0 0, .slice none 0 0, .slice none 0 0] 36) := ⟨_, rfl⟩
     obtain ⟨g, hg⟩ : ∃ g, g = U2.heap.size := ⟨_, rfl⟩
     have HG := Lib.hid (show Blk U8 g 36 [.slice none 0 0, .slice none 0 0, .int .i64 0, .int .i64 0, .slice none 0 0, .int .i64 0, .string ⟨#[]⟩, .slice none 0 0, .int .i64 0, .int .i64 0, .bool false, .slice none 0 0, .slice none 0 0, .slice none 0 0, .slice none 0 0] by rw [hU, hg]; exact Blk.new (U2) [.slice none 0 0, .slice none 0 0, .int .i64 0, .int .i64 0, .slice none 0 0, .int .i64 0, .string ⟨#[]⟩, .slice none 0 0, .int .i64 0, .int .i64 0, .bool false, .slice none 0 0, .slice none 0 0, .slice none 0 0, .slice none 0 0] 36)
     have hb : Below (U2).heap.size (U2) U8 := by rw [hU]; exact bal (Below.refl _ _) (Nat.le_refl _) _
     have HGE := Lib.hid (show w0.heap.size ≤ g by rw [hg]; exact HBQ.out.size)
     first | rw [← hU] | rw [show (w0.alloc (.cells #[.slice none 0 0, .slice none 0 0, .int .i64 0, .int .i64 0, .slice none 0 0, .int .i64 0, .string ⟨#[]⟩, .slice none 0 0, .int .i64 0, .int .i64 0, .bool false, .slice none 0 0, .slice none 0 0, .slice none 0 0, .slice none 0 0] 36)).drew = U8 from hU.symm]
     first | rw [← hg] | skip
     have HO0 := Lib.hid (show U1.heap.size ≤ g ∨ g < (w0.drew).heap.size from Or.inl (by rw [hg]; exact HS0.out))
     have HO1 := Lib.hid (show U2.heap.size ≤ g ∨ g < (U1).heap.size from Or.inl (by rw [hg]; exact HS1.out))
     have HR0 := Lib.hid (HR0.out.below hb)
     have HS0 := Lib.hid (Nat.le_trans HS0.out (hb).size)
     have HR1 := Lib.hid (HR1.out.below hb)
     have HS1 := Lib.hid (Nat.le_trans HS1.out (hb).size)
     have HBQ := Lib.hid (HBQ.out.trans (hb.mono HBQ.out.size))
     clear hU hg hb
     refine hK.out _ _ (HS.out _ HBQ.out) (fun hHeld => ?_)
     clear hK K
     try simp only [Act.put, sv_a, sv_0, sv_1]
     refine wpAnyH_ready (rs := [14]) (by kernel_rfl) (by simp) ?_
     refine AllReadyH.cons (o := ⟨some 26, .call { callee := .value (.func 13), args := #[.tmp 25], argTypes := #[32] }, 32, "law.go:218", #[⟨13, .data⟩, ⟨11, .chain⟩], none⟩) rfl (fun K hK => ?_) AllReadyH.nil
     go_simp
     go_at_call 13
     refine (HTK.out _ HBQ.out).mono ?_
     rintro e U9 ⟨ka2, kc2, rfl, hq3, hq4, hb⟩
     have HR0 := Lib.hid (HR0.out.below hb)
     have HS0 := Lib.hid (Nat.le_trans HS0.out (hb).size)
     have HR1 := Lib.hid (HR1.out.below hb)
     have HS1 := Lib.hid (Nat.le_trans HS1.out (hb).size)
     have HR2 := Lib.hid hq3
     have HA2 := Lib.hid hq4
     have HB2 := Lib.hid (HBQ.out.size)
     have HS2 := Lib.hid (Nat.le_refl U9.heap.size)
     have HO2 := Lib.hid (show U9.heap.size ≤ g ∨ g < (U8).heap.size from Or.inr HG.out.lt)
     have HG := Lib.hid (HG.out.below hb)
     have HBQ := Lib.hid (HBQ.out.trans (hb.mono HBQ.out.size))
     clear hq3 hq4 hb
     go_wp2_with fail
     refine hK.out _ _ (HS.out _ HBQ.out) (fun hHeld => ?_)
     clear hK K
     try simp only [Act.put, sv_a, sv_0, sv_1]
     refine wpAnyH_ready (rs := [17]) (by kernel_rfl) (by simp) ?_
     refine AllReadyH.cons (o := ⟨some 29, .call { callee := .value (.func 14), args := #[.tmp 28], argTypes := #[34] }, 34, "law.go:218", #[⟨16, .data⟩, ⟨14, .chain⟩], none⟩) rfl (fun K hK => ?_) AllReadyH.nil
     go_simp
     go_at_call 14
     refine (HTU.out _ HBQ.out).mono ?_
     rintro e U10 ⟨ua2, uc2, rfl, hq3, hq4, hb⟩
     have HR0 := Lib.hid (HR0.out.below hb)
     have HS0 := Lib.hid (Nat.le_trans HS0.out (hb).size)
     have HR1 := Lib.hid (HR1.out.below hb)
     have HS1 := Lib.hid (Nat.le_trans HS1.out (hb).size)
     have HR2 := Lib.hid (HR2.out.below hb)
     have HS2 := Lib.hid (Nat.le_trans HS2.out (hb).size)
     have HR3 := Lib.hid hq3
     have HA3 := Lib.hid hq4
     have HB3 := Lib.hid (HBQ.out.size)
     have HS3 := Lib.hid (Nat.le_refl U10.heap.size)
     have HO3 := Lib.hid (show U10.heap.size ≤ g ∨ g < (U9).heap.size from Or.inr HG.out.lt)
     have HG := Lib.hid (HG.out.below hb)
     have HBQ := Lib.hid (HBQ.out.trans (hb.mono HBQ.out.size))
     clear hq3 hq4 hb
     go_wp2_with fail
     refine hK.out _ _ (HS.out _ HBQ.out) (fun hHeld => ?_)
     clear hK K
     try simp only [Act.put, sv_a, sv_0, sv_1]
     refine wpAnyH_take (i := 18) (oi := ⟨some 30, .build 36 #[(1, .tmp 14), (2, .tmp 16), (3, .tmp 18), (4, .tmp 20), (5, .tmp 23), (6, .tmp 26), (8, .tmp 29)], 36, "law.go:218", #[⟨2, .data⟩, ⟨4, .data⟩, ⟨6, .data⟩, ⟨8, .data⟩, ⟨11, .data⟩, ⟨14, .data⟩, ⟨17, .data⟩], none⟩) (v := .agg ([.slice none 0 0, .slice ia2 ni ic2, .int .i64 mode, .int .i64 after, .slice wwa2 nwh wcap2, .int .i64 within, .string ⟨by_.toArray⟩, .slice ra2 nr rc2, .int .i64 cap, .int .i64 mark, .bool closed, .slice ha2 nh hc2, .slice ka2 nk kc2, .slice none 0 0, .slice ua2 nu uc2] : List Value).toArray) rfl (by kernel_rfl) (by kernel_rfl) (by kernel_rfl) (fun _ _ _ h => h) (.inl ⟨by rfl, ?_⟩) (by assumption) ?_
     ·intro w hSw; (try dsimp only at hSw); go_simp; all_goals (with_reducible rfl)
     try simp only [Act.put, sv_a, sv_0, sv_1]
     have hth := HG.out.there 0 15 (Nat.le_refl _)
     have HST := Lib.hid (blk_over HG.out [.slice none 0 0, .slice ia2 ni ic2, .int .i64 mode, .int .i64 after, .slice wwa2 nwh wcap2, .int .i64 within, .string ⟨by_.toArray⟩, .slice ra2 nr rc2, .int .i64 cap, .int .i64 mark, .bool closed, .slice ha2 nh hc2, .slice ka2 nk kc2, .slice none 0 0, .slice ua2 nu uc2] rfl)
     refine wpAnyH_ready (rs := [20]) (by kernel_rfl) (by simp) ?_
     refine AllReadyH.cons (o := ⟨none, .store 36 (.tmp 3) (.tmp 30), 0, "law.go:218", #[⟨19, .data⟩, ⟨18, .data⟩, ⟨17, .chain⟩, ⟨0, .phase⟩, ⟨1, .phase⟩, ⟨2, .phase⟩, ⟨3, .phase⟩, ⟨4, .phase⟩, ⟨5, .phase⟩, ⟨6, .phase⟩, ⟨7, .phase⟩, ⟨8, .phase⟩, ⟨9, .phase⟩, ⟨10, .phase⟩, ⟨11, .phase⟩, ⟨12, .phase⟩, ⟨13, .phase⟩, ⟨14, .phase⟩, ⟨15, .phase⟩, ⟨16, .phase⟩, ⟨17, .phase⟩, ⟨18, .phase⟩, ⟨19, .phase⟩], none⟩) rfl (fun K hK => ?_) AllReadyH.nil
     rw [if_pos (by rfl)]
     refine wp_store_mid 36 _ _ rfl g 0 ([.slice none 0 0, .slice ia2 ni ic2, .int .i64 mode, .int .i64 after, .slice wwa2 nwh wcap2, .int .i64 within, .string ⟨by_.toArray⟩, .slice ra2 nr rc2, .int .i64 cap, .int .i64 mark, .bool closed, .slice ha2 nh hc2, .slice ka2 nk kc2, .slice none 0 0, .slice ua2 nu uc2] : List Value).toArray rfl rfl hth (by kernel_rfl) (by kernel_rfl) ?_
     have HBQ := Lib.hid (HST.out.below HBQ.out (Nat.le_refl _) HGE.out)
     refine hK.out _ _ (HS.out _ HBQ.out) (fun hHeld => ?_)
     clear hK K hth
     try simp only [Act.put]
     refine wpAnyH_done (by kernel_rfl) ?_ _
     go_wp2_with fail
     go_meet
     case rel => exact ⟨g, items2, ia2, ic2, wwa2, wcap2, ret2, ra2, rc2, ha2, hc2, ka2, kc2, ua2, uc2, rfl, HGE.out, HST.out.blk, HBQ.out, HQ1.out, HQ2.out, HR0.out.sto HST.out (HA0.out.x HB0.out (Nat.le_trans HS0.out HST.out.grown.size) HO0.out), HA0.out.x HB0.out (Nat.le_trans HS0.out HST.out.grown.size) HO0.out, ⟨HST.out.rd HR1.out.1 (HA1.out.x HB1.out (Nat.le_trans HS1.out HST.out.grown.size) HO1.out).ne, HR1.out.2⟩, HA1.out.x HB1.out (Nat.le_trans HS1.out HST.out.grown.size) HO1.out, ⟨HST.out.rd HR2.out.1 (HA2.out.x HB2.out (Nat.le_trans HS2.out HST.out.grown.size) HO2.out).ne, HR2.out.2⟩, HA2.out.x HB2.out (Nat.le_trans HS2.out HST.out.grown.size) HO2.out, HST.out.rd HR3.out (HA3.out.x HB3.out (Nat.le_trans HS3.out HST.out.grown.size) HO3.out).ne, HA3.out.x HB3.out (Nat.le_trans HS3.out HST.out.grown.size) HO3.out⟩
   ·go_simp
    obtain ⟨U11, hU⟩ : ∃ u, u = (U1).alloc (.cells #[.slice none 0 0, .slice none 0 0, .int .i64 0, .int .i64 0, .slice none 0 0, .int .i64 0, .string ⟨#[]⟩, .slice none 0 0, .int .i64 0, .int .i64 0, .bool false, .slice none 0 0, .slice none 0 0, .slice none 0 0, .slice none 0 0] 36) := ⟨_, rfl⟩
    obtain ⟨g, hg⟩ : ∃ g, g = U1.heap.size := ⟨_, rfl⟩
    have HG := Lib.hid (show Blk U11 g 36 [.slice none 0 0, .slice none 0 0, .int .i64 0, .int .i64 0, .slice none 0 0, .int .i64 0, .string ⟨#[]⟩, .slice none 0 0, .int .i64 0, .int .i64 0, .bool false, .slice none 0 0, .slice none 0 0, .slice none 0 0, .slice none 0 0] by rw [hU, hg]; exact Blk.new (U1) [.slice none 0 0, .slice none 0 0, .int .i64 0, .int .i64 0, .slice none 0 0, .int .i64 0, .string ⟨#[]⟩, .slice none 0 0, .int .i64 0, .int .i64 0, .bool false, .slice none 0 0, .slice none 0 0, .slice none 0 0, .slice none 0 0] 36)
    have hb : Below (U1).heap.size (U1) U11 := by rw [hU]; exact bal (Below.refl _ _) (Nat.le_refl _) _
    have HGE := Lib.hid (show w0.heap.size ≤ g by rw [hg]; exact HBQ.out.size)
    first | rw [← hU] | rw [show (w0.alloc (.cells #[.slice none 0 0, .slice none 0 0, .int .i64 0, .int .i64 0, .slice none 0 0, .int .i64 0, .string ⟨#[]⟩, .slice none 0 0, .int .i64 0, .int .i64 0, .bool false, .slice none 0 0, .slice none 0 0, .slice none 0 0, .slice none 0 0] 36)).drew = U11 from hU.symm]
    first | rw [← hg] | skip
    have HO0 := Lib.hid (show U1.heap.size ≤ g ∨ g < (w0.drew).heap.size from Or.inl (by rw [hg]; exact HS0.out))
    have HR0 := Lib.hid (HR0.out.below hb)
    have HS0 := Lib.hid (Nat.le_trans HS0.out (hb).size)
    have HBQ := Lib.hid (HBQ.out.trans (hb.mono HBQ.out.size))
    clear hU hg hb
    refine hK.out _ _ (HS.out _ HBQ.out) (fun hHeld => ?_)
    clear hK K
    try simp only [Act.put, sv_a, sv_0, sv_1]
    refine wpAnyH_ready (rs := [11]) (by kernel_rfl) (by simp) ?_
    refine AllReadyH.cons (o := ⟨some 23, .call { callee := .value (.func 13), args := #[.tmp 22], argTypes := #[32] }, 32, "law.go:218", #[⟨10, .data⟩, ⟨2, .chain⟩], none⟩) rfl (fun K hK => ?_) AllReadyH.nil
    go_simp
    go_at_call 13
    refine (HTH.out _ HBQ.out).mono ?_
    rintro e U12 ⟨ha2, hc2, rfl, hq3, hq4, hb⟩
    have HR0 := Lib.hid (HR0.out.below hb)
    have HS0 := Lib.hid (Nat.le_trans HS0.out (hb).size)
    have HR1 := Lib.hid hq3
    have HA1 := Lib.hid hq4
    have HB1 := Lib.hid (HBQ.out.size)
    have HS1 := Lib.hid (Nat.le_refl U12.heap.size)
    have HO1 := Lib.hid (show U12.heap.size ≤ g ∨ g < (U11).heap.size from Or.inr HG.out.lt)
    have HG := Lib.hid (HG.out.below hb)
    have HBQ := Lib.hid (HBQ.out.trans (hb.mono HBQ.out.size))
    clear hq3 hq4 hb
    go_wp2_with fail
    refine hK.out _ _ (HS.out _ HBQ.out) (fun hHeld => ?_)
    clear hK K
    try simp only [Act.put, sv_a, sv_0, sv_1]
    refine wpAnyH_ready (rs := [14]) (by kernel_rfl) (by simp) ?_
    refine AllReadyH.cons (o := ⟨some 26, .call { callee := .value (.func 13), args := #[.tmp 25], argTypes := #[32] }, 32, "law.go:218", #[⟨13, .data⟩, ⟨11, .chain⟩], none⟩) rfl (fun K hK => ?_) AllReadyH.nil
    go_simp
    go_at_call 13
    refine (HTK.out _ HBQ.out).mono ?_
    rintro e U13 ⟨ka2, kc2, rfl, hq3, hq4, hb⟩
    have HR0 := Lib.hid (HR0.out.below hb)
    have HS0 := Lib.hid (Nat.le_trans HS0.out (hb).size)
    have HR1 := Lib.hid (HR1.out.below hb)
    have HS1 := Lib.hid (Nat.le_trans HS1.out (hb).size)
    have HR2 := Lib.hid hq3
    have HA2 := Lib.hid hq4
    have HB2 := Lib.hid (HBQ.out.size)
    have HS2 := Lib.hid (Nat.le_refl U13.heap.size)
    have HO2 := Lib.hid (show U13.heap.size ≤ g ∨ g < (U12).heap.size from Or.inr HG.out.lt)
    have HG := Lib.hid (HG.out.below hb)
    have HBQ := Lib.hid (HBQ.out.trans (hb.mono HBQ.out.size))
    clear hq3 hq4 hb
    go_wp2_with fail
    refine hK.out _ _ (HS.out _ HBQ.out) (fun hHeld => ?_)
    clear hK K
    try simp only [Act.put, sv_a, sv_0, sv_1]
    refine wpAnyH_ready (rs := [17]) (by kernel_rfl) (by simp) ?_
    refine AllReadyH.cons (o := ⟨some 29, .call { callee := .value (.func 14), args := #[.tmp 28], argTypes := #[34] }, 34, "law.go:218", #[⟨16, .data⟩, ⟨14, .chain⟩], none⟩) rfl (fun K hK => ?_) AllReadyH.nil
    go_simp
    go_at_call 14
    refine (HTU.out _ HBQ.out).mono ?_
    rintro e U14 ⟨ua2, uc2, rfl, hq3, hq4, hb⟩
    have HR0 := Lib.hid (HR0.out.below hb)
    have HS0 := Lib.hid (Nat.le_trans HS0.out (hb).size)
    have HR1 := Lib.hid (HR1.out.below hb)
    have HS1 := Lib.hid (Nat.le_trans HS1.out (hb).size)
    have HR2 := Lib.hid (HR2.out.below hb)
    have HS2 := Lib.hid (Nat.le_trans HS2.out (hb).size)
    have HR3 := Lib.hid hq3
    have HA3 := Lib.hid hq4
    have HB3 := Lib.hid (HBQ.out.size)
    have HS3 := Lib.hid (Nat.le_refl U14.heap.size)
    have HO3 := Lib.hid (show U14.heap.size ≤ g ∨ g < (U13).heap.size from Or.inr HG.out.lt)
    have HG := Lib.hid (HG.out.below hb)
    have HBQ := Lib.hid (HBQ.out.trans (hb.mono HBQ.out.size))
    clear hq3 hq4 hb
    go_wp2_with fail
    refine hK.out _ _ (HS.out _ HBQ.out) (fun hHeld => ?_)
    clear hK K
    try simp only [Act.put, sv_a, sv_0, sv_1]
    refine wpAnyH_take (i := 18) (oi := ⟨some 30, .build 36 #[(1, .tmp 14), (2, .tmp 16), (3, .tmp 18), (4, .tmp 20), (5, .tmp 23), (6, .tmp 26), (8, .tmp 29)], 36, "law.go:218", #[⟨2, .data⟩, ⟨4, .data⟩, ⟨6, .data⟩, ⟨8, .data⟩, ⟨11, .data⟩, ⟨14, .data⟩, ⟨17, .data⟩], none⟩) (v := .agg ([.slice none 0 0, .slice ia2 ni ic2, .int .i64 mode, .int .i64 after, .slice wwa2 nwh wcap2, .int .i64 within, .string ⟨by_.toArray⟩, .slice ra2 nr rc2, .int .i64 cap, .int .i64 mark, .bool closed, .slice ha2 nh hc2, .slice ka2 nk kc2, .slice none 0 0, .slice ua2 nu uc2] : List Value).toArray) rfl (by kernel_rfl) (by kernel_rfl) (by kernel_rfl) (fun _ _ _ h => h) (.inl ⟨by rfl, ?_⟩) (by assumption) ?_
    ·intro w hSw; (try dsimp only at hSw); go_simp; all_goals (with_reducible rfl)
    try simp only [Act.put, sv_a, sv_0, sv_1]
    have hth := HG.out.there 0 15 (Nat.le_refl _)
    have HST := Lib.hid (blk_over HG.out [.slice none 0 0, .slice ia2 ni ic2, .int .i64 mode, .int .i64 after, .slice wwa2 nwh wcap2, .int .i64 within, .string ⟨by_.toArray⟩, .slice ra2 nr rc2, .int .i64 cap, .int .i64 mark, .bool closed, .slice ha2 nh hc2, .slice ka2 nk kc2, .slice none 0 0, .slice ua2 nu uc2] rfl)
    refine wpAnyH_ready (rs := [20]) (by kernel_rfl) (by simp) ?_
    refine AllReadyH.cons (o := ⟨none, .store 36 (.tmp 3) (.tmp 30), 0, "law.go:218", #[⟨19, .data⟩, ⟨18, .data⟩, ⟨17, .chain⟩, ⟨0, .phase⟩, ⟨1, .phase⟩, ⟨2, .phase⟩, ⟨3, .phase⟩, ⟨4, .phase⟩, ⟨5, .phase⟩, ⟨6, .phase⟩, ⟨7, .phase⟩, ⟨8, .phase⟩, ⟨9, .phase⟩, ⟨10, .phase⟩, ⟨11, .phase⟩, ⟨12, .phase⟩, ⟨13, .phase⟩, ⟨14, .phase⟩, ⟨15, .phase⟩, ⟨16, .phase⟩, ⟨17, .phase⟩, ⟨18, .phase⟩, ⟨19, .phase⟩], none⟩) rfl (fun K hK => ?_) AllReadyH.nil
    rw [if_pos (by rfl)]
    refine wp_store_mid 36 _ _ rfl g 0 ([.slice none 0 0, .slice ia2 ni ic2, .int .i64 mode, .int .i64 after, .slice wwa2 nwh wcap2, .int .i64 within, .string ⟨by_.toArray⟩, .slice ra2 nr rc2, .int .i64 cap, .int .i64 mark, .bool closed, .slice ha2 nh hc2, .slice ka2 nk kc2, .slice none 0 0, .slice ua2 nu uc2] : List Value).toArray rfl rfl hth (by kernel_rfl) (by kernel_rfl) ?_
    have HBQ := Lib.hid (HST.out.below HBQ.out (Nat.le_refl _) HGE.out)
    refine hK.out _ _ (HS.out _ HBQ.out) (fun hHeld => ?_)
    clear hK K hth
    try simp only [Act.put]
    refine wpAnyH_done (by kernel_rfl) ?_ _
    go_wp2_with fail
    go_meet
    case rel => exact ⟨g, items2, ia2, ic2, wwa2, wcap2, ret2, ra2, rc2, ha2, hc2, ka2, kc2, ua2, uc2, rfl, HGE.out, HST.out.blk, HBQ.out, HQ1.out, HQ2.out, HR0.out.sto HST.out (HA0.out.x HB0.out (Nat.le_trans HS0.out HST.out.grown.size) HO0.out), HA0.out.x HB0.out (Nat.le_trans HS0.out HST.out.grown.size) HO0.out, ⟨HST.out.rd HR1.out.1 (HA1.out.x HB1.out (Nat.le_trans HS1.out HST.out.grown.size) HO1.out).ne, HR1.out.2⟩, HA1.out.x HB1.out (Nat.le_trans HS1.out HST.out.grown.size) HO1.out, ⟨HST.out.rd HR2.out.1 (HA2.out.x HB2.out (Nat.le_trans HS2.out HST.out.grown.size) HO2.out).ne, HR2.out.2⟩, HA2.out.x HB2.out (Nat.le_trans HS2.out HST.out.grown.size) HO2.out, HST.out.rd HR3.out (HA3.out.x HB3.out (Nat.le_trans HS3.out HST.out.grown.size) HO3.out).ne, HA3.out.x HB3.out (Nat.le_trans HS3.out HST.out.grown.size) HO3.out⟩
  ·go_simp
   obtain ⟨U15, hU⟩ : ∃ u, u = (w0.drew).alloc (.cells #[.slice none 0 0, .slice none 0 0, .int .i64 0, .int .i64 0, .slice none 0 0, .int .i64 0, .string ⟨#[]⟩, .slice none 0 0, .int .i64 0, .int .i64 0, .bool false, .slice none 0 0, .slice none 0 0, .slice none 0 0, .slice none 0 0] 36) := ⟨_, rfl⟩
   obtain ⟨g, hg⟩ : ∃ g, g = w0.heap.size := ⟨_, rfl⟩
   have HG := Lib.hid (show Blk U15 g 36 [.slice none 0 0, .slice none 0 0, .int .i64 0, .int .i64 0, .slice none 0 0, .int .i64 0, .string ⟨#[]⟩, .slice none 0 0, .int .i64 0, .int .i64 0, .bool false, .slice none 0 0, .slice none 0 0, .slice none 0 0, .slice none 0 0] by rw [hU, hg]; exact Blk.new (w0.drew) [.slice none 0 0, .slice none 0 0, .int .i64 0, .int .i64 0, .slice none 0 0, .int .i64 0, .string ⟨#[]⟩, .slice none 0 0, .int .i64 0, .int .i64 0, .bool false, .slice none 0 0, .slice none 0 0, .slice none 0 0, .slice none 0 0] 36)
   have hb : Below (w0.drew).heap.size (w0.drew) U15 := by rw [hU]; exact bal (Below.refl _ _) (Nat.le_refl _) _
   have HGE := Lib.hid (show w0.heap.size ≤ g by rw [hg]; exact HBQ.out.size)
   first | rw [← hU] | rw [show (w0.alloc (.cells #[.slice none 0 0, .slice none 0 0, .int .i64 0, .int .i64 0, .slice none 0 0, .int .i64 0, .string ⟨#[]⟩, .slice none 0 0, .int .i64 0, .int .i64 0, .bool false, .slice none 0 0, .slice none 0 0, .slice none 0 0, .slice none 0 0] 36)).drew = U15 from hU.symm]
   first | rw [← hg] | skip
   have HBQ := Lib.hid (HBQ.out.trans (hb.mono HBQ.out.size))
   clear hU hg hb
   refine hK.out _ _ (HS.out _ HBQ.out) (fun hHeld => ?_)
   clear hK K
   try simp only [Act.put, sv_a, sv_0, sv_1]
   refine wpAnyH_ready (rs := [2]) (by kernel_rfl) (by simp) ?_
   refine AllReadyH.cons (o := ⟨some 14, .call { callee := .value (.func 12), args := #[.tmp 13], argTypes := #[31] }, 31, "law.go:218", #[⟨1, .data⟩], none⟩) rfl (fun K hK => ?_) AllReadyH.nil
   go_simp
   go_at_call 12
   refine (HTQ.out _ HBQ.out).mono ?_
   rintro e U16 ⟨items2, ia2, ic2, wwa2, wcap2, ret2, ra2, rc2, rfl, hq1, hq2, hq3, hq4, hb⟩
   have HQ1 := Lib.hid hq1
   have HQ2 := Lib.hid hq2
   clear hq1 hq2
   have HR0 := Lib.hid hq3
   have HA0 := Lib.hid hq4
   have HB0 := Lib.hid (HBQ.out.size)
   have HS0 := Lib.hid (Nat.le_refl U16.heap.size)
   have HO0 := Lib.hid (show U16.heap.size ≤ g ∨ g < (U15).heap.size from Or.inr HG.out.lt)
   have HG := Lib.hid (HG.out.below hb)
   have HBQ := Lib.hid (HBQ.out.trans (hb.mono HBQ.out.size))
   clear hq3 hq4 hb
   go_wp2_with fail
   refine hK.out _ _ (HS.out _ HBQ.out) (fun hHeld => ?_)
   clear hK K
   try simp only [Act.put, sv_a, sv_0, sv_1]
   refine wpAnyH_ready (rs := [11]) (by kernel_rfl) (by simp) ?_
   refine AllReadyH.cons (o := ⟨some 23, .call { callee := .value (.func 13), args := #[.tmp 22], argTypes := #[32] }, 32, "law.go:218", #[⟨10, .data⟩, ⟨2, .chain⟩], none⟩) rfl (fun K hK => ?_) AllReadyH.nil
   go_simp
   go_at_call 13
   refine (HTH.out _ HBQ.out).mono ?_
   rintro e U17 ⟨ha2, hc2, rfl, hq3, hq4, hb⟩
   have HR0 := Lib.hid (HR0.out.below hb)
   have HS0 := Lib.hid (Nat.le_trans HS0.out (hb).size)
   have HR1 := Lib.hid hq3
   have HA1 := Lib.hid hq4
   have HB1 := Lib.hid (HBQ.out.size)
   have HS1 := Lib.hid (Nat.le_refl U17.heap.size)
   have HO1 := Lib.hid (show U17.heap.size ≤ g ∨ g < (U16).heap.size from Or.inr HG.out.lt)
   have HG := Lib.hid (HG.out.below hb)
   have HBQ := Lib.hid (HBQ.out.trans (hb.mono HBQ.out.size))
   clear hq3 hq4 hb
   go_wp2_with fail
   refine hK.out _ _ (HS.out _ HBQ.out) (fun hHeld => ?_)
   clear hK K
   try simp only [Act.put, sv_a, sv_0, sv_1]
   refine wpAnyH_ready (rs := [14]) (by kernel_rfl) (by simp) ?_
   refine AllReadyH.cons (o := ⟨some 26, .call { callee := .value (.func 13), args := #[.tmp 25], argTypes := #[32] }, 32, "law.go:218", #[⟨13, .data⟩, ⟨11, .chain⟩], none⟩) rfl (fun K hK => ?_) AllReadyH.nil
   go_simp
   go_at_call 13
   refine (HTK.out _ HBQ.out).mono ?_
   rintro e U18 ⟨ka2, kc2, rfl, hq3, hq4, hb⟩
   have HR0 := Lib.hid (HR0.out.below hb)
   have HS0 := Lib.hid (Nat.le_trans HS0.out (hb).size)
   have HR1 := Lib.hid (HR1.out.below hb)
   have HS1 := Lib.hid (Nat.le_trans HS1.out (hb).size)
   have HR2 := Lib.hid hq3
   have HA2 := Lib.hid hq4
   have HB2 := Lib.hid (HBQ.out.size)
   have HS2 := Lib.hid (Nat.le_refl U18.heap.size)
   have HO2 := Lib.hid (show U18.heap.size ≤ g ∨ g < (U17).heap.size from Or.inr HG.out.lt)
   have HG := Lib.hid (HG.out.below hb)
   have HBQ := Lib.hid (HBQ.out.trans (hb.mono HBQ.out.size))
   clear hq3 hq4 hb
   go_wp2_with fail
   refine hK.out _ _ (HS.out _ HBQ.out) (fun hHeld => ?_)
   clear hK K
   try simp only [Act.put, sv_a, sv_0, sv_1]
   refine wpAnyH_ready (rs := [17]) (by kernel_rfl) (by simp) ?_
   refine AllReadyH.cons (o := ⟨some 29, .call { callee := .value (.func 14), args := #[.tmp 28], argTypes := #[34] }, 34, "law.go:218", #[⟨16, .data⟩, ⟨14, .chain⟩], none⟩) rfl (fun K hK => ?_) AllReadyH.nil
   go_simp
   go_at_call 14
   refine (HTU.out _ HBQ.out).mono ?_
   rintro e U19 ⟨ua2, uc2, rfl, hq3, hq4, hb⟩
   have HR0 := Lib.hid (HR0.out.below hb)
   have HS0 := Lib.hid (Nat.le_trans HS0.out (hb).size)
   have HR1 := Lib.hid (HR1.out.below hb)
   have HS1 := Lib.hid (Nat.le_trans HS1.out (hb).size)
   have HR2 := Lib.hid (HR2.out.below hb)
   have HS2 := Lib.hid (Nat.le_trans HS2.out (hb).size)
   have HR3 := Lib.hid hq3
   have HA3 := Lib.hid hq4
   have HB3 := Lib.hid (HBQ.out.size)
   have HS3 := Lib.hid (Nat.le_refl U19.heap.size)
   have HO3 := Lib.hid (show U19.heap.size ≤ g ∨ g < (U18).heap.size from Or.inr HG.out.lt)
   have HG := Lib.hid (HG.out.below hb)
   have HBQ := Lib.hid (HBQ.out.trans (hb.mono HBQ.out.size))
   clear hq3 hq4 hb
   go_wp2_with fail
   refine hK.out _ _ (HS.out _ HBQ.out) (fun hHeld => ?_)
   clear hK K
   try simp only [Act.put, sv_a, sv_0, sv_1]
   refine wpAnyH_take (i := 18) (oi := ⟨some 30, .build 36 #[(1, .tmp 14), (2, .tmp 16), (3, .tmp 18), (4, .tmp 20), (5, .tmp 23), (6, .tmp 26), (8, .tmp 29)], 36, "law.go:218", #[⟨2, .data⟩, ⟨4, .data⟩, ⟨6, .data⟩, ⟨8, .data⟩, ⟨11, .data⟩, ⟨14, .data⟩, ⟨17, .data⟩], none⟩) (v := .agg ([.slice none 0 0, .slice ia2 ni ic2, .int .i64 mode, .int .i64 after, .slice wwa2 nwh wcap2, .int .i64 within, .string ⟨by_.toArray⟩, .slice ra2 nr rc2, .int .i64 cap, .int .i64 mark, .bool closed, .slice ha2 nh hc2, .slice ka2 nk kc2, .slice none 0 0, .slice ua2 nu uc2] : List Value).toArray) rfl (by kernel_rfl) (by kernel_rfl) (by kernel_rfl) (fun _ _ _ h => h) (.inl ⟨by rfl, ?_⟩) (by assumption) ?_
   ·intro w hSw; (try dsimp only at hSw); go_simp; all_goals (with_reducible rfl)
   try simp only [Act.put, sv_a, sv_0, sv_1]
   have hth := HG.out.there 0 15 (Nat.le_refl _)
   have HST := Lib.hid (blk_over HG.out [.slice none 0 0, .slice ia2 ni ic2, .int .i64 mode, .int .i64 after, .slice wwa2 nwh wcap2, .int .i64 within, .string ⟨by_.toArray⟩, .slice ra2 nr rc2, .int .i64 cap, .int .i64 mark, .bool closed, .slice ha2 nh hc2, .slice ka2 nk kc2, .slice none 0 0, .slice ua2 nu uc2] rfl)
   refine wpAnyH_ready (rs := [20]) (by kernel_rfl) (by simp) ?_
   refine AllReadyH.cons (o := ⟨none, .store 36 (.tmp 3) (.tmp 30), 0, "law.go:218", #[⟨19, .data⟩, ⟨18, .data⟩, ⟨17, .chain⟩, ⟨0, .phase⟩, ⟨1, .phase⟩, ⟨2, .phase⟩, ⟨3, .phase⟩, ⟨4, .phase⟩, ⟨5, .phase⟩, ⟨6, .phase⟩, ⟨7, .phase⟩, ⟨8, .phase⟩, ⟨9, .phase⟩, ⟨10, .phase⟩, ⟨11, .phase⟩, ⟨12, .phase⟩, ⟨13, .phase⟩, ⟨14, .phase⟩, ⟨15, .phase⟩, ⟨16, .phase⟩, ⟨17, .phase⟩, ⟨18, .phase⟩, ⟨19, .phase⟩], none⟩) rfl (fun K hK => ?_) AllReadyH.nil
   rw [if_pos (by rfl)]
   refine wp_store_mid 36 _ _ rfl g 0 ([.slice none 0 0, .slice ia2 ni ic2, .int .i64 mode, .int .i64 after, .slice wwa2 nwh wcap2, .int .i64 within, .string ⟨by_.toArray⟩, .slice ra2 nr rc2, .int .i64 cap, .int .i64 mark, .bool closed, .slice ha2 nh hc2, .slice ka2 nk kc2, .slice none 0 0, .slice ua2 nu uc2] : List Value).toArray rfl rfl hth (by kernel_rfl) (by kernel_rfl) ?_
   have HBQ := Lib.hid (HST.out.below HBQ.out (Nat.le_refl _) HGE.out)
   refine hK.out _ _ (HS.out _ HBQ.out) (fun hHeld => ?_)
   clear hK K hth
   try simp only [Act.put]
   refine wpAnyH_done (by kernel_rfl) ?_ _
   go_wp2_with fail
   go_meet
   case rel => exact ⟨g, items2, ia2, ic2, wwa2, wcap2, ret2, ra2, rc2, ha2, hc2, ka2, kc2, ua2, uc2, rfl, HGE.out, HST.out.blk, HBQ.out, HQ1.out, HQ2.out, HR0.out.sto HST.out (HA0.out.x HB0.out (Nat.le_trans HS0.out HST.out.grown.size) HO0.out), HA0.out.x HB0.out (Nat.le_trans HS0.out HST.out.grown.size) HO0.out, ⟨HST.out.rd HR1.out.1 (HA1.out.x HB1.out (Nat.le_trans HS1.out HST.out.grown.size) HO1.out).ne, HR1.out.2⟩, HA1.out.x HB1.out (Nat.le_trans HS1.out HST.out.grown.size) HO1.out, ⟨HST.out.rd HR2.out.1 (HA2.out.x HB2.out (Nat.le_trans HS2.out HST.out.grown.size) HO2.out).ne, HR2.out.2⟩, HA2.out.x HB2.out (Nat.le_trans HS2.out HST.out.grown.size) HO2.out, HST.out.rd HR3.out (HA3.out.x HB3.out (Nat.le_trans HS3.out HST.out.grown.size) HO3.out).ne, HA3.out.x HB3.out (Nat.le_trans HS3.out HST.out.grown.size) HO3.out⟩
 case rest =>
  obtain ⟨g, items2, ia2, ic2, wwa2, wcap2, ret2, ra2, rc2, ha2, hc2, ka2, kc2, ua2, uc2, rfl, hge, hbk, hbx, hi2, hr2, hrq, haq, hrh, hah, hrk, hak, hru, hau⟩ := hcut
  have HGE := Lib.hid hge
  have HBK := Lib.hid hbk
  have HBX := Lib.hid hbx
  have HI2 := Lib.hid hi2
  have HR2 := Lib.hid hr2
  have HRQ := Lib.hid hrq
  have HAQ := Lib.hid haq
  have HRH := Lib.hid hrh
  have HAH := Lib.hid hah
  have HRK := Lib.hid hrk
  have HAK := Lib.hid hak
  have HRU := Lib.hid hru
  have HAU := Lib.hid hau
  have s0 := (HE.out.below hbx).ci 0 rfl
  clear hge hbk hbx hi2 hr2 hrq haq hrh hah hrk hak hru hau
  go_wp2_with fail
  clear s0
  go_loopw [4] (fun i wr => ∃ (k : Nat) (ys : List Tp) (a1 : Option Addr) (c1 : Nat), k ≤ nt ∧ i = .int .i64 (k : Int) ∧ ys.map Tp.ty = (types.take k).map Tp.ty ∧ (∀ t ∈ ys, t.attrs.length ≤ t.c) ∧ Blk wr g 36 [.slice a1 k c1, .slice ia2 ni ic2, .int .i64 mode, .int .i64 after, .slice wwa2 nwh wcap2, .int .i64 within, .string ⟨by_.toArray⟩, .slice ra2 nr rc2, .int .i64 cap, .int .i64 mark, .bool closed, .slice ha2 nh hc2, .slice ka2 nk kc2, .slice none 0 0, .slice ua2 nu uc2] ∧ (Value.slice a1 k c1).ownBlock ≠ some g ∧ LSt (fun t : Tp => [T t.name, .slice t.a t.attrs.length t.c]) tsub 58 2 (g + 1) ys (.slice a1 k c1) wr ∧ FrV g (.slice none 0 0) wc (.slice a1 k c1) wr ∧ Below w0.heap.size w0 wr) (fun i _ => nt - (intOf i).toNat)
  case atStart => exact ⟨0, [], none, 0, Nat.zero_le _, rfl, rfl, fun t ht => by simp at ht, HBK.out, by simp [Value.ownBlock], LSt.nil _, FrV.refl _ _ _, HBX.out⟩
  case round =>
   obtain ⟨k, ys, a1, c1, hkn, rfl, hys, hcp, hbk, hno, hls, hfr, hbw⟩ := hrel
   obtain ⟨wo, rfl⟩ : ∃ v, v = wr := ⟨_, rfl⟩
   have HYS := Lib.hid hys
   have HCP := Lib.hid hcp
   have HBK := Lib.hid hbk
   have HNO := Lib.hid hno
   have HLS := Lib.hid hls
   have HFR := Lib.hid hfr
   have HBW := Lib.hid hbw
   have s0 := (HE.out.below hbw).ci 0 rfl
   clear hys hcp hbk hno hls hfr
   by_cases hlt : k < nt
   ·have hlt' : (k : Int) < nt := by omega
    have hk0 : (0 : Int) ≤ k := by omega
    have hjl : k < types.length := by rw [← HNT.out]; exact hlt
    have HME := Lib.hid (meas_lt hlt)
    obtain ⟨b, o, hta, e0, e1⟩ := (HR.out.below hbw).types.at k hjl
    dsimp only at hta
    obtain ⟨y, hy⟩ : ∃ y, y = types[k] := ⟨_, rfl⟩
    have HTY := Lib.hid (fun W (hW : Below w0.heap.size w0 W) => show RdS W y.a y.attrs by
     have h : RdT W _ types := (HR.out.below hW).types
     rw [hy]; exact h.2 _ (List.getElem_mem hjl))
    have hnt : y.attrs.length ≤ 1048576 := by rw [hy]; exact HAT.out _ (List.getElem_mem hjl)
    dsimp only at e0 e1
    rw [← hy] at e0 e1
    have HCX := Lib.hid (fun W (hW : Below w0.heap.size w0 W) => show W.cell? ⟨b, o + k * 2 + 1, none⟩ = some (.slice y.a y.attrs.length y.c) by
     obtain ⟨b', o', h1, _, h2⟩ := (HR.out.below hW).types.at k hjl
     dsimp only at h1
     rw [hta] at h1; cases h1; rw [hy]; exact h2)
    have HY := Lib.hid hy
    obtain ⟨nm, ats, aa, ac⟩ := y
    obtain ⟨na, hna⟩ : ∃ n, n = ats.length := ⟨_, rfl⟩
    simp only [T] at e0
    dsimp only at hnt HCX e1 HTY
    rw [← hna] at e1 hnt HCX
    have HNA := Lib.hid hna
    have HTA := Lib.hid hta
    subst hta
    obtain ⟨wi, hwi⟩ : ∃ wb, wb = wo.alloc (.cells #[.string ⟨nm.toArray⟩, .slice none 0 0] 58) := ⟨_, rfl⟩
    obtain ⟨gi, hgi⟩ : ∃ gb, gb = wo.heap.size := ⟨_, rfl⟩
    have hbi : Below wo.heap.size wo wi := by rw [hwi]; exact bal (Below.refl _ _) (Nat.le_refl _) _
    have hFi : Blk wi gi 58 [.string ⟨nm.toArray⟩, .slice none 0 0] := by rw [hwi, hgi]; exact Blk.new wo _ 58
    have HBI := Lib.hid hbi
    have HFI := Lib.hid hFi
    have HGI := Lib.hid hgi
    have HSI := Lib.hid (show wi.heap.size = gi + 1 by rw [hwi, hgi]; show Array.size (Array.push _ _) = _; simp)
    clear hbw hy hna
    go_upto_region 6 with fail
    rw [← hwi, ← hgi]
    clear hwi hgi hbi hFi e0 e1 s0
    go_wp2_with fail
    go_loopw [6] (fun i wr => ∃ (j : Nat) (a2 : Option Addr) (c2 : Nat), j ≤ na ∧ i = .int .i64 (j : Int) ∧ Blk wr gi 58 [.string ⟨nm.toArray⟩, .slice a2 j c2] ∧ (Value.slice a2 j c2).ownBlock ≠ some gi ∧ wr.ownsRow gi 9 1 (.slice a2 j c2) j ((ats.take j).map T) ∧ Below gi wi wr) (fun i _ => na - (intOf i).toNat)
    case atStart => exact ⟨0, none, 0, Nat.zero_le _, rfl, HFI.out, by simp [Value.ownBlock], by simpa using World.ownsRow_nil wi gi 9 1, Below.refl _ _⟩
    case round =>
     obtain ⟨j, a2, c2, hjn, rfl, hbk2, hno2, hown2, hbw2⟩ := hrel
     have HBW2 := Lib.hid hbw2
     have HOWN2 := Lib.hid hown2
     have HNO2 := Lib.hid hno2
     have HBK2 := Lib.hid hbk2
     have HSZ := Lib.hid (show gi ≤ wr.drew.heap.size from Nat.le_trans (by rw [HSI.out]; omega) hbw2.size)
     have HBX2 := Lib.hid (show Below w0.heap.size w0 wr from (HBW.out.trans (HBI.out.mono HBW.out.size)).trans (hbw2.mono (by have := HBW.out.size; rw [HGI.out]; omega)))
     have s0 := (HE.out.below HBX2.out).ci 0 rfl
     have e1 := HCX.out wr HBX2.out
     have j1 := hbk2.ci 1 rfl
     clear hbw2 hown2 hno2
     by_cases hltj : j < na
     ·have hltj' : (j : Int) < na := by omega
      have hj0 : (0 : Int) ≤ j := by omega
      have hjl2 : j < ats.length := by rw [← HNA.out]; exact hltj
      have HMEJ := Lib.hid (meas_lt hltj)
      have HTKS := Lib.hid (take_snoc ats j hjl2)
      obtain ⟨b3, o3, haa, t0⟩ := RdS.at (HTY.out wr HBX2.out) j hjl2
      obtain ⟨s, hs⟩ : ∃ s, s = ats[j] := ⟨_, rfl⟩
      rw [← hs] at HTKS
      simp only [T] at t0
      rw [← hs] at t0
      subst haa
      have j1a := (hbk2.alloc (.cells #[.string ⟨s.toArray⟩] 9)).ci 1 rfl
      clear hs hbk2
      go_wp2_with fail
      go_region_law (refine step_one wr.drew rfl _ _ 56 9 _ 1 16 inf9 Tryz.underlying56 rfl (by decide) (by decide) rfl gi (.slice a2 j c2) j _ [.string ⟨s.toArray⟩] rfl HOWN2.out rfl rfl (by intro z hz; simp only [List.mem_cons, List.not_mem_nil, or_false] at hz; rcases hz with rfl <;> rfl) (by omega) HSZ.out ?_; intro a3 c3 w3 hown3 hb3 hm3; (obtain ⟨hk1, hk2, ho3, hn3, hbe3, hfr3⟩ := row_stored (w := wr.drew) (i := 1) HSZ.out (Nat.le_refl _) HBK2.out (by simp) rfl HNO2.out hown3 hb3 hm3); (have hc3 := hk1.ci 1 rfl); (have hf3 := hk1.frozen 1); (have HQ1 := Lib.hid hk2); (have HQ2 := Lib.hid ho3); (have HQ3 := Lib.hid hn3); (have HQ4 := Lib.hid hbe3); (have HQ5 := Lib.hid hfr3); clear hk1 hk2 ho3 hn3 hbe3 hfr3 hown3 hb3 hm3)
      all_goals (
       go_wp2_with fail
       go_roundw
       case rel => exact ⟨j + 1, a3, c3, hltj, by go_num, HQ1.out, HQ3.out, by rw [HTKS.out, List.map_append]; exact HQ2.out, HBW2.out.trans ((Below.refl _ _).drew.trans HQ4.out)⟩
       case measure => exact HMEJ.out)
     ·have hk' : ¬ (j : Int) < na := by omega
      obtain rfl : j = na := by omega
      have HWW := Lib.hid (show Below wo.heap.size wo wr from HBI.out.trans (HBW2.out.mono (by rw [HGI.out]; omega)))
      have hgs := HBK.out.lt
      have HBG := Lib.hid (HBK.out.below HWW.out)
      have g0 := HBG.out.ci 0 rfl
      have j0 := HBK2.out.ci 0 rfl
      have HLEN := Lib.hid (show ys.length = k by
       have h := congrArg List.length HYS.out
       simp only [List.length_map, List.length_take] at h
       omega)
      have hgi2 : g < gi := by rw [HGI.out]; exact hgs
      have HGG := Lib.hid hgi2
      have HWS := Lib.hid (show g + 1 ≤ wr.heap.size from Nat.le_trans (by rw [HGI.out] at hgi2; exact hgi2) HWW.out.size)
      have hown1 : wr.ownsRow (g + 1) 58 2 (.slice a1 k c1) k (ys.flatMap (fun t : Tp => [T t.name, .slice t.a t.attrs.length t.c])) := by
       have h := (HLS.out.below HWW.out).own
       rw [HLEN.out] at h
       exact h
      have hk48 : k ≤ 1048576 := by have := HSB.out.tl; dsimp only at this; omega
      clear hbk2 hgs hgi2
      go_wp2_with (first | (at_builtin; refine app_one wr rfl _ _ 22 58 _ 2 _ inf58 Tryz.underlying22 rfl (by decide) (by decide) rfl (g + 1) (.slice a1 k c1) k _ [.string ⟨nm.toArray⟩, .slice a2 j c2] rfl hown1 rfl rfl (by intro z hz; simp only [List.mem_cons, List.not_mem_nil, or_false] at hz; rcases hz with rfl | rfl <;> rfl) hk48 HWS.out ?_; intro a3 c3 w3 hown3 hb3 hm3; (obtain ⟨hk1, hk2, ho3, hn3, hbe3, hfr3⟩ := row_stored (i := 0) HWS.out (Nat.le_succ _) HBG.out (by simp) rfl HNO.out hown3 hb3 hm3); (have hc3 := hk1.ci 0 rfl); (have hf3 := hk1.frozen 0); (have HQ1 := Lib.hid hk2); (have HQ2 := Lib.hid ho3); (have HQ3 := Lib.hid hn3); (have HQ4 := Lib.hid hbe3); (have HQ5 := Lib.hid hfr3); clear hk1 hk2 ho3 hn3 hbe3 hfr3 hown3 hb3 hm3) | fail)
      clear hown1
      go_roundw
      case rel =>
       have HL2 := (HLS.out.below HWW.out).step ⟨nm, ats, a2, c2⟩ (g := g) (fun p hp => by
        obtain rfl := List.mem_singleton.1 hp
        refine ⟨by have h := ownsRow_rd HOWN2.out; rw [List.take_of_length_le (by rw [HNA.out]; exact Nat.le_refl _)] at h; exact h, fun b off e => ?_⟩
        obtain ⟨q1, q2⟩ := own_ad HOWN2.out b off e
        have h1 := HGG.out
        refine ⟨by omega, q2, fun e2 => ?_⟩
        have h3 := (HLS.out.own.lt b e2).2
        rw [← HGI.out] at h3
        omega) (Nat.lt_succ_self _) (by rw [HLEN.out]; simp only [T]; rw [← HNA.out]; exact HQ2.out) HQ5.out
       refine ⟨k + 1, ys ++ [⟨nm, ats, a2, c2⟩], a3, c3, hlt, by go_num, ?_, fun t ht => ?_, HQ1.out, HQ3.out, HL2, HFR.out.trans ((FrV.of_below HWW.out).trans HQ5.out), (HBX2.out).trans (HQ4.out.mono HGE.out)⟩
       ·rw [List.map_append, HYS.out, take_snoc types k hjl, List.map_append, ← HY.out]
        rfl
       ·rcases List.mem_append.1 ht with ht | ht
        ·exact HCP.out t ht
        ·obtain rfl := List.mem_singleton.1 ht
         have := own_cap HOWN2.out
         dsimp only
         rw [← HNA.out]
         exact this
      case measure => exact HME.out
   ·have hk' : ¬ (k : Int) < nt := by omega
    obtain rfl : k = nt := by omega
    obtain ⟨wt, rfl⟩ : ∃ v, v = wo := ⟨_, rfl⟩
    obtain ⟨kt, rfl⟩ : ∃ v, v = k := ⟨_, rfl⟩
    have HB2 := Lib.hid HBK.out
    have s13 := (HE.out.below HBW.out).ci 13 rfl
    have HYT := Lib.hid (show ys.map Tp.ty = types.map Tp.ty by rw [HYS.out, List.take_of_length_le (by rw [HNT.out]; exact Nat.le_refl _)])
    have HLT := Lib.hid HLS.out
    have HCP2 := Lib.hid HCP.out
    have HFT := Lib.hid HFR.out
    have HBT := Lib.hid HBW.out
    clear hbw
    go_wp2_with fail
    clear s0 s13
    go_loopw [7] (fun i wr => ∃ (m : Nat) (zs : List Mm) (a3 : Option Addr) (c3 : Nat), m ≤ nw ∧ i = .int .i64 (m : Int) ∧ zs.map (·.m) = (waiting.take m).map (·.m) ∧ Blk wr g 36 [.slice a1 kt c1, .slice ia2 ni ic2, .int .i64 mode, .int .i64 after, .slice wwa2 nwh wcap2, .int .i64 within, .string ⟨by_.toArray⟩, .slice ra2 nr rc2, .int .i64 cap, .int .i64 mark, .bool closed, .slice ha2 nh hc2, .slice ka2 nk kc2, .slice a3 m c3, .slice ua2 nu uc2] ∧ (Value.slice a3 m c3).ownBlock ≠ some g ∧ LSt mmc msub 62 4 (g + 1) zs (.slice a3 m c3) wr ∧ FrV g (.slice none 0 0) wt (.slice a3 m c3) wr ∧ Below w0.heap.size w0 wr) (fun i _ => nw - (intOf i).toNat)
    case atStart => exact ⟨0, [], none, 0, Nat.zero_le _, rfl, rfl, HB2.out, by simp [Value.ownBlock], LSt.nil _, FrV.refl _ _ _, HBT.out⟩
    case round =>
     clear HBK HNO HLS HFR HBW HYS HB2
     obtain ⟨k, zs, a3, c3, hkn, rfl, hzs, hbk, hno, hls, hfr, hbw⟩ := hrel
     obtain ⟨wo, rfl⟩ : ∃ v, v = wr := ⟨_, rfl⟩
     have HZS := Lib.hid hzs
     have HBK := Lib.hid hbk
     have HNO := Lib.hid hno
     have HLS := Lib.hid hls
     have HFR := Lib.hid hfr
     have HBW := Lib.hid hbw
     have s13 := (HE.out.below hbw).ci 13 rfl
     clear hzs hbk hno hls hfr
     by_cases hlt : k < nw
     ·have hlt' : (k : Int) < nw := by omega
      have hk0 : (0 : Int) ≤ k := by omega
      have hjl : k < waiting.length := by rw [← HNW.out]; exact hlt
      have HME := Lib.hid (meas_lt hlt)
      obtain ⟨b, o, hwa, _⟩ := (HR.out.below hbw).waiting.at k hjl
      dsimp only at hwa
      obtain ⟨y, hy⟩ : ∃ y, y = waiting[k] := ⟨_, rfl⟩
      have hcl : RdM wo _ waiting := (HR.out.below hbw).waiting
      obtain ⟨e0, e1, e2, e3⟩ := hcl.cells k hjl b o hwa y hy
      have hyb := HSB.out.wb _ (List.getElem_mem (l := waiting) hjl)
      try dsimp only at hyb
      rw [← hy] at hyb
      have HML := Lib.hid (fun W (hW : Below w0.heap.size w0 W) => show RdMl W y by
       have h : RdM W _ waiting := (HR.out.below hW).waiting
       rw [hy]; exact h.2 _ (List.getElem_mem hjl))
      have HTN := Lib.hid (fun W (hW : Below w0.heap.size w0 W) => twinNames_any y.na y.nc y.m.names.length y.m.names W rfl hyb.names (HML.out W hW).1)
      have HY := Lib.hid hy
      have hnn := hyb.names
      have hnl := hyb.lens
      have hnv := hyb.vals
      obtain ⟨⟨dec, names, lens, vals⟩, na, nc, la, lc, va, vc⟩ := y
      obtain ⟨nn, hnn2⟩ : ∃ n, n = names.length := ⟨_, rfl⟩
      obtain ⟨nl, hnl2⟩ : ∃ n, n = lens.length := ⟨_, rfl⟩
      obtain ⟨nv, hnv2⟩ : ∃ n, n = vals.length := ⟨_, rfl⟩
      dsimp only at e0 e1 e2 e3 hnn hnl hnv HTN
      rw [← hnn2] at e1 hnn HTN
      rw [← hnl2] at e2 hnl
      rw [← hnv2] at e3 hnv
      have HNN := Lib.hid hnn2
      have HNL := Lib.hid hnl2
      have HNV := Lib.hid hnv2
      subst hwa
      obtain ⟨wm, hwm⟩ : ∃ wb, wb = wo.alloc (.cells #[.int .i64 dec, .slice na nn nc, .slice la nl lc, .slice va nv vc] 62) := ⟨_, rfl⟩
      obtain ⟨gm, hgm⟩ : ∃ gb, gb = wo.heap.size := ⟨_, rfl⟩
      have hbm : Below wo.heap.size wo wm := by rw [hwm]; exact bal (Below.refl _ _) (Nat.le_refl _) _
      have hFm : Blk wm gm 62 [.int .i64 dec, .slice na nn nc, .slice la nl lc, .slice va nv vc] := by rw [hwm, hgm]; exact Blk.new wo _ 62
      have HBMO := Lib.hid hbm
      have HBM := Lib.hid (HBW.out.trans (hbm.mono HBW.out.size))
      have HFM := Lib.hid hFm
      have HSM := Lib.hid (show wm.heap.size = wo.heap.size + 1 by rw [hwm]; show Array.size (Array.push _ _) = _; simp)
      have HTN := Lib.hid (show ∀ W, Below wm.heap.size wm W → Calls Tryz.prog 14 #[.slice na nn nc] W (fun e W' => ∃ a c, e = .returned (.slice a nn c) ∧ RdNm W' a names ∧ Ad W.heap.size W' a ∧ Below W.heap.size W W') from fun W hW => (HTN.out W (HBM.out.trans (hW.mono HBM.out.size))).mono fun e W' ⟨a, c, h1, h2, h3⟩ => ⟨a, c, h1, ownsRow_rd h2, own_ad h2, h3⟩)
      have HSM2 := Lib.hid (fun W (hW : Below wm.heap.size wm W) => show W.cell? ⟨gm, 0, none⟩ = some (.int .i64 dec) ∧ W.cell? ⟨gm, 1, none⟩ = some (.slice na nn nc) from ⟨(HFM.out.below hW).ci 0 rfl, (HFM.out.below hW).ci 1 rfl⟩)
      clear hbw hy hyb hcl hnn2 hnl2 hnv2
      go_upto_region 15 with fail
      rw [← hwm, ← hgm]
      clear hwm hgm hbm hFm e0 e1 e2 e3 s13
      go_cut [9] from 94 to 99 (fun v wx => ∃ (gc : Nat) (na2 : Option Addr) (nc2 : Nat), v = .pointer (some ⟨gc, 0, none⟩) ∧ wm.heap.size ≤ gc ∧ Blk wx gc 62 [.int .i64 dec, .slice na2 nn nc2, .slice none 0 0, .slice none 0 0] ∧ Below wm.heap.size wm wx ∧ RdNm wx na2 names ∧ AdX wm.heap.size gc wx na2)
      case first =>
       refine wp_region_held_drew (S := fun W => W.cell? ⟨gm, 0, none⟩ = some (.int .i64 dec) ∧ W.cell? ⟨gm, 1, none⟩ = some (.slice na nn nc)) (by kernel_rfl) (HSM2.out _ (Below.refl _ _).drew) (fun hHeld => ?_)
       refine wpAnyH_take (i := 0) (oi := ⟨some 94, .fieldAddr 62 (.tmp 8) 0, 0, "law.go:228", #[], none⟩) (v := .pointer (some ⟨gm, 0, none⟩)) rfl (by kernel_rfl) (by kernel_rfl) (by kernel_rfl) (fun _ _ _ h => h) (.inl ⟨by rfl, ?_⟩) (by assumption) ?_
       ·intro w hSw; (try dsimp only at hSw); go_simp; all_goals (with_reducible rfl)
       try simp only [Act.put, sv_a, sv_0, sv_1]
       refine wpAnyH_take (i := 1) (oi := ⟨some 95, .load 2 (.tmp 94), 2, "law.go:228", #[⟨0, .data⟩], none⟩) (v := .int .i64 dec) rfl (by kernel_rfl) (by kernel_rfl) (by kernel_rfl) (fun _ _ _ h => h) (.inl ⟨by rfl, ?_⟩) (by assumption) ?_
       ·intro w hSw; (try dsimp only at hSw); go_simp; all_goals (with_reducible rfl)
       try simp only [Act.put, sv_a, sv_0, sv_1]
       refine wpAnyH_take (i := 2) (oi := ⟨some 96, .fieldAddr 62 (.tmp 8) 1, 0, "law.go:228", #[], none⟩) (v := .pointer (some ⟨gm, 1, none⟩)) rfl (by kernel_rfl) (by kernel_rfl) (by kernel_rfl) (fun _ _ _ h => h) (.inl ⟨by rfl, ?_⟩) (by assumption) ?_
       ·intro w hSw; (try dsimp only at hSw); go_simp; all_goals (with_reducible rfl)
       try simp only [Act.put, sv_a, sv_0, sv_1]
       refine wpAnyH_take (i := 3) (oi := ⟨some 97, .load 34 (.tmp 96), 34, "law.go:228", #[⟨2, .data⟩], none⟩) (v := .slice na nn nc) rfl (by kernel_rfl) (by kernel_rfl) (by kernel_rfl) (fun _ _ _ h => h) (.inl ⟨by rfl, ?_⟩) (by assumption) ?_
       ·intro w hSw; (try dsimp only at hSw); go_simp; all_goals (with_reducible rfl)
       try simp only [Act.put, sv_a, sv_0, sv_1]
       have HBQ := Lib.hid (show Below wm.heap.size wm wm.drew from (Below.refl _ _).drew)
       refine wpAnyH_ready (rs := [4, 6]) (by kernel_rfl) (by simp) ?_
       refine AllReadyH.cons (o := ⟨some 98, .call { callee := .value (.func 14), args := #[.tmp 97], argTypes := #[34] }, 34, "law.go:228", #[⟨3, .data⟩], none⟩) rfl (fun K hK => ?_) (AllReadyH.cons (o := ⟨some 9, .alloc 62, 0, "law.go:228", #[], none⟩) rfl (fun K hK => ?_) AllReadyH.nil)
       ·go_simp
        go_at_call 14
        refine (HTN.out _ HBQ.out).mono ?_
        rintro e U1 ⟨na2, nc2, rfl, hq3, hq4, hb⟩
        have HRN := Lib.hid hq3
        have HAN := Lib.hid hq4
        have HBN := Lib.hid (HBQ.out.size)
        have HBQ := Lib.hid (HBQ.out.trans (hb.mono HBQ.out.size))
        clear hq3 hq4 hb
        go_wp2_with fail
        refine hK.out _ _ (HSM2.out _ HBQ.out) (fun hHeld => ?_)
        clear hK K
        try simp only [Act.put, sv_a, sv_0, sv_1]
        refine wpAnyH_take (i := 5) (oi := ⟨some 99, .build 62 #[(0, .tmp 95), (1, .tmp 98)], 62, "law.go:228", #[⟨1, .data⟩, ⟨4, .data⟩], none⟩) (v := .agg ([.int .i64 dec, .slice na2 nn nc2, .slice none 0 0, .slice none 0 0] : List Value).toArray) rfl (by kernel_rfl) (by kernel_rfl) (by kernel_rfl) (fun _ _ _ h => h) (.inl ⟨by rfl, ?_⟩) (by assumption) ?_
        ·intro w hSw; (try dsimp only at hSw); go_simp; all_goals (with_reducible rfl)
        try simp only [Act.put, sv_a, sv_0, sv_1]
        refine wpAnyH_ready (rs := [6]) (by kernel_rfl) (by simp) ?_
        refine AllReadyH.cons (o := ⟨some 9, .alloc 62, 0, "law.go:228", #[], none⟩) rfl (fun K hK => ?_) AllReadyH.nil
        go_simp
        obtain ⟨U2, hU⟩ : ∃ u, u = (U1).alloc (.cells #[.int .i64 0, .slice none 0 0, .slice none 0 0, .slice none 0 0] 62) := ⟨_, rfl⟩
        obtain ⟨gc, hg⟩ : ∃ g, g = U1.heap.size := ⟨_, rfl⟩
        have HGC := Lib.hid (show Blk U2 gc 62 [.int .i64 0, .slice none 0 0, .slice none 0 0, .slice none 0 0] by rw [hU, hg]; exact Blk.new (U1) [.int .i64 0, .slice none 0 0, .slice none 0 0, .slice none 0 0] 62)
        have hb : Below (U1).heap.size (U1) U2 := by rw [hU]; exact bal (Below.refl _ _) (Nat.le_refl _) _
        have HGCE := Lib.hid (show wm.heap.size ≤ gc by rw [hg]; exact HBQ.out.size)
        first | rw [← hU] | rw [show (wm.alloc (.cells #[.int .i64 0, .slice none 0 0, .slice none 0 0, .slice none 0 0] 62)).drew = U2 from hU.symm]
        rw [← hg]
        have HON := Lib.hid (show U1.heap.size ≤ gc ∨ gc < wm.drew.heap.size from Or.inl (by rw [hg]; exact Nat.le_refl _))
        have HRN := Lib.hid (HRN.out.below hb)
        have HSN := Lib.hid (hb.size)
        have HBQ := Lib.hid (HBQ.out.trans (hb.mono HBQ.out.size))
        clear hU hg hb
        refine hK.out _ _ (HSM2.out _ HBQ.out) (fun hHeld => ?_)
        clear hK K
        try simp only [Act.put, sv_a, sv_0, sv_1]
        have hth := HGC.out.there 0 4 (Nat.le_refl _)
        have HST := Lib.hid (blk_over HGC.out [.int .i64 dec, .slice na2 nn nc2, .slice none 0 0, .slice none 0 0] rfl)
        refine wpAnyH_ready (rs := [7]) (by kernel_rfl) (by simp) ?_
        refine AllReadyH.cons (o := ⟨none, .store 62 (.tmp 9) (.tmp 99), 0, "law.go:228", #[⟨6, .data⟩, ⟨5, .data⟩, ⟨4, .chain⟩, ⟨0, .phase⟩, ⟨1, .phase⟩, ⟨2, .phase⟩, ⟨3, .phase⟩, ⟨4, .phase⟩, ⟨5, .phase⟩, ⟨6, .phase⟩], none⟩) rfl (fun K hK => ?_) AllReadyH.nil
        rw [if_pos (by rfl)]
        refine wp_store_mid 62 _ _ rfl gc 0 ([.int .i64 dec, .slice na2 nn nc2, .slice none 0 0, .slice none 0 0] : List Value).toArray rfl rfl hth (by kernel_rfl) (by kernel_rfl) ?_
        have HBQ := Lib.hid (HST.out.below HBQ.out (Nat.le_refl _) HGCE.out)
        refine hK.out _ _ (HSM2.out _ HBQ.out) (fun hHeld => ?_)
        clear hK K hth
        try simp only [Act.put]
        refine wpAnyH_done (by kernel_rfl) ?_ _
        go_wp2_with fail
        go_meet
        case rel => exact ⟨gc, na2, nc2, rfl, HGCE.out, HST.out.blk, HBQ.out, HST.out.rd HRN.out (HAN.out.x HBN.out (Nat.le_trans HSN.out HST.out.grown.size) HON.out).ne, HAN.out.x HBN.out (Nat.le_trans HSN.out HST.out.grown.size) HON.out⟩
       ·go_simp
        obtain ⟨U2, hU⟩ : ∃ u, u = (wm.drew).alloc (.cells #[.int .i64 0, .slice none 0 0, .slice none 0 0, .slice none 0 0] 62) := ⟨_, rfl⟩
        obtain ⟨gc, hg⟩ : ∃ g, g = wm.heap.size := ⟨_, rfl⟩
        have HGC := Lib.hid (show Blk U2 gc 62 [.int .i64 0, .slice none 0 0, .slice none 0 0, .slice none 0 0] by rw [hU, hg]; exact Blk.new (wm.drew) [.int .i64 0, .slice none 0 0, .slice none 0 0, .slice none 0 0] 62)
        have hb : Below (wm.drew).heap.size (wm.drew) U2 := by rw [hU]; exact bal (Below.refl _ _) (Nat.le_refl _) _
        have HGCE := Lib.hid (show wm.heap.size ≤ gc by rw [hg]; exact HBQ.out.size)
        first | rw [← hU] | rw [show (wm.alloc (.cells #[.int .i64 0, .slice none 0 0, .slice none 0 0, .slice none 0 0] 62)).drew = U2 from hU.symm]
        rw [← hg]
        have HBQ := Lib.hid (HBQ.out.trans (hb.mono HBQ.out.size))
        clear hU hg hb
        refine hK.out _ _ (HSM2.out _ HBQ.out) (fun hHeld => ?_)
        clear hK K
        try simp only [Act.put, sv_a, sv_0, sv_1]
        refine wpAnyH_ready (rs := [4]) (by kernel_rfl) (by simp) ?_
        refine AllReadyH.cons (o := ⟨some 98, .call { callee := .value (.func 14), args := #[.tmp 97], argTypes := #[34] }, 34, "law.go:228", #[⟨3, .data⟩], none⟩) rfl (fun K hK => ?_) AllReadyH.nil
        go_simp
        go_at_call 14
        refine (HTN.out _ HBQ.out).mono ?_
        rintro e U3 ⟨na2, nc2, rfl, hq3, hq4, hb⟩
        have HRN := Lib.hid hq3
        have HAN := Lib.hid hq4
        have HBN := Lib.hid (HBQ.out.size)
        have HON := Lib.hid (show U3.heap.size ≤ gc ∨ gc < U2.heap.size from Or.inr HGC.out.lt)
        have HGC := Lib.hid (HGC.out.below hb)
        have HSN := Lib.hid (Nat.le_refl U3.heap.size)
        have HBQ := Lib.hid (HBQ.out.trans (hb.mono HBQ.out.size))
        clear hq3 hq4 hb
        go_wp2_with fail
        refine hK.out _ _ (HSM2.out _ HBQ.out) (fun hHeld => ?_)
        clear hK K
        try simp only [Act.put, sv_a, sv_0, sv_1]
        refine wpAnyH_take (i := 5) (oi := ⟨some 99, .build 62 #[(0, .tmp 95), (1, .tmp 98)], 62, "law.go:228", #[⟨1, .data⟩, ⟨4, .data⟩], none⟩) (v := .agg ([.int .i64 dec, .slice na2 nn nc2, .slice none 0 0, .slice none 0 0] : List Value).toArray) rfl (by kernel_rfl) (by kernel_rfl) (by kernel_rfl) (fun _ _ _ h => h) (.inl ⟨by rfl, ?_⟩) (by assumption) ?_
        ·intro w hSw; (try dsimp only at hSw); go_simp; all_goals (with_reducible rfl)
        try simp only [Act.put, sv_a, sv_0, sv_1]
        have hth := HGC.out.there 0 4 (Nat.le_refl _)
        have HST := Lib.hid (blk_over HGC.out [.int .i64 dec, .slice na2 nn nc2, .slice none 0 0, .slice none 0 0] rfl)
        refine wpAnyH_ready (rs := [7]) (by kernel_rfl) (by simp) ?_
        refine AllReadyH.cons (o := ⟨none, .store 62 (.tmp 9) (.tmp 99), 0, "law.go:228", #[⟨6, .data⟩, ⟨5, .data⟩, ⟨4, .chain⟩, ⟨0, .phase⟩, ⟨1, .phase⟩, ⟨2, .phase⟩, ⟨3, .phase⟩, ⟨4, .phase⟩, ⟨5, .phase⟩, ⟨6, .phase⟩], none⟩) rfl (fun K hK => ?_) AllReadyH.nil
        rw [if_pos (by rfl)]
        refine wp_store_mid 62 _ _ rfl gc 0 ([.int .i64 dec, .slice na2 nn nc2, .slice none 0 0, .slice none 0 0] : List Value).toArray rfl rfl hth (by kernel_rfl) (by kernel_rfl) ?_
        have HBQ := Lib.hid (HST.out.below HBQ.out (Nat.le_refl _) HGCE.out)
        refine hK.out _ _ (HSM2.out _ HBQ.out) (fun hHeld => ?_)
        clear hK K hth
        try simp only [Act.put]
        refine wpAnyH_done (by kernel_rfl) ?_ _
        go_wp2_with fail
        go_meet
        case rel => exact ⟨gc, na2, nc2, rfl, HGCE.out, HST.out.blk, HBQ.out, HST.out.rd HRN.out (HAN.out.x HBN.out (Nat.le_trans HSN.out HST.out.grown.size) HON.out).ne, HAN.out.x HBN.out (Nat.le_trans HSN.out HST.out.grown.size) HON.out⟩
      case rest =>
       obtain ⟨gc, na2, nc2, rfl, hgc, hbc, hbx, hrn, han⟩ := hcut
       have HGC := Lib.hid hgc
       have HBC := Lib.hid hbc
       have HBN := Lib.hid hbx
       have HRN := Lib.hid hrn
       have HAN := Lib.hid han
       have m2 := (HFM.out.below hbx).ci 2 rfl
       obtain ⟨wn, hwn⟩ : ∃ v, v = wc := ⟨_, rfl⟩
       rw [← hwn] at HBC HBN HRN HAN m2 ⊢
       clear hgc hbc hbx hrn han hwn
       go_wp2_with fail
       clear m2
       go_loopw [10] (fun i wr => ∃ (j : Nat) (a2 : Option Addr) (c2 : Nat), j ≤ nl ∧ i = .int .i64 (j : Int) ∧ Blk wr gc 62 [.int .i64 dec, .slice na2 nn nc2, .slice a2 j c2, .slice none 0 0] ∧ (Value.slice a2 j c2).ownBlock ≠ some gc ∧ wr.ownsRow (gc + 1) 3 1 (.slice a2 j c2) j ((lens.take j).map Z) ∧ FrV gc (.slice none 0 0) wn (.slice a2 j c2) wr ∧ Below wm.heap.size wm wr) (fun i _ => nl - (intOf i).toNat)
       case atStart => exact ⟨0, none, 0, Nat.zero_le _, rfl, HBC.out, by simp [Value.ownBlock], by simpa using World.ownsRow_nil wn (gc + 1) 3 1, FrV.refl _ _ _, HBN.out⟩
       case round =>
        obtain ⟨j, a2, c2, hjn, rfl, hbk2, hno2, hown2, hfr2, hbw2⟩ := hrel
        have HBW2 := Lib.hid hbw2
        have HOWN2 := Lib.hid hown2
        have HNO2 := Lib.hid hno2
        have HBK2 := Lib.hid hbk2
        have HFR2 := Lib.hid hfr2
        have HSZ := Lib.hid (show gc + 1 ≤ wr.drew.heap.size from hbk2.lt)
        have HBX2 := Lib.hid (show Below w0.heap.size w0 wr from HBM.out.trans (hbw2.mono HBM.out.size))
        have m2 := (HFM.out.below hbw2).ci 2 rfl
        have j2 := hbk2.ci 2 rfl
        clear hbw2 hown2 hno2 hfr2
        by_cases hltj : j < nl
        ·have hltj' : (j : Int) < nl := by omega
         have hj0 : (0 : Int) ≤ j := by omega
         have hjl2 : j < lens.length := by rw [← HNL.out]; exact hltj
         have HMEJ := Lib.hid (meas_lt hltj)
         have HTKS := Lib.hid (show (lens.take (j + 1)).map Z = (lens.take j).map Z ++ [.int .i64 lens[j]] by rw [take_snoc lens j hjl2, List.map_append]; rfl)
         obtain ⟨b3, o3, haa, t0⟩ := (HML.out wr HBX2.out).2.1.at j hjl2
         obtain ⟨s, hs⟩ : ∃ s, s = lens[j] := ⟨_, rfl⟩
         dsimp only at haa t0
         rw [← hs] at HTKS t0
         subst haa
         have j2a := (hbk2.alloc (.cells #[.int .i64 s] 3)).ci 2 rfl
         clear hs hbk2
         go_wp2_with fail
         go_region_law (refine step_one wr.drew rfl _ _ 59 3 _ 1 _ inf3 Tryz.underlying59 rfl (by decide) (by decide) rfl (gc + 1) (.slice a2 j c2) j _ [.int .i64 s] rfl HOWN2.out rfl rfl (by intro z hz; simp only [List.mem_cons, List.not_mem_nil, or_false] at hz; rcases hz with rfl <;> rfl) (by omega) HSZ.out ?_; intro a3 c3 w3 hown3 hb3 hm3; (obtain ⟨hk1, hk2, ho3, hn3, hbe3, hfr3⟩ := row_stored (w := wr.drew) (i := 2) HSZ.out (Nat.le_succ _) HBK2.out (by simp) rfl HNO2.out hown3 hb3 hm3); (have hc3 := hk1.ci 2 rfl); (have hf3 := hk1.frozen 2); (have HQ1 := Lib.hid hk2); (have HQ2 := Lib.hid ho3); (have HQ3 := Lib.hid hn3); (have HQ4 := Lib.hid hbe3); (have HQ5 := Lib.hid hfr3); clear hk1 hk2 ho3 hn3 hbe3 hfr3 hown3 hb3 hm3)
         all_goals (
          go_wp2_with fail
          go_roundw
          case rel => exact ⟨j + 1, a3, c3, hltj, by go_num, HQ1.out, HQ3.out, by rw [HTKS.out]; exact HQ2.out, HFR2.out.trans ((FrV.of_below (Below.refl _ _).drew).trans HQ5.out), HBW2.out.trans ((Below.refl _ _).drew.trans (HQ4.out.mono HGC.out))⟩
          case measure => exact HMEJ.out)
        ·have hk' : ¬ (j : Int) < nl := by omega
         obtain rfl : nl = j := by omega
         have HOLN := Lib.hid (show wr.ownsRow (gc + 1) 3 1 (.slice a2 nl c2) nl (lens.map Z) by have h := HOWN2.out; rw [List.take_of_length_le (by rw [HNL.out]; exact Nat.le_refl _)] at h; exact h)
         have HFRL := Lib.hid HFR2.out
         have HBK3 := Lib.hid HBK2.out
         have HB3 := Lib.hid HBW2.out
         have m3 := (HFM.out.below HBW2.out).ci 3 rfl
         obtain ⟨wl, rfl⟩ : ∃ v, v = wr := ⟨_, rfl⟩
         obtain ⟨al, hal⟩ : ∃ a, a = a2 := ⟨_, rfl⟩
         obtain ⟨cl, hcl⟩ : ∃ a, a = c2 := ⟨_, rfl⟩
         rw [← hal, ← hcl] at HOLN HBK3 HFRL
         clear hbk2 hal hcl
         go_wp2_with fail
         clear m2 j2 m3
         go_loopw [11] (fun i wr => ∃ (j : Nat) (a2 : Option Addr) (c2 : Nat), j ≤ nv ∧ i = .int .i64 (j : Int) ∧ Blk wr gc 62 [.int .i64 dec, .slice na2 nn nc2, .slice al nl cl, .slice a2 j c2] ∧ (Value.slice a2 j c2).ownBlock ≠ some gc ∧ wr.ownsRow (gc + 1) 64 2 (.slice a2 j c2) j ((vals.take j).flatMap vlc) ∧ FrV gc (.slice none 0 0) wl (.slice a2 j c2) wr ∧ Below wm.heap.size wm wr) (fun i _ => nv - (intOf i).toNat)
         case atStart => exact ⟨0, none, 0, Nat.zero_le _, rfl, HBK3.out, by simp [Value.ownBlock], by simpa using World.ownsRow_nil wl (gc + 1) 64 2, FrV.refl _ _ _, HB3.out⟩
         case round =>
          obtain ⟨j, a2, c2, hjn, rfl, hbk2, hno2, hown2, hfr2, hbw2⟩ := hrel
          have HBW2 := Lib.hid hbw2
          have HOWN2 := Lib.hid hown2
          have HNO2 := Lib.hid hno2
          have HBK2 := Lib.hid hbk2
          have HFR2 := Lib.hid hfr2
          have HSZ := Lib.hid (show gc + 1 ≤ wr.drew.heap.size from hbk2.lt)
          have HBX2 := Lib.hid (show Below w0.heap.size w0 wr from HBM.out.trans (hbw2.mono HBM.out.size))
          have m3 := (HFM.out.below hbw2).ci 3 rfl
          have j3 := hbk2.ci 3 rfl
          clear hbw2 hown2 hno2 hfr2
          by_cases hltj : j < nv
          ·have hltj' : (j : Int) < nv := by omega
           have hj0 : (0 : Int) ≤ j := by omega
           have hjl2 : j < vals.length := by rw [← HNV.out]; exact hltj
           have HMEJ := Lib.hid (meas_lt hltj)
           have HTKS := Lib.hid (flat_snoc vlc vals j hjl2)
           obtain ⟨b3, o3, haa, t0, t1⟩ := (HML.out wr HBX2.out).2.2.at j hjl2
           obtain ⟨s, hs⟩ : ∃ s, s = vals[j] := ⟨_, rfl⟩
           dsimp only at haa t0 t1
           rw [← hs] at HTKS t0 t1
           obtain ⟨s1, s2⟩ := s
           dsimp only at t0 t1
           subst haa
           have j3a := (hbk2.alloc (.cells #[.bool s1, .int .i64 s2] 64)).ci 3 rfl
           clear hs hbk2
           go_wp2_with fail
           go_region_law (refine step_one wr.drew rfl _ _ 60 64 _ 2 _ inf64 Tryz.underlying60 rfl (by decide) (by decide) rfl (gc + 1) (.slice a2 j c2) j _ [.bool s1, .int .i64 s2] rfl HOWN2.out rfl rfl (by intro z hz; simp only [List.mem_cons, List.not_mem_nil, or_false] at hz; rcases hz with rfl | rfl <;> rfl) (by omega) HSZ.out ?_; intro a3 c3 w3 hown3 hb3 hm3; (obtain ⟨hk1, hk2, ho3, hn3, hbe3, hfr3⟩ := row_stored (w := wr.drew) (i := 3) HSZ.out (Nat.le_succ _) HBK2.out (by simp) rfl HNO2.out hown3 hb3 hm3); (have hc3 := hk1.ci 3 rfl); (have hf3 := hk1.frozen 3); (have HQ1 := Lib.hid hk2); (have HQ2 := Lib.hid ho3); (have HQ3 := Lib.hid hn3); (have HQ4 := Lib.hid hbe3); (have HQ5 := Lib.hid hfr3); clear hk1 hk2 ho3 hn3 hbe3 hfr3 hown3 hb3 hm3)
           all_goals (
            go_wp2_with fail
            go_roundw
            case rel => exact ⟨j + 1, a3, c3, hltj, by go_num, HQ1.out, HQ3.out, by rw [HTKS.out]; exact HQ2.out, HFR2.out.trans ((FrV.of_below (Below.refl _ _).drew).trans HQ5.out), HBW2.out.trans ((Below.refl _ _).drew.trans (HQ4.out.mono HGC.out))⟩
            case measure => exact HMEJ.out)
          ·have hk' : ¬ (j : Int) < nv := by omega
           obtain rfl : nv = j := by omega
           have HOL := Lib.hid (ownsRow_frv HOLN.out (Nat.lt_succ_self gc) HFR2.out)
           have HRNM := Lib.hid (rd_frv (rd_frv HRN.out HAN.out.ne HFRL.out) HAN.out.ne HFR2.out)
           have HWW := Lib.hid (show Below wo.heap.size wo wr from HBMO.out.trans (HBW2.out.mono (by rw [HSM.out]; omega)))
           have hgs := HBK.out.lt
           have HBG := Lib.hid (HBK.out.below HWW.out)
           have g13 := HBG.out.ci 13 rfl
           have j0 := HBK2.out.ci 0 rfl
           have j1 := HBK2.out.ci 1 rfl
           have j2 := HBK2.out.ci 2 rfl
           have HLEN := Lib.hid (show zs.length = k by
            have h := congrArg List.length HZS.out
            simp only [List.length_map, List.length_take] at h
            omega)
           have HGG := Lib.hid (show g < wm.heap.size by rw [HSM.out]; omega)
           have HWS := Lib.hid (show g + 1 ≤ wr.heap.size from Nat.le_trans hgs HWW.out.size)
           have hown1 : wr.ownsRow (g + 1) 62 4 (.slice a3 k c3) k (zs.flatMap mmc) := by
            have h := (HLS.out.below HWW.out).own
            rw [HLEN.out] at h
            exact h
           have hk48 : k ≤ 1048576 := by have := HSB.out.wl; dsimp only at this; omega
           clear hbk2 hgs
           go_wp2_with (first | (at_builtin; refine app_one wr rfl _ _ 33 62 _ 4 _ inf62 Tryz.underlying33 rfl (by decide) (by decide) rfl (g + 1) (.slice a3 k c3) k _ [.int .i64 dec, .slice na2 nn nc2, .slice al nl cl, .slice a2 nv c2] rfl hown1 rfl rfl (by intro z hz; simp only [List.mem_cons, List.not_mem_nil, or_false] at hz; rcases hz with rfl | rfl | rfl | rfl <;> rfl) hk48 HWS.out ?_; intro a5 c5 w3 hown3 hb3 hm3; (obtain ⟨hk1, hk2, ho3, hn3, hbe3, hfr3⟩ := row_stored (i := 13) HWS.out (Nat.le_succ _) HBG.out (by simp) rfl HNO.out hown3 hb3 hm3); (have hc3 := hk1.ci 13 rfl); (have hf3 := hk1.frozen 13); (have HQ1 := Lib.hid hk2); (have HQ2 := Lib.hid ho3); (have HQ3 := Lib.hid hn3); (have HQ4 := Lib.hid hbe3); (have HQ5 := Lib.hid hfr3); clear hk1 hk2 ho3 hn3 hbe3 hfr3 hown3 hb3 hm3) | fail)
           clear hown1
           go_roundw
           case rel =>
            have HL2 := (HLS.out.below HWW.out).step ⟨⟨dec, names, lens, vals⟩, na2, nc2, al, cl, a2, c2⟩ (g := g) (fun p hp => by
             have h1 := HGG.out
             have h2 := HGC.out
             have h3 : ∀ b, (Value.slice a3 k c3).ownBlock = some b → b < wm.heap.size := fun b e2 => by
              have h3 := (HLS.out.own.lt b e2).2
              rw [HSM.out]; omega
             have hsz := HBW2.out.size
             simp only [msub, List.mem_cons, List.not_mem_nil, or_false] at hp
             rcases hp with rfl | rfl | rfl
             ·refine ⟨HRNM.out, fun b off e => ?_⟩
              obtain ⟨q1, q2, q3⟩ := HAN.out b off e
              have hz1 := HFRL.out.1
              have hz2 := HFR2.out.1
              refine ⟨by omega, by omega, fun e2 => ?_⟩
              have := h3 b e2
              omega
             ·refine ⟨ownsRow_rd HOL.out, fun b off e => ?_⟩
              obtain ⟨q1, q2⟩ := own_ad HOL.out b off e
              refine ⟨by omega, q2, fun e2 => ?_⟩
              have := h3 b e2
              omega
             ·refine ⟨by have h := ownsRow_rd HOWN2.out; rw [List.take_of_length_le (by rw [HNV.out]; exact Nat.le_refl _)] at h; exact h, fun b off e => ?_⟩
              obtain ⟨q1, q2⟩ := own_ad HOWN2.out b off e
              refine ⟨by omega, q2, fun e2 => ?_⟩
              have := h3 b e2
              omega) (Nat.lt_succ_self _) (by rw [HLEN.out]; simp only [mmc]; rw [← HNN.out, ← HNL.out, ← HNV.out]; exact HQ2.out) HQ5.out

            refine ⟨k + 1, zs ++ [⟨⟨dec, names, lens, vals⟩, na2, nc2, al, cl, a2, c2⟩], a5, c5, hlt, by go_num, ?_, HQ1.out, HQ3.out, HL2, HFR.out.trans ((FrV.of_below HWW.out).trans HQ5.out), (HBX2.out).trans (HQ4.out.mono HGE.out)⟩
            rw [List.map_append, HZS.out, take_snoc waiting k hjl, List.map_append, ← HY.out]
            rfl
           case measure => exact HME.out

     ·have hk' : ¬ (k : Int) < nw := by omega
      obtain rfl : nw = k := by omega
      have hz := HZ.out.below hbw
      have hth := hz.there 0 15 (Nat.le_refl _)
      have hrg := HBK.out.whole
      have HST := Lib.hid (blk_over hz [.slice a1 kt c1, .slice ia2 ni ic2, .int .i64 mode, .int .i64 after, .slice wwa2 nwh wcap2, .int .i64 within, .string ⟨by_.toArray⟩, .slice ra2 nr rc2, .int .i64 cap, .int .i64 mark, .bool closed, .slice ha2 nh hc2, .slice ka2 nk kc2, .slice a3 nw c3, .slice ua2 nu uc2] rfl)
      obtain ⟨CS, hCS⟩ : ∃ CS : List Value, CS = [.slice a1 kt c1, .slice ia2 ni ic2, .int .i64 mode, .int .i64 after, .slice wwa2 nwh wcap2, .int .i64 within, .string ⟨by_.toArray⟩, .slice ra2 nr rc2, .int .i64 cap, .int .i64 mark, .bool closed, .slice ha2 nh hc2, .slice ka2 nk kc2, .slice a3 nw c3, .slice ua2 nu uc2] := ⟨_, rfl⟩
      have HCS := Lib.hid hCS
      have hsz : (Tryz.prog.info? 36).map (·.size) = some CS.length := by rw [hCS]; kernel_rfl
      have hall : CS.toArray.all (·.oneCell') = true := by rw [hCS]; kernel_rfl
      have hsz2 : (Tryz.prog.info? 36).map (·.size) = some CS.toArray.size := by rw [hCS]; kernel_rfl
      have hth2 : wo.there (w.heap.size + 1) 0 CS.toArray.size := by rw [hCS]; exact hth
      rw [← hCS] at hrg HST
      clear hbw hz hth hCS
      go_wp2_with (first | ((with_reducible refine at_dst 140 ?_); refine wpList_load_midg rfl 36 _ rfl g 0 rfl _ _ hrg Tryz.underlying36 rfl hsz ?_) | ((with_reducible refine at_store ?_); refine wpList_store_mid rfl 36 _ _ rfl (w.heap.size + 1) 0 CS.toArray rfl rfl hth2 hsz2 hall ?_) | fail)
      refine bodyPost_ret (results_cell rfl _ _ _ (w.heap.size + 1) 0 (.agg CS.toArray) rfl (run_loadVar_mid _ (w.heap.size + 1) 0 36 CS _ HST.out.blk.whole Tryz.underlying36 rfl hsz)) rfl ?_
      have hg1 : w.heap.size + 1 < w0.heap.size := HZ.out.lt
      have hg2 : w.heap.size + 1 < g + 1 := by have := HGE.out; omega
      have ht1 : ys.map Tp.ty = types.map Tp.ty := HYT.out
      have hw1 : zs.map (·.m) = waiting.map (·.m) := by rw [HZS.out, List.take_of_length_le (by rw [HNW.out]; exact Nat.le_refl _)]
      have hyl : ys.length = kt := by have h := congrArg List.length ht1; simp only [List.length_map] at h; rw [h, HNT.out]
      have hzl : zs.length = nw := by have h := congrArg List.length hw1; simp only [List.length_map] at h; rw [h, HNW.out]
      have hil : items2.length = ni := by have h := congrArg List.length HI2.out; simp only [List.length_map] at h; rw [h, HNI.out]
      have hrl : ret2.length = nr := by have h := congrArg List.length HR2.out; simp only [List.length_map] at h; rw [h, HNR.out]
      have HL1 := (HLT.out.frv (Nat.lt_succ_self g) HFR.out).frv hg2 HST.out.frv
      have HL2 := HLS.out.frv hg2 HST.out.frv
      have hyo := HL1.own
      rw [hyl] at hyo
      have hzo := HL2.own
      rw [hzl] at hzo
      have hax : ∀ a, AdX w0.heap.size g wc a → ∀ off, a ≠ some ⟨w.heap.size + 1, off, none⟩ := fun a h off e => by have := (h _ off e).1; omega
      have fq : ∀ a vs, Rd wc a vs → AdX w0.heap.size g wc a → Rd (wo.setCells (w.heap.size + 1) 0 CS) a vs := fun a vs h1 h2 => rd_frv (rd_frv (rd_frv h1 h2.ne HFT.out) h2.ne HFR.out) (hax a h2) HST.out.frv
      have hq := HRQ.out
      have haq := HAQ.out
      have hqq : (⟨items2, ia2, ic2, mode, after, wher, wwa2, wcap2, within, by_, ret2, ra2, rc2⟩ : Qm).q = (⟨items, ia, ic, mode, after, wher, wwa, wcap, within, by_, ret, ra, rc⟩ : Qm).q := by simp only [Qm.q, HI2.out, HR2.out]
      have hsb := HSB.out
      refine ⟨⟨ys, a1, c1, ⟨items2, ia2, ic2, mode, after, wher, wwa2, wcap2, within, by_, ret2, ra2, rc2⟩, cap, mark, closed, held, ha2, hc2, kept, ka2, kc2, zs, a3, c3, used, ua2, uc2⟩, ?_, ⟨⟨ownsRow_rd hyo, fun z hz => (HL1.sub z hz _ (List.mem_singleton_self _)).1⟩, ⟨⟨fq _ _ hq.1.1 haq.1, fun z hz => fq _ _ (hq.1.2 z hz) (haq.2.1 z hz)⟩, fq _ _ hq.2.1 haq.2.2.1, ⟨fq _ _ hq.2.2.1 haq.2.2.2.1, fun z hz => fq _ _ (hq.2.2.2 z hz) (haq.2.2.2.2 z hz)⟩⟩, ⟨fq _ _ HRH.out.1 HAH.out, HRH.out.2⟩, ⟨fq _ _ HRK.out.1 HAK.out, HRK.out.2⟩, ⟨ownsRow_rd hzo, fun z hz => ⟨(HL2.sub z hz (z.na, z.m.names.flatMap nmc) (by simp [msub])).1, (HL2.sub z hz (z.la, z.m.lens.map Z) (by simp [msub])).1, (HL2.sub z hz (z.va, z.m.vals.flatMap vlc) (by simp [msub])).1⟩⟩, fq _ _ HRU.out HAU.out⟩, ⟨ht1.symm, hqq.symm, rfl, rfl, rfl, rfl, rfl, hw1.symm, rfl⟩, ⟨?_, HCP2.out, ⟨?_, ?_, hsb.qb.wher, ?_, ?_⟩, ?_, hsb.cap, hsb.mark, hsb.hl, hsb.kl, ?_, hsb.ul, hsb.hb, hsb.kb, ?_, hsb.ub⟩, HST.out.below (HB0.out.trans (HBW.out.mono HB0.out.size)) (Nat.le_refl _) (Nat.le_succ _)⟩
      ·rw [HCS.out]; simp only [hyl, hzl, hil, hrl, ← HNWH.out, ← HNH.out, ← HNK.out, ← HNU.out]
      ·have := hsb.tl; dsimp only at this ⊢; rw [hyl, HNT.out]; exact this
      ·have := hsb.qb.items; dsimp only at this ⊢; rw [hil, HNI.out]; exact this
      ·intro z hz
       obtain ⟨z', h1, h2⟩ := mem_of_map HI2.out z hz
       rw [← h2]; exact hsb.qb.types z' h1
      ·have := hsb.qb.ret; dsimp only at this ⊢; rw [hrl, HNR.out]; exact this
      ·intro z hz
       obtain ⟨z', h1, h2⟩ := mem_of_map HR2.out z hz
       rw [← h2]; exact hsb.qb.trees z' h1
      ·rw [hqq]; exact hsb.qi
      ·have := hsb.wl; dsimp only at this ⊢; rw [hzl, HNW.out]; exact this
      ·intro z hz
       obtain ⟨z', h1, h2⟩ := mem_of_map hw1 z hz
       rw [← h2]; exact hsb.wb z' h1
end Go.Proofs.YtfglgpbjjpoimaaGreatDoor
