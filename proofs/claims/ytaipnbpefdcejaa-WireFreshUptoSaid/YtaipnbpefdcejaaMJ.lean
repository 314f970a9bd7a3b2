/- Joined by wip/tools/merge.py out of: Alike. -/
import Derived.Test.YtaipnbpefdcejaaME
import Derived.Test.YtaipnbpefdcejaaMB
import Derived.StillTailTactics
/- The walk of the reference's Alike. -/
set_option linter.unusedVariables false
namespace Go.Proofs.Ytaipnbpefdcejaa
open Go.RowKit
/-- Are two messages the same? -/
def AlPost (m m2 : M) (w : World) (e : Ending) (w' : World) : Prop := ∃ b : Bool, e = .returned (.bool b) ∧ (b = true ↔ m = m2) ∧ Below w.heap.size w w'
theorem al_no {m m2 : M} {w w' : World} (h : m ≠ m2) (hb : Below w.heap.size w w') : AlPost m m2 w (.returned (.bool false)) w' := ⟨false, rfl, ⟨fun e => (Bool.false_ne_true e).elim, fun e => (h e).elim⟩, hb⟩
theorem bytes_inj {a b : ByteArray} (h : a.toList = b.toList) : a = b := by
  rw [ByteArray.toList_eq, ByteArray.toList_eq] at h
  exact ByteArray.ext (Array.toList_inj.1 h)
theorem al_iff {m m2 : M} {eE eZ eF : Bool} (h : m.kind = m2.kind ∧ m.handle = m2.handle ∧ m.num = m2.num ∧ eE = true ∧ eZ = true ∧ eF = true ∧ m.code = m2.code ∧ m.schema.toList = m2.schema.toList ∧ m.query.toList = m2.query.toList)
    (hE : eE = true ↔ (m.ts = m2.ts ∧ m.id = m2.id ∧ m.typ = m2.typ ∧ m.a0 = m2.a0 ∧ m.a1 = m2.a1 ∧ m.a2 = m2.a2 ∧ m.a3 = m2.a3 ∧ m.a4 = m2.a4 ∧ m.a5 = m2.a5 ∧ m.a6 = m2.a6 ∧ m.a7 = m2.a7))
    (hZ : eZ = true ↔ (m.mark = m2.mark ∧ m.closed = m2.closed ∧ m.held = m2.held ∧ m.kept = m2.kept ∧ m.waiting = m2.waiting ∧ m.parts = m2.parts))
    (hF : eF = true ↔ (m.fwhere = m2.fwhere ∧ m.fcode = m2.fcode ∧ m.fat = m2.fat)) (hd : m.dec = m2.dec) (hn : m.names = m2.names) (hl : m.lens = m2.lens) (hv : m.vals = m2.vals) : m.image = m2.image ↔ m = m2 := by
  refine ⟨fun hi => ?_, fun h => by rw [h]⟩
  obtain ⟨g1, g2, g3, gE, gZ, gF, g4, g5, g6⟩ := h
  have g5 := bytes_inj g5
  have g6 := bytes_inj g6
  obtain ⟨e1, e2, e3, e4, e5, e6, e7, e8, e9, e10, e11⟩ := hE.1 gE
  obtain ⟨z1, z2, z3, z4, z5, z6⟩ := hZ.1 gZ
  obtain ⟨f1, f2, f3⟩ := hF.1 gF
  cases m
  cases m2
  simp_all
set_option maxHeartbeats 8000000 in
set_option maxRecDepth 20000 in
theorem alike_any (m m2 : M) (p q : Ps) (w : World) (hwf : WfM m) (hwf2 : WfM m2) (hr : MRd w m p) (hr2 : MRd w m2 q) : Calls Try.prog 29 #[valM m p, valM m2 q] w (AlPost m m2 w) := by
  obtain ⟨v0, hv0⟩ : ∃ v, v = valM m p := ⟨_, rfl⟩
  obtain ⟨v1, hv1⟩ : ∃ v, v = valM m2 q := ⟨_, rfl⟩
  obtain ⟨w1, hw1⟩ : ∃ w1, w1 = (w.alloc (.cells (cellsM m p).toArray 50)).alloc (.cells (cellsM m2 q).toArray 50) := ⟨_, rfl⟩
  have hb1 : Below w.heap.size w w1 := by rw [hw1]; exact ((Below.refl _ _).alloc (Nat.le_refl _) _).alloc (by simp) _
  have hk1 : Blk w1 w.heap.size 50 (cellsM m p) := by rw [hw1]; exact (Blk.new w _ 50).alloc _
  have hj1 : Blk w1 (w.heap.size + 1) 50 (cellsM m2 q) := by
    have := Blk.new (w.alloc (.cells (cellsM m p).toArray 50)) (cellsM m2 q) 50
    rw [World.size_alloc] at this
    rw [hw1]
    exact this
  have hr1 := hr.below hb1
  have hr12 := hr2.below hb1
  unfold cellsM at hw1
  unfold valM cellsM at hv0 hv1
  unfold valM cellsM
  go_enter Try.func29, Try.ntmps29
  go_upto_region 1 with fail
  rw [← hw1, ← hv0, ← hv1]
  clear hw1 hv0 hv1 hr hr2
  obtain ⟨ga, hga⟩ : ∃ g, g = w.heap.size := ⟨_, rfl⟩
  rw [← hga] at hk1 hj1 ⊢
  have HK := Lib.hid hk1
  have HJ := Lib.hid hj1
  have HB := Lib.hid hb1
  have HR := Lib.hid hr1
  have HR2 := Lib.hid hr12
  clear hk1 hj1 hb1 hr1 hr12 hga
  have hc0 : w1.cell? ⟨ga, 0, none⟩ = some (.int .i64 m.kind) := HK.out.cell 0 (by rw [cellsM_len]; omega)
  have hd0 : w1.cell? ⟨ga + 1, 0, none⟩ = some (.int .i64 m2.kind) := HJ.out.cell 0 (by rw [cellsM_len]; omega)
  have hc1 : w1.cell? ⟨ga, 1, none⟩ = some (.int .i64 m.handle) := HK.out.cell 1 (by rw [cellsM_len]; omega)
  have hd1 : w1.cell? ⟨ga + 1, 1, none⟩ = some (.int .i64 m2.handle) := HJ.out.cell 1 (by rw [cellsM_len]; omega)
  have hc2 : w1.cell? ⟨ga, 2, none⟩ = some (.int .i64 m.num) := HK.out.cell 2 (by rw [cellsM_len]; omega)
  have hd2 : w1.cell? ⟨ga + 1, 2, none⟩ = some (.int .i64 m2.num) := HJ.out.cell 2 (by rw [cellsM_len]; omega)
  have hc3 : w1.cell? ⟨ga, 3, none⟩ = some (.int .i64 m.ts) := HK.out.cell 3 (by rw [cellsM_len]; omega)
  have hd3 : w1.cell? ⟨ga + 1, 3, none⟩ = some (.int .i64 m2.ts) := HJ.out.cell 3 (by rw [cellsM_len]; omega)
  have hc4 : w1.cell? ⟨ga, 4, none⟩ = some (.int .u64 m.id) := HK.out.cell 4 (by rw [cellsM_len]; omega)
  have hd4 : w1.cell? ⟨ga + 1, 4, none⟩ = some (.int .u64 m2.id) := HJ.out.cell 4 (by rw [cellsM_len]; omega)
  have hc5 : w1.cell? ⟨ga, 5, none⟩ = some (.int .i64 m.typ) := HK.out.cell 5 (by rw [cellsM_len]; omega)
  have hd5 : w1.cell? ⟨ga + 1, 5, none⟩ = some (.int .i64 m2.typ) := HJ.out.cell 5 (by rw [cellsM_len]; omega)
  have hc6 : w1.cell? ⟨ga, 6, none⟩ = some (.int .i64 m.a0) := HK.out.cell 6 (by rw [cellsM_len]; omega)
  have hd6 : w1.cell? ⟨ga + 1, 6, none⟩ = some (.int .i64 m2.a0) := HJ.out.cell 6 (by rw [cellsM_len]; omega)
  have hc7 : w1.cell? ⟨ga, 7, none⟩ = some (.int .i64 m.a1) := HK.out.cell 7 (by rw [cellsM_len]; omega)
  have hd7 : w1.cell? ⟨ga + 1, 7, none⟩ = some (.int .i64 m2.a1) := HJ.out.cell 7 (by rw [cellsM_len]; omega)
  have hc8 : w1.cell? ⟨ga, 8, none⟩ = some (.int .i64 m.a2) := HK.out.cell 8 (by rw [cellsM_len]; omega)
  have hd8 : w1.cell? ⟨ga + 1, 8, none⟩ = some (.int .i64 m2.a2) := HJ.out.cell 8 (by rw [cellsM_len]; omega)
  have hc9 : w1.cell? ⟨ga, 9, none⟩ = some (.int .i64 m.a3) := HK.out.cell 9 (by rw [cellsM_len]; omega)
  have hd9 : w1.cell? ⟨ga + 1, 9, none⟩ = some (.int .i64 m2.a3) := HJ.out.cell 9 (by rw [cellsM_len]; omega)
  have hc10 : w1.cell? ⟨ga, 10, none⟩ = some (.int .i64 m.a4) := HK.out.cell 10 (by rw [cellsM_len]; omega)
  have hd10 : w1.cell? ⟨ga + 1, 10, none⟩ = some (.int .i64 m2.a4) := HJ.out.cell 10 (by rw [cellsM_len]; omega)
  have hc11 : w1.cell? ⟨ga, 11, none⟩ = some (.int .i64 m.a5) := HK.out.cell 11 (by rw [cellsM_len]; omega)
  have hd11 : w1.cell? ⟨ga + 1, 11, none⟩ = some (.int .i64 m2.a5) := HJ.out.cell 11 (by rw [cellsM_len]; omega)
  have hc12 : w1.cell? ⟨ga, 12, none⟩ = some (.int .i64 m.a6) := HK.out.cell 12 (by rw [cellsM_len]; omega)
  have hd12 : w1.cell? ⟨ga + 1, 12, none⟩ = some (.int .i64 m2.a6) := HJ.out.cell 12 (by rw [cellsM_len]; omega)
  have hc13 : w1.cell? ⟨ga, 13, none⟩ = some (.int .i64 m.a7) := HK.out.cell 13 (by rw [cellsM_len]; omega)
  have hd13 : w1.cell? ⟨ga + 1, 13, none⟩ = some (.int .i64 m2.a7) := HJ.out.cell 13 (by rw [cellsM_len]; omega)
  have hc18 : w1.cell? ⟨ga, 18, none⟩ = some (.int .i64 m.mark) := HK.out.cell 18 (by rw [cellsM_len]; omega)
  have hd18 : w1.cell? ⟨ga + 1, 18, none⟩ = some (.int .i64 m2.mark) := HJ.out.cell 18 (by rw [cellsM_len]; omega)
  have hc19 : w1.cell? ⟨ga, 19, none⟩ = some (.bool m.closed) := HK.out.cell 19 (by rw [cellsM_len]; omega)
  have hd19 : w1.cell? ⟨ga + 1, 19, none⟩ = some (.bool m2.closed) := HJ.out.cell 19 (by rw [cellsM_len]; omega)
  have hc20 : w1.cell? ⟨ga, 20, none⟩ = some (.int .i64 m.held) := HK.out.cell 20 (by rw [cellsM_len]; omega)
  have hd20 : w1.cell? ⟨ga + 1, 20, none⟩ = some (.int .i64 m2.held) := HJ.out.cell 20 (by rw [cellsM_len]; omega)
  have hc21 : w1.cell? ⟨ga, 21, none⟩ = some (.int .i64 m.kept) := HK.out.cell 21 (by rw [cellsM_len]; omega)
  have hd21 : w1.cell? ⟨ga + 1, 21, none⟩ = some (.int .i64 m2.kept) := HJ.out.cell 21 (by rw [cellsM_len]; omega)
  have hc22 : w1.cell? ⟨ga, 22, none⟩ = some (.int .i64 m.waiting) := HK.out.cell 22 (by rw [cellsM_len]; omega)
  have hd22 : w1.cell? ⟨ga + 1, 22, none⟩ = some (.int .i64 m2.waiting) := HJ.out.cell 22 (by rw [cellsM_len]; omega)
  have hc23 : w1.cell? ⟨ga, 23, none⟩ = some (.int .i64 m.parts) := HK.out.cell 23 (by rw [cellsM_len]; omega)
  have hd23 : w1.cell? ⟨ga + 1, 23, none⟩ = some (.int .i64 m2.parts) := HJ.out.cell 23 (by rw [cellsM_len]; omega)
  have hc24 : w1.cell? ⟨ga, 24, none⟩ = some (.int .i64 m.fwhere) := HK.out.cell 24 (by rw [cellsM_len]; omega)
  have hd24 : w1.cell? ⟨ga + 1, 24, none⟩ = some (.int .i64 m2.fwhere) := HJ.out.cell 24 (by rw [cellsM_len]; omega)
  have hc25 : w1.cell? ⟨ga, 25, none⟩ = some (.int .i64 m.fcode) := HK.out.cell 25 (by rw [cellsM_len]; omega)
  have hd25 : w1.cell? ⟨ga + 1, 25, none⟩ = some (.int .i64 m2.fcode) := HJ.out.cell 25 (by rw [cellsM_len]; omega)
  have hc26 : w1.cell? ⟨ga, 26, none⟩ = some (.int .i64 m.fat) := HK.out.cell 26 (by rw [cellsM_len]; omega)
  have hd26 : w1.cell? ⟨ga + 1, 26, none⟩ = some (.int .i64 m2.fat) := HJ.out.cell 26 (by rw [cellsM_len]; omega)
  have hc27 : w1.cell? ⟨ga, 27, none⟩ = some (.int .i64 m.code) := HK.out.cell 27 (by rw [cellsM_len]; omega)
  have hd27 : w1.cell? ⟨ga + 1, 27, none⟩ = some (.int .i64 m2.code) := HJ.out.cell 27 (by rw [cellsM_len]; omega)
  have hc28 : w1.cell? ⟨ga, 28, none⟩ = some (.string m.schema) := HK.out.cell 28 (by rw [cellsM_len]; omega)
  have hd28 : w1.cell? ⟨ga + 1, 28, none⟩ = some (.string m2.schema) := HJ.out.cell 28 (by rw [cellsM_len]; omega)
  have hc29 : w1.cell? ⟨ga, 29, none⟩ = some (.string m.query) := HK.out.cell 29 (by rw [cellsM_len]; omega)
  have hd29 : w1.cell? ⟨ga + 1, 29, none⟩ = some (.string m2.query) := HJ.out.cell 29 (by rw [cellsM_len]; omega)
  obtain ⟨eE, hE1, hE2⟩ := ev_two m.ts m.id m.typ m.a0 m.a1 m.a2 m.a3 m.a4 m.a5 m.a6 m.a7 m2.ts m2.id m2.typ m2.a0 m2.a1 m2.a2 m2.a3 m2.a4 m2.a5 m2.a6 m2.a7
  obtain ⟨eZ, hZ1, hZ2⟩ := sz_two m.mark m.closed m.held m.kept m.waiting m.parts m2.mark m2.closed m2.held m2.kept m2.waiting m2.parts
  obtain ⟨eF, hF1, hF2⟩ := ft_two m.fwhere m.fcode m.fat m2.fwhere m2.fcode m2.fat
  have HE2 := Lib.hid hE2
  have HZ2 := Lib.hid hZ2
  have HF2 := Lib.hid hF2
  clear hE2 hZ2 hF2
  go_cut [70] from 10 (fun s70 wx => ∃ b : Bool, s70 = .bool b ∧ (b = true ↔ ¬ (m.kind = m2.kind ∧ m.handle = m2.handle ∧ m.num = m2.num ∧ eE = true ∧ eZ = true ∧ eF = true ∧ m.code = m2.code ∧ m.schema.toList = m2.schema.toList ∧ m.query.toList = m2.query.toList)) ∧ wx = w1)
  case first =>
    as_aux_lemma =>
      go_wp2_with fail
      all_goals (go_meet; case rel => exact ⟨_, rfl, by simp_all, rfl⟩)
  case rest =>
    obtain ⟨b1, rfl, hb1, rfl⟩ := hcut
    have HB1 := Lib.hid hb1
    clear hE1 hZ1 hF1 hb1
    cases b1
    case true =>
      go_wp2_with fail
      go_ret
      refine al_no (fun h => HB1.out.1 trivial ?_) HB.out
      subst h
      exact ⟨rfl, rfl, rfl, HE2.out.2 (by simp), HZ2.out.2 (by simp), HF2.out.2 (by simp), rfl, rfl, rfl⟩
    case false =>
      have hall : m.kind = m2.kind ∧ m.handle = m2.handle ∧ m.num = m2.num ∧ eE = true ∧ eZ = true ∧ eF = true ∧ m.code = m2.code ∧ m.schema.toList = m2.schema.toList ∧ m.query.toList = m2.query.toList := Classical.byContradiction fun h => by have := HB1.out.2 h; cases this
      have HALL := Lib.hid hall
      clear hall
      clear hc0 hd0 hc1 hd1 hc2 hd2 hc3 hd3 hc4 hd4 hc5 hd5 hc6 hd6 hc7 hd7 hc8 hd8 hc9 hd9 hc10 hd10 hc11 hd11 hc12 hd12 hc13 hd13 hc18 hd18 hc19 hd19 hc20 hd20 hc21 hd21 hc22 hd22 hc23 hd23 hc24 hd24 hc25 hd25 hc26 hd26 hc27 hd27 hc28 hd28 hc29 hd29
      obtain ⟨n1, hn1⟩ : ∃ n, n = m.names.length := ⟨_, rfl⟩
      obtain ⟨l1, hl1⟩ : ∃ n, n = m.lens.length := ⟨_, rfl⟩
      obtain ⟨u1, hu1⟩ : ∃ n, n = m.vals.length := ⟨_, rfl⟩
      obtain ⟨n2, hn2⟩ : ∃ n, n = m2.names.length := ⟨_, rfl⟩
      obtain ⟨l2, hl2⟩ : ∃ n, n = m2.lens.length := ⟨_, rfl⟩
      obtain ⟨u2, hu2⟩ : ∃ n, n = m2.vals.length := ⟨_, rfl⟩
      have hc14 : wc.cell? ⟨ga, 14, none⟩ = some (.int .i64 m.dec) := HK.out.cell 14 (by rw [cellsM_len]; omega)
      have hc15 : wc.cell? ⟨ga, 15, none⟩ = some (.slice p.an n1 p.cn) := by rw [hn1]; exact HK.out.cell 15 (by rw [cellsM_len]; omega)
      have hc16 : wc.cell? ⟨ga, 16, none⟩ = some (.slice p.al l1 p.cl) := by rw [hl1]; exact HK.out.cell 16 (by rw [cellsM_len]; omega)
      have hc17 : wc.cell? ⟨ga, 17, none⟩ = some (.slice p.av u1 p.cv) := by rw [hu1]; exact HK.out.cell 17 (by rw [cellsM_len]; omega)
      have hd14 : wc.cell? ⟨ga + 1, 14, none⟩ = some (.int .i64 m2.dec) := HJ.out.cell 14 (by rw [cellsM_len]; omega)
      have hd15 : wc.cell? ⟨ga + 1, 15, none⟩ = some (.slice q.an n2 q.cn) := by rw [hn2]; exact HJ.out.cell 15 (by rw [cellsM_len]; omega)
      have hd16 : wc.cell? ⟨ga + 1, 16, none⟩ = some (.slice q.al l2 q.cl) := by rw [hl2]; exact HJ.out.cell 16 (by rw [cellsM_len]; omega)
      have hd17 : wc.cell? ⟨ga + 1, 17, none⟩ = some (.slice q.av u2 q.cv) := by rw [hu2]; exact HJ.out.cell 17 (by rw [cellsM_len]; omega)
      have HN1 := Lib.hid hn1
      have HL1 := Lib.hid hl1
      have HU1 := Lib.hid hu1
      have HN2 := Lib.hid hn2
      have HL2 := Lib.hid hl2
      have HU2 := Lib.hid hu2
      clear hn1 hl1 hu1 hn2 hl2 hu2
      go_upto_region 3 with fail
      go_cut [5, 6] from 10 (fun s5 s6 wx => ∃ gx gy : Nat, s5 = .pointer (some ⟨gx, 0, none⟩) ∧ s6 = .pointer (some ⟨gy, 0, none⟩) ∧ Blk wx gx 44 (cellsK m p) ∧ Blk wx gy 44 (cellsK m2 q) ∧ Below wc.heap.size wc wx)
      case first =>
        have hbx : ∀ (A C : Obj), Below wc.heap.size wc ((wc.alloc A).alloc C).drew := fun A C => (((Below.refl _ _).alloc (Nat.le_refl _) A).alloc (by simp) C).drew
        have hb1 : ∀ (cs ds : List Value), Blk ((wc.alloc (.cells cs.toArray 44)).alloc (.cells ds.toArray 44)).drew wc.heap.size 44 cs := fun cs ds => (Blk.new wc cs 44).alloc _
        have hb2 : ∀ (cs ds : List Value), Blk ((wc.alloc (.cells cs.toArray 44)).alloc (.cells ds.toArray 44)).drew (wc.heap.size + 1) 44 ds := fun cs ds => by
          have := Blk.new (wc.alloc (.cells cs.toArray 44)) ds 44
          rw [World.size_alloc] at this
          exact this
        have hcp : cellsK m p = [.int .i64 m.dec, .slice p.an n1 p.cn, .slice p.al l1 p.cl, .slice p.av u1 p.cv] := by rw [HN1.out, HL1.out, HU1.out]; rfl
        have hcq : cellsK m2 q = [.int .i64 m2.dec, .slice q.an n2 q.cn, .slice q.al l2 q.cl, .slice q.av u2 q.cv] := by rw [HN2.out, HL2.out, HU2.out]; rfl
        have HBX := Lib.hid hbx
        have HB7 := Lib.hid hb1
        have HB8 := Lib.hid hb2
        have HCP := Lib.hid hcp
        have HCQ := Lib.hid hcq
        clear hbx hb1 hb2 hcp hcq
        have hg1 : ga < wc.heap.size := HK.out.lt
        have hg2 : ga + 1 < wc.heap.size := HJ.out.lt
        have hg3 : ga < wc.heap.size + 1 := by omega
        have hg4 : ga + 1 < wc.heap.size + 1 := by omega
        go_region_held3 (fun W => (W.cell? ⟨ga, 14, none⟩ = some (.int .i64 m.dec) ∧ W.cell? ⟨ga, 15, none⟩ = some (.slice p.an n1 p.cn) ∧ W.cell? ⟨ga, 16, none⟩ = some (.slice p.al l1 p.cl) ∧ W.cell? ⟨ga, 17, none⟩ = some (.slice p.av u1 p.cv)) ∧ W.cell? ⟨ga + 1, 14, none⟩ = some (.int .i64 m2.dec) ∧ W.cell? ⟨ga + 1, 15, none⟩ = some (.slice q.an n2 q.cn) ∧ W.cell? ⟨ga + 1, 16, none⟩ = some (.slice q.al l2 q.cl) ∧ W.cell? ⟨ga + 1, 17, none⟩ = some (.slice q.av u2 q.cv)) (first | exact ⟨⟨hc14, hc15, hc16, hc17⟩, hd14, hd15, hd16, hd17⟩ | simp [World.cell?_alloc_lt, hg1, hg2, hg3, hg4, hc14, hc15, hc16, hc17, hd14, hd15, hd16, hd17]) (fail)
        · go_wp2
          go_meet
          case rel =>
            rw [HCP.out, HCQ.out]
            exact ⟨wc.heap.size, wc.heap.size + 1, rfl, rfl, HB7.out _ _, HB8.out _ _, HBX.out _ _⟩
        · go_wp2
          go_meet
          case rel =>
            rw [HCP.out, HCQ.out]
            exact ⟨wc.heap.size + 1, wc.heap.size, rfl, rfl, HB8.out _ _, HB7.out _ _, HBX.out _ _⟩
      case rest =>
        obtain ⟨gx, gy, rfl, rfl, hx, hy, hbw⟩ := hcut
        have HX := Lib.hid hx
        have HY := Lib.hid hy
        have hbw2 := HB.out.trans (hbw.mono HB.out.size)
        have hra := HR.out.below hbw
        have hrb := HR2.out.below hbw
        have HBW := Lib.hid hbw2
        have hka := HK.out.below hbw
        have hkb := HJ.out.below hbw
        have HKA := Lib.hid hka
        have HKB := Lib.hid hkb
        clear hka hkb
        have HRA := Lib.hid hra
        have HRB := Lib.hid hrb
        clear hbw2 hra hrb
        have hx0 : wc.cell? ⟨gx, 0, none⟩ = some (.int .i64 m.dec) := HX.out.cell 0 (by simp [cellsK])
        have hx1 : wc.cell? ⟨gx, 1, none⟩ = some (.slice p.an n1 p.cn) := by rw [HN1.out]; exact HX.out.cell 1 (by simp [cellsK])
        have hx2 : wc.cell? ⟨gx, 2, none⟩ = some (.slice p.al l1 p.cl) := by rw [HL1.out]; exact HX.out.cell 2 (by simp [cellsK])
        have hx3 : wc.cell? ⟨gx, 3, none⟩ = some (.slice p.av u1 p.cv) := by rw [HU1.out]; exact HX.out.cell 3 (by simp [cellsK])
        have hy0 : wc.cell? ⟨gy, 0, none⟩ = some (.int .i64 m2.dec) := HY.out.cell 0 (by simp [cellsK])
        have hy1 : wc.cell? ⟨gy, 1, none⟩ = some (.slice q.an n2 q.cn) := by rw [HN2.out]; exact HY.out.cell 1 (by simp [cellsK])
        have hy2 : wc.cell? ⟨gy, 2, none⟩ = some (.slice q.al l2 q.cl) := by rw [HL2.out]; exact HY.out.cell 2 (by simp [cellsK])
        have hy3 : wc.cell? ⟨gy, 3, none⟩ = some (.slice q.av u2 q.cv) := by rw [HU2.out]; exact HY.out.cell 3 (by simp [cellsK])
        clear hx hy hbw
        clear hc14 hc15 hc16 hc17 hd14 hd15 hd16 hd17 HK HJ HB HR HR2
        go_upto_region 4 with fail
        go_cut [106] from 10 (fun s106 wx => ∃ b : Bool, s106 = .bool b ∧ (b = true ↔ ¬ (m.dec = m2.dec ∧ (n1 : Int) = n2 ∧ (l1 : Int) = l2 ∧ (u1 : Int) = u2)) ∧ wx = wc)
        case first =>
          as_aux_lemma =>
            go_wp2_with fail
            all_goals (go_meet; case rel => exact ⟨_, rfl, by simp_all, rfl⟩)
        case rest =>
          obtain ⟨b2, rfl, hb2, rfl⟩ := hcut
          have H2 := Lib.hid hb2
          clear hb2
          cases b2
          case true =>
            go_wp2_with fail
            go_ret
            refine al_no (fun h => H2.out.1 trivial ?_) HBW.out
            rw [HN1.out, HN2.out, HL1.out, HL2.out, HU1.out, HU2.out]
            subst h
            exact ⟨rfl, rfl, rfl, rfl⟩
          case false =>
            obtain ⟨hdec, hnn, hll, huu⟩ : m.dec = m2.dec ∧ (n1 : Int) = n2 ∧ (l1 : Int) = l2 ∧ (u1 : Int) = u2 := Classical.byContradiction fun h => by have := H2.out.2 h; cases this
            obtain rfl : n1 = n2 := by omega
            obtain rfl : l1 = l2 := by omega
            obtain rfl : u1 = u2 := by omega
            clear hnn hll huu
            have HDEC := Lib.hid hdec
            clear hdec H2
            have hbz : ∀ n, Below w.heap.size w (wc.drewN n) := fun n => HBW.out.trans (below_draws _)
            have HBZ := Lib.hid hbz
            clear hbz
            obtain ⟨wc', hwc⟩ : ∃ x, x = wc := ⟨_, rfl⟩
            have bn1 : n1 ≤ 1073741824 := by rw [HN1.out]; exact hwf.nl
            have bl1 : l1 ≤ 1073741824 := by rw [HL1.out]; exact hwf.ll
            have bu1 : u1 ≤ 1073741824 := by rw [HU1.out]; exact hwf.vl
            clear hwc
            go_wp2_with fail
            go_loopw [7] (fun i wr => ∃ k n : Nat, k ≤ n1 ∧ i = .int .i64 (k : Int) ∧ m.names.take k = m2.names.take k ∧ wr = wc.drewN n) (fun i _ => n1 - (intOf i).toNat)
            case atStart => exact ⟨0, 0, Nat.zero_le _, rfl, rfl, rfl⟩
            case round =>
              obtain ⟨k, dn, hk, rfl, hal, rfl⟩ := hrel
              have HA := Lib.hid hal
              clear hal
              by_cases hlt : k < n1
              · have hkl : k < m.names.length := by rw [← HN1.out]; exact hlt
                have hkl2 : k < m2.names.length := by rw [← HN2.out]; exact hlt
                obtain ⟨b, off, hav, ha1, ha2⟩ := HRA.out.1.nat k hkl
                obtain ⟨b', off', hav', hb1, hb2⟩ := HRB.out.1.nat k hkl2
                have hlt' : (k : Int) < n1 := by omega
                have hst := take_snoc m.names k hkl
                have hst2 := take_snoc m2.names k hkl2
                obtain ⟨⟨x, y⟩, hx⟩ : ∃ v, v = m.names[k] := ⟨_, rfl⟩
                obtain ⟨⟨x', y'⟩, hx'⟩ : ∃ v, v = m2.names[k] := ⟨_, rfl⟩
                rw [← hx] at ha1 ha2 hst
                rw [← hx'] at hb1 hb2 hst2
                dsimp only at ha1 ha2 hb1 hb2
                rw [hav] at hx1
                rw [hav'] at hy1
                obtain ⟨e, he1, he2⟩ := nm_two x y x' y'
                have HST := Lib.hid hst
                have HST2 := Lib.hid hst2
                have HX := Lib.hid hx
                have HX2 := Lib.hid hx'
                have HE := Lib.hid he2
                have HME := Lib.hid (meas_lt hlt)
                clear hst hst2 hx hx' he2 hav hav'
                cases e
                · go_wp2_with (go_quiet (fail))
                  go_ret
                  refine al_no (fun h => ?_) (by rw [World.drewN_drewN]; exact HBZ.out _)
                  have h1 : (x, y) = (x', y') := by rw [HX.out, HX2.out]; simp only [h]
                  have h2 := HE.out.2 ⟨congrArg Prod.fst h1, congrArg Prod.snd h1⟩
                  cases h2
                · have hxy := HE.out.1 rfl
                  have hxx : (x, y) = (x', y') := by rw [hxy.1, hxy.2]
                  have HXX := Lib.hid hxx
                  clear hxy hxx
                  go_wp2_with (go_quiet (fail))
                  go_roundw
                  case rel => exact ⟨k + 1, _, hlt, by go_num, by rw [HST.out, HST2.out, HA.out, HXX.out], rfl⟩
                  case measure => exact HME.out
              · have hlt' : ¬ (k : Int) < n1 := by omega
                have hNM : m.names = m2.names := by
                  have := HA.out
                  rw [List.take_of_length_le (by rw [← HN1.out]; omega), List.take_of_length_le (by rw [← HN2.out]; omega)] at this
                  exact this
                have HNM := Lib.hid hNM
                clear HA hlt hk hNM
                go_wp2_with fail
                go_loopw [8] (fun i wr => ∃ k n : Nat, k ≤ l1 ∧ i = .int .i64 (k : Int) ∧ m.lens.take k = m2.lens.take k ∧ wr = wc.drewN n) (fun i _ => l1 - (intOf i).toNat)
                case atStart => exact ⟨0, dn, Nat.zero_le _, rfl, rfl, rfl⟩
                case round =>
                  clear hlt'
                  obtain ⟨k, dn, hk, rfl, hal, rfl⟩ := hrel
                  have HA := Lib.hid hal
                  clear hal
                  by_cases hlt : k < l1
                  · have hkl : k < m.lens.length := by rw [← HL1.out]; exact hlt
                    have hkl2 : k < m2.lens.length := by rw [← HL2.out]; exact hlt
                    obtain ⟨b, off, hav, ha1⟩ := HRA.out.2.1.zat k hkl
                    obtain ⟨b', off', hav', hb1⟩ := HRB.out.2.1.zat k hkl2
                    have hlt' : (k : Int) < l1 := by omega
                    have hst := take_snoc m.lens k hkl
                    have hst2 := take_snoc m2.lens k hkl2
                    obtain ⟨x, hx⟩ : ∃ v, v = m.lens[k] := ⟨_, rfl⟩
                    obtain ⟨x', hx'⟩ : ∃ v, v = m2.lens[k] := ⟨_, rfl⟩
                    rw [← hx] at ha1 hst
                    rw [← hx'] at hb1 hst2
                    rw [hav] at hx2
                    rw [hav'] at hy2
                    have HST := Lib.hid hst
                    have HST2 := Lib.hid hst2
                    have HXE := Lib.hid hx
                    have HXE2 := Lib.hid hx'
                    have HME := Lib.hid (meas_lt hlt)
                    clear hst hst2 hx hx' hav hav'
                    by_cases hxx : x = x'
                    · subst hxx
                      have hxn := neq_of (a := x) (b := x) rfl
                      go_wp2_with (go_quiet (fail))
                      go_roundw
                      case rel => exact ⟨k + 1, _, hlt, by go_num, by rw [HST.out, HST2.out, HA.out], rfl⟩
                      case measure => exact HME.out
                    · have hxn := neq_of' hxx
                      have HXX := Lib.hid hxx
                      clear hxx
                      go_wp2_with (go_quiet (fail))
                      go_ret
                      refine al_no (fun h => HXX.out ?_) (by rw [World.drewN_drewN]; exact HBZ.out _)
                      rw [HXE.out, HXE2.out]
                      simp only [h]
                  · have hlt' : ¬ (k : Int) < l1 := by omega
                    have hLM : m.lens = m2.lens := by
                      have := HA.out
                      rw [List.take_of_length_le (by rw [← HL1.out]; omega), List.take_of_length_le (by rw [← HL2.out]; omega)] at this
                      exact this
                    have HLM := Lib.hid hLM
                    clear HA hlt hk hLM
                    go_wp2_with fail
                    go_loopw [9] (fun i wr => ∃ k n : Nat, k ≤ u1 ∧ i = .int .i64 (k : Int) ∧ m.vals.take k = m2.vals.take k ∧ wr = wc.drewN n) (fun i _ => u1 - (intOf i).toNat)
                    case atStart => exact ⟨0, dn, Nat.zero_le _, rfl, rfl, rfl⟩
                    case round =>
                      clear hlt'
                      obtain ⟨k, dn, hk, rfl, hal, rfl⟩ := hrel
                      have HA := Lib.hid hal
                      clear hal
                      by_cases hlt : k < u1
                      · have hkl : k < m.vals.length := by rw [← HU1.out]; exact hlt
                        have hkl2 : k < m2.vals.length := by rw [← HU2.out]; exact hlt
                        obtain ⟨b, off, hav, ha1, ha2⟩ := HRA.out.2.2.1.vat k hkl
                        obtain ⟨b', off', hav', hb1, hb2⟩ := HRB.out.2.2.1.vat k hkl2
                        have hlt' : (k : Int) < u1 := by omega
                        have hst := take_snoc m.vals k hkl
                        have hst2 := take_snoc m2.vals k hkl2
                        obtain ⟨⟨x, y⟩, hx⟩ : ∃ v, v = m.vals[k] := ⟨_, rfl⟩
                        obtain ⟨⟨x', y'⟩, hx'⟩ : ∃ v, v = m2.vals[k] := ⟨_, rfl⟩
                        rw [← hx] at ha1 ha2 hst
                        rw [← hx'] at hb1 hb2 hst2
                        dsimp only at ha1 ha2 hb1 hb2
                        rw [hav] at hx3
                        rw [hav'] at hy3
                        obtain ⟨e, he1, he2⟩ := vl_two x y x' y'
                        have HST := Lib.hid hst
                        have HST2 := Lib.hid hst2
                        have HXE := Lib.hid hx
                        have HXE2 := Lib.hid hx'
                        have HE := Lib.hid he2
                        have HME := Lib.hid (meas_lt hlt)
                        clear hst hst2 hx hx' he2 hav hav'
                        cases e
                        · go_wp2_with (go_quiet (fail))
                          go_ret
                          refine al_no (fun h => ?_) (by rw [World.drewN_drewN]; exact HBZ.out _)
                          have h1 : (x, y) = (x', y') := by rw [HXE.out, HXE2.out]; simp only [h]
                          have h2 := HE.out.2 ⟨congrArg Prod.fst h1, congrArg Prod.snd h1⟩
                          cases h2
                        · have hxy := HE.out.1 rfl
                          have hxx : (x, y) = (x', y') := by rw [hxy.1, hxy.2]
                          have HXX := Lib.hid hxx
                          clear hxy hxx
                          go_wp2_with (go_quiet (fail))
                          go_roundw
                          case rel => exact ⟨k + 1, _, hlt, by go_num, by rw [HST.out, HST2.out, HA.out, HXX.out], rfl⟩
                          case measure => exact HME.out
                      · have hlt' : ¬ (k : Int) < u1 := by omega
                        have hVM : m.vals = m2.vals := by
                          have := HA.out
                          rw [List.take_of_length_le (by rw [← HU1.out]; omega), List.take_of_length_le (by rw [← HU2.out]; omega)] at this
                          exact this
                        have HVM := Lib.hid hVM
                        clear HA hlt hk hVM
                        obtain ⟨i1, hi1⟩ : ∃ n, n = m.image.length := ⟨_, rfl⟩
                        obtain ⟨i2, hi2⟩ : ∃ n, n = m2.image.length := ⟨_, rfl⟩
                        have bi : i1 ≤ 1073741824 := by rw [hi1]; exact hwf.il
                        have hg1 : wc.cell? ⟨ga, 30, none⟩ = some (.slice p.ai i1 p.ci) := by rw [hi1]; exact HKA.out.cell 30 (by rw [cellsM_len]; omega)
                        have hg2 : wc.cell? ⟨ga + 1, 30, none⟩ = some (.slice q.ai i2 q.ci) := by rw [hi2]; exact HKB.out.cell 30 (by rw [cellsM_len]; omega)
                        have HI1 := Lib.hid hi1
                        have HI2 := Lib.hid hi2
                        clear hi1 hi2
                        go_wp2_with fail
                        refine (same_n p.ai q.ai p.ci q.ci i1 i2 m.image m2.image (wc.drewN dn) HI1.out.symm HI2.out.symm (by omega) (HRA.out.2.2.2.below (below_draws wc)) (HRB.out.2.2.2.below (below_draws wc))).mono ?_
                        rintro e w8 ⟨rfl, hb8⟩
                        go_wp2_with fail
                        go_ret
                        refine ⟨_, rfl, ?_, (HBZ.out dn).trans (hb8.mono (HBZ.out dn).size)⟩
                        rw [beq_iff_eq]
                        exact al_iff HALL.out HE2.out HZ2.out HF2.out HDEC.out HNM.out HLM.out HVM.out
end Go.Proofs.Ytaipnbpefdcejaa
