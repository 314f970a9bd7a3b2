/- The walks of the writer's methods for the fields. -/
import Derived.Test.YtaipnbpefdcejaaWr1
set_option linter.unusedVariables false
namespace Go.Proofs.Ytaipnbpefdcejaa
open Go.RowKit
/-- append of a slice's bytes, as a step of a region that draws its order. -/
theorem step_app_b {ops : Array Oper} {o : Oper} {a : Act} {w : World} {K : Act → World → Prop} {Q : Exit → Act → World → Prop} {E : Prop} (hgd : o.guard = none) (s x : Operand)
    (ho : o.op = .call { callee := .builtin .append, args := #[s, x], argTypes := #[23, 23] }) (base : Nat) (v : Value) (n : Nat) (l1 : List UInt8) (hs : a.eval s = v) (hown : w.ownsRow base 5 1 v n (l1.map B))
    (ao : Option Addr) (m c : Nat) (l2 : List UInt8) (hx : a.eval x = .slice ao m c) (hl : l2.length = m) (hrd : Rd w ao (l2.map B)) (hb : n + m ≤ 140737488355328) (hbase : base ≤ w.heap.size)
    (h : ∀ a' c' w', w'.ownsRow base 5 1 (.slice a' (n + m) c') (n + m) ((l1 ++ l2).map B) → Below base w w' → Moved w w' v (.slice a' (n + m) c') →
      K (a.put o.dst (.slice a' (n + m) c')) w') : if Region.wanted o (yielded ops a.tmps) = true then Oper.wp Try.prog o a w K Q else E := by
  have hw : Region.wanted o (yielded ops a.tmps) = true := by simp [Region.wanted, hgd]
  rw [if_pos hw]
  obtain ⟨i0, hi, hz0, hz1, hz2⟩ := info_parts info5
  obtain ⟨a', c', w', hr, h2, h3⟩ := run_append_rd (P := Try.prog) w base 23 o.type 5 i0 (.int .u8 0) 1 1 Try.underlying23 hi hz0 hz1 hz2 rfl (by decide) v n _ hown ao m c _ (by simp [hl]) hrd (B_oneCell l2) (by unfold maxLen; omega) (by omega) hbase
  unfold Oper.wp execOp
  simp only [ho, resolve, invoke, builtin, Sem.run_bind, Sem.run_pure, Result.andThen_ok, List.map_toArray, List.map_cons, List.map_nil, hs, hx, hr]
  rw [← List.map_append] at h2
  exact h a' c' w' h2 (h3.below (fun k hk => (hown.lt k hk).1) hbase) h3
set_option maxRecDepth 20000 in
theorem wm_number (w0 : World) (g gm : Nat) (l : List UInt8) (m : M) (p : Ps) (w : World) (hwf : WfM m) (hh : 0 ≤ m.handle) (hl : l.length ≤ 100000000000000) (hb0 : Below w0.heap.size w0 w) (h : Wr w0.heap.size g l w) (hk : Blk w0 gm 50 (cellsM m p)) (hr : MRd w0 m p) :
    Calls Try.prog 100 #[.pointer (some ⟨g, 0, none⟩), .pointer (some ⟨gm, 0, none⟩)] w (WPostF w0 g (l ++ encF "sluice/wire.number" m) w) := by
  have hc2 : w.cell? ⟨gm, 2, none⟩ = some (.int .i64 m.num) := (hk.below hb0).cell 2 (by rw [cellsM_len]; omega)
  go_enter Try.func100, Try.ntmps100
  go_wp2_with fail
  refine (wr_intF w0 g l m.num w hwf.num (by omega) hb0 h).mono ?_
  rintro e w1 ⟨⟨rfl, h1⟩, hf1⟩
  go_wp2
  go_end0
  exact ⟨⟨rfl, h1⟩, hf1⟩
set_option maxRecDepth 20000 in
theorem wm_handle (w0 : World) (g gm : Nat) (l : List UInt8) (m : M) (p : Ps) (w : World) (hwf : WfM m) (hh : 0 ≤ m.handle) (hl : l.length ≤ 100000000000000) (hb0 : Below w0.heap.size w0 w) (h : Wr w0.heap.size g l w) (hk : Blk w0 gm 50 (cellsM m p)) (hr : MRd w0 m p) :
    Calls Try.prog 96 #[.pointer (some ⟨g, 0, none⟩), .pointer (some ⟨gm, 0, none⟩)] w (WPostF w0 g (l ++ encF "sluice/wire.handle" m) w) := by
  have hc1 : w.cell? ⟨gm, 1, none⟩ = some (.int .i64 m.handle) := (hk.below hb0).cell 1 (by rw [cellsM_len]; omega)
  go_enter Try.func96, Try.ntmps96
  go_wp2_with fail
  refine (wr_uintF w0 g l _ m.handle.toNat w (by first | (rw [IntKind.wrap_u64]; have := hwf.handle; unfold I64 at this; omega) | omega) (by have := hwf.handle; unfold I64 at this; omega) (by omega) hb0 h).mono ?_
  rintro e w1 ⟨⟨rfl, h1⟩, hf1⟩
  go_wp2
  go_end0
  exact ⟨⟨rfl, h1⟩, hf1⟩
set_option maxRecDepth 20000 in
theorem wm_code (w0 : World) (g gm : Nat) (l : List UInt8) (m : M) (p : Ps) (w : World) (hwf : WfM m) (hh : 0 ≤ m.handle) (hl : l.length ≤ 100000000000000) (hb0 : Below w0.heap.size w0 w) (h : Wr w0.heap.size g l w) (hk : Blk w0 gm 50 (cellsM m p)) (hr : MRd w0 m p) :
    Calls Try.prog 93 #[.pointer (some ⟨g, 0, none⟩), .pointer (some ⟨gm, 0, none⟩)] w (WPostF w0 g (l ++ encF "sluice/wire.code" m) w) := by
  have hc27 : w.cell? ⟨gm, 27, none⟩ = some (.int .i64 m.code) := (hk.below hb0).cell 27 (by rw [cellsM_len]; omega)
  go_enter Try.func93, Try.ntmps93
  go_wp2_with fail
  refine (wr_intF w0 g l m.code w hwf.code (by omega) hb0 h).mono ?_
  rintro e w1 ⟨⟨rfl, h1⟩, hf1⟩
  go_wp2
  go_end0
  exact ⟨⟨rfl, h1⟩, hf1⟩
set_option maxRecDepth 20000 in
theorem wm_schema (w0 : World) (g gm : Nat) (l : List UInt8) (m : M) (p : Ps) (w : World) (hwf : WfM m) (hh : 0 ≤ m.handle) (hl : l.length ≤ 100000000000000) (hb0 : Below w0.heap.size w0 w) (h : Wr w0.heap.size g l w) (hk : Blk w0 gm 50 (cellsM m p)) (hr : MRd w0 m p) :
    Calls Try.prog 102 #[.pointer (some ⟨g, 0, none⟩), .pointer (some ⟨gm, 0, none⟩)] w (WPostF w0 g (l ++ encF "sluice/wire.schema" m) w) := by
  have hc28 : w.cell? ⟨gm, 28, none⟩ = some (.string m.schema) := (hk.below hb0).cell 28 (by rw [cellsM_len]; omega)
  go_enter Try.func102, Try.ntmps102
  go_wp2_with fail
  refine (wr_text w0 g l m.schema w hwf.sl (by omega) hb0 h).mono ?_
  rintro e w1 ⟨⟨rfl, h1⟩, hf1⟩
  go_wp2
  go_end0
  exact ⟨⟨rfl, h1⟩, hf1⟩
set_option maxRecDepth 20000 in
theorem wm_query (w0 : World) (g gm : Nat) (l : List UInt8) (m : M) (p : Ps) (w : World) (hwf : WfM m) (hh : 0 ≤ m.handle) (hl : l.length ≤ 100000000000000) (hb0 : Below w0.heap.size w0 w) (h : Wr w0.heap.size g l w) (hk : Blk w0 gm 50 (cellsM m p)) (hr : MRd w0 m p) :
    Calls Try.prog 101 #[.pointer (some ⟨g, 0, none⟩), .pointer (some ⟨gm, 0, none⟩)] w (WPostF w0 g (l ++ encF "sluice/wire.query" m) w) := by
  have hc29 : w.cell? ⟨gm, 29, none⟩ = some (.string m.query) := (hk.below hb0).cell 29 (by rw [cellsM_len]; omega)
  go_enter Try.func101, Try.ntmps101
  go_wp2_with fail
  refine (wr_text w0 g l m.query w hwf.ql (by omega) hb0 h).mono ?_
  rintro e w1 ⟨⟨rfl, h1⟩, hf1⟩
  go_wp2
  go_end0
  exact ⟨⟨rfl, h1⟩, hf1⟩
set_option maxRecDepth 20000 in
theorem wm_fault (w0 : World) (g gm : Nat) (l : List UInt8) (m : M) (p : Ps) (w : World) (hwf : WfM m) (hh : 0 ≤ m.handle) (hl : l.length ≤ 100000000000000) (hb0 : Below w0.heap.size w0 w) (h : Wr w0.heap.size g l w) (hk : Blk w0 gm 50 (cellsM m p)) (hr : MRd w0 m p) :
    Calls Try.prog 95 #[.pointer (some ⟨g, 0, none⟩), .pointer (some ⟨gm, 0, none⟩)] w (WPostF w0 g (l ++ encF "sluice/wire.fault" m) w) := by
  have hc24 : w.cell? ⟨gm, 24, none⟩ = some (.int .i64 m.fwhere) := (hk.below hb0).cell 24 (by rw [cellsM_len]; omega)
  go_enter Try.func95, Try.ntmps95
  go_wp2_with fail
  refine (wr_intF w0 g l m.fwhere w hwf.fwhere (by omega) hb0 h).mono ?_
  rintro e w1 ⟨⟨rfl, h1, hb1⟩, hf1⟩
  have q1 := bytesI_le _ hwf.fwhere
  have q2 := bytesI_le _ hwf.fcode
  have hd25 : w1.cell? ⟨gm, 25, none⟩ = some (.int .i64 m.fcode) := (hk.below hb1).cell 25 (by rw [cellsM_len]; omega)
  go_wp2_with fail
  refine (wr_intF w0 g _ m.fcode w1 hwf.fcode (by rw [List.length_append]; omega) hb1 h1).mono ?_
  rintro e w2 ⟨⟨rfl, h2, hb2⟩, hf2⟩
  have he26 : w2.cell? ⟨gm, 26, none⟩ = some (.int .i64 m.fat) := (hk.below hb2).cell 26 (by rw [cellsM_len]; omega)
  go_wp2_with fail
  refine (wr_intF w0 g _ m.fat w2 hwf.fat (by simp only [List.length_append]; omega) hb2 h2).mono ?_
  rintro e w3 ⟨⟨rfl, h3, hb3⟩, hf3⟩
  go_wp2
  go_end0
  rw [List.append_assoc, List.append_assoc] at h3
  exact ⟨⟨rfl, h3, hb3⟩, hf1.trans (hf2.trans hf3)⟩
set_option maxRecDepth 20000 in
theorem wm_image (w0 : World) (g gm : Nat) (l : List UInt8) (m : M) (p : Ps) (w : World) (hwf : WfM m) (hh : 0 ≤ m.handle) (hl : l.length ≤ 100000000000000) (hb0 : Below w0.heap.size w0 w) (h : Wr w0.heap.size g l w) (hk : Blk w0 gm 50 (cellsM m p)) (hr : MRd w0 m p) :
    Calls Try.prog 97 #[.pointer (some ⟨g, 0, none⟩), .pointer (some ⟨gm, 0, none⟩)] w (WPostF w0 g (l ++ encF "sluice/wire.image" m) w) := by
  have hc30 : w.cell? ⟨gm, 30, none⟩ = some (.slice p.ai m.image.length p.ci) := (hk.below hb0).cell 30 (by rw [cellsM_len]; omega)
  obtain ⟨n, hn⟩ : ∃ n, n = m.image.length := ⟨_, rfl⟩
  have hnb := hwf.il
  rw [← hn] at hc30 hnb
  have h10 := bytesU_le n (by omega)
  have HN := Lib.hid hn
  clear hn
  go_enter Try.func97, Try.ntmps97
  go_wp2_with fail
  refine (wr_uintF w0 g l _ n w rfl (by omega) (by omega) hb0 h).mono ?_
  rintro e w1 ⟨⟨rfl, ⟨hg, a, c, hkw, hown, hne⟩, hb1⟩, hf1⟩
  have HFR := Lib.hid hf1
  clear hf1
  obtain ⟨l1, hl1⟩ : ∃ l1, l1 = l ++ bytesU n := ⟨_, rfl⟩
  have hl1b : l1.length ≤ 110000000000000 := by rw [hl1, List.length_append]; omega
  rw [← hl1] at hkw hown hne
  have hfin : l ++ encF "sluice/wire.image" m = l1 ++ m.image := by rw [hl1, HN.out, List.append_assoc]; rfl
  have hc := hkw.cell 0 (by simp)
  have hf := hkw.frozen 0
  have hs0 := hb1.size
  simp only [List.getElem_cons_zero] at hc
  obtain ⟨k, hkl⟩ : ∃ k, k = l1.length := ⟨_, rfl⟩
  have hln : (l1 ++ m.image).length = k + n := by rw [List.length_append, hkl, HN.out]
  have hd30 : w1.cell? ⟨gm, 30, none⟩ = some (.slice p.ai n p.ci) := by rw [HN.out]; exact (hk.below hb1).cell 30 (by rw [cellsM_len]; omega)
  have hri : Rd w1 p.ai (m.image.map B) := hr.2.2.2.below hb1
  have HK := Lib.hid hkw
  have HNE := Lib.hid hne
  have HB0 := Lib.hid hb1
  have HLN := Lib.hid hln
  have HKL := Lib.hid hkl
  have HF := Lib.hid hfin
  have HRI := Lib.hid hri
  rw [← hkl] at hc hown hl1b
  clear hkw hne hb1 hln hkl hl1 hfin hb0 h hk hr hc30 hri
  go_wp2
  go_region_law (first | (refine step_app_b rfl _ _ rfl w0.heap.size (.slice a k c) k l1 rfl ?_ p.ai n p.ci m.image rfl HN.out.symm ?_ (by omega) ?_ ?_; exact hown; exact HRI.out; exact hs0; intro a1 c1 w2 hown1 hb1 hm1; obtain ⟨hk1, hp⟩ := wr_stored HKL.out HB0.out.drew hg HK.out HNE.out HLN.out hown1 hb1 hm1.mv; have hc1 := hk1.cell 0 (by simp); have hf1 := hk1.frozen 0; simp only [List.getElem_cons_zero] at hc1; have HP := Lib.hid hp; clear hk1 hp hown1 hb1 hm1))
  all_goals go_end0
  all_goals rw [HF.out]
  all_goals exact ⟨HP.out.1, HFR.out.trans HP.out.2⟩
#print axioms wm_image
end Go.Proofs.Ytaipnbpefdcejaa
