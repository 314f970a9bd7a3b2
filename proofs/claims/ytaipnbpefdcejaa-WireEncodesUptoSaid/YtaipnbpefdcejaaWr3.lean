/- The walks of the writer's methods for events and sizes. -/
import Derived.Test.YtaipnbpefdcejaaWr2
set_option linter.unusedVariables false
namespace Go.Proofs.Ytaipnbpefdcejaa
open Go.RowKit
theorem Wr.alloc {base g : Nat} {l : List UInt8} {w : World} (h : Wr base g l w) (o : Obj) : Wr base g l (w.alloc o) := by
  obtain ⟨hg, a, c, hk, hown, hne⟩ := h
  exact ⟨hg, a, c, hk.alloc o, hown.alloc _, hne⟩
theorem Wr.off {base g : Nat} {l : List UInt8} {w : World} (h : Wr base g l w) (o : Obj) : Off g w.heap.size (w.alloc o) := by
  obtain ⟨hg, a, c, hk, hown, hne⟩ := h
  have hc := (hk.alloc o).cell 0 (by simp)
  simp only [List.getElem_cons_zero] at hc
  refine ⟨fun e => by have := hk.lt; omega, fun v hv => ?_⟩
  rw [hc] at hv
  cases hv
  intro e
  have := (hown.lt _ e).2
  omega
set_option maxRecDepth 20000 in
theorem wm_event (w0 : World) (g gm : Nat) (l : List UInt8) (m : M) (p : Ps) (w : World) (hwf : WfM m) (hh : 0 ≤ m.handle) (hl : l.length ≤ 100000000000000) (hb0 : Below w0.heap.size w0 w) (h : Wr w0.heap.size g l w) (hk : Blk w0 gm 50 (cellsM m p)) (hr : MRd w0 m p) :
    Calls Try.prog 94 #[.pointer (some ⟨g, 0, none⟩), .pointer (some ⟨gm, 0, none⟩)] w (WPostF w0 g (l ++ encF "sluice/wire.event" m) w) := by
  have hrg : w.rangeAt gm 3 [.int .i64 m.ts, .int .u64 m.id, .int .i64 m.typ, .int .i64 m.a0, .int .i64 m.a1, .int .i64 m.a2, .int .i64 m.a3, .int .i64 m.a4, .int .i64 m.a5, .int .i64 m.a6, .int .i64 m.a7] := by
    have := (hk.below hb0).range 3 11 (by rw [cellsM_len]; omega)
    exact this
  obtain ⟨w1, hw1⟩ : ∃ w1, w1 = w.alloc (.cells #[.int .i64 m.ts, .int .u64 m.id, .int .i64 m.typ, .int .i64 m.a0, .int .i64 m.a1, .int .i64 m.a2, .int .i64 m.a3, .int .i64 m.a4, .int .i64 m.a5, .int .i64 m.a6, .int .i64 m.a7] 39) := ⟨_, rfl⟩
  have hg : g < w.heap.size := by obtain ⟨_, _, _, hk, _⟩ := h; exact hk.lt
  have h1 : Wr w0.heap.size g l w1 := by rw [hw1]; exact h.alloc _
  have hb1 : Below w0.heap.size w0 w1 := by rw [hw1]; exact hb0.alloc hb0.size _
  have hk1 : Blk w1 w.heap.size 39 [.int .i64 m.ts, .int .u64 m.id, .int .i64 m.typ, .int .i64 m.a0, .int .i64 m.a1, .int .i64 m.a2, .int .i64 m.a3, .int .i64 m.a4, .int .i64 m.a5, .int .i64 m.a6, .int .i64 m.a7] := by rw [hw1]; exact Blk.new w _ 39
  have ho1 : Off g w.heap.size w1 := by rw [hw1]; exact h.off _
  have hfr := h.fr
  have hf1 : Fr g w w1 := by rw [hw1]; exact hfr _
  clear hfr
  have HF1 := Lib.hid hf1
  clear hf1
  go_enter Try.func94, Try.ntmps94
  go_wp2_with (first | ((with_reducible refine at_dst 10 ?_); refine wpList_load_midg rfl _ _ rfl _ _ rfl _ _ hrg Try.underlying39 rfl (by kernel_rfl) ?_) | fail)
  obtain ⟨ge, hge⟩ : ∃ ge, ge = w.heap.size := ⟨_, rfl⟩
  rw [← hge] at hk1 ho1
  rw [← hw1, ← hge]
  clear hw1 hge hrg h hb0
  have q1 := bytesI_le _ hwf.ts
  have q2 := bytesU_le m.id.toNat (by have := hwf.id; unfold U64 at this; omega)
  have q3 := bytesI_le _ hwf.typ
  have qi : (m.id.toNat : Int) = m.id := by have := hwf.id; unfold U64 at this; omega
  refine (wr_intF w0 g l m.ts w1 hwf.ts (by omega) hb1 h1).mono ?_
  rintro e w2 ⟨⟨rfl, h2, hb2⟩, hf2⟩
  obtain ⟨hk2, ho2⟩ := hf2.blk hk1 ho1
  have hd2 : w2.cell? ⟨ge, 1, none⟩ = some (.int .u64 m.id) := hk2.cell 1 (by simp)
  have HF2 := Lib.hid (HF1.out.trans hf2)
  clear hf2 hk1 ho1 h1 hb1
  go_wp2_with fail
  refine (wr_uintF w0 g _ m.id m.id.toNat w2 qi.symm (by have := hwf.id; unfold U64 at this; omega) (by rw [List.length_append]; omega) hb2 h2).mono ?_
  rintro e w3 ⟨⟨rfl, h3, hb3⟩, hf3⟩
  obtain ⟨hk3, ho3⟩ := hf3.blk hk2 ho2
  have hd3 : w3.cell? ⟨ge, 2, none⟩ = some (.int .i64 m.typ) := hk3.cell 2 (by simp)
  have HF3 := Lib.hid (HF2.out.trans hf3)
  clear hf3 hk2 ho2 h2 hb2 hd2
  go_wp2_with fail
  refine (wr_intF w0 g _ m.typ w3 hwf.typ (by simp only [List.length_append]; omega) hb3 h3).mono ?_
  rintro e w4 ⟨⟨rfl, h4, hb4⟩, hf4⟩
  obtain ⟨hk4, ho4⟩ := hf4.blk hk3 ho3
  have hrg4 : w4.rangeAt ge 3 [.int .i64 m.a0, .int .i64 m.a1, .int .i64 m.a2, .int .i64 m.a3, .int .i64 m.a4, .int .i64 m.a5, .int .i64 m.a6, .int .i64 m.a7] := by
    have := hk4.range 3 8 (by simp)
    exact this
  have HF4 := Lib.hid (HF3.out.trans hf4)
  clear hf4 hk3 ho3 h3 hb3 hd3
  go_wp2_with (first | ((with_reducible refine at_dst 24 ?_); refine wpList_load_midg rfl _ _ rfl _ _ rfl _ _ hrg4 Try.underlying37 rfl (by kernel_rfl) ?_) | fail)
  obtain ⟨lb, hlb⟩ : ∃ lb, lb = l ++ bytesI m.ts ++ bytesU m.id.toNat ++ bytesI m.typ := ⟨_, rfl⟩
  have hlbl : lb.length ≤ 100000000000100 := by rw [hlb]; simp only [List.length_append]; omega
  have hfin : l ++ encF "sluice/wire.event" m = lb ++ (attrs m).flatMap bytesI := by rw [hlb]; simp only [List.append_assoc]; rfl
  rw [← hlb] at h4
  have HF := Lib.hid hfin
  clear hlb hfin q1 q2 q3 qi hrg4 hk4 ho4 hg hk hr hh
  go_loopw [25] (fun i wr => ∃ k : Nat, k ≤ 8 ∧ i = .int .i64 (k : Int) ∧ Wr w0.heap.size g (lb ++ ((attrs m).take k).flatMap bytesI) wr ∧ Below w0.heap.size w0 wr ∧ Fr g w wr) (fun i _ => 8 - (intOf i).toNat)
  case atStart => exact ⟨0, by omega, rfl, by simpa using h4, hb4, HF4.out⟩
  case round =>
    obtain ⟨k, hk, rfl, hw, hbw, hfw⟩ := hrel
    have HFW := Lib.hid hfw
    clear hfw
    have hlen := flat_le bytesI 10 ((attrs m).take k) fun v hv => by
      have hv := List.mem_of_mem_take hv
      simp only [attrs, List.mem_cons, List.not_mem_nil, or_false] at hv
      rcases hv with rfl | rfl | rfl | rfl | rfl | rfl | rfl | rfl
      · exact bytesI_le _ hwf.a0
      · exact bytesI_le _ hwf.a1
      · exact bytesI_le _ hwf.a2
      · exact bytesI_le _ hwf.a3
      · exact bytesI_le _ hwf.a4
      · exact bytesI_le _ hwf.a5
      · exact bytesI_le _ hwf.a6
      · exact bytesI_le _ hwf.a7
    have hll : (lb ++ ((attrs m).take k).flatMap bytesI).length ≤ 100000000001000 := by
      have : ((attrs m).take k).length ≤ 8 := by rw [List.length_take]; show min k 8 ≤ 8; omega
      rw [List.length_append]
      omega
    clear hlen
    obtain ⟨z, hz⟩ : ∃ z : Int, z = (k : Int) := ⟨_, rfl⟩
    rw [← hz]
    have hcases : k = 0 ∨ k = 1 ∨ k = 2 ∨ k = 3 ∨ k = 4 ∨ k = 5 ∨ k = 6 ∨ k = 7 ∨ k = 8 := by omega
    rcases hcases with rfl | rfl | rfl | rfl | rfl | rfl | rfl | rfl | rfl
    · obtain rfl : z = 0 := by omega
      clear hz
      have hix : (Instr.index 37 (.agg #[.int .i64 m.a0, .int .i64 m.a1, .int .i64 m.a2, .int .i64 m.a3, .int .i64 m.a4, .int .i64 m.a5, .int .i64 m.a6, .int .i64 m.a7]) (.int .i64 0)).run Try.prog wr = .ok (.int .i64 m.a0) wr := by first | rfl | kernel_rfl | simp [Instr.index, Try.underlying37]
      go_wp2_with fail
      refine (wr_intF w0 g _ m.a0 wr hwf.a0 (by omega) hbw hw).mono ?_
      rintro e w5 ⟨⟨rfl, h5, hb5⟩, hf5⟩
      have HF5 := Lib.hid (HFW.out.trans hf5)
      clear hf5
      go_wp2
      go_roundw
      case rel => exact ⟨1, by omega, by go_num, by simpa [attrs, List.append_assoc] using h5, hb5, HF5.out⟩
      case measure => simp [intOf]
    · obtain rfl : z = 1 := by omega
      clear hz
      have hix : (Instr.index 37 (.agg #[.int .i64 m.a0, .int .i64 m.a1, .int .i64 m.a2, .int .i64 m.a3, .int .i64 m.a4, .int .i64 m.a5, .int .i64 m.a6, .int .i64 m.a7]) (.int .i64 1)).run Try.prog wr = .ok (.int .i64 m.a1) wr := by first | rfl | kernel_rfl | simp [Instr.index, Try.underlying37]
      go_wp2_with fail
      refine (wr_intF w0 g _ m.a1 wr hwf.a1 (by omega) hbw hw).mono ?_
      rintro e w5 ⟨⟨rfl, h5, hb5⟩, hf5⟩
      have HF5 := Lib.hid (HFW.out.trans hf5)
      clear hf5
      go_wp2
      go_roundw
      case rel => exact ⟨2, by omega, by go_num, by simpa [attrs, List.append_assoc] using h5, hb5, HF5.out⟩
      case measure => simp [intOf]
    · obtain rfl : z = 2 := by omega
      clear hz
      have hix : (Instr.index 37 (.agg #[.int .i64 m.a0, .int .i64 m.a1, .int .i64 m.a2, .int .i64 m.a3, .int .i64 m.a4, .int .i64 m.a5, .int .i64 m.a6, .int .i64 m.a7]) (.int .i64 2)).run Try.prog wr = .ok (.int .i64 m.a2) wr := by first | rfl | kernel_rfl | simp [Instr.index, Try.underlying37]
      go_wp2_with fail
      refine (wr_intF w0 g _ m.a2 wr hwf.a2 (by omega) hbw hw).mono ?_
      rintro e w5 ⟨⟨rfl, h5, hb5⟩, hf5⟩
      have HF5 := Lib.hid (HFW.out.trans hf5)
      clear hf5
      go_wp2
      go_roundw
      case rel => exact ⟨3, by omega, by go_num, by simpa [attrs, List.append_assoc] using h5, hb5, HF5.out⟩
      case measure => simp [intOf]
    · obtain rfl : z = 3 := by omega
      clear hz
      have hix : (Instr.index 37 (.agg #[.int .i64 m.a0, .int .i64 m.a1, .int .i64 m.a2, .int .i64 m.a3, .int .i64 m.a4, .int .i64 m.a5, .int .i64 m.a6, .int .i64 m.a7]) (.int .i64 3)).run Try.prog wr = .ok (.int .i64 m.a3) wr := by first | rfl | kernel_rfl | simp [Instr.index, Try.underlying37]
      go_wp2_with fail
      refine (wr_intF w0 g _ m.a3 wr hwf.a3 (by omega) hbw hw).mono ?_
      rintro e w5 ⟨⟨rfl, h5, hb5⟩, hf5⟩
      have HF5 := Lib.hid (HFW.out.trans hf5)
      clear hf5
      go_wp2
      go_roundw
      case rel => exact ⟨4, by omega, by go_num, by simpa [attrs, List.append_assoc] using h5, hb5, HF5.out⟩
      case measure => simp [intOf]
    · obtain rfl : z = 4 := by omega
      clear hz
      have hix : (Instr.index 37 (.agg #[.int .i64 m.a0, .int .i64 m.a1, .int .i64 m.a2, .int .i64 m.a3, .int .i64 m.a4, .int .i64 m.a5, .int .i64 m.a6, .int .i64 m.a7]) (.int .i64 4)).run Try.prog wr = .ok (.int .i64 m.a4) wr := by first | rfl | kernel_rfl | simp [Instr.index, Try.underlying37]
      go_wp2_with fail
      refine (wr_intF w0 g _ m.a4 wr hwf.a4 (by omega) hbw hw).mono ?_
      rintro e w5 ⟨⟨rfl, h5, hb5⟩, hf5⟩
      have HF5 := Lib.hid (HFW.out.trans hf5)
      clear hf5
      go_wp2
      go_roundw
      case rel => exact ⟨5, by omega, by go_num, by simpa [attrs, List.append_assoc] using h5, hb5, HF5.out⟩
      case measure => simp [intOf]
    · obtain rfl : z = 5 := by omega
      clear hz
      have hix : (Instr.index 37 (.agg #[.int .i64 m.a0, .int .i64 m.a1, .int .i64 m.a2, .int .i64 m.a3, .int .i64 m.a4, .int .i64 m.a5, .int .i64 m.a6, .int .i64 m.a7]) (.int .i64 5)).run Try.prog wr = .ok (.int .i64 m.a5) wr := by first | rfl | kernel_rfl | simp [Instr.index, Try.underlying37]
      go_wp2_with fail
      refine (wr_intF w0 g _ m.a5 wr hwf.a5 (by omega) hbw hw).mono ?_
      rintro e w5 ⟨⟨rfl, h5, hb5⟩, hf5⟩
      have HF5 := Lib.hid (HFW.out.trans hf5)
      clear hf5
      go_wp2
      go_roundw
      case rel => exact ⟨6, by omega, by go_num, by simpa [attrs, List.append_assoc] using h5, hb5, HF5.out⟩
      case measure => simp [intOf]
    · obtain rfl : z = 6 := by omega
      clear hz
      have hix : (Instr.index 37 (.agg #[.int .i64 m.a0, .int .i64 m.a1, .int .i64 m.a2, .int .i64 m.a3, .int .i64 m.a4, .int .i64 m.a5, .int .i64 m.a6, .int .i64 m.a7]) (.int .i64 6)).run Try.prog wr = .ok (.int .i64 m.a6) wr := by first | rfl | kernel_rfl | simp [Instr.index, Try.underlying37]
      go_wp2_with fail
      refine (wr_intF w0 g _ m.a6 wr hwf.a6 (by omega) hbw hw).mono ?_
      rintro e w5 ⟨⟨rfl, h5, hb5⟩, hf5⟩
      have HF5 := Lib.hid (HFW.out.trans hf5)
      clear hf5
      go_wp2
      go_roundw
      case rel => exact ⟨7, by omega, by go_num, by simpa [attrs, List.append_assoc] using h5, hb5, HF5.out⟩
      case measure => simp [intOf]
    · obtain rfl : z = 7 := by omega
      clear hz
      have hix : (Instr.index 37 (.agg #[.int .i64 m.a0, .int .i64 m.a1, .int .i64 m.a2, .int .i64 m.a3, .int .i64 m.a4, .int .i64 m.a5, .int .i64 m.a6, .int .i64 m.a7]) (.int .i64 7)).run Try.prog wr = .ok (.int .i64 m.a7) wr := by first | rfl | kernel_rfl | simp [Instr.index, Try.underlying37]
      go_wp2_with fail
      refine (wr_intF w0 g _ m.a7 wr hwf.a7 (by omega) hbw hw).mono ?_
      rintro e w5 ⟨⟨rfl, h5, hb5⟩, hf5⟩
      have HF5 := Lib.hid (HFW.out.trans hf5)
      clear hf5
      go_wp2
      go_roundw
      case rel => exact ⟨8, by omega, by go_num, by simpa [attrs, List.append_assoc] using h5, hb5, HF5.out⟩
      case measure => simp [intOf]
    · obtain rfl : z = 8 := by omega
      clear hz
      go_wp2
      go_end0
      rw [HF.out]
      exact ⟨⟨rfl, hw, hbw⟩, HFW.out⟩
set_option maxRecDepth 20000 in
theorem wm_sizes (w0 : World) (g gm : Nat) (l : List UInt8) (m : M) (p : Ps) (w : World) (hwf : WfM m) (hh : 0 ≤ m.handle) (hl : l.length ≤ 100000000000000) (hb0 : Below w0.heap.size w0 w) (h : Wr w0.heap.size g l w) (hk : Blk w0 gm 50 (cellsM m p)) (hr : MRd w0 m p) :
    Calls Try.prog 103 #[.pointer (some ⟨g, 0, none⟩), .pointer (some ⟨gm, 0, none⟩)] w (WPostF w0 g (l ++ encF "sluice/wire.sizes" m) w) := by
  have hrg : w.rangeAt gm 18 [.int .i64 m.mark, .bool m.closed, .int .i64 m.held, .int .i64 m.kept, .int .i64 m.waiting, .int .i64 m.parts] := by
    have := (hk.below hb0).range 18 6 (by rw [cellsM_len]; omega)
    exact this
  obtain ⟨w1, hw1⟩ : ∃ w1, w1 = w.alloc (.cells #[.int .i64 m.mark, .bool m.closed, .int .i64 m.held, .int .i64 m.kept, .int .i64 m.waiting, .int .i64 m.parts] 46) := ⟨_, rfl⟩
  have hg : g < w.heap.size := by obtain ⟨_, _, _, hk, _⟩ := h; exact hk.lt
  have h1 : Wr w0.heap.size g l w1 := by rw [hw1]; exact h.alloc _
  have hb1 : Below w0.heap.size w0 w1 := by rw [hw1]; exact hb0.alloc hb0.size _
  have hk1 : Blk w1 w.heap.size 46 [.int .i64 m.mark, .bool m.closed, .int .i64 m.held, .int .i64 m.kept, .int .i64 m.waiting, .int .i64 m.parts] := by rw [hw1]; exact Blk.new w _ 46
  have ho1 : Off g w.heap.size w1 := by rw [hw1]; exact h.off _
  have hfr := h.fr
  have hf1 : Fr g w w1 := by rw [hw1]; exact hfr _
  clear hfr
  have HF1 := Lib.hid hf1
  clear hf1
  go_enter Try.func103, Try.ntmps103
  go_wp2_with (first | ((with_reducible refine at_dst 10 ?_); refine wpList_load_midg rfl _ _ rfl _ _ rfl _ _ hrg Try.underlying46 rfl (by kernel_rfl) ?_) | fail)
  obtain ⟨ge, hge⟩ : ∃ ge, ge = w.heap.size := ⟨_, rfl⟩
  rw [← hge] at hk1 ho1
  rw [← hw1, ← hge]
  clear hw1 hge hrg h hb0
  have q1 := bytesI_le _ hwf.mark
  refine (wr_intF w0 g l m.mark w1 hwf.mark (by omega) hb1 h1).mono ?_
  rintro e w2 ⟨⟨rfl, h2, hb2⟩, hf2⟩
  obtain ⟨hk2, ho2⟩ := hf2.blk hk1 ho1
  have hd2 : w2.cell? ⟨ge, 1, none⟩ = some (.bool m.closed) := hk2.cell 1 (by simp)
  have HF2 := Lib.hid (HF1.out.trans hf2)
  clear hf2 hk1 ho1 h1 hb1
  go_wp2_with fail
  refine (wr_truthF w0 g _ m.closed w2 (by rw [List.length_append]; omega) hb2 h2).mono ?_
  rintro e w4 ⟨⟨rfl, h4, hb4⟩, hf4⟩
  obtain ⟨hk4, ho4⟩ := hf4.blk hk2 ho2
  have he2 : w4.cell? ⟨ge, 2, none⟩ = some (.int .i64 m.held) := hk4.cell 2 (by simp)
  have he3 : w4.cell? ⟨ge, 3, none⟩ = some (.int .i64 m.kept) := hk4.cell 3 (by simp)
  have he4 : w4.cell? ⟨ge, 4, none⟩ = some (.int .i64 m.waiting) := hk4.cell 4 (by simp)
  have he5 : w4.cell? ⟨ge, 5, none⟩ = some (.int .i64 m.parts) := hk4.cell 5 (by simp)
  have HF4 := Lib.hid (HF2.out.trans hf4)
  clear hf4 hk2 ho2 h2 hb2 hd2
  go_wp2_with fail
  obtain ⟨lb, hlb⟩ : ∃ lb, lb = l ++ bytesI m.mark ++ byT m.closed := ⟨_, rfl⟩
  have hlbl : lb.length ≤ 100000000000100 := by rw [hlb]; simp only [List.length_append, byT_len]; omega
  have hfin : l ++ encF "sluice/wire.sizes" m = lb ++ [m.held, m.kept, m.waiting, m.parts].flatMap bytesI := by rw [hlb]; simp only [List.append_assoc]; rfl
  rw [← hlb] at h4
  have HF := Lib.hid hfin
  clear hlb hfin q1 he2 he3 he4 he5 hk4 ho4 hg hk hr hh
  go_loopw [28] (fun i wr => ∃ k : Nat, k ≤ 4 ∧ i = .int .i64 (k : Int) ∧ Wr w0.heap.size g (lb ++ (([m.held, m.kept, m.waiting, m.parts]).take k).flatMap bytesI) wr ∧ Below w0.heap.size w0 wr ∧ Fr g w wr) (fun i _ => 4 - (intOf i).toNat)
  case atStart => exact ⟨0, by omega, rfl, by simpa using h4, hb4, HF4.out⟩
  case round =>
    obtain ⟨k, hk, rfl, hw, hbw, hfw⟩ := hrel
    have HFW := Lib.hid hfw
    clear hfw
    have hlen := flat_le bytesI 10 (([m.held, m.kept, m.waiting, m.parts]).take k) fun v hv => by
      have hv := List.mem_of_mem_take hv
      simp only [List.mem_cons, List.not_mem_nil, or_false] at hv
      rcases hv with rfl | rfl | rfl | rfl
      · exact bytesI_le _ hwf.held
      · exact bytesI_le _ hwf.kept
      · exact bytesI_le _ hwf.waiting
      · exact bytesI_le _ hwf.parts
    have hll : (lb ++ (([m.held, m.kept, m.waiting, m.parts]).take k).flatMap bytesI).length ≤ 100000000001000 := by
      have : (([m.held, m.kept, m.waiting, m.parts]).take k).length ≤ 4 := by rw [List.length_take]; show min k 4 ≤ 4; omega
      rw [List.length_append]
      omega
    clear hlen
    obtain ⟨z, hz⟩ : ∃ z : Int, z = (k : Int) := ⟨_, rfl⟩
    rw [← hz]
    have hcases : k = 0 ∨ k = 1 ∨ k = 2 ∨ k = 3 ∨ k = 4 := by omega
    rcases hcases with rfl | rfl | rfl | rfl | rfl
    · obtain rfl : z = 0 := by omega
      clear hz
      have hix : (Instr.index 129 (.agg #[.int .i64 m.held, .int .i64 m.kept, .int .i64 m.waiting, .int .i64 m.parts]) (.int .i64 0)).run Try.prog wr = .ok (.int .i64 m.held) wr := by first | rfl | kernel_rfl | simp [Instr.index, Try.underlying129]
      go_wp2_with fail
      refine (wr_intF w0 g _ m.held wr hwf.held (by omega) hbw hw).mono ?_
      rintro e w5 ⟨⟨rfl, h5, hb5⟩, hf5⟩
      have HF5 := Lib.hid (HFW.out.trans hf5)
      clear hf5
      go_wp2
      go_roundw
      case rel => exact ⟨1, by omega, by go_num, by simpa [List.append_assoc] using h5, hb5, HF5.out⟩
      case measure => simp [intOf]
    · obtain rfl : z = 1 := by omega
      clear hz
      have hix : (Instr.index 129 (.agg #[.int .i64 m.held, .int .i64 m.kept, .int .i64 m.waiting, .int .i64 m.parts]) (.int .i64 1)).run Try.prog wr = .ok (.int .i64 m.kept) wr := by first | rfl | kernel_rfl | simp [Instr.index, Try.underlying129]
      go_wp2_with fail
      refine (wr_intF w0 g _ m.kept wr hwf.kept (by omega) hbw hw).mono ?_
      rintro e w5 ⟨⟨rfl, h5, hb5⟩, hf5⟩
      have HF5 := Lib.hid (HFW.out.trans hf5)
      clear hf5
      go_wp2
      go_roundw
      case rel => exact ⟨2, by omega, by go_num, by simpa [List.append_assoc] using h5, hb5, HF5.out⟩
      case measure => simp [intOf]
    · obtain rfl : z = 2 := by omega
      clear hz
      have hix : (Instr.index 129 (.agg #[.int .i64 m.held, .int .i64 m.kept, .int .i64 m.waiting, .int .i64 m.parts]) (.int .i64 2)).run Try.prog wr = .ok (.int .i64 m.waiting) wr := by first | rfl | kernel_rfl | simp [Instr.index, Try.underlying129]
      go_wp2_with fail
      refine (wr_intF w0 g _ m.waiting wr hwf.waiting (by omega) hbw hw).mono ?_
      rintro e w5 ⟨⟨rfl, h5, hb5⟩, hf5⟩
      have HF5 := Lib.hid (HFW.out.trans hf5)
      clear hf5
      go_wp2
      go_roundw
      case rel => exact ⟨3, by omega, by go_num, by simpa [List.append_assoc] using h5, hb5, HF5.out⟩
      case measure => simp [intOf]
    · obtain rfl : z = 3 := by omega
      clear hz
      have hix : (Instr.index 129 (.agg #[.int .i64 m.held, .int .i64 m.kept, .int .i64 m.waiting, .int .i64 m.parts]) (.int .i64 3)).run Try.prog wr = .ok (.int .i64 m.parts) wr := by first | rfl | kernel_rfl | simp [Instr.index, Try.underlying129]
      go_wp2_with fail
      refine (wr_intF w0 g _ m.parts wr hwf.parts (by omega) hbw hw).mono ?_
      rintro e w5 ⟨⟨rfl, h5, hb5⟩, hf5⟩
      have HF5 := Lib.hid (HFW.out.trans hf5)
      clear hf5
      go_wp2
      go_roundw
      case rel => exact ⟨4, by omega, by go_num, by simpa [List.append_assoc] using h5, hb5, HF5.out⟩
      case measure => simp [intOf]
    · obtain rfl : z = 4 := by omega
      clear hz
      go_wp2
      go_end0
      rw [HF.out]
      exact ⟨⟨rfl, hw, hbw⟩, HFW.out⟩
#print axioms wm_sizes
end Go.Proofs.Ytaipnbpefdcejaa
