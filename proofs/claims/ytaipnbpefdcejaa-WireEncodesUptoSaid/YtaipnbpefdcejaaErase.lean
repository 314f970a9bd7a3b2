/- The walks of the eraser's methods. -/
import Derived.Test.YtaipnbpefdcejaaBlk
set_option linter.unusedVariables false
namespace Go.Proofs.Ytaipnbpefdcejaa
open Go.RowKit
theorem none_ne (g : Nat) : some g ≠ (none : Option Nat) := by simp
theorem grown_alloc (w : World) (o : Obj) (r : Option Nat) : w.grownBy (w.alloc o) r := by
  have hbo : Below w.heap.size w (w.alloc o) := (Below.refl _ _).alloc (Nat.le_refl _) o
  exact ⟨hbo.os, hbo.tape, hbo.output, hbo.size, fun k hk _ => hbo.block k hk⟩
theorem grown_trans2 {w1 w2 w3 : World} {r : Option Nat} (h : w1.grownBy w2 r) (g : w2.grownBy w3 r) : w1.grownBy w3 r :=
  ⟨g.os.trans h.os, g.tape.trans h.tape, g.output.trans h.output, Nat.le_trans h.size g.size, fun k hk hn => (g.block k (Nat.lt_of_lt_of_le hk h.size) hn).trans (h.block k hk hn)⟩
/-- What an eraser's method brings: the block's cells are others, nothing else that was there. -/
def Erased (g : Nat) (cs : List Value) (w : World) (e : Ending) (w' : World) : Prop := e = .returned (.tuple #[]) ∧ Blk w' g 50 cs ∧ w.grownBy w' (some g)

theorem er_number (g : Nat) (cs : List Value) (w : World) (hl : cs.length = 31) (h : Blk w g 50 cs) : Calls Try.prog 89 #[.agg #[], .pointer (some ⟨g, 0, none⟩)] w (Erased g (cs.set 2 (.int .i64 0)) w) := by
  have h2 := h.alloc (.cells #[] 76)
  have hc := h2.cell 2 (by omega)
  have hf := h2.frozen 2
  have h3 := h2.setCell 2 (.int .i64 0)
  have HB := Lib.hid h3.1
  have HG := Lib.hid (grown_trans2 (grown_alloc w (.cells #[] 76) (some g)) h3.2)
  obtain ⟨y, hy⟩ : ∃ y, y = cs[2]'(by omega) := ⟨_, rfl⟩
  rw [← hy] at hc
  clear h h2 h3 hy
  go_enter Try.func89, Try.ntmps89
  go_wp2
  go_end0
  exact ⟨rfl, HB.out, HG.out⟩
theorem er_handle (g : Nat) (cs : List Value) (w : World) (hl : cs.length = 31) (h : Blk w g 50 cs) : Calls Try.prog 86 #[.agg #[], .pointer (some ⟨g, 0, none⟩)] w (Erased g (cs.set 1 (.int .i64 0)) w) := by
  have h2 := h.alloc (.cells #[] 76)
  have hc := h2.cell 1 (by omega)
  have hf := h2.frozen 1
  have h3 := h2.setCell 1 (.int .i64 0)
  have HB := Lib.hid h3.1
  have HG := Lib.hid (grown_trans2 (grown_alloc w (.cells #[] 76) (some g)) h3.2)
  obtain ⟨y, hy⟩ : ∃ y, y = cs[1]'(by omega) := ⟨_, rfl⟩
  rw [← hy] at hc
  clear h h2 h3 hy
  go_enter Try.func86, Try.ntmps86
  go_wp2
  go_end0
  exact ⟨rfl, HB.out, HG.out⟩
theorem er_code (g : Nat) (cs : List Value) (w : World) (hl : cs.length = 31) (h : Blk w g 50 cs) : Calls Try.prog 83 #[.agg #[], .pointer (some ⟨g, 0, none⟩)] w (Erased g (cs.set 27 (.int .i64 0)) w) := by
  have h2 := h.alloc (.cells #[] 76)
  have hc := h2.cell 27 (by omega)
  have hf := h2.frozen 27
  have h3 := h2.setCell 27 (.int .i64 0)
  have HB := Lib.hid h3.1
  have HG := Lib.hid (grown_trans2 (grown_alloc w (.cells #[] 76) (some g)) h3.2)
  obtain ⟨y, hy⟩ : ∃ y, y = cs[27]'(by omega) := ⟨_, rfl⟩
  rw [← hy] at hc
  clear h h2 h3 hy
  go_enter Try.func83, Try.ntmps83
  go_wp2
  go_end0
  exact ⟨rfl, HB.out, HG.out⟩
theorem er_schema (g : Nat) (cs : List Value) (w : World) (hl : cs.length = 31) (h : Blk w g 50 cs) : Calls Try.prog 91 #[.agg #[], .pointer (some ⟨g, 0, none⟩)] w (Erased g (cs.set 28 (.string ByteArray.empty)) w) := by
  have h2 := h.alloc (.cells #[] 76)
  have hc := h2.cell 28 (by omega)
  have hf := h2.frozen 28
  have h3 := h2.setCell 28 (.string ByteArray.empty)
  have HB := Lib.hid h3.1
  have HG := Lib.hid (grown_trans2 (grown_alloc w (.cells #[] 76) (some g)) h3.2)
  obtain ⟨y, hy⟩ : ∃ y, y = cs[28]'(by omega) := ⟨_, rfl⟩
  rw [← hy] at hc
  clear h h2 h3 hy
  go_enter Try.func91, Try.ntmps91
  go_wp2
  go_end0
  exact ⟨rfl, HB.out, HG.out⟩
theorem er_query (g : Nat) (cs : List Value) (w : World) (hl : cs.length = 31) (h : Blk w g 50 cs) : Calls Try.prog 90 #[.agg #[], .pointer (some ⟨g, 0, none⟩)] w (Erased g (cs.set 29 (.string ByteArray.empty)) w) := by
  have h2 := h.alloc (.cells #[] 76)
  have hc := h2.cell 29 (by omega)
  have hf := h2.frozen 29
  have h3 := h2.setCell 29 (.string ByteArray.empty)
  have HB := Lib.hid h3.1
  have HG := Lib.hid (grown_trans2 (grown_alloc w (.cells #[] 76) (some g)) h3.2)
  obtain ⟨y, hy⟩ : ∃ y, y = cs[29]'(by omega) := ⟨_, rfl⟩
  rw [← hy] at hc
  clear h h2 h3 hy
  go_enter Try.func90, Try.ntmps90
  go_wp2
  go_end0
  exact ⟨rfl, HB.out, HG.out⟩
theorem er_image (g : Nat) (cs : List Value) (w : World) (hl : cs.length = 31) (h : Blk w g 50 cs) : Calls Try.prog 87 #[.agg #[], .pointer (some ⟨g, 0, none⟩)] w (Erased g (cs.set 30 (.slice none 0 0)) w) := by
  have h2 := h.alloc (.cells #[] 76)
  have hc := h2.cell 30 (by omega)
  have hf := h2.frozen 30
  have h3 := h2.setCell 30 (.slice none 0 0)
  have HB := Lib.hid h3.1
  have HG := Lib.hid (grown_trans2 (grown_alloc w (.cells #[] 76) (some g)) h3.2)
  obtain ⟨y, hy⟩ : ∃ y, y = cs[30]'(by omega) := ⟨_, rfl⟩
  rw [← hy] at hc
  clear h h2 h3 hy
  go_enter Try.func87, Try.ntmps87
  go_wp2
  go_end0
  exact ⟨rfl, HB.out, HG.out⟩
def z_event : List Value := [.int .i64 0, .int .u64 0, .int .i64 0, .int .i64 0, .int .i64 0, .int .i64 0, .int .i64 0, .int .i64 0, .int .i64 0, .int .i64 0, .int .i64 0]
theorem er_event (g : Nat) (cs : List Value) (w : World) (hl : cs.length = 31) (h : Blk w g 50 cs) : Calls Try.prog 84 #[.agg #[], .pointer (some ⟨g, 0, none⟩)] w (Erased g (spl cs 3 z_event) w) := by
  have h2 := h.alloc (.cells #[] 76)
  have ht := h2.there 3 11 (by omega)
  have h3 := Blk.setCells z_event 3 cs _ h2 (by show 3 + 11 ≤ _; omega)
  have hB := h3.1
  have hG := grown_trans2 (grown_alloc w (.cells #[] 76) (some g)) h3.2
  obtain ⟨W, hW⟩ : ∃ W, W = (w.alloc (.cells #[] 76)).setCells g 3 z_event := ⟨_, rfl⟩
  rw [← hW] at hB hG
  have HB := Lib.hid hB
  have HG := Lib.hid hG
  have HW := Lib.hid hW
  clear h h2 h3 hB hG hW
  go_enter Try.func84, Try.ntmps84
  go_wp2_with (first | ((with_reducible refine at_store ?_); refine wpList_store_mid rfl 39 _ _ rfl g 3 z_event.toArray rfl rfl ht (by kernel_rfl) (by kernel_rfl) ?_; rw [show (w.alloc (.cells #[] 76)).setCells g 3 z_event.toArray.toList = W from HW.out.symm]) | fail)
  go_end0
  exact ⟨rfl, HB.out, HG.out⟩
def z_match : List Value := [.int .i64 0, .slice none 0 0, .slice none 0 0, .slice none 0 0]
theorem er_match (g : Nat) (cs : List Value) (w : World) (hl : cs.length = 31) (h : Blk w g 50 cs) : Calls Try.prog 88 #[.agg #[], .pointer (some ⟨g, 0, none⟩)] w (Erased g (spl cs 14 z_match) w) := by
  have h2 := h.alloc (.cells #[] 76)
  have ht := h2.there 14 4 (by omega)
  have h3 := Blk.setCells z_match 14 cs _ h2 (by show 14 + 4 ≤ _; omega)
  have hB := h3.1
  have hG := grown_trans2 (grown_alloc w (.cells #[] 76) (some g)) h3.2
  obtain ⟨W, hW⟩ : ∃ W, W = (w.alloc (.cells #[] 76)).setCells g 14 z_match := ⟨_, rfl⟩
  rw [← hW] at hB hG
  have HB := Lib.hid hB
  have HG := Lib.hid hG
  have HW := Lib.hid hW
  clear h h2 h3 hB hG hW
  go_enter Try.func88, Try.ntmps88
  go_wp2_with (first | ((with_reducible refine at_store ?_); refine wpList_store_mid rfl 44 _ _ rfl g 14 z_match.toArray rfl rfl ht (by kernel_rfl) (by kernel_rfl) ?_; rw [show (w.alloc (.cells #[] 76)).setCells g 14 z_match.toArray.toList = W from HW.out.symm]) | fail)
  go_end0
  exact ⟨rfl, HB.out, HG.out⟩
def z_sizes : List Value := [.int .i64 0, .bool false, .int .i64 0, .int .i64 0, .int .i64 0, .int .i64 0]
theorem er_sizes (g : Nat) (cs : List Value) (w : World) (hl : cs.length = 31) (h : Blk w g 50 cs) : Calls Try.prog 92 #[.agg #[], .pointer (some ⟨g, 0, none⟩)] w (Erased g (spl cs 18 z_sizes) w) := by
  have h2 := h.alloc (.cells #[] 76)
  have ht := h2.there 18 6 (by omega)
  have h3 := Blk.setCells z_sizes 18 cs _ h2 (by show 18 + 6 ≤ _; omega)
  have hB := h3.1
  have hG := grown_trans2 (grown_alloc w (.cells #[] 76) (some g)) h3.2
  obtain ⟨W, hW⟩ : ∃ W, W = (w.alloc (.cells #[] 76)).setCells g 18 z_sizes := ⟨_, rfl⟩
  rw [← hW] at hB hG
  have HB := Lib.hid hB
  have HG := Lib.hid hG
  have HW := Lib.hid hW
  clear h h2 h3 hB hG hW
  go_enter Try.func92, Try.ntmps92
  go_wp2_with (first | ((with_reducible refine at_store ?_); refine wpList_store_mid rfl 46 _ _ rfl g 18 z_sizes.toArray rfl rfl ht (by kernel_rfl) (by kernel_rfl) ?_; rw [show (w.alloc (.cells #[] 76)).setCells g 18 z_sizes.toArray.toList = W from HW.out.symm]) | fail)
  go_end0
  exact ⟨rfl, HB.out, HG.out⟩
def z_fault : List Value := [.int .i64 0, .int .i64 0, .int .i64 0]
theorem er_fault (g : Nat) (cs : List Value) (w : World) (hl : cs.length = 31) (h : Blk w g 50 cs) : Calls Try.prog 85 #[.agg #[], .pointer (some ⟨g, 0, none⟩)] w (Erased g (spl cs 24 z_fault) w) := by
  have h2 := h.alloc (.cells #[] 76)
  have ht := h2.there 24 3 (by omega)
  have h3 := Blk.setCells z_fault 24 cs _ h2 (by show 24 + 3 ≤ _; omega)
  have hB := h3.1
  have hG := grown_trans2 (grown_alloc w (.cells #[] 76) (some g)) h3.2
  obtain ⟨W, hW⟩ : ∃ W, W = (w.alloc (.cells #[] 76)).setCells g 24 z_fault := ⟨_, rfl⟩
  rw [← hW] at hB hG
  have HB := Lib.hid hB
  have HG := Lib.hid hG
  have HW := Lib.hid hW
  clear h h2 h3 hB hG hW
  go_enter Try.func85, Try.ntmps85
  go_wp2_with (first | ((with_reducible refine at_store ?_); refine wpList_store_mid rfl 48 _ _ rfl g 24 z_fault.toArray rfl rfl ht (by kernel_rfl) (by kernel_rfl) ?_; rw [show (w.alloc (.cells #[] 76)).setCells g 24 z_fault.toArray.toList = W from HW.out.symm]) | fail)
  go_end0
  exact ⟨rfl, HB.out, HG.out⟩
#print axioms er_event
end Go.Proofs.Ytaipnbpefdcejaa
