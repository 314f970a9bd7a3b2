/- Joined by wip/tools/merge.py out of: Wr1 Wr2 Wr3 Wr4 Encode RPut RMatch RField. -/
import Derived.Test.YtaipnbpefdcejaaMB
import Derived.Lib.AppendStr
import Derived.Deep.RegionLaw
/- The walks of the writer's small methods. -/
set_option linter.unusedVariables false
namespace Go.Proofs.Ytaipnbpefdcejaa
open Go.RowKit
/-- Only the row's own block was written; it stays or the row moves to a new one. -/
def Mv (w w' : World) (v v' : Value) : Prop := w.grownBy w' v.ownBlock ∧ (v'.ownBlock = v.ownBlock ∨ ∃ k, v'.ownBlock = some k ∧ w.heap.size ≤ k)
theorem Mv.refl (w : World) (v : Value) : Mv w w v v := ⟨World.grownBy.refl _ _, .inl rfl⟩
theorem Moved.mv {w w' : World} {v v' : Value} (h : Moved w w' v v') : Mv w w' v v' :=
  ⟨h.grown, by rcases h with ⟨h1, _⟩ | ⟨_, h1⟩; exact .inl h1; exact .inr ⟨_, h1, Nat.le_refl _⟩⟩
theorem Mv.trans {w1 w2 w3 : World} {v1 v2 v3 : Value} (h : Mv w1 w2 v1 v2) (g : Mv w2 w3 v2 v3) : Mv w1 w3 v1 v3 := by
  obtain ⟨h1, h2⟩ := h
  obtain ⟨g1, g2⟩ := g
  refine ⟨⟨g1.os.trans h1.os, g1.tape.trans h1.tape, g1.output.trans h1.output, Nat.le_trans h1.size g1.size, fun k hk hn => ?_⟩, ?_⟩
  · refine (g1.block k (Nat.lt_of_lt_of_le hk h1.size) ?_).trans (h1.block k hk hn)
    rcases h2 with h2 | ⟨j, h2, hj⟩
    · rw [h2]; exact hn
    · rw [h2]; intro e; cases e; omega
  · rcases g2 with g2 | ⟨j, g2, hj⟩
    · rw [g2]
      exact h2
    · exact .inr ⟨j, g2, Nat.le_trans h1.size hj⟩
theorem Mv.alloc {w w' : World} {v v' : Value} {o : Obj} (h : Mv (w.alloc o) w' v v') : Mv w w' v v' :=
  Mv.trans ⟨grown_alloc w o _, .inl rfl⟩ h
set_option maxRecDepth 20000 in
theorem put_mv (base k : Nat) (a : Option Addr) (c : Nat) (pre : List UInt8) (n : Nat) (w : World) (hn : n < 18446744073709551616) (hk : k ≤ 140737488355000) (hbase : base ≤ w.heap.size)
    (hown : w.ownsRow base 5 1 (.slice a k c) k (pre.map B)) :
    Calls Try.prog 41 #[.slice a k c, .int .u64 (n : Int)] w fun e w' => ∃ a' c', e = .returned (.slice a' (k + (bytesU n).length) c') ∧ w'.ownsRow base 5 1 (.slice a' (k + (bytesU n).length) c') (k + (bytesU n).length) ((pre ++ bytesU n).map B) ∧ Below base w w' ∧ Mv w w' (.slice a k c) (.slice a' (k + (bytesU n).length) c') := by
  have hlen := bytesU_len10 n hn
  go_enter Try.func41, Try.ntmps41
  go_wp2
  go_loopw [0, 1] (fun v i wr => ∃ (a1 : Option Addr) (c1 m N : Nat) (dn : List UInt8), v = .slice a1 m c1 ∧ i = .int .u64 (N : Int) ∧ N ≤ n ∧ pre ++ bytesU n = dn ++ bytesU N ∧ m + (bytesU N).length = k + (bytesU n).length ∧ wr.ownsRow base 5 1 v m (dn.map B) ∧ Below base w wr ∧ Mv w wr (.slice a k c) v) (fun _ i _ => (intOf i).toNat)
  case atStart => exact ⟨a, c, k, n, pre, rfl, rfl, Nat.le_refl _, rfl, rfl, hown, Below.refl _ _, Mv.refl _ _⟩
  case round =>
    obtain ⟨a1, c1, m, N, dn, rfl, rfl, hNn, hbs, hm, hown1, hbel, hmv⟩ := hrel
    have hs := hbel.size
    have HMV := Lib.hid hmv
    clear hmv
    by_cases hlt : N < 128
    · have hlt' : ¬ (128 : Int) ≤ N := by omega
      have hlow := bytesU_low hlt
      rw [hlow] at hbs hm
      have HBS := Lib.hid hbs
      have HM := Lib.hid hm
      have hmb : m ≤ 140737488355200 := by rw [List.length_singleton] at hm; omega
      have hy : Value.int .u8 (N : Int) = B (UInt8.ofNat N) := by rw [B, UInt8.toNat_ofNat']; congr 1; omega
      have HY := Lib.hid hy
      clear hbs hm hlow hlen hy
      go_wp2_with (first | (at_builtin; refine app_b1 wr rfl _ _ rfl base (.slice a1 m c1) m dn rfl hown1 _ (UInt8.ofNat N) HY.out rfl (by omega) (by omega) ?_; intro a2 c2 w2 hown2 hb2 hmv2) | fail)
      go_ret
      have hmv3 := HMV.out.trans hmv2.mv.alloc
      rw [show dn ++ [UInt8.ofNat N] = pre ++ bytesU n from HBS.out.symm] at hown2
      have hM := HM.out
      rw [List.length_singleton] at hM
      rw [hM] at hown2 hmv3 ⊢
      exact ⟨a2, c2, rfl, by simpa only [List.map_append] using hown2, hbel.trans hb2, hmv3⟩
    · have hlt' : (128 : Int) ≤ N := by omega
      have hhigh := bytesU_high hlt
      rw [hhigh] at hbs hm
      have HBS := Lib.hid hbs
      have HM := Lib.hid hm
      have hmb : m ≤ 140737488355200 := by rw [List.length_cons] at hm; omega
      have hy : Value.int .u8 (bits .or .u8 (IntKind.u8.wrap (N : Int)) 128) = B (UInt8.ofNat (N % 128 + 128)) := by rw [high_byte, B]
      have HY := Lib.hid hy
      clear hbs hm hhigh hlen hy
      go_wp2_with (first | (at_builtin; refine app_b1 wr rfl _ _ rfl base (.slice a1 m c1) m dn rfl hown1 _ (UInt8.ofNat (N % 128 + 128)) HY.out rfl (by omega) (by omega) ?_; intro a2 c2 w2 hown2 hb2 hmv2) | fail)
      go_wp2
      go_roundw
      case rel =>
        refine ⟨a2, c2, m + 1, N / 128, dn ++ [UInt8.ofNat (N % 128 + 128)], rfl, by go_num, by omega, by rw [HBS.out]; simp, ?_, hown2, hbel.trans hb2, HMV.out.trans hmv2.mv.alloc⟩
        have hM := HM.out
        rw [List.length_cons] at hM
        omega
      case measure => simp [intOf]; omega
/-- The writer in block g holds the bytes l, in a row of its own. -/
def Wr (base g : Nat) (l : List UInt8) (w : World) : Prop :=
  base ≤ g ∧ ∃ a c, Blk w g 86 [.slice a l.length c] ∧ w.ownsRow base 5 1 (.slice a l.length c) l.length (l.map B) ∧ (Value.slice a l.length c).ownBlock ≠ some g
def WPost (w0 : World) (g : Nat) (l : List UInt8) (e : Ending) (w' : World) : Prop := e = .returned (.tuple #[]) ∧ Wr w0.heap.size g l w' ∧ Below w0.heap.size w0 w'
/-- A block that is neither the writer nor its row. -/
def Off (g k : Nat) (w : World) : Prop := k ≠ g ∧ ∀ v, w.cell? ⟨g, 0, none⟩ = some v → v.ownBlock ≠ some k
/-- Nothing but the writer and its row was written. -/
def Fr (g : Nat) (w w' : World) : Prop := w.heap.size ≤ w'.heap.size ∧ ∀ k, k < w.heap.size → Off g k w → w'.heap[k]? = w.heap[k]? ∧ Off g k w'
theorem Fr.trans {g : Nat} {w1 w2 w3 : World} (h : Fr g w1 w2) (h' : Fr g w2 w3) : Fr g w1 w3 :=
  ⟨Nat.le_trans h.1 h'.1, fun k hk ho => ⟨(h'.2 k (Nat.lt_of_lt_of_le hk h.1) (h.2 k hk ho).2).1.trans (h.2 k hk ho).1, (h'.2 k (Nat.lt_of_lt_of_le hk h.1) (h.2 k hk ho).2).2⟩⟩
theorem Fr.blk {g k : Nat} {w w' : World} {t : TypeId} {cs : List Value} (h : Fr g w w') (hk : Blk w k t cs) (ho : Off g k w) : Blk w' k t cs ∧ Off g k w' := by
  obtain ⟨h1, h2⟩ := h.2 k hk.lt ho
  exact ⟨by unfold Blk; rw [h1]; exact hk, h2⟩
def WPostF (w0 : World) (g : Nat) (l : List UInt8) (w : World) (e : Ending) (w' : World) : Prop := WPost w0 g l e w' ∧ Fr g w w'
/-- The row has moved, and stands in the writer again. -/
theorem wr_stored {w0 w w1 : World} {g k0 : Nat} {l l' : List UInt8} {a a' : Option Addr} {c c' n : Nat} (hkl : k0 = l.length) (hb0 : Below w0.heap.size w0 w) (hg : w0.heap.size ≤ g) (hk : Blk w g 86 [.slice a l.length c]) (hne : (Value.slice a l.length c).ownBlock ≠ some g)
    (hn : l'.length = n) (hown : w1.ownsRow w0.heap.size 5 1 (.slice a' n c') n (l'.map B)) (hb : Below w0.heap.size w w1) (hm : Mv w w1 (.slice a k0 c) (.slice a' n c')) :
    Blk w1 g 86 [.slice a k0 c] ∧ WPostF w0 g l' w (.returned (.tuple #[])) (w1.setCell ⟨g, 0, none⟩ (.slice a' n c')) := by
  subst hn; subst hkl
  have hk1 := hk.kept hm.1 (fun e => hne e.symm)
  have hs := hk1.setCell 0 (.slice a' l'.length c')
  have hne' : (Value.slice a' l'.length c').ownBlock ≠ some g := by
    rcases hm.2 with h | ⟨k, h, hk2⟩
    · rw [h]; exact hne
    · rw [h]; intro e; cases e; have := hk.lt; omega
  refine ⟨hk1, ⟨rfl, ⟨hg, a', c', hs.1, hown.kept hs.2 (.inr hne'), hne'⟩, ?_⟩, Nat.le_trans hm.1.size hs.2.size, fun k hk3 ho => ?_⟩
  · exact (hb0.trans hb).grown hs.2 (Nat.le_trans hb0.size hb.size) (fun k hk => by cases hk; exact hg)
  · have hc := hk.cell 0 (by simp)
    have h1 := ho.2 _ hc
    simp only [List.getElem_cons_zero] at h1
    refine ⟨(hs.2.block k (Nat.lt_of_lt_of_le hk3 hm.1.size) (fun e => ho.1 (by cases e; rfl))).trans (hm.1.block k hk3 (fun e => h1 e.symm)), ho.1, fun v hv => ?_⟩
    have hc2 := hs.1.cell 0 (by simp)
    simp only [List.set_cons_zero, List.getElem_cons_zero] at hc2
    rw [hc2] at hv
    cases hv
    rcases hm.2 with h | ⟨j, h, hj⟩
    · rw [h]; exact h1
    · rw [h]; intro e; cases e; omega
theorem wr_uintF (w0 : World) (g : Nat) (l : List UInt8) (x : Int) (n : Nat) (w : World) (hx : x = (n : Int)) (hn : n < 18446744073709551616) (hl : l.length ≤ 140737488355000) (hb0 : Below w0.heap.size w0 w) (h : Wr w0.heap.size g l w) :
    Calls Try.prog 104 #[.pointer (some ⟨g, 0, none⟩), .int .u64 x] w (WPostF w0 g (l ++ bytesU n) w) := by
  subst hx
  obtain ⟨hg, a, c, hk, hown, hne⟩ := h
  have hc := hk.cell 0 (by simp)
  have hf := hk.frozen 0
  have hs0 := hb0.size
  simp only [List.getElem_cons_zero] at hc
  obtain ⟨k, hkl⟩ : ∃ k, k = l.length := ⟨_, rfl⟩
  have hln : (l ++ bytesU n).length = k + (bytesU n).length := by rw [List.length_append, hkl]
  have HK := Lib.hid hk
  have HNE := Lib.hid hne
  have HB0 := Lib.hid hb0
  have HLN := Lib.hid hln
  have HKL := Lib.hid hkl
  rw [← hkl] at hc hown hl
  clear hk hne hb0 hln hkl
  go_enter Try.func104, Try.ntmps104
  go_wp2_with fail
  refine (put_mv w0.heap.size k a c l n w hn hl hs0 hown).mono ?_
  rintro e w1 ⟨a1, c1, rfl, hown1, hb1, hm1⟩
  obtain ⟨hk1, hp⟩ := wr_stored HKL.out HB0.out hg HK.out HNE.out HLN.out hown1 hb1 hm1
  have hc1 := hk1.cell 0 (by simp)
  have hf1 := hk1.frozen 0
  simp only [List.getElem_cons_zero] at hc1
  have HP := Lib.hid hp
  clear hk1 hp hown1 hb1 hm1 hc hf hown
  go_wp2
  go_end0
  exact HP.out
set_option maxRecDepth 20000 in
theorem wr_intF (w0 : World) (g : Nat) (l : List UInt8) (i : Int) (w : World) (hi : I64 i) (hl : l.length ≤ 140737488355000) (hb0 : Below w0.heap.size w0 w) (h : Wr w0.heap.size g l w) :
    Calls Try.prog 98 #[.pointer (some ⟨g, 0, none⟩), .int .i64 i] w (WPostF w0 g (l ++ bytesI i) w) := by
  obtain ⟨hg, a, c, hk, hown, hne⟩ := h
  have hc := hk.cell 0 (by simp)
  have hf := hk.frozen 0
  have hs0 := hb0.size
  simp only [List.getElem_cons_zero] at hc
  obtain ⟨k, hkl⟩ : ∃ k, k = l.length := ⟨_, rfl⟩
  have hln : (l ++ bytesI i).length = k + (bytesU (zig i)).length := by rw [List.length_append, hkl]; rfl
  have hz := zig_lt i hi
  have HK := Lib.hid hk
  have HNE := Lib.hid hne
  have HB0 := Lib.hid hb0
  have HLN := Lib.hid hln
  have HKL := Lib.hid hkl
  rw [← hkl] at hc hown hl
  clear hk hne hb0 hln hkl
  go_enter Try.func98, Try.ntmps98
  go_wp2
  go_region_with (first | (go_at_call 42; refine (zigzag_any i _ hi).mono ?_; rintro e _ ⟨rfl, rfl⟩) | (go_at_call 41; refine (put_mv w0.heap.size k a c l (zig i) _ hz hl ?_ ?_).mono ?_; exact hs0; exact hown; rintro e w1 ⟨a1, c1, rfl, hown1, hb1, hm1⟩; obtain ⟨hk1, hp⟩ := wr_stored HKL.out HB0.out.drew hg HK.out HNE.out HLN.out hown1 hb1 hm1; have hc1 := hk1.cell 0 (by simp); have hf1 := hk1.frozen 0; simp only [List.getElem_cons_zero] at hc1; have HP := Lib.hid hp; clear hk1 hp hown1 hb1 hm1))
  all_goals go_end0
  all_goals exact HP.out
theorem wr_truthF (w0 : World) (g : Nat) (l : List UInt8) (t : Bool) (w : World) (hl : l.length ≤ 140737488355000) (hb0 : Below w0.heap.size w0 w) (h : Wr w0.heap.size g l w) :
    Calls Try.prog 105 #[.pointer (some ⟨g, 0, none⟩), .bool t] w (WPostF w0 g (l ++ byT t) w) := by
  obtain ⟨hg, a, c, hk, hown, hne⟩ := h
  have hc := hk.cell 0 (by simp)
  have hf := hk.frozen 0
  have hs0 := hb0.size
  simp only [List.getElem_cons_zero] at hc
  obtain ⟨k, hkl⟩ : ∃ k, k = l.length := ⟨_, rfl⟩
  have hln : (l ++ byT t).length = k + 1 := by rw [List.length_append, hkl]; rfl
  have HK := Lib.hid hk
  have HNE := Lib.hid hne
  have HB0 := Lib.hid hb0
  have HLN := Lib.hid hln
  have HKL := Lib.hid hkl
  rw [← hkl] at hc hown hl
  clear hk hne hb0 hln hkl
  cases t
  · go_enter Try.func105, Try.ntmps105
    go_wp2_with (first | (at_builtin; refine app_b1 w rfl _ _ rfl w0.heap.size (.slice a k c) k l rfl hown _ 0 rfl rfl (by omega) (by omega) ?_; intro a1 c1 w1 hown1 hb1 hm1; have hm1 := hm1.mv.alloc; obtain ⟨hk1, hp⟩ := wr_stored HKL.out HB0.out hg HK.out HNE.out HLN.out hown1 hb1 hm1; have hc1 := hk1.cell 0 (by simp); have hf1 := hk1.frozen 0; simp only [List.getElem_cons_zero] at hc1; have HP := Lib.hid hp; clear hk1 hp hown1 hb1 hm1) | fail)
    go_end0
    exact HP.out
  · go_enter Try.func105, Try.ntmps105
    go_wp2_with (first | (at_builtin; refine app_b1 w rfl _ _ rfl w0.heap.size (.slice a k c) k l rfl hown _ 1 rfl rfl (by omega) (by omega) ?_; intro a1 c1 w1 hown1 hb1 hm1; have hm1 := hm1.mv.alloc; obtain ⟨hk1, hp⟩ := wr_stored HKL.out HB0.out hg HK.out HNE.out HLN.out hown1 hb1 hm1; have hc1 := hk1.cell 0 (by simp); have hf1 := hk1.frozen 0; simp only [List.getElem_cons_zero] at hc1; have HP := Lib.hid hp; clear hk1 hp hown1 hb1 hm1) | fail)
    go_end0
    exact HP.out
theorem wr_uint (w0 : World) (g : Nat) (l : List UInt8) (x : Int) (n : Nat) (w : World) (hx : x = (n : Int)) (hn : n < 18446744073709551616) (hl : l.length ≤ 140737488355000) (hb0 : Below w0.heap.size w0 w) (h : Wr w0.heap.size g l w) :
    Calls Try.prog 104 #[.pointer (some ⟨g, 0, none⟩), .int .u64 x] w (WPost w0 g (l ++ bytesU n)) := (wr_uintF w0 g l x n w hx hn hl hb0 h).mono fun _ _ h => h.1
theorem wr_int (w0 : World) (g : Nat) (l : List UInt8) (i : Int) (w : World) (hi : I64 i) (hl : l.length ≤ 140737488355000) (hb0 : Below w0.heap.size w0 w) (h : Wr w0.heap.size g l w) :
    Calls Try.prog 98 #[.pointer (some ⟨g, 0, none⟩), .int .i64 i] w (WPost w0 g (l ++ bytesI i)) := (wr_intF w0 g l i w hi hl hb0 h).mono fun _ _ h => h.1
theorem wr_truth (w0 : World) (g : Nat) (l : List UInt8) (t : Bool) (w : World) (hl : l.length ≤ 140737488355000) (hb0 : Below w0.heap.size w0 w) (h : Wr w0.heap.size g l w) :
    Calls Try.prog 105 #[.pointer (some ⟨g, 0, none⟩), .bool t] w (WPost w0 g (l ++ byT t)) := (wr_truthF w0 g l t w hl hb0 h).mono fun _ _ h => h.1
/-- Bytes of a slice or of a string behind the writer's. -/
theorem strCells_B (s : ByteArray) : Lib.strCells s = s.data.toList.map B := rfl
theorem run_append_str (w : World) (base : Nat) (ty : TypeId) (v : Value) (n : Nat) (xs : List Value) (hown : w.ownsRow base 5 1 v n xs) (s : ByteArray) (hbytes : n + s.size ≤ 140737488355328) (hbase : base ≤ w.heap.size) :
    ∃ a' c' w', (Builtin.append_ #[23, 9] ty #[v, .string s]).run Try.prog w = .ok (.slice a' (n + s.size) c') w' ∧ w'.ownsRow base 5 1 (.slice a' (n + s.size) c') (n + s.size) (xs ++ Lib.strCells s) ∧ Moved w w' v (.slice a' (n + s.size) c') := by
  obtain ⟨i, hi, hz, hsize, hby⟩ := info_parts info5
  have ht := Try.underlying23
  have hu := Try.underlying9
  have h63 : n + s.size ≤ maxLen := by unfold maxLen; omega
  have hxl : xs.length = n := by simpa using hown.1
  have hlen : (xs ++ Lib.strCells s).length = (n + s.size) * 1 := by rw [List.length_append, hxl, Lib.strCells_length, Nat.mul_one]
  have grown : ∀ (old : Nat), old < n + s.size → ∀ (row : Option Nat),
      (w.drew.alloc (.cells (xs.toArray ++ (Lib.strCells s).toArray ++ Builtin.zeroCells (Value.int .u8 0).cells (grownCap w (n + s.size) old 5 - (n + s.size))) 5)).ownsRow base 5 1
        (.slice (some ⟨w.heap.size, 0, none⟩) (n + s.size) (grownCap w (n + s.size) old 5)) (n + s.size) (xs ++ Lib.strCells s) ∧
      w.grownBy (w.drew.alloc (.cells (xs.toArray ++ (Lib.strCells s).toArray ++ Builtin.zeroCells (Value.int .u8 0).cells (grownCap w (n + s.size) old 5 - (n + s.size))) 5)) row := by
    intro old ho row
    have hge := grownCap_ge w (n + s.size) old 5
    have hcm : grownCap w (n + s.size) old 5 ≤ maxLen := grownCap_le_maxLen w (n + s.size) old 5 h63
    refine ⟨⟨hlen, .inr ⟨w.heap.size, _, _, rfl, hbase, heap_alloc_new w.drew _, hge, hcm, ?_, ?_⟩⟩, ⟨rfl, rfl, rfl, by simp, fun k hk _ => Go.heap_alloc_old w.drew _ hk⟩⟩
    · have hz1 : (Value.int IntKind.u8 0).cells.size = 1 := rfl
      simp only [Array.size_append, List.size_toArray, size_zeroCells, hz1, hxl, Lib.strCells_length]
      omega
    · simp only [Array.toList_append, List.append_assoc]
      rw [← List.append_assoc, ← hlen]
      exact List.take_left
  rcases hown.2 with ⟨rfl, rfl⟩ | ⟨g, cap, cur, rfl, hbg, hg, hnc, hcm, hcs, htake⟩
  · have hx : xs = [] := List.eq_nil_of_length_eq_zero hxl
    subst hx
    by_cases hm : s.size = 0
    · have hn : Lib.strCells s = [] := List.eq_nil_of_length_eq_zero (by rw [Lib.strCells_length]; exact hm)
      have hf := Lib.run_firstCells_string (P := Try.prog) w 1 s
      rw [hm] at hf
      refine ⟨none, 0, w, ?_, by rw [hm, hn]; exact World.ownsRow_nil w base 5 1, .inl ⟨rfl, World.grownBy.refl _ _⟩⟩
      simp [Builtin.append_, run_underlying ht, run_underlying hu, sizeOf, typeInfo, hi, hsize, Builtin.lenOf, hm, hf]
    · have hr := run_append_nil_string (P := Try.prog) w 23 9 ty 5 i (.int .u8 0) ht hu hi hz s (by omega) (by omega) (by rw [hby]; omega)
      have hgr := grown 0 (by omega) none
      simp only [Nat.zero_add, List.nil_append, Array.empty_append] at hgr ⊢
      have e1 : (s.data.map fun b => Value.int .u8 b.toNat) = (Lib.strCells s).toArray := by
        apply Array.ext'
        simp [Lib.strCells]
      rw [e1] at hr
      exact ⟨_, _, _, hr, hgr.1, .inr ⟨hgr.2, rfl⟩⟩
  · by_cases hroom : n + s.size ≤ cap
    · have hcs' : cur.size = cap := by simpa using hcs
      have hr := Lib.run_append_room_string (P := Try.prog) w 23 9 ty 5 i ht hu hi hsize g n cap cur hg s hroom (by omega)
      refine ⟨_, _, _, hr, ⟨hlen, .inr ⟨g, cap, _, rfl, hbg, setRow_heap w g cur _ 5 _ hg, hroom, hcm, ?_, ?_⟩⟩, .inl ⟨rfl, ⟨rfl, rfl, rfl, by simp, fun k _ hk => setRow_other w g k _ (fun e => hk (by simp [Value.ownBlock, e]))⟩⟩⟩
      · simp only [List.size_toArray, List.length_append, List.length_take, List.length_drop, Array.length_toList, Lib.strCells_length]
        omega
      · have ht' : cur.toList.take n = xs := by simpa using htake
        rw [ht', ← hlen]
        exact List.take_left
    · have holds : ∀ j u, xs[j]? = some u → w.cell? ((⟨g, 0, none⟩ : Addr).add j) = some u := hown.cells (g := g) rfl
      have hr := Lib.run_append_grow_string (P := Try.prog) w 23 9 ty 5 i (.int .u8 0) ht hu hi hz ⟨g, 0, none⟩ n cap xs (by rw [hsize]; simpa using hxl) holds s (by omega) (by omega) (by rw [hby]; exact growslice_fits (by omega) (by omega))
      have hgr := grown cap (by omega) none
      exact ⟨_, _, _, hr, hgr.1, .inr ⟨hgr.2, rfl⟩⟩
theorem app_s (w : World) {ops : Array Oper} {rest : List Oper} {o : Oper} {a : Act} {Q : Exit → Act → World → Prop} (hgd : o.guard = none) (sl x : Operand)
    (ho : o.op = .call { callee := .builtin .append, args := #[sl, x], argTypes := #[23, 9] }) (base : Nat) (b : Option Addr) (n c : Nat) (l1 : List UInt8) (hs : a.eval sl = .slice b n c) (hown : w.ownsRow base 5 1 (.slice b n c) n (l1.map B))
    (s : ByteArray) (hx : a.eval x = .string s) (hb : n + s.size ≤ 140737488355328) (hbase : base ≤ w.heap.size)
    (h : ∀ a' c' w', w'.ownsRow base 5 1 (.slice a' (n + s.size) c') (n + s.size) ((l1 ++ s.data.toList).map B) → Below base w w' → Mv w w' (.slice b n c) (.slice a' (n + s.size) c') →
      wpList Try.prog ops Q rest (a.put o.dst (.slice a' (n + s.size) c')) w') : wpList Try.prog ops Q (o :: rest) a w := by
  refine wpList_plain hgd fun K hK => ?_
  obtain ⟨a', c', w', hr, h2, h3⟩ := run_append_str w base o.type _ n _ hown s hb hbase
  unfold Oper.wp execOp
  simp only [ho, resolve, invoke, builtin, Sem.run_bind, Sem.run_pure, Result.andThen_ok, List.map_toArray, List.map_cons, List.map_nil, hs, hx, hr]
  rw [strCells_B, ← List.map_append] at h2
  exact hK _ _ (h a' c' w' h2 (h3.below (fun k hk => (hown.lt k hk).1) hbase) h3.mv)
theorem wr_text (w0 : World) (g : Nat) (l : List UInt8) (s : ByteArray) (w : World) (hs : s.size ≤ 1073741824) (hl : l.length ≤ 140700000000000) (hb0 : Below w0.heap.size w0 w) (h : Wr w0.heap.size g l w) :
    Calls Try.prog 106 #[.pointer (some ⟨g, 0, none⟩), .string s] w (WPostF w0 g (l ++ encText s) w) := by
  go_enter Try.func106, Try.ntmps106
  go_wp2_with fail
  refine (wr_uintF w0 g l _ s.size w rfl (by omega) (by omega) hb0 h).mono ?_
  rintro e w1 ⟨⟨rfl, ⟨hg, a, c, hk, hown, hne⟩, hb1⟩, hf1⟩
  have HFR := Lib.hid hf1
  clear hf1
  have h10 := bytesU_le s.size (by omega)
  obtain ⟨l1, hl1⟩ : ∃ l1, l1 = l ++ bytesU s.size := ⟨_, rfl⟩
  have hl1b : l1.length ≤ 140711111111111 := by rw [hl1, List.length_append]; omega
  rw [← hl1] at hk hown hne
  have hfin : l ++ encText s = l1 ++ s.data.toList := by rw [hl1, encText, List.append_assoc]
  have hc := hk.cell 0 (by simp)
  have hf := hk.frozen 0
  have hs0 := hb1.size
  simp only [List.getElem_cons_zero] at hc
  obtain ⟨k, hkl⟩ : ∃ k, k = l1.length := ⟨_, rfl⟩
  have hln : (l1 ++ s.data.toList).length = k + s.size := by rw [List.length_append, hkl, Array.length_toList]; rfl
  have HK := Lib.hid hk
  have HNE := Lib.hid hne
  have HB0 := Lib.hid hb1
  have HLN := Lib.hid hln
  have HKL := Lib.hid hkl
  have HF := Lib.hid hfin
  rw [← hkl] at hc hown hl1b
  clear hk hne hb1 hln hkl hl1 hfin hb0 h
  go_wp2_with (first | (at_builtin; refine app_s w1 rfl _ _ rfl w0.heap.size a k c l1 rfl hown s rfl (by omega) hs0 ?_; intro a1 c1 w2 hown1 hb1 hm1; obtain ⟨hk1, hp⟩ := wr_stored HKL.out HB0.out hg HK.out HNE.out HLN.out hown1 hb1 hm1; have hc1 := hk1.cell 0 (by simp); have hf1 := hk1.frozen 0; simp only [List.getElem_cons_zero] at hc1; have HP := Lib.hid hp; clear hk1 hp hown1 hb1 hm1) | fail)
  go_end0
  rw [HF.out]
  exact ⟨HP.out.1, HFR.out.trans HP.out.2⟩
theorem Wr.fr {base g : Nat} {l : List UInt8} {w : World} (h : Wr base g l w) (o : Obj) : Fr g w (w.alloc o) := by
  obtain ⟨hg, a, c, hk, hown, hne⟩ := h
  have hb := (Below.refl w.heap.size w).alloc (Nat.le_refl _) o
  refine ⟨hb.size, fun k hk2 ho => ⟨hb.block k hk2, ho.1, fun v hv => ho.2 v ?_⟩⟩
  rw [World.cell?_of_block (w := w) (hb.block g hk.lt)] at hv
  exact hv
theorem Fr.refl (g : Nat) (w : World) : Fr g w w := ⟨Nat.le_refl _, fun _ _ h => ⟨rfl, h⟩⟩
end Go.Proofs.Ytaipnbpefdcejaa
/- The walks of the writer's methods for the fields. -/
set_option linter.unusedVariables false
namespace Go.Proofs.Ytaipnbpefdcejaa
open Go.RowKit
/-- append of a slice's bytes, as a step of a region that draws its order. -/
theorem step_app_b {ops : Array Oper} {o : Oper} {a : Act} {w : World} {K : Act → World → Prop} {Q : Exit → Act → World → Prop} {E : Prop} (hgd : o.guard = none) (s x : Operand)
    (ho : o.op = .call { callee := .builtin .append, args := #[s, x], argTypes := #[23, 23] }) (base : Nat) (v : Value) (n : Nat) (l1 : List UInt8) (hs : a.eval s = v) (hown : w.ownsRow base 5 1 v n (l1.map B))
    (ao : Option Addr) (m c : Nat) (l2 : List UInt8) (hx : a.eval x = .slice ao m c) (hl : l2.length = m) (hrd : Rd w ao (l2.map B)) (hb : n + m ≤ 140737488355328) (hbase : base ≤ w.heap.size)
    (h : ∀ a' c' w', w'.ownsRow base 5 1 (.slice a' (n + m) c') (n + m) ((l1 ++ l2).map B) → Below base w w' → Moved w w' v (.slice a' (n + m) c') →
      K (a.put o.dst (.slice a' (n + m) c')) w') : if Region.wanted o (yielded ops a.tmps) = true then Oper.wp Try.prog o a w K Q else E := by
  have hw : Region.wanted o (yielded ops a.tmps) = true := by simp [Region.wanted, hgd]
  rw [if_pos hw]
  obtain ⟨i0, hi, hz0, hz1, hz2⟩ := info_parts info5
  obtain ⟨a', c', w', hr, h2, h3⟩ := run_append_rd (P := Try.prog) w base 23 o.type 5 i0 (.int .u8 0) 1 1 Try.underlying23 hi hz0 hz1 hz2 rfl (by decide) v n _ hown ao m c _ (by simp [hl]) hrd (B_oneCell l2) (by unfold maxLen; omega) (by omega) hbase
  unfold Oper.wp execOp
  simp only [ho, resolve, invoke, builtin, Sem.run_bind, Sem.run_pure, Result.andThen_ok, List.map_toArray, List.map_cons, List.map_nil, hs, hx, hr]
  rw [← List.map_append] at h2
  exact h a' c' w' h2 (h3.below (fun k hk => (hown.lt k hk).1) hbase) h3
set_option maxRecDepth 20000 in
theorem wm_number (w0 : World) (g gm : Nat) (l : List UInt8) (m : M) (p : Ps) (w : World) (hwf : WfM m) (hh : 0 ≤ m.handle) (hl : l.length ≤ 100000000000000) (hb0 : Below w0.heap.size w0 w) (h : Wr w0.heap.size g l w) (hk : Blk w0 gm 50 (cellsM m p)) (hr : MRd w0 m p) :
    Calls Try.prog 100 #[.pointer (some ⟨g, 0, none⟩), .pointer (some ⟨gm, 0, none⟩)] w (WPostF w0 g (l ++ encF "sluice/wire.number" m) w) := by
  have hc2 : w.cell? ⟨gm, 2, none⟩ = some (.int .i64 m.num) := (hk.below hb0).cell 2 (by rw [cellsM_len]; omega)
  go_enter Try.func100, Try.ntmps100
  go_wp2_with fail
  refine (wr_intF w0 g l m.num w hwf.num (by omega) hb0 h).mono ?_
  rintro e w1 ⟨⟨rfl, h1⟩, hf1⟩
  go_wp2
  go_end0
  exact ⟨⟨rfl, h1⟩, hf1⟩
set_option maxRecDepth 20000 in
theorem wm_handle (w0 : World) (g gm : Nat) (l : List UInt8) (m : M) (p : Ps) (w : World) (hwf : WfM m) (hh : 0 ≤ m.handle) (hl : l.length ≤ 100000000000000) (hb0 : Below w0.heap.size w0 w) (h : Wr w0.heap.size g l w) (hk : Blk w0 gm 50 (cellsM m p)) (hr : MRd w0 m p) :
    Calls Try.prog 96 #[.pointer (some ⟨g, 0, none⟩), .pointer (some ⟨gm, 0, none⟩)] w (WPostF w0 g (l ++ encF "sluice/wire.handle" m) w) := by
  have hc1 : w.cell? ⟨gm, 1, none⟩ = some (.int .i64 m.handle) := (hk.below hb0).cell 1 (by rw [cellsM_len]; omega)
  go_enter Try.func96, Try.ntmps96
  go_wp2_with fail
  refine (wr_uintF w0 g l _ m.handle.toNat w (by first | (rw [IntKind.wrap_u64]; have := hwf.handle; unfold I64 at this; omega) | omega) (by have := hwf.handle; unfold I64 at this; omega) (by omega) hb0 h).mono ?_
  rintro e w1 ⟨⟨rfl, h1⟩, hf1⟩
  go_wp2
  go_end0
  exact ⟨⟨rfl, h1⟩, hf1⟩
set_option maxRecDepth 20000 in
theorem wm_code (w0 : World) (g gm : Nat) (l : List UInt8) (m : M) (p : Ps) (w : World) (hwf : WfM m) (hh : 0 ≤ m.handle) (hl : l.length ≤ 100000000000000) (hb0 : Below w0.heap.size w0 w) (h : Wr w0.heap.size g l w) (hk : Blk w0 gm 50 (cellsM m p)) (hr : MRd w0 m p) :
    Calls Try.prog 93 #[.pointer (some ⟨g, 0, none⟩), .pointer (some ⟨gm, 0, none⟩)] w (WPostF w0 g (l ++ encF "sluice/wire.code" m) w) := by
  have hc27 : w.cell? ⟨gm, 27, none⟩ = some (.int .i64 m.code) := (hk.below hb0).cell 27 (by rw [cellsM_len]; omega)
  go_enter Try.func93, Try.ntmps93
  go_wp2_with fail
  refine (wr_intF w0 g l m.code w hwf.code (by omega) hb0 h).mono ?_
  rintro e w1 ⟨⟨rfl, h1⟩, hf1⟩
  go_wp2
  go_end0
  exact ⟨⟨rfl, h1⟩, hf1⟩
set_option maxRecDepth 20000 in
theorem wm_schema (w0 : World) (g gm : Nat) (l : List UInt8) (m : M) (p : Ps) (w : World) (hwf : WfM m) (hh : 0 ≤ m.handle) (hl : l.length ≤ 100000000000000) (hb0 : Below w0.heap.size w0 w) (h : Wr w0.heap.size g l w) (hk : Blk w0 gm 50 (cellsM m p)) (hr : MRd w0 m p) :
    Calls Try.prog 102 #[.pointer (some ⟨g, 0, none⟩), .pointer (some ⟨gm, 0, none⟩)] w (WPostF w0 g (l ++ encF "sluice/wire.schema" m) w) := by
  have hc28 : w.cell? ⟨gm, 28, none⟩ = some (.string m.schema) := (hk.below hb0).cell 28 (by rw [cellsM_len]; omega)
  go_enter Try.func102, Try.ntmps102
  go_wp2_with fail
  refine (wr_text w0 g l m.schema w hwf.sl (by omega) hb0 h).mono ?_
  rintro e w1 ⟨⟨rfl, h1⟩, hf1⟩
  go_wp2
  go_end0
  exact ⟨⟨rfl, h1⟩, hf1⟩
set_option maxRecDepth 20000 in
theorem wm_query (w0 : World) (g gm : Nat) (l : List UInt8) (m : M) (p : Ps) (w : World) (hwf : WfM m) (hh : 0 ≤ m.handle) (hl : l.length ≤ 100000000000000) (hb0 : Below w0.heap.size w0 w) (h : Wr w0.heap.size g l w) (hk : Blk w0 gm 50 (cellsM m p)) (hr : MRd w0 m p) :
    Calls Try.prog 101 #[.pointer (some ⟨g, 0, none⟩), .pointer (some ⟨gm, 0, none⟩)] w (WPostF w0 g (l ++ encF "sluice/wire.query" m) w) := by
  have hc29 : w.cell? ⟨gm, 29, none⟩ = some (.string m.query) := (hk.below hb0).cell 29 (by rw [cellsM_len]; omega)
  go_enter Try.func101, Try.ntmps101
  go_wp2_with fail
  refine (wr_text w0 g l m.query w hwf.ql (by omega) hb0 h).mono ?_
  rintro e w1 ⟨⟨rfl, h1⟩, hf1⟩
  go_wp2
  go_end0
  exact ⟨⟨rfl, h1⟩, hf1⟩
set_option maxRecDepth 20000 in
theorem wm_fault (w0 : World) (g gm : Nat) (l : List UInt8) (m : M) (p : Ps) (w : World) (hwf : WfM m) (hh : 0 ≤ m.handle) (hl : l.length ≤ 100000000000000) (hb0 : Below w0.heap.size w0 w) (h : Wr w0.heap.size g l w) (hk : Blk w0 gm 50 (cellsM m p)) (hr : MRd w0 m p) :
    Calls Try.prog 95 #[.pointer (some ⟨g, 0, none⟩), .pointer (some ⟨gm, 0, none⟩)] w (WPostF w0 g (l ++ encF "sluice/wire.fault" m) w) := by
  have hc24 : w.cell? ⟨gm, 24, none⟩ = some (.int .i64 m.fwhere) := (hk.below hb0).cell 24 (by rw [cellsM_len]; omega)
  go_enter Try.func95, Try.ntmps95
  go_wp2_with fail
  refine (wr_intF w0 g l m.fwhere w hwf.fwhere (by omega) hb0 h).mono ?_
  rintro e w1 ⟨⟨rfl, h1, hb1⟩, hf1⟩
  have q1 := bytesI_le _ hwf.fwhere
  have q2 := bytesI_le _ hwf.fcode
  have hd25 : w1.cell? ⟨gm, 25, none⟩ = some (.int .i64 m.fcode) := (hk.below hb1).cell 25 (by rw [cellsM_len]; omega)
  go_wp2_with fail
  refine (wr_intF w0 g _ m.fcode w1 hwf.fcode (by rw [List.length_append]; omega) hb1 h1).mono ?_
  rintro e w2 ⟨⟨rfl, h2, hb2⟩, hf2⟩
  have he26 : w2.cell? ⟨gm, 26, none⟩ = some (.int .i64 m.fat) := (hk.below hb2).cell 26 (by rw [cellsM_len]; omega)
  go_wp2_with fail
  refine (wr_intF w0 g _ m.fat w2 hwf.fat (by simp only [List.length_append]; omega) hb2 h2).mono ?_
  rintro e w3 ⟨⟨rfl, h3, hb3⟩, hf3⟩
  go_wp2
  go_end0
  rw [List.append_assoc, List.append_assoc] at h3
  exact ⟨⟨rfl, h3, hb3⟩, hf1.trans (hf2.trans hf3)⟩
set_option maxRecDepth 20000 in
theorem wm_image (w0 : World) (g gm : Nat) (l : List UInt8) (m : M) (p : Ps) (w : World) (hwf : WfM m) (hh : 0 ≤ m.handle) (hl : l.length ≤ 100000000000000) (hb0 : Below w0.heap.size w0 w) (h : Wr w0.heap.size g l w) (hk : Blk w0 gm 50 (cellsM m p)) (hr : MRd w0 m p) :
    Calls Try.prog 97 #[.pointer (some ⟨g, 0, none⟩), .pointer (some ⟨gm, 0, none⟩)] w (WPostF w0 g (l ++ encF "sluice/wire.image" m) w) := by
  have hc30 : w.cell? ⟨gm, 30, none⟩ = some (.slice p.ai m.image.length p.ci) := (hk.below hb0).cell 30 (by rw [cellsM_len]; omega)
  obtain ⟨n, hn⟩ : ∃ n, n = m.image.length := ⟨_, rfl⟩
  have hnb := hwf.il
  rw [← hn] at hc30 hnb
  have h10 := bytesU_le n (by omega)
  have HN := Lib.hid hn
  clear hn
  go_enter Try.func97, Try.ntmps97
  go_wp2_with fail
  refine (wr_uintF w0 g l _ n w rfl (by omega) (by omega) hb0 h).mono ?_
  rintro e w1 ⟨⟨rfl, ⟨hg, a, c, hkw, hown, hne⟩, hb1⟩, hf1⟩
  have HFR := Lib.hid hf1
  clear hf1
  obtain ⟨l1, hl1⟩ : ∃ l1, l1 = l ++ bytesU n := ⟨_, rfl⟩
  have hl1b : l1.length ≤ 110000000000000 := by rw [hl1, List.length_append]; omega
  rw [← hl1] at hkw hown hne
  have hfin : l ++ encF "sluice/wire.image" m = l1 ++ m.image := by rw [hl1, HN.out, List.append_assoc]; rfl
  have hc := hkw.cell 0 (by simp)
  have hf := hkw.frozen 0
  have hs0 := hb1.size
  simp only [List.getElem_cons_zero] at hc
  obtain ⟨k, hkl⟩ : ∃ k, k = l1.length := ⟨_, rfl⟩
  have hln : (l1 ++ m.image).length = k + n := by rw [List.length_append, hkl, HN.out]
  have hd30 : w1.cell? ⟨gm, 30, none⟩ = some (.slice p.ai n p.ci) := by rw [HN.out]; exact (hk.below hb1).cell 30 (by rw [cellsM_len]; omega)
  have hri : Rd w1 p.ai (m.image.map B) := hr.2.2.2.below hb1
  have HK := Lib.hid hkw
  have HNE := Lib.hid hne
  have HB0 := Lib.hid hb1
  have HLN := Lib.hid hln
  have HKL := Lib.hid hkl
  have HF := Lib.hid hfin
  have HRI := Lib.hid hri
  rw [← hkl] at hc hown hl1b
  clear hkw hne hb1 hln hkl hl1 hfin hb0 h hk hr hc30 hri
  go_wp2
  go_region_law (first | (refine step_app_b rfl _ _ rfl w0.heap.size (.slice a k c) k l1 rfl ?_ p.ai n p.ci m.image rfl HN.out.symm ?_ (by omega) ?_ ?_; exact hown; exact HRI.out; exact hs0; intro a1 c1 w2 hown1 hb1 hm1; obtain ⟨hk1, hp⟩ := wr_stored HKL.out HB0.out.drew hg HK.out HNE.out HLN.out hown1 hb1 hm1.mv; have hc1 := hk1.cell 0 (by simp); have hf1 := hk1.frozen 0; simp only [List.getElem_cons_zero] at hc1; have HP := Lib.hid hp; clear hk1 hp hown1 hb1 hm1))
  all_goals go_end0
  all_goals rw [HF.out]
  all_goals exact ⟨HP.out.1, HFR.out.trans HP.out.2⟩
end Go.Proofs.Ytaipnbpefdcejaa
/- The walks of the writer's methods for events and sizes. -/
set_option linter.unusedVariables false
namespace Go.Proofs.Ytaipnbpefdcejaa
open Go.RowKit
theorem Wr.alloc {base g : Nat} {l : List UInt8} {w : World} (h : Wr base g l w) (o : Obj) : Wr base g l (w.alloc o) := by
  obtain ⟨hg, a, c, hk, hown, hne⟩ := h
  exact ⟨hg, a, c, hk.alloc o, hown.alloc _, hne⟩
theorem Wr.off {base g : Nat} {l : List UInt8} {w : World} (h : Wr base g l w) (o : Obj) : Off g w.heap.size (w.alloc o) := by
  obtain ⟨hg, a, c, hk, hown, hne⟩ := h
  have hc := (hk.alloc o).cell 0 (by simp)
  simp only [List.getElem_cons_zero] at hc
  refine ⟨fun e => by have := hk.lt; omega, fun v hv => ?_⟩
  rw [hc] at hv
  cases hv
  intro e
  have := (hown.lt _ e).2
  omega
set_option maxRecDepth 20000 in
theorem wm_event (w0 : World) (g gm : Nat) (l : List UInt8) (m : M) (p : Ps) (w : World) (hwf : WfM m) (hh : 0 ≤ m.handle) (hl : l.length ≤ 100000000000000) (hb0 : Below w0.heap.size w0 w) (h : Wr w0.heap.size g l w) (hk : Blk w0 gm 50 (cellsM m p)) (hr : MRd w0 m p) :
    Calls Try.prog 94 #[.pointer (some ⟨g, 0, none⟩), .pointer (some ⟨gm, 0, none⟩)] w (WPostF w0 g (l ++ encF "sluice/wire.event" m) w) := by
  have hrg : w.rangeAt gm 3 [.int .i64 m.ts, .int .u64 m.id, .int .i64 m.typ, .int .i64 m.a0, .int .i64 m.a1, .int .i64 m.a2, .int .i64 m.a3, .int .i64 m.a4, .int .i64 m.a5, .int .i64 m.a6, .int .i64 m.a7] := by
    have := (hk.below hb0).range 3 11 (by rw [cellsM_len]; omega)
    exact this
  obtain ⟨w1, hw1⟩ : ∃ w1, w1 = w.alloc (.cells #[.int .i64 m.ts, .int .u64 m.id, .int .i64 m.typ, .int .i64 m.a0, .int .i64 m.a1, .int .i64 m.a2, .int .i64 m.a3, .int .i64 m.a4, .int .i64 m.a5, .int .i64 m.a6, .int .i64 m.a7] 39) := ⟨_, rfl⟩
  have hg : g < w.heap.size := by obtain ⟨_, _, _, hk, _⟩ := h; exact hk.lt
  have h1 : Wr w0.heap.size g l w1 := by rw [hw1]; exact h.alloc _
  have hb1 : Below w0.heap.size w0 w1 := by rw [hw1]; exact hb0.alloc hb0.size _
  have hk1 : Blk w1 w.heap.size 39 [.int .i64 m.ts, .int .u64 m.id, .int .i64 m.typ, .int .i64 m.a0, .int .i64 m.a1, .int .i64 m.a2, .int .i64 m.a3, .int .i64 m.a4, .int .i64 m.a5, .int .i64 m.a6, .int .i64 m.a7] := by rw [hw1]; exact Blk.new w _ 39
  have ho1 : Off g w.heap.size w1 := by rw [hw1]; exact h.off _
  have hfr := h.fr
  have hf1 : Fr g w w1 := by rw [hw1]; exact hfr _
  clear hfr
  have HF1 := Lib.hid hf1
  clear hf1
  go_enter Try.func94, Try.ntmps94
  go_wp2_with (first | ((with_reducible refine at_dst 10 ?_); refine wpList_load_midg rfl _ _ rfl _ _ rfl _ _ hrg Try.underlying39 rfl (by kernel_rfl) ?_) | fail)
  obtain ⟨ge, hge⟩ : ∃ ge, ge = w.heap.size := ⟨_, rfl⟩
  rw [← hge] at hk1 ho1
  rw [← hw1, ← hge]
  clear hw1 hge hrg h hb0
  have q1 := bytesI_le _ hwf.ts
  have q2 := bytesU_le m.id.toNat (by have := hwf.id; unfold U64 at this; omega)
  have q3 := bytesI_le _ hwf.typ
  have qi : (m.id.toNat : Int) = m.id := by have := hwf.id; unfold U64 at this; omega
  refine (wr_intF w0 g l m.ts w1 hwf.ts (by omega) hb1 h1).mono ?_
  rintro e w2 ⟨⟨rfl, h2, hb2⟩, hf2⟩
  obtain ⟨hk2, ho2⟩ := hf2.blk hk1 ho1
  have hd2 : w2.cell? ⟨ge, 1, none⟩ = some (.int .u64 m.id) := hk2.cell 1 (by simp)
  have HF2 := Lib.hid (HF1.out.trans hf2)
  clear hf2 hk1 ho1 h1 hb1
  go_wp2_with fail
  refine (wr_uintF w0 g _ m.id m.id.toNat w2 qi.symm (by have := hwf.id; unfold U64 at this; omega) (by rw [List.length_append]; omega) hb2 h2).mono ?_
  rintro e w3 ⟨⟨rfl, h3, hb3⟩, hf3⟩
  obtain ⟨hk3, ho3⟩ := hf3.blk hk2 ho2
  have hd3 : w3.cell? ⟨ge, 2, none⟩ = some (.int .i64 m.typ) := hk3.cell 2 (by simp)
  have HF3 := Lib.hid (HF2.out.trans hf3)
  clear hf3 hk2 ho2 h2 hb2 hd2
  go_wp2_with fail
  refine (wr_intF w0 g _ m.typ w3 hwf.typ (by simp only [List.length_append]; omega) hb3 h3).mono ?_
  rintro e w4 ⟨⟨rfl, h4, hb4⟩, hf4⟩
  obtain ⟨hk4, ho4⟩ := hf4.blk hk3 ho3
  have hrg4 : w4.rangeAt ge 3 [.int .i64 m.a0, .int .i64 m.a1, .int .i64 m.a2, .int .i64 m.a3, .int .i64 m.a4, .int .i64 m.a5, .int .i64 m.a6, .int .i64 m.a7] := by
    have := hk4.range 3 8 (by simp)
    exact this
  have HF4 := Lib.hid (HF3.out.trans hf4)
  clear hf4 hk3 ho3 h3 hb3 hd3
  go_wp2_with (first | ((with_reducible refine at_dst 24 ?_); refine wpList_load_midg rfl _ _ rfl _ _ rfl _ _ hrg4 Try.underlying37 rfl (by kernel_rfl) ?_) | fail)
  obtain ⟨lb, hlb⟩ : ∃ lb, lb = l ++ bytesI m.ts ++ bytesU m.id.toNat ++ bytesI m.typ := ⟨_, rfl⟩
  have hlbl : lb.length ≤ 100000000000100 := by rw [hlb]; simp only [List.length_append]; omega
  have hfin : l ++ encF "sluice/wire.event" m = lb ++ (attrs m).flatMap bytesI := by rw [hlb]; simp only [List.append_assoc]; rfl
  rw [← hlb] at h4
  have HF := Lib.hid hfin
  clear hlb hfin q1 q2 q3 qi hrg4 hk4 ho4 hg hk hr hh
  go_loopw [25] (fun i wr => ∃ k : Nat, k ≤ 8 ∧ i = .int .i64 (k : Int) ∧ Wr w0.heap.size g (lb ++ ((attrs m).take k).flatMap bytesI) wr ∧ Below w0.heap.size w0 wr ∧ Fr g w wr) (fun i _ => 8 - (intOf i).toNat)
  case atStart => exact ⟨0, by omega, rfl, by simpa using h4, hb4, HF4.out⟩
  case round =>
    obtain ⟨k, hk, rfl, hw, hbw, hfw⟩ := hrel
    have HFW := Lib.hid hfw
    clear hfw
    have hlen := flat_le bytesI 10 ((attrs m).take k) fun v hv => by
      have hv := List.mem_of_mem_take hv
      simp only [attrs, List.mem_cons, List.not_mem_nil, or_false] at hv
      rcases hv with rfl | rfl | rfl | rfl | rfl | rfl | rfl | rfl
      · exact bytesI_le _ hwf.a0
      · exact bytesI_le _ hwf.a1
      · exact bytesI_le _ hwf.a2
      · exact bytesI_le _ hwf.a3
      · exact bytesI_le _ hwf.a4
      · exact bytesI_le _ hwf.a5
      · exact bytesI_le _ hwf.a6
      · exact bytesI_le _ hwf.a7
    have hll : (lb ++ ((attrs m).take k).flatMap bytesI).length ≤ 100000000001000 := by
      have : ((attrs m).take k).length ≤ 8 := by rw [List.length_take]; show min k 8 ≤ 8; omega
      rw [List.length_append]
      omega
    clear hlen
    obtain ⟨z, hz⟩ : ∃ z : Int, z = (k : Int) := ⟨_, rfl⟩
    rw [← hz]
    have hcases : k = 0 ∨ k = 1 ∨ k = 2 ∨ k = 3 ∨ k = 4 ∨ k = 5 ∨ k = 6 ∨ k = 7 ∨ k = 8 := by omega
    rcases hcases with rfl | rfl | rfl | rfl | rfl | rfl | rfl | rfl | rfl
    · obtain rfl : z = 0 := by omega
      clear hz
      have hix : (Instr.index 37 (.agg #[.int .i64 m.a0, .int .i64 m.a1, .int .i64 m.a2, .int .i64 m.a3, .int .i64 m.a4, .int .i64 m.a5, .int .i64 m.a6, .int .i64 m.a7]) (.int .i64 0)).run Try.prog wr = .ok (.int .i64 m.a0) wr := by first | rfl | kernel_rfl | simp [Instr.index, Try.underlying37]
      go_wp2_with fail
      refine (wr_intF w0 g _ m.a0 wr hwf.a0 (by omega) hbw hw).mono ?_
      rintro e w5 ⟨⟨rfl, h5, hb5⟩, hf5⟩
      have HF5 := Lib.hid (HFW.out.trans hf5)
      clear hf5
      go_wp2
      go_roundw
      case rel => exact ⟨1, by omega, by go_num, by simpa [attrs, List.append_assoc] using h5, hb5, HF5.out⟩
      case measure => simp [intOf]
    · obtain rfl : z = 1 := by omega
      clear hz
      have hix : (Instr.index 37 (.agg #[.int .i64 m.a0, .int .i64 m.a1, .int .i64 m.a2, .int .i64 m.a3, .int .i64 m.a4, .int .i64 m.a5, .int .i64 m.a6, .int .i64 m.a7]) (.int .i64 1)).run Try.prog wr = .ok (.int .i64 m.a1) wr := by first | rfl | kernel_rfl | simp [Instr.index, Try.underlying37]
      go_wp2_with fail
      refine (wr_intF w0 g _ m.a1 wr hwf.a1 (by omega) hbw hw).mono ?_
      rintro e w5 ⟨⟨rfl, h5, hb5⟩, hf5⟩
      have HF5 := Lib.hid (HFW.out.trans hf5)
      clear hf5
      go_wp2
      go_roundw
      case rel => exact ⟨2, by omega, by go_num, by simpa [attrs, List.append_assoc] using h5, hb5, HF5.out⟩
      case measure => simp [intOf]
    · obtain rfl : z = 2 := by omega
      clear hz
      have hix : (Instr.index 37 (.agg #[.int .i64 m.a0, .int .i64 m.a1, .int .i64 m.a2, .int .i64 m.a3, .int .i64 m.a4, .int .i64 m.a5, .int .i64 m.a6, .int .i64 m.a7]) (.int .i64 2)).run Try.prog wr = .ok (.int .i64 m.a2) wr := by first | rfl | kernel_rfl | simp [Instr.index, Try.underlying37]
      go_wp2_with fail
      refine (wr_intF w0 g _ m.a2 wr hwf.a2 (by omega) hbw hw).mono ?_
      rintro e w5 ⟨⟨rfl, h5, hb5⟩, hf5⟩
      have HF5 := Lib.hid (HFW.out.trans hf5)
      clear hf5
      go_wp2
      go_roundw
      case rel => exact ⟨3, by omega, by go_num, by simpa [attrs, List.append_assoc] using h5, hb5, HF5.out⟩
      case measure => simp [intOf]
    · obtain rfl : z = 3 := by omega
      clear hz
      have hix : (Instr.index 37 (.agg #[.int .i64 m.a0, .int .i64 m.a1, .int .i64 m.a2, .int .i64 m.a3, .int .i64 m.a4, .int .i64 m.a5, .int .i64 m.a6, .int .i64 m.a7]) (.int .i64 3)).run Try.prog wr = .ok (.int .i64 m.a3) wr := by first | rfl | kernel_rfl | simp [Instr.index, Try.underlying37]
      go_wp2_with fail
      refine (wr_intF w0 g _ m.a3 wr hwf.a3 (by omega) hbw hw).mono ?_
      rintro e w5 ⟨⟨rfl, h5, hb5⟩, hf5⟩
      have HF5 := Lib.hid (HFW.out.trans hf5)
      clear hf5
      go_wp2
      go_roundw
      case rel => exact ⟨4, by omega, by go_num, by simpa [attrs, List.append_assoc] using h5, hb5, HF5.out⟩
      case measure => simp [intOf]
    · obtain rfl : z = 4 := by omega
      clear hz
      have hix : (Instr.index 37 (.agg #[.int .i64 m.a0, .int .i64 m.a1, .int .i64 m.a2, .int .i64 m.a3, .int .i64 m.a4, .int .i64 m.a5, .int .i64 m.a6, .int .i64 m.a7]) (.int .i64 4)).run Try.prog wr = .ok (.int .i64 m.a4) wr := by first | rfl | kernel_rfl | simp [Instr.index, Try.underlying37]
      go_wp2_with fail
      refine (wr_intF w0 g _ m.a4 wr hwf.a4 (by omega) hbw hw).mono ?_
      rintro e w5 ⟨⟨rfl, h5, hb5⟩, hf5⟩
      have HF5 := Lib.hid (HFW.out.trans hf5)
      clear hf5
      go_wp2
      go_roundw
      case rel => exact ⟨5, by omega, by go_num, by simpa [attrs, List.append_assoc] using h5, hb5, HF5.out⟩
      case measure => simp [intOf]
    · obtain rfl : z = 5 := by omega
      clear hz
      have hix : (Instr.index 37 (.agg #[.int .i64 m.a0, .int .i64 m.a1, .int .i64 m.a2, .int .i64 m.a3, .int .i64 m.a4, .int .i64 m.a5, .int .i64 m.a6, .int .i64 m.a7]) (.int .i64 5)).run Try.prog wr = .ok (.int .i64 m.a5) wr := by first | rfl | kernel_rfl | simp [Instr.index, Try.underlying37]
      go_wp2_with fail
      refine (wr_intF w0 g _ m.a5 wr hwf.a5 (by omega) hbw hw).mono ?_
      rintro e w5 ⟨⟨rfl, h5, hb5⟩, hf5⟩
      have HF5 := Lib.hid (HFW.out.trans hf5)
      clear hf5
      go_wp2
      go_roundw
      case rel => exact ⟨6, by omega, by go_num, by simpa [attrs, List.append_assoc] using h5, hb5, HF5.out⟩
      case measure => simp [intOf]
    · obtain rfl : z = 6 := by omega
      clear hz
      have hix : (Instr.index 37 (.agg #[.int .i64 m.a0, .int .i64 m.a1, .int .i64 m.a2, .int .i64 m.a3, .int .i64 m.a4, .int .i64 m.a5, .int .i64 m.a6, .int .i64 m.a7]) (.int .i64 6)).run Try.prog wr = .ok (.int .i64 m.a6) wr := by first | rfl | kernel_rfl | simp [Instr.index, Try.underlying37]
      go_wp2_with fail
      refine (wr_intF w0 g _ m.a6 wr hwf.a6 (by omega) hbw hw).mono ?_
      rintro e w5 ⟨⟨rfl, h5, hb5⟩, hf5⟩
      have HF5 := Lib.hid (HFW.out.trans hf5)
      clear hf5
      go_wp2
      go_roundw
      case rel => exact ⟨7, by omega, by go_num, by simpa [attrs, List.append_assoc] using h5, hb5, HF5.out⟩
      case measure => simp [intOf]
    · obtain rfl : z = 7 := by omega
      clear hz
      have hix : (Instr.index 37 (.agg #[.int .i64 m.a0, .int .i64 m.a1, .int .i64 m.a2, .int .i64 m.a3, .int .i64 m.a4, .int .i64 m.a5, .int .i64 m.a6, .int .i64 m.a7]) (.int .i64 7)).run Try.prog wr = .ok (.int .i64 m.a7) wr := by first | rfl | kernel_rfl | simp [Instr.index, Try.underlying37]
      go_wp2_with fail
      refine (wr_intF w0 g _ m.a7 wr hwf.a7 (by omega) hbw hw).mono ?_
      rintro e w5 ⟨⟨rfl, h5, hb5⟩, hf5⟩
      have HF5 := Lib.hid (HFW.out.trans hf5)
      clear hf5
      go_wp2
      go_roundw
      case rel => exact ⟨8, by omega, by go_num, by simpa [attrs, List.append_assoc] using h5, hb5, HF5.out⟩
      case measure => simp [intOf]
    · obtain rfl : z = 8 := by omega
      clear hz
      go_wp2
      go_end0
      rw [HF.out]
      exact ⟨⟨rfl, hw, hbw⟩, HFW.out⟩
set_option maxRecDepth 20000 in
theorem wm_sizes (w0 : World) (g gm : Nat) (l : List UInt8) (m : M) (p : Ps) (w : World) (hwf : WfM m) (hh : 0 ≤ m.handle) (hl : l.length ≤ 100000000000000) (hb0 : Below w0.heap.size w0 w) (h : Wr w0.heap.size g l w) (hk : Blk w0 gm 50 (cellsM m p)) (hr : MRd w0 m p) :
    Calls Try.prog 103 #[.pointer (some ⟨g, 0, none⟩), .pointer (some ⟨gm, 0, none⟩)] w (WPostF w0 g (l ++ encF "sluice/wire.sizes" m) w) := by
  have hrg : w.rangeAt gm 18 [.int .i64 m.mark, .bool m.closed, .int .i64 m.held, .int .i64 m.kept, .int .i64 m.waiting, .int .i64 m.parts] := by
    have := (hk.below hb0).range 18 6 (by rw [cellsM_len]; omega)
    exact this
  obtain ⟨w1, hw1⟩ : ∃ w1, w1 = w.alloc (.cells #[.int .i64 m.mark, .bool m.closed, .int .i64 m.held, .int .i64 m.kept, .int .i64 m.waiting, .int .i64 m.parts] 46) := ⟨_, rfl⟩
  have hg : g < w.heap.size := by obtain ⟨_, _, _, hk, _⟩ := h; exact hk.lt
  have h1 : Wr w0.heap.size g l w1 := by rw [hw1]; exact h.alloc _
  have hb1 : Below w0.heap.size w0 w1 := by rw [hw1]; exact hb0.alloc hb0.size _
  have hk1 : Blk w1 w.heap.size 46 [.int .i64 m.mark, .bool m.closed, .int .i64 m.held, .int .i64 m.kept, .int .i64 m.waiting, .int .i64 m.parts] := by rw [hw1]; exact Blk.new w _ 46
  have ho1 : Off g w.heap.size w1 := by rw [hw1]; exact h.off _
  have hfr := h.fr
  have hf1 : Fr g w w1 := by rw [hw1]; exact hfr _
  clear hfr
  have HF1 := Lib.hid hf1
  clear hf1
  go_enter Try.func103, Try.ntmps103
  go_wp2_with (first | ((with_reducible refine at_dst 10 ?_); refine wpList_load_midg rfl _ _ rfl _ _ rfl _ _ hrg Try.underlying46 rfl (by kernel_rfl) ?_) | fail)
  obtain ⟨ge, hge⟩ : ∃ ge, ge = w.heap.size := ⟨_, rfl⟩
  rw [← hge] at hk1 ho1
  rw [← hw1, ← hge]
  clear hw1 hge hrg h hb0
  have q1 := bytesI_le _ hwf.mark
  refine (wr_intF w0 g l m.mark w1 hwf.mark (by omega) hb1 h1).mono ?_
  rintro e w2 ⟨⟨rfl, h2, hb2⟩, hf2⟩
  obtain ⟨hk2, ho2⟩ := hf2.blk hk1 ho1
  have hd2 : w2.cell? ⟨ge, 1, none⟩ = some (.bool m.closed) := hk2.cell 1 (by simp)
  have HF2 := Lib.hid (HF1.out.trans hf2)
  clear hf2 hk1 ho1 h1 hb1
  go_wp2_with fail
  refine (wr_truthF w0 g _ m.closed w2 (by rw [List.length_append]; omega) hb2 h2).mono ?_
  rintro e w4 ⟨⟨rfl, h4, hb4⟩, hf4⟩
  obtain ⟨hk4, ho4⟩ := hf4.blk hk2 ho2
  have he2 : w4.cell? ⟨ge, 2, none⟩ = some (.int .i64 m.held) := hk4.cell 2 (by simp)
  have he3 : w4.cell? ⟨ge, 3, none⟩ = some (.int .i64 m.kept) := hk4.cell 3 (by simp)
  have he4 : w4.cell? ⟨ge, 4, none⟩ = some (.int .i64 m.waiting) := hk4.cell 4 (by simp)
  have he5 : w4.cell? ⟨ge, 5, none⟩ = some (.int .i64 m.parts) := hk4.cell 5 (by simp)
  have HF4 := Lib.hid (HF2.out.trans hf4)
  clear hf4 hk2 ho2 h2 hb2 hd2
  go_wp2_with fail
  obtain ⟨lb, hlb⟩ : ∃ lb, lb = l ++ bytesI m.mark ++ byT m.closed := ⟨_, rfl⟩
  have hlbl : lb.length ≤ 100000000000100 := by rw [hlb]; simp only [List.length_append, byT_len]; omega
  have hfin : l ++ encF "sluice/wire.sizes" m = lb ++ [m.held, m.kept, m.waiting, m.parts].flatMap bytesI := by rw [hlb]; simp only [List.append_assoc]; rfl
  rw [← hlb] at h4
  have HF := Lib.hid hfin
  clear hlb hfin q1 he2 he3 he4 he5 hk4 ho4 hg hk hr hh
  go_loopw [28] (fun i wr => ∃ k : Nat, k ≤ 4 ∧ i = .int .i64 (k : Int) ∧ Wr w0.heap.size g (lb ++ (([m.held, m.kept, m.waiting, m.parts]).take k).flatMap bytesI) wr ∧ Below w0.heap.size w0 wr ∧ Fr g w wr) (fun i _ => 4 - (intOf i).toNat)
  case atStart => exact ⟨0, by omega, rfl, by simpa using h4, hb4, HF4.out⟩
  case round =>
    obtain ⟨k, hk, rfl, hw, hbw, hfw⟩ := hrel
    have HFW := Lib.hid hfw
    clear hfw
    have hlen := flat_le bytesI 10 (([m.held, m.kept, m.waiting, m.parts]).take k) fun v hv => by
      have hv := List.mem_of_mem_take hv
      simp only [List.mem_cons, List.not_mem_nil, or_false] at hv
      rcases hv with rfl | rfl | rfl | rfl
      · exact bytesI_le _ hwf.held
      · exact bytesI_le _ hwf.kept
      · exact bytesI_le _ hwf.waiting
      · exact bytesI_le _ hwf.parts
    have hll : (lb ++ (([m.held, m.kept, m.waiting, m.parts]).take k).flatMap bytesI).length ≤ 100000000001000 := by
      have : (([m.held, m.kept, m.waiting, m.parts]).take k).length ≤ 4 := by rw [List.length_take]; show min k 4 ≤ 4; omega
      rw [List.length_append]
      omega
    clear hlen
    obtain ⟨z, hz⟩ : ∃ z : Int, z = (k : Int) := ⟨_, rfl⟩
    rw [← hz]
    have hcases : k = 0 ∨ k = 1 ∨ k = 2 ∨ k = 3 ∨ k = 4 := by omega
    rcases hcases with rfl | rfl | rfl | rfl | rfl
    · obtain rfl : z = 0 := by omega
      clear hz
      have hix : (Instr.index 129 (.agg #[.int .i64 m.held, .int .i64 m.kept, .int .i64 m.waiting, .int .i64 m.parts]) (.int .i64 0)).run Try.prog wr = .ok (.int .i64 m.held) wr := by first | rfl | kernel_rfl | simp [Instr.index, Try.underlying129]
      go_wp2_with fail
      refine (wr_intF w0 g _ m.held wr hwf.held (by omega) hbw hw).mono ?_
      rintro e w5 ⟨⟨rfl, h5, hb5⟩, hf5⟩
      have HF5 := Lib.hid (HFW.out.trans hf5)
      clear hf5
      go_wp2
      go_roundw
      case rel => exact ⟨1, by omega, by go_num, by simpa [List.append_assoc] using h5, hb5, HF5.out⟩
      case measure => simp [intOf]
    · obtain rfl : z = 1 := by omega
      clear hz
      have hix : (Instr.index 129 (.agg #[.int .i64 m.held, .int .i64 m.kept, .int .i64 m.waiting, .int .i64 m.parts]) (.int .i64 1)).run Try.prog wr = .ok (.int .i64 m.kept) wr := by first | rfl | kernel_rfl | simp [Instr.index, Try.underlying129]
      go_wp2_with fail
      refine (wr_intF w0 g _ m.kept wr hwf.kept (by omega) hbw hw).mono ?_
      rintro e w5 ⟨⟨rfl, h5, hb5⟩, hf5⟩
      have HF5 := Lib.hid (HFW.out.trans hf5)
      clear hf5
      go_wp2
      go_roundw
      case rel => exact ⟨2, by omega, by go_num, by simpa [List.append_assoc] using h5, hb5, HF5.out⟩
      case measure => simp [intOf]
    · obtain rfl : z = 2 := by omega
      clear hz
      have hix : (Instr.index 129 (.agg #[.int .i64 m.held, .int .i64 m.kept, .int .i64 m.waiting, .int .i64 m.parts]) (.int .i64 2)).run Try.prog wr = .ok (.int .i64 m.waiting) wr := by first | rfl | kernel_rfl | simp [Instr.index, Try.underlying129]
      go_wp2_with fail
      refine (wr_intF w0 g _ m.waiting wr hwf.waiting (by omega) hbw hw).mono ?_
      rintro e w5 ⟨⟨rfl, h5, hb5⟩, hf5⟩
      have HF5 := Lib.hid (HFW.out.trans hf5)
      clear hf5
      go_wp2
      go_roundw
      case rel => exact ⟨3, by omega, by go_num, by simpa [List.append_assoc] using h5, hb5, HF5.out⟩
      case measure => simp [intOf]
    · obtain rfl : z = 3 := by omega
      clear hz
      have hix : (Instr.index 129 (.agg #[.int .i64 m.held, .int .i64 m.kept, .int .i64 m.waiting, .int .i64 m.parts]) (.int .i64 3)).run Try.prog wr = .ok (.int .i64 m.parts) wr := by first | rfl | kernel_rfl | simp [Instr.index, Try.underlying129]
      go_wp2_with fail
      refine (wr_intF w0 g _ m.parts wr hwf.parts (by omega) hbw hw).mono ?_
      rintro e w5 ⟨⟨rfl, h5, hb5⟩, hf5⟩
      have HF5 := Lib.hid (HFW.out.trans hf5)
      clear hf5
      go_wp2
      go_roundw
      case rel => exact ⟨4, by omega, by go_num, by simpa [List.append_assoc] using h5, hb5, HF5.out⟩
      case measure => simp [intOf]
    · obtain rfl : z = 4 := by omega
      clear hz
      go_wp2
      go_end0
      rw [HF.out]
      exact ⟨⟨rfl, hw, hbw⟩, HFW.out⟩
end Go.Proofs.Ytaipnbpefdcejaa
/- The walk of the writer's method for a match. -/
set_option linter.unusedVariables false
namespace Go.Proofs.Ytaipnbpefdcejaa
open Go.RowKit
theorem flat_take_le {α : Type} (f : α → List UInt8) (c k N : Nat) (l : List α) (hl : l.length ≤ N) (h : ∀ v ∈ l, (f v).length ≤ c) : ((l.take k).flatMap f).length ≤ N * c := by
  have h1 := flat_le f c (l.take k) fun v hv => h v (List.mem_of_mem_take hv)
  have h2 : (l.take k).length ≤ N := by rw [List.length_take]; omega
  exact Nat.le_trans h1 (Nat.mul_le_mul_right _ h2)
theorem Rd.nat {w : World} {a : Option Addr} {l : List (Int × Int)} (h : Rd w a (ncells l)) (i : Nat) (hi : i < l.length) :
    ∃ b off, a = some ⟨b, off, none⟩ ∧ w.cell? ⟨b, off + i * 2, none⟩ = some (.int .i64 l[i].1) ∧ w.cell? ⟨b, off + i * 2 + 1, none⟩ = some (.int .u64 l[i].2) := by
  have hg : ∀ (l : List (Int × Int)) (i : Nat) (hi : i < l.length), (ncells l)[i * 2]? = some (.int .i64 l[i].1) ∧ (ncells l)[i * 2 + 1]? = some (.int .u64 l[i].2) := by
    intro l
    induction l with
    | nil => intro i hi; simp at hi
    | cons v l ih =>
      intro i hi
      cases i with
      | zero => exact ⟨rfl, rfl⟩
      | succ i =>
        have := ih i (by simpa using hi)
        rw [show (i + 1) * 2 = (i * 2 + 1) + 1 by omega]
        exact this
  obtain ⟨g1, g2⟩ := hg l i hi
  rcases h with h | ⟨b, off, rfl, hc⟩
  · rw [h] at g1; cases g1
  · exact ⟨b, off, rfl, hc _ _ g1, hc _ _ g2⟩
theorem Rd.zat {w : World} {a : Option Addr} {l : List Int} (h : Rd w a (zcells l)) (i : Nat) (hi : i < l.length) :
    ∃ b off, a = some ⟨b, off, none⟩ ∧ w.cell? ⟨b, off + i, none⟩ = some (.int .i64 l[i]) := by
  have g1 : (zcells l)[i]? = some (.int .i64 l[i]) := by simp [zcells, hi]
  rcases h with h | ⟨b, off, rfl, hc⟩
  · rw [h] at g1; cases g1
  · exact ⟨b, off, rfl, hc _ _ g1⟩
theorem flat_take_snoc {α : Type} (f : α → List UInt8) (l : List α) (k : Nat) (h : k < l.length) : (l.take (k + 1)).flatMap f = (l.take k).flatMap f ++ f l[k] := by
  rw [List.take_succ_eq_append_getElem h, List.flatMap_append]
  simp
set_option maxHeartbeats 2000000 in
set_option maxRecDepth 20000 in
theorem wm_match (w0 : World) (g gm : Nat) (l : List UInt8) (m : M) (p : Ps) (w : World) (hwf : WfM m) (hh : 0 ≤ m.handle) (hl : l.length ≤ 100000000000000) (hb0 : Below w0.heap.size w0 w) (h : Wr w0.heap.size g l w) (hk : Blk w0 gm 50 (cellsM m p)) (hr : MRd w0 m p) :
    Calls Try.prog 99 #[.pointer (some ⟨g, 0, none⟩), .pointer (some ⟨gm, 0, none⟩)] w (WPostF w0 g (l ++ encF "sluice/wire.match" m) w) := by
  obtain ⟨nn, hnn⟩ : ∃ n, n = m.names.length := ⟨_, rfl⟩
  obtain ⟨nl, hnl⟩ : ∃ n, n = m.lens.length := ⟨_, rfl⟩
  obtain ⟨nv, hnv⟩ : ∃ n, n = m.vals.length := ⟨_, rfl⟩
  have bn := hwf.nl
  have bl := hwf.ll
  have bv := hwf.vl
  rw [← hnn] at bn
  rw [← hnl] at bl
  rw [← hnv] at bv
  have q1 := bytesI_le _ hwf.dec
  have q2 := bytesU_le nn (by omega)
  have q3 := bytesU_le nl (by omega)
  have q4 := bytesU_le nv (by omega)
  have c14 : ∀ w' : World, Below w0.heap.size w0 w' → w'.cell? ⟨gm, 14, none⟩ = some (.int .i64 m.dec) := fun _ hb => (hk.below hb).cell 14 (by rw [cellsM_len]; omega)
  have c15 : ∀ w' : World, Below w0.heap.size w0 w' → w'.cell? ⟨gm, 15, none⟩ = some (.slice p.an nn p.cn) := fun _ hb => by rw [hnn]; exact (hk.below hb).cell 15 (by rw [cellsM_len]; omega)
  have c16 : ∀ w' : World, Below w0.heap.size w0 w' → w'.cell? ⟨gm, 16, none⟩ = some (.slice p.al nl p.cl) := fun _ hb => by rw [hnl]; exact (hk.below hb).cell 16 (by rw [cellsM_len]; omega)
  have c17 : ∀ w' : World, Below w0.heap.size w0 w' → w'.cell? ⟨gm, 17, none⟩ = some (.slice p.av nv p.cv) := fun _ hb => by rw [hnv]; exact (hk.below hb).cell 17 (by rw [cellsM_len]; omega)
  have C14 := Lib.hid c14
  have C15 := Lib.hid c15
  have C16 := Lib.hid c16
  have C17 := Lib.hid c17
  have hfin : l ++ encF "sluice/wire.match" m = (((((l ++ bytesI m.dec) ++ bytesU nn) ++ m.names.flatMap encName) ++ bytesU nl) ++ m.lens.flatMap bytesI) ++ bytesU nv ++ m.vals.flatMap encVal := by
    rw [hnn, hnl, hnv, show encF "sluice/wire.match" m = encMatch m from rfl, encMatch, encNames, encLens, encVals]
    simp only [List.append_assoc]
  have HF := Lib.hid hfin
  have HNN := Lib.hid hnn
  have HNL := Lib.hid hnl
  have HNV := Lib.hid hnv
  clear hfin hnn hnl hnv c14 c15 c16 c17
  have d14 := C14.out _ hb0
  go_enter Try.func99, Try.ntmps99
  go_wp2_with fail
  refine (wr_intF w0 g l m.dec w hwf.dec (by omega) hb0 h).mono ?_
  rintro e w1 ⟨⟨rfl, h1, hb1⟩, hf1⟩
  have HF1 := Lib.hid hf1
  clear hf1
  have d15 := C15.out _ hb1
  clear d14 hb0 h
  go_wp2_with fail
  refine (wr_uintF w0 g _ nn nn w1 rfl (by omega) (by rw [List.length_append]; omega) hb1 h1).mono ?_
  rintro e w2 ⟨⟨rfl, h2, hb2⟩, hf2⟩
  have HF2 := Lib.hid (HF1.out.trans hf2)
  clear hf2
  have e15 := C15.out _ hb2
  clear d15 hb1 h1
  obtain ⟨la, hla⟩ : ∃ la, la = l ++ bytesI m.dec ++ bytesU nn := ⟨_, rfl⟩
  have hlal : la.length ≤ 100000000000100 := by rw [hla]; simp only [List.length_append]; omega
  have hfin := HF.out
  rw [← hla] at h2 hfin
  have HFA := Lib.hid hfin
  clear hla hfin HF q1 q2 hk hl hh
  go_wp2_with fail
  go_loopw [32] (fun i wr => ∃ k : Nat, k ≤ nn ∧ i = .int .i64 (k : Int) ∧ Wr w0.heap.size g (la ++ (m.names.take k).flatMap encName) wr ∧ Below w0.heap.size w0 wr ∧ Fr g w wr) (fun i _ => nn - (intOf i).toNat)
  case atStart => exact ⟨0, Nat.zero_le _, rfl, by simpa using h2, hb2, HF2.out⟩
  case round =>
    clear e15 h2 hb2
    obtain ⟨k, hk, rfl, hw, hbw, hfw⟩ := hrel
    have HFW := Lib.hid hfw
    clear hfw
    have hll : (la ++ (m.names.take k).flatMap encName).length ≤ 100030000000000 := by
      have := flat_take_le encName 20 k nn m.names (by rw [← HNN.out]; exact Nat.le_refl _) fun v hv => by
        have := bytesI_le v.1 (hwf.names v hv).1
        have hu := (hwf.names v hv).2
        have := bytesU_le v.2.toNat (by unfold U64 at hu; omega)
        rw [encName, List.length_append]
        omega
      rw [List.length_append]
      omega
    by_cases hlt : k < nn
    · have hkl : k < m.names.length := by rw [← HNN.out]; exact hlt
      obtain ⟨b, off, hav, hc1, hc2⟩ := (hr.1.below hbw).nat k hkl
      have hlt' : (k : Int) < nn := by omega
      have hst := flat_take_snoc encName m.names k hkl
      have hwx := hwf.names m.names[k] (List.getElem_mem hkl)
      obtain ⟨⟨ts, id⟩, hx⟩ : ∃ v, v = m.names[k] := ⟨_, rfl⟩
      rw [← hx] at hc1 hc2 hst hwx
      dsimp only at hc1 hc2 hwx
      have HST := Lib.hid hst
      have HME := Lib.hid (meas_lt hlt)
      have hid : (id.toNat : Int) = id := by have := hwx.2; unfold U64 at this; omega
      have hidb : id.toNat < 18446744073709551616 := by have := hwx.2; unfold U64 at this; omega
      have HI := Lib.hid hid
      have HIB := Lib.hid hidb
      have qt := bytesI_le ts hwx.1
      clear hst hx hid hidb
      obtain ⟨wa, hwa⟩ : ∃ wa, wa = wr.alloc (.cells #[.int .i64 ts, .int .u64 id] 89) := ⟨_, rfl⟩
      have hra : Wr w0.heap.size g (la ++ (m.names.take k).flatMap encName) wa := by rw [hwa]; exact hw.alloc _
      have hba : Below w0.heap.size w0 wa := by rw [hwa]; exact hbw.alloc hbw.size _
      have hka : Blk wa wr.heap.size 89 [.int .i64 ts, .int .u64 id] := by rw [hwa]; exact Blk.new wr _ 89
      have hoa : Off g wr.heap.size wa := by rw [hwa]; exact hw.off _
      have hfa : Fr g wr wa := by rw [hwa]; exact hw.fr _
      have HFA9 := Lib.hid (HFW.out.trans hfa)
      clear hfa
      rw [hav]
      go_wp2_with fail
      rw [← hwa]
      obtain ⟨ga, hga⟩ : ∃ ga, ga = wr.heap.size := ⟨_, rfl⟩
      rw [← hga] at hka hoa ⊢
      clear hwa hga hw hbw hc1 hc2
      refine (wr_intF w0 g _ ts wa hwx.1 (by omega) hba hra).mono ?_
      rintro e w5 ⟨⟨rfl, h5, hb5⟩, hf5⟩
      obtain ⟨hk5, ho5⟩ := hf5.blk hka hoa
      have hd5 : w5.cell? ⟨ga, 1, none⟩ = some (.int .u64 id) := hk5.cell 1 (by simp)
      have HF5 := Lib.hid (HFA9.out.trans hf5)
      clear hf5 hka hoa hra hba
      go_wp2_with fail
      refine (wr_uintF w0 g _ id id.toNat w5 HI.out.symm HIB.out (by rw [List.length_append]; omega) hb5 h5).mono ?_
      rintro e w6 ⟨⟨rfl, h6, hb6⟩, hf6⟩
      have HF6 := Lib.hid (HF5.out.trans hf6)
      clear hf6
      clear hk5 ho5 hd5 h5 hb5
      go_wp2
      go_roundw
      case rel => exact ⟨k + 1, hlt, by go_num, by rw [HST.out, encName, ← List.append_assoc, ← List.append_assoc]; exact h6, hb6, HF6.out⟩
      case measure => exact HME.out
    · have hlt' : ¬ (k : Int) < nn := by omega
      have htk : m.names.take k = m.names := List.take_of_length_le (by rw [← HNN.out]; omega)
      rw [htk] at hw hll
      obtain ⟨lb, hlb⟩ : ∃ lb, lb = la ++ m.names.flatMap encName := ⟨_, rfl⟩
      have hfin := HFA.out
      rw [← hlb] at hw hll hfin
      have HFB := Lib.hid hfin
      clear hfin HFA hlb htk hlt hk hlal
      have d16 := C16.out _ hbw
      go_wp2_with fail
      refine (wr_uintF w0 g _ nl nl wr rfl (by omega) (by omega) hbw hw).mono ?_
      rintro e w3 ⟨⟨rfl, h3, hb3⟩, hf3⟩
      have HF3 := Lib.hid (HFW.out.trans hf3)
      clear hf3
      have e16 := C16.out _ hb3
      obtain ⟨lc, hlc⟩ : ∃ lc, lc = lb ++ bytesU nl := ⟨_, rfl⟩
      have hlcl : lc.length ≤ 100030000000100 := by rw [hlc]; simp only [List.length_append]; omega
      have hfin := HFB.out
      rw [← hlc] at h3 hfin
      have HFC := Lib.hid hfin
      clear hfin HFB hlc hll hw hbw d16
      go_wp2_with fail
      go_loopw [60] (fun i wr => ∃ k : Nat, k ≤ nl ∧ i = .int .i64 (k : Int) ∧ Wr w0.heap.size g (lc ++ (m.lens.take k).flatMap bytesI) wr ∧ Below w0.heap.size w0 wr ∧ Fr g w wr) (fun i _ => nl - (intOf i).toNat)
      case atStart => exact ⟨0, Nat.zero_le _, rfl, by simpa using h3, hb3, HF3.out⟩
      case round =>
        clear e16 h3 hb3
        obtain ⟨k, hk, rfl, hw, hbw, hfw⟩ := hrel
        have HFW := Lib.hid hfw
        clear hfw
        have hll : (lc ++ (m.lens.take k).flatMap bytesI).length ≤ 100050000000000 := by
          have := flat_take_le bytesI 10 k nl m.lens (by rw [← HNL.out]; exact Nat.le_refl _) fun v hv => bytesI_le v (hwf.lens v hv)
          rw [List.length_append]
          omega
        by_cases hlt : k < nl
        · have hkl : k < m.lens.length := by rw [← HNL.out]; exact hlt
          obtain ⟨b, off, hav, hc1⟩ := (hr.2.1.below hbw).zat k hkl
          have hlt' : (k : Int) < nl := by omega
          have hst := flat_take_snoc bytesI m.lens k hkl
          have hwx := hwf.lens m.lens[k] (List.getElem_mem hkl)
          obtain ⟨x, hx⟩ : ∃ v, v = m.lens[k] := ⟨_, rfl⟩
          rw [← hx] at hc1 hst hwx
          have HST := Lib.hid hst
          have HME := Lib.hid (meas_lt hlt)
          clear hst hx
          rw [hav]
          go_wp2_with fail
          refine (wr_intF w0 g _ x wr hwx (by omega) hbw hw).mono ?_
          rintro e w5 ⟨⟨rfl, h5, hb5⟩, hf5⟩
          have HF5 := Lib.hid (HFW.out.trans hf5)
          clear hf5
          clear hw hbw hc1
          go_wp2
          go_roundw
          case rel => exact ⟨k + 1, hlt, by go_num, by rw [HST.out, ← List.append_assoc]; exact h5, hb5, HF5.out⟩
          case measure => exact HME.out
        · have hlt' : ¬ (k : Int) < nl := by omega
          have htk : m.lens.take k = m.lens := List.take_of_length_le (by rw [← HNL.out]; omega)
          rw [htk] at hw hll
          obtain ⟨ld, hld⟩ : ∃ ld, ld = lc ++ m.lens.flatMap bytesI := ⟨_, rfl⟩
          have hfin := HFC.out
          rw [← hld] at hw hll hfin
          have HFD := Lib.hid hfin
          clear hfin HFC hld htk hlt hk hlcl
          have d17 := C17.out _ hbw
          go_wp2_with fail
          refine (wr_uintF w0 g _ nv nv wr rfl (by omega) (by omega) hbw hw).mono ?_
          rintro e w4 ⟨⟨rfl, h4, hb4⟩, hf4⟩
          have HF4 := Lib.hid (HFW.out.trans hf4)
          clear hf4
          have e17 := C17.out _ hb4
          obtain ⟨le, hle⟩ : ∃ le, le = ld ++ bytesU nv := ⟨_, rfl⟩
          have hlel : le.length ≤ 100050000000100 := by rw [hle]; simp only [List.length_append]; omega
          have hfin := HFD.out
          rw [← hle] at h4 hfin
          have HFE := Lib.hid hfin
          clear hfin HFD hle hll hw hbw d17
          go_wp2_with fail
          go_loopw [83] (fun i wr => ∃ k : Nat, k ≤ nv ∧ i = .int .i64 (k : Int) ∧ Wr w0.heap.size g (le ++ (m.vals.take k).flatMap encVal) wr ∧ Below w0.heap.size w0 wr ∧ Fr g w wr) (fun i _ => nv - (intOf i).toNat)
          case atStart => exact ⟨0, Nat.zero_le _, rfl, by simpa using h4, hb4, HF4.out⟩
          case round =>
            clear e17 h4 hb4
            obtain ⟨k, hk, rfl, hw, hbw, hfw⟩ := hrel
            have HFW := Lib.hid hfw
            clear hfw
            have hll : (le ++ (m.vals.take k).flatMap encVal).length ≤ 100070000000000 := by
              have := flat_take_le encVal 11 k nv m.vals (by rw [← HNV.out]; exact Nat.le_refl _) fun v hv => encVal_le (hwf.vals v hv)
              rw [List.length_append]
              omega
            by_cases hlt : k < nv
            · have hkl : k < m.vals.length := by rw [← HNV.out]; exact hlt
              obtain ⟨b, off, hav, hc1, hc2⟩ := (hr.2.2.1.below hbw).vat k hkl
              have hlt' : (k : Int) < nv := by omega
              have hst := flat_take_snoc encVal m.vals k hkl
              have hwx := hwf.vals m.vals[k] (List.getElem_mem hkl)
              obtain ⟨⟨kn, x⟩, hx⟩ : ∃ v, v = m.vals[k] := ⟨_, rfl⟩
              rw [← hx] at hc1 hc2 hst hwx
              dsimp only at hc1 hc2 hwx
              have HST := Lib.hid hst
              have HME := Lib.hid (meas_lt hlt)
              clear hst hx
              obtain ⟨wa, hwa⟩ : ∃ wa, wa = wr.alloc (.cells #[.bool kn, .int .i64 x] 74) := ⟨_, rfl⟩
              have hra : Wr w0.heap.size g (le ++ (m.vals.take k).flatMap encVal) wa := by rw [hwa]; exact hw.alloc _
              have hba : Below w0.heap.size w0 wa := by rw [hwa]; exact hbw.alloc hbw.size _
              have hka : Blk wa wr.heap.size 74 [.bool kn, .int .i64 x] := by rw [hwa]; exact Blk.new wr _ 74
              have hoa : Off g wr.heap.size wa := by rw [hwa]; exact hw.off _
              have hfa : Fr g wr wa := by rw [hwa]; exact hw.fr _
              have HFA9 := Lib.hid (HFW.out.trans hfa)
              clear hfa
              rw [hav]
              go_wp2_with fail
              rw [← hwa]
              obtain ⟨ga, hga⟩ : ∃ ga, ga = wr.heap.size := ⟨_, rfl⟩
              rw [← hga] at hka hoa ⊢
              clear hwa hga hw hbw hc1 hc2
              refine (wr_truthF w0 g _ kn wa (by omega) hba hra).mono ?_
              rintro e w5 ⟨⟨rfl, h5, hb5⟩, hf5⟩
              obtain ⟨hk5, ho5⟩ := hf5.blk hka hoa
              have hd5 : w5.cell? ⟨ga, 0, none⟩ = some (.bool kn) := hk5.cell 0 (by simp)
              have hd6 : w5.cell? ⟨ga, 1, none⟩ = some (.int .i64 x) := hk5.cell 1 (by simp)
              have HF5 := Lib.hid (HFA9.out.trans hf5)
              clear hf5 hka hoa hra hba
              cases kn
              · go_wp2_with fail
                go_roundw
                case rel => exact ⟨k + 1, hlt, by go_num, by rw [HST.out, encVal, ← List.append_assoc, ← List.append_assoc, if_neg (by simp), List.append_nil]; exact h5, hb5, HF5.out⟩
                case measure => exact HME.out
              · go_wp2_with fail
                refine (wr_intF w0 g _ x w5 hwx (by rw [List.length_append, byT_len]; omega) hb5 h5).mono ?_
                rintro e w6 ⟨⟨rfl, h6, hb6⟩, hf6⟩
                have HF6 := Lib.hid (HF5.out.trans hf6)
                clear hf6
                clear hk5 ho5 hd5 hd6 h5 hb5
                go_wp2
                go_roundw
                case rel => exact ⟨k + 1, hlt, by go_num, by rw [HST.out, encVal, ← List.append_assoc, ← List.append_assoc, if_pos rfl]; exact h6, hb6, HF6.out⟩
                case measure => exact HME.out
            · have hlt' : ¬ (k : Int) < nv := by omega
              have htk : m.vals.take k = m.vals := List.take_of_length_le (by rw [← HNV.out]; omega)
              rw [htk] at hw
              go_wp2_with fail
              go_end0
              rw [HFE.out]
              exact ⟨⟨rfl, hw, hbw⟩, HFW.out⟩
end Go.Proofs.Ytaipnbpefdcejaa
/- The walk of the program's Encode. -/
set_option linter.unusedVariables false
namespace Go.Proofs.Ytaipnbpefdcejaa
open Go.RowKit
/-- A message's frame. -/
def frameM (m : M) : List UInt8 := bytesU (inM m).length ++ inM m
open Classical in
/-- What Encode answers. -/
noncomputable def encA (m : M) : List UInt8 × Int := if properM m then (if (inM m).length ≤ 1048576 then (frameM m, 0) else ([], 211)) else ([], 212)
def EncPost (m : M) (w : World) (e : Ending) (w' : World) : Prop :=
  ∃ a c, e = .returned (.tuple #[.slice a (encA m).1.length c, .int .i64 (encA m).2]) ∧ w'.ownsRow w.heap.size 5 1 (.slice a (encA m).1.length c) (encA m).1.length ((encA m).1.map B) ∧ Below w.heap.size w w'
theorem own_below {w w' : World} {base e size n : Nat} {v : Value} {xs : List Value} (h : w.ownsRow base e size v n xs) (hb : Below w.heap.size w w') : w'.ownsRow base e size v n xs :=
  h.kept (row := none) ⟨hb.os, hb.tape, hb.output, hb.size, fun k hk _ => hb.block k hk⟩ (by cases v.ownBlock <;> simp)
theorem own_base {w : World} {base base' e size n : Nat} {v : Value} {xs : List Value} (h : w.ownsRow base e size v n xs) (hb : base' ≤ base) : w.ownsRow base' e size v n xs := by
  refine ⟨h.1, ?_⟩
  rcases h.2 with h1 | ⟨g, cap, cur, h1, h2, h3⟩
  · exact .inl h1
  · exact .inr ⟨g, cap, cur, h1, Nat.le_trans hb h2, h3⟩
theorem Wr.below {base g : Nat} {l : List UInt8} {w w' : World} (h : Wr base g l w) (hb : Below w.heap.size w w') : Wr base g l w' := by
  obtain ⟨hg, a, c, hk, hown, hne⟩ := h
  exact ⟨hg, a, c, hk.below hb, own_below hown hb, hne⟩
theorem Rd.fr {w w' : World} {a : Option Addr} {vs : List Value} {g : Nat} (h : Rd w a vs) (hf : Fr g w w') (ho : ∀ x, a = some x → Off g x.block w) : Rd w' a vs := by
  rcases h with rfl | ⟨b, off, rfl, hc⟩
  · exact .inl rfl
  · refine .inr ⟨b, off, rfl, fun i u hu => ?_⟩
    have h1 := hc i u hu
    have h2 := hf.2 b (World.block_lt_of_cell? w _ h1) (ho _ rfl)
    rw [World.cell?_of_block (w := w) h2.1]
    exact h1
/-- A block made after the writer's is neither. -/
theorem Wr.offNew {base g : Nat} {l : List UInt8} {w w' : World} (h : Wr base g l w) (hb : Below w.heap.size w w') (k : Nat) (hk : w.heap.size ≤ k) : Off g k w' := by
  have h' := h.below hb
  obtain ⟨hg, a, c, hkb, hown, hne⟩ := h
  have hc := (hkb.below hb).cell 0 (by simp)
  simp only [List.getElem_cons_zero] at hc
  refine ⟨fun e => by have := hkb.lt; omega, fun v hv => ?_⟩
  rw [hc] at hv
  cases hv
  intro e
  have := (hown.lt _ e).2
  omega
theorem wr_new (w2 : World) (x : Value) (u : UInt8) (hx : x = B u) : Wr w2.heap.size (w2.heap.size + 1) [u] ((w2.alloc (.cells #[x] 5)).alloc (.cells #[.slice (some ⟨w2.heap.size, 0, none⟩) 1 1] 86)) := by
  subst hx
  have h1 : (w2.alloc (.cells #[B u] 5)).heap.size = w2.heap.size + 1 := by simp
  refine ⟨Nat.le_succ _, some ⟨w2.heap.size, 0, none⟩, 1, ?_, ?_, ?_⟩
  · have := Blk.new (w2.alloc (.cells #[B u] 5)) [.slice (some ⟨w2.heap.size, 0, none⟩) 1 1] 86
    rw [h1] at this
    exact this
  · have h2 : (w2.alloc (.cells #[B u] 5)).ownsRow w2.heap.size 5 1 (.slice (some ⟨w2.heap.size, 0, none⟩) 1 1) 1 [B u] := own_of_heap (heap_alloc_new w2 _) (Nat.le_refl _) rfl (by unfold maxLen; omega)
    exact own_below h2 ((Below.refl _ _).alloc (Nat.le_refl _) _)
  · simp [Value.ownBlock]
theorem kind_u8 {m : M} (h : properM m) : m.kind % 256 = ((UInt8.ofNat m.kind.toNat).toNat : Int) := by
  have h1 := h.2.2.1
  have h2 : 1 ≤ m.kind ∧ m.kind ≤ 21 := by
    unfold ordL at h1
    repeat' split at h1
    all_goals first | omega | (exact (h1 rfl).elim)
  rw [UInt8.toNat_ofNat']
  omega
set_option maxHeartbeats 8000000 in
set_option maxRecDepth 20000 in
theorem encode_any (m : M) (p : Ps) (w : World) (hwf : WfM m) (hr : MRd w m p) : Calls Try.prog 27 #[valM m p] w (EncPost m w) := by
  obtain ⟨v0, hv0⟩ : ∃ v, v = valM m p := ⟨_, rfl⟩
  unfold valM cellsM
  go_enter Try.func27, Try.ntmps27
  obtain ⟨w1, hw1⟩ : ∃ w1, w1 = w.alloc (.cells (cellsM m p).toArray 50) := ⟨_, rfl⟩
  have hb1 : Below w.heap.size w w1 := by rw [hw1]; exact (Below.refl _ _).alloc (Nat.le_refl _) _
  have hk1 : Blk w1 w.heap.size 50 (cellsM m p) := by rw [hw1]; exact Blk.new w _ 50
  have hr1 : MRd w1 m p := ⟨hr.1.below hb1, hr.2.1.below hb1, hr.2.2.1.below hb1, hr.2.2.2.below hb1⟩
  have hrg : w1.rangeAt w.heap.size 0 (cellsM m p) := hk1.whole
  rw [hw1] at hrg
  unfold cellsM at hrg
  go_wp2_with (first | ((with_reducible refine at_dst 7 ?_); refine wpList_load_midg rfl _ _ rfl _ _ rfl _ _ hrg Try.underlying50 rfl (by kernel_rfl) ?_) | fail)
  obtain ⟨gm, hgm⟩ : ∃ g, g = w.heap.size := ⟨_, rfl⟩
  rw [← hgm] at hk1
  unfold cellsM at hw1
  rw [← hw1, ← hgm]
  clear hrg hr
  unfold valM cellsM at hv0
  rw [← hv0]
  have hw0 : v0 = valM m p := by rw [hv0]; rfl
  clear hv0
  rw [hw0]
  have hb1m : m.vals.length ≤ 1073741824 := hwf.vl
  refine (proper_any m p w1 hr1 hb1m).mono ?_
  rintro e w2 ⟨b, rfl, hpb, hb2⟩
  have hk2 := hk1.below hb2
  have hr2 : MRd w2 m p := ⟨hr1.1.below hb2, hr1.2.1.below hb2, hr1.2.2.1.below hb2, hr1.2.2.2.below hb2⟩
  have hb02 := hb1.trans (hb2.mono hb1.size)
  clear hk1 hr1 hb1 hb2 hb1m hw1
  cases b with
  | false =>
    have hnp : ¬ properM m := fun h => by have := hpb.2 h; cases this
    have hA : encA m = ([], 212) := by unfold encA; rw [if_neg hnp]
    have HA := Lib.hid hA
    clear hA hpb hnp
    go_wp2_with fail
    go_ret2
    unfold EncPost
    rw [HA.out]
    exact ⟨none, 0, rfl, World.ownsRow_nil _ _ _ _, hb02⟩
  | true =>
    have HPM := Lib.hid (hpb.1 rfl)
    have HK2 := Lib.hid hk2
    have HR2 := Lib.hid hr2
    have HB02 := Lib.hid hb02
    have HG := Lib.hid hgm
    have hh : 0 ≤ m.handle := HPM.out.1
    have hc0 : w2.cell? ⟨gm, 0, none⟩ = some (.int .i64 m.kind) := hk2.cell 0 (by rw [cellsM_len]; omega)
    have hd0 : ((w2.alloc (.cells #[.int .u8 (m.kind % 256)] 5)).alloc (.cells #[.slice (some ⟨w2.heap.size, 0, none⟩) 1 1] 86)).cell? ⟨gm, 0, none⟩ = some (.int .i64 m.kind) := ((hk2.alloc _).alloc _).cell 0 (by rw [cellsM_len]; omega)
    obtain ⟨kb, hkb⟩ : ∃ kb, kb = UInt8.ofNat m.kind.toNat := ⟨_, rfl⟩
    have hwn := wr_new w2 (.int .u8 (m.kind % 256)) kb (by rw [B, hkb, kind_u8 HPM.out])
    have hbn : Below w2.heap.size w2 ((w2.alloc (.cells #[.int .u8 (m.kind % 256)] 5)).alloc (.cells #[.slice (some ⟨w2.heap.size, 0, none⟩) 1 1] 86)) := ((Below.refl _ _).alloc (Nat.le_refl _) _).alloc (by simp) _
    have HKB := Lib.hid hkb
    have HWN := Lib.hid hwn
    have HBN := Lib.hid hbn
    clear hpb hk2 hr2 hb02 hw0 hgm hkb hwn hbn
    go_wp2_with fail
    obtain ⟨w3, hw3⟩ : ∃ w3, w3 = (w2.alloc (.cells #[.int .u8 (m.kind % 256)] 5)).alloc (.cells #[.slice (some ⟨w2.heap.size, 0, none⟩) 1 1] 86) := ⟨_, rfl⟩
    have hwn := HWN.out
    have hbn := HBN.out
    rw [← hw3] at hwn hbn ⊢
    obtain ⟨g, hg⟩ : ∃ g, g = w2.heap.size + 1 := ⟨_, rfl⟩
    rw [← hg] at hwn ⊢
    clear hw3 HWN HBN hc0 hd0 hg
    refine (order_wr g m.kind w3).mono ?_
    rintro e w4 ⟨al, cl, rfl, hrl, hbl, hn1, hn2, hfr⟩
    obtain ⟨L, hL⟩ : ∃ L, L = ordL m.kind := ⟨_, rfl⟩
    rw [← hL] at hrl hn1 hn2 ⊢
    obtain ⟨nl, hnl⟩ : ∃ n, n = L.length := ⟨_, rfl⟩
    rw [← hnl]
    have HL := Lib.hid hL
    have HNL := Lib.hid hnl
    have hnl3 : nl ≤ 3 := by
      rw [hnl, hL]
      exact ordL_len3 _
    have HTEN := Lib.hid (show ∀ s ∈ L, s ∈ tenL by rw [hL]; exact ordL_ten m.kind)
    have hoff : ∀ x, al = some x → Off g x.block w4 := fun x hx => hwn.offNew hbl x.block (hfr x hx)
    have HOFF := Lib.hid hoff
    have hwr4 := hwn.below hbl
    have hb24 : Below w2.heap.size w2 w4 := hbn.trans (hbl.mono hbn.size)
    have HRL := Lib.hid hrl
    clear hL hnl hbl hfr hoff hwn hbn hn1 hn2 hrl
    obtain ⟨W4, hW4⟩ : ∃ W4, W4 = w4 := ⟨_, rfl⟩
    rw [← hW4] at HRL HOFF hwr4 hb24 ⊢
    clear hW4
    go_wp2_with fail
    go_loopw [22] (fun i wr => ∃ j : Nat, j ≤ nl ∧ i = .int .i64 (j : Int) ∧ Wr w2.heap.size g ([kb] ++ (L.take j).flatMap fun s => encF s m) wr ∧ Below w2.heap.size w2 wr ∧ Fr g W4 wr) (fun i _ => nl - (intOf i).toNat)
    case atStart => exact ⟨0, Nat.zero_le _, rfl, hwr4, hb24, Fr.refl _ _⟩
    case round =>
      clear hwr4 hb24
      obtain ⟨j, hj, rfl, hw, hbw, hfw⟩ := hrel
      have hll : ([kb] ++ (L.take j).flatMap fun s => encF s m).length ≤ 300000000001 := by
        have := flat_take_le (fun s => encF s m) 100000000000 j 3 L (by rw [← HNL.out]; exact hnl3) (fun s _ => encF_le hwf hh s)
        rw [List.length_append, List.length_singleton]
        omega
      by_cases hlt : j < nl
      · have hjl : j < L.length := by rw [← HNL.out]; exact hlt
        have hlt' : (j : Int) < nl := by omega
        have hrl := HRL.out.fr hfw HOFF.out
        obtain ⟨b, off, hal, hc⟩ := hrl.cells (by intro h0; have := congrArg List.length h0; simp at this; rw [this] at hjl; simp at hjl)
        have hcj := hc j (by simpa using hjl)
        rw [List.getElem_map, mf] at hcj
        have hsn := flat_take_snoc (fun s => encF s m) L j hjl
        obtain ⟨s, hs⟩ : ∃ s, s = L[j] := ⟨_, rfl⟩
        have hten := HTEN.out s (by rw [hs]; exact List.getElem_mem hjl)
        rw [← hs] at hcj hsn
        have HSN := Lib.hid hsn
        have HFW := Lib.hid hfw
        have HME := Lib.hid (meas_lt hlt)
        clear hc hs hsn hfw hrl
        have hjn : j + 1 ≤ nl := hlt
        subst hal
        simp only [tenL, List.mem_cons, List.not_mem_nil, or_false] at hten
        rcases hten with rfl | rfl | rfl | rfl | rfl | rfl | rfl | rfl | rfl | rfl
        · go_wp2_with fail
          refine (wm_number w2 g gm _ m p wr hwf hh (by omega) hbw hw HK2.out HR2.out).mono ?_
          rintro e w5 ⟨⟨rfl, h5, hb5⟩, hf5⟩
          have HF5 := Lib.hid (HFW.out.trans hf5)
          clear hf5 hw hbw hcj
          go_wp2
          go_roundw
          case rel => exact ⟨j + 1, hjn, by go_num, by rw [HSN.out, ← List.append_assoc]; exact h5, hb5, HF5.out⟩
          case measure => exact HME.out
        · go_wp2_with fail
          refine (wm_handle w2 g gm _ m p wr hwf hh (by omega) hbw hw HK2.out HR2.out).mono ?_
          rintro e w5 ⟨⟨rfl, h5, hb5⟩, hf5⟩
          have HF5 := Lib.hid (HFW.out.trans hf5)
          clear hf5 hw hbw hcj
          go_wp2
          go_roundw
          case rel => exact ⟨j + 1, hjn, by go_num, by rw [HSN.out, ← List.append_assoc]; exact h5, hb5, HF5.out⟩
          case measure => exact HME.out
        · go_wp2_with fail
          refine (wm_code w2 g gm _ m p wr hwf hh (by omega) hbw hw HK2.out HR2.out).mono ?_
          rintro e w5 ⟨⟨rfl, h5, hb5⟩, hf5⟩
          have HF5 := Lib.hid (HFW.out.trans hf5)
          clear hf5 hw hbw hcj
          go_wp2
          go_roundw
          case rel => exact ⟨j + 1, hjn, by go_num, by rw [HSN.out, ← List.append_assoc]; exact h5, hb5, HF5.out⟩
          case measure => exact HME.out
        · go_wp2_with fail
          refine (wm_schema w2 g gm _ m p wr hwf hh (by omega) hbw hw HK2.out HR2.out).mono ?_
          rintro e w5 ⟨⟨rfl, h5, hb5⟩, hf5⟩
          have HF5 := Lib.hid (HFW.out.trans hf5)
          clear hf5 hw hbw hcj
          go_wp2
          go_roundw
          case rel => exact ⟨j + 1, hjn, by go_num, by rw [HSN.out, ← List.append_assoc]; exact h5, hb5, HF5.out⟩
          case measure => exact HME.out
        · go_wp2_with fail
          refine (wm_query w2 g gm _ m p wr hwf hh (by omega) hbw hw HK2.out HR2.out).mono ?_
          rintro e w5 ⟨⟨rfl, h5, hb5⟩, hf5⟩
          have HF5 := Lib.hid (HFW.out.trans hf5)
          clear hf5 hw hbw hcj
          go_wp2
          go_roundw
          case rel => exact ⟨j + 1, hjn, by go_num, by rw [HSN.out, ← List.append_assoc]; exact h5, hb5, HF5.out⟩
          case measure => exact HME.out
        · go_wp2_with fail
          refine (wm_image w2 g gm _ m p wr hwf hh (by omega) hbw hw HK2.out HR2.out).mono ?_
          rintro e w5 ⟨⟨rfl, h5, hb5⟩, hf5⟩
          have HF5 := Lib.hid (HFW.out.trans hf5)
          clear hf5 hw hbw hcj
          go_wp2
          go_roundw
          case rel => exact ⟨j + 1, hjn, by go_num, by rw [HSN.out, ← List.append_assoc]; exact h5, hb5, HF5.out⟩
          case measure => exact HME.out
        · go_wp2_with fail
          refine (wm_event w2 g gm _ m p wr hwf hh (by omega) hbw hw HK2.out HR2.out).mono ?_
          rintro e w5 ⟨⟨rfl, h5, hb5⟩, hf5⟩
          have HF5 := Lib.hid (HFW.out.trans hf5)
          clear hf5 hw hbw hcj
          go_wp2
          go_roundw
          case rel => exact ⟨j + 1, hjn, by go_num, by rw [HSN.out, ← List.append_assoc]; exact h5, hb5, HF5.out⟩
          case measure => exact HME.out
        · go_wp2_with fail
          refine (wm_match w2 g gm _ m p wr hwf hh (by omega) hbw hw HK2.out HR2.out).mono ?_
          rintro e w5 ⟨⟨rfl, h5, hb5⟩, hf5⟩
          have HF5 := Lib.hid (HFW.out.trans hf5)
          clear hf5 hw hbw hcj
          go_wp2
          go_roundw
          case rel => exact ⟨j + 1, hjn, by go_num, by rw [HSN.out, ← List.append_assoc]; exact h5, hb5, HF5.out⟩
          case measure => exact HME.out
        · go_wp2_with fail
          refine (wm_sizes w2 g gm _ m p wr hwf hh (by omega) hbw hw HK2.out HR2.out).mono ?_
          rintro e w5 ⟨⟨rfl, h5, hb5⟩, hf5⟩
          have HF5 := Lib.hid (HFW.out.trans hf5)
          clear hf5 hw hbw hcj
          go_wp2
          go_roundw
          case rel => exact ⟨j + 1, hjn, by go_num, by rw [HSN.out, ← List.append_assoc]; exact h5, hb5, HF5.out⟩
          case measure => exact HME.out
        · go_wp2_with fail
          refine (wm_fault w2 g gm _ m p wr hwf hh (by omega) hbw hw HK2.out HR2.out).mono ?_
          rintro e w5 ⟨⟨rfl, h5, hb5⟩, hf5⟩
          have HF5 := Lib.hid (HFW.out.trans hf5)
          clear hf5 hw hbw hcj
          go_wp2
          go_roundw
          case rel => exact ⟨j + 1, hjn, by go_num, by rw [HSN.out, ← List.append_assoc]; exact h5, hb5, HF5.out⟩
          case measure => exact HME.out
      · have hlt' : ¬ (j : Int) < nl := by omega
        have htk : L.take j = L := List.take_of_length_le (by rw [← HNL.out]; omega)
        rw [htk] at hw hll
        have hin : ([kb] ++ L.flatMap fun s => encF s m) = inM m := by rw [HKB.out, HL.out]; rfl
        rw [hin] at hw hll
        obtain ⟨hgb, a, c, hkw, hown, hne⟩ := hw
        obtain ⟨N, hN⟩ : ∃ N, N = (inM m).length := ⟨_, rfl⟩
        rw [← hN] at hll hkw hown
        have hcw := hkw.cell 0 (by simp)
        simp only [List.getElem_cons_zero] at hcw
        have hA := hN
        have HN := Lib.hid hN
        have HK := Lib.hid hkw
        have HRW := Lib.hid (ownsRow_rd hown)
        have HBW := Lib.hid (HB02.out.trans (hbw.mono HB02.out.size))
        clear htk hlt hj hin hA hN hkw hown hne hbw hfw hgb
        by_cases hbig : 1048576 < N
        · have hA : encA m = ([], 211) := by unfold encA; rw [if_pos HPM.out, if_neg (by rw [← HN.out]; omega)]
          have HA := Lib.hid hA
          have hbig' : (1048576 : Int) < N := by omega
          clear hA
          go_wp2_with fail
          go_ret2
          unfold EncPost
          rw [HA.out]
          exact ⟨none, 0, rfl, World.ownsRow_nil _ _ _ _, HBW.out⟩
        · have hA : encA m = (bytesU N ++ inM m, 0) := by unfold encA frameM; rw [if_pos HPM.out, if_pos (by rw [← HN.out]; omega), ← HN.out]
          have HA := Lib.hid hA
          have hbig' : ¬ (1048576 : Int) < N := by omega
          have hNb : N ≤ 1048576 := by omega
          have q := bytesU_le N (by omega)
          have hwz : IntKind.u64.wrap (N : Int) = (N : Int) := by rw [IntKind.wrap_u64]; omega
          have hkd : Blk wr.drew g 86 [.slice a N c] := HK.out
          have hrdd : Rd wr.drew a ((inM m).map B) := HRW.out
          have HKD := Lib.hid hkd
          have HRDD := Lib.hid hrdd
          clear hA hbig hkd hrdd
          go_wp2
          go_region_law (first | (refine step_app_b rfl _ _ rfl wr.heap.size (.slice a5 (bytesU N).length c5) (bytesU N).length (bytesU N) rfl ?_ a N c (inM m) rfl HN.out.symm ?_ (by omega) ?_ ?_; exact hown5; exact hrd5; exact hb5.size; intro a6 c6 w6 hown6 hb6 hm6) | (go_simp; go_at_call 41; refine (put_any wr.heap.size 0 none 0 [] N _ (by omega) (by omega) ?_ ?_).mono ?_; exact Nat.le_refl _; exact World.ownsRow_nil _ _ _ _; rintro e w5 ⟨a5, c5, rfl, hown5, hb5⟩; simp only [Nat.zero_add, List.nil_append] at hown5 ⊢; have hc5 := (HKD.out.below hb5).cell 0 (by simp); simp only [List.getElem_cons_zero] at hc5; have hrd5 := HRDD.out.below hb5))
          all_goals go_wp2
          all_goals go_ret2
          all_goals unfold EncPost
          all_goals rw [HA.out]
          all_goals dsimp only
          all_goals rw [List.length_append, ← HN.out]
          all_goals exact ⟨a6, c6, rfl, own_base hown6 HBW.out.size, HBW.out.drew.trans ((hb5.trans hb6).mono HBW.out.size)⟩
end Go.Proofs.Ytaipnbpefdcejaa

/- The walks of the reference's putting of numbers, and what stays under them. -/
set_option linter.unusedVariables false
namespace Go.Proofs.Ytaipnbpefdcejaa
open Go.RowKit
set_option maxRecDepth 20000 in
theorem rput_mv (base k : Nat) (a : Option Addr) (c : Nat) (pre : List UInt8) (n : Nat) (w : World) (hn : n < 18446744073709551616) (hk : k ≤ 140737488355000) (hbase : base ≤ w.heap.size)
    (hown : w.ownsRow base 5 1 (.slice a k c) k (pre.map B)) :
    Calls Try.prog 44 #[.slice a k c, .int .u64 (n : Int)] w fun e w' => ∃ a' c', e = .returned (.slice a' (k + (bytesU n).length) c') ∧ w'.ownsRow base 5 1 (.slice a' (k + (bytesU n).length) c') (k + (bytesU n).length) ((pre ++ bytesU n).map B) ∧ Below base w w' ∧ Mv w w' (.slice a k c) (.slice a' (k + (bytesU n).length) c') := by
  have hlen := bytesU_len10 n hn
  go_enter Try.func44, Try.ntmps44
  go_wp2
  go_loopw [0, 1] (fun v i wr => ∃ (a1 : Option Addr) (c1 m N : Nat) (dn : List UInt8), v = .slice a1 m c1 ∧ i = .int .u64 (N : Int) ∧ N ≤ n ∧ pre ++ bytesU n = dn ++ bytesU N ∧ m + (bytesU N).length = k + (bytesU n).length ∧ wr.ownsRow base 5 1 v m (dn.map B) ∧ Below base w wr ∧ Mv w wr (.slice a k c) v) (fun _ i _ => (intOf i).toNat)
  case atStart => exact ⟨a, c, k, n, pre, rfl, rfl, Nat.le_refl _, rfl, rfl, hown, Below.refl _ _, Mv.refl _ _⟩
  case round =>
    obtain ⟨a1, c1, m, N, dn, rfl, rfl, hNn, hbs, hm, hown1, hbel, hmv⟩ := hrel
    have hs := hbel.size
    have HMV := Lib.hid hmv
    clear hmv
    by_cases hlt : N < 128
    · have hlt' : ¬ (0 : Int) < (N : Int) / 128 := by omega
      have hlow := bytesU_low hlt
      rw [hlow] at hbs hm
      have HBS := Lib.hid hbs
      have HM := Lib.hid hm
      have hmb : m ≤ 140737488355200 := by rw [List.length_singleton] at hm; omega
      have hy : Value.int .u8 (N : Int) = B (UInt8.ofNat N) := by rw [B, UInt8.toNat_ofNat']; congr 1; omega
      have HY := Lib.hid hy
      clear hbs hm hlow hlen hy
      go_wp2_with (first | (at_builtin; refine app_b1 wr rfl _ _ rfl base (.slice a1 m c1) m dn rfl hown1 _ (UInt8.ofNat N) HY.out rfl (by omega) (by omega) ?_; intro a2 c2 w2 hown2 hb2 hmv2) | fail)
      go_ret
      have hmv3 := HMV.out.trans hmv2.mv.alloc
      rw [show dn ++ [UInt8.ofNat N] = pre ++ bytesU n from HBS.out.symm] at hown2
      have hM := HM.out
      rw [List.length_singleton] at hM
      rw [hM] at hown2 hmv3 ⊢
      exact ⟨a2, c2, rfl, by simpa only [List.map_append] using hown2, hbel.trans hb2, hmv3⟩
    · have hlt' : (0 : Int) < (N : Int) / 128 := by omega
      have hhigh := bytesU_high hlt
      rw [hhigh] at hbs hm
      have HBS := Lib.hid hbs
      have HM := Lib.hid hm
      have hmb : m ≤ 140737488355200 := by rw [List.length_cons] at hm; omega
      have hy : Value.int .u8 (128 + (N : Int) % 128) = B (UInt8.ofNat (N % 128 + 128)) := by rw [B, UInt8.toNat_ofNat']; congr 1; omega
      have HY := Lib.hid hy
      clear hbs hm hhigh hlen hy
      go_wp2_with (first | (at_builtin; refine app_b1 wr rfl _ _ rfl base (.slice a1 m c1) m dn rfl hown1 _ (UInt8.ofNat (N % 128 + 128)) HY.out rfl (by omega) (by omega) ?_; intro a2 c2 w2 hown2 hb2 hmv2) | fail)
      go_wp2
      go_roundw
      case rel =>
        refine ⟨a2, c2, m + 1, N / 128, dn ++ [UInt8.ofNat (N % 128 + 128)], rfl, by go_num, by omega, by rw [HBS.out]; simp, ?_, hown2, hbel.trans hb2, HMV.out.trans hmv2.mv.alloc⟩
        have hM := HM.out
        rw [List.length_cons] at hM
        omega
      case measure => simp [intOf]; omega
theorem rput2_mv (base k : Nat) (a : Option Addr) (c : Nat) (pre : List UInt8) (i : Int) (w : World) (hi : I64 i) (hk : k ≤ 140737488355000) (hbase : base ≤ w.heap.size)
    (hown : w.ownsRow base 5 1 (.slice a k c) k (pre.map B)) :
    Calls Try.prog 45 #[.slice a k c, .int .i64 i] w fun e w' => ∃ a' c', e = .returned (.slice a' (k + (bytesU (zig i)).length) c') ∧ w'.ownsRow base 5 1 (.slice a' (k + (bytesU (zig i)).length) c') (k + (bytesU (zig i)).length) ((pre ++ bytesU (zig i)).map B) ∧ Below base w w' ∧ Mv w w' (.slice a k c) (.slice a' (k + (bytesU (zig i)).length) c') := by
  go_enter Try.func45, Try.ntmps45
  go_wp2_with fail
  refine (fold_any i w hi).mono ?_
  rintro e _ ⟨rfl, rfl⟩
  go_wp2_with fail
  refine (rput_mv base k a c pre (zig i) w (zig_lt i hi) hk hbase hown).mono ?_
  rintro e w2 ⟨a2, c2, rfl, hown2, hb2, hm2⟩
  go_wp2
  go_ret
  exact ⟨a2, c2, rfl, hown2, hb2, hm2⟩
theorem rtruth_any (t : Bool) (w : World) : Calls Try.prog 63 #[.bool t] w fun e w' => e = .returned (.int .u8 (if t then 1 else 0)) ∧ w = w' := by
  cases t
  · go_enter Try.func63, Try.ntmps63
    go_wp2
    go_ret
    exact ⟨rfl, rfl⟩
  · go_enter Try.func63, Try.ntmps63
    go_wp2
    go_ret
    exact ⟨rfl, rfl⟩
/-- The slice holds the bytes l in a row of the call's own; the block gm stays; since wI only that row was written. -/
def St (w0 wI : World) (vI : Value) (gm : Nat) (t : TypeId) (cs : List Value) (l : List UInt8) (w : World) (a : Option Addr) (n c : Nat) : Prop :=
  l.length = n ∧ w.ownsRow w0.heap.size 5 1 (.slice a n c) n (l.map B) ∧ Below w0.heap.size w0 w ∧ Blk w gm t cs ∧ (Value.slice a n c).ownBlock ≠ some gm ∧ Mv wI w vI (.slice a n c)
def StP (w0 wI : World) (vI : Value) (gm : Nat) (t : TypeId) (cs : List Value) (l : List UInt8) (e : Ending) (w : World) : Prop :=
  ∃ a n c, e = .returned (.slice a n c) ∧ St w0 wI vI gm t cs l w a n c
/-- What a function that puts bytes behind others answers. -/
def PRF (w0 wI : World) (vI : Value) (l : List UInt8) (e : Ending) (w : World) : Prop :=
  ∃ a n c, e = .returned (.slice a n c) ∧ l.length = n ∧ w.ownsRow w0.heap.size 5 1 (.slice a n c) n (l.map B) ∧ Below w0.heap.size w0 w ∧ Mv wI w vI (.slice a n c)
theorem St.fin {w0 wI : World} {vI : Value} {gm : Nat} {t : TypeId} {cs : List Value} {l : List UInt8} {w : World} {a : Option Addr} {n c : Nat} (h : St w0 wI vI gm t cs l w a n c) : PRF w0 wI vI l (.returned (.slice a n c)) w :=
  ⟨a, n, c, rfl, h.1, h.2.1, h.2.2.1, h.2.2.2.2.2⟩
theorem St.moved {w0 wI : World} {vI : Value} {gm : Nat} {t : TypeId} {cs : List Value} {l : List UInt8} {w : World} {a : Option Addr} {n c : Nat} (h : St w0 wI vI gm t cs l w a n c)
    {l' : List UInt8} {w' : World} {a' : Option Addr} {n' c' : Nat} (hn : l'.length = n') (hown : w'.ownsRow w0.heap.size 5 1 (.slice a' n' c') n' (l'.map B)) (hb : Below w0.heap.size w w') (hm : Mv w w' (.slice a n c) (.slice a' n' c')) : St w0 wI vI gm t cs l' w' a' n' c' := by
  obtain ⟨h1, h2, h3, h4, h5, h6⟩ := h
  refine ⟨hn, hown, h3.trans hb, h4.kept hm.1 (fun e => h5 e.symm), ?_, h6.trans hm⟩
  rcases hm.2 with h | ⟨k, h, hk⟩
  · rw [h]; exact h5
  · rw [h]; intro e; cases e; have := h4.lt; omega
theorem St.int {w0 wI : World} {vI : Value} {gm : Nat} {t : TypeId} {cs : List Value} {l : List UInt8} {w : World} {a : Option Addr} {n c : Nat} (h : St w0 wI vI gm t cs l w a n c) (i : Int) (hi : I64 i) (hl : l.length ≤ 140737488355000) :
    Calls Try.prog 45 #[.slice a n c, .int .i64 i] w (StP w0 wI vI gm t cs (l ++ bytesI i)) := by
  refine (rput2_mv w0.heap.size n a c l i w hi (by rw [← h.1]; exact hl) h.2.2.1.size h.2.1).mono ?_
  rintro e w' ⟨a', c', rfl, hown, hb, hm⟩
  exact ⟨a', _, c', rfl, h.moved (by rw [List.length_append, h.1]; rfl) hown hb hm⟩
theorem St.uint {w0 wI : World} {vI : Value} {gm : Nat} {t : TypeId} {cs : List Value} {l : List UInt8} {w : World} {a : Option Addr} {n c : Nat} (h : St w0 wI vI gm t cs l w a n c) (x : Int) (N : Nat) (hx : x = (N : Int)) (hN : N < 18446744073709551616) (hl : l.length ≤ 140737488355000) :
    Calls Try.prog 44 #[.slice a n c, .int .u64 x] w (StP w0 wI vI gm t cs (l ++ bytesU N)) := by
  subst hx
  refine (rput_mv w0.heap.size n a c l N w hN (by rw [← h.1]; exact hl) h.2.2.1.size h.2.1).mono ?_
  rintro e w' ⟨a', c', rfl, hown, hb, hm⟩
  exact ⟨a', _, c', rfl, h.moved (by rw [List.length_append, h.1]) hown hb hm⟩
/-- The start: the block of the parameter. -/
theorem St.start {w0 w : World} {l : List UInt8} {a : Option Addr} {n c : Nat} (t : TypeId) (cs : List Value) (hn : l.length = n) (hown : w.ownsRow w0.heap.size 5 1 (.slice a n c) n (l.map B)) (hb : Below w0.heap.size w0 w) :
    St w0 w (.slice a n c) w.heap.size t cs l (w.alloc (.cells cs.toArray t)) a n c := by
  refine ⟨hn, hown.alloc _, hb.alloc hb.size _, Blk.new w cs t, ?_, grown_alloc w _ _, .inl rfl⟩
  intro e
  have := (hown.lt _ e).2
  omega
theorem St.cell {w0 wI : World} {vI : Value} {gm : Nat} {t : TypeId} {cs : List Value} {l : List UInt8} {w : World} {a : Option Addr} {n c : Nat} (h : St w0 wI vI gm t cs l w a n c) (i : Nat) (hi : i < cs.length) : w.cell? ⟨gm, i, none⟩ = some cs[i] := h.2.2.2.1.cell i hi
end Go.Proofs.Ytaipnbpefdcejaa
/- The walk of the reference's putMatch. -/
set_option linter.unusedVariables false
namespace Go.Proofs.Ytaipnbpefdcejaa
open Go.RowKit
def cellsK (m : M) (p : Ps) : List Value := [.int .i64 m.dec, .slice p.an m.names.length p.cn, .slice p.al m.lens.length p.cl, .slice p.av m.vals.length p.cv]
set_option maxHeartbeats 2000000 in
set_option maxRecDepth 20000 in
theorem rmatch_any (w0 : World) (l : List UInt8) (m : M) (p : Ps) (a : Option Addr) (n c : Nat) (w : World) (hwf : WfM m) (hl : l.length ≤ 100000000000000) (hn : l.length = n) (hown : w.ownsRow w0.heap.size 5 1 (.slice a n c) n (l.map B)) (hb : Below w0.heap.size w0 w) (hr : MRd w0 m p) :
    Calls Try.prog 62 #[.slice a n c, .agg (cellsK m p).toArray] w (PRF w0 w (.slice a n c) (l ++ encMatch m)) := by
  obtain ⟨nn, hnn⟩ : ∃ n, n = m.names.length := ⟨_, rfl⟩
  obtain ⟨nl, hnl⟩ : ∃ n, n = m.lens.length := ⟨_, rfl⟩
  obtain ⟨nv, hnv⟩ : ∃ n, n = m.vals.length := ⟨_, rfl⟩
  have bn := hwf.nl
  have bl := hwf.ll
  have bv := hwf.vl
  rw [← hnn] at bn
  rw [← hnl] at bl
  rw [← hnv] at bv
  have q1 := bytesI_le _ hwf.dec
  have q2 := bytesU_le nn (by omega)
  have q3 := bytesU_le nl (by omega)
  have q4 := bytesU_le nv (by omega)
  have hst := St.start 44 (cellsK m p) hn hown hb
  have hfin : l ++ encMatch m = (((((l ++ bytesI m.dec) ++ bytesU nn) ++ m.names.flatMap encName) ++ bytesU nl) ++ m.lens.flatMap bytesI) ++ bytesU nv ++ m.vals.flatMap encVal := by
    rw [hnn, hnl, hnv, encMatch, encNames, encLens, encVals]
    simp only [List.append_assoc]
  obtain ⟨cs, hcs⟩ : ∃ cs, cs = cellsK m p := ⟨_, rfl⟩
  have c0 : ∀ (h : 0 < cs.length), cs[0] = .int .i64 m.dec := by subst hcs; intro _; rfl
  have c1 : ∀ (h : 1 < cs.length), cs[1] = .slice p.an nn p.cn := by subst hcs; intro _; rw [hnn]; rfl
  have c2 : ∀ (h : 2 < cs.length), cs[2] = .slice p.al nl p.cl := by subst hcs; intro _; rw [hnl]; rfl
  have c3 : ∀ (h : 3 < cs.length), cs[3] = .slice p.av nv p.cv := by subst hcs; intro _; rw [hnv]; rfl
  have h4 : cs.length = 4 := by subst hcs; rfl
  rw [← hcs] at hst ⊢
  have hfold : cs.toArray = #[.int .i64 m.dec, .slice p.an nn p.cn, .slice p.al nl p.cl, .slice p.av nv p.cv] := by rw [hcs, hnn, hnl, hnv]; rfl
  obtain ⟨w1, hw1⟩ : ∃ w1, w1 = w.alloc (.cells cs.toArray 44) := ⟨_, rfl⟩
  rw [← hw1] at hst
  rw [hfold] at hw1 ⊢
  obtain ⟨gm, hgm⟩ : ∃ g, g = w.heap.size := ⟨_, rfl⟩
  rw [← hgm] at hst
  have K0 : ∀ l (w' : World) a n c, St w0 w (.slice a n c) gm 44 cs l w' a n c → True := fun _ _ _ _ _ _ => trivial
  have C0 := Lib.hid c0
  have C1 := Lib.hid c1
  have C2 := Lib.hid c2
  have C3 := Lib.hid c3
  have H4 := Lib.hid h4
  have HF := Lib.hid hfin
  have HNN := Lib.hid hnn
  have HNL := Lib.hid hnl
  have HNV := Lib.hid hnv
  have d0 : w1.cell? ⟨gm, 0, none⟩ = some (.int .i64 m.dec) := by rw [hst.cell 0 (by rw [H4.out]; omega), C0.out]
  clear hfin hnn hnl hnv c0 c1 c2 c3 hfold hcs hown hn K0 h4
  obtain ⟨vI, hvI⟩ : ∃ v, v = Value.slice a n c := ⟨_, rfl⟩
  have hvI2 := hvI
  have HVI := Lib.hid hvI
  rw [← hvI] at hst
  clear hvI hvI2
  go_enter Try.func62, Try.ntmps62
  go_wp2_with fail
  rw [← hw1, ← hgm]
  clear hw1 hgm
  refine (hst.int m.dec hwf.dec (by omega)).mono ?_
  rintro e w2 ⟨a2, n2, k2, rfl, hst2⟩
  have d1 : w2.cell? ⟨gm, 1, none⟩ = some (.slice p.an nn p.cn) := by rw [hst2.cell 1 (by rw [H4.out]; omega), C1.out]
  clear d0 hst
  go_wp2_with fail
  refine (hst2.uint _ nn rfl (by omega) (by rw [List.length_append]; omega)).mono ?_
  rintro e w3 ⟨a3, n3, k3, rfl, hst3⟩
  clear d1 hst2
  obtain ⟨la, hla⟩ : ∃ la, la = l ++ bytesI m.dec ++ bytesU nn := ⟨_, rfl⟩
  have hlal : la.length ≤ 100000000000100 := by rw [hla]; simp only [List.length_append]; omega
  have hfin := HF.out
  rw [← hla] at hst3 hfin
  have HFA := Lib.hid hfin
  clear hla hfin HF q1 q2 hl
  go_wp2_with fail
  go_loopw [0, 5] (fun v i wr => ∃ (k : Nat) (a : Option Addr) (n c : Nat), k ≤ nn ∧ v = .slice a n c ∧ i = .int .i64 (k : Int) ∧ St w0 w vI gm 44 cs (la ++ (m.names.take k).flatMap encName) wr a n c) (fun _ i _ => nn - (intOf i).toNat)
  case atStart => exact ⟨0, _, _, _, Nat.zero_le _, rfl, rfl, by simpa using hst3⟩
  case round =>
    clear hst3
    obtain ⟨k, a4, n4, k4, hk, rfl, rfl, hst⟩ := hrel
    have d1 : wr.cell? ⟨gm, 1, none⟩ = some (.slice p.an nn p.cn) := by rw [hst.cell 1 (by rw [H4.out]; omega), C1.out]
    have hll : (la ++ (m.names.take k).flatMap encName).length ≤ 100030000000000 := by
      have := flat_take_le encName 20 k nn m.names (by rw [← HNN.out]; exact Nat.le_refl _) fun v hv => by
        have := bytesI_le v.1 (hwf.names v hv).1
        have hu := (hwf.names v hv).2
        have := bytesU_le v.2.toNat (by unfold U64 at hu; omega)
        rw [encName, List.length_append]
        omega
      rw [List.length_append]
      omega
    by_cases hlt : k < nn
    · have hkl : k < m.names.length := by rw [← HNN.out]; exact hlt
      obtain ⟨b, off, hav, hc1, hc2⟩ := (hr.1.below hst.2.2.1).nat k hkl
      have hlt' : (k : Int) < nn := by omega
      have hsn := flat_take_snoc encName m.names k hkl
      have hwx := hwf.names m.names[k] (List.getElem_mem hkl)
      have hv2 := (hr.1).nat k hkl
      obtain ⟨⟨ts, id⟩, hx⟩ : ∃ v, v = m.names[k] := ⟨_, rfl⟩
      rw [← hx] at hc1 hc2 hsn hwx hv2
      dsimp only at hc1 hc2 hwx hv2
      have HST := Lib.hid hsn
      have HME := Lib.hid (meas_lt hlt)
      have hid : (id.toNat : Int) = id := by have := hwx.2; unfold U64 at this; omega
      have hidb : id.toNat < 18446744073709551616 := by have := hwx.2; unfold U64 at this; omega
      have HI := Lib.hid hid
      have HIB := Lib.hid hidb
      have qt := bytesI_le ts hwx.1
      obtain ⟨b', off', hav', hz1, hz2⟩ := hv2
      rw [hav] at hav'
      obtain ⟨rfl, rfl⟩ : b = b' ∧ off = off' := by cases hav'; exact ⟨rfl, rfl⟩
      have HZ2 := Lib.hid hz2
      have HAV := Lib.hid hav
      clear hsn hx hid hidb hav' hz1 hz2
      rw [hav] at d1
      clear hav
      go_wp2_with fail
      refine (hst.int ts hwx.1 (by omega)).mono ?_
      rintro e w5 ⟨a5, n5, k5, rfl, hst5⟩
      have d5 : w5.cell? ⟨gm, 1, none⟩ = some (.slice (some ⟨b, off, none⟩) nn p.cn) := by rw [hst5.cell 1 (by rw [H4.out]; omega), C1.out, HAV.out]
      have e5 : w5.cell? ⟨b, off + k * 2 + 1, none⟩ = some (.int .u64 id) := by
        have := HZ2.out
        rw [hst5.2.2.1.cell (World.block_lt_of_cell? w0 _ this)]
        exact this
      clear hst d1 hc1 hc2
      go_wp2_with fail
      refine (hst5.uint id id.toNat HI.out.symm HIB.out (by rw [List.length_append]; omega)).mono ?_
      rintro e w6 ⟨a6, n6, k6, rfl, hst6⟩
      clear d5 e5 hst5
      go_wp2
      go_roundw
      case rel => exact ⟨k + 1, _, _, _, hlt, rfl, by go_num, by rw [HST.out, encName, ← List.append_assoc, ← List.append_assoc]; exact hst6⟩
      case measure => exact HME.out
    · have hlt' : ¬ (k : Int) < nn := by omega
      have htk : m.names.take k = m.names := List.take_of_length_le (by rw [← HNN.out]; omega)
      rw [htk] at hst hll
      obtain ⟨lb, hlb⟩ : ∃ lb, lb = la ++ m.names.flatMap encName := ⟨_, rfl⟩
      have hfin := HFA.out
      rw [← hlb] at hst hll hfin
      have HFB := Lib.hid hfin
      clear hfin HFA hlb htk hlt hk hlal
      have d2 : wr.cell? ⟨gm, 2, none⟩ = some (.slice p.al nl p.cl) := by rw [hst.cell 2 (by rw [H4.out]; omega), C2.out]
      go_wp2_with fail
      refine (hst.uint _ nl rfl (by omega) (by omega)).mono ?_
      rintro e w3 ⟨a3, n3, k3, rfl, hst3⟩
      obtain ⟨lc, hlc⟩ : ∃ lc, lc = lb ++ bytesU nl := ⟨_, rfl⟩
      have hlcl : lc.length ≤ 100030000000100 := by rw [hlc]; simp only [List.length_append]; omega
      have hfin := HFB.out
      rw [← hlc] at hst3 hfin
      have HFC := Lib.hid hfin
      clear hfin HFB hlc hll hst d1 d2
      go_wp2_with fail
      go_loopw [0, 6] (fun v i wr => ∃ (k : Nat) (a : Option Addr) (n c : Nat), k ≤ nl ∧ v = .slice a n c ∧ i = .int .i64 (k : Int) ∧ St w0 w vI gm 44 cs (lc ++ (m.lens.take k).flatMap bytesI) wr a n c) (fun _ i _ => nl - (intOf i).toNat)
      case atStart => exact ⟨0, _, _, _, Nat.zero_le _, rfl, rfl, by simpa using hst3⟩
      case round =>
        clear hst3
        obtain ⟨k, a4, n4, k4, hk, rfl, rfl, hst⟩ := hrel
        have d2 : wr.cell? ⟨gm, 2, none⟩ = some (.slice p.al nl p.cl) := by rw [hst.cell 2 (by rw [H4.out]; omega), C2.out]
        have hll : (lc ++ (m.lens.take k).flatMap bytesI).length ≤ 100050000000000 := by
          have := flat_take_le bytesI 10 k nl m.lens (by rw [← HNL.out]; exact Nat.le_refl _) fun v hv => bytesI_le v (hwf.lens v hv)
          rw [List.length_append]
          omega
        by_cases hlt : k < nl
        · have hkl : k < m.lens.length := by rw [← HNL.out]; exact hlt
          obtain ⟨b, off, hav, hc1⟩ := (hr.2.1.below hst.2.2.1).zat k hkl
          have hlt' : (k : Int) < nl := by omega
          have hsn := flat_take_snoc bytesI m.lens k hkl
          have hwx := hwf.lens m.lens[k] (List.getElem_mem hkl)
          obtain ⟨x, hx⟩ : ∃ v, v = m.lens[k] := ⟨_, rfl⟩
          rw [← hx] at hc1 hsn hwx
          have HST := Lib.hid hsn
          have HME := Lib.hid (meas_lt hlt)
          clear hsn hx
          rw [hav] at d2
          clear hav
          go_wp2_with fail
          refine (hst.int x hwx (by omega)).mono ?_
          rintro e w5 ⟨a5, n5, k5, rfl, hst5⟩
          clear hst d2 hc1
          go_wp2
          go_roundw
          case rel => exact ⟨k + 1, _, _, _, hlt, rfl, by go_num, by rw [HST.out, ← List.append_assoc]; exact hst5⟩
          case measure => exact HME.out
        · have hlt' : ¬ (k : Int) < nl := by omega
          have htk : m.lens.take k = m.lens := List.take_of_length_le (by rw [← HNL.out]; omega)
          rw [htk] at hst hll
          obtain ⟨ld, hld⟩ : ∃ ld, ld = lc ++ m.lens.flatMap bytesI := ⟨_, rfl⟩
          have hfin := HFC.out
          rw [← hld] at hst hll hfin
          have HFD := Lib.hid hfin
          clear hfin HFC hld htk hlt hk hlcl
          have d3 : wr.cell? ⟨gm, 3, none⟩ = some (.slice p.av nv p.cv) := by rw [hst.cell 3 (by rw [H4.out]; omega), C3.out]
          go_wp2_with fail
          refine (hst.uint _ nv rfl (by omega) (by omega)).mono ?_
          rintro e w3 ⟨a3, n3, k3, rfl, hst3⟩
          obtain ⟨le, hle⟩ : ∃ le, le = ld ++ bytesU nv := ⟨_, rfl⟩
          have hlel : le.length ≤ 100050000000100 := by rw [hle]; simp only [List.length_append]; omega
          have hfin := HFD.out
          rw [← hle] at hst3 hfin
          have HFE := Lib.hid hfin
          clear hfin HFD hle hll hst d2 d3
          go_wp2_with fail
          go_loopw [0, 7] (fun v i wr => ∃ (k : Nat) (a : Option Addr) (n c : Nat), k ≤ nv ∧ v = .slice a n c ∧ i = .int .i64 (k : Int) ∧ St w0 w vI gm 44 cs (le ++ (m.vals.take k).flatMap encVal) wr a n c) (fun _ i _ => nv - (intOf i).toNat)
          case atStart => exact ⟨0, _, _, _, Nat.zero_le _, rfl, rfl, by simpa using hst3⟩
          case round =>
            clear hst3
            obtain ⟨k, a4, n4, k4, hk, rfl, rfl, hst⟩ := hrel
            have d3 : wr.cell? ⟨gm, 3, none⟩ = some (.slice p.av nv p.cv) := by rw [hst.cell 3 (by rw [H4.out]; omega), C3.out]
            have hll : (le ++ (m.vals.take k).flatMap encVal).length ≤ 100070000000000 := by
              have := flat_take_le encVal 11 k nv m.vals (by rw [← HNV.out]; exact Nat.le_refl _) fun v hv => encVal_le (hwf.vals v hv)
              rw [List.length_append]
              omega
            by_cases hlt : k < nv
            · have hkl : k < m.vals.length := by rw [← HNV.out]; exact hlt
              obtain ⟨b, off, hav, hc1, hc2⟩ := (hr.2.2.1.below hst.2.2.1).vat k hkl
              have hlt' : (k : Int) < nv := by omega
              have hsn := flat_take_snoc encVal m.vals k hkl
              have hwx := hwf.vals m.vals[k] (List.getElem_mem hkl)
              have hv2 := (hr.2.2.1).vat k hkl
              obtain ⟨⟨kn, x⟩, hx⟩ : ∃ v, v = m.vals[k] := ⟨_, rfl⟩
              rw [← hx] at hc1 hc2 hsn hwx hv2
              dsimp only at hc1 hc2 hwx hv2
              have HST := Lib.hid hsn
              have HME := Lib.hid (meas_lt hlt)
              obtain ⟨b', off', hav', hz1, hz2⟩ := hv2
              rw [hav] at hav'
              obtain ⟨rfl, rfl⟩ : b = b' ∧ off = off' := by cases hav'; exact ⟨rfl, rfl⟩
              have HZ2 := Lib.hid hz2
              have HAV := Lib.hid hav
              clear hsn hx hav' hz1 hz2
              rw [hav] at d3
              clear hav
              obtain ⟨y, hy⟩ : ∃ y : UInt8, y = if kn then 1 else 0 := ⟨_, rfl⟩
              go_wp2_with fail
              refine (rtruth_any kn wr).mono ?_
              rintro e w5 ⟨rfl, rfl⟩
              have hbw := hst.2.2.1.size
              have hnb : n4 ≤ 100070000000000 := by rw [← hst.1]; exact hll
              have hown4 := hst.2.1
              have HS := Lib.hid hst
              clear hst
              cases kn
              · go_wp2_with (first | (at_builtin; refine app_b1 wr rfl _ _ rfl w0.heap.size (.slice a4 n4 k4) n4 _ rfl hown4 _ 0 rfl rfl (by omega) (by omega) ?_; intro a5 k5 w5 hown5 hb5 hm5) | fail)
                have hst5 := HS.out.moved (l' := (le ++ (m.vals.take k).flatMap encVal) ++ [0]) (by rw [List.length_append, HS.out.1]; rfl) hown5 hb5 hm5.mv.alloc
                clear hown4 HS d3 hc1 hc2
                go_roundw
                case rel => exact ⟨k + 1, _, _, _, hlt, rfl, by go_num, by rw [HST.out, encVal, ← List.append_assoc, ← List.append_assoc, if_neg (by simp), List.append_nil]; exact hst5⟩
                case measure => exact HME.out
              · go_wp2_with (first | (at_builtin; refine app_b1 wr rfl _ _ rfl w0.heap.size (.slice a4 n4 k4) n4 _ rfl hown4 _ 1 rfl rfl (by omega) (by omega) ?_; intro a5 k5 w5 hown5 hb5 hm5; have hst5 := HS.out.moved (l' := (le ++ (m.vals.take k).flatMap encVal) ++ [1]) (by rw [List.length_append, HS.out.1]; rfl) hown5 hb5 hm5.mv.alloc; have d5 : w5.cell? ⟨gm, 3, none⟩ = some (.slice (some ⟨b, off, none⟩) nv p.cv) := by { rw [hst5.cell 3 (by rw [H4.out]; omega), C3.out, HAV.out] }; have e5 : w5.cell? ⟨b, off + k * 2 + 1, none⟩ = some (.int .i64 x) := by { have := HZ2.out; rw [hst5.2.2.1.cell (World.block_lt_of_cell? w0 _ this)]; exact this }) | fail)
                refine (hst5.int x hwx (by rw [List.length_append, List.length_singleton]; omega)).mono ?_
                rintro e w6 ⟨a6, n6, k6, rfl, hst6⟩
                clear hown4 HS d3 hc1 hc2 d5 e5 hst5 hown5 hm5 hb5
                go_wp2
                go_roundw
                case rel => exact ⟨k + 1, _, _, _, hlt, rfl, by go_num, by rw [HST.out, encVal, ← List.append_assoc, ← List.append_assoc, if_pos rfl]; exact hst6⟩
                case measure => exact HME.out
            · have hlt' : ¬ (k : Int) < nv := by omega
              have htk : m.vals.take k = m.vals := List.take_of_length_le (by rw [← HNV.out]; omega)
              rw [htk] at hst
              go_wp2_with fail
              go_ret
              rw [HFE.out]
              have := hst.fin
              rw [HVI.out] at this
              exact this
end Go.Proofs.Ytaipnbpefdcejaa
/- The walks of the reference's putField, letter by letter. -/
set_option linter.unusedVariables false
namespace Go.Proofs.Ytaipnbpefdcejaa
open Go.RowKit
theorem below_of {w0 w1 w2 : World} (h1 : Below w0.heap.size w0 w1) (h2 : Below w0.heap.size w0 w2) (hs : w1.heap.size ≤ w2.heap.size) : Below w0.heap.size w1 w2 :=
  ⟨h2.os.trans h1.os.symm, h2.tape.trans h1.tape.symm, h2.output.trans h1.output.symm, hs, fun k hk => (h2.block k hk).trans (h1.block k hk).symm⟩
set_option maxHeartbeats 2000000 in
set_option maxRecDepth 20000 in
theorem rf_number (w0 : World) (l : List UInt8) (m : M) (p : Ps) (a : Option Addr) (n c : Nat) (w : World) (hwf : WfM m) (hh : 0 ≤ m.handle) (hl : l.length ≤ 100000000000000) (hn : l.length = n) (hown : w.ownsRow w0.heap.size 5 1 (.slice a n c) n (l.map B)) (hb : Below w0.heap.size w0 w) (hr : MRd w0 m p) :
    Calls Try.prog 56 #[.slice a n c, valM m p, .int .u8 78] w (PRF w0 w (.slice a n c) (l ++ encF "sluice/wire.number" m)) := by
  have hst := St.start 50 (cellsM m p) hn hown hb
  obtain ⟨w1, hw1⟩ : ∃ w1, w1 = w.alloc (.cells (cellsM m p).toArray 50) := ⟨_, rfl⟩
  rw [← hw1] at hst
  unfold cellsM at hw1
  obtain ⟨gm, hgm⟩ : ∃ g, g = w.heap.size := ⟨_, rfl⟩
  rw [← hgm] at hst
  obtain ⟨v0, hv0⟩ : ∃ v, v = valM m p := ⟨_, rfl⟩
  unfold valM cellsM at hv0
  obtain ⟨vI, hvI⟩ : ∃ v, v = Value.slice a n c := ⟨_, rfl⟩
  have HVI := Lib.hid hvI
  rw [← hvI] at hst
  unfold valM
  unfold cellsM
  clear hvI
  clear hown hn
  go_enter Try.func56, Try.ntmps56
  go_wp2_with fail
  rw [← hw1, ← hgm, ← hv0]
  clear hw1 hgm hv0
  refine (hst.int m.num hwf.num (by omega)).mono ?_
  rintro e w2 ⟨a2, n2, k2, rfl, hst2⟩
  go_wp2
  go_ret
  have hf := hst2.fin
  rw [HVI.out] at hf
  exact hf
set_option maxHeartbeats 2000000 in
set_option maxRecDepth 20000 in
theorem rf_code (w0 : World) (l : List UInt8) (m : M) (p : Ps) (a : Option Addr) (n c : Nat) (w : World) (hwf : WfM m) (hh : 0 ≤ m.handle) (hl : l.length ≤ 100000000000000) (hn : l.length = n) (hown : w.ownsRow w0.heap.size 5 1 (.slice a n c) n (l.map B)) (hb : Below w0.heap.size w0 w) (hr : MRd w0 m p) :
    Calls Try.prog 56 #[.slice a n c, valM m p, .int .u8 67] w (PRF w0 w (.slice a n c) (l ++ encF "sluice/wire.code" m)) := by
  have hst := St.start 50 (cellsM m p) hn hown hb
  obtain ⟨w1, hw1⟩ : ∃ w1, w1 = w.alloc (.cells (cellsM m p).toArray 50) := ⟨_, rfl⟩
  rw [← hw1] at hst
  unfold cellsM at hw1
  obtain ⟨gm, hgm⟩ : ∃ g, g = w.heap.size := ⟨_, rfl⟩
  rw [← hgm] at hst
  obtain ⟨v0, hv0⟩ : ∃ v, v = valM m p := ⟨_, rfl⟩
  unfold valM cellsM at hv0
  obtain ⟨vI, hvI⟩ : ∃ v, v = Value.slice a n c := ⟨_, rfl⟩
  have HVI := Lib.hid hvI
  rw [← hvI] at hst
  unfold valM
  unfold cellsM
  clear hvI
  clear hown hn
  go_enter Try.func56, Try.ntmps56
  go_wp2_with fail
  rw [← hw1, ← hgm, ← hv0]
  clear hw1 hgm hv0
  refine (hst.int m.code hwf.code (by omega)).mono ?_
  rintro e w2 ⟨a2, n2, k2, rfl, hst2⟩
  go_wp2
  go_ret
  have hf := hst2.fin
  rw [HVI.out] at hf
  exact hf
set_option maxHeartbeats 2000000 in
set_option maxRecDepth 20000 in
theorem rf_handle (w0 : World) (l : List UInt8) (m : M) (p : Ps) (a : Option Addr) (n c : Nat) (w : World) (hwf : WfM m) (hh : 0 ≤ m.handle) (hl : l.length ≤ 100000000000000) (hn : l.length = n) (hown : w.ownsRow w0.heap.size 5 1 (.slice a n c) n (l.map B)) (hb : Below w0.heap.size w0 w) (hr : MRd w0 m p) :
    Calls Try.prog 56 #[.slice a n c, valM m p, .int .u8 72] w (PRF w0 w (.slice a n c) (l ++ encF "sluice/wire.handle" m)) := by
  have hst := St.start 50 (cellsM m p) hn hown hb
  obtain ⟨w1, hw1⟩ : ∃ w1, w1 = w.alloc (.cells (cellsM m p).toArray 50) := ⟨_, rfl⟩
  rw [← hw1] at hst
  unfold cellsM at hw1
  obtain ⟨gm, hgm⟩ : ∃ g, g = w.heap.size := ⟨_, rfl⟩
  rw [← hgm] at hst
  obtain ⟨v0, hv0⟩ : ∃ v, v = valM m p := ⟨_, rfl⟩
  unfold valM cellsM at hv0
  obtain ⟨vI, hvI⟩ : ∃ v, v = Value.slice a n c := ⟨_, rfl⟩
  have HVI := Lib.hid hvI
  rw [← hvI] at hst
  unfold valM
  unfold cellsM
  clear hvI
  clear hown hn
  go_enter Try.func56, Try.ntmps56
  go_wp2_with fail
  rw [← hw1, ← hgm, ← hv0]
  clear hw1 hgm hv0
  refine (hst.uint _ m.handle.toNat (by first | (rw [IntKind.wrap_u64]; have := hwf.handle; unfold I64 at this; omega) | omega) (by have := hwf.handle; unfold I64 at this; omega) (by omega)).mono ?_
  rintro e w2 ⟨a2, n2, k2, rfl, hst2⟩
  go_wp2
  go_ret
  have hf := hst2.fin
  rw [HVI.out] at hf
  exact hf
set_option maxHeartbeats 2000000 in
set_option maxRecDepth 20000 in
theorem rf_fault (w0 : World) (l : List UInt8) (m : M) (p : Ps) (a : Option Addr) (n c : Nat) (w : World) (hwf : WfM m) (hh : 0 ≤ m.handle) (hl : l.length ≤ 100000000000000) (hn : l.length = n) (hown : w.ownsRow w0.heap.size 5 1 (.slice a n c) n (l.map B)) (hb : Below w0.heap.size w0 w) (hr : MRd w0 m p) :
    Calls Try.prog 56 #[.slice a n c, valM m p, .int .u8 70] w (PRF w0 w (.slice a n c) (l ++ encF "sluice/wire.fault" m)) := by
  have hst := St.start 50 (cellsM m p) hn hown hb
  obtain ⟨w1, hw1⟩ : ∃ w1, w1 = w.alloc (.cells (cellsM m p).toArray 50) := ⟨_, rfl⟩
  rw [← hw1] at hst
  unfold cellsM at hw1
  obtain ⟨gm, hgm⟩ : ∃ g, g = w.heap.size := ⟨_, rfl⟩
  rw [← hgm] at hst
  obtain ⟨v0, hv0⟩ : ∃ v, v = valM m p := ⟨_, rfl⟩
  unfold valM cellsM at hv0
  obtain ⟨vI, hvI⟩ : ∃ v, v = Value.slice a n c := ⟨_, rfl⟩
  have HVI := Lib.hid hvI
  rw [← hvI] at hst
  unfold valM
  unfold cellsM
  clear hvI
  have q1 := bytesI_le _ hwf.fwhere
  have q2 := bytesI_le _ hwf.fcode
  clear hown hn
  go_enter Try.func56, Try.ntmps56
  go_wp2_with fail
  rw [← hw1, ← hgm, ← hv0]
  clear hw1 hgm hv0
  refine (hst.int m.fwhere hwf.fwhere (by omega)).mono ?_
  rintro e w2 ⟨a2, n2, k2, rfl, hst2⟩
  have d25 : w2.cell? ⟨gm, 25, none⟩ = some (.int .i64 m.fcode) := hst2.cell 25 (by rw [cellsM_len]; omega)
  clear hst
  go_wp2_with fail
  refine (hst2.int m.fcode hwf.fcode (by rw [List.length_append]; omega)).mono ?_
  rintro e w3 ⟨a3, n3, k3, rfl, hst3⟩
  have e26 : w3.cell? ⟨gm, 26, none⟩ = some (.int .i64 m.fat) := hst3.cell 26 (by rw [cellsM_len]; omega)
  clear hst2
  go_wp2_with fail
  refine (hst3.int m.fat hwf.fat (by simp only [List.length_append]; omega)).mono ?_
  rintro e w4 ⟨a4, n4, k4, rfl, hst4⟩
  go_wp2
  go_ret
  have hf := hst4.fin
  rw [HVI.out] at hf
  rw [List.append_assoc, List.append_assoc] at hf
  exact hf
set_option maxHeartbeats 2000000 in
set_option maxRecDepth 20000 in
theorem rf_schema (w0 : World) (l : List UInt8) (m : M) (p : Ps) (a : Option Addr) (n c : Nat) (w : World) (hwf : WfM m) (hh : 0 ≤ m.handle) (hl : l.length ≤ 100000000000000) (hn : l.length = n) (hown : w.ownsRow w0.heap.size 5 1 (.slice a n c) n (l.map B)) (hb : Below w0.heap.size w0 w) (hr : MRd w0 m p) :
    Calls Try.prog 56 #[.slice a n c, valM m p, .int .u8 83] w (PRF w0 w (.slice a n c) (l ++ encF "sluice/wire.schema" m)) := by
  have hst := St.start 50 (cellsM m p) hn hown hb
  obtain ⟨w1, hw1⟩ : ∃ w1, w1 = w.alloc (.cells (cellsM m p).toArray 50) := ⟨_, rfl⟩
  rw [← hw1] at hst
  unfold cellsM at hw1
  obtain ⟨gm, hgm⟩ : ∃ g, g = w.heap.size := ⟨_, rfl⟩
  rw [← hgm] at hst
  obtain ⟨v0, hv0⟩ : ∃ v, v = valM m p := ⟨_, rfl⟩
  unfold valM cellsM at hv0
  obtain ⟨vI, hvI⟩ : ∃ v, v = Value.slice a n c := ⟨_, rfl⟩
  have HVI := Lib.hid hvI
  rw [← hvI] at hst
  unfold valM
  unfold cellsM
  clear hvI
  have q1 := bytesU_le m.schema.size (by have := hwf.sl; omega)
  have q2 := hwf.sl
  clear hown hn
  go_enter Try.func56, Try.ntmps56
  go_wp2_with fail
  rw [← hw1, ← hgm, ← hv0]
  clear hw1 hgm hv0
  refine (hst.uint _ m.schema.size rfl (by omega) (by omega)).mono ?_
  rintro e w2 ⟨a2, n2, k2, rfl, hst2⟩
  have d28 : w2.cell? ⟨gm, 28, none⟩ = some (.string m.schema) := hst2.cell 28 (by rw [cellsM_len]; omega)
  clear hst
  have hown2 := hst2.2.1
  have hs2 := hst2.2.2.1.size
  have hn2 : n2 ≤ 100000000000010 := by rw [← hst2.1, List.length_append]; omega
  have HST := Lib.hid hst2
  clear hst2
  go_wp2_with (first | (at_builtin; refine app_s w2 rfl _ _ rfl w0.heap.size a2 n2 k2 _ rfl hown2 m.schema rfl (by omega) hs2 ?_; intro a3 c3 w3 hown3 hb3 hm3) | fail)
  have hst3 := HST.out.moved (by rw [List.length_append, HST.out.1, Array.length_toList]; rfl) hown3 hb3 hm3
  go_ret
  have hf := hst3.fin
  rw [HVI.out] at hf
  rw [List.append_assoc] at hf
  exact hf
set_option maxHeartbeats 2000000 in
set_option maxRecDepth 20000 in
theorem rf_query (w0 : World) (l : List UInt8) (m : M) (p : Ps) (a : Option Addr) (n c : Nat) (w : World) (hwf : WfM m) (hh : 0 ≤ m.handle) (hl : l.length ≤ 100000000000000) (hn : l.length = n) (hown : w.ownsRow w0.heap.size 5 1 (.slice a n c) n (l.map B)) (hb : Below w0.heap.size w0 w) (hr : MRd w0 m p) :
    Calls Try.prog 56 #[.slice a n c, valM m p, .int .u8 81] w (PRF w0 w (.slice a n c) (l ++ encF "sluice/wire.query" m)) := by
  have hst := St.start 50 (cellsM m p) hn hown hb
  obtain ⟨w1, hw1⟩ : ∃ w1, w1 = w.alloc (.cells (cellsM m p).toArray 50) := ⟨_, rfl⟩
  rw [← hw1] at hst
  unfold cellsM at hw1
  obtain ⟨gm, hgm⟩ : ∃ g, g = w.heap.size := ⟨_, rfl⟩
  rw [← hgm] at hst
  obtain ⟨v0, hv0⟩ : ∃ v, v = valM m p := ⟨_, rfl⟩
  unfold valM cellsM at hv0
  obtain ⟨vI, hvI⟩ : ∃ v, v = Value.slice a n c := ⟨_, rfl⟩
  have HVI := Lib.hid hvI
  rw [← hvI] at hst
  unfold valM
  unfold cellsM
  clear hvI
  have q1 := bytesU_le m.query.size (by have := hwf.ql; omega)
  have q2 := hwf.ql
  clear hown hn
  go_enter Try.func56, Try.ntmps56
  go_wp2_with fail
  rw [← hw1, ← hgm, ← hv0]
  clear hw1 hgm hv0
  refine (hst.uint _ m.query.size rfl (by omega) (by omega)).mono ?_
  rintro e w2 ⟨a2, n2, k2, rfl, hst2⟩
  have d29 : w2.cell? ⟨gm, 29, none⟩ = some (.string m.query) := hst2.cell 29 (by rw [cellsM_len]; omega)
  clear hst
  have hown2 := hst2.2.1
  have hs2 := hst2.2.2.1.size
  have hn2 : n2 ≤ 100000000000010 := by rw [← hst2.1, List.length_append]; omega
  have HST := Lib.hid hst2
  clear hst2
  go_wp2_with (first | (at_builtin; refine app_s w2 rfl _ _ rfl w0.heap.size a2 n2 k2 _ rfl hown2 m.query rfl (by omega) hs2 ?_; intro a3 c3 w3 hown3 hb3 hm3) | fail)
  have hst3 := HST.out.moved (by rw [List.length_append, HST.out.1, Array.length_toList]; rfl) hown3 hb3 hm3
  go_ret
  have hf := hst3.fin
  rw [HVI.out] at hf
  rw [List.append_assoc] at hf
  exact hf
set_option maxHeartbeats 2000000 in
set_option maxRecDepth 20000 in
theorem rf_image (w0 : World) (l : List UInt8) (m : M) (p : Ps) (a : Option Addr) (n c : Nat) (w : World) (hwf : WfM m) (hh : 0 ≤ m.handle) (hl : l.length ≤ 100000000000000) (hn : l.length = n) (hown : w.ownsRow w0.heap.size 5 1 (.slice a n c) n (l.map B)) (hb : Below w0.heap.size w0 w) (hr : MRd w0 m p) :
    Calls Try.prog 56 #[.slice a n c, valM m p, .int .u8 73] w (PRF w0 w (.slice a n c) (l ++ encF "sluice/wire.image" m)) := by
  have hst := St.start 50 (cellsM m p) hn hown hb
  obtain ⟨w1, hw1⟩ : ∃ w1, w1 = w.alloc (.cells (cellsM m p).toArray 50) := ⟨_, rfl⟩
  rw [← hw1] at hst
  unfold cellsM at hw1
  obtain ⟨gm, hgm⟩ : ∃ g, g = w.heap.size := ⟨_, rfl⟩
  rw [← hgm] at hst
  obtain ⟨v0, hv0⟩ : ∃ v, v = valM m p := ⟨_, rfl⟩
  unfold valM cellsM at hv0
  obtain ⟨vI, hvI⟩ : ∃ v, v = Value.slice a n c := ⟨_, rfl⟩
  have HVI := Lib.hid hvI
  rw [← hvI] at hst
  unfold valM
  unfold cellsM
  clear hvI
  obtain ⟨ni, hni⟩ : ∃ n, n = m.image.length := ⟨_, rfl⟩
  have q2 := hwf.il
  rw [← hni] at q2
  have q1 := bytesU_le ni (by omega)
  have HNI := Lib.hid hni
  clear hown hn
  go_enter Try.func56, Try.ntmps56
  go_wp2_with fail
  rw [← hw1, ← hgm, ← hv0]
  clear hw1 hgm hv0
  rw [← hni]
  clear hni
  refine (hst.uint _ ni rfl (by omega) (by omega)).mono ?_
  rintro e w2 ⟨a2, n2, k2, rfl, hst2⟩
  have d30 : w2.cell? ⟨gm, 30, none⟩ = some (.slice p.ai ni p.ci) := by rw [HNI.out]; exact hst2.cell 30 (by rw [cellsM_len]; omega)
  clear hst
  have hown2 := hst2.2.1
  have hs2 := hst2.2.2.1.size
  have hri : Rd w2 p.ai (m.image.map B) := hr.2.2.2.below hst2.2.2.1
  have hn2 : n2 ≤ 100000000000010 := by rw [← hst2.1, List.length_append]; omega
  have HST := Lib.hid hst2
  clear hst2
  go_wp2_with (first | (at_builtin; refine app_b w2 rfl _ _ rfl w0.heap.size (.slice a2 n2 k2) n2 _ rfl hown2 p.ai ni p.ci m.image rfl HNI.out.symm hri (by omega) hs2 ?_; intro a3 c3 w3 hown3 hb3 hm3) | fail)
  have hst3 := HST.out.moved (by rw [List.length_append, HST.out.1, HNI.out]) hown3 hb3 hm3.mv
  go_ret
  have hf := hst3.fin
  rw [HVI.out] at hf
  have hfin : l ++ (bytesU ni ++ m.image) = l ++ encF "sluice/wire.image" m := by rw [HNI.out]; rfl
  rw [List.append_assoc, hfin] at hf
  exact hf
set_option maxHeartbeats 2000000 in
set_option maxRecDepth 20000 in
theorem rf_match (w0 : World) (l : List UInt8) (m : M) (p : Ps) (a : Option Addr) (n c : Nat) (w : World) (hwf : WfM m) (hh : 0 ≤ m.handle) (hl : l.length ≤ 100000000000000) (hn : l.length = n) (hown : w.ownsRow w0.heap.size 5 1 (.slice a n c) n (l.map B)) (hb : Below w0.heap.size w0 w) (hr : MRd w0 m p) :
    Calls Try.prog 56 #[.slice a n c, valM m p, .int .u8 77] w (PRF w0 w (.slice a n c) (l ++ encF "sluice/wire.match" m)) := by
  have hst := St.start 50 (cellsM m p) hn hown hb
  obtain ⟨w1, hw1⟩ : ∃ w1, w1 = w.alloc (.cells (cellsM m p).toArray 50) := ⟨_, rfl⟩
  rw [← hw1] at hst
  unfold cellsM at hw1
  obtain ⟨gm, hgm⟩ : ∃ g, g = w.heap.size := ⟨_, rfl⟩
  rw [← hgm] at hst
  obtain ⟨v0, hv0⟩ : ∃ v, v = valM m p := ⟨_, rfl⟩
  unfold valM cellsM at hv0
  obtain ⟨vI, hvI⟩ : ∃ v, v = Value.slice a n c := ⟨_, rfl⟩
  have HVI := Lib.hid hvI
  rw [← hvI] at hst
  unfold valM
  unfold cellsM
  clear hvI
  have hrg : w1.rangeAt gm 14 (cellsK m p) := by have := hst.2.2.2.1.range 14 4 (by rw [cellsM_len]; omega); exact this
  rw [hw1, hgm] at hrg
  unfold cellsK at hrg
  have hnn := hn
  clear hown hn
  go_enter Try.func56, Try.ntmps56
  go_wp2_with (first | ((with_reducible refine at_dst 42 ?_); refine wpList_load_midg rfl _ _ rfl _ _ rfl _ _ hrg Try.underlying44 rfl (by kernel_rfl) ?_) | fail)
  rw [← hw1, ← hgm, ← hv0]
  clear hw1 hgm hv0
  clear hrg
  have hownI := hst.2.1
  rw [show Value.agg #[.int .i64 m.dec, .slice p.an m.names.length p.cn, .slice p.al m.lens.length p.cl, .slice p.av m.vals.length p.cv] = .agg (cellsK m p).toArray from rfl]
  refine (rmatch_any w0 l m p a n c w1 hwf hl hst.1 hst.2.1 hst.2.2.1 hr).mono ?_
  rintro e w2 ⟨a2, n2, k2, rfl, hn2, hown2, hb2, hm2⟩
  have hst2 := hst.moved hn2 hown2 (below_of hst.2.2.1 hb2 hm2.1.size) hm2
  go_wp2
  go_ret
  have hf := hst2.fin
  rw [HVI.out] at hf
  exact hf
set_option maxHeartbeats 2000000 in
set_option maxRecDepth 20000 in
theorem rf_event (w0 : World) (l : List UInt8) (m : M) (p : Ps) (a : Option Addr) (n c : Nat) (w : World) (hwf : WfM m) (hh : 0 ≤ m.handle) (hl : l.length ≤ 100000000000000) (hn : l.length = n) (hown : w.ownsRow w0.heap.size 5 1 (.slice a n c) n (l.map B)) (hb : Below w0.heap.size w0 w) (hr : MRd w0 m p) :
    Calls Try.prog 56 #[.slice a n c, valM m p, .int .u8 69] w (PRF w0 w (.slice a n c) (l ++ encF "sluice/wire.event" m)) := by
  have hst := St.start 50 (cellsM m p) hn hown hb
  obtain ⟨w1, hw1⟩ : ∃ w1, w1 = w.alloc (.cells (cellsM m p).toArray 50) := ⟨_, rfl⟩
  rw [← hw1] at hst
  unfold cellsM at hw1
  obtain ⟨gm, hgm⟩ : ∃ g, g = w.heap.size := ⟨_, rfl⟩
  rw [← hgm] at hst
  obtain ⟨v0, hv0⟩ : ∃ v, v = valM m p := ⟨_, rfl⟩
  unfold valM cellsM at hv0
  obtain ⟨vI, hvI⟩ : ∃ v, v = Value.slice a n c := ⟨_, rfl⟩
  have HVI := Lib.hid hvI
  rw [← hvI] at hst
  unfold valM
  unfold cellsM
  clear hvI
  have q1 := bytesI_le _ hwf.ts
  have q2 := bytesU_le m.id.toNat (by have := hwf.id; unfold U64 at this; omega)
  have q3 := bytesI_le _ hwf.typ
  clear hown hn
  go_enter Try.func56, Try.ntmps56
  go_wp2_with fail
  rw [← hw1, ← hgm, ← hv0]
  clear hw1 hgm hv0
  refine (hst.int m.ts hwf.ts (by omega)).mono ?_
  rintro e w2 ⟨a2, n2, k2, rfl, hst2⟩
  have d4 : w2.cell? ⟨gm, 4, none⟩ = some (.int .u64 m.id) := hst2.cell 4 (by rw [cellsM_len]; omega)
  clear hst
  go_wp2_with fail
  refine (hst2.uint m.id m.id.toNat (by have := hwf.id; unfold U64 at this; omega) (by have := hwf.id; unfold U64 at this; omega) (by rw [List.length_append]; omega)).mono ?_
  rintro e w3 ⟨a3, n3, k3, rfl, hst3⟩
  have e5 : w3.cell? ⟨gm, 5, none⟩ = some (.int .i64 m.typ) := hst3.cell 5 (by rw [cellsM_len]; omega)
  clear hst2
  go_wp2_with fail
  refine (hst3.int m.typ hwf.typ (by simp only [List.length_append]; omega)).mono ?_
  rintro e w4 ⟨a4, n4, k4, rfl, hst4⟩
  clear hst3
  obtain ⟨lb, hlb⟩ : ∃ lb, lb = l ++ bytesI m.ts ++ bytesU m.id.toNat ++ bytesI m.typ := ⟨_, rfl⟩
  have hlbl : lb.length ≤ 100000000000100 := by rw [hlb]; simp only [List.length_append]; omega
  have hfin : l ++ encF "sluice/wire.event" m = lb ++ (attrs m).flatMap bytesI := by rw [hlb]; simp only [List.append_assoc]; rfl
  rw [← hlb] at hst4
  have HF := Lib.hid hfin
  clear hlb hfin q1 q2 q3 d4 e5 hh
  go_wp2_with fail
  go_loopw [0, 7] (fun v i wr => ∃ (k : Nat) (a : Option Addr) (n c : Nat), k ≤ 8 ∧ v = .slice a n c ∧ i = .int .i64 (k : Int) ∧ St w0 w vI gm 50 (cellsM m p) (lb ++ ((attrs m).take k).flatMap bytesI) wr a n c) (fun _ i _ => 8 - (intOf i).toNat)
  case atStart => exact ⟨0, _, _, _, by omega, rfl, rfl, by simpa using hst4⟩
  case round =>
    clear hst4
    obtain ⟨k, a5, n5, k5, hk, rfl, rfl, hst⟩ := hrel
    have hlen := flat_le bytesI 10 ((attrs m).take k) fun v hv => by
      have hv := List.mem_of_mem_take hv
      simp only [attrs, List.mem_cons, List.not_mem_nil, or_false] at hv
      rcases hv with rfl | rfl | rfl | rfl | rfl | rfl | rfl | rfl
      · exact bytesI_le _ hwf.a0
      · exact bytesI_le _ hwf.a1
      · exact bytesI_le _ hwf.a2
      · exact bytesI_le _ hwf.a3
      · exact bytesI_le _ hwf.a4
      · exact bytesI_le _ hwf.a5
      · exact bytesI_le _ hwf.a6
      · exact bytesI_le _ hwf.a7
    have hll : (lb ++ ((attrs m).take k).flatMap bytesI).length ≤ 100000000001000 := by
      have : ((attrs m).take k).length ≤ 8 := by rw [List.length_take]; show min k 8 ≤ 8; omega
      rw [List.length_append]
      omega
    clear hlen
    obtain ⟨z, hz⟩ : ∃ z : Int, z = (k : Int) := ⟨_, rfl⟩
    rw [← hz]
    have hcases : k = 0 ∨ k = 1 ∨ k = 2 ∨ k = 3 ∨ k = 4 ∨ k = 5 ∨ k = 6 ∨ k = 7 ∨ k = 8 := by omega
    rcases hcases with rfl | rfl | rfl | rfl | rfl | rfl | rfl | rfl | rfl
    · obtain rfl : z = 0 := by omega
      clear hz
      have d6 : wr.cell? ⟨gm, 6, none⟩ = some (.int .i64 m.a0) := hst.cell 6 (by rw [cellsM_len]; omega)
      go_wp2_with fail
      refine (hst.int m.a0 hwf.a0 (by omega)).mono ?_
      rintro e w6 ⟨a6, n6, k6, rfl, hst6⟩
      clear d6 hst
      go_wp2
      go_roundw
      case rel => exact ⟨1, _, _, _, by omega, rfl, by go_num, by simpa [attrs, List.append_assoc] using hst6⟩
      case measure => simp [intOf]
    · obtain rfl : z = 1 := by omega
      clear hz
      have d7 : wr.cell? ⟨gm, 7, none⟩ = some (.int .i64 m.a1) := hst.cell 7 (by rw [cellsM_len]; omega)
      go_wp2_with fail
      refine (hst.int m.a1 hwf.a1 (by omega)).mono ?_
      rintro e w6 ⟨a6, n6, k6, rfl, hst6⟩
      clear d7 hst
      go_wp2
      go_roundw
      case rel => exact ⟨2, _, _, _, by omega, rfl, by go_num, by simpa [attrs, List.append_assoc] using hst6⟩
      case measure => simp [intOf]
    · obtain rfl : z = 2 := by omega
      clear hz
      have d8 : wr.cell? ⟨gm, 8, none⟩ = some (.int .i64 m.a2) := hst.cell 8 (by rw [cellsM_len]; omega)
      go_wp2_with fail
      refine (hst.int m.a2 hwf.a2 (by omega)).mono ?_
      rintro e w6 ⟨a6, n6, k6, rfl, hst6⟩
      clear d8 hst
      go_wp2
      go_roundw
      case rel => exact ⟨3, _, _, _, by omega, rfl, by go_num, by simpa [attrs, List.append_assoc] using hst6⟩
      case measure => simp [intOf]
    · obtain rfl : z = 3 := by omega
      clear hz
      have d9 : wr.cell? ⟨gm, 9, none⟩ = some (.int .i64 m.a3) := hst.cell 9 (by rw [cellsM_len]; omega)
      go_wp2_with fail
      refine (hst.int m.a3 hwf.a3 (by omega)).mono ?_
      rintro e w6 ⟨a6, n6, k6, rfl, hst6⟩
      clear d9 hst
      go_wp2
      go_roundw
      case rel => exact ⟨4, _, _, _, by omega, rfl, by go_num, by simpa [attrs, List.append_assoc] using hst6⟩
      case measure => simp [intOf]
    · obtain rfl : z = 4 := by omega
      clear hz
      have d10 : wr.cell? ⟨gm, 10, none⟩ = some (.int .i64 m.a4) := hst.cell 10 (by rw [cellsM_len]; omega)
      go_wp2_with fail
      refine (hst.int m.a4 hwf.a4 (by omega)).mono ?_
      rintro e w6 ⟨a6, n6, k6, rfl, hst6⟩
      clear d10 hst
      go_wp2
      go_roundw
      case rel => exact ⟨5, _, _, _, by omega, rfl, by go_num, by simpa [attrs, List.append_assoc] using hst6⟩
      case measure => simp [intOf]
    · obtain rfl : z = 5 := by omega
      clear hz
      have d11 : wr.cell? ⟨gm, 11, none⟩ = some (.int .i64 m.a5) := hst.cell 11 (by rw [cellsM_len]; omega)
      go_wp2_with fail
      refine (hst.int m.a5 hwf.a5 (by omega)).mono ?_
      rintro e w6 ⟨a6, n6, k6, rfl, hst6⟩
      clear d11 hst
      go_wp2
      go_roundw
      case rel => exact ⟨6, _, _, _, by omega, rfl, by go_num, by simpa [attrs, List.append_assoc] using hst6⟩
      case measure => simp [intOf]
    · obtain rfl : z = 6 := by omega
      clear hz
      have d12 : wr.cell? ⟨gm, 12, none⟩ = some (.int .i64 m.a6) := hst.cell 12 (by rw [cellsM_len]; omega)
      go_wp2_with fail
      refine (hst.int m.a6 hwf.a6 (by omega)).mono ?_
      rintro e w6 ⟨a6, n6, k6, rfl, hst6⟩
      clear d12 hst
      go_wp2
      go_roundw
      case rel => exact ⟨7, _, _, _, by omega, rfl, by go_num, by simpa [attrs, List.append_assoc] using hst6⟩
      case measure => simp [intOf]
    · obtain rfl : z = 7 := by omega
      clear hz
      have d13 : wr.cell? ⟨gm, 13, none⟩ = some (.int .i64 m.a7) := hst.cell 13 (by rw [cellsM_len]; omega)
      go_wp2_with fail
      refine (hst.int m.a7 hwf.a7 (by omega)).mono ?_
      rintro e w6 ⟨a6, n6, k6, rfl, hst6⟩
      clear d13 hst
      go_wp2
      go_roundw
      case rel => exact ⟨8, _, _, _, by omega, rfl, by go_num, by simpa [attrs, List.append_assoc] using hst6⟩
      case measure => simp [intOf]
    · obtain rfl : z = 8 := by omega
      clear hz
      go_wp2
      go_ret
      have hf := hst.fin
      rw [HVI.out] at hf
      rw [HF.out]
      exact hf
set_option maxHeartbeats 2000000 in
set_option maxRecDepth 20000 in
theorem rf_sizes (w0 : World) (l : List UInt8) (m : M) (p : Ps) (a : Option Addr) (n c : Nat) (w : World) (hwf : WfM m) (hh : 0 ≤ m.handle) (hl : l.length ≤ 100000000000000) (hn : l.length = n) (hown : w.ownsRow w0.heap.size 5 1 (.slice a n c) n (l.map B)) (hb : Below w0.heap.size w0 w) (hr : MRd w0 m p) :
    Calls Try.prog 56 #[.slice a n c, valM m p, .int .u8 90] w (PRF w0 w (.slice a n c) (l ++ encF "sluice/wire.sizes" m)) := by
  have hst := St.start 50 (cellsM m p) hn hown hb
  obtain ⟨w1, hw1⟩ : ∃ w1, w1 = w.alloc (.cells (cellsM m p).toArray 50) := ⟨_, rfl⟩
  rw [← hw1] at hst
  unfold cellsM at hw1
  obtain ⟨gm, hgm⟩ : ∃ g, g = w.heap.size := ⟨_, rfl⟩
  rw [← hgm] at hst
  obtain ⟨v0, hv0⟩ : ∃ v, v = valM m p := ⟨_, rfl⟩
  unfold valM cellsM at hv0
  obtain ⟨vI, hvI⟩ : ∃ v, v = Value.slice a n c := ⟨_, rfl⟩
  have HVI := Lib.hid hvI
  rw [← hvI] at hst
  unfold valM
  unfold cellsM
  clear hvI
  have q1 := bytesI_le _ hwf.mark
  have q2 := byT_len m.closed
  have q3 := bytesI_le _ hwf.held
  have q4 := bytesI_le _ hwf.kept
  have q5 := bytesI_le _ hwf.waiting
  clear hown hn
  go_enter Try.func56, Try.ntmps56
  go_wp2_with fail
  rw [← hw1, ← hgm, ← hv0]
  clear hw1 hgm hv0
  refine (hst.int m.mark hwf.mark (by omega)).mono ?_
  rintro e w2 ⟨a2, n2, k2, rfl, hst2⟩
  have d19 : w2.cell? ⟨gm, 19, none⟩ = some (.bool m.closed) := hst2.cell 19 (by rw [cellsM_len]; omega)
  clear hst
  go_wp2_with fail
  refine (rtruth_any m.closed w2).mono ?_
  rintro e _ ⟨rfl, rfl⟩
  have hown2 := hst2.2.1
  have hs2 := hst2.2.2.1.size
  have hn2 : n2 ≤ 100000000000010 := by rw [← hst2.1, List.length_append]; omega
  have HST := Lib.hid hst2
  obtain ⟨y, hy⟩ : ∃ y : Int, y = if m.closed then 1 else 0 := ⟨_, rfl⟩
  obtain ⟨u, hu⟩ : ∃ u : UInt8, u = if m.closed then 1 else 0 := ⟨_, rfl⟩
  have hyu : Value.int .u8 y = B u := by rw [hy, hu]; cases m.closed <;> rfl
  have hbu : byT m.closed = [u] := by rw [hu]; rfl
  rw [← hy]
  clear hst2 d19 hy hu
  have HYU := Lib.hid hyu
  have HBU := Lib.hid hbu
  clear hyu hbu
  go_wp2_with (first | (at_builtin; refine app_b1 w2 rfl _ _ rfl w0.heap.size (.slice a2 n2 k2) n2 _ rfl hown2 _ u HYU.out rfl (by omega) hs2 ?_; intro a3 c3 w3 hown3 hb3 hm3; (have hst3 := HST.out.moved (by rw [List.length_append, HST.out.1]; rfl) hown3 hb3 hm3.mv.alloc); rw [← HBU.out] at hst3; (have d20 : w3.cell? ⟨gm, 20, none⟩ = some (.int .i64 m.held) := hst3.cell 20 (by rw [cellsM_len]; omega)); clear hown2 hown3 hb3 hm3) | fail)
  refine (hst3.int m.held hwf.held (by simp only [List.length_append]; omega)).mono ?_
  rintro e w4 ⟨a4, n4, k4, rfl, hst4⟩
  have d21 : w4.cell? ⟨gm, 21, none⟩ = some (.int .i64 m.kept) := hst4.cell 21 (by rw [cellsM_len]; omega)
  clear hst3 d20
  go_wp2_with fail
  refine (hst4.int m.kept hwf.kept (by simp only [List.length_append]; omega)).mono ?_
  rintro e w5 ⟨a5, n5, k5, rfl, hst5⟩
  have d22 : w5.cell? ⟨gm, 22, none⟩ = some (.int .i64 m.waiting) := hst5.cell 22 (by rw [cellsM_len]; omega)
  clear hst4 d21
  go_wp2_with fail
  refine (hst5.int m.waiting hwf.waiting (by simp only [List.length_append]; omega)).mono ?_
  rintro e w6 ⟨a6, n6, k6, rfl, hst6⟩
  have d23 : w6.cell? ⟨gm, 23, none⟩ = some (.int .i64 m.parts) := hst6.cell 23 (by rw [cellsM_len]; omega)
  clear hst5 d22
  go_wp2_with fail
  refine (hst6.int m.parts hwf.parts (by simp only [List.length_append]; omega)).mono ?_
  rintro e w7 ⟨a7, n7, k7, rfl, hst7⟩
  go_wp2
  go_ret
  have hf := hst7.fin
  rw [HVI.out] at hf
  have hfin : l ++ bytesI m.mark ++ byT m.closed ++ bytesI m.held ++ bytesI m.kept ++ bytesI m.waiting ++ bytesI m.parts = l ++ encF "sluice/wire.sizes" m := by
    rw [show encF "sluice/wire.sizes" m = encSizes m from rfl, encSizes]
    simp [List.append_assoc]
  rw [hfin] at hf
  exact hf
/-- The reference's putField, for each of the ten. -/
theorem rfield_any (s : String) (hs : s ∈ tenL) (x : Int) (hx : x = ((letter s).toNat : Int)) (w0 : World) (l : List UInt8) (m : M) (p : Ps) (a : Option Addr) (n c : Nat) (w : World) (hwf : WfM m) (hh : 0 ≤ m.handle) (hl : l.length ≤ 100000000000000) (hn : l.length = n) (hown : w.ownsRow w0.heap.size 5 1 (.slice a n c) n (l.map B)) (hb : Below w0.heap.size w0 w) (hr : MRd w0 m p) :
    Calls Try.prog 56 #[.slice a n c, valM m p, .int .u8 x] w (PRF w0 w (.slice a n c) (l ++ encF s m)) := by
  subst hx
  simp only [tenL, List.mem_cons, List.not_mem_nil, or_false] at hs
  rcases hs with rfl | rfl | rfl | rfl | rfl | rfl | rfl | rfl | rfl | rfl
  · exact rf_number w0 l m p a n c w hwf hh hl hn hown hb hr
  · exact rf_handle w0 l m p a n c w hwf hh hl hn hown hb hr
  · exact rf_code w0 l m p a n c w hwf hh hl hn hown hb hr
  · exact rf_schema w0 l m p a n c w hwf hh hl hn hown hb hr
  · exact rf_query w0 l m p a n c w hwf hh hl hn hown hb hr
  · exact rf_image w0 l m p a n c w hwf hh hl hn hown hb hr
  · exact rf_event w0 l m p a n c w hwf hh hl hn hown hb hr
  · exact rf_match w0 l m p a n c w hwf hh hl hn hown hb hr
  · exact rf_sizes w0 l m p a n c w hwf hh hl hn hown hb hr
  · exact rf_fault w0 l m p a n c w hwf hh hl hn hown hb hr
end Go.Proofs.Ytaipnbpefdcejaa
