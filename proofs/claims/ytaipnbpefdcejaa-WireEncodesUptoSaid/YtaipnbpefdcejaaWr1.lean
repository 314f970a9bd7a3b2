/- The walks of the writer's small methods. -/
import Derived.Test.YtaipnbpefdcejaaEnc
import Derived.Lib.AppendStr
import Derived.Deep.RegionLaw
set_option linter.unusedVariables false
namespace Go.Proofs.Ytaipnbpefdcejaa
open Go.RowKit
/-- Only the row's own block was written; it stays or the row moves to a new one. -/
def Mv (w w' : World) (v v' : Value) : Prop := w.grownBy w' v.ownBlock ∧ (v'.ownBlock = v.ownBlock ∨ ∃ k, v'.ownBlock = some k ∧ w.heap.size ≤ k)
theorem Mv.refl (w : World) (v : Value) : Mv w w v v := ⟨World.grownBy.refl _ _, .inl rfl⟩
theorem Moved.mv {w w' : World} {v v' : Value} (h : Moved w w' v v') : Mv w w' v v' :=
  ⟨h.grown, by rcases h with ⟨h1, _⟩ | ⟨_, h1⟩; exact .inl h1; exact .inr ⟨_, h1, Nat.le_refl _⟩⟩
theorem Mv.trans {w1 w2 w3 : World} {v1 v2 v3 : Value} (h : Mv w1 w2 v1 v2) (g : Mv w2 w3 v2 v3) : Mv w1 w3 v1 v3 := by
  obtain ⟨h1, h2⟩ := h
  obtain ⟨g1, g2⟩ := g
  refine ⟨⟨g1.os.trans h1.os, g1.tape.trans h1.tape, g1.output.trans h1.output, Nat.le_trans h1.size g1.size, fun k hk hn => ?_⟩, ?_⟩
  · refine (g1.block k (Nat.lt_of_lt_of_le hk h1.size) ?_).trans (h1.block k hk hn)
    rcases h2 with h2 | ⟨j, h2, hj⟩
    · rw [h2]; exact hn
    · rw [h2]; intro e; cases e; omega
  · rcases g2 with g2 | ⟨j, g2, hj⟩
    · rw [g2]
      exact h2
    · exact .inr ⟨j, g2, Nat.le_trans h1.size hj⟩
theorem Mv.alloc {w w' : World} {v v' : Value} {o : Obj} (h : Mv (w.alloc o) w' v v') : Mv w w' v v' :=
  Mv.trans ⟨grown_alloc w o _, .inl rfl⟩ h
set_option maxRecDepth 20000 in
theorem put_mv (base k : Nat) (a : Option Addr) (c : Nat) (pre : List UInt8) (n : Nat) (w : World) (hn : n < 18446744073709551616) (hk : k ≤ 140737488355000) (hbase : base ≤ w.heap.size)
    (hown : w.ownsRow base 5 1 (.slice a k c) k (pre.map B)) :
    Calls Try.prog 41 #[.slice a k c, .int .u64 (n : Int)] w fun e w' => ∃ a' c', e = .returned (.slice a' (k + (bytesU n).length) c') ∧ w'.ownsRow base 5 1 (.slice a' (k + (bytesU n).length) c') (k + (bytesU n).length) ((pre ++ bytesU n).map B) ∧ Below base w w' ∧ Mv w w' (.slice a k c) (.slice a' (k + (bytesU n).length) c') := by
  have hlen := bytesU_len10 n hn
  go_enter Try.func41, Try.ntmps41
  go_wp2
  go_loopw [0, 1] (fun v i wr => ∃ (a1 : Option Addr) (c1 m N : Nat) (dn : List UInt8), v = .slice a1 m c1 ∧ i = .int .u64 (N : Int) ∧ N ≤ n ∧ pre ++ bytesU n = dn ++ bytesU N ∧ m + (bytesU N).length = k + (bytesU n).length ∧ wr.ownsRow base 5 1 v m (dn.map B) ∧ Below base w wr ∧ Mv w wr (.slice a k c) v) (fun _ i _ => (intOf i).toNat)
  case atStart => exact ⟨a, c, k, n, pre, rfl, rfl, Nat.le_refl _, rfl, rfl, hown, Below.refl _ _, Mv.refl _ _⟩
  case round =>
    obtain ⟨a1, c1, m, N, dn, rfl, rfl, hNn, hbs, hm, hown1, hbel, hmv⟩ := hrel
    have hs := hbel.size
    have HMV := Lib.hid hmv
    clear hmv
    by_cases hlt : N < 128
    · have hlt' : ¬ (128 : Int) ≤ N := by omega
      have hlow := bytesU_low hlt
      rw [hlow] at hbs hm
      have HBS := Lib.hid hbs
      have HM := Lib.hid hm
      have hmb : m ≤ 140737488355200 := by rw [List.length_singleton] at hm; omega
      have hy : Value.int .u8 (N : Int) = B (UInt8.ofNat N) := by rw [B, UInt8.toNat_ofNat']; congr 1; omega
      have HY := Lib.hid hy
      clear hbs hm hlow hlen hy
      go_wp2_with (first | (at_builtin; refine app_b1 wr rfl _ _ rfl base (.slice a1 m c1) m dn rfl hown1 _ (UInt8.ofNat N) HY.out rfl (by omega) (by omega) ?_; intro a2 c2 w2 hown2 hb2 hmv2) | fail)
      go_ret
      have hmv3 := HMV.out.trans hmv2.mv.alloc
      rw [show dn ++ [UInt8.ofNat N] = pre ++ bytesU n from HBS.out.symm] at hown2
      have hM := HM.out
      rw [List.length_singleton] at hM
      rw [hM] at hown2 hmv3 ⊢
      exact ⟨a2, c2, rfl, by simpa only [List.map_append] using hown2, hbel.trans hb2, hmv3⟩
    · have hlt' : (128 : Int) ≤ N := by omega
      have hhigh := bytesU_high hlt
      rw [hhigh] at hbs hm
      have HBS := Lib.hid hbs
      have HM := Lib.hid hm
      have hmb : m ≤ 140737488355200 := by rw [List.length_cons] at hm; omega
      have hy : Value.int .u8 (bits .or .u8 (IntKind.u8.wrap (N : Int)) 128) = B (UInt8.ofNat (N % 128 + 128)) := by rw [high_byte, B]
      have HY := Lib.hid hy
      clear hbs hm hhigh hlen hy
      go_wp2_with (first | (at_builtin; refine app_b1 wr rfl _ _ rfl base (.slice a1 m c1) m dn rfl hown1 _ (UInt8.ofNat (N % 128 + 128)) HY.out rfl (by omega) (by omega) ?_; intro a2 c2 w2 hown2 hb2 hmv2) | fail)
      go_wp2
      go_roundw
      case rel =>
        refine ⟨a2, c2, m + 1, N / 128, dn ++ [UInt8.ofNat (N % 128 + 128)], rfl, by go_num, by omega, by rw [HBS.out]; simp, ?_, hown2, hbel.trans hb2, HMV.out.trans hmv2.mv.alloc⟩
        have hM := HM.out
        rw [List.length_cons] at hM
        omega
      case measure => simp [intOf]; omega
/-- The writer in block g holds the bytes l, in a row of its own. -/
def Wr (base g : Nat) (l : List UInt8) (w : World) : Prop :=
  base ≤ g ∧ ∃ a c, Blk w g 86 [.slice a l.length c] ∧ w.ownsRow base 5 1 (.slice a l.length c) l.length (l.map B) ∧ (Value.slice a l.length c).ownBlock ≠ some g
def WPost (w0 : World) (g : Nat) (l : List UInt8) (e : Ending) (w' : World) : Prop := e = .returned (.tuple #[]) ∧ Wr w0.heap.size g l w' ∧ Below w0.heap.size w0 w'
/-- A block that is neither the writer nor its row. -/
def Off (g k : Nat) (w : World) : Prop := k ≠ g ∧ ∀ v, w.cell? ⟨g, 0, none⟩ = some v → v.ownBlock ≠ some k
/-- Nothing but the writer and its row was written. -/
def Fr (g : Nat) (w w' : World) : Prop := w.heap.size ≤ w'.heap.size ∧ ∀ k, k < w.heap.size → Off g k w → w'.heap[k]? = w.heap[k]? ∧ Off g k w'
theorem Fr.trans {g : Nat} {w1 w2 w3 : World} (h : Fr g w1 w2) (h' : Fr g w2 w3) : Fr g w1 w3 :=
  ⟨Nat.le_trans h.1 h'.1, fun k hk ho => ⟨(h'.2 k (Nat.lt_of_lt_of_le hk h.1) (h.2 k hk ho).2).1.trans (h.2 k hk ho).1, (h'.2 k (Nat.lt_of_lt_of_le hk h.1) (h.2 k hk ho).2).2⟩⟩
theorem Fr.blk {g k : Nat} {w w' : World} {t : TypeId} {cs : List Value} (h : Fr g w w') (hk : Blk w k t cs) (ho : Off g k w) : Blk w' k t cs ∧ Off g k w' := by
  obtain ⟨h1, h2⟩ := h.2 k hk.lt ho
  exact ⟨by unfold Blk; rw [h1]; exact hk, h2⟩
def WPostF (w0 : World) (g : Nat) (l : List UInt8) (w : World) (e : Ending) (w' : World) : Prop := WPost w0 g l e w' ∧ Fr g w w'
/-- The row has moved, and stands in the writer again. -/
theorem wr_stored {w0 w w1 : World} {g k0 : Nat} {l l' : List UInt8} {a a' : Option Addr} {c c' n : Nat} (hkl : k0 = l.length) (hb0 : Below w0.heap.size w0 w) (hg : w0.heap.size ≤ g) (hk : Blk w g 86 [.slice a l.length c]) (hne : (Value.slice a l.length c).ownBlock ≠ some g)
    (hn : l'.length = n) (hown : w1.ownsRow w0.heap.size 5 1 (.slice a' n c') n (l'.map B)) (hb : Below w0.heap.size w w1) (hm : Mv w w1 (.slice a k0 c) (.slice a' n c')) :
    Blk w1 g 86 [.slice a k0 c] ∧ WPostF w0 g l' w (.returned (.tuple #[])) (w1.setCell ⟨g, 0, none⟩ (.slice a' n c')) := by
  subst hn; subst hkl
  have hk1 := hk.kept hm.1 (fun e => hne e.symm)
  have hs := hk1.setCell 0 (.slice a' l'.length c')
  have hne' : (Value.slice a' l'.length c').ownBlock ≠ some g := by
    rcases hm.2 with h | ⟨k, h, hk2⟩
    · rw [h]; exact hne
    · rw [h]; intro e; cases e; have := hk.lt; omega
  refine ⟨hk1, ⟨rfl, ⟨hg, a', c', hs.1, hown.kept hs.2 (.inr hne'), hne'⟩, ?_⟩, Nat.le_trans hm.1.size hs.2.size, fun k hk3 ho => ?_⟩
  · exact (hb0.trans hb).grown hs.2 (Nat.le_trans hb0.size hb.size) (fun k hk => by cases hk; exact hg)
  · have hc := hk.cell 0 (by simp)
    have h1 := ho.2 _ hc
    simp only [List.getElem_cons_zero] at h1
    refine ⟨(hs.2.block k (Nat.lt_of_lt_of_le hk3 hm.1.size) (fun e => ho.1 (by cases e; rfl))).trans (hm.1.block k hk3 (fun e => h1 e.symm)), ho.1, fun v hv => ?_⟩
    have hc2 := hs.1.cell 0 (by simp)
    simp only [List.set_cons_zero, List.getElem_cons_zero] at hc2
    rw [hc2] at hv
    cases hv
    rcases hm.2 with h | ⟨j, h, hj⟩
    · rw [h]; exact h1
    · rw [h]; intro e; cases e; omega
theorem wr_uintF (w0 : World) (g : Nat) (l : List UInt8) (x : Int) (n : Nat) (w : World) (hx : x = (n : Int)) (hn : n < 18446744073709551616) (hl : l.length ≤ 140737488355000) (hb0 : Below w0.heap.size w0 w) (h : Wr w0.heap.size g l w) :
    Calls Try.prog 104 #[.pointer (some ⟨g, 0, none⟩), .int .u64 x] w (WPostF w0 g (l ++ bytesU n) w) := by
  subst hx
  obtain ⟨hg, a, c, hk, hown, hne⟩ := h
  have hc := hk.cell 0 (by simp)
  have hf := hk.frozen 0
  have hs0 := hb0.size
  simp only [List.getElem_cons_zero] at hc
  obtain ⟨k, hkl⟩ : ∃ k, k = l.length := ⟨_, rfl⟩
  have hln : (l ++ bytesU n).length = k + (bytesU n).length := by rw [List.length_append, hkl]
  have HK := Lib.hid hk
  have HNE := Lib.hid hne
  have HB0 := Lib.hid hb0
  have HLN := Lib.hid hln
  have HKL := Lib.hid hkl
  rw [← hkl] at hc hown hl
  clear hk hne hb0 hln hkl
  go_enter Try.func104, Try.ntmps104
  go_wp2_with fail
  refine (put_mv w0.heap.size k a c l n w hn hl hs0 hown).mono ?_
  rintro e w1 ⟨a1, c1, rfl, hown1, hb1, hm1⟩
  obtain ⟨hk1, hp⟩ := wr_stored HKL.out HB0.out hg HK.out HNE.out HLN.out hown1 hb1 hm1
  have hc1 := hk1.cell 0 (by simp)
  have hf1 := hk1.frozen 0
  simp only [List.getElem_cons_zero] at hc1
  have HP := Lib.hid hp
  clear hk1 hp hown1 hb1 hm1 hc hf hown
  go_wp2
  go_end0
  exact HP.out
set_option maxRecDepth 20000 in
theorem wr_intF (w0 : World) (g : Nat) (l : List UInt8) (i : Int) (w : World) (hi : I64 i) (hl : l.length ≤ 140737488355000) (hb0 : Below w0.heap.size w0 w) (h : Wr w0.heap.size g l w) :
    Calls Try.prog 98 #[.pointer (some ⟨g, 0, none⟩), .int .i64 i] w (WPostF w0 g (l ++ bytesI i) w) := by
  obtain ⟨hg, a, c, hk, hown, hne⟩ := h
  have hc := hk.cell 0 (by simp)
  have hf := hk.frozen 0
  have hs0 := hb0.size
  simp only [List.getElem_cons_zero] at hc
  obtain ⟨k, hkl⟩ : ∃ k, k = l.length := ⟨_, rfl⟩
  have hln : (l ++ bytesI i).length = k + (bytesU (zig i)).length := by rw [List.length_append, hkl]; rfl
  have hz := zig_lt i hi
  have HK := Lib.hid hk
  have HNE := Lib.hid hne
  have HB0 := Lib.hid hb0
  have HLN := Lib.hid hln
  have HKL := Lib.hid hkl
  rw [← hkl] at hc hown hl
  clear hk hne hb0 hln hkl
  go_enter Try.func98, Try.ntmps98
  go_wp2
  go_region_with (first | (go_at_call 42; refine (zigzag_any i _ hi).mono ?_; rintro e _ ⟨rfl, rfl⟩) | (go_at_call 41; refine (put_mv w0.heap.size k a c l (zig i) _ hz hl ?_ ?_).mono ?_; exact hs0; exact hown; rintro e w1 ⟨a1, c1, rfl, hown1, hb1, hm1⟩; obtain ⟨hk1, hp⟩ := wr_stored HKL.out HB0.out.drew hg HK.out HNE.out HLN.out hown1 hb1 hm1; have hc1 := hk1.cell 0 (by simp); have hf1 := hk1.frozen 0; simp only [List.getElem_cons_zero] at hc1; have HP := Lib.hid hp; clear hk1 hp hown1 hb1 hm1))
  all_goals go_end0
  all_goals exact HP.out
theorem wr_truthF (w0 : World) (g : Nat) (l : List UInt8) (t : Bool) (w : World) (hl : l.length ≤ 140737488355000) (hb0 : Below w0.heap.size w0 w) (h : Wr w0.heap.size g l w) :
    Calls Try.prog 105 #[.pointer (some ⟨g, 0, none⟩), .bool t] w (WPostF w0 g (l ++ byT t) w) := by
  obtain ⟨hg, a, c, hk, hown, hne⟩ := h
  have hc := hk.cell 0 (by simp)
  have hf := hk.frozen 0
  have hs0 := hb0.size
  simp only [List.getElem_cons_zero] at hc
  obtain ⟨k, hkl⟩ : ∃ k, k = l.length := ⟨_, rfl⟩
  have hln : (l ++ byT t).length = k + 1 := by rw [List.length_append, hkl]; rfl
  have HK := Lib.hid hk
  have HNE := Lib.hid hne
  have HB0 := Lib.hid hb0
  have HLN := Lib.hid hln
  have HKL := Lib.hid hkl
  rw [← hkl] at hc hown hl
  clear hk hne hb0 hln hkl
  cases t
  · go_enter Try.func105, Try.ntmps105
    go_wp2_with (first | (at_builtin; refine app_b1 w rfl _ _ rfl w0.heap.size (.slice a k c) k l rfl hown _ 0 rfl rfl (by omega) (by omega) ?_; intro a1 c1 w1 hown1 hb1 hm1; have hm1 := hm1.mv.alloc; obtain ⟨hk1, hp⟩ := wr_stored HKL.out HB0.out hg HK.out HNE.out HLN.out hown1 hb1 hm1; have hc1 := hk1.cell 0 (by simp); have hf1 := hk1.frozen 0; simp only [List.getElem_cons_zero] at hc1; have HP := Lib.hid hp; clear hk1 hp hown1 hb1 hm1) | fail)
    go_end0
    exact HP.out
  · go_enter Try.func105, Try.ntmps105
    go_wp2_with (first | (at_builtin; refine app_b1 w rfl _ _ rfl w0.heap.size (.slice a k c) k l rfl hown _ 1 rfl rfl (by omega) (by omega) ?_; intro a1 c1 w1 hown1 hb1 hm1; have hm1 := hm1.mv.alloc; obtain ⟨hk1, hp⟩ := wr_stored HKL.out HB0.out hg HK.out HNE.out HLN.out hown1 hb1 hm1; have hc1 := hk1.cell 0 (by simp); have hf1 := hk1.frozen 0; simp only [List.getElem_cons_zero] at hc1; have HP := Lib.hid hp; clear hk1 hp hown1 hb1 hm1) | fail)
    go_end0
    exact HP.out
theorem wr_uint (w0 : World) (g : Nat) (l : List UInt8) (x : Int) (n : Nat) (w : World) (hx : x = (n : Int)) (hn : n < 18446744073709551616) (hl : l.length ≤ 140737488355000) (hb0 : Below w0.heap.size w0 w) (h : Wr w0.heap.size g l w) :
    Calls Try.prog 104 #[.pointer (some ⟨g, 0, none⟩), .int .u64 x] w (WPost w0 g (l ++ bytesU n)) := (wr_uintF w0 g l x n w hx hn hl hb0 h).mono fun _ _ h => h.1
theorem wr_int (w0 : World) (g : Nat) (l : List UInt8) (i : Int) (w : World) (hi : I64 i) (hl : l.length ≤ 140737488355000) (hb0 : Below w0.heap.size w0 w) (h : Wr w0.heap.size g l w) :
    Calls Try.prog 98 #[.pointer (some ⟨g, 0, none⟩), .int .i64 i] w (WPost w0 g (l ++ bytesI i)) := (wr_intF w0 g l i w hi hl hb0 h).mono fun _ _ h => h.1
theorem wr_truth (w0 : World) (g : Nat) (l : List UInt8) (t : Bool) (w : World) (hl : l.length ≤ 140737488355000) (hb0 : Below w0.heap.size w0 w) (h : Wr w0.heap.size g l w) :
    Calls Try.prog 105 #[.pointer (some ⟨g, 0, none⟩), .bool t] w (WPost w0 g (l ++ byT t)) := (wr_truthF w0 g l t w hl hb0 h).mono fun _ _ h => h.1
/-- Bytes of a slice or of a string behind the writer's. -/
theorem strCells_B (s : ByteArray) : Lib.strCells s = s.data.toList.map B := rfl
theorem run_append_str (w : World) (base : Nat) (ty : TypeId) (v : Value) (n : Nat) (xs : List Value) (hown : w.ownsRow base 5 1 v n xs) (s : ByteArray) (hbytes : n + s.size ≤ 140737488355328) (hbase : base ≤ w.heap.size) :
    ∃ a' c' w', (Builtin.append_ #[23, 9] ty #[v, .string s]).run Try.prog w = .ok (.slice a' (n + s.size) c') w' ∧ w'.ownsRow base 5 1 (.slice a' (n + s.size) c') (n + s.size) (xs ++ Lib.strCells s) ∧ Moved w w' v (.slice a' (n + s.size) c') := by
  obtain ⟨i, hi, hz, hsize, hby⟩ := info_parts info5
  have ht := Try.underlying23
  have hu := Try.underlying9
  have h63 : n + s.size ≤ maxLen := by unfold maxLen; omega
  have hxl : xs.length = n := by simpa using hown.1
  have hlen : (xs ++ Lib.strCells s).length = (n + s.size) * 1 := by rw [List.length_append, hxl, Lib.strCells_length, Nat.mul_one]
  have grown : ∀ (old : Nat), old < n + s.size → ∀ (row : Option Nat),
      (w.drew.alloc (.cells (xs.toArray ++ (Lib.strCells s).toArray ++ Builtin.zeroCells (Value.int .u8 0).cells (grownCap w (n + s.size) old 5 - (n + s.size))) 5)).ownsRow base 5 1
        (.slice (some ⟨w.heap.size, 0, none⟩) (n + s.size) (grownCap w (n + s.size) old 5)) (n + s.size) (xs ++ Lib.strCells s) ∧
      w.grownBy (w.drew.alloc (.cells (xs.toArray ++ (Lib.strCells s).toArray ++ Builtin.zeroCells (Value.int .u8 0).cells (grownCap w (n + s.size) old 5 - (n + s.size))) 5)) row := by
    intro old ho row
    have hge := grownCap_ge w (n + s.size) old 5
    have hcm : grownCap w (n + s.size) old 5 ≤ maxLen := grownCap_le_maxLen w (n + s.size) old 5 h63
    refine ⟨⟨hlen, .inr ⟨w.heap.size, _, _, rfl, hbase, heap_alloc_new w.drew _, hge, hcm, ?_, ?_⟩⟩, ⟨rfl, rfl, rfl, by simp, fun k hk _ => Go.heap_alloc_old w.drew _ hk⟩⟩
    · have hz1 : (Value.int IntKind.u8 0).cells.size = 1 := rfl
      simp only [Array.size_append, List.size_toArray, size_zeroCells, hz1, hxl, Lib.strCells_length]
      omega
    · simp only [Array.toList_append, List.append_assoc]
      rw [← List.append_assoc, ← hlen]
      exact List.take_left
  rcases hown.2 with ⟨rfl, rfl⟩ | ⟨g, cap, cur, rfl, hbg, hg, hnc, hcm, hcs, htake⟩
  · have hx : xs = [] := List.eq_nil_of_length_eq_zero hxl
    subst hx
    by_cases hm : s.size = 0
    · have hn : Lib.strCells s = [] := List.eq_nil_of_length_eq_zero (by rw [Lib.strCells_length]; exact hm)
      have hf := Lib.run_firstCells_string (P := Try.prog) w 1 s
      rw [hm] at hf
      refine ⟨none, 0, w, ?_, by rw [hm, hn]; exact World.ownsRow_nil w base 5 1, .inl ⟨rfl, World.grownBy.refl _ _⟩⟩
      simp [Builtin.append_, run_underlying ht, run_underlying hu, sizeOf, typeInfo, hi, hsize, Builtin.lenOf, hm, hf]
    · have hr := run_append_nil_string (P := Try.prog) w 23 9 ty 5 i (.int .u8 0) ht hu hi hz s (by omega) (by omega) (by rw [hby]; omega)
      have hgr := grown 0 (by omega) none
      simp only [Nat.zero_add, List.nil_append, Array.empty_append] at hgr ⊢
      have e1 : (s.data.map fun b => Value.int .u8 b.toNat) = (Lib.strCells s).toArray := by
        apply Array.ext'
        simp [Lib.strCells]
      rw [e1] at hr
      exact ⟨_, _, _, hr, hgr.1, .inr ⟨hgr.2, rfl⟩⟩
  · by_cases hroom : n + s.size ≤ cap
    · have hcs' : cur.size = cap := by simpa using hcs
      have hr := Lib.run_append_room_string (P := Try.prog) w 23 9 ty 5 i ht hu hi hsize g n cap cur hg s hroom (by omega)
      refine ⟨_, _, _, hr, ⟨hlen, .inr ⟨g, cap, _, rfl, hbg, setRow_heap w g cur _ 5 _ hg, hroom, hcm, ?_, ?_⟩⟩, .inl ⟨rfl, ⟨rfl, rfl, rfl, by simp, fun k _ hk => setRow_other w g k _ (fun e => hk (by simp [Value.ownBlock, e]))⟩⟩⟩
      · simp only [List.size_toArray, List.length_append, List.length_take, List.length_drop, Array.length_toList, Lib.strCells_length]
        omega
      · have ht' : cur.toList.take n = xs := by simpa using htake
        rw [ht', ← hlen]
        exact List.take_left
    · have holds : ∀ j u, xs[j]? = some u → w.cell? ((⟨g, 0, none⟩ : Addr).add j) = some u := hown.cells (g := g) rfl
      have hr := Lib.run_append_grow_string (P := Try.prog) w 23 9 ty 5 i (.int .u8 0) ht hu hi hz ⟨g, 0, none⟩ n cap xs (by rw [hsize]; simpa using hxl) holds s (by omega) (by omega) (by rw [hby]; exact growslice_fits (by omega) (by omega))
      have hgr := grown cap (by omega) none
      exact ⟨_, _, _, hr, hgr.1, .inr ⟨hgr.2, rfl⟩⟩
theorem app_s (w : World) {ops : Array Oper} {rest : List Oper} {o : Oper} {a : Act} {Q : Exit → Act → World → Prop} (hgd : o.guard = none) (sl x : Operand)
    (ho : o.op = .call { callee := .builtin .append, args := #[sl, x], argTypes := #[23, 9] }) (base : Nat) (b : Option Addr) (n c : Nat) (l1 : List UInt8) (hs : a.eval sl = .slice b n c) (hown : w.ownsRow base 5 1 (.slice b n c) n (l1.map B))
    (s : ByteArray) (hx : a.eval x = .string s) (hb : n + s.size ≤ 140737488355328) (hbase : base ≤ w.heap.size)
    (h : ∀ a' c' w', w'.ownsRow base 5 1 (.slice a' (n + s.size) c') (n + s.size) ((l1 ++ s.data.toList).map B) → Below base w w' → Mv w w' (.slice b n c) (.slice a' (n + s.size) c') →
      wpList Try.prog ops Q rest (a.put o.dst (.slice a' (n + s.size) c')) w') : wpList Try.prog ops Q (o :: rest) a w := by
  refine wpList_plain hgd fun K hK => ?_
  obtain ⟨a', c', w', hr, h2, h3⟩ := run_append_str w base o.type _ n _ hown s hb hbase
  unfold Oper.wp execOp
  simp only [ho, resolve, invoke, builtin, Sem.run_bind, Sem.run_pure, Result.andThen_ok, List.map_toArray, List.map_cons, List.map_nil, hs, hx, hr]
  rw [strCells_B, ← List.map_append] at h2
  exact hK _ _ (h a' c' w' h2 (h3.below (fun k hk => (hown.lt k hk).1) hbase) h3.mv)
theorem wr_text (w0 : World) (g : Nat) (l : List UInt8) (s : ByteArray) (w : World) (hs : s.size ≤ 1073741824) (hl : l.length ≤ 140700000000000) (hb0 : Below w0.heap.size w0 w) (h : Wr w0.heap.size g l w) :
    Calls Try.prog 106 #[.pointer (some ⟨g, 0, none⟩), .string s] w (WPostF w0 g (l ++ encText s) w) := by
  go_enter Try.func106, Try.ntmps106
  go_wp2_with fail
  refine (wr_uintF w0 g l _ s.size w rfl (by omega) (by omega) hb0 h).mono ?_
  rintro e w1 ⟨⟨rfl, ⟨hg, a, c, hk, hown, hne⟩, hb1⟩, hf1⟩
  have HFR := Lib.hid hf1
  clear hf1
  have h10 := bytesU_le s.size (by omega)
  obtain ⟨l1, hl1⟩ : ∃ l1, l1 = l ++ bytesU s.size := ⟨_, rfl⟩
  have hl1b : l1.length ≤ 140711111111111 := by rw [hl1, List.length_append]; omega
  rw [← hl1] at hk hown hne
  have hfin : l ++ encText s = l1 ++ s.data.toList := by rw [hl1, encText, List.append_assoc]
  have hc := hk.cell 0 (by simp)
  have hf := hk.frozen 0
  have hs0 := hb1.size
  simp only [List.getElem_cons_zero] at hc
  obtain ⟨k, hkl⟩ : ∃ k, k = l1.length := ⟨_, rfl⟩
  have hln : (l1 ++ s.data.toList).length = k + s.size := by rw [List.length_append, hkl, Array.length_toList]; rfl
  have HK := Lib.hid hk
  have HNE := Lib.hid hne
  have HB0 := Lib.hid hb1
  have HLN := Lib.hid hln
  have HKL := Lib.hid hkl
  have HF := Lib.hid hfin
  rw [← hkl] at hc hown hl1b
  clear hk hne hb1 hln hkl hl1 hfin hb0 h
  go_wp2_with (first | (at_builtin; refine app_s w1 rfl _ _ rfl w0.heap.size a k c l1 rfl hown s rfl (by omega) hs0 ?_; intro a1 c1 w2 hown1 hb1 hm1; obtain ⟨hk1, hp⟩ := wr_stored HKL.out HB0.out hg HK.out HNE.out HLN.out hown1 hb1 hm1; have hc1 := hk1.cell 0 (by simp); have hf1 := hk1.frozen 0; simp only [List.getElem_cons_zero] at hc1; have HP := Lib.hid hp; clear hk1 hp hown1 hb1 hm1) | fail)
  go_end0
  rw [HF.out]
  exact ⟨HP.out.1, HFR.out.trans HP.out.2⟩
theorem Wr.fr {base g : Nat} {l : List UInt8} {w : World} (h : Wr base g l w) (o : Obj) : Fr g w (w.alloc o) := by
  obtain ⟨hg, a, c, hk, hown, hne⟩ := h
  have hb := (Below.refl w.heap.size w).alloc (Nat.le_refl _) o
  refine ⟨hb.size, fun k hk2 ho => ⟨hb.block k hk2, ho.1, fun v hv => ho.2 v ?_⟩⟩
  rw [World.cell?_of_block (w := w) (hb.block g hk.lt)] at hv
  exact hv
theorem Fr.refl (g : Nat) (w : World) : Fr g w w := ⟨Nat.le_refl _, fun _ _ h => ⟨rfl, h⟩⟩
#print axioms wr_text
end Go.Proofs.Ytaipnbpefdcejaa
