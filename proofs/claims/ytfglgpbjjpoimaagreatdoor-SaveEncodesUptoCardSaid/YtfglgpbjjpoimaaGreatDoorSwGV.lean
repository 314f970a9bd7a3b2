/- SaveEncodes: the program's writer of bytes: count, number, flag. -/
import Derived.Test.YtfglgpbjjpoimaaGreatDoorSwGU
import Derived.Lib.AppendStr
import Derived.Deep.CutBlock
set_option linter.unusedVariables false
namespace Go.Proofs.YtfglgpbjjpoimaaGreatDoor
open Go.RowKit Sv
/-- The writer in block g holds the bytes l, in a row of its own. -/
def Bt (base g : Nat) (l : List UInt8) (w : World) : Prop :=
 base ≤ g ∧ ∃ a c n, l.length = n ∧ Blk w g 73 [.slice a n c] ∧ w.ownsRow base 5 1 (.slice a n c) n (l.map B) ∧ (Value.slice a n c).ownBlock ≠ some g
theorem Bt.lt {base g : Nat} {l : List UInt8} {w : World} (h : Bt base g l w) : g < w.heap.size := by
 obtain ⟨_, a, c, n, _, hk, _⟩ := h
 exact hk.lt
theorem Bt.below {base g : Nat} {l : List UInt8} {w w' : World} (h : Bt base g l w) (hb : Below w.heap.size w w') : Bt base g l w' := by
 obtain ⟨h1, a, c, n, hn, hk, ho, hne⟩ := h
 exact ⟨h1, a, c, n, hn, hk.below hb, ownsRow_below ho hb, hne⟩
theorem Bt.off {base g : Nat} {l : List UInt8} {w w' : World} (h : Bt base g l w) (hb : Below w.heap.size w w') (k : Nat) (hk : w.heap.size ≤ k) : Off g k w' := by
 have hlt := h.lt
 obtain ⟨h1, a, c, n, hn, hkk, ho, hne⟩ := h
 refine ⟨by omega, fun v hv => ?_⟩
 rw [(hkk.below hb).cell 0 (by simp)] at hv
 cases hv
 intro e
 have := (ho.lt k e).2
 omega
def BtP (base g : Nat) (l : List UInt8) (w w' : World) : Prop := Bt base g l w' ∧ Below base w w' ∧ Fr g w w'
theorem BtP.trans {base g : Nat} {l l' : List UInt8} {w w1 w2 : World} (h : BtP base g l w w1) (h' : BtP base g l' w1 w2) : BtP base g l' w w2 := ⟨h'.1, h.2.1.trans h'.2.1, h.2.2.trans h'.2.2⟩
theorem BtP.refl {base g : Nat} {l : List UInt8} {w : World} (h : Bt base g l w) : BtP base g l w w := ⟨h, Below.refl _ _, Fr.refl _ _⟩
theorem BtP.of {base g : Nat} {l : List UInt8} {w w' : World} (h : Bt base g l w) (hb : base ≤ w.heap.size) (hbb : Below w.heap.size w w') : BtP base g l w w' := ⟨h.below hbb, hbb.mono hb, Fr.below h.lt hbb⟩
theorem bt_stored {base g : Nat} {l' : List UInt8} {w w1 : World} {a a' : Option Addr} {c c' n n' : Nat} (hb : base ≤ w.heap.size) (hg : base ≤ g) (hk : Blk w g 73 [.slice a n c]) (hne : (Value.slice a n c).ownBlock ≠ some g)
  (hl : l'.length = n') (hown : w1.ownsRow base 5 1 (.slice a' n' c') n' (l'.map B)) (hbb : Below base w w1) (hm : Mv w w1 (.slice a n c) (.slice a' n' c')) :
  Blk w1 g 73 [.slice a n c] ∧ BtP base g l' w (w1.setCell ⟨g, 0, none⟩ (.slice a' n' c')) := by
 have hk1 := hk.kept hm.1 (fun e => hne e.symm)
 have hs := hk1.setCell 0 (.slice a' n' c')
 have hne' : (Value.slice a' n' c').ownBlock ≠ some g := by
  rcases hm.2 with h | ⟨k, h, hk2⟩
  ·rw [h]; exact hne
  ·rw [h]; intro e; cases e; have := hk.lt; omega
 refine ⟨hk1, ⟨hg, a', c', n', hl, hs.1, hown.kept hs.2 (.inr hne'), hne'⟩, ?_, Nat.le_trans hm.1.size hs.2.size, fun k hk3 ho => ?_⟩
 ·exact hbb.grown hs.2 (Nat.le_trans hb hbb.size) (fun k hk => by cases hk; exact hg)
 ·have hc := hk.cell 0 (by simp)
  have h1 := ho.2 _ hc
  simp only [List.getElem_cons_zero] at h1
  refine ⟨(hs.2.block k (Nat.lt_of_lt_of_le hk3 hm.1.size) (fun e => ho.1 (by cases e; rfl))).trans (hm.1.block k hk3 (fun e => h1 e.symm)), ho.1, fun v hv => ?_⟩
  have hc2 := hs.1.cell 0 (by simp)
  simp only [List.set_cons_zero, List.getElem_cons_zero] at hc2
  rw [hc2] at hv
  cases hv
  rcases hm.2 with h | ⟨j, h, hj⟩
  ·rw [h]; exact h1
  ·rw [h]; intro e; cases e; omega
theorem mv_alloc {w w' : World} {v v' : Value} {o : Obj} (h : Mv (w.alloc o) w' v v') : Mv w w' v v' := by
 obtain ⟨⟨h1, h2, h3, h4, h5⟩, h6⟩ := h
 have hs : (w.alloc o).heap.size = w.heap.size + 1 := by show Array.size (Array.push _ _) = _; simp
 refine ⟨⟨h1, h2, h3, by omega, fun k hk hn => ?_⟩, ?_⟩
 ·rw [h5 k (by omega) hn]
  exact (bal (Below.refl w.heap.size w) (Nat.le_refl _) o).block k hk
 ·rcases h6 with h | ⟨k, h, hk⟩
  ·exact .inl h
  ·exact .inr ⟨k, h, by omega⟩
set_option maxHeartbeats 1000000 in
set_option maxRecDepth 20000 in
theorem wcount_any (base g n : Nat) (l : List UInt8) (w : World) (hn : n < 18446744073709551616) (hl : l.length ≤ 100000000000000) (hb : base ≤ w.heap.size) (h : Bt base g l w) :
  Calls Tryz.prog 23 #[.pointer (some ⟨g, 0, none⟩), .int .u64 (n : Int)] w fun e w' => e = .returned (.tuple #[]) ∧ BtP base g (l ++ bytesU n) w w' := by
 have HLEN := Lib.hid (bytesU_len10 n hn)
 have HB := Lib.hid hb
 have HL := Lib.hid hl
 have HH := Lib.hid h
 clear hb h hl
 go_enter Tryz.func23, Tryz.ntmps23
 go_wp2_with fail
 go_loopw [1] (fun i wr => ∃ (N : Nat) (dn : List UInt8), i = .int .u64 (N : Int) ∧ N ≤ n ∧ l ++ bytesU n = dn ++ bytesU N ∧ dn.length ≤ l.length + 10 ∧ BtP base g dn w wr) (fun i _ => (intOf i).toNat)
 case atStart => exact ⟨n, l, rfl, Nat.le_refl _, rfl, by omega, BtP.refl HH.out⟩
 case round =>
  obtain ⟨N, dn, rfl, hNn, hbs, hdl, hbt⟩ := hrel
  have HBT := Lib.hid hbt
  have HBS := Lib.hid hbs
  obtain ⟨hg, a, c, m, hm, hk, hown, hne⟩ := hbt.1
  have hc := hk.ci 0 rfl
  have hf := hk.frozen 0
  have hbr : base ≤ wr.heap.size := Nat.le_trans HB.out hbt.2.1.size
  have hmb : m ≤ 100000000000010 := by have := HL.out; omega
  have HK := Lib.hid hk
  have HNE := Lib.hid hne
  have HG := Lib.hid hg
  have HM := Lib.hid hm
  clear hbt hbs hk hne hg hm
  by_cases hlt : N < 128
  ·have hlt' : ¬ (128 : Int) ≤ N := by omega
   have hlow := bytesU_low hlt
   have HY := Lib.hid (show Value.int .u8 (N : Int) = B (UInt8.ofNat N) by rw [B, UInt8.toNat_ofNat']; congr 1; omega)
   have HFIN := Lib.hid (show l ++ bytesU n = dn ++ [UInt8.ofNat N] by rw [HBS.out, hlow])
   have HLN := Lib.hid (show (dn ++ [UInt8.ofNat N]).length = m + 1 by rw [List.length_append, HM.out]; rfl)
   clear hlow
   go_wp2_with (first | (at_builtin; refine app_b1 wr rfl _ _ rfl base (.slice a m c) m dn rfl hown _ (UInt8.ofNat N) HY.out rfl (by omega) hbr ?_; intro a2 c2 w2 hown2 hb2 hmv2; (obtain ⟨hk1, hp⟩ := bt_stored hbr HG.out HK.out HNE.out HLN.out hown2 hb2 (mv_alloc hmv2.mv)); (have hc1 := hk1.ci 0 rfl); (have hf1 := hk1.frozen 0); (have HP := Lib.hid hp); clear hp hk1 hown2 hb2 hmv2 hc hf) | fail)
   go_end0
   exact ⟨rfl, by rw [HFIN.out]; exact HBT.out.trans HP.out⟩
  ·have hlt' : (128 : Int) ≤ N := by omega
   have hhigh := bytesU_high hlt
   have HY := Lib.hid (show Value.int .u8 (bits .or .u8 (IntKind.u8.wrap (N : Int)) 128) = B (UInt8.ofNat (N % 128 + 128)) by rw [high_byte, B])
   have HFIN := Lib.hid (show l ++ bytesU n = dn ++ [UInt8.ofNat (N % 128 + 128)] ++ bytesU (N / 128) by rw [HBS.out, hhigh]; simp)
   have HLN := Lib.hid (show (dn ++ [UInt8.ofNat (N % 128 + 128)]).length = m + 1 by rw [List.length_append, HM.out]; rfl)
   have HDL := Lib.hid (show (dn ++ [UInt8.ofNat (N % 128 + 128)]).length ≤ l.length + 10 by
    have h1 := HLEN.out
    have h2 := congrArg List.length HFIN.out
    simp only [List.length_append] at h2 ⊢
    omega)
   clear hhigh
   go_wp2_with (first | (at_builtin; refine app_b1 wr rfl _ _ rfl base (.slice a m c) m dn rfl hown _ (UInt8.ofNat (N % 128 + 128)) HY.out rfl (by omega) hbr ?_; intro a2 c2 w2 hown2 hb2 hmv2; (obtain ⟨hk1, hp⟩ := bt_stored hbr HG.out HK.out HNE.out HLN.out hown2 hb2 (mv_alloc hmv2.mv)); (have hc1 := hk1.ci 0 rfl); (have hf1 := hk1.frozen 0); (have HP := Lib.hid hp); clear hp hk1 hown2 hb2 hmv2 hc hf) | fail)
   go_roundw
   case rel => exact ⟨N / 128, dn ++ [UInt8.ofNat (N % 128 + 128)], by go_num, by omega, HFIN.out, HDL.out, HBT.out.trans HP.out⟩
   case measure => simp [intOf]; omega
theorem wnumber_any (base g : Nat) (i : Int) (l : List UInt8) (w : World) (hi : I64' i) (hl : l.length ≤ 100000000000000) (hb : base ≤ w.heap.size) (h : Bt base g l w) :
  Calls Tryz.prog 24 #[.pointer (some ⟨g, 0, none⟩), .int .i64 i] w fun e w' => e = .returned (.tuple #[]) ∧ BtP base g (l ++ bytesI i) w w' := by
 have hc := wcount_any base g (zig i) l w (zig_lt i hi) hl hb h
 have hz := zig_bits i hi
 rw [← hz] at hc
 have HC := Lib.hid hc
 clear hc hz h
 go_enter Tryz.func24, Tryz.ntmps24
 go_wp2_with fail
 refine (HC.out).mono ?_
 rintro e w2 ⟨rfl, hp⟩
 have HP := Lib.hid hp
 clear hp
 go_wp2_with fail
 go_end0
 exact ⟨rfl, HP.out⟩
set_option maxHeartbeats 1000000 in
theorem wflag_any (base g : Nat) (b : Bool) (l : List UInt8) (w : World) (hl : l.length ≤ 100000000000000) (hb : base ≤ w.heap.size) (h : Bt base g l w) :
  Calls Tryz.prog 25 #[.pointer (some ⟨g, 0, none⟩), .bool b] w fun e w' => e = .returned (.tuple #[]) ∧ BtP base g (l ++ closedB b) w w' := by
 obtain ⟨hg, a, c, m, hm, hk, hown, hne⟩ := h
 have hc := hk.ci 0 rfl
 have hf := hk.frozen 0
 have HK := Lib.hid hk
 have HNE := Lib.hid hne
 have HG := Lib.hid hg
 have hmb : m ≤ 100000000000000 := by omega
 have HLN := Lib.hid (show ∀ u : UInt8, (l ++ [u]).length = m + 1 from fun u => by rw [List.length_append, hm]; rfl)
 have HY1 := Lib.hid (show Value.int .u8 1 = B 1 from rfl)
 have HY0 := Lib.hid (show Value.int .u8 0 = B 0 from rfl)
 clear hk hne hg hm hl
 cases b with
 | true =>
  go_enter Tryz.func25, Tryz.ntmps25
  go_wp2_with (first | (at_builtin; refine app_b1 w rfl _ _ rfl base (.slice a m c) m l rfl hown _ 1 HY1.out rfl (by omega) hb ?_; intro a2 c2 w2 hown2 hb2 hmv2; (obtain ⟨hk1, hp⟩ := bt_stored hb HG.out HK.out HNE.out (HLN.out 1) hown2 hb2 (mv_alloc hmv2.mv)); (have hc1 := hk1.ci 0 rfl); (have hf1 := hk1.frozen 0); (have HP := Lib.hid hp); clear hp hk1 hown2 hb2 hmv2 hc hf) | fail)
  go_end0
  exact ⟨rfl, HP.out⟩
 | false =>
  go_enter Tryz.func25, Tryz.ntmps25
  go_wp2_with (first | (at_builtin; refine app_b1 w rfl _ _ rfl base (.slice a m c) m l rfl hown _ 0 HY0.out rfl (by omega) hb ?_; intro a2 c2 w2 hown2 hb2 hmv2; (obtain ⟨hk1, hp⟩ := bt_stored hb HG.out HK.out HNE.out (HLN.out 0) hown2 hb2 (mv_alloc hmv2.mv)); (have hc1 := hk1.ci 0 rfl); (have hf1 := hk1.frozen 0); (have HP := Lib.hid hp); clear hp hk1 hown2 hb2 hmv2 hc hf) | fail)
  go_end0
  exact ⟨rfl, HP.out⟩
end Go.Proofs.YtfglgpbjjpoimaaGreatDoor
/- SaveEncodes: the program's writer of bytes: text, name. -/
set_option linter.unusedVariables false
namespace Go.Proofs.YtfglgpbjjpoimaaGreatDoor
open Go.RowKit Sv
theorem strCells_B (s : ByteArray) : Lib.strCells s = s.data.toList.map B := rfl
theorem run_append_str (w : World) (base : Nat) (ty : TypeId) (v : Value) (n : Nat) (xs : List Value) (hown : w.ownsRow base 5 1 v n xs) (s : ByteArray) (hbytes : n + s.size ≤ 140737488355328) (hbase : base ≤ w.heap.size) :
  ∃ a' c' w', (Builtin.append_ #[39, 9] ty #[v, .string s]).run Tryz.prog w = .ok (.slice a' (n + s.size) c') w' ∧ w'.ownsRow base 5 1 (.slice a' (n + s.size) c') (n + s.size) (xs ++ Lib.strCells s) ∧ Moved w w' v (.slice a' (n + s.size) c') := by
 obtain ⟨i, hi, hz, hsize, hby⟩ := info_parts info5
 have ht := Tryz.underlying39
 have hu := Tryz.underlying9
 have h63 : n + s.size ≤ maxLen := by unfold maxLen; omega
 have hxl : xs.length = n := by simpa using hown.1
 have hlen : (xs ++ Lib.strCells s).length = (n + s.size) * 1 := by rw [List.length_append, hxl, Lib.strCells_length, Nat.mul_one]
 have grown : ∀ (old : Nat), old < n + s.size → ∀ (row : Option Nat),
   (w.drew.alloc (.cells (xs.toArray ++ (Lib.strCells s).toArray ++ Builtin.zeroCells (Value.int .u8 0).cells (grownCap w (n + s.size) old 5 - (n + s.size))) 5)).ownsRow base 5 1
    (.slice (some ⟨w.heap.size, 0, none⟩) (n + s.size) (grownCap w (n + s.size) old 5)) (n + s.size) (xs ++ Lib.strCells s) ∧
   w.grownBy (w.drew.alloc (.cells (xs.toArray ++ (Lib.strCells s).toArray ++ Builtin.zeroCells (Value.int .u8 0).cells (grownCap w (n + s.size) old 5 - (n + s.size))) 5)) row := by
  intro old ho row
  have hge := grownCap_ge w (n + s.size) old 5
  have hcm : grownCap w (n + s.size) old 5 ≤ maxLen := grownCap_le_maxLen w (n + s.size) old 5 h63
  refine ⟨⟨hlen, .inr ⟨w.heap.size, _, _, rfl, hbase, heap_alloc_new w.drew _, hge, hcm, ?_, ?_⟩⟩, ⟨rfl, rfl, rfl, by simp, fun k hk _ => Go.heap_alloc_old w.drew _ hk⟩⟩
  ·have hz1 : (Value.int IntKind.u8 0).cells.size = 1 := rfl
   simp only [Array.size_append, List.size_toArray, size_zeroCells, hz1, hxl, Lib.strCells_length]
   omega
  ·simp only [Array.toList_append, List.append_assoc]
   rw [← List.append_assoc, ← hlen]
   exact List.take_left
 rcases hown.2 with ⟨rfl, rfl⟩ | ⟨g, cap, cur, rfl, hbg, hg, hnc, hcm, hcs, htake⟩
 ·have hx : xs = [] := List.eq_nil_of_length_eq_zero hxl
  subst hx
  by_cases hm : s.size = 0
  ·have hn : Lib.strCells s = [] := List.eq_nil_of_length_eq_zero (by rw [Lib.strCells_length]; exact hm)
   have hf := Lib.run_firstCells_string (P := Tryz.prog) w 1 s
   rw [hm] at hf
   refine ⟨none, 0, w, ?_, by rw [hm, hn]; exact World.ownsRow_nil w base 5 1, .inl ⟨rfl, World.grownBy.refl _ _⟩⟩
   simp [Builtin.append_, run_underlying ht, run_underlying hu, sizeOf, typeInfo, hi, hsize, Builtin.lenOf, hm, hf]
  ·have hr := run_append_nil_string (P := Tryz.prog) w 39 9 ty 5 i (.int .u8 0) ht hu hi hz s (by omega) (by omega) (by rw [hby]; omega)
   have hgr := grown 0 (by omega) none
   simp only [Nat.zero_add, List.nil_append, Array.empty_append] at hgr ⊢
   have e1 : (s.data.map fun b => Value.int .u8 b.toNat) = (Lib.strCells s).toArray := by
    apply Array.ext'
    simp [Lib.strCells]
   rw [e1] at hr
   exact ⟨_, _, _, hr, hgr.1, .inr ⟨hgr.2, rfl⟩⟩
 ·by_cases hroom : n + s.size ≤ cap
  ·have hcs' : cur.size = cap := by simpa using hcs
   have hr := Lib.run_append_room_string (P := Tryz.prog) w 39 9 ty 5 i ht hu hi hsize g n cap cur hg s hroom (by omega)
   refine ⟨_, _, _, hr, ⟨hlen, .inr ⟨g, cap, _, rfl, hbg, setRow_heap w g cur _ 5 _ hg, hroom, hcm, ?_, ?_⟩⟩, .inl ⟨rfl, ⟨rfl, rfl, rfl, by simp, fun k _ hk => setRow_other w g k _ (fun e => hk (by simp [Value.ownBlock, e]))⟩⟩⟩
   ·simp only [List.size_toArray, List.length_append, List.length_take, List.length_drop, Array.length_toList, Lib.strCells_length]
    omega
   ·have ht' : cur.toList.take n = xs := by simpa using htake
    rw [ht', ← hlen]
    exact List.take_left
  ·have holds : ∀ j u, xs[j]? = some u → w.cell? ((⟨g, 0, none⟩ : Addr).add j) = some u := hown.cells (g := g) rfl
   have hr := Lib.run_append_grow_string (P := Tryz.prog) w 39 9 ty 5 i (.int .u8 0) ht hu hi hz ⟨g, 0, none⟩ n cap xs (by rw [hsize]; simpa using hxl) holds s (by omega) (by omega) (by rw [hby]; exact growslice_fits (by omega) (by omega))
   have hgr := grown cap (by omega) none
   exact ⟨_, _, _, hr, hgr.1, .inr ⟨hgr.2, rfl⟩⟩
theorem app_s (w : World) {ops : Array Oper} {rest : List Oper} {o : Oper} {a : Act} {Q : Exit → Act → World → Prop} (hgd : o.guard = none) (sl x : Operand)
  (ho : o.op = .call { callee := .builtin .append, args := #[sl, x], argTypes := #[39, 9] }) (base : Nat) (b : Option Addr) (n c : Nat) (l1 : List UInt8) (hs : a.eval sl = .slice b n c) (hown : w.ownsRow base 5 1 (.slice b n c) n (l1.map B))
  (s : ByteArray) (hx : a.eval x = .string s) (hb : n + s.size ≤ 140737488355328) (hbase : base ≤ w.heap.size)
  (h : ∀ a' c' w', w'.ownsRow base 5 1 (.slice a' (n + s.size) c') (n + s.size) ((l1 ++ s.data.toList).map B) → Below base w w' → Mv w w' (.slice b n c) (.slice a' (n + s.size) c') →
   wpList Tryz.prog ops Q rest (a.put o.dst (.slice a' (n + s.size) c')) w') : wpList Tryz.prog ops Q (o :: rest) a w := by
 refine wpList_plain hgd fun K hK => ?_
 obtain ⟨a', c', w', hr, h2, h3⟩ := run_append_str w base o.type _ n _ hown s hb hbase
 unfold Oper.wp execOp
 simp only [ho, resolve, invoke, builtin, Sem.run_bind, Sem.run_pure, Result.andThen_ok, List.map_toArray, List.map_cons, List.map_nil, hs, hx, hr]
 rw [strCells_B, ← List.map_append] at h2
 exact hK _ _ (h a' c' w' h2 (h3.below (fun k hk => (hown.lt k hk).1) hbase) h3.mv)
set_option maxHeartbeats 1000000 in
theorem stext_any (base g : Nat) (s : Str) (l : List UInt8) (w : World) (hs : s.length ≤ 1000000000) (hl : l.length ≤ 90000000000000) (hb : base ≤ w.heap.size) (h : Bt base g l w) :
  Calls Tryz.prog 22 #[.pointer (some ⟨g, 0, none⟩), .string ⟨s.toArray⟩] w fun e w' => e = .returned (.tuple #[]) ∧ BtP base g (l ++ byText s) w w' := by
 have HC := Lib.hid (wcount_any base g s.length l w (by omega) (by omega) hb h)
 have HB := Lib.hid hb
 have HFIN := Lib.hid (show l ++ byText s = l ++ bytesU s.length ++ s by unfold byText; rw [List.append_assoc])
 have HU := Lib.hid (bytesU_len10 s.length (by omega))
 have HLL := Lib.hid hl
 clear hb h hl
 go_enter Tryz.func22, Tryz.ntmps22
 go_wp2_with fail
 refine (HC.out).mono ?_
 rintro e w1 ⟨rfl, hp1⟩
 have HP1 := Lib.hid hp1
 obtain ⟨l1, hl1⟩ : ∃ l1, l1 = l ++ bytesU s.length := ⟨_, rfl⟩
 rw [← hl1] at hp1
 obtain ⟨hg, a, c, m, hm, hk, hown, hne⟩ := hp1.1
 have hc := hk.ci 0 rfl
 have hf := hk.frozen 0
 have hmb : m ≤ 90000000000010 := by have := HU.out; have := HLL.out; rw [← hm, hl1, List.length_append]; omega
 have hsz : (⟨s.toArray⟩ : ByteArray).size = s.length := by show s.toArray.size = _; simp
 have HSZ := Lib.hid hsz
 have HLN := Lib.hid (show (l1 ++ s).length = m + s.length by rw [List.length_append, hm])
 have HK := Lib.hid hk
 have HNE := Lib.hid hne
 have HG := Lib.hid hg
 have HL1 := Lib.hid hl1
 have hbr : base ≤ w1.heap.size := Nat.le_trans HB.out hp1.2.1.size
 clear hk hne hg hm hl1 hp1 hsz
 go_wp2_with (first | (at_builtin; refine app_s w1 rfl _ _ rfl base a m c l1 rfl hown ⟨s.toArray⟩ rfl (by rw [HSZ.out]; omega) hbr ?_; intro a2 c2 w2 hown2 hb2 hm2; (rw [HSZ.out] at hown2 hm2 ⊢); (obtain ⟨hk1, hp⟩ := bt_stored (l' := l1 ++ s) hbr HG.out HK.out HNE.out HLN.out hown2 hb2 hm2); (have hc1 := hk1.ci 0 rfl); (have hf1 := hk1.frozen 0); (have HP := Lib.hid hp); clear hp hk1 hown2 hb2 hm2 hc hf) | fail)
 go_end0
 refine ⟨rfl, ?_⟩
 rw [HFIN.out, ← HL1.out]
 exact (show BtP base g l1 w w1 by rw [HL1.out]; exact HP1.out).trans HP.out
set_option maxHeartbeats 1000000 in
theorem sname_any (base g : Nat) (n : Nm) (l : List UInt8) (w : World) (hn : NmB n) (hl : l.length ≤ 90000000000000) (hb : base ≤ w.heap.size) (h : Bt base g l w) :
  Calls Tryz.prog 28 #[.pointer (some ⟨g, 0, none⟩), .agg (nmc n).toArray] w fun e w' => e = .returned (.tuple #[]) ∧ BtP base g (l ++ byName n) w w' := by
 obtain ⟨ts, id⟩ := n
 obtain ⟨hts, hid⟩ := hn
 dsimp only at hts hid
 obtain ⟨w0, hw0⟩ : ∃ w0, w0 = w.alloc (.cells #[.int .i64 ts, .int .u64 (id : Int)] 82) := ⟨_, rfl⟩
 have hE : Blk w0 w.heap.size 82 [.int .i64 ts, .int .u64 (id : Int)] := by rw [hw0]; exact Blk.new w _ 82
 have hbb : Below w.heap.size w w0 := by rw [hw0]; exact bal (Below.refl _ _) (Nat.le_refl _) _
 have HOFF := Lib.hid (h.off hbb w.heap.size (Nat.le_refl _))
 have HE := Lib.hid hE
 have HP0 := Lib.hid (BtP.of h hb hbb)
 have HB := Lib.hid hb
 have HLL := Lib.hid hl
 have HU1 := Lib.hid (bytesI_le ts hts)
 have HFIN := Lib.hid (show l ++ byName ⟨ts, id⟩ = l ++ bytesI ts ++ bytesU id by unfold byName; rw [List.append_assoc])
 have c0 := hE.ci 0 rfl
 have HC1 := Lib.hid (wnumber_any base g ts l w0 hts (by omega) (Nat.le_trans hb hbb.size) HP0.out.1)
 simp only [nmc]
 clear hE hbb hb h hl
 go_enter Tryz.func28, Tryz.ntmps28
 go_upto_region 1 with fail
 rw [← hw0]
 clear hw0
 go_wp2_with fail
 refine (HC1.out).mono ?_
 rintro e w1 ⟨rfl, hp1⟩
 have hblk := hp1.2.2.blk HE.out HOFF.out
 have c1 := hblk.1.ci 1 rfl
 have HP1 := Lib.hid (HP0.out.trans hp1)
 have HC2 := Lib.hid (wcount_any base g id (l ++ bytesI ts) w1 hid (by have := HLL.out; have := HU1.out; rw [List.length_append]; omega) (Nat.le_trans HB.out HP1.out.2.1.size) hp1.1)
 clear c0 hp1 hblk
 go_wp2_with fail
 refine (HC2.out).mono ?_
 rintro e w2 ⟨rfl, hp2⟩
 have HP2 := Lib.hid (HP1.out.trans hp2)
 clear hp2 c1
 go_wp2_with fail
 go_end0
 exact ⟨rfl, by rw [HFIN.out]; exact HP2.out⟩
end Go.Proofs.YtfglgpbjjpoimaaGreatDoor
