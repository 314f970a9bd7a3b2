/- The walks of the reference's putting of numbers, and what stays under them. -/
import Derived.Test.YtaipnbpefdcejaaWr1
set_option linter.unusedVariables false
namespace Go.Proofs.Ytaipnbpefdcejaa
open Go.RowKit
set_option maxRecDepth 20000 in
theorem rput_mv (base k : Nat) (a : Option Addr) (c : Nat) (pre : List UInt8) (n : Nat) (w : World) (hn : n < 18446744073709551616) (hk : k ≤ 140737488355000) (hbase : base ≤ w.heap.size)
    (hown : w.ownsRow base 5 1 (.slice a k c) k (pre.map B)) :
    Calls Try.prog 44 #[.slice a k c, .int .u64 (n : Int)] w fun e w' => ∃ a' c', e = .returned (.slice a' (k + (bytesU n).length) c') ∧ w'.ownsRow base 5 1 (.slice a' (k + (bytesU n).length) c') (k + (bytesU n).length) ((pre ++ bytesU n).map B) ∧ Below base w w' ∧ Mv w w' (.slice a k c) (.slice a' (k + (bytesU n).length) c') := by
  have hlen := bytesU_len10 n hn
  go_enter Try.func44, Try.ntmps44
  go_wp2
  go_loopw [0, 1] (fun v i wr => ∃ (a1 : Option Addr) (c1 m N : Nat) (dn : List UInt8), v = .slice a1 m c1 ∧ i = .int .u64 (N : Int) ∧ N ≤ n ∧ pre ++ bytesU n = dn ++ bytesU N ∧ m + (bytesU N).length = k + (bytesU n).length ∧ wr.ownsRow base 5 1 v m (dn.map B) ∧ Below base w wr ∧ Mv w wr (.slice a k c) v) (fun _ i _ => (intOf i).toNat)
  case atStart => exact ⟨a, c, k, n, pre, rfl, rfl, Nat.le_refl _, rfl, rfl, hown, Below.refl _ _, Mv.refl _ _⟩
  case round =>
    obtain ⟨a1, c1, m, N, dn, rfl, rfl, hNn, hbs, hm, hown1, hbel, hmv⟩ := hrel
    have hs := hbel.size
    have HMV := Lib.hid hmv
    clear hmv
    by_cases hlt : N < 128
    · have hlt' : ¬ (0 : Int) < (N : Int) / 128 := by omega
      have hlow := bytesU_low hlt
      rw [hlow] at hbs hm
      have HBS := Lib.hid hbs
      have HM := Lib.hid hm
      have hmb : m ≤ 140737488355200 := by rw [List.length_singleton] at hm; omega
      have hy : Value.int .u8 (N : Int) = B (UInt8.ofNat N) := by rw [B, UInt8.toNat_ofNat']; congr 1; omega
      have HY := Lib.hid hy
      clear hbs hm hlow hlen hy
      go_wp2_with (first | (at_builtin; refine app_b1 wr rfl _ _ rfl base (.slice a1 m c1) m dn rfl hown1 _ (UInt8.ofNat N) HY.out rfl (by omega) (by omega) ?_; intro a2 c2 w2 hown2 hb2 hmv2) | fail)
      go_ret
      have hmv3 := HMV.out.trans hmv2.mv.alloc
      rw [show dn ++ [UInt8.ofNat N] = pre ++ bytesU n from HBS.out.symm] at hown2
      have hM := HM.out
      rw [List.length_singleton] at hM
      rw [hM] at hown2 hmv3 ⊢
      exact ⟨a2, c2, rfl, by simpa only [List.map_append] using hown2, hbel.trans hb2, hmv3⟩
    · have hlt' : (0 : Int) < (N : Int) / 128 := by omega
      have hhigh := bytesU_high hlt
      rw [hhigh] at hbs hm
      have HBS := Lib.hid hbs
      have HM := Lib.hid hm
      have hmb : m ≤ 140737488355200 := by rw [List.length_cons] at hm; omega
      have hy : Value.int .u8 (128 + (N : Int) % 128) = B (UInt8.ofNat (N % 128 + 128)) := by rw [B, UInt8.toNat_ofNat']; congr 1; omega
      have HY := Lib.hid hy
      clear hbs hm hhigh hlen hy
      go_wp2_with (first | (at_builtin; refine app_b1 wr rfl _ _ rfl base (.slice a1 m c1) m dn rfl hown1 _ (UInt8.ofNat (N % 128 + 128)) HY.out rfl (by omega) (by omega) ?_; intro a2 c2 w2 hown2 hb2 hmv2) | fail)
      go_wp2
      go_roundw
      case rel =>
        refine ⟨a2, c2, m + 1, N / 128, dn ++ [UInt8.ofNat (N % 128 + 128)], rfl, by go_num, by omega, by rw [HBS.out]; simp, ?_, hown2, hbel.trans hb2, HMV.out.trans hmv2.mv.alloc⟩
        have hM := HM.out
        rw [List.length_cons] at hM
        omega
      case measure => simp [intOf]; omega
theorem rput2_mv (base k : Nat) (a : Option Addr) (c : Nat) (pre : List UInt8) (i : Int) (w : World) (hi : I64 i) (hk : k ≤ 140737488355000) (hbase : base ≤ w.heap.size)
    (hown : w.ownsRow base 5 1 (.slice a k c) k (pre.map B)) :
    Calls Try.prog 45 #[.slice a k c, .int .i64 i] w fun e w' => ∃ a' c', e = .returned (.slice a' (k + (bytesU (zig i)).length) c') ∧ w'.ownsRow base 5 1 (.slice a' (k + (bytesU (zig i)).length) c') (k + (bytesU (zig i)).length) ((pre ++ bytesU (zig i)).map B) ∧ Below base w w' ∧ Mv w w' (.slice a k c) (.slice a' (k + (bytesU (zig i)).length) c') := by
  go_enter Try.func45, Try.ntmps45
  go_wp2_with fail
  refine (fold_any i w hi).mono ?_
  rintro e _ ⟨rfl, rfl⟩
  go_wp2_with fail
  refine (rput_mv base k a c pre (zig i) w (zig_lt i hi) hk hbase hown).mono ?_
  rintro e w2 ⟨a2, c2, rfl, hown2, hb2, hm2⟩
  go_wp2
  go_ret
  exact ⟨a2, c2, rfl, hown2, hb2, hm2⟩
theorem rtruth_any (t : Bool) (w : World) : Calls Try.prog 63 #[.bool t] w fun e w' => e = .returned (.int .u8 (if t then 1 else 0)) ∧ w = w' := by
  cases t
  · go_enter Try.func63, Try.ntmps63
    go_wp2
    go_ret
    exact ⟨rfl, rfl⟩
  · go_enter Try.func63, Try.ntmps63
    go_wp2
    go_ret
    exact ⟨rfl, rfl⟩
/-- The slice holds the bytes l in a row of the call's own; the block gm stays; since wI only that row was written. -/
def St (w0 wI : World) (vI : Value) (gm : Nat) (t : TypeId) (cs : List Value) (l : List UInt8) (w : World) (a : Option Addr) (n c : Nat) : Prop :=
  l.length = n ∧ w.ownsRow w0.heap.size 5 1 (.slice a n c) n (l.map B) ∧ Below w0.heap.size w0 w ∧ Blk w gm t cs ∧ (Value.slice a n c).ownBlock ≠ some gm ∧ Mv wI w vI (.slice a n c)
def StP (w0 wI : World) (vI : Value) (gm : Nat) (t : TypeId) (cs : List Value) (l : List UInt8) (e : Ending) (w : World) : Prop :=
  ∃ a n c, e = .returned (.slice a n c) ∧ St w0 wI vI gm t cs l w a n c
/-- What a function that puts bytes behind others answers. -/
def PRF (w0 wI : World) (vI : Value) (l : List UInt8) (e : Ending) (w : World) : Prop :=
  ∃ a n c, e = .returned (.slice a n c) ∧ l.length = n ∧ w.ownsRow w0.heap.size 5 1 (.slice a n c) n (l.map B) ∧ Below w0.heap.size w0 w ∧ Mv wI w vI (.slice a n c)
theorem St.fin {w0 wI : World} {vI : Value} {gm : Nat} {t : TypeId} {cs : List Value} {l : List UInt8} {w : World} {a : Option Addr} {n c : Nat} (h : St w0 wI vI gm t cs l w a n c) : PRF w0 wI vI l (.returned (.slice a n c)) w :=
  ⟨a, n, c, rfl, h.1, h.2.1, h.2.2.1, h.2.2.2.2.2⟩
theorem St.moved {w0 wI : World} {vI : Value} {gm : Nat} {t : TypeId} {cs : List Value} {l : List UInt8} {w : World} {a : Option Addr} {n c : Nat} (h : St w0 wI vI gm t cs l w a n c)
    {l' : List UInt8} {w' : World} {a' : Option Addr} {n' c' : Nat} (hn : l'.length = n') (hown : w'.ownsRow w0.heap.size 5 1 (.slice a' n' c') n' (l'.map B)) (hb : Below w0.heap.size w w') (hm : Mv w w' (.slice a n c) (.slice a' n' c')) : St w0 wI vI gm t cs l' w' a' n' c' := by
  obtain ⟨h1, h2, h3, h4, h5, h6⟩ := h
  refine ⟨hn, hown, h3.trans hb, h4.kept hm.1 (fun e => h5 e.symm), ?_, h6.trans hm⟩
  rcases hm.2 with h | ⟨k, h, hk⟩
  · rw [h]; exact h5
  · rw [h]; intro e; cases e; have := h4.lt; omega
theorem St.int {w0 wI : World} {vI : Value} {gm : Nat} {t : TypeId} {cs : List Value} {l : List UInt8} {w : World} {a : Option Addr} {n c : Nat} (h : St w0 wI vI gm t cs l w a n c) (i : Int) (hi : I64 i) (hl : l.length ≤ 140737488355000) :
    Calls Try.prog 45 #[.slice a n c, .int .i64 i] w (StP w0 wI vI gm t cs (l ++ bytesI i)) := by
  refine (rput2_mv w0.heap.size n a c l i w hi (by rw [← h.1]; exact hl) h.2.2.1.size h.2.1).mono ?_
  rintro e w' ⟨a', c', rfl, hown, hb, hm⟩
  exact ⟨a', _, c', rfl, h.moved (by rw [List.length_append, h.1]; rfl) hown hb hm⟩
theorem St.uint {w0 wI : World} {vI : Value} {gm : Nat} {t : TypeId} {cs : List Value} {l : List UInt8} {w : World} {a : Option Addr} {n c : Nat} (h : St w0 wI vI gm t cs l w a n c) (x : Int) (N : Nat) (hx : x = (N : Int)) (hN : N < 18446744073709551616) (hl : l.length ≤ 140737488355000) :
    Calls Try.prog 44 #[.slice a n c, .int .u64 x] w (StP w0 wI vI gm t cs (l ++ bytesU N)) := by
  subst hx
  refine (rput_mv w0.heap.size n a c l N w hN (by rw [← h.1]; exact hl) h.2.2.1.size h.2.1).mono ?_
  rintro e w' ⟨a', c', rfl, hown, hb, hm⟩
  exact ⟨a', _, c', rfl, h.moved (by rw [List.length_append, h.1]) hown hb hm⟩
/-- The start: the block of the parameter. -/
theorem St.start {w0 w : World} {l : List UInt8} {a : Option Addr} {n c : Nat} (t : TypeId) (cs : List Value) (hn : l.length = n) (hown : w.ownsRow w0.heap.size 5 1 (.slice a n c) n (l.map B)) (hb : Below w0.heap.size w0 w) :
    St w0 w (.slice a n c) w.heap.size t cs l (w.alloc (.cells cs.toArray t)) a n c := by
  refine ⟨hn, hown.alloc _, hb.alloc hb.size _, Blk.new w cs t, ?_, grown_alloc w _ _, .inl rfl⟩
  intro e
  have := (hown.lt _ e).2
  omega
theorem St.cell {w0 wI : World} {vI : Value} {gm : Nat} {t : TypeId} {cs : List Value} {l : List UInt8} {w : World} {a : Option Addr} {n c : Nat} (h : St w0 wI vI gm t cs l w a n c) (i : Nat) (hi : i < cs.length) : w.cell? ⟨gm, i, none⟩ = some cs[i] := h.2.2.2.1.cell i hi
#print axioms St.uint
end Go.Proofs.Ytaipnbpefdcejaa
