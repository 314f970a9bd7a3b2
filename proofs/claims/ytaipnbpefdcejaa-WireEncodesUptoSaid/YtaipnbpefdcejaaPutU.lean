/- The walks of PutUint, PutInt and of the reference's. -/
import Derived.Test.YtaipnbpefdcejaaPutW
import Derived.StillTailTactics
set_option linter.unusedVariables false
namespace Go.Proofs.Ytaipnbpefdcejaa
open Go.RowKit

theorem cell_row {w : World} {g : Nat} {xs : List Value} {T : Nat} (h : w.heap[g]? = some (.cells xs.toArray T (0, 0))) (j : Nat) (hj : j < xs.length) : w.cell? ⟨g, j, none⟩ = some xs[j] := by
  rw [cell_of_row w g j _ T (0, 0) h]
  simp [hj]
theorem cell_row? {w : World} {g : Nat} {xs : List Value} {T : Nat} (h : w.heap[g]? = some (.cells xs.toArray T (0, 0))) (j : Nat) : w.cell? ⟨g, j, none⟩ = xs[j]? := by
  rw [cell_of_row w g j _ T (0, 0) h]
  simp
/-- make([]byte, n, m). -/
theorem make_b (w : World) {ops : Array Oper} {rest : List Oper} {o : Oper} {a : Act} {Q : Exit → Act → World → Prop} (hgd : o.guard = none) (l c : Operand) (hop : o.op = Op.makeSlice 23 l c)
    (kl kc : IntKind) (L C : Int) (n m : Nat) (hl : a.eval l = .int kl L) (hc : a.eval c = .int kc C) (hL : L = (n : Int)) (hC : C = (m : Int)) (hnm : n ≤ m) (hn : m ≤ 281474976710656)
    (h : ∀ w', w'.heap[w.heap.size]? = some (.cells (List.replicate m (B 0)).toArray 5 (0, 0)) → Below w.heap.size w w' → w.heap.size + 1 ≤ w'.heap.size →
      wpList Try.prog ops Q rest (a.put o.dst (.slice (some ⟨w.heap.size, 0, none⟩) n m)) w') : wpList Try.prog ops Q (o :: rest) a w := by
  obtain ⟨i0, hi, hz0, hz1, hz2⟩ := info_parts info5
  subst hL; subst hC
  refine wpList_plain hgd fun K hK => ?_
  have hr := run_make (P := Try.prog) w 23 5 i0 (.int .u8 0) Try.underlying23 hi hz0 kl kc n m (by omega) (by omega) (by rw [hz2]; omega) (by omega)
  simp only [Int.toNat_natCast, hz1, Nat.mul_one] at hr
  have hm : madeCells (Value.int .u8 0).cells m = (List.replicate m (B 0)).toArray := by
    apply Array.ext'
    have := toList_madeCells_one (.int .u8 0) m
    simpa [Value.cells, B] using this
  rw [hm] at hr
  unfold Oper.wp
  simp [execOp, hop, hl, hc, hr, Result.andThen]
  exact hK _ _ (h _ (heap_alloc_new w _) ((Below.refl _ _).alloc (Nat.le_refl _) _) (by simp))

theorem rd_add {w : World} {a : Option Addr} {vs : List Value} (h : Rd w a vs) (hp : 0 < vs.length) : ∃ ad, a = some ad ∧ ∀ j u, vs[j]? = some u → w.cell? (ad.add j) = some u := by
  rcases h with rfl | ⟨b, off, rfl, hc⟩
  · simp at hp
  · exact ⟨_, rfl, fun j u hu => by rw [Addr.add_lit]; exact hc j u hu⟩

/-- copy(dst, src): dst at place 'off' of a block that is known whole, src whatever slice reads as 'vs'. -/
theorem copy_b {w : World} {ops : Array Oper} {rest : List Oper} {o : Oper} {a : Act} {Q : Exit → Act → World → Prop} (hgd : o.guard = none) (d s : Operand)
    (ho : o.op = .call { callee := .builtin .copy, args := #[d, s], argTypes := #[23, 23] }) (g off : Nat) (cur : List Value) (t : TypeId) (hg : w.heap[g]? = some (.cells cur.toArray t (0, 0)))
    (dp sp : Option Addr) (dLen dCap sLen sCap : Nat) (hd : a.eval d = .slice dp dLen dCap) (hs : a.eval s = .slice sp sLen sCap) (hdp : dp = some ⟨g, off, none⟩)
    (vs : List Value) (k : Nat) (hk : vs.length = k) (hn1 : k ≤ sLen) (hn2 : k ≤ dLen) (hn3 : k = sLen ∨ k = dLen) (hrd : Rd w sp vs) (h1 : ∀ v ∈ vs, v.oneCell' = true) (hfit : off + k ≤ cur.length)
    (h : ∀ w', Hid (w'.heap[g]? = some (.cells (splice cur off vs).toArray t (0, 0))) → Below g w w' → wpList Try.prog ops Q rest (a.put o.dst (goInt k)) w') :
    wpList Try.prog ops Q (o :: rest) a w := by
  subst hk
  have hn : vs.length = Nat.min sLen dLen := by show _ = min _ _; omega
  have hsz5 : (Try.prog.info? 5).map (·.size) = some 1 := by kernel_rfl
  exact wpList_copy_splice hgd d s 23 23 ho 5 Try.underlying23 hsz5 dp sp dLen dCap sLen sCap hd hs g off cur t hg vs hn (fun hp => ⟨hdp, rd_add hrd hp⟩) hfit h1 g w (Below.refl _ _) (Nat.le_refl _) h

theorem own_of_heap2 {w : World} {g : Nat} {xs ys : List Value} {e : Nat} {base n c : Nat} (h : w.heap[g]? = some (.cells xs.toArray e (0, 0))) (hb : base ≤ g) (hc : xs.length = c) (hn : n ≤ c) (hm : c ≤ maxLen) (ht : xs.take n = ys) (hy : ys.length = n) :
    w.ownsRow base e 1 (.slice (some ⟨g, 0, none⟩) n c) n ys :=
  ⟨by simpa using hy, .inr ⟨g, c, xs.toArray, rfl, hb, h, hn, hm, by simpa using hc, by rw [Nat.mul_one]; exact ht⟩⟩
/-- A block that is known whole is a row of the call's own. -/
theorem own_of_heap {w : World} {g : Nat} {xs : List Value} {e : Nat} {base n : Nat} (h : w.heap[g]? = some (.cells xs.toArray e (0, 0))) (hb : base ≤ g) (hn : xs.length = n) (hm : n ≤ maxLen) :
    w.ownsRow base e 1 (.slice (some ⟨g, 0, none⟩) n n) n xs :=
  ⟨by simpa using hn, .inr ⟨g, n, xs.toArray, rfl, hb, h, Nat.le_refl _, hm, by simpa using hn, by
    rw [Nat.mul_one]; exact List.take_of_length_le (by simpa using Nat.le_of_eq hn)⟩⟩

theorem rd_of_heap {w : World} {g : Nat} {xs : List Value} {e : Nat} (h : w.heap[g]? = some (.cells xs.toArray e (0, 0))) : Rd w (some ⟨g, 0, none⟩) xs :=
  .inr ⟨g, 0, rfl, fun i u hu => by rw [Nat.zero_add, cell_row? h]; exact hu⟩


theorem rcopied_n (a : Option Addr) (cap n : Nat) (l : List UInt8) (w : World) (hn : l.length = n) (hl : n ≤ 140737488355328) (h : Rd w a (l.map B)) :
    Calls Try.prog 43 #[.slice a n cap] w fun e w' => ∃ a' c', e = .returned (.slice a' n c') ∧ w'.ownsRow w.heap.size 5 1 (.slice a' n c') n (l.map B) ∧ Below w.heap.size w w' := by
  go_enter Try.func43, Try.ntmps43
  go_wp2_with (first | (at_builtin; refine app_b w rfl _ _ rfl w.heap.size (.slice none 0 0) 0 [] rfl (World.ownsRow_nil _ _ _ _) a n cap l rfl hn h (by omega) (Nat.le_refl _) ?_; intro a' c' w' hown hbel _; simp only [Nat.zero_add, List.nil_append] at hown ⊢) | fail)
  go_ret
  exact ⟨a', c', rfl, hown, hbel⟩

/-- What a put answers: the bytes, then the number's. -/
def PutPost (l : List UInt8) (n : Nat) (w : World) (e : Ending) (w' : World) : Prop :=
  ∃ a' c', e = .returned (.slice a' (l.length + (bytesU n).length) c') ∧ w'.ownsRow w.heap.size 5 1 (.slice a' (l.length + (bytesU n).length) c') (l.length + (bytesU n).length) ((l ++ bytesU n).map B) ∧ Below w.heap.size w w'

theorem rputuint_any (a : Option Addr) (cap n : Nat) (l : List UInt8) (N : Nat) (w : World) (hn : l.length = n) (hN : N < 18446744073709551616) (hl : n ≤ 140737488355000) (h : Rd w a (l.map B)) :
    Calls Try.prog 22 #[.slice a n cap, .int .u64 (N : Int)] w (PutPost l N w) := by
  subst hn
  go_enter Try.func22, Try.ntmps22
  go_wp2_with fail
  refine (rcopied_n a cap l.length l w rfl (by omega) h).mono ?_
  rintro e w1 ⟨a1, c1, rfl, hown1, hb1⟩
  have hs := hb1.size
  go_wp2_with fail
  refine (rput_any w.heap.size l.length a1 c1 l N w1 hN hl hs hown1).mono ?_
  rintro e w2 ⟨a2, c2, rfl, hown2, hb2⟩
  go_wp2
  go_ret
  exact ⟨a2, c2, rfl, hown2, hb1.trans hb2⟩

set_option maxRecDepth 20000 in
theorem putuint_any (a : Option Addr) (cap n : Nat) (l : List UInt8) (N : Nat) (w : World) (hn : l.length = n) (hN : N < 18446744073709551616) (hl : n ≤ 140737488355000) (h : Rd w a (l.map B)) :
    Calls Try.prog 20 #[.slice a n cap, .int .u64 (N : Int)] w (PutPost l N w) := by
  have HN := Lib.hid hn
  clear hn
  go_enter Try.func20, Try.ntmps20
  go_wp2_with (first | (at_make; refine make_b w rfl _ _ rfl .i64 .i64 _ _ n (n + 10) rfl rfl (by omega) (by omega) (by omega) (by omega) ?_; intro w1 hh1 hb1 hs1) |
    ((with_reducible refine at_dst 14 ?_); refine copy_b rfl _ _ rfl w.heap.size 0 _ 5 hh1 _ _ _ _ _ _ rfl rfl rfl (l.map B) n (by have := HN.out; simpa using this) (by omega) (by omega) (by omega) (h.below hb1) (B_oneCell l) (by rw [List.length_replicate]; omega) ?_; intro w2 hh2 hb2) | fail)
  have h2 := hh2.out
  have hsp : (splice (List.replicate (n + 10) (B 0)) 0 (l.map B)).length = n + 10 := by rw [length_splice _ _ _ (by rw [List.length_replicate, List.length_map, HN.out]; omega), List.length_replicate]
  have htk : (splice (List.replicate (n + 10) (B 0)) 0 (l.map B)).take n = l.map B := by
    simp only [splice, List.take_zero, List.nil_append]
    rw [List.take_append_of_le_length (by rw [List.length_map, HN.out]; omega), List.take_of_length_le (by rw [List.length_map, HN.out]; omega)]
  have hown := own_of_heap2 (base := w.heap.size) h2 (Nat.le_refl _) hsp (by omega) (by unfold maxLen; omega) htk (by rw [List.length_map, HN.out])
  have hb12 : Below w.heap.size w w2 := hb1.trans hb2
  have hs2 := hb12.size
  clear h2 hsp htk hh1 hh2
  refine (put_any w.heap.size n (some ⟨w.heap.size, 0, none⟩) (n + 10) l N w2 hN (by omega) hs2 hown).mono ?_
  rintro e w3 ⟨a3, c3, rfl, hown3, hb3⟩
  go_wp2
  go_ret
  unfold PutPost
  rw [HN.out]
  exact ⟨a3, c3, rfl, hown3, hb12.trans hb3⟩

/-- zigzag. -/
theorem xor_u64 (a : Int) (b : Int) : bits .xor .u64 a b = (((BitVec.ofInt 64 a ^^^ BitVec.ofInt 64 b).toNat : Nat) : Int) := by
  show IntKind.u64.wrap ((BitVec.ofInt 64 a ^^^ BitVec.ofInt 64 b).toNat : Int) = _
  rw [IntKind.wrap_u64]
  have := (BitVec.ofInt 64 a ^^^ BitVec.ofInt 64 b).isLt
  omega
theorem ofInt_nat (n : Nat) (h : n < 18446744073709551616) : (BitVec.ofInt 64 (n : Int)).toNat = n := by
  rw [BitVec.ofInt_natCast, BitVec.toNat_ofNat]; omega
theorem zig_bits (i : Int) (hi : -9223372036854775808 ≤ i ∧ i ≤ 9223372036854775807) :
    bits .xor .u64 (IntKind.u64.wrap (IntKind.u64.wrap i * 2)) (IntKind.u64.wrap (i / 9223372036854775808)) = (zig i : Int) := by
  rw [xor_u64]
  by_cases h : 0 ≤ i
  · have e1 : IntKind.u64.wrap (IntKind.u64.wrap i * 2) = ((zig i : Nat) : Int) := by rw [IntKind.wrap_u64, IntKind.wrap_u64, zig, if_pos h]; omega
    have e2 : IntKind.u64.wrap (i / 9223372036854775808) = 0 := by rw [IntKind.wrap_u64]; omega
    rw [e1, e2, show BitVec.ofInt 64 0 = 0#64 from rfl, BitVec.xor_zero, ofInt_nat _ (zig_lt i hi)]
  · obtain ⟨m, hm⟩ : ∃ m : Nat, (m : Int) = 2 * i + 18446744073709551616 := ⟨(2 * i + 18446744073709551616).toNat, by omega⟩
    have e1 : IntKind.u64.wrap (IntKind.u64.wrap i * 2) = (m : Int) := by rw [IntKind.wrap_u64, IntKind.wrap_u64]; omega
    have e2 : IntKind.u64.wrap (i / 9223372036854775808) = 18446744073709551615 := by rw [IntKind.wrap_u64]; omega
    rw [e1, e2, show BitVec.ofInt 64 18446744073709551615 = BitVec.allOnes 64 from by decide, BitVec.xor_allOnes, BitVec.toNat_not, ofInt_nat _ (by omega), zig, if_neg h]
    omega
theorem zigzag_any (i : Int) (w : World) (hi : -9223372036854775808 ≤ i ∧ i ≤ 9223372036854775807) : Calls Try.prog 42 #[.int .i64 i] w fun e w' => e = .returned (.int .u64 (zig i : Int)) ∧ w = w' := by
  have HZ := Lib.hid (zig_bits i hi)
  go_enter Try.func42, Try.ntmps42
  go_wp2
  go_ret
  refine ⟨ret_val ?_, rfl⟩
  rw [← HZ.out]
  rfl
theorem fold_any (i : Int) (w : World) (hi : -9223372036854775808 ≤ i ∧ i ≤ 9223372036854775807) : Calls Try.prog 55 #[.int .i64 i] w fun e w' => e = .returned (.int .u64 (zig i : Int)) ∧ w = w' := by
  by_cases h : 0 ≤ i
  · have hz : (zig i : Int) = 2 * i := by rw [zig, if_pos h]; omega
    have HZ := Lib.hid hz
    clear hz
    go_enter Try.func55, Try.ntmps55
    go_wp2
    go_ret
    refine ⟨ret_val ?_, rfl⟩
    rw [HZ.out]
    rfl
  · have hz : (zig i : Int) = 2 * -(i + 1) + 1 := by rw [zig, if_neg h]; omega
    have HZ := Lib.hid hz
    clear hz
    go_enter Try.func55, Try.ntmps55
    go_wp2
    go_ret
    refine ⟨ret_val ?_, rfl⟩
    rw [HZ.out]
    rfl

theorem putint_any (a : Option Addr) (cap n : Nat) (l : List UInt8) (i : Int) (w : World) (hn : l.length = n) (hi : -9223372036854775808 ≤ i ∧ i ≤ 9223372036854775807) (hl : n ≤ 140737488355000) (h : Rd w a (l.map B)) :
    Calls Try.prog 21 #[.slice a n cap, .int .i64 i] w (PutPost l (zig i) w) := by
  subst hn
  go_enter Try.func21, Try.ntmps21
  go_wp2_with fail
  refine (zigzag_any i w hi).mono ?_
  rintro e _ ⟨rfl, rfl⟩
  go_wp2_with fail
  refine (putuint_any a cap l.length l (zig i) w rfl (zig_lt i hi) hl h).mono ?_
  rintro e w2 ⟨a2, c2, rfl, hown2, hb2⟩
  go_wp2
  go_ret
  exact ⟨a2, c2, rfl, hown2, hb2⟩

theorem rput2_any (base k : Nat) (a : Option Addr) (c : Nat) (pre : List UInt8) (i : Int) (w : World) (hi : -9223372036854775808 ≤ i ∧ i ≤ 9223372036854775807) (hk : k ≤ 140737488355000) (hbase : base ≤ w.heap.size)
    (hown : w.ownsRow base 5 1 (.slice a k c) k (pre.map B)) :
    Calls Try.prog 45 #[.slice a k c, .int .i64 i] w fun e w' => ∃ a' c', e = .returned (.slice a' (k + (bytesU (zig i)).length) c') ∧ w'.ownsRow base 5 1 (.slice a' (k + (bytesU (zig i)).length) c') (k + (bytesU (zig i)).length) ((pre ++ bytesU (zig i)).map B) ∧ Below base w w' := by
  go_enter Try.func45, Try.ntmps45
  go_wp2_with fail
  refine (fold_any i w hi).mono ?_
  rintro e _ ⟨rfl, rfl⟩
  go_wp2_with fail
  refine (rput_any base k a c pre (zig i) w (zig_lt i hi) hk hbase hown).mono ?_
  rintro e w2 ⟨a2, c2, rfl, hown2, hb2⟩
  go_wp2
  go_ret
  exact ⟨a2, c2, rfl, hown2, hb2⟩

theorem rputint_any (a : Option Addr) (cap n : Nat) (l : List UInt8) (i : Int) (w : World) (hn : l.length = n) (hi : -9223372036854775808 ≤ i ∧ i ≤ 9223372036854775807) (hl : n ≤ 140737488355000) (h : Rd w a (l.map B)) :
    Calls Try.prog 23 #[.slice a n cap, .int .i64 i] w (PutPost l (zig i) w) := by
  subst hn
  go_enter Try.func23, Try.ntmps23
  go_wp2_with fail
  refine (rcopied_n a cap l.length l w rfl (by omega) h).mono ?_
  rintro e w1 ⟨a1, c1, rfl, hown1, hb1⟩
  have hs := hb1.size
  go_wp2_with fail
  refine (rput2_any w.heap.size l.length a1 c1 l i w1 hi hl hs hown1).mono ?_
  rintro e w2 ⟨a2, c2, rfl, hown2, hb2⟩
  go_wp2
  go_ret
  exact ⟨a2, c2, rfl, hown2, hb1.trans hb2⟩
#print axioms putint_any
#print axioms rputint_any
#print axioms rputuint_any
end Go.Proofs.Ytaipnbpefdcejaa
