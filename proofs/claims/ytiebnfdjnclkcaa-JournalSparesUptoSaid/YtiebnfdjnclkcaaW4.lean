/- The walks of Append and the reference's Append. -/
import Derived.Test.YtiebnfdjnclkcaaW3
import Derived.StillTailTactics
set_option linter.unusedVariables false
namespace Go.Proofs.Ytiebnfdjnclkcaa
open Go.RowKit

/-- A whole array stored into the block that was made just ahead of it. -/
theorem store_new {P : Program} {ops : Array Oper} {rest : List Oper} {o : Oper} {a : Act} (w : World) {Q : Exit → Act → World → Prop} (hgd : o.guard = none) (ty : TypeId) (x y : Operand) (ho : o.op = .store ty x y)
    (cells : Array Value) (hx : a.eval x = .pointer (some ⟨w.heap.size, 0, none⟩)) (hy : a.eval y = .agg cells)
    (t : TypeId) (old : Array Value) (hi : (P.info? ty).map (·.size) = some cells.size) (n : Nat) (hold : old.size = n) (hn : cells.size = n) (h1 : cells.all (·.oneCell') = true)
    (h : ∀ w', w'.heap[w.heap.size]? = some (.cells cells t (0, 0)) → Below w.heap.size w w' → w.heap.size + 1 ≤ w'.heap.size → wpList P ops Q rest (a.put o.dst undef) w') :
    wpList P ops Q (o :: rest) a (w.alloc (.cells old t)) :=
  wpList_store_row hgd ty x y ho w.heap.size cells hx hy t old (heap_alloc_new _ _) hi (hold.trans hn.symm) h1 (h _ (setRow_heap _ _ old cells t (0, 0) (heap_alloc_new _ _))
    (below_setRow ((Below.refl _ _).alloc (Nat.le_refl _) _) (Nat.le_refl _) cells) (by simp))

/-- make([]byte, n). -/
theorem make_b (w : World) {ops : Array Oper} {rest : List Oper} {o : Oper} {a : Act} {Q : Exit → Act → World → Prop} (hgd : o.guard = none) (l c : Operand) (hop : o.op = Op.makeSlice 22 l c)
    (kl kc : IntKind) (L C : Int) (n : Nat) (hl : a.eval l = .int kl L) (hc : a.eval c = .int kc C) (hL : L = (n : Int)) (hC : C = (n : Int)) (hn : n ≤ 281474976710656)
    (h : ∀ w', w'.heap[w.heap.size]? = some (.cells (List.replicate n (B 0)).toArray 5 (0, 0)) → Below w.heap.size w w' → w.heap.size + 1 ≤ w'.heap.size →
      wpList Try.prog ops Q rest (a.put o.dst (.slice (some ⟨w.heap.size, 0, none⟩) n n)) w') : wpList Try.prog ops Q (o :: rest) a w := by
  obtain ⟨i0, hi, hz0, hz1, hz2⟩ := info_parts info5
  subst hL; subst hC
  refine wpList_plain hgd fun K hK => ?_
  have hr := run_make (P := Try.prog) w 22 5 i0 (.int .u8 0) Try.underlying22 hi hz0 kl kc n n (by omega) (Int.le_refl _) (by rw [hz2]; omega) (by omega)
  simp only [Int.toNat_natCast, hz1, Nat.mul_one] at hr
  have hm : madeCells (Value.int .u8 0).cells n = (List.replicate n (B 0)).toArray := by
    apply Array.ext'
    have := toList_madeCells_one (.int .u8 0) n
    simpa [Value.cells, B] using this
  rw [hm] at hr
  unfold Oper.wp
  simp [execOp, hop, hl, hc, hr, Result.andThen]
  exact hK _ _ (h _ (heap_alloc_new w _) ((Below.refl _ _).alloc (Nat.le_refl _) _) (by simp))

theorem rd_add {w : World} {a : Option Addr} {vs : List Value} (h : Rd w a vs) (hp : 0 < vs.length) : ∃ ad, a = some ad ∧ ∀ j u, vs[j]? = some u → w.cell? (ad.add j) = some u := by
  rcases h with rfl | ⟨b, off, rfl, hc⟩
  · simp at hp
  · exact ⟨_, rfl, fun j u hu => by rw [Addr.add_lit]; exact hc j u hu⟩

/-- copy(dst, src): dst at place 'off' of a block that is known whole, src whatever slice reads as 'vs'. -/
theorem copy_b {w : World} {ops : Array Oper} {rest : List Oper} {o : Oper} {a : Act} {Q : Exit → Act → World → Prop} (hgd : o.guard = none) (d s : Operand)
    (ho : o.op = .call { callee := .builtin .copy, args := #[d, s], argTypes := #[22, 22] }) (g off : Nat) (cur : List Value) (t : TypeId) (hg : w.heap[g]? = some (.cells cur.toArray t (0, 0)))
    (dp sp : Option Addr) (dLen dCap sLen sCap : Nat) (hd : a.eval d = .slice dp dLen dCap) (hs : a.eval s = .slice sp sLen sCap) (hdp : dp = some ⟨g, off, none⟩)
    (vs : List Value) (k : Nat) (hk : vs.length = k) (hn1 : k ≤ sLen) (hn2 : k ≤ dLen) (hn3 : k = sLen ∨ k = dLen) (hrd : Rd w sp vs) (h1 : ∀ v ∈ vs, v.oneCell' = true) (hfit : off + k ≤ cur.length)
    (h : ∀ w', Hid (w'.heap[g]? = some (.cells (splice cur off vs).toArray t (0, 0))) → Below g w w' → wpList Try.prog ops Q rest (a.put o.dst (goInt k)) w') :
    wpList Try.prog ops Q (o :: rest) a w := by
  subst hk
  have hn : vs.length = Nat.min sLen dLen := by show _ = min _ _; omega
  have hsz5 : (Try.prog.info? 5).map (·.size) = some 1 := by kernel_rfl
  exact wpList_copy_splice hgd d s 22 22 ho 5 Try.underlying22 hsz5 dp sp dLen dCap sLen sCap hd hs g off cur t hg vs hn (fun hp => ⟨hdp, rd_add hrd hp⟩) hfit h1 g w (Below.refl _ _) (Nat.le_refl _) h

/-- A block that is known whole is a row of the call's own. -/
theorem own_of_heap {w : World} {g : Nat} {xs : List Value} {e : Nat} {base n : Nat} (h : w.heap[g]? = some (.cells xs.toArray e (0, 0))) (hb : base ≤ g) (hn : xs.length = n) (hm : n ≤ maxLen) :
    w.ownsRow base e 1 (.slice (some ⟨g, 0, none⟩) n n) n xs :=
  ⟨by simpa using hn, .inr ⟨g, n, xs.toArray, rfl, hb, h, Nat.le_refl _, hm, by simpa using hn, by
    rw [Nat.mul_one]; exact List.take_of_length_le (by simpa using Nat.le_of_eq hn)⟩⟩

theorem rd_of_heap {w : World} {g : Nat} {xs : List Value} {e : Nat} (h : w.heap[g]? = some (.cells xs.toArray e (0, 0))) : Rd w (some ⟨g, 0, none⟩) xs :=
  .inr ⟨g, 0, rfl, fun i u hu => by rw [Nat.zero_add, cell_row? h]; exact hu⟩

/-- The log with one record more. -/
def appB (log r : List UInt8) : List UInt8 := log ++ (headB r ++ r)

theorem splice_all (n m : Nat) (a b c : List Value) (ha : a.length = n) (hb : b.length = 25) (hc : c.length = m) (z : Value) :
    splice (splice (splice (List.replicate (n + 25 + m) z) 0 a) n b) (n + 25) c = a ++ (b ++ c) := by
  subst ha; subst hc
  have := splice_splice_splice (List.replicate (a.length + 25 + c.length) z) a b c a.length 25 rfl hb (by simp)
  exact this

theorem append_none (a b : Option Addr) (cap cap2 n : Nat) (w : World) (hl : n ≤ 140737488355328) :
    Calls Try.prog 15 #[.slice a n cap, .slice b 0 cap2] w fun e w' => e = .returned (.tuple #[.slice none 0 0, .int .i64 220]) ∧ w = w' := by
  go_enter Try.func15, Try.ntmps15
  go_wp2
  go_ret2
  exact ⟨rfl, rfl⟩

theorem rappend_none (a b : Option Addr) (cap cap2 n : Nat) (w : World) (hl : n ≤ 140737488355328) :
    Calls Try.prog 16 #[.slice a n cap, .slice b 0 cap2] w fun e w' => e = .returned (.tuple #[.slice none 0 0, .int .i64 220]) ∧ w = w' := by
  go_enter Try.func16, Try.ntmps16
  go_wp2
  go_ret2
  exact ⟨rfl, rfl⟩

set_option maxHeartbeats 1000000 in
theorem append_some (a b : Option Addr) (cap cap2 n m : Nat) (l r : List UInt8) (w : World) (hn : l.length = n) (hm : r.length = m) (hl : n ≤ 140737488355328) (hl2 : m ≤ 140737488355328 - 25) (hm0 : 0 < m)
    (h : Rd w a (l.map B)) (h2 : Rd w b (r.map B)) :
    Calls Try.prog 15 #[.slice a n cap, .slice b m cap2] w fun e w' => ∃ a' c', e = .returned (.tuple #[.slice a' (n + 25 + m) c', .int .i64 0]) ∧
      w'.ownsRow w.heap.size 5 1 (.slice a' (n + 25 + m) c') (n + 25 + m) ((appB l r).map B) ∧ Below w.heap.size w w' := by
  have HN := Lib.hid hn
  have HM := Lib.hid hm
  have hne : ((m : Int) == 0) = false := eql_of' (by omega)
  clear hn hm
  go_enter Try.func15, Try.ntmps15
  go_wp2_with fail
  refine (headOf_any b cap2 m r w HM.out (by omega) h2).mono ?_
  rintro e w1 ⟨rfl, hb1⟩
  obtain ⟨cs, hc⟩ : ∃ cs, cs = ((headB r).map B).toArray := ⟨_, rfl⟩
  rw [← hc]
  have hsz : (Try.prog.info? 49).map (·.size) = some cs.size := by rw [info49, hc]; simp [headB_len]
  have hone : cs.all (·.oneCell') = true := by
    rw [hc, Array.all_eq_true_iff_forall_mem]
    intro u hu
    exact B_oneCell _ u (by simpa using hu)
  have hcsz : cs.size = 25 := by rw [hc]; simp [headB_len]
  have HC := Lib.hid hc
  have HZ := Lib.hid hcsz
  clear hc hcsz
  have h1 := h.below hb1
  have h21 := h2.below hb1
  have hs1 := hb1.size
  have hsz5 : (Try.prog.info? 5).map (·.size) = some 1 := by kernel_rfl
  go_wp2_with (first | ((with_reducible refine at_store ?_); refine store_new w1 rfl 49 _ _ rfl cs rfl rfl 49 _ hsz 25 (by rfl) HZ.out hone ?_; intro w2 hh2 hb2 hs2) | (at_make; refine make_b _ rfl _ _ rfl .i64 .i64 _ _ (n + 25 + m) rfl rfl (by omega) (by omega) (by omega) ?_; intro w3 hh3 hb3 hs3) |
    ((with_reducible refine at_dst 22 ?_); refine copy_b rfl (.tmp 20) (.tmp 21) rfl w2.heap.size 0 _ 5 hh3 _ _ _ _ _ _ rfl rfl rfl (l.map B) n (by have := HN.out; simpa using this) (by omega) (by omega) (by omega) (h1.below ((hb2.trans (hb3.mono (by omega))))) (B_oneCell l) (by rw [List.length_replicate]; omega) ?_; intro w4 hh4 hb4) | fail)
  have hh24 : w4.heap[w1.heap.size]? = some (.cells ((headB r).map B).toArray 49 (0, 0)) := by
    rw [hb4.block _ (by omega), hb3.block _ (by omega), ← HC.out]; exact hh2
  have hb14 : Below w1.heap.size w1 w4 := hb2.trans ((hb3.trans (hb4.mono (Nat.le_refl _))).mono (by omega))
  obtain ⟨g, hg⟩ : ∃ g, g = w2.heap.size := ⟨_, rfl⟩
  rw [← hg] at hh4 hs2 ⊢
  have hgs : g + 1 ≤ w4.heap.size := by have := hb4.size; omega
  clear hg hb4 hb3 hh3 hs3 hb2 hh2 hone hsz hsz5
  obtain ⟨N, hN⟩ : ∃ N, N = n + 25 + m := ⟨_, rfl⟩
  have hN25 : n + 25 < N := by omega
  have hnN : n < N := by omega
  have hne2 : ¬ (N = n) := by omega
  have hne3 : ¬ (N = n + 25) := by omega
  have hle : (n : Int) ≤ (N : Int) := by omega
  have hle3 : (n : Int) + 25 ≤ (N : Int) := by omega
  have hNb : N ≤ 281474976710656 := by omega
  rw [← hN] at hh4 ⊢
  have HNN := Lib.hid hN
  clear hN
  go_still_tail 5, (by kernel_rfl)
  have hlenL : (l.map B).length = n := by rw [List.length_map, HN.out]
  have hlenR : (r.map B).length = m := by rw [List.length_map, HM.out]
  have hlenH : ((headB r).map B).length = 25 := by rw [List.length_map, headB_len]
  have hlen4 : (splice (List.replicate N (B 0)) 0 (l.map B)).length = N := by rw [length_splice _ _ _ (by rw [List.length_replicate, hlenL]; omega), List.length_replicate]
  change wpList _ _ _ _ _ w4.drew
  have hh4d : w4.drew.heap[g]? = some (.cells (splice (List.replicate N (B 0)) 0 (l.map B)).toArray 5 (0, 0)) := hh4.out
  have hh24d : w4.drew.heap[w1.heap.size]? = some (.cells ((headB r).map B).toArray 49 (0, 0)) := hh24
  have hrd24 := rd_of_heap hh24d
  refine copy_b rfl (.tmp 26) (.tmp 27) rfl g n _ 5 hh4d _ _ _ _ _ _ rfl rfl rfl ((headB r).map B) 25 hlenH (by omega) (by omega) (by omega) hrd24 (B_oneCell _) (by omega) ?_
  intro w5 hh5 hb5
  have hb5' : Below g w4 w5 := ⟨hb5.os, hb5.tape, hb5.output, hb5.size, hb5.block⟩
  have hb15 : Below w.heap.size w w5 := hb1.trans ((hb14.mono hs1).trans (hb5'.mono (by omega)))
  have h25 : Rd w5 b (r.map B) := h21.below (hb14.trans (hb5'.mono (by omega)))
  have hlen5 : (splice (splice (List.replicate N (B 0)) 0 (l.map B)) n ((headB r).map B)).length = N := by rw [length_splice _ _ _ (by rw [hlen4, hlenH]; omega), hlen4]
  have HL5 := Lib.hid hlen5
  have HLL := Lib.hid hlenL
  have HLR := Lib.hid hlenR
  have HLH := Lib.hid hlenH
  clear hlenL hlenH hlen4 hlen5 hb5 hb5' hh4 hh24 hh4d hh24d hrd24 hb14 h21 h1 hb1 hlenR
  go_wp2_with (first | ((with_reducible refine at_dst 35 ?_); refine copy_b rfl (.tmp 33) (.tmp 34) rfl g (n + 25) _ 5 hh5.out _ _ _ _ _ _ rfl rfl rfl (r.map B) m HLR.out (by omega) (by have := HNN.out; omega) (by omega) h25 (B_oneCell _) (by have := HNN.out; rw [HL5.out]; omega) ?_; intro w6 hh6 hb6) | fail)
  go_ret2
  have hfin : splice (splice (splice (List.replicate N (B 0)) 0 (l.map B)) n ((headB r).map B)) (n + 25) (r.map B) = (appB l r).map B := by
    rw [HNN.out, splice_all n m _ _ _ HLL.out HLH.out HLR.out, appB, List.map_append, List.map_append]
  have h6 := hh6.out
  rw [hfin] at h6
  refine ⟨some ⟨g, 0, none⟩, N, ?_, ?_, hb15.trans (hb6.mono (by omega))⟩
  · rw [HNN.out]; rfl
  · rw [← HNN.out]
    exact own_of_heap h6 (by omega) (by have h7 := congrArg List.length hfin; rw [length_splice _ _ _ (by rw [HL5.out, HLR.out]; have := HNN.out; omega), HL5.out] at h7; exact h7.symm) (by unfold maxLen; omega)
theorem rappend_some (a b : Option Addr) (cap cap2 n m : Nat) (l r : List UInt8) (w : World) (hn : l.length = n) (hm : r.length = m) (hl : n + 25 + m ≤ 140737488355328) (hm0 : 0 < m)
    (h : Rd w a (l.map B)) (h2 : Rd w b (r.map B)) :
    Calls Try.prog 16 #[.slice a n cap, .slice b m cap2] w fun e w' => ∃ a' c', e = .returned (.tuple #[.slice a' (n + 25 + m) c', .int .i64 0]) ∧
      w'.ownsRow w.heap.size 5 1 (.slice a' (n + 25 + m) c') (n + 25 + m) ((appB l r).map B) ∧ Below w.heap.size w w' := by
  have HN := Lib.hid hn
  have HM := Lib.hid hm
  have hne : ((m : Int) == 0) = false := eql_of' (by omega)
  clear hn hm
  go_enter Try.func16, Try.ntmps16
  go_wp2_with (first | (at_builtin; refine app_b _ rfl (.tmp 10) (.tmp 11) rfl w.heap.size (.slice none 0 0) 0 [] rfl (World.ownsRow_nil _ _ _ _) a n cap l rfl HN.out h (by omega) (Nat.le_refl _) ?_; intro a1 c1 w1 hown1 hbel1 hmv1; simp only [Nat.zero_add, List.nil_append] at hown1 hmv1 ⊢) | fail)
  have h21 := h2.below hbel1
  have hs1 := hbel1.size
  clear hmv1
  refine (rhead_any b cap2 m r w1 HM.out (by omega) h21).mono ?_
  rintro e w2 ⟨a2, c2, rfl, hown2, hb2⟩
  have hownA := ownsRow_below hown1 hb2
  have hb12 := hbel1.trans (hb2.mono hs1)
  have hs2 := hb12.size
  have h22 := h21.below hb2
  have hr2 := ownsRow_rd hown2
  have hnl := headB_len r
  clear h21 hb2 hown2 hown1 hbel1
  go_wp2_with (first | (at_builtin; refine app_b _ rfl (.tmp 13) (.tmp 15) rfl w.heap.size (.slice a1 n c1) n l rfl hownA a2 25 c2 _ rfl hnl hr2 (by omega) hs2 ?_; intro a3 c3 w3 hown3 hbel3 hmv3) |
    (at_builtin; refine app_b _ rfl (.tmp 17) (.tmp 18) rfl w.heap.size (.slice a3 (n + 25) c3) (n + 25) _ rfl hown3 b m cap2 r rfl HM.out (h2.below (hb12.trans hbel3)) (by omega) (hb12.trans hbel3).size ?_; intro a4 c4 w4 hown4 hbel4 hmv4) | fail)
  go_ret2
  refine ⟨a4, c4, rfl, ?_, (hb12.trans hbel3).trans hbel4⟩
  have e : l ++ headB r ++ r = appB l r := by simp [appB]
  rw [e] at hown4
  exact hown4
#print axioms append_some
#print axioms rappend_some
end Go.Proofs.Ytiebnfdjnclkcaa
