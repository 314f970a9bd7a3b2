/- append of ints. -/
import Derived.Test.YtgpefemnabjfcaaW5
set_option linter.unusedVariables false
namespace Go.Proofs.Ytgpefemnabjfcaa
open Go.RowKit
/-- 'append(s, x...)' of ints. -/
theorem app_z (w : World) {ops : Array Oper} {rest : List Oper} {o : Oper} {a : Act} {Q : Exit → Act → World → Prop} (hgd : o.guard = none) (s x : Operand)
    (ho : o.op = .call { callee := .builtin .append, args := #[s, x], argTypes := #[22, 22] }) (base : Nat) (v : Value) (n : Nat) (l1 : List Int) (hs : a.eval s = v) (hown : w.ownsRow base 3 1 v n (l1.map Z))
    (ao : Option Addr) (m c : Nat) (l2 : List Int) (hx : a.eval x = .slice ao m c) (hl : l2.length = m) (hrd : Rd w ao (l2.map Z)) (hb : (n + m) * 8 ≤ 140737488355328) (hbase : base ≤ w.heap.size)
    (h : ∀ a' c' w', w'.ownsRow base 3 1 (.slice a' (n + m) c') (n + m) ((l1 ++ l2).map Z) → Below base w w' → Moved w w' v (.slice a' (n + m) c') →
      wpList Try.prog ops Q rest (a.put o.dst (.slice a' (n + m) c')) w') : wpList Try.prog ops Q (o :: rest) a w := by
  obtain ⟨i0, hi, hz0, hz1, hz2⟩ := info_parts info3
  refine wpList_append_rd w hgd s x 22 ho base 3 i0 (.int .i64 0) 1 8 Try.underlying22 hi hz0 hz1 hz2 rfl (by decide) v n _ hs hown ao m c _ hx (by simp [hl]) hrd (Z_oneCell l2) (by unfold maxLen; omega) hb hbase ?_
  intro a' c' w' h1 h2 h3
  rw [← List.map_append] at h1
  exact h a' c' w' h1 h2 h3
/-- 'append(s, x)' of one int. -/
theorem app_z1 (w : World) {ops : Array Oper} {rest : List Oper} {o : Oper} {a : Act} {Q : Exit → Act → World → Prop} (hgd : o.guard = none) (s x : Operand)
    (ho : o.op = .call { callee := .builtin .append, args := #[s, x], argTypes := #[22, 22] }) (base : Nat) (v : Value) (n : Nat) (l1 : List Int) (hs : a.eval s = v) (hown : w.ownsRow base 3 1 v n (l1.map Z))
    (y : Int) (hx : a.eval x = .slice (some ⟨w.heap.size, 0, none⟩) 1 1) (hb : (n + 1) * 8 ≤ 140737488355328) (hbase : base ≤ w.heap.size)
    (h : ∀ a' c' w', w'.ownsRow base 3 1 (.slice a' (n + 1) c') (n + 1) ((l1 ++ [y]).map Z) → Below base w w' → Moved (w.alloc (.cells #[.int .i64 y] 3)) w' v (.slice a' (n + 1) c') →
      wpList Try.prog ops Q rest (a.put o.dst (.slice a' (n + 1) c')) w') : wpList Try.prog ops Q (o :: rest) a (w.alloc (.cells #[.int .i64 y] 3)) := by
  obtain ⟨i0, hi, hz0, hz1, hz2⟩ := info_parts info3
  refine wpList_append_one w hgd s x 22 ho base 3 i0 (.int .i64 0) 1 8 Try.underlying22 hi hz0 hz1 hz2 rfl (by decide) v n _ _ hs hown hx rfl (by intro z hz; simp at hz; subst hz; rfl) (by unfold maxLen; omega) hb hbase ?_
  intro a' c' w' h1 h2 h3
  exact h a' c' w' (by simpa [Z] using h1) h2 h3
theorem set_prefix {q n : Nat} {p l : List Value} (u : Value) (hp : p.length = q) (hq : q < l.length) : (p ++ l.drop q).set q u = (p ++ [u]) ++ l.drop (q + 1) := by
  rw [List.set_append_right _ _ (by omega), hp, Nat.sub_self, List.drop_eq_getElem_cons hq, List.set_cons_zero]
  simp
theorem meas_lt {q k : Nat} (h : q < k) : k - (intOf (.int .i64 ((q : Int) + 1))).toNat < k - (intOf (.int .i64 (q : Int))).toNat := by
  simp [intOf]
  omega

theorem acked_v (a : Option Addr) (cap n : Nat) (zs : List Int) (q av : Int) (w : World) (hn : zs.length = n) (hmax : n * 8 ≤ 140737488355328) (h : Rd w a (zs.map Z)) (hav : ackedZ zs q = av) :
    Calls Try.prog 4 #[.slice a n cap, .int .i64 q] w fun e w' => e = .returned (.int .i64 av) ∧ Below w.heap.size w w' := by
  subst hav
  exact acked_any a cap n zs q w hn hmax h
theorem racked_v (a : Option Addr) (cap n : Nat) (zs : List Int) (q av : Int) (w : World) (hn : zs.length = n) (hmax : n ≤ 140737488355328) (h : Rd w a (zs.map Z)) (hav : ackedZ zs q = av) :
    Calls Try.prog 5 #[.slice a n cap, .int .i64 q] w fun e w' => e = .returned (.int .i64 av) ∧ w = w' := by
  subst hav
  rw [acked_best]
  exact racked_any a cap n zs q w hn hmax h
theorem chunk_v (a : Option Addr) (cap n K : Nat) (l ch : List UInt8) (at_ most : Int) (w : World) (hn : l.length = n) (hcap : n ≤ cap) (hmax : n ≤ 140737488355328) (h : Rd w a (l.map B)) (hch : chunkB l at_ most = ch) (hK : ch.length = K) :
    Calls Try.prog 7 #[.slice a n cap, .int .i64 at_, .int .i64 most] w fun e w' => ∃ a' c', e = .returned (.slice a' K c') ∧ w'.ownsRow w.heap.size 5 1 (.slice a' K c') K (ch.map B) ∧ Below w.heap.size w w' := by
  subst hch
  subst hK
  exact chunk_n a cap n l at_ most w hn hcap hmax h
theorem rchunk_v (a : Option Addr) (cap n K : Nat) (l ch : List UInt8) (at_ most : Int) (w : World) (hn : l.length = n) (hmax : n ≤ 140737488355328) (h : Rd w a (l.map B)) (hat : at_ ≤ 9223372036854775807) (hch : chunkB l at_ most = ch) (hK : ch.length = K) :
    Calls Try.prog 8 #[.slice a n cap, .int .i64 at_, .int .i64 most] w fun e w' => ∃ a' c', e = .returned (.slice a' K c') ∧ w'.ownsRow w.heap.size 5 1 (.slice a' K c') K (ch.map B) ∧ Below w.heap.size w w' := by
  subst hch
  subst hK
  exact rchunk_n a cap n l at_ most w hn hmax h hat
theorem chunkB_le (l : List UInt8) (at_ most : Int) : (chunkB l at_ most).length ≤ l.length := by
  unfold chunkB
  split
  · simp
  · rw [List.length_take, List.length_drop]; omega
def inv255 (x : UInt8) : UInt8 := 255 - x
theorem inv255_val (x : UInt8) : (255 : Int) - (x.toNat : Int) = ((inv255 x).toNat : Int) := by
  have h := x.toNat_lt
  unfold inv255
  rw [UInt8.toNat_sub_of_le _ _ (by rw [UInt8.le_iff_toNat_le]; simp; omega)]
  simp
  omega
theorem own_ne {w : World} {b1 b2 e1 e2 s1 s2 n1 n2 : Nat} {u v : Value} {xs ys : List Value} (h1 : w.ownsRow b1 e1 s1 u n1 xs) (h2 : w.ownsRow b2 e2 s2 v n2 ys) (hne : e1 ≠ e2) : u.ownBlock = none ∨ u.ownBlock ≠ v.ownBlock := by
  rcases h1.2 with ⟨rfl, _⟩ | ⟨g, cap, cur, rfl, _, hg, _⟩
  · exact .inl rfl
  · right
    rcases h2.2 with ⟨rfl, _⟩ | ⟨g2, cap2, cur2, rfl, _, hg2, _⟩
    · simp [Value.ownBlock]
    · simp only [Value.ownBlock, ne_eq, Option.some.injEq]
      intro h
      subst h
      rw [hg] at hg2
      simp at hg2
      exact hne hg2.2
/-- Of a list of n values the first j are turned. -/
def turned (xs ys : List Value) (j : Nat) : List Value := ys.take j ++ xs.drop j
theorem turned_zero (xs ys : List Value) : turned xs ys 0 = xs := by simp [turned]
theorem turned_all {xs ys : List Value} {n : Nat} (hx : xs.length = n) (hy : ys.length = n) : turned xs ys n = ys := by
  unfold turned
  rw [List.take_of_length_le (by omega), List.drop_of_length_le (by omega), List.append_nil]
theorem turned_get {xs ys : List Value} {n j : Nat} (hx : xs.length = n) (hy : ys.length = n) (hj : j < n) : (turned xs ys j)[j]? = some (xs[j]'(by omega)) := by
  unfold turned
  have hl : (ys.take j).length = j := by rw [List.length_take]; omega
  rw [List.getElem?_append_right (by omega), hl, Nat.sub_self, List.getElem?_drop, Nat.add_zero, List.getElem?_eq_getElem (by omega)]
theorem turned_set {xs ys : List Value} {n j : Nat} (hx : xs.length = n) (hy : ys.length = n) (hj : j < n) : (turned xs ys j).set j (ys[j]'(by omega)) = turned xs ys (j + 1) := by
  unfold turned
  have hl : (ys.take j).length = j := by rw [List.length_take]; omega
  rw [List.set_append_right _ _ (by omega), hl, Nat.sub_self, List.drop_eq_getElem_cons (by omega), List.set_cons_zero, List.take_succ_eq_append_getElem (by omega), List.append_assoc]
  rfl
theorem turned_same {xs ys : List Value} {j : Nat} (h : xs.drop j = ys.drop j) : turned xs ys j = ys := by
  unfold turned
  rw [h, List.take_append_drop]
#print axioms chunk_v
end Go.Proofs.Ytgpefemnabjfcaa
