/- The walks of the wire's leaves: copied, Same. -/
import Derived.Test.YtaipnbpefdcejaaRows
import Derived.Test.YtaipnbpefdcejaaLib
set_option linter.unusedVariables false
namespace Go.Proofs.Ytaipnbpefdcejaa
open Go.RowKit
theorem info5 : (Try.prog.info? 5).map (fun i => (i.zero, i.size, i.bytes)) = some (some (.int .u8 0), 1, 1) := by kernel_rfl
theorem ret_val {v v' : Value} (h : v = v') : Ending.returned v = .returned v' := by rw [h]
theorem take_snoc {α : Type} (l : List α) (k : Nat) (h : k < l.length) : l.take (k + 1) = l.take k ++ [l[k]] := by
  rw [List.take_succ_eq_append_getElem h]
theorem neq_of {a b : Int} (h : a = b) : (a != b) = false := by simp [h]
theorem neq_of' {a b : Int} (h : a ≠ b) : (a != b) = true := by simp [h]
theorem eql_of {a b : Int} (h : a = b) : (a == b) = true := by simp [h]
theorem eql_of' {a b : Int} (h : a ≠ b) : (a == b) = false := by simp [h]

/-- The first k bytes are the same. -/
def Alk (l m : List UInt8) (k : Nat) : Prop := l.take k = m.take k

theorem same_any (a b : Option Addr) (cap cap2 : Nat) (l m : List UInt8) (w : World) (hl : l.length ≤ 140737488355328) (h : Rd w a (l.map B)) (h2 : Rd w b (m.map B)) :
    Calls Try.prog 19 #[.slice a l.length cap, .slice b m.length cap2] w fun e w' => e = .returned (.bool (l == m)) ∧ ∃ n, w' = w.drewN n := by
  by_cases hlen : l.length = m.length
  · have hd : ((l.length : Int) != m.length) = false := by simp [hlen]
    have H := Lib.hid hlen
    clear hlen
    go_enter Try.func19, Try.ntmps19
    go_wp2
    go_loopw [5] (fun i wr => ∃ k n : Nat, k ≤ l.length ∧ i = .int .i64 k ∧ Alk l m k ∧ wr = w.drewN n) (fun i _ => l.length - (intOf i).toNat)
    case atStart => exact ⟨0, 0, Nat.zero_le _, rfl, rfl, rfl⟩
    case round =>
      obtain ⟨k, n, hk, rfl, hal, rfl⟩ := hrel
      have HA := Lib.hid hal
      clear hal
      by_cases hlt : k < l.length
      · have hltm : k < m.length := by have := H.out; omega
        obtain ⟨b1, off1, rfl, hc⟩ := h.cells (by intro h; simp at h; subst h; simp at hlt)
        have hc' := hc k (by simpa using hlt)
        have hb := (l[k]).toNat_lt
        rw [List.getElem_map, B] at hc'
        obtain ⟨b2, off2, rfl, hd2⟩ := h2.cells (by intro h; simp at h; subst h; simp at hltm)
        have hd2' := hd2 k (by simpa using hltm)
        have hb2 := (m[k]).toNat_lt
        rw [List.getElem_map, B] at hd2'
        clear hc hd2
        have hlt' : (k : Int) < l.length := by omega
        have hlt2' : (k : Int) < m.length := by omega
        by_cases hx : l[k] = m[k]
        · have hxx : (((l[k]).toNat : Int) != ((m[k]).toNat : Int)) = false := by simp [hx]
          have HX := Lib.hid hx
          clear hx
          go_wp2_with (go_quiet (fail))
          go_roundw
          case rel => exact ⟨k + 1, _, by omega, by go_num, by unfold Alk; rw [take_snoc l k hlt, take_snoc m k hltm, HX.out]; rw [show l.take k = m.take k from HA.out], rfl⟩
          case measure => simp [intOf]; omega
        · have hxx : (((l[k]).toNat : Int) != ((m[k]).toNat : Int)) = true := by simp; exact fun h => hx (UInt8.toNat_inj.1 (by omega))
          have HX := Lib.hid hx
          clear hx
          go_wp2_with (go_quiet (fail))
          go_ret
          refine ⟨ret_val ?_, _, World.drewN_drewN _ _ _⟩
          have hne : l ≠ m := by intro he; exact HX.out (by simp [he])
          simp [hne]
      · have hd : ¬ (k : Int) < l.length := by omega
        go_wp2
        go_ret
        refine ⟨ret_val ?_, n, rfl⟩
        have h3 : l.take k = m.take k := HA.out
        rw [List.take_of_length_le (by omega), List.take_of_length_le (by have := H.out; omega)] at h3
        simp [h3]
  · have hd : ((l.length : Int) != m.length) = true := by simp; omega
    have H := Lib.hid hlen
    clear hlen
    go_enter Try.func19, Try.ntmps19
    go_wp2
    go_ret
    refine ⟨ret_val ?_, 0, rfl⟩
    have hne : l ≠ m := by intro he; exact H.out (by simp [he])
    simp [hne]
/-- Draws turn no block. -/
theorem below_draws {B n : Nat} (w : World) : Below B w (w.drewN n) := ⟨rfl, rfl, rfl, Nat.le_refl _, fun _ _ => rfl⟩

theorem same_b (a b : Option Addr) (cap cap2 : Nat) (l m : List UInt8) (w : World) (hl : l.length ≤ 140737488355328) (h : Rd w a (l.map B)) (h2 : Rd w b (m.map B)) :
    Calls Try.prog 19 #[.slice a l.length cap, .slice b m.length cap2] w fun e w' => e = .returned (.bool (l == m)) ∧ Below w.heap.size w w' :=
  (same_any a b cap cap2 l m w hl h h2).mono fun e w' ⟨he, n, hn⟩ => ⟨he, hn ▸ below_draws w⟩
/-- 'append(s, x...)' of bytes. -/
theorem app_b (w : World) {ops : Array Oper} {rest : List Oper} {o : Oper} {a : Act} {Q : Exit → Act → World → Prop} (hgd : o.guard = none) (s x : Operand)
    (ho : o.op = .call { callee := .builtin .append, args := #[s, x], argTypes := #[23, 23] }) (base : Nat) (v : Value) (n : Nat) (l1 : List UInt8) (hs : a.eval s = v) (hown : w.ownsRow base 5 1 v n (l1.map B))
    (ao : Option Addr) (m c : Nat) (l2 : List UInt8) (hx : a.eval x = .slice ao m c) (hl : l2.length = m) (hrd : Rd w ao (l2.map B)) (hb : n + m ≤ 140737488355328) (hbase : base ≤ w.heap.size)
    (h : ∀ a' c' w', w'.ownsRow base 5 1 (.slice a' (n + m) c') (n + m) ((l1 ++ l2).map B) → Below base w w' → Moved w w' v (.slice a' (n + m) c') →
      wpList Try.prog ops Q rest (a.put o.dst (.slice a' (n + m) c')) w') : wpList Try.prog ops Q (o :: rest) a w := by
  obtain ⟨i0, hi, hz0, hz1, hz2⟩ := info_parts info5
  refine wpList_append_rd w hgd s x 23 ho base 5 i0 (.int .u8 0) 1 1 Try.underlying23 hi hz0 hz1 hz2 rfl (by decide) v n _ hs hown ao m c _ hx (by simp [hl]) hrd (B_oneCell l2) (by unfold maxLen; omega) (by omega) hbase ?_
  intro a' c' w' h1 h2 h3
  rw [← List.map_append] at h1
  exact h a' c' w' h1 h2 h3

/-- 'append(s, x)' of one byte. -/
theorem app_b1 (w : World) {ops : Array Oper} {rest : List Oper} {o : Oper} {a : Act} {Q : Exit → Act → World → Prop} (hgd : o.guard = none) (s x : Operand)
    (ho : o.op = .call { callee := .builtin .append, args := #[s, x], argTypes := #[23, 23] }) (base : Nat) (v : Value) (n : Nat) (l1 : List UInt8) (hs : a.eval s = v) (hown : w.ownsRow base 5 1 v n (l1.map B))
    (y : Value) (u : UInt8) (hy : y = B u) (hx : a.eval x = .slice (some ⟨w.heap.size, 0, none⟩) 1 1) (hb : n + 1 ≤ 140737488355328) (hbase : base ≤ w.heap.size)
    (h : ∀ a' c' w', w'.ownsRow base 5 1 (.slice a' (n + 1) c') (n + 1) ((l1 ++ [u]).map B) → Below base w w' → Moved (w.alloc (.cells #[y] 5)) w' v (.slice a' (n + 1) c') →
      wpList Try.prog ops Q rest (a.put o.dst (.slice a' (n + 1) c')) w') : wpList Try.prog ops Q (o :: rest) a (w.alloc (.cells #[y] 5)) := by
  subst hy
  obtain ⟨i0, hi, hz0, hz1, hz2⟩ := info_parts info5
  refine wpList_append_one w hgd s x 23 ho base 5 i0 (.int .u8 0) 1 1 Try.underlying23 hi hz0 hz1 hz2 rfl (by decide) v n _ _ hs hown hx rfl (by intro z hz; simp at hz; subst hz; rfl) (by unfold maxLen; omega) (by omega) hbase ?_
  intro a' c' w' h1 h2 h3
  exact h a' c' w' (by simpa using h1) h2 h3

theorem own_cap {w : World} {base e size n m : Nat} {a : Option Addr} {c : Nat} {xs : List Value} (h : w.ownsRow base e size (.slice a n c) m xs) : n ≤ c := by
  rcases h.2 with ⟨h1, _⟩ | ⟨g, cap, cur, h1, _, _, hle, _⟩
  · cases h1; exact Nat.le_refl _
  · cases h1; exact hle
theorem same_n (a b : Option Addr) (cap cap2 n n2 : Nat) (l m : List UInt8) (w : World) (hn : l.length = n) (hn2 : m.length = n2) (hl : n ≤ 140737488355328) (h : Rd w a (l.map B)) (h2 : Rd w b (m.map B)) :
    Calls Try.prog 19 #[.slice a n cap, .slice b n2 cap2] w fun e w' => e = .returned (.bool (l == m)) ∧ Below w.heap.size w w' := by
  subst hn; subst hn2; exact same_b a b cap cap2 l m w hl h h2
theorem copied_n (a : Option Addr) (cap n : Nat) (l : List UInt8) (w : World) (hn : l.length = n) (hl : n ≤ 140737488355328) (h : Rd w a (l.map B)) :
    Calls Try.prog 14 #[.slice a n cap] w fun e w' => ∃ a' c', e = .returned (.slice a' n c') ∧ w'.ownsRow w.heap.size 5 1 (.slice a' n c') n (l.map B) ∧ Below w.heap.size w w' := by
  go_enter Try.func14, Try.ntmps14
  go_wp2_with (first | (at_builtin; refine app_b w rfl _ _ rfl w.heap.size (.slice none 0 0) 0 [] rfl (World.ownsRow_nil _ _ _ _) a n cap l rfl hn h (by omega) (Nat.le_refl _) ?_; intro a' c' w' hown hbel _; simp only [Nat.zero_add, List.nil_append] at hown ⊢) | fail)
  go_ret
  exact ⟨a', c', rfl, hown, hbel⟩
#print axioms same_n
end Go.Proofs.Ytaipnbpefdcejaa
