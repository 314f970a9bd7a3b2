/- The walks of the journal's leaves: twin, the two sums, same. -/
import Derived.Test.YtiebnfdjnclkcaaChecked
import Derived.Test.YtiebnfdjnclkcaaPlain
set_option linter.unusedVariables false
namespace Go.Proofs.Ytiebnfdjnclkcaa
open Go.RowKit
theorem info5 : (Try.prog.info? 5).map (fun i => (i.zero, i.size, i.bytes)) = some (some (.int .u8 0), 1, 1) := by kernel_rfl

theorem twin_any (a : Option Addr) (cap : Nat) (l : List UInt8) (w : World) (hl : l.length ≤ 140737488355328) (h : Rd w a (l.map B)) :
    Calls Try.prog 11 #[.slice a l.length cap] w fun e w' => ∃ a' c', e = .returned (.slice a' l.length c') ∧ w'.ownsRow w.heap.size 5 1 (.slice a' l.length c') l.length (l.map B) ∧ Below w.heap.size w w' := by
  obtain ⟨i0, hi, hz0, hz1, hz2⟩ := info_parts info5
  go_enter Try.func11, Try.ntmps11
  go_wp2_with (at_builtin; refine wpList_append_rd _ rfl _ _ 22 rfl w.heap.size 5 i0 (.int .u8 0) 1 1 Try.underlying22 hi hz0 hz1 hz2 rfl (by decide) _ 0 [] rfl (World.ownsRow_made _ _ _ (Nat.le_refl _) (by decide) rfl) a l.length cap (l.map B) rfl (by simp) (h.below ((Below.refl _ _).alloc (Nat.le_refl _) _)) (B_oneCell l) (by unfold maxLen; omega) (by omega) (by simp) ?_; intro a' c' w' hown hbel _; simp only [Nat.zero_add, List.nil_append] at hown ⊢)
  go_ret
  exact ⟨a', c', rfl, hown, ((Below.refl _ _).alloc (Nat.le_refl _) _).trans hbel⟩

theorem ret_val {v v' : Value} (h : v = v') : Ending.returned v = .returned v' := by rw [h]

theorem sum_any (a : Option Addr) (cap : Nat) (l : List UInt8) (w : World) (hl : l.length ≤ 140737488355328) (h : Rd w a (l.map B)) :
    Calls Try.prog 12 #[.slice a l.length cap] w fun e w' => e = .returned (U (fnv l)) ∧ w = w' := by
  go_enter Try.func12, Try.ntmps12
  go_wp2
  go_loop [3, 5, 8, 9] (fun h x i t => ∃ k : Nat, k ≤ l.length ∧ i = .int .i64 k ∧ h = .int .u64 ((fnv (l.take k)).toNat : Int)) (fun _ _ i _ => l.length - (intOf i).toNat)
  case atStart => exact ⟨0, Nat.zero_le _, rfl, by rw [List.take_zero, fnv_nil]; rfl⟩
  case round =>
    obtain ⟨k, hk, rfl, rfl⟩ := hrel
    by_cases hlt : k < l.length
    · obtain ⟨b, off, rfl, hc⟩ := h.cells (by intro h; simp at h; subst h; simp at hlt)
      have hc' := hc k (by simpa using hlt)
      have hb := (l[k]).toNat_lt
      rw [List.getElem_map, B] at hc'
      clear hc
      have HS := Lib.hid ((fnvStep_prog (fnv (l.take k)) l[k]).trans (by rw [← fnv_take l k hlt]))
      go_wp2
      go_round
      case rel => exact ⟨k + 1, by omega, by go_num, by rw [HS.out]⟩
      case measure => simp [intOf]; omega
    · go_wp2
      go_ret
      exact ⟨ret_val (by rw [List.take_of_length_le (by omega)]; rfl), rfl⟩

theorem rsum_any (a : Option Addr) (cap : Nat) (l : List UInt8) (w : World) (hl : l.length ≤ 140737488355328) (h : Rd w a (l.map B)) :
    Calls Try.prog 13 #[.slice a l.length cap] w fun e w' => e = .returned (U (fnv l)) ∧ w = w' := by
  go_enter Try.func13, Try.ntmps13
  go_wp2
  go_loop [3, 4] (fun h i => ∃ k : Nat, k ≤ l.length ∧ i = .int .i64 k ∧ h = .int .u64 ((fnv (l.take k)).toNat : Int)) (fun _ i => l.length - (intOf i).toNat)
  case atStart => exact ⟨0, Nat.zero_le _, rfl, by rw [List.take_zero, fnv_nil]; rfl⟩
  case round =>
    obtain ⟨k, hk, rfl, rfl⟩ := hrel
    by_cases hlt : k < l.length
    · obtain ⟨b, off, rfl, hc⟩ := h.cells (by intro h; simp at h; subst h; simp at hlt)
      have hc' := hc k (by simpa using hlt)
      have hb := (l[k]).toNat_lt
      rw [List.getElem_map, B] at hc'
      clear hc
      have HS := Lib.hid ((fnvStep_ref (fnv (l.take k)) l[k]).trans (by rw [← fnv_take l k hlt]))
      go_wp2
      go_round
      case rel => exact ⟨k + 1, by omega, by go_num, by rw [HS.out]⟩
      case measure => simp [intOf]; omega
    · go_wp2
      go_ret
      exact ⟨ret_val (by rw [List.take_of_length_le (by omega)]; rfl), rfl⟩

/-- The first k bytes are the same. -/
def Alk (l m : List UInt8) (k : Nat) : Prop := l.take k = m.take k

theorem same_any (a b : Option Addr) (cap cap2 : Nat) (l m : List UInt8) (w : World) (hl : l.length ≤ 140737488355328) (h : Rd w a (l.map B)) (h2 : Rd w b (m.map B)) :
    Calls Try.prog 14 #[.slice a l.length cap, .slice b m.length cap2] w fun e w' => e = .returned (.bool (l == m)) ∧ ∃ n, w' = w.drewN n := by
  by_cases hlen : l.length = m.length
  · have hd : ((l.length : Int) != m.length) = false := by simp [hlen]
    have H := Lib.hid hlen
    clear hlen
    go_enter Try.func14, Try.ntmps14
    go_wp2
    go_loopw [5] (fun i wr => ∃ k n : Nat, k ≤ l.length ∧ i = .int .i64 k ∧ Alk l m k ∧ wr = w.drewN n) (fun i _ => l.length - (intOf i).toNat)
    case atStart => exact ⟨0, 0, Nat.zero_le _, rfl, rfl, rfl⟩
    case round =>
      obtain ⟨k, n, hk, rfl, hal, rfl⟩ := hrel
      have HA := Lib.hid hal
      clear hal
      by_cases hlt : k < l.length
      · have hltm : k < m.length := by have := H.out; omega
        obtain ⟨b1, off1, rfl, hc⟩ := h.cells (by intro h; simp at h; subst h; simp at hlt)
        have hc' := hc k (by simpa using hlt)
        have hb := (l[k]).toNat_lt
        rw [List.getElem_map, B] at hc'
        obtain ⟨b2, off2, rfl, hd2⟩ := h2.cells (by intro h; simp at h; subst h; simp at hltm)
        have hd2' := hd2 k (by simpa using hltm)
        have hb2 := (m[k]).toNat_lt
        rw [List.getElem_map, B] at hd2'
        clear hc hd2
        have hlt' : (k : Int) < l.length := by omega
        have hlt2' : (k : Int) < m.length := by omega
        by_cases hx : l[k] = m[k]
        · have hxx : (((l[k]).toNat : Int) != ((m[k]).toNat : Int)) = false := by simp [hx]
          have HX := Lib.hid hx
          clear hx
          go_wp2_with (go_quiet (fail))
          go_roundw
          case rel => exact ⟨k + 1, _, by omega, by go_num, by unfold Alk; rw [take_snoc l k hlt, take_snoc m k hltm, HX.out]; rw [show l.take k = m.take k from HA.out], rfl⟩
          case measure => simp [intOf]; omega
        · have hxx : (((l[k]).toNat : Int) != ((m[k]).toNat : Int)) = true := by simp; exact fun h => hx (UInt8.toNat_inj.1 (by omega))
          have HX := Lib.hid hx
          clear hx
          go_wp2_with (go_quiet (fail))
          go_ret
          refine ⟨ret_val ?_, _, World.drewN_drewN _ _ _⟩
          have hne : l ≠ m := by intro he; exact HX.out (by simp [he])
          simp [hne]
      · have hd : ¬ (k : Int) < l.length := by omega
        go_wp2
        go_ret
        refine ⟨ret_val ?_, n, rfl⟩
        have h3 : l.take k = m.take k := HA.out
        rw [List.take_of_length_le (by omega), List.take_of_length_le (by have := H.out; omega)] at h3
        simp [h3]
  · have hd : ((l.length : Int) != m.length) = true := by simp; omega
    have H := Lib.hid hlen
    clear hlen
    go_enter Try.func14, Try.ntmps14
    go_wp2
    go_ret
    refine ⟨ret_val ?_, 0, rfl⟩
    have hne : l ≠ m := by intro he; exact H.out (by simp [he])
    simp [hne]
/-- Draws turn no block. -/
theorem below_draws {B n : Nat} (w : World) : Below B w (w.drewN n) := ⟨rfl, rfl, rfl, Nat.le_refl _, fun _ _ => rfl⟩

theorem same_b (a b : Option Addr) (cap cap2 : Nat) (l m : List UInt8) (w : World) (hl : l.length ≤ 140737488355328) (h : Rd w a (l.map B)) (h2 : Rd w b (m.map B)) :
    Calls Try.prog 14 #[.slice a l.length cap, .slice b m.length cap2] w fun e w' => e = .returned (.bool (l == m)) ∧ Below w.heap.size w w' :=
  (same_any a b cap cap2 l m w hl h h2).mono fun e w' ⟨he, n, hn⟩ => ⟨he, hn ▸ below_draws w⟩
/-- 'append(s, x...)' of bytes. -/
theorem app_b (w : World) {ops : Array Oper} {rest : List Oper} {o : Oper} {a : Act} {Q : Exit → Act → World → Prop} (hgd : o.guard = none) (s x : Operand)
    (ho : o.op = .call { callee := .builtin .append, args := #[s, x], argTypes := #[22, 22] }) (base : Nat) (v : Value) (n : Nat) (l1 : List UInt8) (hs : a.eval s = v) (hown : w.ownsRow base 5 1 v n (l1.map B))
    (ao : Option Addr) (m c : Nat) (l2 : List UInt8) (hx : a.eval x = .slice ao m c) (hl : l2.length = m) (hrd : Rd w ao (l2.map B)) (hb : n + m ≤ 140737488355328) (hbase : base ≤ w.heap.size)
    (h : ∀ a' c' w', w'.ownsRow base 5 1 (.slice a' (n + m) c') (n + m) ((l1 ++ l2).map B) → Below base w w' → Moved w w' v (.slice a' (n + m) c') →
      wpList Try.prog ops Q rest (a.put o.dst (.slice a' (n + m) c')) w') : wpList Try.prog ops Q (o :: rest) a w := by
  obtain ⟨i0, hi, hz0, hz1, hz2⟩ := info_parts info5
  refine wpList_append_rd w hgd s x 22 ho base 5 i0 (.int .u8 0) 1 1 Try.underlying22 hi hz0 hz1 hz2 rfl (by decide) v n _ hs hown ao m c _ hx (by simp [hl]) hrd (B_oneCell l2) (by unfold maxLen; omega) (by omega) hbase ?_
  intro a' c' w' h1 h2 h3
  rw [← List.map_append] at h1
  exact h a' c' w' h1 h2 h3

/-- 'append(s, x)' of one byte. -/
theorem app_b1 (w : World) {ops : Array Oper} {rest : List Oper} {o : Oper} {a : Act} {Q : Exit → Act → World → Prop} (hgd : o.guard = none) (s x : Operand)
    (ho : o.op = .call { callee := .builtin .append, args := #[s, x], argTypes := #[22, 22] }) (base : Nat) (v : Value) (n : Nat) (l1 : List UInt8) (hs : a.eval s = v) (hown : w.ownsRow base 5 1 v n (l1.map B))
    (y : Value) (u : UInt8) (hy : y = B u) (hx : a.eval x = .slice (some ⟨w.heap.size, 0, none⟩) 1 1) (hb : n + 1 ≤ 140737488355328) (hbase : base ≤ w.heap.size)
    (h : ∀ a' c' w', w'.ownsRow base 5 1 (.slice a' (n + 1) c') (n + 1) ((l1 ++ [u]).map B) → Below base w w' → Moved (w.alloc (.cells #[y] 5)) w' v (.slice a' (n + 1) c') →
      wpList Try.prog ops Q rest (a.put o.dst (.slice a' (n + 1) c')) w') : wpList Try.prog ops Q (o :: rest) a (w.alloc (.cells #[y] 5)) := by
  subst hy
  obtain ⟨i0, hi, hz0, hz1, hz2⟩ := info_parts info5
  refine wpList_append_one w hgd s x 22 ho base 5 i0 (.int .u8 0) 1 1 Try.underlying22 hi hz0 hz1 hz2 rfl (by decide) v n _ _ hs hown hx rfl (by intro z hz; simp at hz; subst hz; rfl) (by unfold maxLen; omega) (by omega) hbase ?_
  intro a' c' w' h1 h2 h3
  exact h a' c' w' (by simpa using h1) h2 h3

/-! The same contracts, the length under a name of its own. -/
theorem twin_n (a : Option Addr) (cap n : Nat) (l : List UInt8) (w : World) (hn : l.length = n) (hl : n ≤ 140737488355328) (h : Rd w a (l.map B)) :
    Calls Try.prog 11 #[.slice a n cap] w fun e w' => ∃ a' c', e = .returned (.slice a' n c') ∧ w'.ownsRow w.heap.size 5 1 (.slice a' n c') n (l.map B) ∧ Below w.heap.size w w' := by
  subst hn; exact twin_any a cap l w hl h
theorem sum_n (a : Option Addr) (cap n : Nat) (l : List UInt8) (w : World) (hn : l.length = n) (hl : n ≤ 140737488355328) (h : Rd w a (l.map B)) :
    Calls Try.prog 12 #[.slice a n cap] w fun e w' => e = .returned (U (fnv l)) ∧ w = w' := by
  subst hn; exact sum_any a cap l w hl h
theorem rsum_n (a : Option Addr) (cap n : Nat) (l : List UInt8) (w : World) (hn : l.length = n) (hl : n ≤ 140737488355328) (h : Rd w a (l.map B)) :
    Calls Try.prog 13 #[.slice a n cap] w fun e w' => e = .returned (U (fnv l)) ∧ w = w' := by
  subst hn; exact rsum_any a cap l w hl h
theorem same_n (a b : Option Addr) (cap cap2 n n2 : Nat) (l m : List UInt8) (w : World) (hn : l.length = n) (hn2 : m.length = n2) (hl : n ≤ 140737488355328) (h : Rd w a (l.map B)) (h2 : Rd w b (m.map B)) :
    Calls Try.prog 14 #[.slice a n cap, .slice b n2 cap2] w fun e w' => e = .returned (.bool (l == m)) ∧ Below w.heap.size w w' := by
  subst hn; subst hn2; exact same_b a b cap cap2 l m w hl h h2
#print axioms same_b
end Go.Proofs.Ytiebnfdjnclkcaa
