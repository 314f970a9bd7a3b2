/- The walks over bytes: sameBytes, twin, marked, whole, Chunk, the reference's Chunk. -/
import Derived.Test.YtgpefemnabjfcaaW2
set_option linter.unusedVariables false
namespace Go.Proofs.Ytgpefemnabjfcaa
open Go.RowKit
/-- The first k bytes are the same. -/
def Alk (l m : List UInt8) (k : Nat) : Prop := l.take k = m.take k

theorem same_any (a b : Option Addr) (cap cap2 : Nat) (l m : List UInt8) (w : World) (hl : l.length ≤ 140737488355328) (h : Rd w a (l.map B)) (h2 : Rd w b (m.map B)) :
    Calls Try.prog 9 #[.slice a l.length cap, .slice b m.length cap2] w fun e w' => e = .returned (.bool (l == m)) ∧ ∃ n, w' = w.drewN n := by
  by_cases hlen : l.length = m.length
  · have hd : ((l.length : Int) != m.length) = false := by simp [hlen]
    have H := Lib.hid hlen
    clear hlen
    go_enter Try.func9, Try.ntmps9
    go_wp2
    go_loopw [5] (fun i wr => ∃ k n : Nat, k ≤ l.length ∧ i = .int .i64 k ∧ Alk l m k ∧ wr = w.drewN n) (fun i _ => l.length - (intOf i).toNat)
    case atStart => exact ⟨0, 0, Nat.zero_le _, rfl, rfl, rfl⟩
    case round =>
      obtain ⟨k, n, hk, rfl, hal, rfl⟩ := hrel
      have HA := Lib.hid hal
      clear hal
      by_cases hlt : k < l.length
      · have hltm : k < m.length := by have := H.out; omega
        obtain ⟨b1, off1, rfl, hc⟩ := h.cells (by intro h; simp at h; subst h; simp at hlt)
        have hc' := hc k (by simpa using hlt)
        have hb := (l[k]).toNat_lt
        rw [List.getElem_map, B] at hc'
        obtain ⟨b2, off2, rfl, hd2⟩ := h2.cells (by intro h; simp at h; subst h; simp at hltm)
        have hd2' := hd2 k (by simpa using hltm)
        have hb2 := (m[k]).toNat_lt
        rw [List.getElem_map, B] at hd2'
        clear hc hd2
        have hlt' : (k : Int) < l.length := by omega
        have hlt2' : (k : Int) < m.length := by omega
        by_cases hx : l[k] = m[k]
        · have hxx : (((l[k]).toNat : Int) != ((m[k]).toNat : Int)) = false := by simp [hx]
          have HX := Lib.hid hx
          clear hx
          go_wp2_with (go_quiet (fail))
          go_roundw
          case rel => exact ⟨k + 1, _, by omega, by go_num, by unfold Alk; rw [take_snoc l k hlt, take_snoc m k hltm, HX.out]; rw [show l.take k = m.take k from HA.out], rfl⟩
          case measure => simp [intOf]; omega
        · have hxx : (((l[k]).toNat : Int) != ((m[k]).toNat : Int)) = true := by simp; exact fun h => hx (UInt8.toNat_inj.1 (by omega))
          have HX := Lib.hid hx
          clear hx
          go_wp2_with (go_quiet (fail))
          go_ret
          refine ⟨ret_val ?_, _, World.drewN_drewN _ _ _⟩
          have hne : l ≠ m := by intro he; exact HX.out (by simp [he])
          simp [hne]
      · have hd : ¬ (k : Int) < l.length := by omega
        go_wp2
        go_ret
        refine ⟨ret_val ?_, n, rfl⟩
        have h3 : l.take k = m.take k := HA.out
        rw [List.take_of_length_le (by omega), List.take_of_length_le (by have := H.out; omega)] at h3
        simp [h3]
  · have hd : ((l.length : Int) != m.length) = true := by simp; omega
    have H := Lib.hid hlen
    clear hlen
    go_enter Try.func9, Try.ntmps9
    go_wp2
    go_ret
    refine ⟨ret_val ?_, 0, rfl⟩
    have hne : l ≠ m := by intro he; exact H.out (by simp [he])
    simp [hne]
/-- Draws turn no block. -/
theorem below_draws {B n : Nat} (w : World) : Below B w (w.drewN n) := ⟨rfl, rfl, rfl, Nat.le_refl _, fun _ _ => rfl⟩

theorem same_b (a b : Option Addr) (cap cap2 : Nat) (l m : List UInt8) (w : World) (hl : l.length ≤ 140737488355328) (h : Rd w a (l.map B)) (h2 : Rd w b (m.map B)) :
    Calls Try.prog 9 #[.slice a l.length cap, .slice b m.length cap2] w fun e w' => e = .returned (.bool (l == m)) ∧ Below w.heap.size w w' :=
  (same_any a b cap cap2 l m w hl h h2).mono fun e w' ⟨he, n, hn⟩ => ⟨he, hn ▸ below_draws w⟩
/-- 'append(s, x...)' of bytes. -/
theorem app_b (w : World) {ops : Array Oper} {rest : List Oper} {o : Oper} {a : Act} {Q : Exit → Act → World → Prop} (hgd : o.guard = none) (s x : Operand)
    (ho : o.op = .call { callee := .builtin .append, args := #[s, x], argTypes := #[23, 23] }) (base : Nat) (v : Value) (n : Nat) (l1 : List UInt8) (hs : a.eval s = v) (hown : w.ownsRow base 5 1 v n (l1.map B))
    (ao : Option Addr) (m c : Nat) (l2 : List UInt8) (hx : a.eval x = .slice ao m c) (hl : l2.length = m) (hrd : Rd w ao (l2.map B)) (hb : n + m ≤ 140737488355328) (hbase : base ≤ w.heap.size)
    (h : ∀ a' c' w', w'.ownsRow base 5 1 (.slice a' (n + m) c') (n + m) ((l1 ++ l2).map B) → Below base w w' → Moved w w' v (.slice a' (n + m) c') →
      wpList Try.prog ops Q rest (a.put o.dst (.slice a' (n + m) c')) w') : wpList Try.prog ops Q (o :: rest) a w := by
  obtain ⟨i0, hi, hz0, hz1, hz2⟩ := info_parts info5
  refine wpList_append_rd w hgd s x 23 ho base 5 i0 (.int .u8 0) 1 1 Try.underlying23 hi hz0 hz1 hz2 rfl (by decide) v n _ hs hown ao m c _ hx (by simp [hl]) hrd (B_oneCell l2) (by unfold maxLen; omega) (by omega) hbase ?_
  intro a' c' w' h1 h2 h3
  rw [← List.map_append] at h1
  exact h a' c' w' h1 h2 h3

/-- 'append(s, x)' of one byte. -/
theorem app_b1 (w : World) {ops : Array Oper} {rest : List Oper} {o : Oper} {a : Act} {Q : Exit → Act → World → Prop} (hgd : o.guard = none) (s x : Operand)
    (ho : o.op = .call { callee := .builtin .append, args := #[s, x], argTypes := #[23, 23] }) (base : Nat) (v : Value) (n : Nat) (l1 : List UInt8) (hs : a.eval s = v) (hown : w.ownsRow base 5 1 v n (l1.map B))
    (y : Value) (u : UInt8) (hy : y = B u) (hx : a.eval x = .slice (some ⟨w.heap.size, 0, none⟩) 1 1) (hb : n + 1 ≤ 140737488355328) (hbase : base ≤ w.heap.size)
    (h : ∀ a' c' w', w'.ownsRow base 5 1 (.slice a' (n + 1) c') (n + 1) ((l1 ++ [u]).map B) → Below base w w' → Moved (w.alloc (.cells #[y] 5)) w' v (.slice a' (n + 1) c') →
      wpList Try.prog ops Q rest (a.put o.dst (.slice a' (n + 1) c')) w') : wpList Try.prog ops Q (o :: rest) a (w.alloc (.cells #[y] 5)) := by
  subst hy
  obtain ⟨i0, hi, hz0, hz1, hz2⟩ := info_parts info5
  refine wpList_append_one w hgd s x 23 ho base 5 i0 (.int .u8 0) 1 1 Try.underlying23 hi hz0 hz1 hz2 rfl (by decide) v n _ _ hs hown hx rfl (by intro z hz; simp at hz; subst hz; rfl) (by unfold maxLen; omega) (by omega) hbase ?_
  intro a' c' w' h1 h2 h3
  exact h a' c' w' (by simpa using h1) h2 h3

theorem own_cap {w : World} {base e size n m : Nat} {a : Option Addr} {c : Nat} {xs : List Value} (h : w.ownsRow base e size (.slice a n c) m xs) : n ≤ c := by
  rcases h.2 with ⟨h1, _⟩ | ⟨g, cap, cur, h1, _, _, hle, _⟩
  · cases h1; exact Nat.le_refl _
  · cases h1; exact hle
theorem same_n (a b : Option Addr) (cap cap2 n n2 : Nat) (l m : List UInt8) (w : World) (hn : l.length = n) (hn2 : m.length = n2) (hl : n ≤ 140737488355328) (h : Rd w a (l.map B)) (h2 : Rd w b (m.map B)) :
    Calls Try.prog 9 #[.slice a n cap, .slice b n2 cap2] w fun e w' => e = .returned (.bool (l == m)) ∧ Below w.heap.size w w' := by
  subst hn; subst hn2; exact same_b a b cap cap2 l m w hl h h2

theorem twin_n (a : Option Addr) (cap n : Nat) (l : List UInt8) (w : World) (hn : l.length = n) (hl : n ≤ 140737488355328) (h : Rd w a (l.map B)) :
    Calls Try.prog 11 #[.slice a n cap] w fun e w' => ∃ a' c', e = .returned (.slice a' n c') ∧ w'.ownsRow w.heap.size 5 1 (.slice a' n c') n (l.map B) ∧ Below w.heap.size w w' := by
  have HN := Lib.hid hn
  clear hn
  go_enter Try.func11, Try.ntmps11
  go_wp2
  go_loopw [3, 4] (fun v i wr => ∃ (k : Nat) (a1 : Option Addr) (c1 : Nat), k ≤ n ∧ i = .int .i64 (k : Int) ∧ v = .slice a1 k c1 ∧ wr.ownsRow w.heap.size 5 1 v k ((l.take k).map B) ∧ Below w.heap.size w wr) (fun _ i _ => n - (intOf i).toNat)
  case atStart => exact ⟨0, none, 0, Nat.zero_le _, rfl, rfl, World.ownsRow_nil _ _ _ _, Below.refl _ _⟩
  case round =>
    obtain ⟨k, a1, c1, hk, rfl, rfl, hown, hb⟩ := hrel
    by_cases hlt : k < n
    · have hkl : k < l.length := by rw [HN.out]; exact hlt
      obtain ⟨bb, off, rfl, hc⟩ := (h.below hb).cells (by intro h0; simp at h0; subst h0; simp at hkl)
      have hc' := hc k (by simpa using hkl)
      rw [List.getElem_map, B] at hc'
      have hlt' : (k : Int) < n := by omega
      have hsz := hb.size
      have hts := take_snoc l k hkl
      obtain ⟨u, hu⟩ : ∃ u, u = l[k] := ⟨_, rfl⟩
      rw [← hu] at hc' hts
      have HT := Lib.hid hts
      clear hc hts hu
      go_wp2_with (first | (at_builtin; refine app_b1 wr rfl _ _ rfl w.heap.size (.slice a1 k c1) k (l.take k) rfl hown (.int .u8 (u.toNat : Int)) u rfl rfl (by omega) hsz ?_; intro a2 c2 w2 hown2 hb2 hmv2) | fail)
      have hb3 := hb.trans hb2
      rw [← HT.out] at hown2
      have HO := Lib.hid hown2
      have HB := Lib.hid hb3
      clear hown2 hb2 hmv2 hb3 hown
      go_wp2
      go_roundw
      case rel => exact ⟨k + 1, a2, c2, by omega, by go_num, rfl, HO.out, HB.out⟩
      case measure => simp [intOf]; omega
    · have hke : k = n := by omega
      have hge : ¬ (k : Int) < n := by omega
      subst hke
      rw [List.take_of_length_le (by rw [HN.out]; exact Nat.le_refl _)] at hown
      have HO := Lib.hid hown
      clear hown
      go_wp2
      go_ret
      exact ⟨a1, c1, rfl, HO.out, hb⟩
def marks : List UInt8 := [201, 202, 203, 204, 205, 206, 207, 208]
theorem marked_n (a : Option Addr) (cap n : Nat) (l : List UInt8) (w : World) (hn : l.length = n) (hl : n + 8 ≤ 140737488355328) (h : Rd w a (l.map B)) :
    Calls Try.prog 6 #[.slice a n cap] w fun e w' => ∃ a' c', e = .returned (.slice a' (n + 8) c') ∧ w'.ownsRow w.heap.size 5 1 (.slice a' (n + 8) c') (n + 8) ((l ++ marks).map B) ∧ Below w.heap.size w w' := by
  have HN := Lib.hid hn
  clear hn
  go_enter Try.func6, Try.ntmps6
  go_wp2_with fail
  refine (twin_n a cap n l w HN.out (by omega) h).mono ?_
  rintro e w1 ⟨a1, c1, rfl, hown, hb1⟩
  have hsz := hb1.size
  have hrd : Rd (w1.alloc (.cells #[.int .u8 201, .int .u8 202, .int .u8 203, .int .u8 204, .int .u8 205, .int .u8 206, .int .u8 207, .int .u8 208] 5)) (some ⟨w1.heap.size, 0, none⟩) (marks.map B) := rd_new w1 #[B 201, B 202, B 203, B 204, B 205, B 206, B 207, B 208] 5
  have hown' := hown.alloc (.cells #[.int .u8 201, .int .u8 202, .int .u8 203, .int .u8 204, .int .u8 205, .int .u8 206, .int .u8 207, .int .u8 208] 5)
  have hal : Below w1.heap.size w1 (w1.alloc (.cells #[.int .u8 201, .int .u8 202, .int .u8 203, .int .u8 204, .int .u8 205, .int .u8 206, .int .u8 207, .int .u8 208] 5)) := (Below.refl _ _).alloc (Nat.le_refl _) _
  have hza := hal.size
  clear hown
  go_wp2_with (first | (at_builtin; refine app_b _ rfl _ _ rfl w.heap.size (.slice a1 n c1) n l rfl hown' (some ⟨w1.heap.size, 0, none⟩) 8 8 marks rfl rfl hrd (by omega) (by omega) ?_; intro a2 c2 w2 hown2 hb2 _) | fail)
  go_ret
  exact ⟨a2, c2, rfl, hown2, hb1.trans ((hal.mono hsz).trans hb2)⟩
#print axioms marked_n
end Go.Proofs.Ytgpefemnabjfcaa
