/- A slice that is made longer byte by byte; the walk of long. -/
import Derived.Test.YtiebnfdjnclkcaaW11
set_option linter.unusedVariables false
namespace Go.Proofs.Ytiebnfdjnclkcaa
open Go.RowKit

theorem own_blk {w : World} {base e size n m c : Nat} {a : Option Addr} {xs : List Value} (h : w.ownsRow base e size (.slice a n c) m xs) : (Value.slice a n c).ownBlock = blk a := by
  rcases h.2 with ⟨h1, _⟩ | ⟨g, cap, cur, h1, _⟩
  · cases h1; rfl
  · cases h1; rfl
theorem own_addr {w : World} {base e size n m c : Nat} {a : Option Addr} {xs : List Value} (h : w.ownsRow base e size (.slice a n c) m xs) : a = (blk a).map fun g => ⟨g, 0, none⟩ := by
  rcases h.2 with ⟨h1, _⟩ | ⟨g, cap, cur, h1, _⟩
  · cases h1; rfl
  · cases h1; rfl
theorem OwnA.kept {w w' : World} {base n : Nat} {a : Option Addr} {xs : List Value} {r : Option Nat} (h : OwnA w base a n xs) (hg : w.grownBy w' r) (hne : blk a = none ∨ blk a ≠ r) : OwnA w' base a n xs := by
  obtain ⟨c, h⟩ := h
  exact ⟨c, h.kept hg (by rw [own_blk h]; exact hne)⟩
theorem OwnA.lt {w : World} {base n : Nat} {a : Option Addr} {xs : List Value} (h : OwnA w base a n xs) : ∀ k, blk a = some k → base ≤ k ∧ k < w.heap.size := by
  obtain ⟨c, h⟩ := h
  intro k hk
  exact h.lt k (by rw [own_blk h]; exact hk)
/-- The slice's beginning is the call's own too. -/
theorem own_prefix {w : World} {base m c : Nat} {a : Option Addr} {xs ys : List Value} (h : w.ownsRow base 5 1 (.slice a m c) m (xs ++ ys)) (hne : a ≠ none) : OwnA w base a xs.length xs := by
  obtain ⟨hl, h2⟩ := h
  rcases h2 with ⟨h1, _⟩ | ⟨g, cap, cur, h1, hb, hg, hnc, hcm, hcs, htk⟩
  · cases h1; exact (hne rfl).elim
  · cases h1
    rw [List.length_append, Nat.mul_one] at hl
    refine ⟨c, by simp, .inr ⟨g, c, cur, rfl, hb, hg, by omega, hcm, hcs, ?_⟩⟩
    rw [Nat.mul_one] at htk ⊢
    have := congrArg (List.take xs.length) htk
    rw [List.take_take, Nat.min_eq_left (by omega), List.take_left] at this
    exact this

/-- The slice a was made longer to a1: what is known then. -/
def Lng (base : Nat) (a : Option Addr) (n : Nat) (xs : List Value) (w wr : World) (a1 : Option Addr) (m c1 : Nat) (ys : List Value) : Prop :=
  wr.ownsRow base 5 1 (.slice a1 m c1) m (xs ++ ys) ∧ OwnA wr base a n xs ∧ w.grownBy wr (blk a) ∧ (blk a1 = blk a ∨ ∃ g, w.heap.size ≤ g ∧ blk a1 = some g)
theorem Lng.start {base n c : Nat} {a : Option Addr} {xs : List Value} {w : World} (h : w.ownsRow base 5 1 (.slice a n c) n xs) : Lng base a n xs w w a n c [] :=
  ⟨by simpa using h, ⟨c, h⟩, grown_refl _ _, .inl rfl⟩
theorem Lng.step {base n m c1 c2 : Nat} {a a1 a2 : Option Addr} {xs ys : List Value} {w wr w2 : World} {o : Obj} {y : Value} (h0 : OwnA w base a n xs) (h : Lng base a n xs w wr a1 m c1 ys)
    (h2 : w2.ownsRow base 5 1 (.slice a2 (m + 1) c2) (m + 1) ((xs ++ ys) ++ [y])) (hm : Moved (wr.alloc o) w2 (.slice a1 m c1) (.slice a2 (m + 1) c2)) :
    Lng base a n xs w w2 a2 (m + 1) c2 (ys ++ [y]) := by
  obtain ⟨ho, hoa, hg, hbl⟩ := h
  have hbo : Below wr.heap.size wr (wr.alloc o) := (Below.refl _ _).alloc (Nat.le_refl _) o
  have hal : wr.grownBy (wr.alloc o) (none : Option Nat) := ⟨hbo.os, hbo.tape, hbo.output, hbo.size, fun k hk _ => hbo.block k hk⟩
  have hlt0 := h0.lt
  have hxl : xs.length = n := by obtain ⟨c0, h9⟩ := h0; have := h9.1; omega
  have hb1 := own_blk ho
  have hb2 := own_blk h2
  have hoa' : OwnA (wr.alloc o) base a n xs := hoa.kept hal (by cases blk a <;> simp)
  have hsz : wr.heap.size < (wr.alloc o).heap.size := by simp
  have hgs := hg.size
  have hgr : ∀ r : Option Nat, (wr.alloc o).grownBy w2 r → (∀ k, k < w.heap.size → some k ≠ blk a → some k ≠ r) → w.grownBy w2 (blk a) := by
    intro r hr hk
    refine ⟨hr.os.trans hg.os, hr.tape.trans hg.tape, hr.output.trans hg.output, by have := hr.size; omega, fun k h3 h4 => ?_⟩
    rw [hr.block k (by omega) (hk k h3 h4), hal.block k (by omega) (by simp), hg.block k h3 h4]
  refine ⟨by rw [← List.append_assoc]; exact h2, ?_, ?_, ?_⟩
  · rcases hm with ⟨e, hgm⟩ | ⟨hgm, e⟩
    · rw [hb1] at hgm
      rw [hb1, hb2] at e
      rcases hbl with h3 | ⟨g, h3, h4⟩
      · by_cases hn : blk a = none
        · exact hoa'.kept hgm (.inl hn)
        · have hae : a = a2 := by
            obtain ⟨c0, h9⟩ := h0
            rw [own_addr h9, own_addr h2, e, h3]
          have h5 := own_prefix (xs := xs) (ys := ys ++ [y]) (by rw [← List.append_assoc]; exact h2) (by rw [← hae]; intro h6; apply hn; rw [h6]; rfl)
          rw [hxl, ← hae] at h5
          exact h5
      · refine hoa'.kept hgm ?_
        rw [h4]
        cases hk : blk a with
        | none => exact .inl rfl
        | some k =>
          right
          have := (hlt0 k hk).2
          intro h6; cases h6; omega
    · exact hoa'.kept hgm (by cases blk a <;> simp)
  · rcases hm with ⟨e, hgm⟩ | ⟨hgm, e⟩
    · rw [hb1] at hgm
      refine hgr _ hgm fun k h5 h6 => ?_
      rcases hbl with h3 | ⟨g, h3, h4⟩
      · rw [h3]; exact h6
      · rw [h4]; intro h7; cases h7; omega
    · exact hgr _ hgm fun k _ _ => by simp
  · rcases hm with ⟨e, _⟩ | ⟨_, e⟩
    · rw [hb2, hb1] at e
      rw [e]; exact hbl
    · rw [hb2] at e
      exact .inr ⟨_, by omega, e⟩
/-- What long answers. -/
def LongPost (base : Nat) (a : Option Addr) (n k : Nat) (xs : List Value) (u : UInt8) (w : World) (e : Ending) (w' : World) : Prop :=
  ∃ a1 c1, e = .returned (.slice a1 (n + k) c1) ∧ Lng base a n xs w w' a1 (n + k) c1 ((List.replicate k u).map B)
theorem long_any (base : Nat) (a : Option Addr) (c n : Nat) (u : UInt8) (l : List UInt8) (w : World) (hmax : n ≤ 140737488355000) (hbase : base ≤ w.heap.size) (h : w.ownsRow base 5 1 (.slice a n c) n (l.map B)) :
    Calls Try.prog 27 #[.slice a n c, .int .u8 (u.toNat : Int)] w (LongPost base a n 99 (l.map B) u w) := by
  have hub := u.toNat_lt
  go_enter Try.func27, Try.ntmps27
  go_wp2
  go_loopw [0, 5] (fun v i wr => ∃ (k : Nat) (a1 : Option Addr) (c1 : Nat), k ≤ 99 ∧ i = .int .i64 (k : Int) ∧ v = .slice a1 (n + k) c1 ∧ Lng base a n (l.map B) w wr a1 (n + k) c1 ((List.replicate k u).map B)) (fun _ i _ => 99 - (intOf i).toNat)
  case atStart => exact ⟨0, a, c, by omega, rfl, rfl, Lng.start h⟩
  case round =>
    obtain ⟨k, a1, c1, hk, rfl, rfl, hl⟩ := hrel
    by_cases hlt : k < 99
    · have hlt' : (k : Int) < 99 := by omega
      have ho := hl.1
      rw [← List.map_append] at ho
      have hs := hl.2.2.1.size
      have HL := Lib.hid hl
      clear hl
      go_wp2_with (first | (at_builtin; refine app_b1 wr rfl _ _ rfl base (.slice a1 (n + k) c1) (n + k) (l ++ List.replicate k u) rfl ho (.int .u8 (u.toNat : Int)) u rfl rfl (by omega) (by omega) ?_; intro a2 c2 w2 hown2 hb2 hmv2) | fail)
      have h3 : Lng base a n (l.map B) w w2 a2 (n + k + 1) c2 ((List.replicate k u).map B ++ [B u]) := Lng.step ⟨c, h⟩ HL.out (by simpa using hown2) hmv2
      have h4 : (List.replicate k u).map B ++ [B u] = (List.replicate (k + 1) u).map B := by rw [List.replicate_succ', List.map_append]; rfl
      rw [h4] at h3
      have H3 := Lib.hid h3
      clear h3 h4 hown2 hb2 hmv2 ho
      go_wp2
      go_roundw
      case rel => exact ⟨k + 1, a2, c2, by omega, by go_num, rfl, H3.out⟩
      case measure => simp [intOf]; omega
    · have hge : ¬ (k : Int) < 99 := by omega
      have hke : k = 99 := by omega
      rw [hke] at hl ⊢
      have HL := Lib.hid hl
      clear hl hke hge hlt hk
      go_wp2
      go_ret
      exact ⟨a1, c1, rfl, HL.out⟩
#print axioms long_any
#print axioms Lng.step
end Go.Proofs.Ytiebnfdjnclkcaa
