/- The walks of alike, Repair and the reference's Repair. -/
import Derived.Test.YtiebnfdjnclkcaaW6
set_option linter.unusedVariables false
namespace Go.Proofs.Ytiebnfdjnclkcaa
open Go.RowKit

/-- A slice of slices of bytes reads as the lists 'rs'. -/
def RdR (w : World) (a : Option Addr) (rs : List (List UInt8)) : Prop :=
  ∃ vs : List Value, vs.length = rs.length ∧ Rd w a vs ∧ ∀ (i : Nat) (h : i < rs.length), ∃ b c, vs[i]? = some (.slice b rs[i].length c) ∧ Rd w b (rs[i].map B)
theorem RdR.below {w w' : World} {a : Option Addr} {rs : List (List UInt8)} (h : RdR w a rs) (hb : Below w.heap.size w w') : RdR w' a rs := by
  obtain ⟨vs, h1, h2, h3⟩ := h
  exact ⟨vs, h1, h2.below hb, fun i hi => by obtain ⟨b, c, h4, h5⟩ := h3 i hi; exact ⟨b, c, h4, h5.below hb⟩⟩
theorem RecsAt.rdR {w : World} {base base2 : Nat} {vs : List Value} {rs : List (List UInt8)} {a : Option Addr} {c : Nat} (h : RecsAt w base vs rs) (ho : w.ownsRow base2 22 1 (.slice a rs.length c) rs.length vs) : RdR w a rs :=
  ⟨vs, h.1, ownsRow_rd ho, fun i hi => by obtain ⟨b, c, h1, h2⟩ := h.2 i hi; exact ⟨b, c, h1, ownsRow_rd h2⟩⟩
theorem RdR.at {w : World} {a : Option Addr} {rs : List (List UInt8)} (h : RdR w a rs) (k : Nat) (hk : k < rs.length) :
    ∃ bb off b c, a = some ⟨bb, off, none⟩ ∧ w.cell? ⟨bb, off + k, none⟩ = some (.slice b rs[k].length c) ∧ Rd w b (rs[k].map B) := by
  obtain ⟨vs, h1, h2, h3⟩ := h
  obtain ⟨b, c, h4, h5⟩ := h3 k hk
  obtain ⟨bb, off, rfl, hc⟩ := h2.cells (by intro h0; rw [h0] at h1; simp at h1; omega)
  obtain ⟨hi, he⟩ := List.getElem?_eq_some_iff.1 h4
  have := hc k hi
  rw [he] at this
  exact ⟨bb, off, b, c, rfl, this, h5⟩
theorem RdR.nil (w : World) (a : Option Addr) : RdR w a [] := ⟨[], rfl, Rd.nil _ _, fun i h => by simp at h⟩

def AlkR (l m : List (List UInt8)) (k : Nat) : Prop := l.take k = m.take k

set_option maxHeartbeats 400000 in
theorem alike_any (a b : Option Addr) (cap cap2 n m : Nat) (l r : List (List UInt8)) (w : World) (hn : l.length = n) (hm : r.length = m) (hmax : n ≤ 140737488355328)
    (hml : ∀ x ∈ l, x.length ≤ 140737488355328) (h : RdR w a l) (h2 : RdR w b r) :
    Calls Try.prog 20 #[.slice a n cap, .slice b m cap2] w fun e w' => e = .returned (.bool (l == r)) ∧ Below w.heap.size w w' := by
  have HN := Lib.hid hn
  have HM := Lib.hid hm
  have HML := Lib.hid hml
  clear hml hn hm
  by_cases hlen : n = m
  · have hd : ((n : Int) != m) = false := by simp [hlen]
    have H := Lib.hid hlen
    clear hlen
    go_enter Try.func20, Try.ntmps20
    go_wp2
    go_loopw [5] (fun i wr => ∃ k : Nat, k ≤ n ∧ i = .int .i64 k ∧ AlkR l r k ∧ Below w.heap.size w wr) (fun i _ => n - (intOf i).toNat)
    case atStart => exact ⟨0, Nat.zero_le _, rfl, rfl, Below.refl _ _⟩
    case round =>
      obtain ⟨k, hk, rfl, hal, hbel⟩ := hrel
      have HA := Lib.hid hal
      clear hal
      by_cases hlt : k < n
      · have hkl : k < l.length := by rw [HN.out]; exact hlt
        have hkr : k < r.length := by rw [HM.out, ← H.out]; exact hlt
        obtain ⟨bb, off, b1, c1, rfl, hc1, hr1⟩ := (h.below hbel).at k hkl
        obtain ⟨bb2, off2, b2, c2, rfl, hc2, hr2⟩ := (h2.below hbel).at k hkr
        have hlt' : (k : Int) < n := by omega
        have hlt2' : (k : Int) < m := by have := H.out; omega
        have hmx := HML.out l[k] (List.getElem_mem hkl)
        obtain ⟨x, hx⟩ : ∃ x, x = l[k] := ⟨_, rfl⟩
        obtain ⟨y, hy⟩ : ∃ y, y = r[k] := ⟨_, rfl⟩
        rw [← hx] at hc1 hr1 hmx
        rw [← hy] at hc2 hr2
        have HX := Lib.hid hx
        have HY := Lib.hid hy
        clear hx hy
        have hs := hbel.size
        have hr1' : Rd wr.drew b1 (x.map B) := hr1
        have hr2' : Rd wr.drew b2 (y.map B) := hr2
        have hb1 := World.block_lt_of_cell? wr _ hc1
        have hb2 := World.block_lt_of_cell? wr _ hc2
        have hlen1 : x.length ≤ 140737488355328 := hmx
        go_wp2
        go_region_held3 (fun W => W.cell? ⟨bb, off + k, none⟩ = some (.slice b1 x.length c1) ∧ W.cell? ⟨bb2, off2 + k, none⟩ = some (.slice b2 y.length c2)) (first | exact ⟨hc1, hc2⟩ | (refine ⟨?_, ?_⟩ <;> assumption))
          (first | (go_at_call 14; refine (same_n b1 b2 c1 c2 x.length y.length x y _ rfl rfl hlen1 hr1' hr2').mono ?_; rintro e w2 ⟨rfl, hbs⟩; have hc1' := (hbs.cell (p := ⟨bb, off + k, none⟩) hb1).trans hc1; have hc2' := (hbs.cell (p := ⟨bb2, off2 + k, none⟩) hb2).trans hc2))
        have hbs' : Below wr.heap.size wr w2 := ⟨hbs.os, hbs.tape, hbs.output, hbs.size, hbs.block⟩
        have hbel2 := hbel.trans (hbs'.mono hs)
        clear hbs hbs' hc1' hc2' hc1 hc2 hr1 hr2 hr1' hr2'
        obtain ⟨q, hq⟩ : ∃ q, q = (x == y) := ⟨_, rfl⟩
        rw [← hq]
        have HQ := Lib.hid hq
        clear hq
        cases q with
        | true =>
          go_wp2
          go_roundw
          case rel =>
            have hxy : x = y := by have := HQ.out; simpa using this.symm
            exact ⟨k + 1, by omega, by go_num, by unfold AlkR; rw [take_snoc l k hkl, take_snoc r k hkr, show l.take k = r.take k from HA.out, ← HX.out, ← HY.out, hxy], hbel2⟩
          case measure => simp [intOf]; omega
        | false =>
          go_wp2
          go_ret
          refine ⟨ret_val ?_, hbel2⟩
          have hxy : x ≠ y := by have := HQ.out; simpa using this.symm
          have hne : l ≠ r := by intro he; apply hxy; rw [HX.out, HY.out]; simp [he]
          simp [hne]
      · have hd : ¬ (k : Int) < n := by omega
        go_wp2
        go_ret
        refine ⟨ret_val ?_, hbel⟩
        have h3 : l.take k = r.take k := HA.out
        have e1 : l.take k = l := List.take_of_length_le (by rw [HN.out]; omega)
        have e2 : r.take k = r := List.take_of_length_le (by rw [HM.out, ← H.out]; omega)
        rw [e1, e2] at h3
        simp [h3]
  · have hd : ((n : Int) != m) = true := by simp; omega
    have H := Lib.hid hlen
    clear hlen
    go_enter Try.func20, Try.ntmps20
    go_wp2
    go_ret
    refine ⟨ret_val ?_, Below.refl _ _⟩
    have hne : l ≠ r := by intro he; apply H.out; rw [← HN.out, ← HM.out, he]
    simp [hne]

/-- The answer of a Repair. -/
def RepPost (l : List UInt8) (w : World) (e : Ending) (w' : World) : Prop :=
  ∃ (a : Option Addr) (c : Nat) (rs : List (List UInt8)) (k : Nat), ScanIs l rs k ∧ e = .returned (.slice a k c) ∧ w'.ownsRow w.heap.size 5 1 (.slice a k c) k ((logOf rs).map B) ∧ Below w.heap.size w w'

set_option maxHeartbeats 400000 in
theorem repair_any (a : Option Addr) (cap n : Nat) (l : List UInt8) (w : World) (hn : l.length = n) (hcap : n ≤ cap) (hmax : n ≤ 140737488355328) (h : Rd w a (l.map B)) :
    Calls Try.prog 18 #[.slice a n cap] w (RepPost l w) := by
  have HN := Lib.hid hn
  clear hn
  go_enter Try.func18, Try.ntmps18
  go_wp2_with fail
  refine (scan_any a cap n l w HN.out hcap hmax h).mono ?_
  rintro e w1 ⟨a1, c1, vs, rs, k, rfl, hown, hrecs, hdis, hscan, hb1⟩
  have hk := hscan.le
  have ht := hscan.take
  have hkl := hscan.1
  have HS := Lib.hid hscan
  have HT := Lib.hid ht
  have HKL := Lib.hid hkl
  rw [HN.out] at hk
  have hsl := slice_to a n cap k (by omega)
  have hk0 : (0 : Int) ≤ (k : Int) := by omega
  have hr : Rd w1 a ((logOf rs).map B) := by
    have := (h.below hb1).take k
    rw [← List.map_take, ht] at this
    exact this
  have hs := hb1.size
  clear hown hrecs hdis hscan ht h hkl
  go_wp2_with (first | (at_builtin; refine app_b w1 rfl _ (.tmp 12) rfl w.heap.size (.slice none 0 0) 0 [] rfl (World.ownsRow_nil _ _ _ _) a k cap (logOf rs) rfl HKL.out.symm hr (by omega) hs ?_; intro a3 c3 w3 hown3 hbel3 hmv3; simp only [Nat.zero_add, List.nil_append] at hown3 hmv3 ⊢) | fail)
  go_ret
  exact ⟨a3, c3, rs, k, HS.out, rfl, hown3, hb1.trans hbel3⟩

set_option maxHeartbeats 400000 in
theorem rrepair_any (a : Option Addr) (cap n : Nat) (l : List UInt8) (w : World) (hn : l.length = n) (hcap : n ≤ cap) (hmax : n ≤ 140737488355328) (h : Rd w a (l.map B)) :
    Calls Try.prog 21 #[.slice a n cap] w (RepPost l w) := by
  have HN := Lib.hid hn
  clear hn
  go_enter Try.func21, Try.ntmps21
  go_wp2_with fail
  refine (rscan_any a cap n l w HN.out hcap hmax h).mono ?_
  rintro e w1 ⟨a1, c1, vs, rs, k, rfl, hown, hrecs, hdis, hscan, hb1⟩
  have hk := hscan.le
  have ht := hscan.take
  have hkl := hscan.1
  have HS := Lib.hid hscan
  have HT := Lib.hid ht
  have HKL := Lib.hid hkl
  rw [HN.out] at hk
  have hsl := slice_to a n cap k (by omega)
  have hk0 : (0 : Int) ≤ (k : Int) := by omega
  have hr : Rd w1 a ((logOf rs).map B) := by
    have := (h.below hb1).take k
    rw [← List.map_take, ht] at this
    exact this
  have hs := hb1.size
  clear hown hrecs hdis hscan ht h hkl
  go_wp2_with (first | (at_builtin; refine app_b w1 rfl (.tmp 11) (.tmp 14) rfl w.heap.size (.slice none 0 0) 0 [] rfl (World.ownsRow_nil _ _ _ _) a k cap (logOf rs) rfl HKL.out.symm hr (by omega) hs ?_; intro a3 c3 w3 hown3 hbel3 hmv3; simp only [Nat.zero_add, List.nil_append] at hown3 hmv3 ⊢) | fail)
  go_ret
  exact ⟨a3, c3, rs, k, HS.out, rfl, hown3, hb1.trans hbel3⟩
#print axioms alike_any
#print axioms repair_any
end Go.Proofs.Ytiebnfdjnclkcaa
