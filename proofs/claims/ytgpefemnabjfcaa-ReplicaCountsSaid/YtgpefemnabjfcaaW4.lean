/- The walks over bytes, further: slices, slices.Clone of bytes, whole, Chunk, the reference's Chunk. -/
import Derived.Test.YtgpefemnabjfcaaW3
set_option linter.unusedVariables false
namespace Go.Proofs
open Go.Shelf
def Try.laysSlE041_f15_ren : Go.Shelf.Ren := ⟨fun | 41 => 15 | n => n, fun | 22 => 23 | 23 => 5 | 4 => 4 | n => n, fun | n => n⟩
theorem Try.laysSlE041_f15 : Go.Proofs.SlLaysE0.n41 Try.prog Try.laysSlE041_f15_ren := {
  mixed := by kernel_rfl
  f41 := ⟨Try.f15.name, by decide, Try.func15.trans (congrArg some (by kernel_rfl))⟩
  t4 := Try.underlying4
  a4 := Try.isAgg4
  z4 := Try.sizeOf4
  v4 := Try.zeroValue4
  t22 := Try.underlying23
  a22 := Try.isAgg23
  z22 := Try.sizeOf23
  v22 := Try.zeroValue23 }
end Go.Proofs
namespace Go.Proofs.Ytgpefemnabjfcaa
open Go.RowKit
theorem slice_from (a : Option Addr) (n cap k : Nat) (hk : k ≤ n) (hcap : n ≤ cap) :
    ∃ a2, (∀ W, (Instr.slice 23 (.slice a n cap) (some (.int .i64 (k : Int))) none none).run Try.prog W = .ok (.slice a2 (n - k) (cap - k)) W) ∧
      (∀ (W : World) (vs : List Value), vs.length = n → Rd W a vs → Rd W a2 (vs.drop k)) := by
  obtain ⟨i0, hi, hz0, hz1, hz2⟩ := info_parts info5
  refine ⟨if cap = k then a else a.map (·.add (k * 1)), fun W => ?_, fun W vs hv hr => ?_⟩
  · rw [run_slice_l (P := Try.prog) W 23 a n cap Try.underlying23 .i64 k (by omega) (by omega)]
    have : (sizeOf (Try.prog.elem 23)).run Try.prog W = .ok 1 W := by
      show (sizeOf 5).run Try.prog W = _
      simp [sizeOf, typeInfo, hi, hz1]
    simp [this, Result.andThen, sliced]
  · by_cases hlt : k < n
    · have h1 := hr.sub k n (by omega) (if cap = k then a else a.map (·.add (k * 1))) (fun _ => by rw [if_neg (by omega)])
      rw [List.take_of_length_le (by omega)] at h1
      exact h1
    · rw [List.drop_eq_nil_of_le (by omega)]
      exact Rd.nil _ _

/-- 's[:k]' of a slice of bytes. -/
theorem slice_to (a : Option Addr) (n cap k : Nat) (hk : k ≤ cap) :
    (∀ W, (Instr.slice 23 (.slice a n cap) none (some (.int .i64 (k : Int))) none).run Try.prog W = .ok (.slice a k cap) W) := by
  obtain ⟨i0, hi, hz0, hz1, hz2⟩ := info_parts info5
  intro W
  rw [run_slice_h (P := Try.prog) W 23 a n cap Try.underlying23 .i64 k (by omega) (by omega)]
  have : (sizeOf (Try.prog.elem 23)).run Try.prog W = .ok 1 W := by
    show (sizeOf 5).run Try.prog W = _
    simp [sizeOf, typeInfo, hi, hz1]
  have e : ∀ x : Option Addr, x.map (·.add (0 * 1)) = x := by
    intro x; cases x <;> simp [Addr.add]
  simp [this, Result.andThen, sliced]
  intro _
  cases a <;> simp [Addr.add]


theorem clone_b (b off n c : Nat) (l : List UInt8) (w : World) (hn : l.length = n) (hmax : n ≤ 140737488355328) (h : Rd w (some ⟨b, off, none⟩) (l.map B)) (hpos : 0 < n) :
    Calls Try.prog 15 #[.slice (some ⟨b, off, none⟩) n c] w fun e w' => ∃ a' c', e = .returned (.slice a' n c') ∧ w'.ownsRow w.heap.size 5 1 (.slice a' n c') n (l.map B) ∧ Below w.heap.size w w' := by
  obtain ⟨i0, hi, hz0, hz1, hz2⟩ := info_parts info5
  have hs : ∀ w, (Go.sizeOf 5).run Try.prog w = .ok 1 w := by
    intro w
    simp [sizeOf, typeInfo, hi, hz1]
  obtain ⟨b2, off2, e, hc⟩ := h.cells (by intro h0; have := congrArg List.length h0; simp [hn] at this; omega)
  cases e
  refine (AnyE.slices_Clone Try.laysSlE041_f15 i0 (.int .u8 0) 1 1 hi hz0 hz1 hz2 rfl (by decide) hs b off n c (l.map B) w (by simp [hn]) (by unfold maxLen; omega) (by omega) (fun j u hu => by
    obtain ⟨hj, rfl⟩ := List.getElem?_eq_some_iff.1 hu
    exact hc j hj) (B_oneCell l)).mono ?_
  rintro e w' ⟨v', rfl, hown, _, hb⟩
  obtain ⟨a', c', rfl⟩ := ownsRow_shape hown
  exact ⟨a', c', rfl, hown, hb⟩

theorem whole_n (a b : Option Addr) (c cap n : Nat) (l : List UInt8) (w : World) (hn : l.length = n) (hmax : n + 8 ≤ 140737488355328) (hc8 : n + 8 ≤ c) (h : Rd w a ((l ++ marks).map B)) (h2 : Rd w b (l.map B)) :
    Calls Try.prog 10 #[.slice a (n + 8) c, .slice b n cap] w fun e w' => e = .returned (.bool true) ∧ Below w.heap.size w w' := by
  have HN := Lib.hid hn
  clear hn
  go_enter Try.func10, Try.ntmps10
  go_wp2
  go_loop [5] (fun i => ∃ k : Nat, k ≤ 8 ∧ i = .int .i64 (k : Int)) (fun i => 8 - (intOf i).toNat)
  case atStart => exact ⟨0, by omega, rfl⟩
  case round =>
    obtain ⟨k, hk, rfl⟩ := hrel
    by_cases hlt : k < 8
    · have hlt' : (k : Int) < 8 := by omega
      obtain ⟨bb, off, rfl, hc⟩ := h.cells (by simp [marks])
      have hlen : ((l ++ marks).map B).length = n + 8 := by simp [marks, HN.out]
      have hc' := hc (n + k) (by omega)
      have hmk : marks[k]'(by simp [marks]; omega) = UInt8.ofNat (201 + k) := by
        have : ∀ j : Fin 8, marks[j.val]'(by simp [marks]) = UInt8.ofNat (201 + j.val) := by decide
        exact this ⟨k, hlt⟩
      rw [List.getElem_map, List.getElem_append_right (by rw [HN.out]; omega)] at hc'
      simp only [HN.out, Nat.add_sub_cancel_left] at hc'
      rw [hmk, B, UInt8.toNat_ofNat', Nat.mod_eq_of_lt (by omega)] at hc'
      have heq : (((201 + k : Nat) : Int) != 201 + (k : Int)) = false := by simp
      have hnk : (n : Int) + k < ((n + 8 : Nat) : Int) := by omega
      clear hc hlen hmk
      go_wp2
      go_round
      case rel => exact ⟨k + 1, by omega, by go_num⟩
      case measure => simp [intOf]; omega
    · have hlt' : ¬ (k : Int) < 8 := by omega
      have hsl := slice_to a (n + 8) c n (by omega)
      have hrd := h.take n
      rw [← List.map_take, List.take_left' HN.out] at hrd
      have hle : (n : Int) ≤ ((n + 8 : Nat) : Int) := by omega
      go_wp2_with fail
      refine (same_n a b c cap n n l l w HN.out HN.out (by omega) hrd h2).mono ?_
      rintro e w1 ⟨rfl, hb⟩
      rw [beq_self_eq_true]
      go_wp2
      go_ret
      exact ⟨rfl, hb⟩

/-- The chunk: most of the bytes from at on. -/
def chunkB (l : List UInt8) (at_ most : Int) : List UInt8 := if at_ < 0 ∨ most < 1 then [] else (l.drop at_.toNat).take most.toNat
theorem chunkB_none {l : List UInt8} {at_ most : Int} (h : at_ < 0 ∨ (l.length : Int) ≤ at_ ∨ most < 1) : chunkB l at_ most = [] := by
  unfold chunkB
  split
  · rfl
  · rw [List.drop_of_length_le (by omega)]; exact List.take_nil
theorem chunkB_len {l : List UInt8} {p : Nat} {most : Int} (h0 : 1 ≤ most) : (chunkB l p most).length = min most.toNat (l.length - p) := by
  unfold chunkB
  rw [if_neg (by omega), List.length_take, List.length_drop, Int.toNat_natCast]
theorem chunk_n (a : Option Addr) (cap n : Nat) (l : List UInt8) (at_ most : Int) (w : World) (hn : l.length = n) (hcap : n ≤ cap) (hmax : n ≤ 140737488355328) (h : Rd w a (l.map B)) :
    Calls Try.prog 7 #[.slice a n cap, .int .i64 at_, .int .i64 most] w fun e w' => ∃ a' c', e = .returned (.slice a' (chunkB l at_ most).length c') ∧ w'.ownsRow w.heap.size 5 1 (.slice a' (chunkB l at_ most).length c') (chunkB l at_ most).length ((chunkB l at_ most).map B) ∧ Below w.heap.size w w' := by
  have HN := Lib.hid hn
  by_cases hno : at_ < 0 ∨ (n : Int) ≤ at_ ∨ most < 1
  · have e0 := chunkB_none (l := l) (at_ := at_) (most := most) (by rw [hn]; exact hno)
    rw [e0]
    clear e0
    go_enter Try.func7, Try.ntmps7
    rcases hno with h1 | h1 | h1
    · go_wp2_with fail
      go_ret
      exact ⟨none, 0, rfl, World.ownsRow_nil _ _ _ _, Below.refl _ _⟩
    · by_cases h0 : at_ < 0
      · go_wp2_with fail
        go_ret
        exact ⟨none, 0, rfl, World.ownsRow_nil _ _ _ _, Below.refl _ _⟩
      · go_wp2_with fail
        go_ret
        exact ⟨none, 0, rfl, World.ownsRow_nil _ _ _ _, Below.refl _ _⟩
    · by_cases h0 : at_ < 0
      · go_wp2_with fail
        go_ret
        exact ⟨none, 0, rfl, World.ownsRow_nil _ _ _ _, Below.refl _ _⟩
      · by_cases h2 : (n : Int) ≤ at_
        · go_wp2_with fail
          go_ret
          exact ⟨none, 0, rfl, World.ownsRow_nil _ _ _ _, Below.refl _ _⟩
        · go_wp2_with fail
          go_ret
          exact ⟨none, 0, rfl, World.ownsRow_nil _ _ _ _, Below.refl _ _⟩
  · obtain ⟨p, rfl⟩ : ∃ p : Nat, at_ = (p : Int) := ⟨at_.toNat, by omega⟩
    have hm1 : 1 ≤ most := by omega
    have hpn : p < n := by omega
    have hlen := chunkB_len (l := l) (p := p) hm1
    have hch : chunkB l p most = (l.drop p).take (chunkB l p most).length := by
      conv => lhs; unfold chunkB
      rw [if_neg (by omega), hlen, Int.toNat_natCast]
      rcases Nat.le_total most.toNat (l.length - p) with h9 | h9
      · rw [Nat.min_eq_left h9]
      · rw [Nat.min_eq_right h9, List.take_of_length_le (by rw [List.length_drop]; exact h9), List.take_of_length_le (by rw [List.length_drop]; exact Nat.le_refl _)]
    rw [hn] at hlen
    obtain ⟨k, hk⟩ : ∃ k, k = (chunkB l p most).length := ⟨_, rfl⟩
    rw [← hk] at hlen hch
    rw [← hk, hch]
    have hmin : min most ((n : Int) - (p : Int)) = (k : Int) := by omega
    have hkn : k ≤ n - p := by omega
    have hk0 : 0 < k := by omega
    obtain ⟨a2, hs1, hr1⟩ := slice_from a n cap p (by omega) hcap
    have hrd := (hr1 w (l.map B) (by simp [hn]) h).take k
    have hs2 := slice_to a2 (n - p) (cap - p) k (by omega)
    rw [← List.map_drop, ← List.map_take] at hrd
    have hln : ((l.drop p).take k).length = k := by simp [hn]; omega
    have h1 : ¬ (p : Int) < 0 := by omega
    have h2 : ¬ (n : Int) ≤ (p : Int) := by omega
    have h3 : ¬ most < 1 := by omega
    have h4 : (p : Int) ≤ (n : Int) := by omega
    have h5 : (k : Int) ≤ ((n - p : Nat) : Int) := by omega
    obtain ⟨lk, hlk⟩ : ∃ x, x = (l.drop p).take k := ⟨_, rfl⟩
    rw [← hlk] at hrd hln ⊢
    obtain ⟨bb, off, rfl, -⟩ := hrd.cells (by intro h0; have := congrArg List.length h0; simp [hln] at this; omega)
    have HLN := Lib.hid hln
    clear hch hlk hk hlen hr1 hno hn hln
    go_enter Try.func7, Try.ntmps7
    go_wp2_with fail
    refine (clone_b bb off k _ lk w HLN.out (by omega) hrd hk0).mono ?_
    rintro e w1 ⟨a', c', rfl, hown, hb⟩
    go_wp2
    go_ret
    exact ⟨a', c', rfl, hown, hb⟩
#print axioms chunk_n
end Go.Proofs.Ytgpefemnabjfcaa
