/- The walks of number, headOf and the reference's head. -/
import Derived.Test.YtiebnfdjnclkcaaW2
set_option linter.unusedVariables false
namespace Go.Proofs.Ytiebnfdjnclkcaa
open Go.RowKit

theorem ofBe_mono (l : List UInt8) (k : Nat) (h : k ≤ l.length) : ofBe (l.take k) ≤ ofBe l := by
  have key : ∀ (m : List UInt8) (a : Nat), a ≤ m.foldl (fun n b => n * 256 + b.toNat) a := by
    intro m
    induction m with
    | nil => intro a; exact Nat.le_refl _
    | cons x m ih => intro a; simp only [List.foldl_cons]; have := ih (a * 256 + x.toNat); omega
  conv => rhs; rw [← List.take_append_drop k l]
  unfold ofBe
  rw [List.foldl_append]
  exact key _ _

/-- What number answers. -/
def numB (l : List UInt8) (most : Nat) : Nat := if most < ofBe l then 0 else ofBe l

theorem number_any (a : Option Addr) (cap most : Nat) (l : List UInt8) (w : World) (hl8 : l.length = 8) (hm : most ≤ 140737488355328) (h : Rd w a (l.map B)) :
    Calls Try.prog 39 #[.slice a 8 cap, .int .i64 (most : Int)] w fun e w' => e = .returned (.int .i64 (numB l most : Int)) ∧ w = w' := by
  have H8 := Lib.hid hl8
  obtain ⟨b, off, rfl, hc⟩ := h.cells (by intro h; simp at h; subst h; simp at hl8)
  have HC := Lib.hid hc
  clear hc hl8
  go_enter Try.func39, Try.ntmps39
  go_wp2
  go_loop [5, 6] (fun n i => ∃ k : Nat, k ≤ 8 ∧ i = .int .i64 (k : Int) ∧ n = .int .i64 (ofBe (l.take k) : Int) ∧ ofBe (l.take k) ≤ most * 256 + 255) (fun _ i => (8 - intOf i).toNat)
  case atStart => exact ⟨0, Nat.zero_le _, rfl, rfl, by simp [ofBe]⟩
  case round =>
    obtain ⟨k, hk, rfl, rfl, hle⟩ := hrel
    by_cases hlt : k < 8
    · have hkl : k < l.length := by rw [H8.out]; exact hlt
      have hc := HC.out k (by simpa using hkl)
      rw [List.getElem_map, B] at hc
      have hb := (l[k]).toNat_lt
      have HT := Lib.hid (ofBe_take l k hkl)
      have HM := Lib.hid (ofBe_mono l k (by omega))
      obtain ⟨q, hq⟩ : ∃ q, ofBe (l.take k) = q := ⟨_, rfl⟩
      rw [hq] at HT HM hle ⊢
      clear hq
      have hlt' : (k : Int) < 8 := by omega
      by_cases hbig : most < q
      · have hbig' : (most : Int) < (q : Int) := by omega
        go_wp2
        go_ret
        exact ⟨ret_val (by rw [numB, if_pos (by have := HM.out; omega)]; rfl), rfl⟩
      · have hbig' : ¬ (most : Int) < (q : Int) := by omega
        go_wp2
        go_round
        case rel => exact ⟨k + 1, by omega, by go_num, by rw [HT.out]; simp, by rw [HT.out]; omega⟩
        case measure => simp [intOf]; omega
    · have hge : ¬ (k : Int) < 8 := by omega
      have HE : Hid (l.take k = l) := List.take_of_length_le (by rw [H8.out]; omega)
      rw [HE.out] at hle ⊢
      by_cases hbig : most < ofBe l
      · have hbig' : (most : Int) < (ofBe l : Int) := by omega
        go_wp2
        go_ret
        exact ⟨ret_val (by rw [numB, if_pos hbig]; rfl), rfl⟩
      · have hbig' : ¬ (most : Int) < (ofBe l : Int) := by omega
        go_wp2
        go_ret
        exact ⟨ret_val (by rw [numB, if_neg hbig]; rfl), rfl⟩

theorem info49 : (Try.prog.info? 49).map (·.size) = some 25 := by kernel_rfl

def zero25 : List Value := List.replicate 25 (.int .u8 0)
def one25 : List Value := .int .u8 74 :: List.replicate 24 (.int .u8 0)

theorem grown_trans {a b c : World} {g : Nat} (h : a.grownBy b (some g)) (k : b.grownBy c (some g)) : a.grownBy c (some g) :=
  ⟨k.os.trans h.os, k.tape.trans h.tape, k.output.trans h.output, Nat.le_trans h.size k.size, fun i hi hne => (k.block i (Nat.lt_of_lt_of_le hi h.size) hne).trans (h.block i hi hne)⟩

theorem spliced_head (n : Nat) (s : Nat) (hn : n < 18446744073709551616) :
    splice (splice (splice one25 1 ((be8 n).map B)) 9 ((be8 (18446744073709551615 - n)).map B)) 17 ((be8 s).map B) = (74 :: (be8 n ++ ((be8 n).map inv255 ++ be8 s))).map B := by
  rw [be8_inv n hn]
  have e1 : (be8 n) = [byteAt n 0, byteAt n 1, byteAt n 2, byteAt n 3, byteAt n 4, byteAt n 5, byteAt n 6, byteAt n 7] := rfl
  have e2 : (be8 s) = [byteAt s 0, byteAt s 1, byteAt s 2, byteAt s 3, byteAt s 4, byteAt s 5, byteAt s 6, byteAt s 7] := rfl
  rw [e1, e2]
  simp [splice, one25, List.replicate, B]

theorem not_u64 (n : Nat) (hn : n < 18446744073709551616) : bits .xor .u64 IntKind.u64.max (n : Int) = ((18446744073709551615 - n : Nat) : Int) := by
  have e : IntKind.u64.max = ((18446744073709551615 : Nat) : Int) := by simp [IntKind.max, IntKind.signed, IntKind.bits]
  rw [e, u64_xor_nat _ _ (by omega) hn]
  congr 1
  apply Nat.eq_of_testBit_eq
  intro i
  rw [Nat.testBit_xor, show 18446744073709551615 - n = 2 ^ 64 - (n + 1) by omega, Nat.testBit_two_pow_sub_succ (by omega), show 18446744073709551615 = 2 ^ 64 - 1 by rfl, Nat.testBit_two_pow_sub_one]
  by_cases hi : i < 64
  · simp [hi]
  · simp [hi]
    exact Nat.testBit_lt_two_pow (Nat.lt_of_lt_of_le hn (by
      have : 2 ^ 64 ≤ 2 ^ i := Nat.pow_le_pow_right (by omega) (by omega)
      omega))

theorem headOf_any (a : Option Addr) (cap n : Nat) (l : List UInt8) (w : World) (hn : l.length = n) (hl : n ≤ 140737488355328) (h : Rd w a (l.map B)) :
    Calls Try.prog 30 #[.slice a n cap] w fun e w' => e = .returned (.agg ((headB l).map B).toArray) ∧ Below w.heap.size w w' := by
  have HN := Lib.hid hn
  clear hn
  go_enter Try.func30, Try.ntmps30
  go_wp2_with fail
  obtain ⟨w0, hw0⟩ : ∃ w0, w0 = (w.alloc (.cells zero25.toArray 49)).alloc (.cells one25.toArray 49) := ⟨_, rfl⟩
  have hg0 : w0.heap[w.heap.size + 1]? = some (.cells one25.toArray 49 (0, 0)) := by rw [hw0]; exact heap_alloc2_new _ _ _
  have hz0 : w0.heap[w.heap.size]? = some (.cells zero25.toArray 49 (0, 0)) := by rw [hw0]; exact heap_alloc2_old _ _ _
  have hb0 : Below w.heap.size w w0 := by rw [hw0]; exact ((Below.refl _ _).alloc (Nat.le_refl _) _).alloc (by simp) _
  have hs0 : w0.heap.size = w.heap.size + 2 := by rw [hw0]; simp
  refine (put_any (w.heap.size + 1) 49 1 n one25 _ (by omega) (by rw [← hg0, hw0]; rfl) rfl (by omega)).mono ?_
  rintro e w1 ⟨rfl, hg1, hgr1⟩
  have hgr1' : w0.grownBy w1 (some (w.heap.size + 1)) := by rw [hw0]; exact hgr1
  have hz1 := (hgr1'.block w.heap.size (by omega) (by simp)).trans hz0
  have hb1 : Below w.heap.size w w1 := hb0.grown hgr1' (by omega) (by intro k hk; simp at hk; omega)
  have hs1 : w.heap.size + 2 ≤ w1.heap.size := by have := hgr1'.size; omega
  clear hgr1 hw0 hg0 hz0 hb0 hs0 hgr1'
  obtain ⟨M, hM⟩ : ∃ M, M = 18446744073709551615 - n := ⟨_, rfl⟩
  have hnot := not_u64 n (by omega)
  rw [← hM] at hnot
  have HM := Lib.hid hM
  clear hM
  have hsg : IntKind.u64.signed = false := rfl
  go_wp2_with fail
  refine (put_any (w.heap.size + 1) 49 9 M _ w1 (by have := HM.out; omega) hg1 (by simp [splice, be8_len, one25]) (by omega)).mono ?_
  rintro e w2 ⟨rfl, hg2, hgr2⟩
  have hz2 := (hgr2.block w.heap.size (by omega) (by simp)).trans hz1
  have hb2 : Below w.heap.size w w2 := hb1.grown hgr2 (by omega) (by intro k hk; simp at hk; omega)
  have hs2 : w.heap.size + 2 ≤ w2.heap.size := by have := hgr2.size; omega
  have h2 := h.below hb2
  clear hg1 hz1 hb1 hs1 hgr2 hnot hsg
  go_wp2_with fail
  refine (sum_n a cap n l w2 HN.out hl h2).mono ?_
  rintro e _ ⟨rfl, rfl⟩
  unfold U
  go_wp2_with fail
  refine (put_any (w.heap.size + 1) 49 17 (fnv l).toNat _ w2 (fnv l).isLt hg2 (by simp [splice, be8_len, one25]) (by omega)).mono ?_
  rintro e w3 ⟨rfl, hg3, hgr3⟩
  have hz3 := (hgr3.block w.heap.size (by omega) (by simp)).trans hz2
  have hb3 : Below w.heap.size w w3 := hb2.grown hgr3 (by omega) (by intro k hk; simp at hk; omega)
  have hcs : splice (splice (splice one25 1 ((be8 n).map B)) 9 ((be8 M).map B)) 17 ((be8 (fnv l).toNat).map B) = (headB l).map B := by
    rw [HM.out, spliced_head n _ (by omega), headB, HN.out]
  rw [hcs] at hg3
  obtain ⟨cs, hc⟩ : ∃ cs, cs = ((headB l).map B).toArray := ⟨_, rfl⟩
  rw [← hc] at hg3
  have hsz : (Try.prog.info? 49).map (·.size) = some cs.size := by rw [info49, hc]; simp [headB_len]
  have hone : cs.all (·.oneCell') = true := by
    rw [hc, Array.all_eq_true_iff_forall_mem]
    intro u hu
    exact B_oneCell _ u (by simpa using hu)
  have hcsz : zero25.toArray.size = cs.size := by rw [hc]; simp [headB_len, zero25]
  have HC := Lib.hid hc
  have HZ := Lib.hid hcsz
  clear hg2 hz2 hb2 hs2 hgr3 hcs hc hcsz h2
  go_wp2_with (first | (with_reducible refine wpList_load_row rfl 49 _ rfl (w.heap.size + 1) rfl 49 cs (0, 0) _ hg3 Try.underlying49 rfl hsz ?_) | (with_reducible refine wpList_store_row rfl 49 _ _ rfl w.heap.size cs rfl rfl 49 _ hz3 hsz HZ.out hone ?_))
  refine bodyPost_ret (v := .agg cs) (results_cell_row rfl _ _ w.heap.size 49 cs (0, 0) _ rfl (setRow_heap w3 _ _ cs 49 _ hz3) Try.underlying49 rfl hsz) rfl ⟨by rw [HC.out], below_setRow hb3 (Nat.le_refl _) cs⟩

theorem rhead_any (a : Option Addr) (cap n : Nat) (l : List UInt8) (w : World) (hn : l.length = n) (hl : n ≤ 140737488355328) (h : Rd w a (l.map B)) :
    Calls Try.prog 31 #[.slice a n cap] w fun e w' => ∃ a' c', e = .returned (.slice a' 25 c') ∧ w'.ownsRow w.heap.size 5 1 (.slice a' 25 c') 25 ((headB l).map B) ∧ Below w.heap.size w w' := by
  have HN := Lib.hid hn
  clear hn
  go_enter Try.func31, Try.ntmps31
  go_wp2_with fail
  have hb0 : Below w.heap.size w (w.alloc (.cells #[.int .u8 74] 5)) := (Below.refl _ _).alloc (Nat.le_refl _) _
  have hown0 := World.ownsRow_lit (base := w.heap.size) (e := 5) (size := 1) w #[.int .u8 74] 1 (Nat.le_refl _) (by decide) rfl
  refine (eight_any n _ (by omega)).mono ?_
  rintro e w1 ⟨a1, c1, rfl, hown1, hb1⟩
  have hownA : w1.ownsRow w.heap.size 5 1 _ 1 (([74] : List UInt8).map B) := ownsRow_below hown0 hb1
  obtain ⟨g1, rfl, hg1, hg1'⟩ := own_some hown1 (by omega)
  simp only [World.size_alloc] at hg1
  have hb1' := hb0.trans (hb1.mono (by simp))
  have hownN := ownsRow_base hown1 (show w.heap.size ≤ _ by simp)
  have hs1 : w.heap.size ≤ w1.heap.size := hb1'.size
  have hne1 : (Value.slice (some ⟨g1, 0, none⟩) 8 c1).ownBlock = none ∨ (Value.slice (some ⟨g1, 0, none⟩) 8 c1).ownBlock ≠ (Value.slice (some ⟨w.heap.size, 0, none⟩) 1 1).ownBlock := by
    right; simp [Value.ownBlock]; omega
  clear hown0 hb0 hb1 hown1 hg1 hg1'
  go_wp2_with (first | (at_builtin; refine app_b _ rfl _ _ rfl w.heap.size (.slice (some ⟨w.heap.size, 0, none⟩) 1 1) 1 [74] rfl hownA (some ⟨g1, 0, none⟩) 8 c1 (be8 n) rfl (be8_len n) (ownsRow_rd hownN) (by omega) hs1 ?_; intro a2 c2 w2 hown2 hbel2 hmv2) | fail)
  have hne2 := hmv2.apart hownN hne1
  have hownN2 := hmv2.kept hownN hne1
  have hb2 := hb1'.trans hbel2
  clear hmv2 hne1 hownN hownA hbel2 hb1' hs1
  go_loopw [3, 5] (fun v i wr => ∃ k : Nat, k ≤ 8 ∧ i = .int .i64 (k : Int) ∧ (∃ a c, v = .slice a (9 + k) c) ∧ wr.ownsRow w.heap.size 5 1 v (9 + k) (([74] ++ be8 n ++ ((be8 n).map inv255).take k).map B) ∧
    wr.ownsRow w.heap.size 5 1 (.slice (some ⟨g1, 0, none⟩) 8 c1) 8 ((be8 n).map B) ∧ ((Value.slice (some ⟨g1, 0, none⟩) 8 c1).ownBlock = none ∨ (Value.slice (some ⟨g1, 0, none⟩) 8 c1).ownBlock ≠ v.ownBlock) ∧ Below w.heap.size w wr) (fun _ i _ => (8 - intOf i).toNat)
  case atStart => exact ⟨0, Nat.zero_le _, rfl, ⟨a2, c2, rfl⟩, by simpa using hown2, hownN2, hne2, hb2⟩
  case round =>
    clear hown2 hownN2 hne2 hb2
    obtain ⟨k, hk, rfl, ⟨a3, c3, rfl⟩, hown, hownN, hne, hbel⟩ := hrel
    have hs := hbel.size
    by_cases hlt : k < 8
    · have hc := hownN.cellAt k (by omega)
      rw [List.getElem?_map, be8_get? n k hlt, Option.map_some, B] at hc
      have hbv := inv255_val (byteAt n k)
      have hb := (byteAt n k).toNat_lt
      have HX : Hid (Value.int .u8 (255 - ((byteAt n k).toNat : Int)) = B (inv255 (byteAt n k))) := by show _ = _; rw [hbv]; rfl
      have HO := Lib.hid hown
      have HNN := Lib.hid hownN
      have HNE := Lib.hid hne
      have HB := Lib.hid hbel
      have hlt' : (k : Int) < 8 := by omega
      obtain ⟨z, hz⟩ : ∃ z, byteAt n k = z := ⟨_, rfl⟩
      rw [hz] at HX hc hb
      have HZ := Lib.hid hz
      clear hz hbv hown hownN hne hbel
      go_wp2_with (first | (at_builtin; refine app_b1 wr rfl _ _ rfl w.heap.size (.slice a3 (9 + k) c3) (9 + k) _ rfl HO.out _ (inv255 z) HX.out rfl (by omega) hs ?_; intro a4 c4 w4 hown4 hbel4 hmv4) | fail)
      have hnn4 := hmv4.kept (HNN.out.alloc _) HNE.out
      have hne4 := hmv4.apart (HNN.out.alloc _) HNE.out
      have hb4 := HB.out.trans hbel4
      have HO4 := Lib.hid hown4
      have HNN4 := Lib.hid hnn4
      have HNE4 := Lib.hid hne4
      have HB4 := Lib.hid hb4
      clear hown4 hbel4 hmv4 hnn4 hne4 hb4 hc
      go_wp2
      go_roundw
      case rel =>
        refine ⟨k + 1, by omega, by go_num, ⟨a4, c4, rfl⟩, ?_, HNN4.out, HNE4.out, HB4.out⟩
        rw [take_snoc _ k (by simp [be8_len]; exact hlt)]
        have e1 : ((be8 n).map inv255)[k]'(by simp [be8_len]; exact hlt) = inv255 z := by rw [List.getElem_map, be8_get n k hlt, HZ.out]
        rw [e1, ← List.append_assoc]
        exact HO4.out
      case measure => simp [intOf]; omega
    · obtain rfl : k = 8 := by omega
      rw [List.take_of_length_le (by simp [be8_len])] at hown
      have hr := h.below hbel
      have HO := Lib.hid hown
      have HB := Lib.hid hbel
      clear hown hownN hne hbel
      go_wp2_with fail
      refine (rsum_n a cap n l wr HN.out hl hr).mono ?_
      rintro e _ ⟨rfl, rfl⟩
      unfold U
      go_wp2_with fail
      refine (eight_any (fnv l).toNat _ (fnv l).isLt).mono ?_
      rintro e w5 ⟨a5, c5, rfl, hown5, hb5⟩
      have hownA : w5.ownsRow w.heap.size 5 1 _ 17 _ := ownsRow_below HO.out hb5
      have hb6 := HB.out.trans (hb5.mono hs)
      have hs6 := hb6.size
      go_wp2_with (first | (at_builtin; refine app_b _ rfl _ _ rfl w.heap.size (.slice a3 17 c3) 17 _ rfl hownA a5 8 c5 _ rfl (be8_len _) (ownsRow_rd hown5) (by omega) hs6 ?_; intro a7 c7 w7 hown7 hbel7 hmv7) | fail)
      go_ret
      refine ⟨a7, c7, rfl, ?_, hb6.trans hbel7⟩
      have e : [74] ++ be8 n ++ (be8 n).map inv255 ++ be8 (fnv l).toNat = headB l := by
        rw [headB, HN.out]; simp
      rw [e] at hown7
      exact hown7
end Go.Proofs.Ytiebnfdjnclkcaa
