/- The walk of the reference's Chunk. -/
import Derived.Test.YtgpefemnabjfcaaW4
set_option linter.unusedVariables false
namespace Go.Proofs.Ytgpefemnabjfcaa
open Go.RowKit

theorem chunkB_take {l : List UInt8} {p : Nat} {most : Int} (h0 : 1 ≤ most) : chunkB l p most = (l.drop p).take (chunkB l p most).length := by
  conv => lhs; unfold chunkB
  rw [if_neg (by omega), chunkB_len h0, Int.toNat_natCast]
  rcases Nat.le_total most.toNat (l.length - p) with h9 | h9
  · rw [Nat.min_eq_left h9]
  · rw [Nat.min_eq_right h9, List.take_of_length_le (by rw [List.length_drop]; exact h9), List.take_of_length_le (by rw [List.length_drop]; exact Nat.le_refl _)]
theorem rchunk_n (a : Option Addr) (cap n : Nat) (l : List UInt8) (at_ most : Int) (w : World) (hn : l.length = n) (hmax : n ≤ 140737488355328) (h : Rd w a (l.map B)) (hat : at_ ≤ 9223372036854775807) :
    Calls Try.prog 8 #[.slice a n cap, .int .i64 at_, .int .i64 most] w fun e w' => ∃ a' c', e = .returned (.slice a' (chunkB l at_ most).length c') ∧ w'.ownsRow w.heap.size 5 1 (.slice a' (chunkB l at_ most).length c') (chunkB l at_ most).length ((chunkB l at_ most).map B) ∧ Below w.heap.size w w' := by
  have HN := Lib.hid hn
  by_cases h0 : at_ < 0
  · have e0 := chunkB_none (l := l) (at_ := at_) (most := most) (.inl h0)
    rw [e0]
    clear e0
    go_enter Try.func8, Try.ntmps8
    go_wp2_with fail
    go_ret
    exact ⟨none, 0, rfl, World.ownsRow_nil _ _ _ _, Below.refl _ _⟩
  · obtain ⟨p, rfl⟩ : ∃ p : Nat, at_ = (p : Int) := ⟨at_.toNat, by omega⟩
    obtain ⟨ch, hch⟩ : ∃ ch, ch = chunkB l p most := ⟨_, rfl⟩
    obtain ⟨k, hk⟩ : ∃ k, k = ch.length := ⟨_, rfl⟩
    have hkx : ∀ j, j ≤ k → (j < k ↔ ((p : Int) + j < n ∧ (j : Int) < most)) := by
      intro j hj
      by_cases h1 : 1 ≤ most
      · have := chunkB_len (l := l) (p := p) h1
        rw [← hch, ← hk, hn] at this
        omega
      · have : k = 0 := by rw [hk, hch, chunkB_none (.inr (.inr (by omega)))]; rfl
        omega
    have hget : ∀ j, j < k → ∃ (h1 : p + j < l.length), ∀ (h2 : j < ch.length), ch[j] = l[p + j] := by
      intro j hj
      have h9 := (hkx j (by omega)).1 hj
      refine ⟨by omega, fun h2 => ?_⟩
      have e := chunkB_take (l := l) (p := p) (most := most) (by omega)
      rw [← hch] at e
      have e2 : ch[j]? = ((l.drop p).take ch.length)[j]? := congrArg (·[j]?) e
      rw [List.getElem?_eq_getElem h2, List.getElem?_take_of_lt h2, List.getElem?_drop, List.getElem?_eq_getElem (by omega)] at e2
      exact Option.some.inj e2
    rw [← hch, ← hk]
    have HK := Lib.hid hk
    have HX := Lib.hid hkx
    have HG := Lib.hid hget
    have hkn : k ≤ n := by
      rcases Nat.eq_zero_or_pos k with h1 | h1
      · omega
      · have := (hkx (k - 1) (by omega)).1 (by omega)
        omega
    have hpk : 0 < k → p < n := fun h1 => by have := (hkx 0 (by omega)).1 h1; omega
    clear hch hk hkx hget hn
    have h0' : ¬ (p : Int) < 0 := by omega
    go_enter Try.func8, Try.ntmps8
    go_wp2
    go_loopw [7, 8] (fun v i wr => ∃ (j : Nat) (a1 : Option Addr) (c1 : Nat), j ≤ k ∧ i = .int .i64 ((p : Int) + (j : Int)) ∧ v = .slice a1 j c1 ∧ wr.ownsRow w.heap.size 5 1 v j ((ch.take j).map B) ∧ Below w.heap.size w wr) (fun _ i _ => n + p - (intOf i).toNat)
    case atStart => exact ⟨0, none, 0, Nat.zero_le _, by simp, rfl, World.ownsRow_nil _ _ _ _, Below.refl _ _⟩
    case round =>
      obtain ⟨j, a1, c1, hj, rfl, rfl, hown, hb⟩ := hrel
      by_cases hlt : j < k
      · have hx := (HX.out j hj).1 hlt
        obtain ⟨hpl, hgl⟩ := HG.out j hlt
        have hjc : j < ch.length := by rw [← HK.out]; exact hlt
        obtain ⟨bb, off, rfl, hc⟩ := (h.below hb).cells (by intro h0; simp at h0; subst h0; simp at hpl)
        have hc' := hc (p + j) (by simpa using hpl)
        rw [List.getElem_map, ← hgl hjc, B] at hc'
        obtain ⟨hx1, hx2⟩ := hx
        have hsz := hb.size
        have hts := take_snoc ch j hjc
        obtain ⟨u, hu⟩ : ∃ u, u = ch[j] := ⟨_, rfl⟩
        rw [← hu] at hc' hts
        have HT := Lib.hid hts
        have hp0 : (0 : Int) ≤ (p : Int) + (j : Int) := by omega
        obtain ⟨q, hq⟩ : ∃ q : Nat, (p : Int) + (j : Int) = (q : Int) := ⟨p + j, by omega⟩
        have hq2 : q = p + j := by omega
        rw [← hq2] at hc'
        rw [hq] at hx1 hp0 ⊢
        have HQ := Lib.hid hq
        clear hc hts hu hgl hq hq2 hpl
        go_wp2_with (first | (at_builtin; refine app_b1 wr rfl _ _ rfl w.heap.size (.slice a1 j c1) j (ch.take j) rfl hown (.int .u8 (u.toNat : Int)) u rfl rfl (by omega) hsz ?_; intro a2 c2 w2 hown2 hb2 hmv2) | fail)
        have hb3 := hb.trans hb2
        rw [← HT.out] at hown2
        have HO := Lib.hid hown2
        have HB := Lib.hid hb3
        clear hown2 hb2 hmv2 hb3 hown
        go_wp2
        go_roundw
        case rel => exact ⟨j + 1, a2, c2, by omega, by rw [← HQ.out]; go_num, rfl, HO.out, HB.out⟩
        case measure => have := HQ.out; simp [intOf]; omega
      · have hke : j = k := by omega
        have hx : ¬ ((p : Int) + j < n ∧ (j : Int) < most) := fun h9 => hlt ((HX.out j hj).2 h9)
        have hown2 : wr.ownsRow w.heap.size 5 1 (.slice a1 k c1) k (ch.map B) := by
          rw [← hke]
          rw [hke, List.take_of_length_le (by rw [← HK.out]; exact Nat.le_refl _), ← hke] at hown
          exact hown
        have HO := Lib.hid hown2
        have HKE := Lib.hid hke
        clear hown hown2 hke
        by_cases hx1 : (p : Int) + j < n
        · have hx2 : ¬ (j : Int) < most := fun h9 => hx ⟨hx1, h9⟩
          clear hx
          go_wp2
          go_ret
          exact ⟨a1, c1, by rw [← HKE.out]; rfl, HO.out, hb⟩
        · clear hx
          go_wp2
          go_ret
          exact ⟨a1, c1, by rw [← HKE.out]; rfl, HO.out, hb⟩
#print axioms rchunk_n
end Go.Proofs.Ytgpefemnabjfcaa
