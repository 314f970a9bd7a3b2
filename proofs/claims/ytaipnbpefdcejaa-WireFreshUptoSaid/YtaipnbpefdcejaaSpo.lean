/- The laws' spoil 39: a message's lists written full. -/
import Derived.Test.YtaipnbpefdcejaaTog
import Derived.StillTailTactics
set_option linter.unusedVariables false
namespace Go.Proofs.Ytaipnbpefdcejaa
open Go.RowKit
theorem blk_ne {w : World} {g g' : Nat} {t t' : TypeId} {cs cs' : List Value} (h : Blk w g t cs) (h' : Blk w g' t' cs') (hne : t ≠ t') : g ≠ g' := by
  intro e
  subst e
  unfold Blk at h h'
  rw [h] at h'
  simp only [Option.some.injEq, Obj.cells.injEq] at h'
  exact hne h'.2.1
structure SPZ (w : World) (gm : Nat) (m : M) (q : Ps) (wr : World) : Prop where
  box : Blk wr gm 50 (cellsM m q)
  off : Offs (LB q) w wr
  img : 0 < m.image.length → ∃ g cs, q.ai = some ⟨g, 0, none⟩ ∧ Blk wr g 5 cs ∧ ∀ j, j < m.image.length → ∃ x : Int, cs[j]? = some (.int .u8 x) ∧ 0 ≤ x ∧ x < 256
  nam : 0 < m.names.length → ∃ g cs, q.an = some ⟨g, 0, none⟩ ∧ Blk wr g 89 cs ∧ m.names.length * 2 ≤ cs.length
  len : 0 < m.lens.length → ∃ g cs, q.al = some ⟨g, 0, none⟩ ∧ Blk wr g 3 cs ∧ m.lens.length ≤ cs.length
  val : 0 < m.vals.length → ∃ g cs, q.av = some ⟨g, 0, none⟩ ∧ Blk wr g 74 cs ∧ m.vals.length * 2 ≤ cs.length
theorem SPZ.img_put {w wr wr' : World} {gm g : Nat} {m : M} {q : Ps} {cs cs' : List Value} (h : SPZ w gm m q wr) (hx : q.ai = some ⟨g, 0, none⟩) (hk : Blk wr g 5 cs) (hk' : Blk wr' g 5 cs') (hg : wr.grownBy wr' (some g)) (hn : (∀ j, j < m.image.length → ∃ x : Int, cs'[j]? = some (.int .u8 x) ∧ 0 ≤ x ∧ x < 256)) : SPZ w gm m q wr' := by
  refine ⟨blk_g (blk_ne h.box hk (by decide)) h.box hg, h.off.grown hg (fun k hk2 => by cases hk2; exact .inl ⟨⟨g, 0, none⟩, .inr (.inr (.inr hx)), rfl⟩), ?_, ?_, ?_, ?_⟩
  · intro _
    exact ⟨g, cs', hx, hk', hn⟩
  · intro hp
    obtain ⟨g2, c2, e1, e2, e3⟩ := h.nam hp
    exact ⟨g2, c2, e1, blk_g (blk_ne e2 hk (by decide)) e2 hg, e3⟩
  · intro hp
    obtain ⟨g2, c2, e1, e2, e3⟩ := h.len hp
    exact ⟨g2, c2, e1, blk_g (blk_ne e2 hk (by decide)) e2 hg, e3⟩
  · intro hp
    obtain ⟨g2, c2, e1, e2, e3⟩ := h.val hp
    exact ⟨g2, c2, e1, blk_g (blk_ne e2 hk (by decide)) e2 hg, e3⟩
theorem SPZ.nam_put {w wr wr' : World} {gm g : Nat} {m : M} {q : Ps} {cs cs' : List Value} (h : SPZ w gm m q wr) (hx : q.an = some ⟨g, 0, none⟩) (hk : Blk wr g 89 cs) (hk' : Blk wr' g 89 cs') (hg : wr.grownBy wr' (some g)) (hn : m.names.length * 2 ≤ cs'.length) : SPZ w gm m q wr' := by
  refine ⟨blk_g (blk_ne h.box hk (by decide)) h.box hg, h.off.grown hg (fun k hk2 => by cases hk2; exact .inl ⟨⟨g, 0, none⟩, .inl hx, rfl⟩), ?_, ?_, ?_, ?_⟩
  · intro hp
    obtain ⟨g2, c2, e1, e2, e3⟩ := h.img hp
    exact ⟨g2, c2, e1, blk_g (blk_ne e2 hk (by decide)) e2 hg, e3⟩
  · intro _
    exact ⟨g, cs', hx, hk', hn⟩
  · intro hp
    obtain ⟨g2, c2, e1, e2, e3⟩ := h.len hp
    exact ⟨g2, c2, e1, blk_g (blk_ne e2 hk (by decide)) e2 hg, e3⟩
  · intro hp
    obtain ⟨g2, c2, e1, e2, e3⟩ := h.val hp
    exact ⟨g2, c2, e1, blk_g (blk_ne e2 hk (by decide)) e2 hg, e3⟩
theorem SPZ.len_put {w wr wr' : World} {gm g : Nat} {m : M} {q : Ps} {cs cs' : List Value} (h : SPZ w gm m q wr) (hx : q.al = some ⟨g, 0, none⟩) (hk : Blk wr g 3 cs) (hk' : Blk wr' g 3 cs') (hg : wr.grownBy wr' (some g)) (hn : m.lens.length ≤ cs'.length) : SPZ w gm m q wr' := by
  refine ⟨blk_g (blk_ne h.box hk (by decide)) h.box hg, h.off.grown hg (fun k hk2 => by cases hk2; exact .inl ⟨⟨g, 0, none⟩, .inr (.inl hx), rfl⟩), ?_, ?_, ?_, ?_⟩
  · intro hp
    obtain ⟨g2, c2, e1, e2, e3⟩ := h.img hp
    exact ⟨g2, c2, e1, blk_g (blk_ne e2 hk (by decide)) e2 hg, e3⟩
  · intro hp
    obtain ⟨g2, c2, e1, e2, e3⟩ := h.nam hp
    exact ⟨g2, c2, e1, blk_g (blk_ne e2 hk (by decide)) e2 hg, e3⟩
  · intro _
    exact ⟨g, cs', hx, hk', hn⟩
  · intro hp
    obtain ⟨g2, c2, e1, e2, e3⟩ := h.val hp
    exact ⟨g2, c2, e1, blk_g (blk_ne e2 hk (by decide)) e2 hg, e3⟩
theorem SPZ.val_put {w wr wr' : World} {gm g : Nat} {m : M} {q : Ps} {cs cs' : List Value} (h : SPZ w gm m q wr) (hx : q.av = some ⟨g, 0, none⟩) (hk : Blk wr g 74 cs) (hk' : Blk wr' g 74 cs') (hg : wr.grownBy wr' (some g)) (hn : m.vals.length * 2 ≤ cs'.length) : SPZ w gm m q wr' := by
  refine ⟨blk_g (blk_ne h.box hk (by decide)) h.box hg, h.off.grown hg (fun k hk2 => by cases hk2; exact .inl ⟨⟨g, 0, none⟩, .inr (.inr (.inl hx)), rfl⟩), ?_, ?_, ?_, ?_⟩
  · intro hp
    obtain ⟨g2, c2, e1, e2, e3⟩ := h.img hp
    exact ⟨g2, c2, e1, blk_g (blk_ne e2 hk (by decide)) e2 hg, e3⟩
  · intro hp
    obtain ⟨g2, c2, e1, e2, e3⟩ := h.nam hp
    exact ⟨g2, c2, e1, blk_g (blk_ne e2 hk (by decide)) e2 hg, e3⟩
  · intro hp
    obtain ⟨g2, c2, e1, e2, e3⟩ := h.len hp
    exact ⟨g2, c2, e1, blk_g (blk_ne e2 hk (by decide)) e2 hg, e3⟩
  · intro _
    exact ⟨g, cs', hx, hk', hn⟩
theorem SPZ.below {w wr wr' : World} {gm : Nat} {m : M} {q : Ps} (h : SPZ w gm m q wr) (hb : Below wr.heap.size wr wr') : SPZ w gm m q wr' :=
  ⟨h.box.below hb, h.off.below hb, fun hp => by obtain ⟨g, c, e1, e2, e3⟩ := h.img hp; exact ⟨g, c, e1, e2.below hb, e3⟩, fun hp => by obtain ⟨g, c, e1, e2, e3⟩ := h.nam hp; exact ⟨g, c, e1, e2.below hb, e3⟩, fun hp => by obtain ⟨g, c, e1, e2, e3⟩ := h.len hp; exact ⟨g, c, e1, e2.below hb, e3⟩, fun hp => by obtain ⟨g, c, e1, e2, e3⟩ := h.val hp; exact ⟨g, c, e1, e2.below hb, e3⟩⟩
theorem own_form3 {w : World} {base n c : Nat} {e : TypeId} {size : Nat} {a : Option Addr} {xs : List Value} (h : w.ownsRow base e size (.slice a n c) n xs) (hn : 0 < n) : ∃ g cs, a = some ⟨g, 0, none⟩ ∧ Blk w g e cs ∧ n * size ≤ cs.length ∧ cs.take (n * size) = xs := by
  rcases h.2 with ⟨h1, h2⟩ | ⟨g, cap, cur, h1, hb, hg, hnc, _, hs, ht⟩
  · omega
  · cases h1
    exact ⟨g, cur.toList, rfl, by unfold Blk; rw [Array.toArray_toList]; exact hg, by rw [Array.length_toList, hs]; exact Nat.mul_le_mul_right _ hnc, ht⟩
theorem SPZ.start {w w1 : World} {gm lo : Nat} {m : M} {q : Ps} (ho : OwnM lo w m q) (hk : Blk w1 gm 50 (cellsM m q)) (hb : Below w.heap.size w w1) : SPZ w gm m q w1 := by
  refine ⟨hk, (Offs.refl _ _).below hb, fun hp => ?_, fun hp => ?_, fun hp => ?_, fun hp => ?_⟩
  · obtain ⟨g, cs, e1, e2, e3, e4⟩ := own_form3 ho.2.2.2 hp
    refine ⟨g, cs, e1, e2.below hb, fun j hj => ?_⟩
    have h1 : (m.image.map B)[j]? = some (B m.image[j]) := by rw [List.getElem?_map, List.getElem?_eq_getElem hj]; rfl
    rw [← e4, List.getElem?_take_of_lt (by omega)] at h1
    exact ⟨_, h1, by omega, by have := m.image[j].toNat_lt; omega⟩
  · obtain ⟨g, cs, e1, e2, e3, _⟩ := own_form3 ho.1 hp
    exact ⟨g, cs, e1, e2.below hb, e3⟩
  · obtain ⟨g, cs, e1, e2, e3, _⟩ := own_form3 ho.2.1 hp
    exact ⟨g, cs, e1, e2.below hb, by omega⟩
  · obtain ⟨g, cs, e1, e2, e3, _⟩ := own_form3 ho.2.2.1 hp
    exact ⟨g, cs, e1, e2.below hb, e3⟩
def SpPost (q : Ps) (w : World) (e : Ending) (w' : World) : Prop := e = .returned (.tuple #[]) ∧ Offs (LB q) w w'
theorem bits_u8 (a b : Int) : 0 ≤ bits .xor .u8 a b ∧ bits .xor .u8 a b < 256 := by
  unfold bits
  simp only [IntKind.wrap_u8]
  omega
set_option maxHeartbeats 4000000 in
set_option maxRecDepth 20000 in
theorem spoil_any (m : M) (q : Ps) (lo : Nat) (w : World) (hwf : WfM m) (ho : OwnM lo w m q) : Calls Try.prog 39 #[valM m q] w (SpPost q w) := by
  obtain ⟨v0, hv0⟩ : ∃ v, v = valM m q := ⟨_, rfl⟩
  obtain ⟨w1, hw1⟩ : ∃ w1, w1 = w.alloc (.cells (cellsM m q).toArray 50) := ⟨_, rfl⟩
  have hb1 : Below w.heap.size w w1 := by rw [hw1]; exact (Below.refl _ _).alloc (Nat.le_refl _) _
  have hk1 : Blk w1 w.heap.size 50 (cellsM m q) := by rw [hw1]; exact Blk.new w _ 50
  unfold cellsM at hw1
  unfold valM cellsM at hv0
  unfold valM cellsM
  go_enter Try.func39, Try.ntmps39
  go_upto_region 1 with fail
  rw [← hw1, ← hv0]
  obtain ⟨gm, hgm⟩ : ∃ g, g = w.heap.size := ⟨_, rfl⟩
  rw [← hgm] at hk1 ⊢
  have HZ0 := Lib.hid (SPZ.start ho hk1 hb1)
  have q1 := hwf.il
  have q2 := hwf.nl
  have q3 := hwf.ll
  have q4 := hwf.vl
  obtain ⟨ni, hni⟩ : ∃ n, n = m.image.length := ⟨_, rfl⟩
  obtain ⟨nn, hnn⟩ : ∃ n, n = m.names.length := ⟨_, rfl⟩
  obtain ⟨nl, hnl⟩ : ∃ n, n = m.lens.length := ⟨_, rfl⟩
  obtain ⟨nv, hnv⟩ : ∃ n, n = m.vals.length := ⟨_, rfl⟩
  rw [← hni] at q1
  rw [← hnn] at q2
  rw [← hnl] at q3
  rw [← hnv] at q4
  have HNI := Lib.hid hni
  have HNN := Lib.hid hnn
  have HNL := Lib.hid hnl
  have HNV := Lib.hid hnv
  clear hw1 hv0 hb1 hk1 hgm ho hwf hni hnn hnl hnv
  go_wp2_with fail
  obtain ⟨W1, hW1⟩ : ∃ x, x = w1 := ⟨_, rfl⟩
  rw [← hW1] at HZ0 ⊢
  clear hW1
  go_loopw [2] (fun i wr => ∃ (j : Nat), i = .int .i64 (j : Int) ∧ j ≤ ni ∧ SPZ w gm m q wr) (fun i _ => ni - (intOf i).toNat)
  case atStart => exact ⟨0, rfl, Nat.zero_le _, HZ0.out⟩
  case round =>
    obtain ⟨j1, rfl, hj1, hz⟩ := hrel
    have cb : wr.cell? ⟨gm, 30, none⟩ = some (.slice q.ai ni q.ci) := by rw [HNI.out]; exact hz.box.cell 30 (by rw [cellsM_len]; omega)
    have HZ := Lib.hid hz
    clear hz
    by_cases hlt : j1 < ni
    · have hlt' : (j1 : Int) < ni := by omega
      have hj0 : 0 ≤ (j1 : Int) := by omega
      have HME := Lib.hid (meas_lt hlt)
      have hjn : j1 + 1 ≤ ni := hlt
      obtain ⟨gi, cs, hai, hbk, hx⟩ := HZ.out.img (by rw [← HNI.out]; omega)
      obtain ⟨x, hcx, hx0, hx1⟩ := hx j1 (by rw [← HNI.out]; exact hlt)
      have hjl : j1 < cs.length := (List.getElem?_eq_some_iff.1 hcx).1
      have cj : wr.cell? ⟨gi, j1, none⟩ = some (.int .u8 x) := by
        rw [hbk.cell j1 hjl]
        rw [List.getElem?_eq_getElem hjl] at hcx
        exact hcx
      have fj := hbk.frozen j1
      rw [hai] at cb
      have hbd := hbk.below (below_draws (n := 1) wr)
      have hs := hbd.setCell j1 (.int .u8 (bits .xor .u8 x 90))
      have hbx := bits_u8 x 90
      have hput := (HZ.out.below (below_draws (n := 1) wr)).img_put hai hbd hs.1 hs.2 (fun k hk => by
        by_cases he : k = j1
        · subst he
          exact ⟨_, by rw [List.getElem?_set_self hjl], hbx.1, hbx.2⟩
        · obtain ⟨y, hy, hy0, hy1⟩ := hx k hk
          exact ⟨y, by rw [List.getElem?_set_ne (fun e => he e.symm)]; exact hy, hy0, hy1⟩)
      have HREL : Hid (∃ (j' : Nat), Value.int .i64 ((j1 : Int) + 1) = .int .i64 (j' : Int) ∧ j' ≤ ni ∧ SPZ w gm m q ((wr.drewN 1).setCell ⟨gi, j1, none⟩ (.int .u8 (bits .xor .u8 x 90)))) := Lib.hid ⟨j1 + 1, rfl, hjn, hput⟩
      clear hput hs hbd hbk hbx hx hcx hjl HZ hai
      go_upto_region 4 with fail
      go_still_tail 10, (by kernel_rfl)
      change wpList _ _ _ _ _ (wr.drewN 1)
      have cj' : (wr.drewN 1).cell? ⟨gi, j1, none⟩ = some (.int .u8 x) := cj
      have fj' : (wr.drewN 1).frozen? ⟨gi, j1, none⟩ = false := fj
      obtain ⟨W9, hW9⟩ : ∃ x, x = wr.drewN 1 := ⟨_, rfl⟩
      rw [← hW9] at cj' fj' HREL ⊢
      clear hW9 cj fj cb
      go_wp2
      go_roundw
      case rel => exact HREL.out
      case measure => exact HME.out
    · have hlt1 : ¬ (j1 : Int) < ni := by omega
      obtain ⟨wo1, hwo⟩ : ∃ x, x = wr := ⟨_, rfl⟩
      subst hwo
      have HZ1 := HZ
      clear HZ
      go_wp2_with fail
      obtain ⟨W2, hW2⟩ : ∃ x, x = wo1 := ⟨_, rfl⟩
      rw [← hW2] at HZ1 ⊢
      clear hW2
      go_loopw [3] (fun i wr => ∃ (j : Nat), i = .int .i64 (j : Int) ∧ j ≤ nn ∧ SPZ w gm m q wr) (fun i _ => nn - (intOf i).toNat)
      case atStart => exact ⟨0, rfl, Nat.zero_le _, HZ1.out⟩
      case round =>
        obtain ⟨j2, rfl, hj2, hz⟩ := hrel
        have cb : wr.cell? ⟨gm, 15, none⟩ = some (.slice q.an nn q.cn) := by rw [HNN.out]; exact hz.box.cell 15 (by rw [cellsM_len]; omega)
        have HZ := Lib.hid hz
        clear hz
        by_cases hlt : j2 < nn
        · have hlt' : (j2 : Int) < nn := by omega
          have hj0 : 0 ≤ (j2 : Int) := by omega
          have HME := Lib.hid (meas_lt hlt)
          have hjn : j2 + 1 ≤ nn := hlt
          have hwk : IntKind.u64.wrap (j2 : Int) = j2 := by rw [IntKind.wrap_u64]; omega
          obtain ⟨gi, cs, hai, hbk, hcl⟩ := HZ.out.nam (by rw [← HNN.out]; omega)
          rw [← HNN.out] at hcl
          rw [hai] at cb
          have hth : wr.there gi (j2 * 2) 2 := hbk.there (j2 * 2) 2 (by omega)
          have hs := hbk.setCells [.int .i64 (-70), .int .u64 (j2 : Int)] (j2 * 2) _ _ (by simp only [List.length_cons, List.length_nil]; omega)
          have hput := HZ.out.nam_put hai hbk hs.1 hs.2 (by rw [spl_len (by simp only [List.length_cons, List.length_nil]; omega), ← HNN.out]; omega)
          have HREL : Hid (∃ (j' : Nat), Value.int .i64 ((j2 : Int) + 1) = .int .i64 (j' : Int) ∧ j' ≤ nn ∧ SPZ w gm m q (wr.setCells gi (j2 * 2) [.int .i64 (-70), .int .u64 (j2 : Int)])) := Lib.hid ⟨j2 + 1, rfl, hjn, hput⟩
          clear hput hs hbk HZ hai hcl
          go_wp2_with (first | ((with_reducible refine at_store ?_); refine wpList_store_mid rfl 89 _ _ rfl gi (j2 * 2) #[.int .i64 (-70), .int .u64 (j2 : Int)] rfl rfl hth (by kernel_rfl) (by kernel_rfl) ?_) | fail)
          go_roundw
          case rel => exact HREL.out
          case measure => exact HME.out
        · have hlt2 : ¬ (j2 : Int) < nn := by omega
          obtain ⟨wo2, hwo⟩ : ∃ x, x = wr := ⟨_, rfl⟩
          subst hwo
          have HZ2 := HZ
          clear HZ
          go_wp2_with fail
          obtain ⟨W3, hW3⟩ : ∃ x, x = wo2 := ⟨_, rfl⟩
          rw [← hW3] at HZ2 ⊢
          clear hW3
          go_loopw [4] (fun i wr => ∃ (j : Nat), i = .int .i64 (j : Int) ∧ j ≤ nl ∧ SPZ w gm m q wr) (fun i _ => nl - (intOf i).toNat)
          case atStart => exact ⟨0, rfl, Nat.zero_le _, HZ2.out⟩
          case round =>
            obtain ⟨j3, rfl, hj3, hz⟩ := hrel
            have cb : wr.cell? ⟨gm, 16, none⟩ = some (.slice q.al nl q.cl) := by rw [HNL.out]; exact hz.box.cell 16 (by rw [cellsM_len]; omega)
            have HZ := Lib.hid hz
            clear hz
            by_cases hlt : j3 < nl
            · have hlt' : (j3 : Int) < nl := by omega
              have hj0 : 0 ≤ (j3 : Int) := by omega
              have HME := Lib.hid (meas_lt hlt)
              have hjn : j3 + 1 ≤ nl := hlt
              have hwk : IntKind.i64.wrap (-71 - (j3 : Int)) = -71 - (j3 : Int) := by rw [IntKind.wrap_i64]; omega
              obtain ⟨gi, cs, hai, hbk, hcl⟩ := HZ.out.len (by rw [← HNL.out]; omega)
              rw [← HNL.out] at hcl
              rw [hai] at cb
              have cj := hbk.cell j3 (by omega)
              have fj := hbk.frozen j3
              have hs := hbk.setCell j3 (.int .i64 (-71 - (j3 : Int)))
              have hput := HZ.out.len_put hai hbk hs.1 hs.2 (by rw [List.length_set, ← HNL.out]; exact hcl)
              have HREL : Hid (∃ (j' : Nat), Value.int .i64 ((j3 : Int) + 1) = .int .i64 (j' : Int) ∧ j' ≤ nl ∧ SPZ w gm m q (wr.setCell ⟨gi, j3, none⟩ (.int .i64 (-71 - (j3 : Int))))) := Lib.hid ⟨j3 + 1, rfl, hjn, hput⟩
              clear hput hs hbk HZ hai
              go_wp2
              go_roundw
              case rel => exact HREL.out
              case measure => exact HME.out
            · have hlt3 : ¬ (j3 : Int) < nl := by omega
              obtain ⟨wo3, hwo⟩ : ∃ x, x = wr := ⟨_, rfl⟩
              subst hwo
              have HZ3 := HZ
              clear HZ
              go_wp2_with fail
              obtain ⟨W4, hW4⟩ : ∃ x, x = wo3 := ⟨_, rfl⟩
              rw [← hW4] at HZ3 ⊢
              clear hW4
              go_loopw [5] (fun i wr => ∃ (j : Nat), i = .int .i64 (j : Int) ∧ j ≤ nv ∧ SPZ w gm m q wr) (fun i _ => nv - (intOf i).toNat)
              case atStart => exact ⟨0, rfl, Nat.zero_le _, HZ3.out⟩
              case round =>
                obtain ⟨j4, rfl, hj4, hz⟩ := hrel
                have cb : wr.cell? ⟨gm, 17, none⟩ = some (.slice q.av nv q.cv) := by rw [HNV.out]; exact hz.box.cell 17 (by rw [cellsM_len]; omega)
                have HZ := Lib.hid hz
                clear hz
                by_cases hlt : j4 < nv
                · have hlt' : (j4 : Int) < nv := by omega
                  have hj0 : 0 ≤ (j4 : Int) := by omega
                  have HME := Lib.hid (meas_lt hlt)
                  have hjn : j4 + 1 ≤ nv := hlt
                  have hwk : IntKind.i64.wrap (-72 - (j4 : Int)) = -72 - (j4 : Int) := by rw [IntKind.wrap_i64]; omega
                  have hwk2 : IntKind.i64.wrap (j4 : Int) = j4 := by rw [IntKind.wrap_i64]; omega
                  obtain ⟨gi, cs, hai, hbk, hcl⟩ := HZ.out.val (by rw [← HNV.out]; omega)
                  rw [← HNV.out] at hcl
                  rw [hai] at cb
                  have hth : wr.there gi (j4 * 2) 2 := hbk.there (j4 * 2) 2 (by omega)
                  have hs := hbk.setCells [.bool false, .int .i64 (-72 - (j4 : Int))] (j4 * 2) _ _ (by simp only [List.length_cons, List.length_nil]; omega)
                  have hput := HZ.out.val_put hai hbk hs.1 hs.2 (by rw [spl_len (by simp only [List.length_cons, List.length_nil]; omega), ← HNV.out]; omega)
                  have HREL : Hid (∃ (j' : Nat), Value.int .i64 ((j4 : Int) + 1) = .int .i64 (j' : Int) ∧ j' ≤ nv ∧ SPZ w gm m q (wr.setCells gi (j4 * 2) [.bool false, .int .i64 (-72 - (j4 : Int))])) := Lib.hid ⟨j4 + 1, rfl, hjn, hput⟩
                  clear hput hs hbk HZ hai hcl
                  go_wp2_with (first | ((with_reducible refine at_store ?_); refine wpList_store_mid rfl 74 _ _ rfl gi (j4 * 2) #[.bool false, .int .i64 (-72 - (j4 : Int))] rfl rfl hth (by kernel_rfl) (by kernel_rfl) ?_) | fail)
                  go_roundw
                  case rel => exact HREL.out
                  case measure => exact HME.out
                · have hlt4 : ¬ (j4 : Int) < nv := by omega
                  obtain ⟨wo4, hwo⟩ : ∃ x, x = wr := ⟨_, rfl⟩
                  subst hwo
                  have HZ4 := HZ
                  clear HZ
                  go_wp2_with fail
                  go_end0
                  exact ⟨rfl, HZ4.out.off⟩
#print axioms spoil_any
end Go.Proofs.Ytaipnbpefdcejaa
