/- The laws' grown 54: a message's lists with further marks behind them. -/
import Derived.Test.YtaipnbpefdcejaaAllC
set_option linter.unusedVariables false
namespace Go.Proofs.Ytaipnbpefdcejaa
open Go.RowKit
/-- Blocks outside S stay. -/
structure Offs (S : Nat → Prop) (w w' : World) : Prop where
  os : w'.os = w.os
  tape : w'.tape = w.tape
  output : w'.output = w.output
  size : w.heap.size ≤ w'.heap.size
  block : ∀ k, k < w.heap.size → ¬ S k → w'.heap[k]? = w.heap[k]?
theorem Offs.refl (S : Nat → Prop) (w : World) : Offs S w w := ⟨rfl, rfl, rfl, Nat.le_refl _, fun _ _ _ => rfl⟩
theorem Offs.grown {S : Nat → Prop} {w w1 w2 : World} {r : Option Nat} (h : Offs S w w1) (hg : w1.grownBy w2 r) (hr : ∀ k, r = some k → S k ∨ w.heap.size ≤ k) : Offs S w w2 :=
  ⟨hg.os.trans h.os, hg.tape.trans h.tape, hg.output.trans h.output, Nat.le_trans h.size hg.size, fun k hk hs => (hg.block k (Nat.lt_of_lt_of_le hk h.size) (by
    intro e
    rcases hr k e.symm with h1 | h1
    · exact hs h1
    · omega)).trans (h.block k hk hs)⟩
theorem Offs.below {S : Nat → Prop} {w w1 w2 : World} (h : Offs S w w1) (hb : Below w1.heap.size w1 w2) : Offs S w w2 := h.grown (r := none) ⟨hb.os, hb.tape, hb.output, hb.size, fun k hk _ => hb.block k hk⟩ (fun k e => by cases e)
theorem Offs.rd {S : Nat → Prop} {w w' : World} {a : Option Addr} {vs : List Value} (h : Offs S w w') (hr : Rd w a vs) (ha : ∀ x, a = some x → ¬ S x.block) : Rd w' a vs := by
  rcases hr with h0 | ⟨b, off, rfl, hc⟩
  · exact .inl h0
  · refine .inr ⟨b, off, rfl, fun i u hu => ?_⟩
    have h1 := hc i u hu
    rw [World.cell?_of_block (w := w) (h.block b (World.block_lt_of_cell? w _ h1) (ha _ rfl))]
    exact h1
/-- The blocks of a message's lists. -/
def LB (q : Ps) (k : Nat) : Prop := ∃ x : Addr, (q.an = some x ∨ q.al = some x ∨ q.av = some x ∨ q.ai = some x) ∧ x.block = k
/-- A list that grows: what it began with still reads at its old place. -/
structure GL (w0 : World) (lo e size : Nat) (a0 : Option Addr) (xs : List Value) (v : Value) (k : Nat) (zs : List Value) (wr : World) : Prop where
  own : wr.ownsRow lo e size v k zs
  pre : ∃ ys, zs = xs ++ ys
  rd : Rd wr a0 xs
  old : ∀ x, a0 = some x → x.block < w0.heap.size ∧ x = ⟨x.block, 0, none⟩
  cur : ∀ b, v.ownBlock = some b → (∃ x, a0 = some x ∧ x.block = b) ∨ w0.heap.size ≤ b
theorem rd_pre {w : World} {a : Option Addr} {xs ys : List Value} (h : Rd w a (xs ++ ys)) : Rd w a xs := by
  rcases h with h0 | ⟨b, off, rfl, hc⟩
  · exact .inl (List.append_eq_nil_iff.1 h0).1
  · refine .inr ⟨b, off, rfl, fun i u hu => hc i u ?_⟩
    rw [List.getElem?_append_left (List.getElem?_eq_some_iff.1 hu).1]
    exact hu
theorem rd_kept {w w' : World} {a : Option Addr} {vs : List Value} {r : Option Nat} (h : Rd w a vs) (hg : w.grownBy w' r) (hne : ∀ b off, a = some ⟨b, off, none⟩ → some b ≠ r) : Rd w' a vs := by
  rcases h with h0 | ⟨b, off, rfl, hc⟩
  · exact .inl h0
  · exact .inr ⟨b, off, rfl, fun i u hu => hg.cell (hc i u hu) (hne b off rfl)⟩
section
variable {w0 : World} {lo e size : Nat} {a0 : Option Addr} {xs : List Value} {v v' : Value} {k : Nat} {zs new : List Value} {wr w7 : World}
theorem GL.start {n c : Nat} (h : w0.ownsRow lo e size (.slice a0 n c) n xs) : GL w0 lo e size a0 xs (.slice a0 n c) n xs w0 := by
  refine ⟨h, ⟨[], by simp⟩, ownsRow_rd h, fun x hx => ?_, fun b hb => ?_⟩
  · subst hx
    refine ⟨(h.lt x.block rfl).2, ?_⟩
    rcases h.2 with ⟨h1, _⟩ | ⟨g, cap, cur, h1, _⟩
    · cases h1
    · cases h1; rfl
  · cases a0 with
    | none => cases hb
    | some x => cases hb; exact .inl ⟨x, rfl, rfl⟩
theorem GL.below (h : GL w0 lo e size a0 xs v k zs wr) (hb : Below wr.heap.size wr w7) : GL w0 lo e size a0 xs v k zs w7 := ⟨own_below h.own hb, h.pre, h.rd.below hb, h.old, h.cur⟩
theorem GL.step (h : GL w0 lo e size a0 xs v k zs wr) (hw : w0.heap.size ≤ wr.heap.size) (hm : Moved wr w7 v v') (ho : w7.ownsRow lo e size v' (k + 1) (zs ++ new)) : GL w0 lo e size a0 xs v' (k + 1) (zs ++ new) w7 := by
  obtain ⟨ys, hys⟩ := h.pre
  refine ⟨ho, ⟨ys ++ new, by rw [hys, List.append_assoc]⟩, ?_, h.old, fun b hb => ?_⟩
  · rcases hm with ⟨h1, h2⟩ | ⟨h1, h2⟩
    · by_cases hb : ∃ x, a0 = some x ∧ v.ownBlock = some x.block
      · obtain ⟨x, hx, hvx⟩ := hb
        have hxo := (h.old x hx).2
        rcases ho.2 with ⟨_, h0⟩ | ⟨g, cap, cur, hv', _⟩
        · omega
        · have hg : g = x.block := by
            have h3 : v'.ownBlock = some g := by rw [hv']; rfl
            rw [h1, hvx] at h3
            cases h3; rfl
          rw [hv'] at ho
          have h4 := ownsRow_rd ho
          rw [hys, List.append_assoc] at h4
          have h5 := rd_pre h4
          rw [hx, hxo, ← hg]
          exact h5
      · refine rd_kept h.rd h2 (fun b off ha => ?_)
        intro hvb
        exact hb ⟨_, ha, hvb.symm⟩
    · exact rd_kept h.rd h1 (fun b off _ => by simp)
  · rcases hm with ⟨h1, _⟩ | ⟨_, h2⟩
    · rw [h1] at hb; exact h.cur b hb
    · rw [h2] at hb; cases hb; exact .inr hw
end
theorem GL.other {w0 : World} {lo e size lo' e' size' k k' : Nat} {a0 a0' : Option Addr} {xs zs zs' : List Value} {v u u' : Value} {wr w7 : World} (h : GL w0 lo e size a0 xs v k zs wr) (hm : Moved wr w7 u u') (hu : wr.ownsRow lo' e' size' u k' zs') (hne : e ≠ e')
    (hcur : ∀ b, u.ownBlock = some b → (∃ x, a0' = some x ∧ x.block = b) ∨ w0.heap.size ≤ b) (hap : ∀ x y, a0 = some x → a0' = some y → x.block ≠ y.block) : GL w0 lo e size a0 xs v k zs w7 := by
  refine ⟨hm.kept h.own (own_apart h.own hu hne), h.pre, rd_kept h.rd hm.grown (fun b off ha => ?_), h.old, h.cur⟩
  intro hb
  have h1 := (h.old _ ha).1
  dsimp only at h1
  rcases hcur b hb.symm with ⟨x, hx, hxb⟩ | h2
  · exact hap _ x ha hx hxb.symm
  · omega
/-- The four lists of a message, grown. -/
structure GZ (w : World) (lo : Nat) (m : M) (q : Ps) (j : Nat) (va vb vc vd : Value) (wr : World) : Prop where
  A : ∃ zs, GL w lo 5 1 q.ai (m.image.map B) va (m.image.length + j) zs wr
  N : ∃ zs, GL w lo 89 2 q.an (ncells m.names) vb (m.names.length + j) zs wr
  L : ∃ zs, GL w lo 3 1 q.al (zcells m.lens) vc (m.lens.length + j) zs wr
  V : ∃ zs, GL w lo 74 2 q.av (vcells m.vals) vd (m.vals.length + j) zs wr
  off : Offs (LB q) w wr
theorem blocks_apart {w : World} {lo lo' e e' size size' n n' c c' : Nat} {a a' : Option Addr} {xs ys : List Value} (h : w.ownsRow lo e size (.slice a n c) n xs) (h' : w.ownsRow lo' e' size' (.slice a' n' c') n' ys) (hne : e ≠ e') : ∀ x y : Addr, a = some x → a' = some y → x.block ≠ y.block := by
  intro x y hx hy he
  subst hx hy
  rcases own_apart h h' hne with h1 | h1
  · cases h1
  · exact h1 (by simp [Value.ownBlock, he])
/-- What grown leaves. -/
def GrPost (m : M) (q : Ps) (w : World) (e : Ending) (w' : World) : Prop := e = .returned (.tuple #[]) ∧ MRd w' m q ∧ Offs (LB q) w w'
theorem offs_step {q : Ps} {w wr w7 : World} {u u' : Value} {a0 : Option Addr} (h : Offs (LB q) w wr) (hm : Moved wr w7 u u') (ha : q.an = a0 ∨ q.al = a0 ∨ q.av = a0 ∨ q.ai = a0) (hcur : ∀ b, u.ownBlock = some b → (∃ x, a0 = some x ∧ x.block = b) ∨ w.heap.size ≤ b) : Offs (LB q) w w7 :=
  h.grown hm.grown (fun k hk => by
    rcases hcur k hk with ⟨x, hx, hb⟩ | h2
    · refine .inl ⟨x, ?_, hb⟩
      rcases ha with h1 | h1 | h1 | h1
      · exact .inl (by rw [h1, hx])
      · exact .inr (.inl (by rw [h1, hx]))
      · exact .inr (.inr (.inl (by rw [h1, hx])))
      · exact .inr (.inr (.inr (by rw [h1, hx])))
    · exact .inr h2)
set_option maxHeartbeats 4000000 in
set_option maxRecDepth 20000 in
theorem grown_any (m : M) (q : Ps) (mk : Int) (lo : Nat) (w : World) (hwf : WfM m) (ho : OwnM lo w m q) (hlo : lo ≤ w.heap.size) (h0 : 0 ≤ mk) (h1 : mk < 256) : Calls Try.prog 54 #[valM m q, .int .u8 mk] w (GrPost m q w) := by
  obtain ⟨v0, hv0⟩ : ∃ v, v = valM m q := ⟨_, rfl⟩
  obtain ⟨w1, hw1⟩ : ∃ w1, w1 = w.alloc (.cells (cellsM m q).toArray 50) := ⟨_, rfl⟩
  have hb1 : Below w.heap.size w w1 := by rw [hw1]; exact (Below.refl _ _).alloc (Nat.le_refl _) _
  have hk1 : Blk w1 w.heap.size 50 (cellsM m q) := by rw [hw1]; exact Blk.new w _ 50
  unfold cellsM at hw1
  unfold valM cellsM at hv0
  unfold valM cellsM
  go_enter Try.func54, Try.ntmps54
  go_upto_region 1 with fail
  rw [← hw1, ← hv0]
  obtain ⟨gm, hgm⟩ : ∃ g, g = w.heap.size := ⟨_, rfl⟩
  rw [← hgm] at hk1 ⊢
  have c30 : w1.cell? ⟨gm, 30, none⟩ = some (.slice q.ai m.image.length q.ci) := hk1.cell 30 (by rw [cellsM_len]; omega)
  have c15 : w1.cell? ⟨gm, 15, none⟩ = some (.slice q.an m.names.length q.cn) := hk1.cell 15 (by rw [cellsM_len]; omega)
  have c16 : w1.cell? ⟨gm, 16, none⟩ = some (.slice q.al m.lens.length q.cl) := hk1.cell 16 (by rw [cellsM_len]; omega)
  have c17 : w1.cell? ⟨gm, 17, none⟩ = some (.slice q.av m.vals.length q.cv) := hk1.cell 17 (by rw [cellsM_len]; omega)
  have HZ1 : Hid (GZ w lo m q 0 (.slice q.ai m.image.length q.ci) (.slice q.an m.names.length q.cn) (.slice q.al m.lens.length q.cl) (.slice q.av m.vals.length q.cv) w1) :=
    Lib.hid ⟨⟨_, (GL.start ho.2.2.2).below hb1⟩, ⟨_, (GL.start ho.1).below hb1⟩, ⟨_, (GL.start ho.2.1).below hb1⟩, ⟨_, (GL.start ho.2.2.1).below hb1⟩, (Offs.refl _ _).below hb1⟩
  have HO := Lib.hid ho
  have hwf' := hwf
  clear hw1 hv0 hb1 hk1 hgm ho hwf
  have HLO := Lib.hid hlo
  have hw1 : IntKind.u64.wrap mk = mk := by rw [IntKind.wrap_u64]; omega
  have hw2 : IntKind.i64.wrap mk = mk := by rw [IntKind.wrap_i64]; omega
  have hw3 : IntKind.i64.wrap (-700 - mk) = -700 - mk := by rw [IntKind.wrap_i64]; omega
  have hw4 : IntKind.i64.wrap (-900 - mk) = -900 - mk := by rw [IntKind.wrap_i64]; omega
  have q1 := hwf'.il
  have q2 := hwf'.nl
  have q3 := hwf'.ll
  have q4 := hwf'.vl
  clear hwf'
  go_wp2_with fail
  go_loopw [4, 5, 6, 7, 8] (fun x y z u i wr => ∃ (j : Nat), i = .int .i64 (j : Int) ∧ j ≤ 64 ∧ GZ w lo m q j x y z u wr) (fun _ _ _ _ i _ => 64 - (intOf i).toNat)
  case atStart => exact ⟨0, rfl, by omega, HZ1.out⟩
  case round =>
    obtain ⟨j, rfl, hj, hz⟩ := hrel
    have HZ := Lib.hid hz
    clear hz
    by_cases hlt : j < 64
    · have hlt' : (j : Int) < 64 := by omega
      have HME := Lib.hid (meas_lt hlt)
      have hjn : j + 1 ≤ 64 := hlt
      obtain ⟨zA, gA⟩ := HZ.out.A
      obtain ⟨zN, gN⟩ := HZ.out.N
      obtain ⟨zL, gL⟩ := HZ.out.L
      obtain ⟨zV, gV⟩ := HZ.out.V
      have hoff := HZ.out.off
      have hbaseA : lo ≤ wr.heap.size := Nat.le_trans HLO.out hoff.size
      have hszA := hoff.size
      have halA : Below wr.heap.size wr (wr.alloc (.cells #[.int .u8 mk] 5)) := (Below.refl _ _).alloc (Nat.le_refl _) _
      obtain ⟨iA, hiA, hxA, hyA, hvA⟩ := info_parts info5
      have howA := gA.own
      go_upto_region 9 with (first | (at_builtin; refine wpList_append_one wr rfl _ _ 23 rfl lo 5 iA _ 1 1 Try.underlying23 hiA hxA hyA hvA rfl (by decide) u4 (m.image.length + j) zA #[.int .u8 mk] rfl howA rfl rfl (by intro c hc; simp at hc; subst hc; rfl) (by unfold maxLen; omega) (by omega) hbaseA ?_; intro aA cA wA hoA hbA hmA) | fail)
      have curA := gA.cur
      have hoff := offs_step (hoff.below halA) hmA (.inr (.inr (.inr rfl))) curA
      have gN := (gN.below halA).other hmA (gA.below halA).own (by decide) curA (blocks_apart HO.out.1 HO.out.2.2.2 (by decide))
      have gL := (gL.below halA).other hmA (gA.below halA).own (by decide) curA (blocks_apart HO.out.2.1 HO.out.2.2.2 (by decide))
      have gV := (gV.below halA).other hmA (gA.below halA).own (by decide) curA (blocks_apart HO.out.2.2.1 HO.out.2.2.2 (by decide))
      have gA := (gA.below halA).step (Nat.le_trans hszA halA.size) hmA hoA
      have hbaseN : lo ≤ wA.heap.size := Nat.le_trans HLO.out hoff.size
      have hszN := hoff.size
      have halN : Below wA.heap.size wA (wA.alloc (.cells #[.int .i64 (-7), .int .u64 mk] 89)) := (Below.refl _ _).alloc (Nat.le_refl _) _
      obtain ⟨iN, hiN, hxN, hyN, hvN⟩ := info_parts info89
      have howN := gN.own
      go_upto_region 10 with (first | (at_builtin; refine wpList_append_one wA rfl _ _ 40 rfl lo 89 iN _ 2 16 Try.underlying40 hiN hxN hyN hvN rfl (by decide) u5 (m.names.length + j) zN #[.int .i64 (-7), .int .u64 mk] rfl howN rfl rfl (by intro c hc; simp at hc; rcases hc with rfl | rfl <;> rfl) (by unfold maxLen; omega) (by omega) hbaseN ?_; intro aN cN wN hoN hbN hmN) | fail)
      have curN := gN.cur
      have hoff := offs_step (hoff.below halN) hmN (.inl rfl) curN
      have gA := (gA.below halN).other hmN (gN.below halN).own (by decide) curN (blocks_apart HO.out.2.2.2 HO.out.1 (by decide))
      have gL := (gL.below halN).other hmN (gN.below halN).own (by decide) curN (blocks_apart HO.out.2.1 HO.out.1 (by decide))
      have gV := (gV.below halN).other hmN (gN.below halN).own (by decide) curN (blocks_apart HO.out.2.2.1 HO.out.1 (by decide))
      have gN := (gN.below halN).step (Nat.le_trans hszN halN.size) hmN hoN
      have hbaseL : lo ≤ wN.heap.size := Nat.le_trans HLO.out hoff.size
      have hszL := hoff.size
      have halL : Below wN.heap.size wN (wN.alloc (.cells #[.int .i64 (-700 - mk)] 3)) := (Below.refl _ _).alloc (Nat.le_refl _) _
      obtain ⟨iL, hiL, hxL, hyL, hvL⟩ := info_parts info3
      have howL := gL.own
      go_upto_region 11 with (first | (at_builtin; refine wpList_append_one wN rfl _ _ 41 rfl lo 3 iL _ 1 8 Try.underlying41 hiL hxL hyL hvL rfl (by decide) u6 (m.lens.length + j) zL #[.int .i64 (-700 - mk)] rfl howL rfl rfl (by intro c hc; simp at hc; subst hc; rfl) (by unfold maxLen; omega) (by omega) hbaseL ?_; intro aL cL wL hoL hbL hmL) | fail)
      have curL := gL.cur
      have hoff := offs_step (hoff.below halL) hmL (.inr (.inl rfl)) curL
      have gA := (gA.below halL).other hmL (gL.below halL).own (by decide) curL (blocks_apart HO.out.2.2.2 HO.out.2.1 (by decide))
      have gN := (gN.below halL).other hmL (gL.below halL).own (by decide) curL (blocks_apart HO.out.1 HO.out.2.1 (by decide))
      have gV := (gV.below halL).other hmL (gL.below halL).own (by decide) curL (blocks_apart HO.out.2.2.1 HO.out.2.1 (by decide))
      have gL := (gL.below halL).step (Nat.le_trans hszL halL.size) hmL hoL
      have hbaseV : lo ≤ wL.heap.size := Nat.le_trans HLO.out hoff.size
      have hszV := hoff.size
      have halV : Below wL.heap.size wL (wL.alloc (.cells #[.bool false, .int .i64 (-900 - mk)] 74)) := (Below.refl _ _).alloc (Nat.le_refl _) _
      obtain ⟨iV, hiV, hxV, hyV, hvV⟩ := info_parts info74
      have howV := gV.own
      go_wp2_with (first | (at_builtin; refine wpList_append_one wL rfl _ _ 42 rfl lo 74 iV _ 2 16 Try.underlying42 hiV hxV hyV hvV rfl (by decide) u7 (m.vals.length + j) zV #[.bool false, .int .i64 (-900 - mk)] rfl howV rfl rfl (by intro c hc; simp at hc; rcases hc with rfl | rfl <;> rfl) (by unfold maxLen; omega) (by omega) hbaseV ?_; intro aV cV wV hoV hbV hmV) | fail)
      have curV := gV.cur
      have hoff := offs_step (hoff.below halV) hmV (.inr (.inr (.inl rfl))) curV
      have gA := (gA.below halV).other hmV (gV.below halV).own (by decide) curV (blocks_apart HO.out.2.2.2 HO.out.2.2.1 (by decide))
      have gN := (gN.below halV).other hmV (gV.below halV).own (by decide) curV (blocks_apart HO.out.1 HO.out.2.2.1 (by decide))
      have gL := (gL.below halV).other hmV (gV.below halV).own (by decide) curV (blocks_apart HO.out.2.1 HO.out.2.2.1 (by decide))
      have gV := (gV.below halV).step (Nat.le_trans hszV halV.size) hmV hoV
      have HREL : Hid (∃ (j' : Nat), Value.int .i64 ((j : Int) + 1) = .int .i64 (j' : Int) ∧ j' ≤ 64 ∧ GZ w lo m q j' (.slice aA (m.image.length + j + 1) cA) (.slice aN (m.names.length + j + 1) cN) (.slice aL (m.lens.length + j + 1) cL) (.slice aV (m.vals.length + j + 1) cV) wV) := Lib.hid ⟨j + 1, rfl, hjn, ⟨_, gA⟩, ⟨_, gN⟩, ⟨_, gL⟩, ⟨_, gV⟩, hoff⟩
      clear gA gN gL gV hoff
      go_wp2
      go_roundw
      case rel => exact HREL.out
      case measure => exact HME.out
    · have hlt' : ¬ (j : Int) < 64 := by omega
      obtain ⟨zA, gA⟩ := HZ.out.A
      obtain ⟨zN, gN⟩ := HZ.out.N
      obtain ⟨zL, gL⟩ := HZ.out.L
      obtain ⟨zV, gV⟩ := HZ.out.V
      have HF : Hid (GrPost m q w (.returned (.tuple #[])) wr) := Lib.hid ⟨rfl, ⟨gN.rd, gL.rd, gV.rd, gA.rd⟩, HZ.out.off⟩
      clear gA gN gL gV
      go_wp2_with fail
      go_end0
      exact HF.out
#print axioms grown_any
end Go.Proofs.Ytaipnbpefdcejaa
