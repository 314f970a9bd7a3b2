/- All once more: the messages' lists are apart from one another. -/
import Derived.Test.YtaipnbpefdcejaaBack
set_option linter.unusedVariables false
namespace Go.Proofs.Ytaipnbpefdcejaa
open Go.RowKit
/-- A message's lists lie in rows of their own, in blocks from lo up to hi. -/
def OwnB (lo hi : Nat) (w : World) (m : M) (q : Ps) : Prop :=
  OwnM lo w m q ∧ ∀ a, (a = q.an ∨ a = q.al ∨ a = q.av ∨ a = q.ai) → ∀ x : Addr, a = some x → x.block < hi
/-- Messages whose lists lie in blocks one behind the other. -/
def Chain (w : World) : Nat → List (M × Ps) → Nat → Prop
  | lo, [], hi => lo ≤ hi
  | lo, x :: ms, hi => ∃ mid, lo ≤ mid ∧ OwnB lo mid w x.1 x.2 ∧ Chain w mid ms hi
theorem Chain.snoc {w : World} {x : M × Ps} {hi hi' : Nat} (hx : OwnB hi hi' w x.1 x.2) (hh : hi ≤ hi') : ∀ (ms : List (M × Ps)) (lo : Nat), Chain w lo ms hi → Chain w lo (ms ++ [x]) hi' := by
  intro ms
  induction ms with
  | nil =>
    intro lo h
    have h : lo ≤ hi := h
    exact ⟨hi', Nat.le_trans h hh, ⟨hx.1.low h, hx.2⟩, Nat.le_refl _⟩
  | cons y ms ih =>
    intro lo h
    obtain ⟨mid, h1, h2, h3⟩ := h
    exact ⟨mid, h1, h2, ih mid h3⟩
theorem Chain.map {w w' : World} {hi : Nat} : ∀ (ms : List (M × Ps)) (lo : Nat), (∀ x ∈ ms, ∀ lo', OwnM lo' w x.1 x.2 → OwnM lo' w' x.1 x.2) → Chain w lo ms hi → Chain w' lo ms hi := by
  intro ms
  induction ms with
  | nil => intro lo _ h; exact h
  | cons y ms ih =>
    intro lo hf h
    obtain ⟨mid, h1, h2, h3⟩ := h
    exact ⟨mid, h1, ⟨hf y (by simp) lo h2.1, h2.2⟩, ih mid (fun x hx => hf x (by simp [hx])) h3⟩
theorem OwnM.lts {lo : Nat} {w : World} {m : M} {q : Ps} (h : OwnM lo w m q) : ∀ a, (a = q.an ∨ a = q.al ∨ a = q.av ∨ a = q.ai) → ∀ x : Addr, a = some x → lo ≤ x.block ∧ x.block < w.heap.size := by
  intro a ha x hx
  subst hx
  rcases ha with h1 | h1 | h1 | h1
  · exact h.1.lt _ (by rw [← h1]; rfl)
  · exact h.2.1.lt _ (by rw [← h1]; rfl)
  · exact h.2.2.1.lt _ (by rw [← h1]; rfl)
  · exact h.2.2.2.lt _ (by rw [← h1]; rfl)
def AllPost2 (l : List UInt8) (w : World) (e : Ending) (w' : World) : Prop :=
  ∃ (ms : List (M × Ps)) (a : Option Addr) (c : Nat) (n : Nat) (er : Int), e = .returned (.tuple #[.slice a ms.length c, .int .i64 (n : Int), .int .i64 er]) ∧ AllR l (ms.map (·.1)) n er ∧ OwnL w.heap.size w' (.slice a ms.length c) ms ∧ Chain w' w.heap.size ms w'.heap.size ∧ Below w.heap.size w w'
/-- All under way: the messages so far, the place. -/
theorem Chain.up {w : World} {hi hi' : Nat} (hh : hi ≤ hi') : ∀ {ms : List (M × Ps)} {lo : Nat}, Chain w lo ms hi → Chain w lo ms hi' := by
  intro ms
  induction ms with
  | nil => intro lo h; exact Nat.le_trans h hh
  | cons y ms ih => intro lo h; obtain ⟨mid, h1, h2, h3⟩ := h; exact ⟨mid, h1, h2, ih h3⟩
structure AT (w : World) (l : List UInt8) (ms : List (M × Ps)) (a : Option Addr) (c : Nat) (at_ : Nat) (wr : World) : Prop where
  place : at_ = (flatF (ms.map (·.1))).length
  split : l = flatF (ms.map (·.1)) ++ l.drop at_
  le : at_ ≤ l.length
  good : ∀ m ∈ ms.map (·.1), VX m ∧ properM m ∧ (inM m).length ≤ 1048576
  own : OwnL w.heap.size wr (.slice a ms.length c) ms
  bel : Below w.heap.size w wr
  chain : Chain wr w.heap.size ms wr.heap.size
theorem AT.start (w : World) (l : List UInt8) : AT w l [] none 0 0 w :=
  ⟨rfl, by simp [flatF], Nat.zero_le _, fun m hm => by simp at hm, ⟨World.ownsRow_nil _ _ _ _, fun x hx => by simp at hx⟩, Below.refl _ _, Nat.le_refl _⟩
theorem AT.stop {w wr wr' : World} {l : List UInt8} {ms : List (M × Ps)} {a : Option Addr} {c at_ : Nat} (h : AT w l ms a c at_ wr) (hb : Below wr.heap.size wr wr') (hend : at_ = l.length) :
    AllPost2 l w (.returned (.tuple #[.slice a ms.length c, .int .i64 (at_ : Int), .int .i64 0])) wr' :=
  ⟨ms, a, c, at_, 0, rfl, ⟨[], by have := h.split; rw [hend, List.drop_length] at this; exact this, h.place, h.good, .inl ⟨rfl, rfl⟩⟩, h.own.below hb, Chain.up hb.size (Chain.map ms _ (fun x hx lo' ho => ho.below hb) h.chain), h.bel.trans (hb.mono h.bel.size)⟩
theorem AT.fail {w wr wr' : World} {l : List UInt8} {ms : List (M × Ps)} {a : Option Addr} {c at_ : Nat} (h : AT w l ms a c at_ wr) (hb : Below wr.heap.size wr wr') (hlt : at_ < l.length) {x : M} {k : Nat} {er : Int} (hr : DecR (l.drop at_) x k er) (he : er ≠ 0) :
    AllPost2 l w (.returned (.tuple #[.slice a ms.length c, .int .i64 (at_ : Int), .int .i64 er])) wr' :=
  ⟨ms, a, c, at_, er, rfl, ⟨l.drop at_, h.split, h.place, h.good, .inr ⟨by intro h0; have := congrArg List.length h0; rw [List.length_drop, List.length_nil] at this; omega, he, x, k, hr⟩⟩, h.own.below hb, Chain.up hb.size (Chain.map ms _ (fun x hx lo' ho => ho.below hb) h.chain), h.bel.trans (hb.mono h.bel.size)⟩
theorem AT.grow {w wr wd w' : World} {l : List UInt8} {ms : List (M × Ps)} {a a' : Option Addr} {c c' at_ : Nat} (h : AT w l ms a c at_ wr) {x : M} {q : Ps} {k : Nat} (hr : DecR (l.drop at_) x k 0)
    (hd : Below wr.heap.size wr wd) (hq : OwnM wr.heap.size wd x q) (hm : Moved wd w' (.slice a ms.length c) (.slice a' (ms.length + 1) c')) (hbw : Below w.heap.size wr w')
    (ho : w'.ownsRow w.heap.size 50 31 (.slice a' (ms.length + 1) c') (ms.length + 1) (mcells (ms ++ [(x, q)]))) : AT w l (ms ++ [(x, q)]) a' c' (at_ + k) w' := by
  obtain ⟨hx, px, lx, hk, ht, hle, _⟩ := dec_one hr
  rw [List.length_drop] at hle
  have hmap : (ms ++ [(x, q)]).map (·.1) = ms.map (·.1) ++ [x] := by simp
  have hone : flatF [x] = frameM x := by simp [flatF]
  have hvd := own_below h.own.1 hd
  refine ⟨?_, ?_, ?_, ?_, ⟨?_, ?_⟩, h.bel.trans hbw, ?_⟩
  · rw [hmap, flatF_app, hone, List.length_append, h.place, hk]
  · rw [hmap, flatF_app, hone, List.append_assoc, ← List.drop_drop, ← ht, List.take_append_drop]
    exact h.split
  · have := h.le; omega
  · intro y hy
    rw [hmap] at hy
    rcases List.mem_append.1 hy with hy | hy
    · exact h.good y hy
    · rw [List.mem_singleton.1 hy]; exact ⟨hx, px, lx⟩
  · rw [List.length_append]; exact ho
  · intro y hy
    rcases List.mem_append.1 hy with hy | hy
    · exact ((h.own.2 y hy).below hd).moved hvd hm
    · rw [List.mem_singleton.1 hy]
      exact (hq.moved hvd hm).low h.bel.size
  · have hq2 := hq.moved hvd hm
    refine Chain.snoc (x := (x, q)) (hi := wr.heap.size) ⟨hq2, fun a' ha x' hx' => (hq2.lts a' ha x' hx').2⟩ hbw.size ms _ (Chain.map ms _ (fun y hy lo' ho => (ho.below hd).moved hvd hm) h.chain)
set_option maxHeartbeats 4000000 in
set_option maxRecDepth 20000 in
theorem all_any2 (a : Option Addr) (nb cap : Nat) (l : List UInt8) (w : World) (hn : l.length = nb) (hmax : nb ≤ 34359738368) (hcap : nb ≤ cap) (hr : Rd w a (l.map B)) : Calls Try.prog 34 #[.slice a nb cap] w (AllPost2 l w) := by
  have HN := Lib.hid hn
  have HR := Lib.hid hr
  have HST := Lib.hid (AT.start w l)
  clear hn hr
  go_enter Try.func34, Try.ntmps34
  go_wp2_with fail
  obtain ⟨W0, hW0⟩ : ∃ W0, W0 = w := ⟨_, rfl⟩
  rw [← hW0]
  have HST2 : Hid (AT w l [] none 0 0 W0) := Lib.hid (by rw [hW0]; exact HST.out)
  have HW0 := Lib.hid hW0
  clear hW0 HST
  go_loopw [5, 6] (fun o i wr => ∃ (ms : List (M × Ps)) (a2 : Option Addr) (c2 at_ : Nat), o = .slice a2 ms.length c2 ∧ i = .int .i64 (at_ : Int) ∧ AT w l ms a2 c2 at_ wr) (fun _ i _ => nb - (intOf i).toNat)
  case atStart => exact ⟨[], none, 0, 0, rfl, rfl, HST2.out⟩
  case round =>
    obtain ⟨ms, a2, c2, at_, rfl, rfl, has⟩ := hrel
    have HAS := Lib.hid has
    have hle := has.le
    rw [HN.out] at hle
    have hme := flatF_len (ms.map (·.1))
    rw [← has.place, List.length_map] at hme
    clear has
    by_cases hlt : at_ < nb
    · have hlt' : (at_ : Int) < nb := by omega
      obtain ⟨bk, off, rfl, _⟩ := HR.out.cells (by intro h0; have h1 := congrArg List.length h0; rw [List.length_map, List.length_nil, HN.out] at h1; omega)
      have hrd := (HR.out.below HAS.out.bel).sub at_ nb (by rw [List.length_map]; exact Nat.le_of_eq HN.out.symm) (some ⟨bk, off + at_, none⟩) (fun _ => by simp [Addr.add])
      rw [← List.map_take, ← List.map_drop, List.take_of_length_le (by rw [HN.out]; exact Nat.le_refl _)] at hrd
      have hln : (l.drop at_).length = nb - at_ := by rw [List.length_drop, HN.out]
      have HRD := Lib.hid hrd
      have HLN := Lib.hid hln
      clear hrd hln
      go_wp2_with fail
      refine (decode_any (some ⟨bk, off + at_, none⟩) (nb - at_) (cap - at_) (l.drop at_) wr HLN.out (by omega) (by omega) HRD.out).mono ?_
      rintro e w1 ⟨x, q, n, c, rfl, hR, hown, hb1⟩
      have HRR := Lib.hid hR
      have HB1 := Lib.hid hb1
      have HOW := Lib.hid hown
      clear hR hb1 hown
      obtain ⟨hkk, hkb, hth⟩ := new_msg w1 x q
      obtain ⟨wb, hwb⟩ : ∃ wb, wb = (w1.alloc (.cells cellsZ.toArray 50)).setCells w1.heap.size 0 (cellsM x q) := ⟨_, rfl⟩
      rw [← hwb] at hkk hkb
      unfold cellsZ at hth hwb
      have HWB := Lib.hid hwb
      clear hwb
      go_upto_region 5 with (first | ((with_reducible refine at_store ?_); refine wpList_store_mid rfl 50 _ _ rfl w1.heap.size 0 (cellsM x q).toArray rfl rfl hth (by kernel_rfl) (by kernel_rfl) ?_; rw [← HWB.out]) | fail)
      obtain ⟨gk, hgk⟩ : ∃ g, g = w1.heap.size := ⟨_, rfl⟩
      rw [← hgk] at hkk ⊢
      have hbb : Below wr.heap.size wr wb := HB1.out.trans (hkb.mono HB1.out.size)
      have hown2 : OwnM wr.heap.size wb x q := HOW.out.below hkb
      have hown3 : wb.ownsRow w.heap.size 50 31 (.slice a2 ms.length c2) ms.length (mcells ms) := own_below HAS.out.own.1 hbb
      have hbase : w.heap.size ≤ wb.heap.size := Nat.le_trans HAS.out.bel.size hbb.size
      have HBB := Lib.hid hbb
      have HO2 := Lib.hid hown2
      clear hth HWB hgk hkb hbb hown2 HOW HB1
      by_cases hc : c = 0
      · subst hc
        have hd1 := dec_one HRR.out
        have hn2 : 2 ≤ n := hd1.2.2.2.2.2.2
        have hn3 : n ≤ nb - at_ := by have := hd1.2.2.2.2.2.1; rw [HLN.out] at this; exact this
        have hs : IntKind.i64.wrap ((at_ : Int) + n) = (at_ : Int) + n := by rw [IntKind.wrap_i64]; omega
        have hme2 : nb - (at_ + n) < nb - at_ := by omega
        clear hd1
        go_wp2_with (first | ((with_reducible refine at_dst 28 ?_); refine wpList_load_midg rfl 50 (.tmp 7) rfl gk 0 rfl (cellsM x q) _ hkk.whole Try.underlying50 rfl (by kernel_rfl) ?_) | ((with_reducible refine at_dst 29 ?_); refine wpList_buildSlice_one wb rfl 62 50 (.tmp 28) rfl 31 Try.underlying62 zero50 (by decide) (by decide) (cellsM x q).toArray rfl rfl ?_) | (at_builtin; refine app_msg wb rfl _ _ rfl w.heap.size (.slice a2 ms.length c2) ms ms.length rfl rfl hown3 x q rfl (by omega) hbase ?_; intro a' c' w' ho' hb' hm') | fail)
        have hgrow := HAS.out.grow HRR.out (HBB.out.trans ((Below.refl wb.heap.size wb).alloc (Nat.le_refl _) (.cells (cellsM x q).toArray 50) |>.mono HBB.out.size)) (HO2.out.below ((Below.refl _ _).alloc (Nat.le_refl _) _)) hm' ((HBB.out.mono HAS.out.bel.size).trans hb') ho'
        have HR : Hid (∃ (ms' : List (M × Ps)) (a3 : Option Addr) (c3 at2 : Nat), Value.slice a' (ms.length + 1) c' = .slice a3 ms'.length c3 ∧ Value.int .i64 ((at_ : Int) + n) = .int .i64 (at2 : Int) ∧ AT w l ms' a3 c3 at2 w') := Lib.hid ⟨ms ++ [(x, q)], a', c', at_ + n, by rw [List.length_append]; rfl, rfl, hgrow⟩
        have HME := Lib.hid (meas_lt2 (n := n) hlt (by omega))
        clear hgrow ho' hb' hm' hkk hown3 hbase
        go_wp2
        go_roundw
        case rel => exact HR.out
        case measure => exact HME.out
      · go_wp2_with fail
        go_ret3
        rw [HW0.out]
        exact HAS.out.fail HBB.out (by rw [HN.out]; exact hlt) HRR.out hc
    · have hlt' : ¬ (at_ : Int) < nb := by omega
      go_wp2_with fail
      go_ret3
      first | rw [HW0.out] | skip
      exact HAS.out.stop (Below.refl _ _) (by rw [HN.out]; omega)
#print axioms all_any2
end Go.Proofs.Ytaipnbpefdcejaa
