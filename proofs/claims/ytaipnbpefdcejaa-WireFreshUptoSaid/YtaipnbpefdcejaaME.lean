/- Joined by wip/tools/merge.py out of: REncode Twin. -/
import Derived.Test.YtaipnbpefdcejaaMD
import Derived.Test.YtaipnbpefdcejaaMC
import Derived.StillTailTactics
import Derived.Deep.CutRange
import Derived.Deep.DeepCutAuto
/- The walks of the reference's inside and Encode. -/
set_option linter.unusedVariables false
namespace Go.Proofs.Ytaipnbpefdcejaa
open Go.RowKit
theorem MRd.below {w w' : World} {m : M} {p : Ps} (h : MRd w m p) (hb : Below w.heap.size w w') : MRd w' m p := ⟨h.1.below hb, h.2.1.below hb, h.2.2.1.below hb, h.2.2.2.below hb⟩
theorem St.drew {w0 wI : World} {vI : Value} {gm : Nat} {t : TypeId} {cs : List Value} {l : List UInt8} {w : World} {a : Option Addr} {n c : Nat} (h : St w0 wI vI gm t cs l w a n c) : St w0 wI vI gm t cs l w.drew a n c := by
  obtain ⟨h1, h2, h3, h4, h5, h6, h7⟩ := h
  exact ⟨h1, h2, h3.drew, h4, h5, ⟨h6.os, h6.tape, h6.output, h6.size, h6.block⟩, h7⟩
/-- A load of a whole struct among still operations. -/
theorem wpStill_load_mid {P : Program} {ops : Array Oper} {rest : List Oper} {op : Oper} {a : Act} {w : World} {Q : Act → Prop} (hw : Region.wanted op (yielded ops a.tmps) = true) (ty : TypeId) (x : Operand) (ho : op.op = .load ty x)
    (b o : Nat) (hx : a.eval x = .pointer (some ⟨b, o, none⟩)) (cs : List Value) (d : TypeDesc) (hc : w.rangeAt b o cs)
    (hu : P.underlying ty = some d) (hd : d.isRow = true) (hi : (P.info? ty).map (·.size) = some cs.length)
    (h : wpStill P ops w Q rest (a.put op.dst (.agg cs.toArray))) : wpStill P ops w Q (op :: rest) a :=
  wpStill_step fun K hK => by
    rw [if_pos hw]
    unfold Oper.still execOp
    simp only [ho, hx, Instr.loadAt, Instr.sureAddr, Sem.run_bind, Sem.run_pure, Result.andThen_ok, run_loadVar_mid w b o ty cs d hc hu hd hi]
    exact ⟨rfl, hK _ h⟩
/-- What inside answers. -/
def InPost (m : M) (w : World) (e : Ending) (w' : World) : Prop :=
  ∃ a n c, e = .returned (.slice a n c) ∧ (inM m).length = n ∧ w'.ownsRow w.heap.size 5 1 (.slice a n c) n ((inM m).map B) ∧ Below w.heap.size w w'
theorem in_start (w w1 : World) (gm : Nat) (cs : List Value) (u : UInt8) (x : Value) (hx : x = B u) (hgm : gm = w.heap.size) (hk : Blk w1 gm 50 cs) (hb : Below w.heap.size w w1) :
    St w (w1.alloc (.cells #[x] 5)) (.slice (some ⟨w1.heap.size, 0, none⟩) 1 1) gm 50 cs [u] (w1.alloc (.cells #[x] 5)) (some ⟨w1.heap.size, 0, none⟩) 1 1 := by
  subst hx
  refine ⟨rfl, own_of_heap (heap_alloc_new w1 _) hb.size rfl (by unfold maxLen; omega), hb.alloc hb.size _, hk.alloc _, ?_, Mv.refl _ _⟩
  have := hk.lt
  intro e
  simp [Value.ownBlock] at e
  omega
set_option maxHeartbeats 2000000 in
set_option maxRecDepth 20000 in
theorem inside_any (m : M) (p : Ps) (w : World) (hwf : WfM m) (hh : 0 ≤ m.handle) (hk0 : 0 ≤ m.kind) (hr : MRd w m p) : Calls Try.prog 51 #[valM m p] w (InPost m w) := by
  obtain ⟨v0, hv0⟩ : ∃ v, v = valM m p := ⟨_, rfl⟩
  obtain ⟨w1, hw1⟩ : ∃ w1, w1 = w.alloc (.cells (cellsM m p).toArray 50) := ⟨_, rfl⟩
  have hb1 : Below w.heap.size w w1 := by rw [hw1]; exact (Below.refl _ _).alloc (Nat.le_refl _) _
  have hk1 : Blk w1 w.heap.size 50 (cellsM m p) := by rw [hw1]; exact Blk.new w _ 50
  unfold valM cellsM at hv0
  unfold cellsM at hw1
  unfold valM cellsM
  obtain ⟨gm, hgm⟩ : ∃ g, g = w.heap.size := ⟨_, rfl⟩
  rw [← hgm] at hk1
  obtain ⟨kb, hkb⟩ : ∃ kb, kb = UInt8.ofNat m.kind.toNat := ⟨_, rfl⟩
  have hst := in_start w w1 gm _ kb (.int .u8 (m.kind % 256)) (by rw [B, hkb, UInt8.toNat_ofNat']; congr 1; omega) hgm hk1 hb1
  have HKB := Lib.hid hkb
  clear hkb
  go_enter Try.func51, Try.ntmps51
  go_wp2_with fail
  have hs1 : w1.heap.size = gm + 1 := by rw [hw1, hgm]; simp
  rw [← hw1, ← hgm, ← hv0]
  rw [hs1] at hst
  clear hw1 hv0 hs1 hk1 hb1
  obtain ⟨vI, hvI⟩ : ∃ v, v = Value.slice (some ⟨gm + 1, 0, none⟩) 1 1 := ⟨_, rfl⟩
  rw [← hvI] at hst
  obtain ⟨wI, hwI⟩ : ∃ v, v = w1.alloc (.cells #[.int .u8 (m.kind % 256)] 5) := ⟨_, rfl⟩
  rw [← hwI] at hst ⊢
  clear hwI hvI hgm
  refine (named_any m.kind _).mono ?_
  rintro e _ ⟨rfl, rfl⟩
  obtain ⟨L, hL⟩ : ∃ L, L = ordL m.kind := ⟨_, rfl⟩
  obtain ⟨nl, hnl⟩ : ∃ n, n = L.length := ⟨_, rfl⟩
  have hnl3 : nl ≤ 3 := by rw [hnl, hL]; exact ordL_len3 _
  have hten : ∀ s ∈ L, s ∈ tenL := by rw [hL]; exact ordL_ten m.kind
  have hnm : namedL m.kind = L.map letter := by rw [hL]; exact named_ord m.kind
  rw [hnm]
  have hsz : (⟨(L.map letter).toArray⟩ : ByteArray).size = nl := by rw [hnl]; show (L.map letter).toArray.size = _; simp
  obtain ⟨S, hS⟩ : ∃ S : ByteArray, S = ⟨(L.map letter).toArray⟩ := ⟨_, rfl⟩
  have hget : ∀ j (h : j < L.length), ∃ h2 : j < S.size, S[j] = letter L[j] := by
    intro j h
    subst hS
    refine ⟨by rw [hsz, hnl]; exact h, ?_⟩
    show (L.map letter).toArray[j]'(by simpa using h) = _
    simp
  unfold strB
  rw [← hS] at hsz ⊢
  have HL := Lib.hid hL
  have HNL := Lib.hid hnl
  have HTEN := Lib.hid hten
  have HGET := Lib.hid hget
  clear hL hnl hten hnm hS hget
  go_wp2_with fail
  go_loopw [3, 5] (fun v i wr => ∃ (j : Nat) (a : Option Addr) (n c : Nat), j ≤ nl ∧ v = .slice a n c ∧ i = .int .i64 (j : Int) ∧ St w wI vI gm 50 (cellsM m p) ([kb] ++ (L.take j).flatMap fun s => encF s m) wr a n c) (fun _ i _ => nl - (intOf i).toNat)
  case atStart => exact ⟨0, _, _, _, Nat.zero_le _, rfl, rfl, hst⟩
  case round =>
    clear hst
    obtain ⟨j, a, n, c, hj, rfl, rfl, hst⟩ := hrel
    have hll : ([kb] ++ (L.take j).flatMap fun s => encF s m).length ≤ 300000000001 := by
      have := flat_take_le (fun s => encF s m) 100000000000 j 3 L (by rw [← HNL.out]; exact hnl3) (fun s _ => encF_le hwf hh s)
      rw [List.length_append, List.length_singleton]
      omega
    by_cases hlt : j < nl
    · have hjl : j < L.length := by rw [← HNL.out]; exact hlt
      have hlt' : (j : Int) < nl := by omega
      obtain ⟨hjs, hgt⟩ := HGET.out j hjl
      have hsn := flat_take_snoc (fun s => encF s m) L j hjl
      obtain ⟨s, hs⟩ : ∃ s, s = L[j] := ⟨_, rfl⟩
      have hten := HTEN.out s (by rw [hs]; exact List.getElem_mem hjl)
      rw [← hs] at hsn hgt
      have HSN := Lib.hid hsn
      have HME := Lib.hid (meas_lt hlt)
      have HT := Lib.hid hten
      have hgt' : ((S[j].toNat : Nat) : Int) = ((letter s).toNat : Int) := by rw [hgt]
      have HGT := Lib.hid hgt'
      have hrg : wr.rangeAt gm 0 (cellsM m p) := hst.2.2.2.1.whole
      clear hs hsn hten hgt hgt'
      have hstd := hst.drew
      have HSTD := Lib.hid hstd
      clear hstd hst
      have hrgd : wr.drew.rangeAt gm 0 (cellsM m p) := hrg
      clear hrg
      go_wp2
      refine wp_region_still_tail 5 (by kernel_rfl) (by kernel_rfl) ?_
      simp only [List.take_succ_cons, List.take_zero, List.drop_succ_cons, List.drop_zero]
      still_step
      refine wpStill_load_mid rfl _ _ rfl _ _ rfl _ _ hrgd Try.underlying50 rfl (by kernel_rfl) ?_
      still_step
      still_step
      still_step
      refine wpStill_nil ?_
      change wpList _ _ _ _ _ wr.drew
      have hd := HSTD.out
      obtain ⟨W5, hW5⟩ : ∃ W5, W5 = wr.drew := ⟨_, rfl⟩
      rw [← hW5] at hd ⊢
      have HSTD := Lib.hid hd
      clear hW5 hd hrgd
      go_wp2_with fail
      refine (rfield_any s HT.out _ HGT.out w _ m p a n c W5 hwf hh (by omega) HSTD.out.1 HSTD.out.2.1 HSTD.out.2.2.1 hr).mono ?_
      rintro e w5 ⟨a5, n5, c5, rfl, hn5, hown5, hb5, hm5⟩
      have hst5 := HSTD.out.moved hn5 hown5 (below_of HSTD.out.2.2.1 hb5 hm5.1.size) hm5
      clear hn5 hown5 hb5 hm5
      go_wp2
      go_roundw
      case rel => exact ⟨j + 1, _, _, _, hlt, rfl, by go_num, by rw [HSN.out, ← List.append_assoc]; exact hst5⟩
      case measure => exact HME.out
    · have hlt' : ¬ (j : Int) < nl := by omega
      have htk : L.take j = L := List.take_of_length_le (by rw [← HNL.out]; omega)
      rw [htk] at hst
      have hin : ([kb] ++ L.flatMap fun s => encF s m) = inM m := by rw [HKB.out, HL.out]; rfl
      rw [hin] at hst
      clear hin htk
      go_wp2_with fail
      go_ret
      exact ⟨a, n, c, rfl, hst.1, hst.2.1, hst.2.2.1⟩
set_option maxHeartbeats 4000000 in
set_option maxRecDepth 20000 in
theorem rencode_any (m : M) (p : Ps) (w : World) (hwf : WfM m) (hr : MRd w m p) : Calls Try.prog 28 #[valM m p] w (EncPost m w) := by
  obtain ⟨v0, hv0⟩ : ∃ v, v = valM m p := ⟨_, rfl⟩
  obtain ⟨w1, hw1⟩ : ∃ w1, w1 = w.alloc (.cells (cellsM m p).toArray 50) := ⟨_, rfl⟩
  have hb1 : Below w.heap.size w w1 := by rw [hw1]; exact (Below.refl _ _).alloc (Nat.le_refl _) _
  have hk1 : Blk w1 w.heap.size 50 (cellsM m p) := by rw [hw1]; exact Blk.new w _ 50
  have hr1 := hr.below hb1
  have hrg : w1.rangeAt w.heap.size 0 (cellsM m p) := hk1.whole
  rw [hw1] at hrg
  unfold cellsM at hrg hw1
  unfold valM cellsM at hv0
  unfold valM cellsM
  go_enter Try.func28, Try.ntmps28
  go_wp2_with (first | ((with_reducible refine at_dst 7 ?_); refine wpList_load_midg rfl _ _ rfl _ _ rfl _ _ hrg Try.underlying50 rfl (by kernel_rfl) ?_) | fail)
  obtain ⟨gm, hgm⟩ : ∃ g, g = w.heap.size := ⟨_, rfl⟩
  rw [← hgm] at hk1
  rw [← hw1, ← hgm]
  clear hrg hr
  rw [← hv0]
  have hw0 : v0 = valM m p := by rw [hv0]; rfl
  clear hv0
  rw [hw0]
  have hb1m : m.vals.length ≤ 1073741824 := hwf.vl
  refine (rproper_any m p w1 hr1 hb1m).mono ?_
  rintro e w2 ⟨b, rfl, hpb, hb2⟩
  rw [proper_iff] at hpb
  have hk2 := hk1.below hb2
  have hr2 := hr1.below hb2
  have hb02 := hb1.trans (hb2.mono hb1.size)
  clear hk1 hr1 hb1 hb2 hb1m hw1 hw0
  cases b with
  | false =>
    have hnp : ¬ properM m := fun h => by have := hpb.2 h; cases this
    have hA : encA m = ([], 212) := by unfold encA; rw [if_neg hnp]
    have HA := Lib.hid hA
    clear hA hpb hnp
    go_wp2_with fail
    go_ret2
    unfold EncPost
    rw [HA.out]
    exact ⟨none, 0, rfl, World.ownsRow_nil _ _ _ _, hb02⟩
  | true =>
    have HPM := Lib.hid (hpb.1 rfl)
    have hh : 0 ≤ m.handle := HPM.out.1
    have hk0 : 0 ≤ m.kind := by
      have h1 := HPM.out.2.2.1
      unfold ordL at h1
      repeat' split at h1
      all_goals first | omega | (exact (h1 rfl).elim)
    have hrg2 : w2.rangeAt gm 0 (cellsM m p) := hk2.whole
    have HR2 := Lib.hid hr2
    have HB02 := Lib.hid hb02
    clear hpb hr2 hb02 hgm hk2
    go_wp2_with (first | ((with_reducible refine at_dst 11 ?_); refine wpList_load_midg rfl _ _ rfl _ _ rfl _ _ hrg2 Try.underlying50 rfl (by kernel_rfl) ?_) | fail)
    refine (inside_any m p w2 hwf hh hk0 HR2.out).mono ?_
    rintro e w3 ⟨a3, n3, c3, rfl, hn3, hown3, hb3⟩
    have HBW := Lib.hid (HB02.out.trans (hb3.mono HB02.out.size))
    have hrd3 := ownsRow_rd hown3
    have HN := Lib.hid hn3
    clear hrg2 hown3 hb3
    by_cases hbig : 1048576 < n3
    · have hA : encA m = ([], 211) := by unfold encA; rw [if_pos HPM.out, if_neg (by rw [hn3]; omega)]
      have HA := Lib.hid hA
      have hbig' : (1048576 : Int) < n3 := by omega
      clear hA hn3
      go_wp2_with fail
      go_ret2
      unfold EncPost
      rw [HA.out]
      exact ⟨none, 0, rfl, World.ownsRow_nil _ _ _ _, HBW.out⟩
    · have hA : encA m = (bytesU n3 ++ inM m, 0) := by unfold encA frameM; rw [if_pos HPM.out, if_pos (by rw [hn3]; omega), hn3]
      have HA := Lib.hid hA
      have hbig' : ¬ (1048576 : Int) < n3 := by omega
      have hNb : n3 ≤ 1048576 := by omega
      have q := bytesU_le n3 (by omega)
      clear hA hbig hn3
      go_wp2_with fail
      refine (rput_any w3.heap.size 0 none 0 [] n3 w3 (by omega) (by omega) (Nat.le_refl _) (World.ownsRow_nil _ _ _ _)).mono ?_
      rintro e w5 ⟨a5, c5, rfl, hown5, hb5⟩
      simp only [Nat.zero_add, List.nil_append] at hown5 ⊢
      have hrd5 := hrd3.below hb5
      have hs5 := hb5.size
      go_wp2_with (first | (at_builtin; refine app_b w5 rfl _ _ rfl w3.heap.size (.slice a5 (bytesU n3).length c5) (bytesU n3).length (bytesU n3) rfl hown5 a3 n3 c3 (inM m) rfl HN.out hrd5 (by omega) hs5 ?_; intro a6 c6 w6 hown6 hb6 hm6) | fail)
      go_ret2
      unfold EncPost
      rw [HA.out]
      dsimp only
      rw [List.length_append, HN.out]
      exact ⟨a6, c6, rfl, own_base hown6 HBW.out.size, HBW.out.trans ((hb5.trans hb6).mono HBW.out.size)⟩
end Go.Proofs.Ytaipnbpefdcejaa
/- The walk of the reference's Twin. -/
set_option linter.unusedVariables false
namespace Go.Proofs.Ytaipnbpefdcejaa
open Go.RowKit
theorem info89 : (Try.prog.info? 89).map (fun i => (i.zero, i.size, i.bytes)) = some (some (.agg #[.int .i64 0, .int .u64 0]), 2, 16) := by kernel_rfl
theorem info3 : (Try.prog.info? 3).map (fun i => (i.zero, i.size, i.bytes)) = some (some (.int .i64 0), 1, 8) := by kernel_rfl
theorem info74 : (Try.prog.info? 74).map (fun i => (i.zero, i.size, i.bytes)) = some (some (.agg #[.bool false, .int .i64 0]), 2, 16) := by kernel_rfl
/-- A result that lies in a block. -/
theorem results_cell {fn : Func} {t : Tmp} {ty : TypeId} (h : fn.results = #[.cell t ty]) (tmps : Array Value) (P : Program) (w : World) (b o : Nat) (v : Value) (ht : tmps.getD t undef = .pointer (some ⟨b, o, none⟩)) (hl : (loadVar ty ⟨b, o, none⟩).run P w = .ok v w) :
    (results fn tmps).run P w = .ok v w := by
  rw [Array.getD_eq_getD_getElem?] at ht
  simp [results, h, ht, hl, asAddr]
/-- The lists of a message lie in rows of the call's own. -/
def OwnM (base : Nat) (w : World) (m : M) (p : Ps) : Prop :=
  w.ownsRow base 89 2 (.slice p.an m.names.length p.cn) m.names.length (ncells m.names) ∧ w.ownsRow base 3 1 (.slice p.al m.lens.length p.cl) m.lens.length (zcells m.lens) ∧
  w.ownsRow base 74 2 (.slice p.av m.vals.length p.cv) m.vals.length (vcells m.vals) ∧ w.ownsRow base 5 1 (.slice p.ai m.image.length p.ci) m.image.length (m.image.map B)
theorem OwnM.rd {base : Nat} {w : World} {m : M} {p : Ps} (h : OwnM base w m p) : MRd w m p := ⟨ownsRow_rd h.1, ownsRow_rd h.2.1, ownsRow_rd h.2.2.1, ownsRow_rd h.2.2.2⟩
theorem ncells_len (l : List (Int × Int)) : (ncells l).length = l.length * 2 := by
  induction l with
  | nil => rfl
  | cons v l ih => show (Value.int .i64 v.1 :: .int .u64 v.2 :: ncells l).length = _; simp only [List.length_cons, ih]; omega
theorem vcells_len (l : List (Bool × Int)) : (vcells l).length = l.length * 2 := by
  induction l with
  | nil => rfl
  | cons v l ih => show (Value.bool v.1 :: .int .i64 v.2 :: vcells l).length = _; simp only [List.length_cons, ih]; omega
theorem zcells_len (l : List Int) : (zcells l).length = l.length * 1 := by simp [zcells]
theorem ncells_one (l : List (Int × Int)) : ∀ u ∈ ncells l, u.oneCell' = true := by
  intro u hu
  simp only [ncells, List.mem_flatMap] at hu
  obtain ⟨v, _, hu⟩ := hu
  simp at hu
  rcases hu with rfl | rfl <;> rfl
theorem vcells_one (l : List (Bool × Int)) : ∀ u ∈ vcells l, u.oneCell' = true := by
  intro u hu
  simp only [vcells, List.mem_flatMap] at hu
  obtain ⟨v, _, hu⟩ := hu
  simp at hu
  rcases hu with rfl | rfl <;> rfl
theorem zcells_one (l : List Int) : ∀ u ∈ zcells l, u.oneCell' = true := by
  intro u hu
  simp only [zcells, List.mem_map] at hu
  obtain ⟨v, _, rfl⟩ := hu
  rfl
section
variable (w : World) {ops : Array Oper} {rest : List Oper} {o : Oper} {a : Act} {Q : Exit → Act → World → Prop}
theorem app_n (hgd : o.guard = none) (s x : Operand) (ho : o.op = .call { callee := .builtin .append, args := #[s, x], argTypes := #[40, 40] }) (base : Nat) (v : Value) (n : Nat) (l1 : List (Int × Int)) (hs : a.eval s = v) (hown : w.ownsRow base 89 2 v n (ncells l1))
    (ao : Option Addr) (m c : Nat) (l2 : List (Int × Int)) (hx : a.eval x = .slice ao m c) (hl : l2.length = m) (hrd : Rd w ao (ncells l2)) (hb : n + m ≤ 4294967296) (hbase : base ≤ w.heap.size)
    (h : ∀ a' c' w', w'.ownsRow base 89 2 (.slice a' (n + m) c') (n + m) (ncells (l1 ++ l2)) → Below base w w' → Moved w w' v (.slice a' (n + m) c') →
      wpList Try.prog ops Q rest (a.put o.dst (.slice a' (n + m) c')) w') : wpList Try.prog ops Q (o :: rest) a w := by
  obtain ⟨i0, hi, hz0, hz1, hz2⟩ := info_parts info89
  refine wpList_append_rd w hgd s x 40 ho base 89 i0 _ 2 16 Try.underlying40 hi hz0 hz1 hz2 rfl (by decide) v n _ hs hown ao m c _ hx (by rw [ncells_len, hl]) hrd (ncells_one l2) (by unfold maxLen; omega) (by omega) hbase ?_
  intro a' c' w' h1 h2 h3
  have e : ncells l1 ++ ncells l2 = ncells (l1 ++ l2) := by simp [ncells]
  rw [e] at h1
  exact h a' c' w' h1 h2 h3
theorem app_z (hgd : o.guard = none) (s x : Operand) (ho : o.op = .call { callee := .builtin .append, args := #[s, x], argTypes := #[41, 41] }) (base : Nat) (v : Value) (n : Nat) (l1 : List Int) (hs : a.eval s = v) (hown : w.ownsRow base 3 1 v n (zcells l1))
    (ao : Option Addr) (m c : Nat) (l2 : List Int) (hx : a.eval x = .slice ao m c) (hl : l2.length = m) (hrd : Rd w ao (zcells l2)) (hb : n + m ≤ 4294967296) (hbase : base ≤ w.heap.size)
    (h : ∀ a' c' w', w'.ownsRow base 3 1 (.slice a' (n + m) c') (n + m) (zcells (l1 ++ l2)) → Below base w w' → Moved w w' v (.slice a' (n + m) c') →
      wpList Try.prog ops Q rest (a.put o.dst (.slice a' (n + m) c')) w') : wpList Try.prog ops Q (o :: rest) a w := by
  obtain ⟨i0, hi, hz0, hz1, hz2⟩ := info_parts info3
  refine wpList_append_rd w hgd s x 41 ho base 3 i0 _ 1 8 Try.underlying41 hi hz0 hz1 hz2 rfl (by decide) v n _ hs hown ao m c _ hx (by rw [zcells_len, hl]) hrd (zcells_one l2) (by unfold maxLen; omega) (by omega) hbase ?_
  intro a' c' w' h1 h2 h3
  have e : zcells l1 ++ zcells l2 = zcells (l1 ++ l2) := by simp [zcells]
  rw [e] at h1
  exact h a' c' w' h1 h2 h3
theorem app_v (hgd : o.guard = none) (s x : Operand) (ho : o.op = .call { callee := .builtin .append, args := #[s, x], argTypes := #[42, 42] }) (base : Nat) (v : Value) (n : Nat) (l1 : List (Bool × Int)) (hs : a.eval s = v) (hown : w.ownsRow base 74 2 v n (vcells l1))
    (ao : Option Addr) (m c : Nat) (l2 : List (Bool × Int)) (hx : a.eval x = .slice ao m c) (hl : l2.length = m) (hrd : Rd w ao (vcells l2)) (hb : n + m ≤ 4294967296) (hbase : base ≤ w.heap.size)
    (h : ∀ a' c' w', w'.ownsRow base 74 2 (.slice a' (n + m) c') (n + m) (vcells (l1 ++ l2)) → Below base w w' → Moved w w' v (.slice a' (n + m) c') →
      wpList Try.prog ops Q rest (a.put o.dst (.slice a' (n + m) c')) w') : wpList Try.prog ops Q (o :: rest) a w := by
  obtain ⟨i0, hi, hz0, hz1, hz2⟩ := info_parts info74
  refine wpList_append_rd w hgd s x 42 ho base 74 i0 _ 2 16 Try.underlying42 hi hz0 hz1 hz2 rfl (by decide) v n _ hs hown ao m c _ hx (by rw [vcells_len, hl]) hrd (vcells_one l2) (by unfold maxLen; omega) (by omega) hbase ?_
  intro a' c' w' h1 h2 h3
  have e : vcells l1 ++ vcells l2 = vcells (l1 ++ l2) := by simp [vcells]
  rw [e] at h1
  exact h a' c' w' h1 h2 h3
end
theorem spl_all {cs vs : List Value} (h : vs.length = cs.length) : spl cs 0 vs = vs := by
  simp [spl, h]
/-- The cells of the zero message. -/
def cellsZ : List Value := [.int .i64 0, .int .i64 0, .int .i64 0, .int .i64 0, .int .u64 0, .int .i64 0, .int .i64 0, .int .i64 0, .int .i64 0, .int .i64 0, .int .i64 0, .int .i64 0, .int .i64 0, .int .i64 0, .int .i64 0, .slice none 0 0, .slice none 0 0, .slice none 0 0, .int .i64 0, .bool false, .int .i64 0, .int .i64 0, .int .i64 0, .int .i64 0, .int .i64 0, .int .i64 0, .int .i64 0, .int .i64 0, .string ⟨#[]⟩, .string ⟨#[]⟩, .slice none 0 0]
/-- The twin under way: the parameter's block, the twin's. -/
def TS (w : World) (m : M) (p : Ps) (gm : Nat) (cs : List Value) (x : World) : Prop := Blk x gm 50 (cellsM m p) ∧ Blk x (gm + 2) 50 cs ∧ Below w.heap.size w x ∧ gm = w.heap.size ∧ Blk x (gm + 1) 50 cellsZ
theorem TS.below {w : World} {m : M} {p : Ps} {gm : Nat} {cs : List Value} {x x' : World} (h : TS w m p gm cs x) (hb : Below x.heap.size x x') : TS w m p gm cs x' :=
  ⟨h.1.below hb, h.2.1.below hb, h.2.2.1.trans (hb.mono h.2.2.1.size), h.2.2.2.1, h.2.2.2.2.below hb⟩
theorem TS.set {w : World} {m : M} {p : Ps} {gm : Nat} {cs : List Value} {x : World} (h : TS w m p gm cs x) (i : Nat) (v : Value) : TS w m p gm (cs.set i v) (x.setCell ⟨gm + 2, i, none⟩ v) := by
  have h1 := h.2.1.setCell i v
  refine ⟨h.1.kept h1.2 (by simp), h1.1, h.2.2.1.grown h1.2 h.2.2.1.size (fun k hk => ?_), h.2.2.2.1, h.2.2.2.2.kept h1.2 (by simp)⟩
  cases hk
  have := h.2.2.2.1
  omega
theorem own_set {x : World} {e size n : Nat} {v : Value} {xs : List Value} {gm : Nat} (h : x.ownsRow (gm + 3) e size v n xs) {t : TypeId} {cs : List Value} (hk : Blk x (gm + 2) t cs) (i : Nat) (u : Value) : (x.setCell ⟨gm + 2, i, none⟩ u).ownsRow (gm + 3) e size v n xs := by
  refine h.kept (hk.setCell i u).2 (.inr fun e => ?_)
  have := (h.lt _ e).1
  omega
def TwinPost (m : M) (w : World) (e : Ending) (w' : World) : Prop := ∃ p, e = .returned (valM m p) ∧ OwnM w.heap.size w' m p ∧ Below w.heap.size w w'
set_option maxHeartbeats 4000000 in
set_option maxRecDepth 20000 in
theorem twin_any (m : M) (p : Ps) (w : World) (hwf : WfM m) (hr : MRd w m p) : Calls Try.prog 24 #[valM m p] w (TwinPost m w) := by
  obtain ⟨v0, hv0⟩ : ∃ v, v = valM m p := ⟨_, rfl⟩
  obtain ⟨w1, hw1⟩ : ∃ w1, w1 = (w.alloc (.cells (cellsM m p).toArray 50)).alloc (.cells #[.int .i64 0, .int .i64 0, .int .i64 0, .int .i64 0, .int .u64 0, .int .i64 0, .int .i64 0, .int .i64 0, .int .i64 0, .int .i64 0, .int .i64 0, .int .i64 0, .int .i64 0, .int .i64 0, .int .i64 0, .slice none 0 0, .slice none 0 0, .slice none 0 0, .int .i64 0, .bool false, .int .i64 0, .int .i64 0, .int .i64 0, .int .i64 0, .int .i64 0, .int .i64 0, .int .i64 0, .int .i64 0, .string ⟨#[]⟩, .string ⟨#[]⟩, .slice none 0 0] 50) := ⟨_, rfl⟩
  have hb1 : Below w.heap.size w w1 := by rw [hw1]; exact ((Below.refl _ _).alloc (Nat.le_refl _) _).alloc (by simp) _
  have hk1 : Blk w1 w.heap.size 50 (cellsM m p) := by rw [hw1]; exact (Blk.new w _ 50).alloc _
  have hs1 : w1.heap.size = w.heap.size + 2 := by rw [hw1]; simp
  have hkz : Blk w1 (w.heap.size + 1) 50 cellsZ := by
    have := Blk.new (w.alloc (.cells (cellsM m p).toArray 50)) cellsZ 50
    rw [World.size_alloc] at this
    rw [hw1]
    exact this
  have hr1 := hr.below hb1
  unfold cellsM at hw1
  unfold valM cellsM at hv0
  unfold valM cellsM
  go_enter Try.func24, Try.ntmps24
  go_upto_region 1 with fail
  rw [← hw1, ← hv0]
  clear hw1
  obtain ⟨gm, hgm⟩ : ∃ g, g = w.heap.size := ⟨_, rfl⟩
  rw [← hgm] at hk1 hs1 hkz
  have hrg : w1.rangeAt gm 0 (cellsM m p) := hk1.whole
  have hgz : Blk (w1.alloc (.cells cellsZ.toArray 50)) w1.heap.size 50 cellsZ := Blk.new w1 _ 50
  rw [hs1] at hgz
  have hth : (w1.alloc (.cells cellsZ.toArray 50)).there (gm + 2) 0 31 := hgz.there 0 31 (Nat.le_refl _)
  have hst := hgz.setCells (cellsM m p) 0 _ _ (by rw [cellsM_len]; exact Nat.le_refl _)
  rw [spl_all (show (cellsM m p).length = cellsZ.length from rfl)] at hst
  have hk2 := (hk1.alloc (.cells cellsZ.toArray 50)).kept hst.2 (by simp)
  have hkz2 := (hkz.alloc (.cells cellsZ.toArray 50)).kept hst.2 (by simp)
  have hb2 := (hb1.alloc hb1.size (.cells cellsZ.toArray 50)).grown hst.2 (by rw [World.size_alloc]; have := hb1.size; omega) (by intro k hk; cases hk; omega)
  have hr2 := hr.below hb2
  obtain ⟨w2, hw2⟩ : ∃ w2, w2 = (w1.alloc (.cells cellsZ.toArray 50)).setCells (gm + 2) 0 (cellsM m p) := ⟨_, rfl⟩
  rw [← hw2] at hst hk2 hb2 hr2 hkz2
  have hks := hst.1
  unfold cellsZ at hth hw2
  rw [← hgm]
  have HG := Lib.hid hgm
  have hgs : gm + 3 ≤ w2.heap.size := hks.lt
  clear hgm hv0 hr1 hb1 hgz
  have hts : TS w m p gm (cellsM m p) w2 := ⟨hk2, hks, hb2, HG.out, hkz2⟩
  have HTS := Lib.hid hts
  have HR2 := Lib.hid hr2
  clear hk2 hks hst hr2 hb2 hk1 hts hkz hkz2
  go_upto_region 2 with (first | ((with_reducible refine at_dst 4 ?_); refine wpList_load_midg rfl _ _ rfl _ _ rfl _ _ hrg Try.underlying50 rfl (by kernel_rfl) ?_) | ((with_reducible refine at_store ?_); refine wpList_store_mid rfl 50 _ _ rfl (gm + 2) 0 (cellsM m p).toArray rfl rfl hth (by kernel_rfl) (by kernel_rfl) ?_; rw [← hw2]) | fail)
  clear hrg hth hw2 hs1
  have d30 : w2.cell? ⟨gm, 30, none⟩ = some (.slice p.ai m.image.length p.ci) := HTS.out.1.cell 30 (by rw [cellsM_len]; omega)
  go_upto_region 3 with (first | (go_at_call 43; refine (rcopied_n p.ai p.ci m.image.length m.image w2 rfl (by have := hwf.il; omega) HR2.out.2.2.2).mono ?_; rintro e w3 ⟨a3, c3, rfl, hown3, hb3⟩; have ht3 := HTS.out.below hb3; have hc3 : w3.cell? ⟨gm + 2, 30, none⟩ = some (.slice p.ai m.image.length p.ci) := ht3.2.1.cell 30 (by rw [cellsM_len]; omega); have hf3 := ht3.2.1.frozen 30; have HT3 := Lib.hid ht3; clear ht3) | fail)
  have ht3 := HT3.out.set 30 (.slice a3 m.image.length c3)
  have hi3 := own_set (own_base hown3 hgs) HT3.out.2.1 30 (.slice a3 m.image.length c3)
  have hr3 : MRd (w3.setCell ⟨gm + 2, 30, none⟩ (.slice a3 m.image.length c3)) m p := hr.below (HT3.out.set 30 (.slice a3 m.image.length c3)).2.2.1
  have hgs3 : gm + 3 ≤ (w3.setCell ⟨gm + 2, 30, none⟩ (.slice a3 m.image.length c3)).heap.size := by have := hb3.size; have h2 := (HT3.out.2.1.setCell 30 (.slice a3 m.image.length c3)).2.size; omega
  obtain ⟨x3, hx3⟩ : ∃ x, x = w3.setCell ⟨gm + 2, 30, none⟩ (.slice a3 m.image.length c3) := ⟨_, rfl⟩
  rw [← hx3] at ht3 hi3 hr3 hgs3 ⊢
  rw [show (cellsM m p).set 30 (.slice a3 m.image.length c3) = cellsM m { p with ai := a3, ci := c3 } from rfl] at ht3
  clear hx3 HT3 HTS HR2 hgs d30 hown3 hb3 hc3 hf3
  have hO3 : x3.ownsRow (gm + 3) 5 1 (.slice a3 m.image.length c3) m.image.length (m.image.map B) := hi3
  clear hi3
  have hc4 : x3.cell? ⟨gm + 2, 15, none⟩ = some (.slice p.an m.names.length p.cn) := ht3.2.1.cell 15 (by rw [cellsM_len]; omega)
  have hf4 := ht3.2.1.frozen 15
  have HT4 := Lib.hid ht3
  clear ht3
  have hO3H := Lib.hid hO3
  clear hO3
  have hr3H := Lib.hid hr3
  have hgs3H := Lib.hid hgs3
  clear hr3 hgs3
  go_upto_region 4 with fail
  have hty4 := HT4.out.set 15 (.slice none 0 0)
  have hgy4 : gm + 3 ≤ (x3.setCell ⟨gm + 2, 15, none⟩ (.slice none 0 0)).heap.size := Nat.le_trans hgs3H.out (HT4.out.2.1.setCell 15 (.slice none 0 0)).2.size
  have hO3Y := own_set hO3H.out HT4.out.2.1 15 (.slice none 0 0)
  have hry4 : MRd (x3.setCell ⟨gm + 2, 15, none⟩ (.slice none 0 0)) m p := hr.below hty4.2.2.1
  obtain ⟨y4, hy4⟩ : ∃ x, x = x3.setCell ⟨gm + 2, 15, none⟩ (.slice none 0 0) := ⟨_, rfl⟩
  rw [← hy4] at hty4 hry4 hgy4 hO3Y ⊢
  rw [show (cellsM m { p with ai := a3, ci := c3 }).set 15 (.slice none 0 0) = cellsM { m with names := [] } { ({ p with ai := a3, ci := c3 } : Ps) with an := none, cn := 0 } from rfl] at hty4
  clear hy4 hc4 hf4 HT4 hO3H hr3H hgs3H
  have hd4 : y4.cell? ⟨gm, 15, none⟩ = some (.slice p.an m.names.length p.cn) := hty4.1.cell 15 (by rw [cellsM_len]; omega)
  have he4 : y4.cell? ⟨gm + 2, 15, none⟩ = some (.slice none 0 0) := hty4.2.1.cell 15 (by rw [cellsM_len]; omega)
  have HTY4 := Lib.hid hty4
  have HRY4 := Lib.hid hry4
  have HGY4 := Lib.hid hgy4
  clear hty4 hry4 hgy4
  have hO3Z := Lib.hid hO3Y
  clear hO3Y
  go_upto_region 5 with (first | (at_builtin; refine app_n y4 rfl _ _ rfl y4.heap.size (.slice none 0 0) 0 [] rfl (World.ownsRow_nil _ _ _ _) p.an m.names.length p.cn m.names rfl rfl HRY4.out.1 (by have := hwf.nl; omega) (Nat.le_refl _) ?_; intro a4 c4 z4 howz4 hbz4 hmz4; simp only [Nat.zero_add, List.nil_append] at howz4 ⊢; have htz4 := HTY4.out.below hbz4; have hg4 : z4.cell? ⟨gm + 2, 15, none⟩ = some (.slice none 0 0) := htz4.2.1.cell 15 (by rw [cellsM_len]; omega); have hh4 := htz4.2.1.frozen 15; have HTZ4 := Lib.hid htz4; clear htz4 hmz4) | fail)
  have ht4 := HTZ4.out.set 15 (.slice a4 m.names.length c4)
  have hO4 := own_set (own_base howz4 HGY4.out) HTZ4.out.2.1 15 (.slice a4 m.names.length c4)
  have hO3 := own_set (own_below hO3Z.out hbz4) HTZ4.out.2.1 15 (.slice a4 m.names.length c4)
  have hr4 : MRd (z4.setCell ⟨gm + 2, 15, none⟩ (.slice a4 m.names.length c4)) m p := hr.below ht4.2.2.1
  have hgs4 : gm + 3 ≤ (z4.setCell ⟨gm + 2, 15, none⟩ (.slice a4 m.names.length c4)).heap.size := Nat.le_trans HGY4.out (Nat.le_trans hbz4.size (HTZ4.out.2.1.setCell 15 (.slice a4 m.names.length c4)).2.size)
  obtain ⟨x4, hx4⟩ : ∃ x, x = z4.setCell ⟨gm + 2, 15, none⟩ (.slice a4 m.names.length c4) := ⟨_, rfl⟩
  rw [← hx4] at ht4 hO4 hr4 hgs4 hO3 ⊢
  rw [show (cellsM { m with names := [] } { ({ p with ai := a3, ci := c3 } : Ps) with an := none, cn := 0 }).set 15 (.slice a4 m.names.length c4) = cellsM m { ({ p with ai := a3, ci := c3 } : Ps) with an := a4, cn := c4 } from rfl] at ht4
  clear hx4 HTZ4 HTY4 HRY4 HGY4 howz4 hbz4 hg4 hh4 hd4 he4 hO3Z
  have hc5 : x4.cell? ⟨gm + 2, 16, none⟩ = some (.slice p.al m.lens.length p.cl) := ht4.2.1.cell 16 (by rw [cellsM_len]; omega)
  have hf5 := ht4.2.1.frozen 16
  have HT5 := Lib.hid ht4
  clear ht4
  have hO3H := Lib.hid hO3
  clear hO3
  have hO4H := Lib.hid hO4
  clear hO4
  have hr4H := Lib.hid hr4
  have hgs4H := Lib.hid hgs4
  clear hr4 hgs4
  go_upto_region 6 with fail
  have hty5 := HT5.out.set 16 (.slice none 0 0)
  have hgy5 : gm + 3 ≤ (x4.setCell ⟨gm + 2, 16, none⟩ (.slice none 0 0)).heap.size := Nat.le_trans hgs4H.out (HT5.out.2.1.setCell 16 (.slice none 0 0)).2.size
  have hO3Y := own_set hO3H.out HT5.out.2.1 16 (.slice none 0 0)
  have hO4Y := own_set hO4H.out HT5.out.2.1 16 (.slice none 0 0)
  have hry5 : MRd (x4.setCell ⟨gm + 2, 16, none⟩ (.slice none 0 0)) m p := hr.below hty5.2.2.1
  obtain ⟨y5, hy5⟩ : ∃ x, x = x4.setCell ⟨gm + 2, 16, none⟩ (.slice none 0 0) := ⟨_, rfl⟩
  rw [← hy5] at hty5 hry5 hgy5 hO3Y hO4Y ⊢
  rw [show (cellsM m { ({ p with ai := a3, ci := c3 } : Ps) with an := a4, cn := c4 }).set 16 (.slice none 0 0) = cellsM { m with lens := [] } { ({ ({ p with ai := a3, ci := c3 } : Ps) with an := a4, cn := c4 } : Ps) with al := none, cl := 0 } from rfl] at hty5
  clear hy5 hc5 hf5 HT5 hO3H hO4H hr4H hgs4H
  have hd5 : y5.cell? ⟨gm, 16, none⟩ = some (.slice p.al m.lens.length p.cl) := hty5.1.cell 16 (by rw [cellsM_len]; omega)
  have he5 : y5.cell? ⟨gm + 2, 16, none⟩ = some (.slice none 0 0) := hty5.2.1.cell 16 (by rw [cellsM_len]; omega)
  have HTY5 := Lib.hid hty5
  have HRY5 := Lib.hid hry5
  have HGY5 := Lib.hid hgy5
  clear hty5 hry5 hgy5
  have hO3Z := Lib.hid hO3Y
  clear hO3Y
  have hO4Z := Lib.hid hO4Y
  clear hO4Y
  go_upto_region 7 with (first | (at_builtin; refine app_z y5 rfl _ _ rfl y5.heap.size (.slice none 0 0) 0 [] rfl (World.ownsRow_nil _ _ _ _) p.al m.lens.length p.cl m.lens rfl rfl HRY5.out.2.1 (by have := hwf.ll; omega) (Nat.le_refl _) ?_; intro a5 c5 z5 howz5 hbz5 hmz5; simp only [Nat.zero_add, List.nil_append] at howz5 ⊢; have htz5 := HTY5.out.below hbz5; have hg5 : z5.cell? ⟨gm + 2, 16, none⟩ = some (.slice none 0 0) := htz5.2.1.cell 16 (by rw [cellsM_len]; omega); have hh5 := htz5.2.1.frozen 16; have HTZ5 := Lib.hid htz5; clear htz5 hmz5) | fail)
  have ht5 := HTZ5.out.set 16 (.slice a5 m.lens.length c5)
  have hO5 := own_set (own_base howz5 HGY5.out) HTZ5.out.2.1 16 (.slice a5 m.lens.length c5)
  have hO3 := own_set (own_below hO3Z.out hbz5) HTZ5.out.2.1 16 (.slice a5 m.lens.length c5)
  have hO4 := own_set (own_below hO4Z.out hbz5) HTZ5.out.2.1 16 (.slice a5 m.lens.length c5)
  have hr5 : MRd (z5.setCell ⟨gm + 2, 16, none⟩ (.slice a5 m.lens.length c5)) m p := hr.below ht5.2.2.1
  have hgs5 : gm + 3 ≤ (z5.setCell ⟨gm + 2, 16, none⟩ (.slice a5 m.lens.length c5)).heap.size := Nat.le_trans HGY5.out (Nat.le_trans hbz5.size (HTZ5.out.2.1.setCell 16 (.slice a5 m.lens.length c5)).2.size)
  obtain ⟨x5, hx5⟩ : ∃ x, x = z5.setCell ⟨gm + 2, 16, none⟩ (.slice a5 m.lens.length c5) := ⟨_, rfl⟩
  rw [← hx5] at ht5 hO5 hr5 hgs5 hO3 hO4 ⊢
  rw [show (cellsM { m with lens := [] } { ({ ({ p with ai := a3, ci := c3 } : Ps) with an := a4, cn := c4 } : Ps) with al := none, cl := 0 }).set 16 (.slice a5 m.lens.length c5) = cellsM m { ({ ({ p with ai := a3, ci := c3 } : Ps) with an := a4, cn := c4 } : Ps) with al := a5, cl := c5 } from rfl] at ht5
  clear hx5 HTZ5 HTY5 HRY5 HGY5 howz5 hbz5 hg5 hh5 hd5 he5 hO3Z hO4Z
  have hc6 : x5.cell? ⟨gm + 2, 17, none⟩ = some (.slice p.av m.vals.length p.cv) := ht5.2.1.cell 17 (by rw [cellsM_len]; omega)
  have hf6 := ht5.2.1.frozen 17
  have HT6 := Lib.hid ht5
  clear ht5
  have hO3H := Lib.hid hO3
  clear hO3
  have hO4H := Lib.hid hO4
  clear hO4
  have hO5H := Lib.hid hO5
  clear hO5
  have hr5H := Lib.hid hr5
  have hgs5H := Lib.hid hgs5
  clear hr5 hgs5
  go_upto_region 8 with fail
  have hty6 := HT6.out.set 17 (.slice none 0 0)
  have hgy6 : gm + 3 ≤ (x5.setCell ⟨gm + 2, 17, none⟩ (.slice none 0 0)).heap.size := Nat.le_trans hgs5H.out (HT6.out.2.1.setCell 17 (.slice none 0 0)).2.size
  have hO3Y := own_set hO3H.out HT6.out.2.1 17 (.slice none 0 0)
  have hO4Y := own_set hO4H.out HT6.out.2.1 17 (.slice none 0 0)
  have hO5Y := own_set hO5H.out HT6.out.2.1 17 (.slice none 0 0)
  have hry6 : MRd (x5.setCell ⟨gm + 2, 17, none⟩ (.slice none 0 0)) m p := hr.below hty6.2.2.1
  obtain ⟨y6, hy6⟩ : ∃ x, x = x5.setCell ⟨gm + 2, 17, none⟩ (.slice none 0 0) := ⟨_, rfl⟩
  rw [← hy6] at hty6 hry6 hgy6 hO3Y hO4Y hO5Y ⊢
  rw [show (cellsM m { ({ ({ p with ai := a3, ci := c3 } : Ps) with an := a4, cn := c4 } : Ps) with al := a5, cl := c5 }).set 17 (.slice none 0 0) = cellsM { m with vals := [] } { ({ ({ ({ p with ai := a3, ci := c3 } : Ps) with an := a4, cn := c4 } : Ps) with al := a5, cl := c5 } : Ps) with av := none, cv := 0 } from rfl] at hty6
  clear hy6 hc6 hf6 HT6 hO3H hO4H hO5H hr5H hgs5H
  have hd6 : y6.cell? ⟨gm, 17, none⟩ = some (.slice p.av m.vals.length p.cv) := hty6.1.cell 17 (by rw [cellsM_len]; omega)
  have he6 : y6.cell? ⟨gm + 2, 17, none⟩ = some (.slice none 0 0) := hty6.2.1.cell 17 (by rw [cellsM_len]; omega)
  have HTY6 := Lib.hid hty6
  have HRY6 := Lib.hid hry6
  have HGY6 := Lib.hid hgy6
  clear hty6 hry6 hgy6
  have hO3Z := Lib.hid hO3Y
  clear hO3Y
  have hO4Z := Lib.hid hO4Y
  clear hO4Y
  have hO5Z := Lib.hid hO5Y
  clear hO5Y
  go_upto_region 9 with (first | (at_builtin; refine app_v y6 rfl _ _ rfl y6.heap.size (.slice none 0 0) 0 [] rfl (World.ownsRow_nil _ _ _ _) p.av m.vals.length p.cv m.vals rfl rfl HRY6.out.2.2.1 (by have := hwf.vl; omega) (Nat.le_refl _) ?_; intro a6 c6 z6 howz6 hbz6 hmz6; simp only [Nat.zero_add, List.nil_append] at howz6 ⊢; have htz6 := HTY6.out.below hbz6; have hg6 : z6.cell? ⟨gm + 2, 17, none⟩ = some (.slice none 0 0) := htz6.2.1.cell 17 (by rw [cellsM_len]; omega); have hh6 := htz6.2.1.frozen 17; have HTZ6 := Lib.hid htz6; clear htz6 hmz6) | fail)
  have ht6 := HTZ6.out.set 17 (.slice a6 m.vals.length c6)
  have hO6 := own_set (own_base howz6 HGY6.out) HTZ6.out.2.1 17 (.slice a6 m.vals.length c6)
  have hO3 := own_set (own_below hO3Z.out hbz6) HTZ6.out.2.1 17 (.slice a6 m.vals.length c6)
  have hO4 := own_set (own_below hO4Z.out hbz6) HTZ6.out.2.1 17 (.slice a6 m.vals.length c6)
  have hO5 := own_set (own_below hO5Z.out hbz6) HTZ6.out.2.1 17 (.slice a6 m.vals.length c6)
  have hr6 : MRd (z6.setCell ⟨gm + 2, 17, none⟩ (.slice a6 m.vals.length c6)) m p := hr.below ht6.2.2.1
  have hgs6 : gm + 3 ≤ (z6.setCell ⟨gm + 2, 17, none⟩ (.slice a6 m.vals.length c6)).heap.size := Nat.le_trans HGY6.out (Nat.le_trans hbz6.size (HTZ6.out.2.1.setCell 17 (.slice a6 m.vals.length c6)).2.size)
  obtain ⟨x6, hx6⟩ : ∃ x, x = z6.setCell ⟨gm + 2, 17, none⟩ (.slice a6 m.vals.length c6) := ⟨_, rfl⟩
  rw [← hx6] at ht6 hO6 hr6 hgs6 hO3 hO4 hO5 ⊢
  rw [show (cellsM { m with vals := [] } { ({ ({ ({ p with ai := a3, ci := c3 } : Ps) with an := a4, cn := c4 } : Ps) with al := a5, cl := c5 } : Ps) with av := none, cv := 0 }).set 17 (.slice a6 m.vals.length c6) = cellsM m { ({ ({ ({ p with ai := a3, ci := c3 } : Ps) with an := a4, cn := c4 } : Ps) with al := a5, cl := c5 } : Ps) with av := a6, cv := c6 } from rfl] at ht6
  clear hx6 HTZ6 HTY6 HRY6 HGY6 howz6 hbz6 hg6 hh6 hd6 he6 hO3Z hO4Z hO5Z
  obtain ⟨P, hP⟩ : ∃ P : Ps, P = { an := a4, cn := c4, al := a5, cl := c5, av := a6, cv := c6, ai := a3, ci := c3 } := ⟨_, rfl⟩
  have ht7 : TS w m p gm (cellsM m P) x6 := by rw [hP]; exact ht6
  have hO : OwnM (gm + 3) x6 m P := by rw [hP]; exact ⟨hO4, hO5, hO6, hO3⟩
  have hrg : x6.rangeAt (gm + 2) 0 (cellsM m P) := ht7.2.1.whole
  have hth : x6.there (gm + 1) 0 31 := ht7.2.2.2.2.there 0 31 (Nat.le_refl _)
  have hst := Blk.setCells (cellsM m P) 0 _ _ ht7.2.2.2.2 (by rw [cellsM_len]; exact Nat.le_refl _)
  rw [spl_all (show (cellsM m P).length = cellsZ.length from rfl)] at hst
  have hbf : Below w.heap.size w (x6.setCells (gm + 1) 0 (cellsM m P)) := ht7.2.2.1.grown hst.2 ht7.2.2.1.size (fun k hk => by cases hk; have := ht7.2.2.2.1; omega)
  have hne : ∀ {e size n v xs}, x6.ownsRow (gm + 3) e size v n xs → (x6.setCells (gm + 1) 0 (cellsM m P)).ownsRow (gm + 3) e size v n xs := fun h => h.kept hst.2 (.inr fun e => by have := (h.lt _ e).1; omega)
  have hO2 : OwnM (gm + 3) (x6.setCells (gm + 1) 0 (cellsM m P)) m P := ⟨hne hO.1, hne hO.2.1, hne hO.2.2.1, hne hO.2.2.2⟩
  obtain ⟨xf, hxf⟩ : ∃ x, x = x6.setCells (gm + 1) 0 (cellsM m P) := ⟨_, rfl⟩
  rw [← hxf] at hst hbf hO2
  have hrf : xf.rangeAt (gm + 1) 0 (cellsM m P) := hst.1.whole
  have HO2 := Lib.hid hO2
  have HBF := Lib.hid hbf
  clear hP ht6 ht7 hO hO3 hO4 hO5 hO6 hst hbf hO2 hne hr6 hgs6
  go_upto_region 10 with (first | ((with_reducible refine at_dst 42 ?_); refine wpList_load_midg rfl _ _ rfl _ _ rfl _ _ hrg Try.underlying50 rfl (by kernel_rfl) ?_) | ((with_reducible refine at_store ?_); refine wpList_store_mid rfl 50 _ _ rfl (gm + 1) 0 (cellsM m P).toArray rfl rfl hth (by kernel_rfl) (by kernel_rfl) ?_; rw [← hxf]) | fail)
  refine bodyPost_ret (results_cell rfl _ _ _ (gm + 1) 0 (.agg (cellsM m P).toArray) rfl (run_loadVar_mid xf (gm + 1) 0 50 (cellsM m P) _ hrf Try.underlying50 rfl (by kernel_rfl))) rfl ?_
  have hO := HO2.out
  rw [HG.out] at hO
  refine ⟨P, rfl, ?_, HBF.out⟩
  exact ⟨own_base hO.1 (by omega), own_base hO.2.1 (by omega), own_base hO.2.2.1 (by omega), own_base hO.2.2.2 (by omega)⟩
end Go.Proofs.Ytaipnbpefdcejaa
