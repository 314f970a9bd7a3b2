/- The walks of the reference's inside and Encode. -/
import Derived.Test.YtaipnbpefdcejaaRField
import Derived.Test.YtaipnbpefdcejaaProperIff
import Derived.Test.YtaipnbpefdcejaaEncode
import Derived.StillTailTactics
set_option linter.unusedVariables false
namespace Go.Proofs.Ytaipnbpefdcejaa
open Go.RowKit
theorem MRd.below {w w' : World} {m : M} {p : Ps} (h : MRd w m p) (hb : Below w.heap.size w w') : MRd w' m p := ⟨h.1.below hb, h.2.1.below hb, h.2.2.1.below hb, h.2.2.2.below hb⟩
theorem St.drew {w0 wI : World} {vI : Value} {gm : Nat} {t : TypeId} {cs : List Value} {l : List UInt8} {w : World} {a : Option Addr} {n c : Nat} (h : St w0 wI vI gm t cs l w a n c) : St w0 wI vI gm t cs l w.drew a n c := by
  obtain ⟨h1, h2, h3, h4, h5, h6, h7⟩ := h
  exact ⟨h1, h2, h3.drew, h4, h5, ⟨h6.os, h6.tape, h6.output, h6.size, h6.block⟩, h7⟩
/-- A load of a whole struct among still operations. -/
theorem wpStill_load_mid {P : Program} {ops : Array Oper} {rest : List Oper} {op : Oper} {a : Act} {w : World} {Q : Act → Prop} (hw : Region.wanted op (yielded ops a.tmps) = true) (ty : TypeId) (x : Operand) (ho : op.op = .load ty x)
    (b o : Nat) (hx : a.eval x = .pointer (some ⟨b, o, none⟩)) (cs : List Value) (d : TypeDesc) (hc : w.rangeAt b o cs)
    (hu : P.underlying ty = some d) (hd : d.isRow = true) (hi : (P.info? ty).map (·.size) = some cs.length)
    (h : wpStill P ops w Q rest (a.put op.dst (.agg cs.toArray))) : wpStill P ops w Q (op :: rest) a :=
  wpStill_step fun K hK => by
    rw [if_pos hw]
    unfold Oper.still execOp
    simp only [ho, hx, Instr.loadAt, Instr.sureAddr, Sem.run_bind, Sem.run_pure, Result.andThen_ok, run_loadVar_mid w b o ty cs d hc hu hd hi]
    exact ⟨rfl, hK _ h⟩
/-- What inside answers. -/
def InPost (m : M) (w : World) (e : Ending) (w' : World) : Prop :=
  ∃ a n c, e = .returned (.slice a n c) ∧ (inM m).length = n ∧ w'.ownsRow w.heap.size 5 1 (.slice a n c) n ((inM m).map B) ∧ Below w.heap.size w w'
theorem in_start (w w1 : World) (gm : Nat) (cs : List Value) (u : UInt8) (x : Value) (hx : x = B u) (hgm : gm = w.heap.size) (hk : Blk w1 gm 50 cs) (hb : Below w.heap.size w w1) :
    St w (w1.alloc (.cells #[x] 5)) (.slice (some ⟨w1.heap.size, 0, none⟩) 1 1) gm 50 cs [u] (w1.alloc (.cells #[x] 5)) (some ⟨w1.heap.size, 0, none⟩) 1 1 := by
  subst hx
  refine ⟨rfl, own_of_heap (heap_alloc_new w1 _) hb.size rfl (by unfold maxLen; omega), hb.alloc hb.size _, hk.alloc _, ?_, Mv.refl _ _⟩
  have := hk.lt
  intro e
  simp [Value.ownBlock] at e
  omega
set_option maxHeartbeats 2000000 in
set_option maxRecDepth 20000 in
theorem inside_any (m : M) (p : Ps) (w : World) (hwf : WfM m) (hh : 0 ≤ m.handle) (hk0 : 0 ≤ m.kind) (hr : MRd w m p) : Calls Try.prog 51 #[valM m p] w (InPost m w) := by
  obtain ⟨v0, hv0⟩ : ∃ v, v = valM m p := ⟨_, rfl⟩
  obtain ⟨w1, hw1⟩ : ∃ w1, w1 = w.alloc (.cells (cellsM m p).toArray 50) := ⟨_, rfl⟩
  have hb1 : Below w.heap.size w w1 := by rw [hw1]; exact (Below.refl _ _).alloc (Nat.le_refl _) _
  have hk1 : Blk w1 w.heap.size 50 (cellsM m p) := by rw [hw1]; exact Blk.new w _ 50
  unfold valM cellsM at hv0
  unfold cellsM at hw1
  unfold valM cellsM
  obtain ⟨gm, hgm⟩ : ∃ g, g = w.heap.size := ⟨_, rfl⟩
  rw [← hgm] at hk1
  obtain ⟨kb, hkb⟩ : ∃ kb, kb = UInt8.ofNat m.kind.toNat := ⟨_, rfl⟩
  have hst := in_start w w1 gm _ kb (.int .u8 (m.kind % 256)) (by rw [B, hkb, UInt8.toNat_ofNat']; congr 1; omega) hgm hk1 hb1
  have HKB := Lib.hid hkb
  clear hkb
  go_enter Try.func51, Try.ntmps51
  go_wp2_with fail
  have hs1 : w1.heap.size = gm + 1 := by rw [hw1, hgm]; simp
  rw [← hw1, ← hgm, ← hv0]
  rw [hs1] at hst
  clear hw1 hv0 hs1 hk1 hb1
  obtain ⟨vI, hvI⟩ : ∃ v, v = Value.slice (some ⟨gm + 1, 0, none⟩) 1 1 := ⟨_, rfl⟩
  rw [← hvI] at hst
  obtain ⟨wI, hwI⟩ : ∃ v, v = w1.alloc (.cells #[.int .u8 (m.kind % 256)] 5) := ⟨_, rfl⟩
  rw [← hwI] at hst ⊢
  clear hwI hvI hgm
  refine (named_any m.kind _).mono ?_
  rintro e _ ⟨rfl, rfl⟩
  obtain ⟨L, hL⟩ : ∃ L, L = ordL m.kind := ⟨_, rfl⟩
  obtain ⟨nl, hnl⟩ : ∃ n, n = L.length := ⟨_, rfl⟩
  have hnl3 : nl ≤ 3 := by rw [hnl, hL]; exact ordL_len3 _
  have hten : ∀ s ∈ L, s ∈ tenL := by rw [hL]; exact ordL_ten m.kind
  have hnm : namedL m.kind = L.map letter := by rw [hL]; exact named_ord m.kind
  rw [hnm]
  have hsz : (⟨(L.map letter).toArray⟩ : ByteArray).size = nl := by rw [hnl]; show (L.map letter).toArray.size = _; simp
  obtain ⟨S, hS⟩ : ∃ S : ByteArray, S = ⟨(L.map letter).toArray⟩ := ⟨_, rfl⟩
  have hget : ∀ j (h : j < L.length), ∃ h2 : j < S.size, S[j] = letter L[j] := by
    intro j h
    subst hS
    refine ⟨by rw [hsz, hnl]; exact h, ?_⟩
    show (L.map letter).toArray[j]'(by simpa using h) = _
    simp
  unfold strB
  rw [← hS] at hsz ⊢
  have HL := Lib.hid hL
  have HNL := Lib.hid hnl
  have HTEN := Lib.hid hten
  have HGET := Lib.hid hget
  clear hL hnl hten hnm hS hget
  go_wp2_with fail
  go_loopw [3, 5] (fun v i wr => ∃ (j : Nat) (a : Option Addr) (n c : Nat), j ≤ nl ∧ v = .slice a n c ∧ i = .int .i64 (j : Int) ∧ St w wI vI gm 50 (cellsM m p) ([kb] ++ (L.take j).flatMap fun s => encF s m) wr a n c) (fun _ i _ => nl - (intOf i).toNat)
  case atStart => exact ⟨0, _, _, _, Nat.zero_le _, rfl, rfl, hst⟩
  case round =>
    clear hst
    obtain ⟨j, a, n, c, hj, rfl, rfl, hst⟩ := hrel
    have hll : ([kb] ++ (L.take j).flatMap fun s => encF s m).length ≤ 300000000001 := by
      have := flat_take_le (fun s => encF s m) 100000000000 j 3 L (by rw [← HNL.out]; exact hnl3) (fun s _ => encF_le hwf hh s)
      rw [List.length_append, List.length_singleton]
      omega
    by_cases hlt : j < nl
    · have hjl : j < L.length := by rw [← HNL.out]; exact hlt
      have hlt' : (j : Int) < nl := by omega
      obtain ⟨hjs, hgt⟩ := HGET.out j hjl
      have hsn := flat_take_snoc (fun s => encF s m) L j hjl
      obtain ⟨s, hs⟩ : ∃ s, s = L[j] := ⟨_, rfl⟩
      have hten := HTEN.out s (by rw [hs]; exact List.getElem_mem hjl)
      rw [← hs] at hsn hgt
      have HSN := Lib.hid hsn
      have HME := Lib.hid (meas_lt hlt)
      have HT := Lib.hid hten
      have hgt' : ((S[j].toNat : Nat) : Int) = ((letter s).toNat : Int) := by rw [hgt]
      have HGT := Lib.hid hgt'
      have hrg : wr.rangeAt gm 0 (cellsM m p) := hst.2.2.2.1.whole
      clear hs hsn hten hgt hgt'
      have hstd := hst.drew
      have HSTD := Lib.hid hstd
      clear hstd hst
      have hrgd : wr.drew.rangeAt gm 0 (cellsM m p) := hrg
      clear hrg
      go_wp2
      refine wp_region_still_tail 5 (by kernel_rfl) (by kernel_rfl) ?_
      simp only [List.take_succ_cons, List.take_zero, List.drop_succ_cons, List.drop_zero]
      still_step
      refine wpStill_load_mid rfl _ _ rfl _ _ rfl _ _ hrgd Try.underlying50 rfl (by kernel_rfl) ?_
      still_step
      still_step
      still_step
      refine wpStill_nil ?_
      change wpList _ _ _ _ _ wr.drew
      have hd := HSTD.out
      obtain ⟨W5, hW5⟩ : ∃ W5, W5 = wr.drew := ⟨_, rfl⟩
      rw [← hW5] at hd ⊢
      have HSTD := Lib.hid hd
      clear hW5 hd hrgd
      go_wp2_with fail
      refine (rfield_any s HT.out _ HGT.out w _ m p a n c W5 hwf hh (by omega) HSTD.out.1 HSTD.out.2.1 HSTD.out.2.2.1 hr).mono ?_
      rintro e w5 ⟨a5, n5, c5, rfl, hn5, hown5, hb5, hm5⟩
      have hst5 := HSTD.out.moved hn5 hown5 (below_of HSTD.out.2.2.1 hb5 hm5.1.size) hm5
      clear hn5 hown5 hb5 hm5
      go_wp2
      go_roundw
      case rel => exact ⟨j + 1, _, _, _, hlt, rfl, by go_num, by rw [HSN.out, ← List.append_assoc]; exact hst5⟩
      case measure => exact HME.out
    · have hlt' : ¬ (j : Int) < nl := by omega
      have htk : L.take j = L := List.take_of_length_le (by rw [← HNL.out]; omega)
      rw [htk] at hst
      have hin : ([kb] ++ L.flatMap fun s => encF s m) = inM m := by rw [HKB.out, HL.out]; rfl
      rw [hin] at hst
      clear hin htk
      go_wp2_with fail
      go_ret
      exact ⟨a, n, c, rfl, hst.1, hst.2.1, hst.2.2.1⟩
set_option maxHeartbeats 4000000 in
set_option maxRecDepth 20000 in
theorem rencode_any (m : M) (p : Ps) (w : World) (hwf : WfM m) (hr : MRd w m p) : Calls Try.prog 28 #[valM m p] w (EncPost m w) := by
  obtain ⟨v0, hv0⟩ : ∃ v, v = valM m p := ⟨_, rfl⟩
  obtain ⟨w1, hw1⟩ : ∃ w1, w1 = w.alloc (.cells (cellsM m p).toArray 50) := ⟨_, rfl⟩
  have hb1 : Below w.heap.size w w1 := by rw [hw1]; exact (Below.refl _ _).alloc (Nat.le_refl _) _
  have hk1 : Blk w1 w.heap.size 50 (cellsM m p) := by rw [hw1]; exact Blk.new w _ 50
  have hr1 := hr.below hb1
  have hrg : w1.rangeAt w.heap.size 0 (cellsM m p) := hk1.whole
  rw [hw1] at hrg
  unfold cellsM at hrg hw1
  unfold valM cellsM at hv0
  unfold valM cellsM
  go_enter Try.func28, Try.ntmps28
  go_wp2_with (first | ((with_reducible refine at_dst 7 ?_); refine wpList_load_midg rfl _ _ rfl _ _ rfl _ _ hrg Try.underlying50 rfl (by kernel_rfl) ?_) | fail)
  obtain ⟨gm, hgm⟩ : ∃ g, g = w.heap.size := ⟨_, rfl⟩
  rw [← hgm] at hk1
  rw [← hw1, ← hgm]
  clear hrg hr
  rw [← hv0]
  have hw0 : v0 = valM m p := by rw [hv0]; rfl
  clear hv0
  rw [hw0]
  have hb1m : m.vals.length ≤ 1073741824 := hwf.vl
  refine (rproper_any m p w1 hr1 hb1m).mono ?_
  rintro e w2 ⟨b, rfl, hpb, hb2⟩
  rw [proper_iff] at hpb
  have hk2 := hk1.below hb2
  have hr2 := hr1.below hb2
  have hb02 := hb1.trans (hb2.mono hb1.size)
  clear hk1 hr1 hb1 hb2 hb1m hw1 hw0
  cases b with
  | false =>
    have hnp : ¬ properM m := fun h => by have := hpb.2 h; cases this
    have hA : encA m = ([], 212) := by unfold encA; rw [if_neg hnp]
    have HA := Lib.hid hA
    clear hA hpb hnp
    go_wp2_with fail
    go_ret2
    unfold EncPost
    rw [HA.out]
    exact ⟨none, 0, rfl, World.ownsRow_nil _ _ _ _, hb02⟩
  | true =>
    have HPM := Lib.hid (hpb.1 rfl)
    have hh : 0 ≤ m.handle := HPM.out.1
    have hk0 : 0 ≤ m.kind := by
      have h1 := HPM.out.2.2.1
      unfold ordL at h1
      repeat' split at h1
      all_goals first | omega | (exact (h1 rfl).elim)
    have hrg2 : w2.rangeAt gm 0 (cellsM m p) := hk2.whole
    have HR2 := Lib.hid hr2
    have HB02 := Lib.hid hb02
    clear hpb hr2 hb02 hgm hk2
    go_wp2_with (first | ((with_reducible refine at_dst 11 ?_); refine wpList_load_midg rfl _ _ rfl _ _ rfl _ _ hrg2 Try.underlying50 rfl (by kernel_rfl) ?_) | fail)
    refine (inside_any m p w2 hwf hh hk0 HR2.out).mono ?_
    rintro e w3 ⟨a3, n3, c3, rfl, hn3, hown3, hb3⟩
    have HBW := Lib.hid (HB02.out.trans (hb3.mono HB02.out.size))
    have hrd3 := ownsRow_rd hown3
    have HN := Lib.hid hn3
    clear hrg2 hown3 hb3
    by_cases hbig : 1048576 < n3
    · have hA : encA m = ([], 211) := by unfold encA; rw [if_pos HPM.out, if_neg (by rw [hn3]; omega)]
      have HA := Lib.hid hA
      have hbig' : (1048576 : Int) < n3 := by omega
      clear hA hn3
      go_wp2_with fail
      go_ret2
      unfold EncPost
      rw [HA.out]
      exact ⟨none, 0, rfl, World.ownsRow_nil _ _ _ _, HBW.out⟩
    · have hA : encA m = (bytesU n3 ++ inM m, 0) := by unfold encA frameM; rw [if_pos HPM.out, if_pos (by rw [hn3]; omega), hn3]
      have HA := Lib.hid hA
      have hbig' : ¬ (1048576 : Int) < n3 := by omega
      have hNb : n3 ≤ 1048576 := by omega
      have q := bytesU_le n3 (by omega)
      clear hA hbig hn3
      go_wp2_with fail
      refine (rput_any w3.heap.size 0 none 0 [] n3 w3 (by omega) (by omega) (Nat.le_refl _) (World.ownsRow_nil _ _ _ _)).mono ?_
      rintro e w5 ⟨a5, c5, rfl, hown5, hb5⟩
      simp only [Nat.zero_add, List.nil_append] at hown5 ⊢
      have hrd5 := hrd3.below hb5
      have hs5 := hb5.size
      go_wp2_with (first | (at_builtin; refine app_b w5 rfl _ _ rfl w3.heap.size (.slice a5 (bytesU n3).length c5) (bytesU n3).length (bytesU n3) rfl hown5 a3 n3 c3 (inM m) rfl HN.out hrd5 (by omega) hs5 ?_; intro a6 c6 w6 hown6 hb6 hm6) | fail)
      go_ret2
      unfold EncPost
      rw [HA.out]
      dsimp only
      rw [List.length_append, HN.out]
      exact ⟨a6, c6, rfl, own_base hown6 HBW.out.size, HBW.out.trans ((hb5.trans hb6).mono HBW.out.size)⟩
#print axioms rencode_any
end Go.Proofs.Ytaipnbpefdcejaa
