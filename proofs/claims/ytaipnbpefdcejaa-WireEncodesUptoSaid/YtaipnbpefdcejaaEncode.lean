/- The walk of the program's Encode. -/
import Derived.Test.YtaipnbpefdcejaaWr4
set_option linter.unusedVariables false
namespace Go.Proofs.Ytaipnbpefdcejaa
open Go.RowKit
/-- A message's frame. -/
def frameM (m : M) : List UInt8 := bytesU (inM m).length ++ inM m
open Classical in
/-- What Encode answers. -/
noncomputable def encA (m : M) : List UInt8 × Int := if properM m then (if (inM m).length ≤ 1048576 then (frameM m, 0) else ([], 211)) else ([], 212)
def EncPost (m : M) (w : World) (e : Ending) (w' : World) : Prop :=
  ∃ a c, e = .returned (.tuple #[.slice a (encA m).1.length c, .int .i64 (encA m).2]) ∧ w'.ownsRow w.heap.size 5 1 (.slice a (encA m).1.length c) (encA m).1.length ((encA m).1.map B) ∧ Below w.heap.size w w'
theorem own_below {w w' : World} {base e size n : Nat} {v : Value} {xs : List Value} (h : w.ownsRow base e size v n xs) (hb : Below w.heap.size w w') : w'.ownsRow base e size v n xs :=
  h.kept (row := none) ⟨hb.os, hb.tape, hb.output, hb.size, fun k hk _ => hb.block k hk⟩ (by cases v.ownBlock <;> simp)
theorem own_base {w : World} {base base' e size n : Nat} {v : Value} {xs : List Value} (h : w.ownsRow base e size v n xs) (hb : base' ≤ base) : w.ownsRow base' e size v n xs := by
  refine ⟨h.1, ?_⟩
  rcases h.2 with h1 | ⟨g, cap, cur, h1, h2, h3⟩
  · exact .inl h1
  · exact .inr ⟨g, cap, cur, h1, Nat.le_trans hb h2, h3⟩
theorem Wr.below {base g : Nat} {l : List UInt8} {w w' : World} (h : Wr base g l w) (hb : Below w.heap.size w w') : Wr base g l w' := by
  obtain ⟨hg, a, c, hk, hown, hne⟩ := h
  exact ⟨hg, a, c, hk.below hb, own_below hown hb, hne⟩
theorem Rd.fr {w w' : World} {a : Option Addr} {vs : List Value} {g : Nat} (h : Rd w a vs) (hf : Fr g w w') (ho : ∀ x, a = some x → Off g x.block w) : Rd w' a vs := by
  rcases h with rfl | ⟨b, off, rfl, hc⟩
  · exact .inl rfl
  · refine .inr ⟨b, off, rfl, fun i u hu => ?_⟩
    have h1 := hc i u hu
    have h2 := hf.2 b (World.block_lt_of_cell? w _ h1) (ho _ rfl)
    rw [World.cell?_of_block (w := w) h2.1]
    exact h1
/-- A block made after the writer's is neither. -/
theorem Wr.offNew {base g : Nat} {l : List UInt8} {w w' : World} (h : Wr base g l w) (hb : Below w.heap.size w w') (k : Nat) (hk : w.heap.size ≤ k) : Off g k w' := by
  have h' := h.below hb
  obtain ⟨hg, a, c, hkb, hown, hne⟩ := h
  have hc := (hkb.below hb).cell 0 (by simp)
  simp only [List.getElem_cons_zero] at hc
  refine ⟨fun e => by have := hkb.lt; omega, fun v hv => ?_⟩
  rw [hc] at hv
  cases hv
  intro e
  have := (hown.lt _ e).2
  omega
theorem wr_new (w2 : World) (x : Value) (u : UInt8) (hx : x = B u) : Wr w2.heap.size (w2.heap.size + 1) [u] ((w2.alloc (.cells #[x] 5)).alloc (.cells #[.slice (some ⟨w2.heap.size, 0, none⟩) 1 1] 86)) := by
  subst hx
  have h1 : (w2.alloc (.cells #[B u] 5)).heap.size = w2.heap.size + 1 := by simp
  refine ⟨Nat.le_succ _, some ⟨w2.heap.size, 0, none⟩, 1, ?_, ?_, ?_⟩
  · have := Blk.new (w2.alloc (.cells #[B u] 5)) [.slice (some ⟨w2.heap.size, 0, none⟩) 1 1] 86
    rw [h1] at this
    exact this
  · have h2 : (w2.alloc (.cells #[B u] 5)).ownsRow w2.heap.size 5 1 (.slice (some ⟨w2.heap.size, 0, none⟩) 1 1) 1 [B u] := own_of_heap (heap_alloc_new w2 _) (Nat.le_refl _) rfl (by unfold maxLen; omega)
    exact own_below h2 ((Below.refl _ _).alloc (Nat.le_refl _) _)
  · simp [Value.ownBlock]
theorem kind_u8 {m : M} (h : properM m) : m.kind % 256 = ((UInt8.ofNat m.kind.toNat).toNat : Int) := by
  have h1 := h.2.2.1
  have h2 : 1 ≤ m.kind ∧ m.kind ≤ 21 := by
    unfold ordL at h1
    repeat' split at h1
    all_goals first | omega | (exact (h1 rfl).elim)
  rw [UInt8.toNat_ofNat']
  omega
set_option maxHeartbeats 8000000 in
set_option maxRecDepth 20000 in
theorem encode_any (m : M) (p : Ps) (w : World) (hwf : WfM m) (hr : MRd w m p) : Calls Try.prog 27 #[valM m p] w (EncPost m w) := by
  obtain ⟨v0, hv0⟩ : ∃ v, v = valM m p := ⟨_, rfl⟩
  unfold valM cellsM
  go_enter Try.func27, Try.ntmps27
  obtain ⟨w1, hw1⟩ : ∃ w1, w1 = w.alloc (.cells (cellsM m p).toArray 50) := ⟨_, rfl⟩
  have hb1 : Below w.heap.size w w1 := by rw [hw1]; exact (Below.refl _ _).alloc (Nat.le_refl _) _
  have hk1 : Blk w1 w.heap.size 50 (cellsM m p) := by rw [hw1]; exact Blk.new w _ 50
  have hr1 : MRd w1 m p := ⟨hr.1.below hb1, hr.2.1.below hb1, hr.2.2.1.below hb1, hr.2.2.2.below hb1⟩
  have hrg : w1.rangeAt w.heap.size 0 (cellsM m p) := hk1.whole
  rw [hw1] at hrg
  unfold cellsM at hrg
  go_wp2_with (first | ((with_reducible refine at_dst 7 ?_); refine wpList_load_midg rfl _ _ rfl _ _ rfl _ _ hrg Try.underlying50 rfl (by kernel_rfl) ?_) | fail)
  obtain ⟨gm, hgm⟩ : ∃ g, g = w.heap.size := ⟨_, rfl⟩
  rw [← hgm] at hk1
  unfold cellsM at hw1
  rw [← hw1, ← hgm]
  clear hrg hr
  unfold valM cellsM at hv0
  rw [← hv0]
  have hw0 : v0 = valM m p := by rw [hv0]; rfl
  clear hv0
  rw [hw0]
  have hb1m : m.vals.length ≤ 1073741824 := hwf.vl
  refine (proper_any m p w1 hr1 hb1m).mono ?_
  rintro e w2 ⟨b, rfl, hpb, hb2⟩
  have hk2 := hk1.below hb2
  have hr2 : MRd w2 m p := ⟨hr1.1.below hb2, hr1.2.1.below hb2, hr1.2.2.1.below hb2, hr1.2.2.2.below hb2⟩
  have hb02 := hb1.trans (hb2.mono hb1.size)
  clear hk1 hr1 hb1 hb2 hb1m hw1
  cases b with
  | false =>
    have hnp : ¬ properM m := fun h => by have := hpb.2 h; cases this
    have hA : encA m = ([], 212) := by unfold encA; rw [if_neg hnp]
    have HA := Lib.hid hA
    clear hA hpb hnp
    go_wp2_with fail
    go_ret2
    unfold EncPost
    rw [HA.out]
    exact ⟨none, 0, rfl, World.ownsRow_nil _ _ _ _, hb02⟩
  | true =>
    have HPM := Lib.hid (hpb.1 rfl)
    have HK2 := Lib.hid hk2
    have HR2 := Lib.hid hr2
    have HB02 := Lib.hid hb02
    have HG := Lib.hid hgm
    have hh : 0 ≤ m.handle := HPM.out.1
    have hc0 : w2.cell? ⟨gm, 0, none⟩ = some (.int .i64 m.kind) := hk2.cell 0 (by rw [cellsM_len]; omega)
    have hd0 : ((w2.alloc (.cells #[.int .u8 (m.kind % 256)] 5)).alloc (.cells #[.slice (some ⟨w2.heap.size, 0, none⟩) 1 1] 86)).cell? ⟨gm, 0, none⟩ = some (.int .i64 m.kind) := ((hk2.alloc _).alloc _).cell 0 (by rw [cellsM_len]; omega)
    obtain ⟨kb, hkb⟩ : ∃ kb, kb = UInt8.ofNat m.kind.toNat := ⟨_, rfl⟩
    have hwn := wr_new w2 (.int .u8 (m.kind % 256)) kb (by rw [B, hkb, kind_u8 HPM.out])
    have hbn : Below w2.heap.size w2 ((w2.alloc (.cells #[.int .u8 (m.kind % 256)] 5)).alloc (.cells #[.slice (some ⟨w2.heap.size, 0, none⟩) 1 1] 86)) := ((Below.refl _ _).alloc (Nat.le_refl _) _).alloc (by simp) _
    have HKB := Lib.hid hkb
    have HWN := Lib.hid hwn
    have HBN := Lib.hid hbn
    clear hpb hk2 hr2 hb02 hw0 hgm hkb hwn hbn
    go_wp2_with fail
    obtain ⟨w3, hw3⟩ : ∃ w3, w3 = (w2.alloc (.cells #[.int .u8 (m.kind % 256)] 5)).alloc (.cells #[.slice (some ⟨w2.heap.size, 0, none⟩) 1 1] 86) := ⟨_, rfl⟩
    have hwn := HWN.out
    have hbn := HBN.out
    rw [← hw3] at hwn hbn ⊢
    obtain ⟨g, hg⟩ : ∃ g, g = w2.heap.size + 1 := ⟨_, rfl⟩
    rw [← hg] at hwn ⊢
    clear hw3 HWN HBN hc0 hd0 hg
    refine (order_wr g m.kind w3).mono ?_
    rintro e w4 ⟨al, cl, rfl, hrl, hbl, hn1, hn2, hfr⟩
    obtain ⟨L, hL⟩ : ∃ L, L = ordL m.kind := ⟨_, rfl⟩
    rw [← hL] at hrl hn1 hn2 ⊢
    obtain ⟨nl, hnl⟩ : ∃ n, n = L.length := ⟨_, rfl⟩
    rw [← hnl]
    have HL := Lib.hid hL
    have HNL := Lib.hid hnl
    have hnl3 : nl ≤ 3 := by
      rw [hnl, hL]
      exact ordL_len3 _
    have HTEN := Lib.hid (show ∀ s ∈ L, s ∈ tenL by rw [hL]; exact ordL_ten m.kind)
    have hoff : ∀ x, al = some x → Off g x.block w4 := fun x hx => hwn.offNew hbl x.block (hfr x hx)
    have HOFF := Lib.hid hoff
    have hwr4 := hwn.below hbl
    have hb24 : Below w2.heap.size w2 w4 := hbn.trans (hbl.mono hbn.size)
    have HRL := Lib.hid hrl
    clear hL hnl hbl hfr hoff hwn hbn hn1 hn2 hrl
    obtain ⟨W4, hW4⟩ : ∃ W4, W4 = w4 := ⟨_, rfl⟩
    rw [← hW4] at HRL HOFF hwr4 hb24 ⊢
    clear hW4
    go_wp2_with fail
    go_loopw [22] (fun i wr => ∃ j : Nat, j ≤ nl ∧ i = .int .i64 (j : Int) ∧ Wr w2.heap.size g ([kb] ++ (L.take j).flatMap fun s => encF s m) wr ∧ Below w2.heap.size w2 wr ∧ Fr g W4 wr) (fun i _ => nl - (intOf i).toNat)
    case atStart => exact ⟨0, Nat.zero_le _, rfl, hwr4, hb24, Fr.refl _ _⟩
    case round =>
      clear hwr4 hb24
      obtain ⟨j, hj, rfl, hw, hbw, hfw⟩ := hrel
      have hll : ([kb] ++ (L.take j).flatMap fun s => encF s m).length ≤ 300000000001 := by
        have := flat_take_le (fun s => encF s m) 100000000000 j 3 L (by rw [← HNL.out]; exact hnl3) (fun s _ => encF_le hwf hh s)
        rw [List.length_append, List.length_singleton]
        omega
      by_cases hlt : j < nl
      · have hjl : j < L.length := by rw [← HNL.out]; exact hlt
        have hlt' : (j : Int) < nl := by omega
        have hrl := HRL.out.fr hfw HOFF.out
        obtain ⟨b, off, hal, hc⟩ := hrl.cells (by intro h0; have := congrArg List.length h0; simp at this; rw [this] at hjl; simp at hjl)
        have hcj := hc j (by simpa using hjl)
        rw [List.getElem_map, mf] at hcj
        have hsn := flat_take_snoc (fun s => encF s m) L j hjl
        obtain ⟨s, hs⟩ : ∃ s, s = L[j] := ⟨_, rfl⟩
        have hten := HTEN.out s (by rw [hs]; exact List.getElem_mem hjl)
        rw [← hs] at hcj hsn
        have HSN := Lib.hid hsn
        have HFW := Lib.hid hfw
        have HME := Lib.hid (meas_lt hlt)
        clear hc hs hsn hfw hrl
        have hjn : j + 1 ≤ nl := hlt
        subst hal
        simp only [tenL, List.mem_cons, List.not_mem_nil, or_false] at hten
        rcases hten with rfl | rfl | rfl | rfl | rfl | rfl | rfl | rfl | rfl | rfl
        · go_wp2_with fail
          refine (wm_number w2 g gm _ m p wr hwf hh (by omega) hbw hw HK2.out HR2.out).mono ?_
          rintro e w5 ⟨⟨rfl, h5, hb5⟩, hf5⟩
          have HF5 := Lib.hid (HFW.out.trans hf5)
          clear hf5 hw hbw hcj
          go_wp2
          go_roundw
          case rel => exact ⟨j + 1, hjn, by go_num, by rw [HSN.out, ← List.append_assoc]; exact h5, hb5, HF5.out⟩
          case measure => exact HME.out
        · go_wp2_with fail
          refine (wm_handle w2 g gm _ m p wr hwf hh (by omega) hbw hw HK2.out HR2.out).mono ?_
          rintro e w5 ⟨⟨rfl, h5, hb5⟩, hf5⟩
          have HF5 := Lib.hid (HFW.out.trans hf5)
          clear hf5 hw hbw hcj
          go_wp2
          go_roundw
          case rel => exact ⟨j + 1, hjn, by go_num, by rw [HSN.out, ← List.append_assoc]; exact h5, hb5, HF5.out⟩
          case measure => exact HME.out
        · go_wp2_with fail
          refine (wm_code w2 g gm _ m p wr hwf hh (by omega) hbw hw HK2.out HR2.out).mono ?_
          rintro e w5 ⟨⟨rfl, h5, hb5⟩, hf5⟩
          have HF5 := Lib.hid (HFW.out.trans hf5)
          clear hf5 hw hbw hcj
          go_wp2
          go_roundw
          case rel => exact ⟨j + 1, hjn, by go_num, by rw [HSN.out, ← List.append_assoc]; exact h5, hb5, HF5.out⟩
          case measure => exact HME.out
        · go_wp2_with fail
          refine (wm_schema w2 g gm _ m p wr hwf hh (by omega) hbw hw HK2.out HR2.out).mono ?_
          rintro e w5 ⟨⟨rfl, h5, hb5⟩, hf5⟩
          have HF5 := Lib.hid (HFW.out.trans hf5)
          clear hf5 hw hbw hcj
          go_wp2
          go_roundw
          case rel => exact ⟨j + 1, hjn, by go_num, by rw [HSN.out, ← List.append_assoc]; exact h5, hb5, HF5.out⟩
          case measure => exact HME.out
        · go_wp2_with fail
          refine (wm_query w2 g gm _ m p wr hwf hh (by omega) hbw hw HK2.out HR2.out).mono ?_
          rintro e w5 ⟨⟨rfl, h5, hb5⟩, hf5⟩
          have HF5 := Lib.hid (HFW.out.trans hf5)
          clear hf5 hw hbw hcj
          go_wp2
          go_roundw
          case rel => exact ⟨j + 1, hjn, by go_num, by rw [HSN.out, ← List.append_assoc]; exact h5, hb5, HF5.out⟩
          case measure => exact HME.out
        · go_wp2_with fail
          refine (wm_image w2 g gm _ m p wr hwf hh (by omega) hbw hw HK2.out HR2.out).mono ?_
          rintro e w5 ⟨⟨rfl, h5, hb5⟩, hf5⟩
          have HF5 := Lib.hid (HFW.out.trans hf5)
          clear hf5 hw hbw hcj
          go_wp2
          go_roundw
          case rel => exact ⟨j + 1, hjn, by go_num, by rw [HSN.out, ← List.append_assoc]; exact h5, hb5, HF5.out⟩
          case measure => exact HME.out
        · go_wp2_with fail
          refine (wm_event w2 g gm _ m p wr hwf hh (by omega) hbw hw HK2.out HR2.out).mono ?_
          rintro e w5 ⟨⟨rfl, h5, hb5⟩, hf5⟩
          have HF5 := Lib.hid (HFW.out.trans hf5)
          clear hf5 hw hbw hcj
          go_wp2
          go_roundw
          case rel => exact ⟨j + 1, hjn, by go_num, by rw [HSN.out, ← List.append_assoc]; exact h5, hb5, HF5.out⟩
          case measure => exact HME.out
        · go_wp2_with fail
          refine (wm_match w2 g gm _ m p wr hwf hh (by omega) hbw hw HK2.out HR2.out).mono ?_
          rintro e w5 ⟨⟨rfl, h5, hb5⟩, hf5⟩
          have HF5 := Lib.hid (HFW.out.trans hf5)
          clear hf5 hw hbw hcj
          go_wp2
          go_roundw
          case rel => exact ⟨j + 1, hjn, by go_num, by rw [HSN.out, ← List.append_assoc]; exact h5, hb5, HF5.out⟩
          case measure => exact HME.out
        · go_wp2_with fail
          refine (wm_sizes w2 g gm _ m p wr hwf hh (by omega) hbw hw HK2.out HR2.out).mono ?_
          rintro e w5 ⟨⟨rfl, h5, hb5⟩, hf5⟩
          have HF5 := Lib.hid (HFW.out.trans hf5)
          clear hf5 hw hbw hcj
          go_wp2
          go_roundw
          case rel => exact ⟨j + 1, hjn, by go_num, by rw [HSN.out, ← List.append_assoc]; exact h5, hb5, HF5.out⟩
          case measure => exact HME.out
        · go_wp2_with fail
          refine (wm_fault w2 g gm _ m p wr hwf hh (by omega) hbw hw HK2.out HR2.out).mono ?_
          rintro e w5 ⟨⟨rfl, h5, hb5⟩, hf5⟩
          have HF5 := Lib.hid (HFW.out.trans hf5)
          clear hf5 hw hbw hcj
          go_wp2
          go_roundw
          case rel => exact ⟨j + 1, hjn, by go_num, by rw [HSN.out, ← List.append_assoc]; exact h5, hb5, HF5.out⟩
          case measure => exact HME.out
      · have hlt' : ¬ (j : Int) < nl := by omega
        have htk : L.take j = L := List.take_of_length_le (by rw [← HNL.out]; omega)
        rw [htk] at hw hll
        have hin : ([kb] ++ L.flatMap fun s => encF s m) = inM m := by rw [HKB.out, HL.out]; rfl
        rw [hin] at hw hll
        obtain ⟨hgb, a, c, hkw, hown, hne⟩ := hw
        obtain ⟨N, hN⟩ : ∃ N, N = (inM m).length := ⟨_, rfl⟩
        rw [← hN] at hll hkw hown
        have hcw := hkw.cell 0 (by simp)
        simp only [List.getElem_cons_zero] at hcw
        have hA := hN
        have HN := Lib.hid hN
        have HK := Lib.hid hkw
        have HRW := Lib.hid (ownsRow_rd hown)
        have HBW := Lib.hid (HB02.out.trans (hbw.mono HB02.out.size))
        clear htk hlt hj hin hA hN hkw hown hne hbw hfw hgb
        by_cases hbig : 1048576 < N
        · have hA : encA m = ([], 211) := by unfold encA; rw [if_pos HPM.out, if_neg (by rw [← HN.out]; omega)]
          have HA := Lib.hid hA
          have hbig' : (1048576 : Int) < N := by omega
          clear hA
          go_wp2_with fail
          go_ret2
          unfold EncPost
          rw [HA.out]
          exact ⟨none, 0, rfl, World.ownsRow_nil _ _ _ _, HBW.out⟩
        · have hA : encA m = (bytesU N ++ inM m, 0) := by unfold encA frameM; rw [if_pos HPM.out, if_pos (by rw [← HN.out]; omega), ← HN.out]
          have HA := Lib.hid hA
          have hbig' : ¬ (1048576 : Int) < N := by omega
          have hNb : N ≤ 1048576 := by omega
          have q := bytesU_le N (by omega)
          have hwz : IntKind.u64.wrap (N : Int) = (N : Int) := by rw [IntKind.wrap_u64]; omega
          have hkd : Blk wr.drew g 86 [.slice a N c] := HK.out
          have hrdd : Rd wr.drew a ((inM m).map B) := HRW.out
          have HKD := Lib.hid hkd
          have HRDD := Lib.hid hrdd
          clear hA hbig hkd hrdd
          go_wp2
          go_region_law (first | (refine step_app_b rfl _ _ rfl wr.heap.size (.slice a5 (bytesU N).length c5) (bytesU N).length (bytesU N) rfl ?_ a N c (inM m) rfl HN.out.symm ?_ (by omega) ?_ ?_; exact hown5; exact hrd5; exact hb5.size; intro a6 c6 w6 hown6 hb6 hm6) | (go_simp; go_at_call 41; refine (put_any wr.heap.size 0 none 0 [] N _ (by omega) (by omega) ?_ ?_).mono ?_; exact Nat.le_refl _; exact World.ownsRow_nil _ _ _ _; rintro e w5 ⟨a5, c5, rfl, hown5, hb5⟩; simp only [Nat.zero_add, List.nil_append] at hown5 ⊢; have hc5 := (HKD.out.below hb5).cell 0 (by simp); simp only [List.getElem_cons_zero] at hc5; have hrd5 := HRDD.out.below hb5))
          all_goals go_wp2
          all_goals go_ret2
          all_goals unfold EncPost
          all_goals rw [HA.out]
          all_goals dsimp only
          all_goals rw [List.length_append, ← HN.out]
          all_goals exact ⟨a6, c6, rfl, own_base hown6 HBW.out.size, HBW.out.drew.trans ((hb5.trans hb6).mono HBW.out.size)⟩
#print axioms encode_any
end Go.Proofs.Ytaipnbpefdcejaa

