/- The walk of the program's Proper. -/
import Derived.Test.YtaipnbpefdcejaaMsg
set_option linter.unusedVariables false
namespace Go.Proofs.Ytaipnbpefdcejaa
open Go.RowKit
def vcells (l : List (Bool × Int)) : List Value := l.flatMap fun v => [.bool v.1, .int .i64 v.2]
/-- The lists of a message read as they are. -/
def ncells (l : List (Int × Int)) : List Value := l.flatMap fun v => [.int .i64 v.1, .int .u64 v.2]
def zcells (l : List Int) : List Value := l.map fun x => .int .i64 x
def MRd (w : World) (m : M) (p : Ps) : Prop := Rd w p.an (ncells m.names) ∧ Rd w p.al (zcells m.lens) ∧ Rd w p.av (vcells m.vals) ∧ Rd w p.ai (m.image.map B)
def cleanV (l : List (Bool × Int)) : Prop := ∀ v ∈ l, v.1 = false → v.2 = 0
theorem Rd.vat {w : World} {a : Option Addr} {l : List (Bool × Int)} (h : Rd w a (vcells l)) (i : Nat) (hi : i < l.length) :
    ∃ b off, a = some ⟨b, off, none⟩ ∧ w.cell? ⟨b, off + i * 2, none⟩ = some (.bool l[i].1) ∧ w.cell? ⟨b, off + i * 2 + 1, none⟩ = some (.int .i64 l[i].2) := by
  have hg : ∀ (l : List (Bool × Int)) (i : Nat) (hi : i < l.length), (vcells l)[i * 2]? = some (.bool l[i].1) ∧ (vcells l)[i * 2 + 1]? = some (.int .i64 l[i].2) := by
    intro l
    induction l with
    | nil => intro i hi; simp at hi
    | cons v l ih =>
      intro i hi
      cases i with
      | zero => exact ⟨rfl, rfl⟩
      | succ i =>
        have := ih i (by simpa using hi)
        rw [show (i + 1) * 2 = (i * 2 + 1) + 1 by omega]
        exact this
  obtain ⟨g1, g2⟩ := hg l i hi
  rcases h with h | ⟨b, off, rfl, hc⟩
  · rw [h] at g1; cases g1
  · exact ⟨b, off, rfl, hc _ _ g1, hc _ _ g2⟩
theorem meas_lt {q k : Nat} (h : q < k) : k - (intOf (.int .i64 ((q : Int) + 1))).toNat < k - (intOf (.int .i64 (q : Int))).toNat := by
  simp [intOf]
  omega
/-- Is it a message with just the fields of its kind? -/
def properM (m : M) : Prop := 0 ≤ m.handle ∧ cleanV m.vals ∧ ordL m.kind ≠ [] ∧ blankM ((ordL m.kind).foldl (fun m s => eraseM s m) m)
def PrPost (m : M) (w : World) (e : Ending) (w' : World) : Prop := ∃ b : Bool, e = .returned (.bool b) ∧ (b = true ↔ properM m) ∧ Below w.heap.size w w'
theorem ordL_len3 (k : Int) : (ordL k).length ≤ 3 := by
  unfold ordL
  repeat' split
  all_goals simp
theorem Rd.grown {w w' : World} {a : Option Addr} {vs : List Value} {g : Nat} (h : Rd w a vs) (hg : w.grownBy w' (some g)) (hne : ∀ b off, a = some ⟨b, off, none⟩ → b ≠ g) : Rd w' a vs := by
  rcases h with rfl | ⟨b, off, rfl, hc⟩
  · exact .inl rfl
  · refine .inr ⟨b, off, rfl, fun i u hu => ?_⟩
    have h1 := hc i u hu
    rw [World.cell?_of_block (w := w) (hg.block b (World.block_lt_of_cell? w _ h1) (fun e => hne b off rfl (Option.some.inj e)))]
    exact h1
theorem Blk.whole {w : World} {g : Nat} {t : TypeId} {cs : List Value} (h : Blk w g t cs) : w.rangeAt g 0 cs := by
  have := h.range 0 cs.length (by omega)
  simpa using this
theorem wpList_load_midg {P : Program} {ops : Array Oper} {rest : List Oper} {op : Oper} {a : Act} {w : World} {Q : Exit → Act → World → Prop} (hw : Region.wanted op (yielded ops a.tmps) = true) (ty : TypeId) (x : Operand) (ho : op.op = .load ty x)
    (b o : Nat) (hx : a.eval x = .pointer (some ⟨b, o, none⟩)) (cs : List Value) (d : TypeDesc) (hc : w.rangeAt b o cs)
    (hu : P.underlying ty = some d) (hd : d.isRow = true) (hi : (P.info? ty).map (·.size) = some cs.length)
    (h : wpList P ops Q rest (a.put op.dst (.agg cs.toArray)) w) : wpList P ops Q (op :: rest) a w :=
  wpList_step fun K hK => by
    rw [if_pos hw]
    exact wp_load_mid ty x ho b o hx cs d hc hu hd hi (hK _ _ h)
def foldM (l : List String) (m : M) : M := l.foldl (fun m s => eraseM s m) m
def foldP (l : List String) (p : Ps) : Ps := l.foldl (fun p s => eraseP s p) p
theorem foldM_snoc {L : List String} {j : Nat} (h : j < L.length) (m : M) : foldM (L.take (j + 1)) m = eraseM L[j] (foldM (L.take j) m) := by
  unfold foldM
  rw [List.take_succ_eq_append_getElem h, List.foldl_append]
  rfl
theorem foldP_snoc {L : List String} {j : Nat} (h : j < L.length) (p : Ps) : foldP (L.take (j + 1)) p = eraseP L[j] (foldP (L.take j) p) := by
  unfold foldP
  rw [List.take_succ_eq_append_getElem h, List.foldl_append]
  rfl
set_option maxHeartbeats 8000000 in
set_option maxRecDepth 20000 in
theorem proper_any (m : M) (p : Ps) (w : World) (hr : MRd w m p) (hmax : m.vals.length ≤ 1073741824) :
    Calls Try.prog 25 #[valM m p] w (PrPost m w) := by
  unfold valM cellsM
  go_enter Try.func25, Try.ntmps25
  by_cases h0 : m.handle < 0
  · go_wp2_with fail
    go_ret
    refine ⟨false, rfl, ⟨fun h => (Bool.false_ne_true h).elim, fun h => by have := h.1; omega⟩, ?_⟩
    exact (Below.refl _ _).alloc (Nat.le_refl _) _
  · go_wp2_with fail
    obtain ⟨w1, hw1⟩ : ∃ w1, w1 = w.alloc (.cells (cellsM m p).toArray 50) := ⟨_, rfl⟩
    have hb1 : Below w.heap.size w w1 := by rw [hw1]; exact (Below.refl _ _).alloc (Nat.le_refl _) _
    have hk1 : Blk w1 w.heap.size 50 (cellsM m p) := by rw [hw1]; exact Blk.new w _ 50
    have hv1 := hr.2.2.1.below hb1
    obtain ⟨g, hg⟩ : ∃ g, g = w.heap.size := ⟨_, rfl⟩
    have hgl : g < w1.heap.size := by rw [hg]; exact hk1.lt
    rw [← hg] at hk1
    unfold cellsM at hw1
    rw [← hw1, ← hg]
    obtain ⟨nv, hnv⟩ : ∃ nv, nv = m.vals.length := ⟨_, rfl⟩
    rw [← hnv] at hmax ⊢
    have HNV := Lib.hid hnv
    have HG := Lib.hid hg
    have HK1 := Lib.hid hk1
    have HB1 := Lib.hid hb1
    clear hw1 hnv hg hk1 hb1
    go_loopw [16] (fun i wr => ∃ k : Nat, k ≤ nv ∧ i = .int .i64 (k : Int) ∧ cleanV (m.vals.take k) ∧ Below w1.heap.size w1 wr) (fun i _ => nv - (intOf i).toNat)
    case atStart => exact ⟨0, Nat.zero_le _, rfl, (fun v hv => by simp at hv), Below.refl _ _⟩
    case round =>
      obtain ⟨k, hk, rfl, hcl, hbr⟩ := hrel
      by_cases hlt : k < nv
      · have hkl : k < m.vals.length := by rw [← HNV.out]; exact hlt
        obtain ⟨b, off, hav, hc1, hc2⟩ := (hv1.below hbr).vat k hkl
        have hlt' : (k : Int) < nv := by omega
        have hst : m.vals.take (k + 1) = m.vals.take k ++ [m.vals[k]] := by rw [List.take_succ_eq_append_getElem hkl]
        obtain ⟨⟨kn, x⟩, hx⟩ : ∃ v, v = m.vals[k] := ⟨_, rfl⟩
        rw [← hx] at hc1 hc2 hst
        dsimp only at hc1 hc2
        have HST := Lib.hid hst
        have HX := Lib.hid hx
        have HCL := Lib.hid hcl
        have hclean : (kn = false → x = 0) → cleanV (m.vals.take (k + 1)) := fun h v hv => by
          rw [HST.out] at hv
          rcases List.mem_append.1 hv with hv | hv
          · exact HCL.out v hv
          · simp at hv; subst hv; exact h
        have HC := Lib.hid hclean
        have HM := Lib.hid (meas_lt hlt)
        clear hst hx hcl hclean
        rw [hav]
        cases kn
        · by_cases hx0 : x = 0
          · subst hx0
            go_wp2
            go_roundw
            case rel => exact ⟨k + 1, by omega, by go_num, HC.out (fun _ => rfl), (hbr.alloc hbr.size _)⟩
            case measure => exact HM.out
          · have hxx : (x != 0) = true := by simp [hx0]
            have hbb := hbr.alloc hbr.size (.cells #[.bool false, .int .i64 x] 74)
            have HBB := Lib.hid hbb
            clear hbb
            go_wp2
            go_ret
            refine ⟨false, ret_val rfl, ⟨fun h => (Bool.false_ne_true h).elim, fun h => ?_⟩, HB1.out.trans (HBB.out.mono HB1.out.size)⟩
            exact (hx0 (h.2.1 (false, x) (by rw [HX.out]; exact List.getElem_mem hkl) rfl)).elim
        · go_wp2
          go_roundw
          case rel => exact ⟨k + 1, by omega, by go_num, HC.out (fun h => by cases h), (hbr.alloc hbr.size _)⟩
          case measure => exact HM.out
      · have hke : k = nv := by omega
        have hlt' : ¬ (k : Int) < nv := by omega
        have hclA : cleanV m.vals := by
          have e : m.vals.take k = m.vals := List.take_of_length_le (by rw [← HNV.out]; omega)
          rw [e] at hcl
          exact hcl
        have hk2 := HK1.out.below hbr
        have hb2 := HB1.out.trans (hbr.mono HB1.out.size)
        have HCL := Lib.hid hclA
        have HB2 := Lib.hid hb2
        clear hcl hclA hb2 hke hk hlt
        have hk3 := hk2.alloc (.cells #[] 76)
        have hc0 := hk3.cell 0 (by rw [cellsM_len]; omega)
        have hc0' : (wr.alloc (.cells #[] 76)).cell? ⟨g, 0, none⟩ = some (.int .i64 m.kind) := hc0
        have hal : Below wr.heap.size wr (wr.alloc (.cells #[] 76)) := (Below.refl _ _).alloc (Nat.le_refl _) _
        have HK3 := Lib.hid hk3
        clear hc0 hk2 hk3
        go_wp2_with fail
        refine (order_er m.kind _).mono ?_
        rintro e w2 ⟨al, cl, rfl, hrl, hbl, hn1, hn2, hfr⟩
        obtain ⟨L, hL⟩ : ∃ L, L = ordL m.kind := ⟨_, rfl⟩
        rw [← hL] at hrl hn1 hn2 ⊢
        obtain ⟨nl, hnl⟩ : ∃ n, n = L.length := ⟨_, rfl⟩
        rw [← hnl]
        have HL := Lib.hid hL
        have HNL := Lib.hid hnl
        have hk4 := HK3.out.below hbl
        have hb4 := HB2.out.trans ((hal.trans (hbl.mono hal.size)).mono HB2.out.size)
        have hnl3 : nl ≤ 3 := by
          rw [hnl, hL]
          exact ordL_len3 _
        have HTEN := Lib.hid (show ∀ s ∈ L, s ∈ tenL by rw [hL]; exact ordL_ten m.kind)
        have hgne : ∀ b off, al = some ⟨b, off, none⟩ → b ≠ g := fun b off e => by have h1 := hfr _ e; have h2 := HK3.out.lt; dsimp only at h1; omega
        have HGN := Lib.hid hgne
        clear hL hnl hc0' hal hbl hfr hgne
        obtain ⟨W2, hW2⟩ : ∃ W2, W2 = w2 := ⟨_, rfl⟩
        rw [← hW2] at hrl hk4 hb4 ⊢
        clear hW2
        go_wp2_with fail
        go_loopw [36] (fun i wr => ∃ j : Nat, j ≤ nl ∧ i = .int .i64 (j : Int) ∧ Blk wr g 50 (cellsM (foldM (L.take j) m) (foldP (L.take j) p)) ∧ Rd wr al (L.map (mf (.iface 76 (.agg #[])))) ∧ Below w.heap.size w wr) (fun i _ => nl - (intOf i).toNat)
        case atStart => exact ⟨0, Nat.zero_le _, rfl, hk4, hrl, hb4⟩
        case round =>
          obtain ⟨j, hj, rfl, hkb, hrl, hbw⟩ := hrel
          by_cases hlt : j < nl
          · have hjl : j < L.length := by rw [← HNL.out]; exact hlt
            have hlt' : (j : Int) < nl := by omega
            obtain ⟨b, off, rfl, hc⟩ := hrl.cells (by intro h0; have := congrArg List.length h0; simp at this; rw [this] at hjl; simp at hjl)
            have hcj := hc j (by simpa using hjl)
            rw [List.getElem_map, mf] at hcj
            have hfm := foldM_snoc hjl m
            have hfp := foldP_snoc hjl p
            obtain ⟨s, hs⟩ : ∃ s, s = L[j] := ⟨_, rfl⟩
            have hten := HTEN.out s (by rw [hs]; exact List.getElem_mem hjl)
            rw [← hs] at hcj hfm hfp
            have HFM := Lib.hid hfm
            have HFP := Lib.hid hfp
            have HRL := Lib.hid hrl
            have HBW := Lib.hid hbw
            have HME := Lib.hid (meas_lt hlt)
            clear hc hs hfm hfp hrl hbw hb4 hk4
            have hjn : j + 1 ≤ nl := hlt
            have hgw : w.heap.size ≤ g := by rw [HG.out]; exact Nat.le_refl _
            obtain ⟨m', hm'⟩ : ∃ m', m' = foldM (L.take j) m := ⟨_, rfl⟩
            obtain ⟨p', hp'⟩ : ∃ p', p' = foldP (L.take j) p := ⟨_, rfl⟩
            rw [← hm', ← hp'] at hkb
            have HM' := Lib.hid hm'
            have HP' := Lib.hid hp'
            clear hm' hp'
            simp only [tenL, List.mem_cons, List.not_mem_nil, or_false] at hten
            rcases hten with rfl | rfl | rfl | rfl | rfl | rfl | rfl | rfl | rfl | rfl
            · go_wp2_with fail
              refine (erm_number g m' p' wr hkb).mono ?_
              rintro e w3 ⟨rfl, hk5, hg5⟩
              have hb5 := HBW.out.grown hg5 HBW.out.size (fun x hx => by cases hx; exact hgw)
              have hr5 := HRL.out.grown hg5 HGN.out
              have HK5 := Lib.hid hk5
              clear hk5 hg5
              go_wp2
              go_roundw
              case rel => exact ⟨j + 1, hjn, by go_num, by rw [HFM.out, HFP.out, ← HM'.out, ← HP'.out]; exact HK5.out, hr5, hb5⟩
              case measure => exact HME.out
            · go_wp2_with fail
              refine (erm_handle g m' p' wr hkb).mono ?_
              rintro e w3 ⟨rfl, hk5, hg5⟩
              have hb5 := HBW.out.grown hg5 HBW.out.size (fun x hx => by cases hx; exact hgw)
              have hr5 := HRL.out.grown hg5 HGN.out
              have HK5 := Lib.hid hk5
              clear hk5 hg5
              go_wp2
              go_roundw
              case rel => exact ⟨j + 1, hjn, by go_num, by rw [HFM.out, HFP.out, ← HM'.out, ← HP'.out]; exact HK5.out, hr5, hb5⟩
              case measure => exact HME.out
            · go_wp2_with fail
              refine (erm_code g m' p' wr hkb).mono ?_
              rintro e w3 ⟨rfl, hk5, hg5⟩
              have hb5 := HBW.out.grown hg5 HBW.out.size (fun x hx => by cases hx; exact hgw)
              have hr5 := HRL.out.grown hg5 HGN.out
              have HK5 := Lib.hid hk5
              clear hk5 hg5
              go_wp2
              go_roundw
              case rel => exact ⟨j + 1, hjn, by go_num, by rw [HFM.out, HFP.out, ← HM'.out, ← HP'.out]; exact HK5.out, hr5, hb5⟩
              case measure => exact HME.out
            · go_wp2_with fail
              refine (erm_schema g m' p' wr hkb).mono ?_
              rintro e w3 ⟨rfl, hk5, hg5⟩
              have hb5 := HBW.out.grown hg5 HBW.out.size (fun x hx => by cases hx; exact hgw)
              have hr5 := HRL.out.grown hg5 HGN.out
              have HK5 := Lib.hid hk5
              clear hk5 hg5
              go_wp2
              go_roundw
              case rel => exact ⟨j + 1, hjn, by go_num, by rw [HFM.out, HFP.out, ← HM'.out, ← HP'.out]; exact HK5.out, hr5, hb5⟩
              case measure => exact HME.out
            · go_wp2_with fail
              refine (erm_query g m' p' wr hkb).mono ?_
              rintro e w3 ⟨rfl, hk5, hg5⟩
              have hb5 := HBW.out.grown hg5 HBW.out.size (fun x hx => by cases hx; exact hgw)
              have hr5 := HRL.out.grown hg5 HGN.out
              have HK5 := Lib.hid hk5
              clear hk5 hg5
              go_wp2
              go_roundw
              case rel => exact ⟨j + 1, hjn, by go_num, by rw [HFM.out, HFP.out, ← HM'.out, ← HP'.out]; exact HK5.out, hr5, hb5⟩
              case measure => exact HME.out
            · go_wp2_with fail
              refine (erm_image g m' p' wr hkb).mono ?_
              rintro e w3 ⟨rfl, hk5, hg5⟩
              have hb5 := HBW.out.grown hg5 HBW.out.size (fun x hx => by cases hx; exact hgw)
              have hr5 := HRL.out.grown hg5 HGN.out
              have HK5 := Lib.hid hk5
              clear hk5 hg5
              go_wp2
              go_roundw
              case rel => exact ⟨j + 1, hjn, by go_num, by rw [HFM.out, HFP.out, ← HM'.out, ← HP'.out]; exact HK5.out, hr5, hb5⟩
              case measure => exact HME.out
            · go_wp2_with fail
              refine (erm_event g m' p' wr hkb).mono ?_
              rintro e w3 ⟨rfl, hk5, hg5⟩
              have hb5 := HBW.out.grown hg5 HBW.out.size (fun x hx => by cases hx; exact hgw)
              have hr5 := HRL.out.grown hg5 HGN.out
              have HK5 := Lib.hid hk5
              clear hk5 hg5
              go_wp2
              go_roundw
              case rel => exact ⟨j + 1, hjn, by go_num, by rw [HFM.out, HFP.out, ← HM'.out, ← HP'.out]; exact HK5.out, hr5, hb5⟩
              case measure => exact HME.out
            · go_wp2_with fail
              refine (erm_match g m' p' wr hkb).mono ?_
              rintro e w3 ⟨rfl, hk5, hg5⟩
              have hb5 := HBW.out.grown hg5 HBW.out.size (fun x hx => by cases hx; exact hgw)
              have hr5 := HRL.out.grown hg5 HGN.out
              have HK5 := Lib.hid hk5
              clear hk5 hg5
              go_wp2
              go_roundw
              case rel => exact ⟨j + 1, hjn, by go_num, by rw [HFM.out, HFP.out, ← HM'.out, ← HP'.out]; exact HK5.out, hr5, hb5⟩
              case measure => exact HME.out
            · go_wp2_with fail
              refine (erm_sizes g m' p' wr hkb).mono ?_
              rintro e w3 ⟨rfl, hk5, hg5⟩
              have hb5 := HBW.out.grown hg5 HBW.out.size (fun x hx => by cases hx; exact hgw)
              have hr5 := HRL.out.grown hg5 HGN.out
              have HK5 := Lib.hid hk5
              clear hk5 hg5
              go_wp2
              go_roundw
              case rel => exact ⟨j + 1, hjn, by go_num, by rw [HFM.out, HFP.out, ← HM'.out, ← HP'.out]; exact HK5.out, hr5, hb5⟩
              case measure => exact HME.out
            · go_wp2_with fail
              refine (erm_fault g m' p' wr hkb).mono ?_
              rintro e w3 ⟨rfl, hk5, hg5⟩
              have hb5 := HBW.out.grown hg5 HBW.out.size (fun x hx => by cases hx; exact hgw)
              have hr5 := HRL.out.grown hg5 HGN.out
              have HK5 := Lib.hid hk5
              clear hk5 hg5
              go_wp2
              go_roundw
              case rel => exact ⟨j + 1, hjn, by go_num, by rw [HFM.out, HFP.out, ← HM'.out, ← HP'.out]; exact HK5.out, hr5, hb5⟩
              case measure => exact HME.out
          · have hje : j = nl := by omega
            have hlt' : ¬ (j : Int) < nl := by omega
            have e : L.take j = L := List.take_of_length_le (by rw [← HNL.out]; omega)
            rw [e] at hkb
            have HKB := Lib.hid hkb
            have HBW := Lib.hid hbw
            have hz : wr.heap.size = wr.heap.size := rfl
            clear hkb hbw e hje hlt hj
            have hrg := HKB.out.whole
            obtain ⟨mm, hmm⟩ : ∃ mm, mm = foldM L m := ⟨_, rfl⟩
            obtain ⟨pp, hpp⟩ : ∃ pp, pp = foldP L p := ⟨_, rfl⟩
            rw [← hmm, ← hpp] at hrg
            have HMM := Lib.hid hmm
            clear hmm hpp
            by_cases hnil : L = []
            · have hal := hn1 hnil
              rw [hal]
              have HNIL := Lib.hid hnil
              clear hnil hn1 hn2
              go_wp2_with fail
              go_ret
              refine ⟨false, ret_val rfl, ⟨fun h => (Bool.false_ne_true h).elim, fun h => (h.2.2.1 (by rw [← HL.out, HNIL.out])).elim⟩, HBW.out⟩
            · have hal := hn2 hnil
              have HNIL := Lib.hid hnil
              obtain ⟨ad, had⟩ : ∃ ad, al = some ad := by cases al with
                | none => exact (hal rfl).elim
                | some ad => exact ⟨ad, rfl⟩
              rw [had]
              clear hnil hn1 hn2 hal
              go_wp2_with (first | ((with_reducible refine at_dst 46 ?_); refine wpList_load_midg rfl 50 _ rfl g 0 rfl (cellsM mm pp) _ hrg Try.underlying50 rfl (by kernel_rfl) ?_) | fail)
              refine (blank_m mm pp wr).mono ?_
              rintro e w3 ⟨bl, rfl, hbl, hb3⟩
              go_wp2
              go_ret
              refine ⟨bl, ret_val rfl, ?_, HBW.out.trans (hb3.mono HBW.out.size)⟩
              rw [hbl]
              unfold properM
              rw [← HL.out]
              have e1 : mm = L.foldl (fun m s => eraseM s m) m := HMM.out
              rw [e1]
              exact ⟨fun h => ⟨h0, HCL.out, HNIL.out, h⟩, fun h => h.2.2.2⟩
#print axioms proper_any
end Go.Proofs.Ytaipnbpefdcejaa
