/- Joined by wip/tools/merge.py out of: RProper ProperIff. -/
import Derived.Test.YtaipnbpefdcejaaMB
import Derived.Deep.CutRange
import Derived.Deep.DeepCutAuto
/- The walk of the reference's Proper. -/
set_option linter.unusedVariables false
namespace Go.Proofs.Ytaipnbpefdcejaa
open Go.RowKit
theorem has_x (k : Int) (c : UInt8) (x : Int) (b : Bool) (w : World) (hx : x = (c.toNat : Int)) (hb : b = hasB k c) : Calls Try.prog 49 #[.int .i64 k, .int .u8 x] w fun e w' => e = .returned (.bool b) ∧ w = w' := by
  subst hx; subst hb
  exact has_any k c w
/-- The empty one? -/
def noMP (m : M) : Prop := m.dec = 0 ∧ m.names.length = 0 ∧ m.lens.length = 0 ∧ m.vals.length = 0
def BPost (c : Prop) (w : World) (e : Ending) (w' : World) : Prop := ∃ b : Bool, e = .returned (.bool b) ∧ (b = true ↔ c) ∧ Below w.heap.size w w'
theorem noMatch_any (dec : Int) (an : Option Addr) (nn cn : Nat) (al : Option Addr) (nl cl : Nat) (av : Option Addr) (nv cv : Nat) (w : World) :
    Calls Try.prog 50 #[.agg #[.int .i64 dec, .slice an nn cn, .slice al nl cl, .slice av nv cv]] w (BPost (dec = 0 ∧ nn = 0 ∧ nl = 0 ∧ nv = 0) w) := by
  go_enter Try.func50, Try.ntmps50
  go_wp2
  all_goals go_ret
  all_goals (refine ⟨_, rfl, ?_, (Below.refl _ _).alloc (Nat.le_refl _) _⟩; simp_all)
def condA (m : M) (bN bH bS bQ bI : Bool) : Prop := (bN = false ∧ m.num ≠ 0) ∨ (bH = false ∧ m.handle ≠ 0) ∨ (bS = false ∧ m.schema.toList ≠ []) ∨ (bQ = false ∧ m.query.toList ≠ []) ∨ (bI = false ∧ 0 < m.image.length)
def evZ (m : M) : Prop := m.ts = 0 ∧ m.id = 0 ∧ m.typ = 0 ∧ m.a0 = 0 ∧ m.a1 = 0 ∧ m.a2 = 0 ∧ m.a3 = 0 ∧ m.a4 = 0 ∧ m.a5 = 0 ∧ m.a6 = 0 ∧ m.a7 = 0
def szZ (m : M) : Prop := m.mark = 0 ∧ m.closed = false ∧ m.held = 0 ∧ m.kept = 0 ∧ m.waiting = 0 ∧ m.parts = 0
def ftZ (m : M) : Prop := m.fwhere = 0 ∧ m.fcode = 0 ∧ m.fat = 0
def condB (m : M) (bE bC bF bZ : Bool) : Prop := (bE = false ∧ ¬ evZ m) ∨ (bC = false ∧ m.code ≠ 0) ∨ (bF = false ∧ ¬ ftZ m) ∨ (bZ = false ∧ ¬ szZ m)
/-- The reference's words. -/
def properR (m : M) : Prop :=
  namedL m.kind ≠ [] ∧ 0 ≤ m.handle ∧ ¬ condA m (hasB m.kind 78) (hasB m.kind 72) (hasB m.kind 83) (hasB m.kind 81) (hasB m.kind 73) ∧ ¬ condB m (hasB m.kind 69) (hasB m.kind 67) (hasB m.kind 70) (hasB m.kind 90) ∧ (hasB m.kind 77 = true ∨ noMP m) ∧ cleanV m.vals
def RPrPost (m : M) (w : World) (e : Ending) (w' : World) : Prop := ∃ b : Bool, e = .returned (.bool b) ∧ (b = true ↔ properR m) ∧ Below w.heap.size w w'
theorem of_htrue {c : Prop} (h : (true = true ↔ c)) : c := h.1 rfl
set_option maxHeartbeats 8000000 in
set_option maxRecDepth 20000 in
theorem rproper_any (m : M) (p : Ps) (w : World) (hr : MRd w m p) (hmax : m.vals.length ≤ 1073741824) : Calls Try.prog 26 #[valM m p] w (RPrPost m w) := by
  obtain ⟨bN, hbN⟩ : ∃ b, b = hasB m.kind 78 := ⟨_, rfl⟩
  obtain ⟨bH, hbH⟩ : ∃ b, b = hasB m.kind 72 := ⟨_, rfl⟩
  obtain ⟨bS, hbS⟩ : ∃ b, b = hasB m.kind 83 := ⟨_, rfl⟩
  obtain ⟨bQ, hbQ⟩ : ∃ b, b = hasB m.kind 81 := ⟨_, rfl⟩
  obtain ⟨bI, hbI⟩ : ∃ b, b = hasB m.kind 73 := ⟨_, rfl⟩
  obtain ⟨bE, hbE⟩ : ∃ b, b = hasB m.kind 69 := ⟨_, rfl⟩
  obtain ⟨bC, hbC⟩ : ∃ b, b = hasB m.kind 67 := ⟨_, rfl⟩
  obtain ⟨bF, hbF⟩ : ∃ b, b = hasB m.kind 70 := ⟨_, rfl⟩
  obtain ⟨bM, hbM⟩ : ∃ b, b = hasB m.kind 77 := ⟨_, rfl⟩
  obtain ⟨bZ, hbZ⟩ : ∃ b, b = hasB m.kind 90 := ⟨_, rfl⟩
  have hpr : properR m ↔ (namedL m.kind ≠ [] ∧ 0 ≤ m.handle ∧ ¬ condA m bN bH bS bQ bI ∧ ¬ condB m bE bC bF bZ ∧ (bM = true ∨ noMP m) ∧ cleanV m.vals) := by
    rw [hbN, hbH, hbS, hbQ, hbI, hbE, hbC, hbF, hbM, hbZ]
    exact Iff.rfl
  have HPR := Lib.hid hpr
  have HN := Lib.hid hbN
  have HH := Lib.hid hbH
  have HS := Lib.hid hbS
  have HQ := Lib.hid hbQ
  have HI := Lib.hid hbI
  have HE := Lib.hid hbE
  have HC := Lib.hid hbC
  have HF := Lib.hid hbF
  have HM := Lib.hid hbM
  have HZ := Lib.hid hbZ
  clear hpr hbN hbH hbS hbQ hbI hbE hbC hbF hbM hbZ
  obtain ⟨v0, hv0⟩ : ∃ v, v = Value.agg #[.int .i64 m.kind, .int .i64 m.handle, .int .i64 m.num, .int .i64 m.ts, .int .u64 m.id, .int .i64 m.typ, .int .i64 m.a0, .int .i64 m.a1, .int .i64 m.a2, .int .i64 m.a3, .int .i64 m.a4, .int .i64 m.a5, .int .i64 m.a6, .int .i64 m.a7, .int .i64 m.dec, .slice p.an m.names.length p.cn, .slice p.al m.lens.length p.cl, .slice p.av m.vals.length p.cv, .int .i64 m.mark, .bool m.closed, .int .i64 m.held, .int .i64 m.kept, .int .i64 m.waiting, .int .i64 m.parts, .int .i64 m.fwhere, .int .i64 m.fcode, .int .i64 m.fat, .int .i64 m.code, .string m.schema, .string m.query, .slice p.ai m.image.length p.ci] := ⟨_, rfl⟩
  unfold valM cellsM
  go_enter Try.func26, Try.ntmps26
  go_upto_region 1 with fail
  obtain ⟨w1, hw1⟩ : ∃ w1, w1 = w.alloc (.cells (cellsM m p).toArray 50) := ⟨_, rfl⟩
  have hb1 : Below w.heap.size w w1 := by rw [hw1]; exact (Below.refl _ _).alloc (Nat.le_refl _) _
  have hk1 : Blk w1 w.heap.size 50 (cellsM m p) := by rw [hw1]; exact Blk.new w _ 50
  have hv1 := hr.2.2.1.below hb1
  obtain ⟨g, hg⟩ : ∃ g, g = w.heap.size := ⟨_, rfl⟩
  rw [← hg] at hk1
  unfold cellsM at hw1
  rw [← hw1, ← hg, ← hv0]
  have HK := Lib.hid hk1
  have HAL := Lib.hid hb1
  have HV := Lib.hid hv1
  clear hw1 hg hk1 hb1 hv0 hv1 hr
  have hc0 : w1.cell? ⟨g, 0, none⟩ = some (.int .i64 m.kind) := HK.out.cell 0 (by rw [cellsM_len]; omega)
  have hc1 : w1.cell? ⟨g, 1, none⟩ = some (.int .i64 m.handle) := HK.out.cell 1 (by rw [cellsM_len]; omega)
  go_wp2_with fail
  refine (named_any m.kind _).mono ?_
  rintro e _ ⟨rfl, rfl⟩
  by_cases hnil : namedL m.kind = []
  · have HNIL := Lib.hid hnil
    rw [hnil]
    clear hnil
    unfold strB
    go_wp2_with fail
    go_ret
    exact ⟨false, ret_val rfl, ⟨fun h => (Bool.false_ne_true h).elim, fun h => (h.1 HNIL.out).elim⟩, HAL.out⟩
  · have HNIL := Lib.hid hnil
    obtain ⟨S, hS⟩ : ∃ S : ByteArray, S = ⟨(namedL m.kind).toArray⟩ := ⟨_, rfl⟩
    have hse : S.toList.isEmpty = false := by
      rw [hS, ByteArray.toList_eq]
      cases hx : namedL m.kind with
      | nil => exact (hnil hx).elim
      | cons a l => rfl
    unfold strB
    rw [← hS]
    clear hS hnil
    by_cases h0 : m.handle < 0
    · go_wp2_with fail
      go_ret
      exact ⟨false, ret_val rfl, ⟨fun h => (Bool.false_ne_true h).elim, fun h => by have := h.2.1; omega⟩, HAL.out⟩
    · have h0' : 0 ≤ m.handle := by omega
      have H0 := Lib.hid h0'
      go_upto_region 5 with (first | (go_at_call 49; with_reducible refine (has_x m.kind 78 78 bN _ rfl HN.out).mono ?_; rintro e w9 ⟨rfl, rfl⟩) | (go_at_call 49; with_reducible refine (has_x m.kind 72 72 bH _ rfl HH.out).mono ?_; rintro e w9 ⟨rfl, rfl⟩) | (go_at_call 49; with_reducible refine (has_x m.kind 83 83 bS _ rfl HS.out).mono ?_; rintro e w9 ⟨rfl, rfl⟩) | (go_at_call 49; with_reducible refine (has_x m.kind 81 81 bQ _ rfl HQ.out).mono ?_; rintro e w9 ⟨rfl, rfl⟩) | (go_at_call 49; with_reducible refine (has_x m.kind 73 73 bI _ rfl HI.out).mono ?_; rintro e w9 ⟨rfl, rfl⟩))
      clear h0 h0' hse hc0 hc1
      go_cut [4, 5, 6, 7, 8, 79] from 16 (fun s4 s5 s6 s7 s8 s79 wx => (s4 = .bool bN ∧ s5 = .bool bH ∧ s6 = .bool bS ∧ s7 = .bool bQ ∧ s8 = .bool bI) ∧ ∃ b : Bool, s79 = .bool b ∧ (b = true ↔ condA m bN bH bS bQ bI) ∧ wx = w1)
      case first =>
        as_aux_lemma =>
          have hc1 : w1.cell? ⟨g, 1, none⟩ = some (.int .i64 m.handle) := HK.out.cell 1 (by rw [cellsM_len]; omega)
          have hc2 : w1.cell? ⟨g, 2, none⟩ = some (.int .i64 m.num) := HK.out.cell 2 (by rw [cellsM_len]; omega)
          have hc28 : w1.cell? ⟨g, 28, none⟩ = some (.string m.schema) := HK.out.cell 28 (by rw [cellsM_len]; omega)
          have hc29 : w1.cell? ⟨g, 29, none⟩ = some (.string m.query) := HK.out.cell 29 (by rw [cellsM_len]; omega)
          have hc30 : w1.cell? ⟨g, 30, none⟩ = some (.slice p.ai m.image.length p.ci) := HK.out.cell 30 (by rw [cellsM_len]; omega)
          clear HPR HV HAL HK
          go_wp2_with fail
          all_goals (go_meet; case rel => exact ⟨by simp_all, _, rfl, by unfold condA; simp_all, rfl⟩)
      case rest =>
        obtain ⟨⟨rfl, rfl, rfl, rfl, rfl⟩, b1, rfl, hb1, rfl⟩ := hcut
        have HB1 := Lib.hid hb1
        clear hb1
        cases b1
        · go_upto_region 8 with (first | (go_at_call 49; with_reducible refine (has_x m.kind 69 69 bE _ rfl HE.out).mono ?_; rintro e w9 ⟨rfl, rfl⟩) | (go_at_call 49; with_reducible refine (has_x m.kind 67 67 bC _ rfl HC.out).mono ?_; rintro e w9 ⟨rfl, rfl⟩) | (go_at_call 49; with_reducible refine (has_x m.kind 70 70 bF _ rfl HF.out).mono ?_; rintro e w9 ⟨rfl, rfl⟩) | (go_at_call 49; with_reducible refine (has_x m.kind 77 77 bM _ rfl HM.out).mono ?_; rintro e w9 ⟨rfl, rfl⟩) | (go_at_call 49; with_reducible refine (has_x m.kind 90 90 bZ _ rfl HZ.out).mono ?_; rintro e w9 ⟨rfl, rfl⟩))
          go_cut [9, 10, 11, 12, 13, 126] from 16 (fun s9 s10 s11 s12 s13 s126 wx => (s9 = .bool bE ∧ s10 = .bool bC ∧ s11 = .bool bF ∧ s12 = .bool bM ∧ s13 = .bool bZ) ∧ ∃ b : Bool, s126 = .bool b ∧ (b = true ↔ condB m bE bC bF bZ) ∧ wx = wc)
          case first =>
            as_aux_lemma =>
              have hc3 : wc.cell? ⟨g, 3, none⟩ = some (.int .i64 m.ts) := HK.out.cell 3 (by rw [cellsM_len]; omega)
              have hc4 : wc.cell? ⟨g, 4, none⟩ = some (.int .u64 m.id) := HK.out.cell 4 (by rw [cellsM_len]; omega)
              have hc5 : wc.cell? ⟨g, 5, none⟩ = some (.int .i64 m.typ) := HK.out.cell 5 (by rw [cellsM_len]; omega)
              have hc6 : wc.cell? ⟨g, 6, none⟩ = some (.int .i64 m.a0) := HK.out.cell 6 (by rw [cellsM_len]; omega)
              have hc7 : wc.cell? ⟨g, 7, none⟩ = some (.int .i64 m.a1) := HK.out.cell 7 (by rw [cellsM_len]; omega)
              have hc8 : wc.cell? ⟨g, 8, none⟩ = some (.int .i64 m.a2) := HK.out.cell 8 (by rw [cellsM_len]; omega)
              have hc9 : wc.cell? ⟨g, 9, none⟩ = some (.int .i64 m.a3) := HK.out.cell 9 (by rw [cellsM_len]; omega)
              have hc10 : wc.cell? ⟨g, 10, none⟩ = some (.int .i64 m.a4) := HK.out.cell 10 (by rw [cellsM_len]; omega)
              have hc11 : wc.cell? ⟨g, 11, none⟩ = some (.int .i64 m.a5) := HK.out.cell 11 (by rw [cellsM_len]; omega)
              have hc12 : wc.cell? ⟨g, 12, none⟩ = some (.int .i64 m.a6) := HK.out.cell 12 (by rw [cellsM_len]; omega)
              have hc13 : wc.cell? ⟨g, 13, none⟩ = some (.int .i64 m.a7) := HK.out.cell 13 (by rw [cellsM_len]; omega)
              have hc27 : wc.cell? ⟨g, 27, none⟩ = some (.int .i64 m.code) := HK.out.cell 27 (by rw [cellsM_len]; omega)
              have hc24 : wc.cell? ⟨g, 24, none⟩ = some (.int .i64 m.fwhere) := HK.out.cell 24 (by rw [cellsM_len]; omega)
              have hc25 : wc.cell? ⟨g, 25, none⟩ = some (.int .i64 m.fcode) := HK.out.cell 25 (by rw [cellsM_len]; omega)
              have hc26 : wc.cell? ⟨g, 26, none⟩ = some (.int .i64 m.fat) := HK.out.cell 26 (by rw [cellsM_len]; omega)
              have hc18 : wc.cell? ⟨g, 18, none⟩ = some (.int .i64 m.mark) := HK.out.cell 18 (by rw [cellsM_len]; omega)
              have hc19 : wc.cell? ⟨g, 19, none⟩ = some (.bool m.closed) := HK.out.cell 19 (by rw [cellsM_len]; omega)
              have hc20 : wc.cell? ⟨g, 20, none⟩ = some (.int .i64 m.held) := HK.out.cell 20 (by rw [cellsM_len]; omega)
              have hc21 : wc.cell? ⟨g, 21, none⟩ = some (.int .i64 m.kept) := HK.out.cell 21 (by rw [cellsM_len]; omega)
              have hc22 : wc.cell? ⟨g, 22, none⟩ = some (.int .i64 m.waiting) := HK.out.cell 22 (by rw [cellsM_len]; omega)
              have hc23 : wc.cell? ⟨g, 23, none⟩ = some (.int .i64 m.parts) := HK.out.cell 23 (by rw [cellsM_len]; omega)
              obtain ⟨eE, hE1, hE2⟩ := ev_one m.ts m.id m.typ m.a0 m.a1 m.a2 m.a3 m.a4 m.a5 m.a6 m.a7
              obtain ⟨eF, hF1, hF2⟩ := ft_one m.fwhere m.fcode m.fat
              obtain ⟨eZ, hZ1, hZ2⟩ := sz_one m.mark m.closed m.held m.kept m.waiting m.parts
              have hiff : condB m bE bC bF bZ ↔ ((bE = false ∧ ¬ eE = true) ∨ (bC = false ∧ m.code ≠ 0) ∨ (bF = false ∧ ¬ eF = true) ∨ (bZ = false ∧ ¬ eZ = true)) := by
                unfold condB evZ ftZ szZ
                rw [hE2, hF2, hZ2]
              have HIFF := Lib.hid hiff
              clear HPR HV HAL HK HB1 HN HH HS HQ HI HE HC HF HM HZ hE2 hF2 hZ2 hiff H0
              go_wp2_with fail
              all_goals (clear hE1 hF1 hZ1; go_meet; case rel => exact ⟨by simp_all, _, rfl, by rw [HIFF.out]; simp_all, rfl⟩)
          case rest =>
            obtain ⟨⟨rfl, rfl, rfl, rfl, rfl⟩, b2, rfl, hb2, rfl⟩ := hcut
            have HB2 := Lib.hid hb2
            clear hb2
            cases b2
            · have hd14 : wc.cell? ⟨g, 14, none⟩ = some (.int .i64 m.dec) := HK.out.cell 14 (by rw [cellsM_len]; omega)
              have hd15 : wc.cell? ⟨g, 15, none⟩ = some (.slice p.an m.names.length p.cn) := HK.out.cell 15 (by rw [cellsM_len]; omega)
              have hd16 : wc.cell? ⟨g, 16, none⟩ = some (.slice p.al m.lens.length p.cl) := HK.out.cell 16 (by rw [cellsM_len]; omega)
              have hd17 : wc.cell? ⟨g, 17, none⟩ = some (.slice p.av m.vals.length p.cv) := HK.out.cell 17 (by rw [cellsM_len]; omega)
              have hnA : ¬ condA m bN bH bS bQ bI := fun h => by have := HB1.out.2 h; simp at this
              have hnB : ¬ condB m bE bC bF bZ := fun h => by have := HB2.out.2 h; simp at this
              have HNA := Lib.hid hnA
              have HNB := Lib.hid hnB
              clear hnA hnB
              go_wp2_with fail
              refine (noMatch_any m.dec p.an m.names.length p.cn p.al m.lens.length p.cl p.av m.vals.length p.cv wc).mono ?_
              rintro e w2 ⟨b3, rfl, hb3, hbel⟩
              have HB3 := Lib.hid hb3
              have hAL2 := HAL.out.trans (hbel.mono HAL.out.size)
              have hK2 := HK.out.below hbel
              have hV2 := HV.out.below hbel
              have HAL2 := Lib.hid hAL2
              have HK2 := Lib.hid hK2
              have HV2 := Lib.hid hV2
              clear hb3 hd14 hd15 hd16 hd17 hAL2 hK2 hV2
              by_cases hbad : bM = false ∧ b3 = false
              · obtain ⟨h1, h2⟩ := hbad
                have hM9 : ¬ (bM = true ∨ noMP m) := fun h => by
                  rcases h with h | h
                  · rw [h1] at h; cases h
                  · have := HB3.out.2 h; rw [h2] at this; cases this
                have HM9 := Lib.hid hM9
                subst h1
                subst h2
                clear hM9
                go_wp2_with fail
                go_ret
                exact ⟨false, ret_val rfl, ⟨fun h => (Bool.false_ne_true h).elim, fun h => (HM9.out (HPR.out.1 h).2.2.2.2.1).elim⟩, HAL2.out⟩
              · have hM9 : bM = true ∨ noMP m := by
                  cases bM with
                  | true => exact .inl rfl
                  | false =>
                    cases b3 with
                    | true => exact .inr (HB3.out.1 rfl)
                    | false => exact (hbad ⟨rfl, rfl⟩).elim
                have hOK : cleanV m.vals → properR m := fun h => HPR.out.2 ⟨HNIL.out, H0.out, HNA.out, HNB.out, hM9, h⟩
                have hOK2 : properR m → cleanV m.vals := fun h => (HPR.out.1 h).2.2.2.2.2
                have HOK := Lib.hid hOK
                have HOK2 := Lib.hid hOK2
                clear hOK hOK2 hM9
                obtain ⟨nv, hnv⟩ : ∃ nv, nv = m.vals.length := ⟨_, rfl⟩
                have hd17 : w2.cell? ⟨g, 17, none⟩ = some (.slice p.av nv p.cv) := by rw [hnv]; exact HK2.out.cell 17 (by rw [cellsM_len]; omega)
                rw [← hnv] at hmax
                have HNV := Lib.hid hnv
                clear hnv
                go_upto_region 11 with fail
                go_cut [12, 14, 135] from 16 (fun s12 s14 s135 wx => s135 = .bool false ∧ wx = w2)
                case first =>
                  cases bM <;> cases b3
                  · exact (hbad ⟨rfl, rfl⟩).elim
                  all_goals (clear hbad; go_wp2_with fail; go_meet; case rel => exact ⟨rfl, rfl⟩)
                case rest =>
                  obtain ⟨rfl, rfl⟩ := hcut
                  obtain ⟨W3, hW3⟩ : ∃ W3, W3 = wc := ⟨_, rfl⟩
                  rw [← hW3] at HK2 HAL2 HV2 ⊢
                  clear hW3
                  go_wp2_with fail
                  go_loopw [15] (fun i wr => ∃ k : Nat, k ≤ nv ∧ i = .int .i64 (k : Int) ∧ cleanV (m.vals.take k) ∧ Below W3.heap.size W3 wr) (fun i _ => nv - (intOf i).toNat)
                  case atStart => exact ⟨0, Nat.zero_le _, rfl, (fun v hv => by simp at hv), Below.refl _ _⟩
                  case round =>
                    obtain ⟨k, hk, rfl, hcl, hbr⟩ := hrel
                    have he17 : wr.cell? ⟨g, 17, none⟩ = some (.slice p.av nv p.cv) := by
                      have := (HK2.out.below hbr).cell 17 (by rw [cellsM_len]; omega)
                      rw [HNV.out]
                      exact this
                    by_cases hlt : k < nv
                    · have hkl : k < m.vals.length := by rw [← HNV.out]; exact hlt
                      obtain ⟨b, off, hav, hc1, hc2⟩ := (HV2.out.below hbr).vat k hkl
                      have hlt' : (k : Int) < nv := by omega
                      have hst : m.vals.take (k + 1) = m.vals.take k ++ [m.vals[k]] := by rw [List.take_succ_eq_append_getElem hkl]
                      obtain ⟨⟨kn, x⟩, hx⟩ : ∃ v, v = m.vals[k] := ⟨_, rfl⟩
                      rw [← hx] at hc1 hc2 hst
                      dsimp only at hc1 hc2
                      have HST := Lib.hid hst
                      have HX := Lib.hid hx
                      have HCL := Lib.hid hcl
                      have hclean : (kn = false → x = 0) → cleanV (m.vals.take (k + 1)) := fun h v hv => by
                        rw [HST.out] at hv
                        rcases List.mem_append.1 hv with hv | hv
                        · exact HCL.out v hv
                        · simp at hv; subst hv; exact h
                      have HCC := Lib.hid hclean
                      have HMM := Lib.hid (meas_lt hlt)
                      clear hst hx hcl hclean
                      rw [hav] at he17
                      have HBR := Lib.hid hbr
                      clear hbr hav
                      cases kn
                      · by_cases hx0 : x = 0
                        · subst hx0
                          go_wp2
                          go_roundw
                          case rel => exact ⟨k + 1, by omega, by go_num, HCC.out (fun _ => rfl), HBR.out⟩
                          case measure => exact HMM.out
                        · have hxx : (x != 0) = true := by simp [hx0]
                          have HX0 := Lib.hid hx0
                          have hbz := HAL2.out.trans (HBR.out.mono HAL2.out.size)
                          clear hx0
                          go_wp2
                          go_ret
                          exact ⟨false, ret_val rfl, ⟨fun h => (Bool.false_ne_true h).elim, fun h => (HX0.out (HOK2.out h (false, x) (by rw [HX.out]; exact List.getElem_mem hkl) rfl)).elim⟩, hbz⟩
                      · go_wp2
                        go_roundw
                        case rel => exact ⟨k + 1, by omega, by go_num, HCC.out (fun h => by cases h), HBR.out⟩
                        case measure => exact HMM.out
                    · have hke : k = nv := by omega
                      have hlt' : ¬ (k : Int) < nv := by omega
                      have hclA : cleanV m.vals := by
                        have e : m.vals.take k = m.vals := List.take_of_length_le (by rw [← HNV.out]; omega)
                        rw [e] at hcl
                        exact hcl
                      have hpp := HOK.out hclA
                      have HPP := Lib.hid hpp
                      have hbz := HAL2.out.trans (hbr.mono HAL2.out.size)
                      clear hcl hclA hke hk hlt hpp
                      go_wp2
                      go_ret
                      exact ⟨true, ret_val rfl, ⟨fun _ => HPP.out, fun _ => rfl⟩, hbz⟩
            · go_wp2_with fail
              go_ret
              exact ⟨false, ret_val rfl, ⟨fun h => (Bool.false_ne_true h).elim, fun h => ((HPR.out.1 h).2.2.2.1 (HB2.out.1 trivial)).elim⟩, HAL.out⟩
        · go_wp2_with fail
          go_ret
          exact ⟨false, ret_val rfl, ⟨fun h => (Bool.false_ne_true h).elim, fun h => ((HPR.out.1 h).2.2.1 (HB1.out.1 trivial)).elim⟩, HAL.out⟩
end Go.Proofs.Ytaipnbpefdcejaa
/- Plain law: what the two words of properness say is the same. No program in sight. -/
set_option linter.unusedVariables false
namespace Go.Proofs.Ytaipnbpefdcejaa
open Go.RowKit
theorem ordL_none {k : Int} (h : namedL k = []) : ordL k = [] := by
  unfold namedL at h
  unfold ordL
  repeat' split
  all_goals first | rfl | simp_all
theorem empty_toList : ByteArray.empty.toList = [] := by
  rw [ByteArray.toList_eq]; rfl
theorem len0 {α : Type} (l : List α) : ¬ 0 < l.length ↔ l.length = 0 := by omega
set_option maxHeartbeats 2000000 in
theorem proper_iff (m : M) : properR m ↔ properM m := by
  unfold properR properM
  generalize cleanV m.vals = P
  by_cases hk : m.kind = 1 ∨ m.kind = 2 ∨ m.kind = 3 ∨ m.kind = 4 ∨ m.kind = 5 ∨ m.kind = 6 ∨ m.kind = 7 ∨ m.kind = 8 ∨ m.kind = 9 ∨ m.kind = 16 ∨ m.kind = 17 ∨ m.kind = 18 ∨ m.kind = 19 ∨ m.kind = 20 ∨ m.kind = 21
  · unfold hasB
    rcases hk with hk | hk | hk | hk | hk | hk | hk | hk | hk | hk | hk | hk | hk | hk | hk
    all_goals
      rw [hk]
      simp (decide := true) only [ordL, condA, condB, eraseM, blankM, blankP, evZ, szZ, ftZ, noMP, empty_toList, List.foldl, len0, not_or, not_and, Decidable.not_not, if_true, if_false, ne_eq, true_and, and_true, false_implies, true_or, false_or, List.length_nil]
      try (constructor <;> (intro h; simp_all; try omega))
  · have h1 := namedL_none hk
    have h2 := ordL_none h1
    rw [h1, h2]
    simp
end Go.Proofs.Ytaipnbpefdcejaa
