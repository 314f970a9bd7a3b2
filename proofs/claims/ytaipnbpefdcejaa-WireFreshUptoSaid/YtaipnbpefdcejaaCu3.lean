/- The reference's Cursor: field 52 (printed by gen_cu3.py). -/
import Derived.Test.YtaipnbpefdcejaaCu2
import Derived.Test.YtaipnbpefdcejaaMK
set_option linter.unusedVariables false
namespace Go.Proofs.Ytaipnbpefdcejaa
open Go.RowKit
theorem own_not_blk {w : World} {base e size n g : Nat} {t : TypeId} {u : Value} {xs cs : List Value} (h : w.ownsRow base e size u n xs) (hk : Blk w g t cs) (hne : e ≠ t) : u.ownBlock = none ∨ u.ownBlock ≠ some g := by
  rcases h.2 with ⟨rfl, _⟩ | ⟨b, cap, cur, rfl, _, h1, _⟩
  · exact .inl rfl
  · refine .inr fun he => ?_
    simp only [Value.ownBlock, Option.some.injEq] at he
    subst he
    have h2 := hk
    unfold Blk at h2
    rw [h1] at h2
    simp only [Option.some.injEq, Obj.cells.injEq] at h2
    exact hne h2.2.1
theorem OwnM.off {base g : Nat} {w w' : World} {m : M} {q : Ps} {cs : List Value} (h : OwnM base w m q) (hk : Blk w g 50 cs) (hg : w.grownBy w' (some g)) : OwnM base w' m q :=
  ⟨h.1.kept hg (own_not_blk h.1 hk (by decide)), h.2.1.kept hg (own_not_blk h.2.1 hk (by decide)), h.2.2.1.kept hg (own_not_blk h.2.2.1 hk (by decide)), h.2.2.2.kept hg (own_not_blk h.2.2.2 hk (by decide))⟩
theorem OwnM.cur {base g : Nat} {w w' : World} {m : M} {q : Ps} (h : OwnM base w m q) (hg : w.grownBy w' (some g)) (hlt : g < base) : OwnM base w' m q :=
  h.two (Gr2.ofg g hg) hlt hlt
theorem grown_mix {w w1 w2 : World} {g gm : Nat} (h : w.grownBy w1 (some g)) (h2 : w1.grownBy w2 (some gm)) (hgm : w.heap.size ≤ gm) : w.grownBy w2 (some g) :=
  ⟨h2.os.trans h.os, h2.tape.trans h.tape, h2.output.trans h.output, Nat.le_trans h.size h2.size, fun k hk hne => (h2.block k (Nat.lt_of_lt_of_le hk h.size) (by intro e; cases e; omega)).trans (h.block k hk hne)⟩
theorem CS.other {w0 : World} {g gm : Nat} {body : List UInt8} {ab : Option Addr} {nb cb at_ : Nat} {w w' : World} (h : CS w0 g body ab nb cb at_ w) (hg : w.grownBy w' (some gm)) (hne : g ≠ gm) (h0 : w0.heap.size ≤ gm) : CS w0 g body ab nb cb at_ w' :=
  ⟨blk_g hne h.1 hg, h.2.1, h.2.2.grown hg h.2.2.size (fun k hk => by cases hk; exact h0)⟩
/-- What a field's reading answers. -/
def CuField (s : String) (w0 : World) (g base : Nat) (body : List UInt8) (ab : Option Addr) (nb cb at_ : Nat) (m : M) (w : World) (en : Ending) (w' : World) : Prop :=
  ∃ (m' : M) (q' : Ps) (a2 : Nat), en = .returned (valM m' q') ∧ WfM m' ∧ CS w0 g body ab nb cb a2 w' ∧ w.grownBy w' (some g) ∧ OwnM base w' m' q' ∧ (∀ x r, VX x → body.drop at_ = encF s x ++ r → m' = setF s m x ∧ body.drop a2 = r)
structure FK (w0 : World) (g gm base : Nat) (body : List UInt8) (ab : Option Addr) (nb cb : Nat) (w : World) : Prop where
  rc : RC w0 g body ab nb cb
  lt : g < base
  le : base ≤ w.heap.size
  gm : gm = w.heap.size
  nb : nb ≤ 1073741824
structure FZ (w0 : World) (g gm base : Nat) (body : List UInt8) (ab : Option Addr) (nb cb : Nat) (w : World) (at_ : Nat) (m : M) (q : Ps) (W : World) : Prop where
  cs : CS w0 g body ab nb cb at_ W
  blk : Blk W gm 50 (cellsM m q)
  res : Blk W (gm + 1) 50 cellsZ
  own : OwnM base W m q
  grown : w.grownBy W (some g)
section
variable {w0 : World} {g gm base : Nat} {body : List UInt8} {ab : Option Addr} {nb cb : Nat} {w : World} {at_ : Nat} {m : M} {q : Ps} {W : World}
theorem FK.ne (hk : FK w0 g gm base body ab nb cb w) : gm ≠ g ∧ gm + 1 ≠ g ∧ w0.heap.size ≤ gm := by
  have h1 := hk.lt
  have h2 := hk.le
  have h3 := hk.gm
  have h4 := hk.rc.base
  omega
theorem FZ.step {a2 : Nat} {W1 : World} (h : FZ w0 g gm base body ab nb cb w at_ m q W) (hk : FK w0 g gm base body ab nb cb w) (hcs : CS w0 g body ab nb cb a2 W1) (hg : W.grownBy W1 (some g)) : FZ w0 g gm base body ab nb cb w a2 m q W1 :=
  ⟨hcs, blk_g hk.ne.1 h.blk hg, blk_g hk.ne.2.1 h.res hg, h.own.cur hg hk.lt, grown_trans2 h.grown hg⟩
theorem FZ.set (h : FZ w0 g gm base body ab nb cb w at_ m q W) (hk : FK w0 g gm base body ab nb cb w) (i : Nat) (v : Value) (m' : M) (q' : Ps) (hc : (cellsM m q).set i v = cellsM m' q') (ho : OwnM base W m' q') : FZ w0 g gm base body ab nb cb w at_ m' q' (W.setCell ⟨gm, i, none⟩ v) := by
  have h1 := h.blk.setCell i v
  rw [hc] at h1
  have hn := hk.ne
  exact ⟨h.cs.other h1.2 (fun e => hn.1 e.symm) hn.2.2, h1.1, blk_g (by omega) h.res h1.2, ho.off h.blk h1.2, grown_mix h.grown h1.2 (by rw [hk.gm]; exact Nat.le_refl _)⟩
theorem FZ.cell (h : FZ w0 g gm base body ab nb cb w at_ m q W) (i : Nat) (hi : i < 31) : W.cell? ⟨gm, i, none⟩ = some ((cellsM m q)[i]'(by rw [cellsM_len]; exact hi)) ∧ W.frozen? ⟨gm, i, none⟩ = false := ⟨h.blk.cell i (by rw [cellsM_len]; exact hi), h.blk.frozen i⟩
theorem FZ.sets (h : FZ w0 g gm base body ab nb cb w at_ m q W) (hk : FK w0 g gm base body ab nb cb w) (o : Nat) (vs : List Value) (m' : M) (q' : Ps) (hl : o + vs.length ≤ 31) (hc : spl (cellsM m q) o vs = cellsM m' q') (ho : OwnM base W m' q') : FZ w0 g gm base body ab nb cb w at_ m' q' (W.setCells gm o vs) := by
  have h1 := h.blk.setCells vs o _ _ (by rw [cellsM_len]; exact hl)
  rw [hc] at h1
  have hn := hk.ne
  exact ⟨h.cs.other h1.2 (fun e => hn.1 e.symm) hn.2.2, h1.1, blk_g (by omega) h.res h1.2, ho.off h.blk h1.2, grown_mix h.grown h1.2 (by rw [hk.gm]; exact Nat.le_refl _)⟩
theorem cf_end {s : String} {at0 : Nat} {m0 : M} {G : Nat} (h : FZ w0 g gm base body ab nb cb w at_ m q W) (hk : FK w0 g gm base body ab nb cb w) (hG : G = gm + 1) (hwf : WfM m) (hgot : ∀ x r, VX x → body.drop at0 = encF s x ++ r → m = setF s m0 x ∧ body.drop at_ = r)
    (a : Act) (h2 : a.tmps.getD 6 undef = .pointer (some ⟨G, 0, none⟩)) (hd : a.defers = []) : bodyPost Try.prog Try.f52 (CuField s w0 g base body ab nb cb at0 m0 w) Exit.ret a (W.setCells G 0 (cellsM m q)) := by
  subst hG
  obtain ⟨h5, h6⟩ := put_all (cs := cellsM m q) h.res rfl
  have hn := hk.ne
  refine bodyPost_ret (results_cell rfl a.tmps _ _ (gm + 1) 0 (.agg (cellsM m q).toArray) h2 (run_loadVar_mid _ (gm + 1) 0 50 (cellsM m q) _ h5.whole Try.underlying50 rfl (by kernel_rfl))) hd ?_
  exact ⟨m, q, at_, rfl, hwf, h.cs.other h6 (fun e => hn.2.1 e.symm) (by omega), grown_mix h.grown h6 (by have := hk.gm; omega), h.own.off h.res h6, hgot⟩
end
def mA (m : M) (l : List Int) : M := { m with a0 := l.getD 0 m.a0, a1 := l.getD 1 m.a1, a2 := l.getD 2 m.a2, a3 := l.getD 3 m.a3, a4 := l.getD 4 m.a4, a5 := l.getD 5 m.a5, a6 := l.getD 6 m.a6, a7 := l.getD 7 m.a7 }
theorem mA_nil (m : M) : mA m [] = m := rfl
theorem mA_set (m : M) (q : Ps) (l : List Int) (v : Int) (j : Nat) (hl : l.length = j) (hj : j < 8) : (cellsM (mA m l) q).set (6 + j) (.int .i64 v) = cellsM (mA m (l ++ [v])) q := by
  subst hl
  rcases l with _ | ⟨x0, _ | ⟨x1, _ | ⟨x2, _ | ⟨x3, _ | ⟨x4, _ | ⟨x5, _ | ⟨x6, _ | ⟨x7, l⟩⟩⟩⟩⟩⟩⟩⟩
  all_goals first | rfl | (exfalso; simp only [List.length_cons] at hj; omega)
theorem getD_I64 {l : List Int} {d : Int} (h : ∀ v ∈ l, I64 v) (hd : I64 d) (i : Nat) : I64 (l.getD i d) := by
  by_cases hi : i < l.length
  · rw [List.getD_eq_getElem?_getD, List.getElem?_eq_getElem hi]; exact h _ (List.getElem_mem hi)
  · rw [List.getD_eq_getElem?_getD, List.getElem?_eq_none (by omega)]; exact hd
theorem mA_wf {m : M} {l : List Int} (h : WfM m) (hl : ∀ v ∈ l, I64 v) : WfM (mA m l) :=
  { h with a0 := getD_I64 hl h.a0 0, a1 := getD_I64 hl h.a1 1, a2 := getD_I64 hl h.a2 2, a3 := getD_I64 hl h.a3 3, a4 := getD_I64 hl h.a4 4, a5 := getD_I64 hl h.a5 5, a6 := getD_I64 hl h.a6 6, a7 := getD_I64 hl h.a7 7 }
theorem ba_size (l : List UInt8) : (⟨l.toArray⟩ : ByteArray).size = l.length := rfl
set_option maxHeartbeats 2000000 in
set_option maxRecDepth 20000 in
theorem cf_number {w0 : World} {g base : Nat} {body : List UInt8} {ab : Option Addr} {nb cb at_ : Nat} {m : M} {q : Ps} {w : World} (hc : RC w0 g body ab nb cb) (h : CS w0 g body ab nb cb at_ w) (hlt : g < base) (hle : base ≤ w.heap.size) (hnb : nb ≤ 1073741824) (hwf : WfM m) (ho : OwnM base w m q) :
    Calls Try.prog 52 #[.pointer (some ⟨g, 0, none⟩), valM m q, .int .u8 78] w (CuField "sluice/wire.number" w0 g base body ab nb cb at_ m w) := by
  obtain ⟨v0, hv0⟩ : ∃ v, v = valM m q := ⟨_, rfl⟩
  obtain ⟨wa, hwa⟩ : ∃ wa, wa = (w.alloc (.cells (cellsM m q).toArray 50)).alloc (.cells cellsZ.toArray 50) := ⟨_, rfl⟩
  have hba : Below w.heap.size w wa := by rw [hwa]; exact ((Below.refl _ _).alloc (Nat.le_refl _) _).alloc (by simp) _
  have hka : Blk wa w.heap.size 50 (cellsM m q) := by rw [hwa]; exact (Blk.new w _ 50).alloc _
  have hra : Blk wa (w.heap.size + 1) 50 cellsZ := by
    have := Blk.new (w.alloc (.cells (cellsM m q).toArray 50)) cellsZ 50
    rw [World.size_alloc] at this
    rw [hwa]
    exact this
  unfold cellsM cellsZ at hwa
  unfold valM cellsM at hv0
  unfold valM cellsM
  go_enter Try.func52, Try.ntmps52
  go_upto_region 1 with fail
  rw [← hwa, ← hv0]
  obtain ⟨gm, hgm⟩ : ∃ x, x = w.heap.size := ⟨_, rfl⟩
  rw [← hgm] at hka hra ⊢
  have HK : Hid (FK w0 g gm base body ab nb cb w) := Lib.hid ⟨hc, hlt, hle, hgm, hnb⟩
  have HZ0 : Hid (FZ w0 g gm base body ab nb cb w at_ m q wa) := Lib.hid ⟨h.below hba, hka, hra, ho.below hba, grown_below hba⟩
  have HWF := Lib.hid hwf
  clear hwa hv0 hba hka hra hgm hc h hlt hle hnb hwf ho
  go_wp2_with fail
  refine (cu_int HK.out.rc HZ0.out.cs).mono ?_
  rintro e w1 ⟨v1, a1, rfl, hv1, hcs, hg, hgot⟩
  have HZ1 := Lib.hid (HZ0.out.step HK.out hcs hg)
  have HV1 := Lib.hid hv1
  have HG1 := Lib.hid hgot
  clear hv1 hcs hg hgot
  obtain ⟨c2, f2⟩ := HZ1.out.cell 2 (by omega)
  have hset := HZ1.out.set HK.out 2 (.int .i64 v1) ({ m with num := v1 } : M) q rfl HZ1.out.own
  obtain ⟨w2, hw2⟩ : ∃ x, x = w1.setCell ⟨gm, 2, none⟩ (.int .i64 v1) := ⟨_, rfl⟩
  rw [← hw2] at hset
  have HZ2 := Lib.hid hset
  have HWW := Lib.hid hw2
  clear hset hw2
  go_upto_region 45 with fail
  rw [← HWW.out]
  clear HWW c2 f2
  have HWF2 : Hid (WfM ({ m with num := v1 } : M)) := Lib.hid ({ HWF.out with num := HV1.out })
  have HGOT : Hid (∀ x r, VX x → body.drop at_ = encF "sluice/wire.number" x ++ r → ({ m with num := v1 } : M) = setF "sluice/wire.number" m x ∧ body.drop a1 = r) := Lib.hid (fun x r hx h9 => by
    obtain ⟨h1, h2⟩ := HG1.out x.num r hx.1.num h9
    exact ⟨by rw [h1]; rfl, h2⟩)
  have hrg : w2.rangeAt gm 0 (cellsM ({ m with num := v1 } : M) q) := HZ2.out.blk.whole
  have hth : w2.there (gm + 1) 0 31 := HZ2.out.res.there 0 31 (by decide)
  go_wp2_with (first | ((with_reducible refine at_dst 131 ?_); refine wpList_load_midg rfl _ _ rfl _ _ rfl _ _ hrg Try.underlying50 rfl (by kernel_rfl) ?_) | ((with_reducible refine at_store ?_); refine wpList_store_mid rfl 50 _ _ rfl (gm + 1) 0 (cellsM ({ m with num := v1 } : M) q).toArray rfl rfl hth (by kernel_rfl) (by kernel_rfl) ?_) | fail)
  refine cf_end HZ2.out HK.out rfl HWF2.out HGOT.out _ ?_ ?_
  all_goals rfl
set_option maxHeartbeats 2000000 in
set_option maxRecDepth 20000 in
theorem cf_code {w0 : World} {g base : Nat} {body : List UInt8} {ab : Option Addr} {nb cb at_ : Nat} {m : M} {q : Ps} {w : World} (hc : RC w0 g body ab nb cb) (h : CS w0 g body ab nb cb at_ w) (hlt : g < base) (hle : base ≤ w.heap.size) (hnb : nb ≤ 1073741824) (hwf : WfM m) (ho : OwnM base w m q) :
    Calls Try.prog 52 #[.pointer (some ⟨g, 0, none⟩), valM m q, .int .u8 67] w (CuField "sluice/wire.code" w0 g base body ab nb cb at_ m w) := by
  obtain ⟨v0, hv0⟩ : ∃ v, v = valM m q := ⟨_, rfl⟩
  obtain ⟨wa, hwa⟩ : ∃ wa, wa = (w.alloc (.cells (cellsM m q).toArray 50)).alloc (.cells cellsZ.toArray 50) := ⟨_, rfl⟩
  have hba : Below w.heap.size w wa := by rw [hwa]; exact ((Below.refl _ _).alloc (Nat.le_refl _) _).alloc (by simp) _
  have hka : Blk wa w.heap.size 50 (cellsM m q) := by rw [hwa]; exact (Blk.new w _ 50).alloc _
  have hra : Blk wa (w.heap.size + 1) 50 cellsZ := by
    have := Blk.new (w.alloc (.cells (cellsM m q).toArray 50)) cellsZ 50
    rw [World.size_alloc] at this
    rw [hwa]
    exact this
  unfold cellsM cellsZ at hwa
  unfold valM cellsM at hv0
  unfold valM cellsM
  go_enter Try.func52, Try.ntmps52
  go_upto_region 1 with fail
  rw [← hwa, ← hv0]
  obtain ⟨gm, hgm⟩ : ∃ x, x = w.heap.size := ⟨_, rfl⟩
  rw [← hgm] at hka hra ⊢
  have HK : Hid (FK w0 g gm base body ab nb cb w) := Lib.hid ⟨hc, hlt, hle, hgm, hnb⟩
  have HZ0 : Hid (FZ w0 g gm base body ab nb cb w at_ m q wa) := Lib.hid ⟨h.below hba, hka, hra, ho.below hba, grown_below hba⟩
  have HWF := Lib.hid hwf
  clear hwa hv0 hba hka hra hgm hc h hlt hle hnb hwf ho
  go_wp2_with fail
  refine (cu_int HK.out.rc HZ0.out.cs).mono ?_
  rintro e w1 ⟨v1, a1, rfl, hv1, hcs, hg, hgot⟩
  have HZ1 := Lib.hid (HZ0.out.step HK.out hcs hg)
  have HV1 := Lib.hid hv1
  have HG1 := Lib.hid hgot
  clear hv1 hcs hg hgot
  obtain ⟨c27, f27⟩ := HZ1.out.cell 27 (by omega)
  have hset := HZ1.out.set HK.out 27 (.int .i64 v1) ({ m with code := v1 } : M) q rfl HZ1.out.own
  obtain ⟨w2, hw2⟩ : ∃ x, x = w1.setCell ⟨gm, 27, none⟩ (.int .i64 v1) := ⟨_, rfl⟩
  rw [← hw2] at hset
  have HZ2 := Lib.hid hset
  have HWW := Lib.hid hw2
  clear hset hw2
  go_upto_region 45 with fail
  rw [← HWW.out]
  clear HWW c27 f27
  have HWF2 : Hid (WfM ({ m with code := v1 } : M)) := Lib.hid ({ HWF.out with code := HV1.out })
  have HGOT : Hid (∀ x r, VX x → body.drop at_ = encF "sluice/wire.code" x ++ r → ({ m with code := v1 } : M) = setF "sluice/wire.code" m x ∧ body.drop a1 = r) := Lib.hid (fun x r hx h9 => by
    obtain ⟨h1, h2⟩ := HG1.out x.code r hx.1.code h9
    exact ⟨by rw [h1]; rfl, h2⟩)
  have hrg : w2.rangeAt gm 0 (cellsM ({ m with code := v1 } : M) q) := HZ2.out.blk.whole
  have hth : w2.there (gm + 1) 0 31 := HZ2.out.res.there 0 31 (by decide)
  go_wp2_with (first | ((with_reducible refine at_dst 131 ?_); refine wpList_load_midg rfl _ _ rfl _ _ rfl _ _ hrg Try.underlying50 rfl (by kernel_rfl) ?_) | ((with_reducible refine at_store ?_); refine wpList_store_mid rfl 50 _ _ rfl (gm + 1) 0 (cellsM ({ m with code := v1 } : M) q).toArray rfl rfl hth (by kernel_rfl) (by kernel_rfl) ?_) | fail)
  refine cf_end HZ2.out HK.out rfl HWF2.out HGOT.out _ ?_ ?_
  all_goals rfl
set_option maxHeartbeats 2000000 in
set_option maxRecDepth 20000 in
theorem cf_handle {w0 : World} {g base : Nat} {body : List UInt8} {ab : Option Addr} {nb cb at_ : Nat} {m : M} {q : Ps} {w : World} (hc : RC w0 g body ab nb cb) (h : CS w0 g body ab nb cb at_ w) (hlt : g < base) (hle : base ≤ w.heap.size) (hnb : nb ≤ 1073741824) (hwf : WfM m) (ho : OwnM base w m q) :
    Calls Try.prog 52 #[.pointer (some ⟨g, 0, none⟩), valM m q, .int .u8 72] w (CuField "sluice/wire.handle" w0 g base body ab nb cb at_ m w) := by
  obtain ⟨v0, hv0⟩ : ∃ v, v = valM m q := ⟨_, rfl⟩
  obtain ⟨wa, hwa⟩ : ∃ wa, wa = (w.alloc (.cells (cellsM m q).toArray 50)).alloc (.cells cellsZ.toArray 50) := ⟨_, rfl⟩
  have hba : Below w.heap.size w wa := by rw [hwa]; exact ((Below.refl _ _).alloc (Nat.le_refl _) _).alloc (by simp) _
  have hka : Blk wa w.heap.size 50 (cellsM m q) := by rw [hwa]; exact (Blk.new w _ 50).alloc _
  have hra : Blk wa (w.heap.size + 1) 50 cellsZ := by
    have := Blk.new (w.alloc (.cells (cellsM m q).toArray 50)) cellsZ 50
    rw [World.size_alloc] at this
    rw [hwa]
    exact this
  unfold cellsM cellsZ at hwa
  unfold valM cellsM at hv0
  unfold valM cellsM
  go_enter Try.func52, Try.ntmps52
  go_upto_region 1 with fail
  rw [← hwa, ← hv0]
  obtain ⟨gm, hgm⟩ : ∃ x, x = w.heap.size := ⟨_, rfl⟩
  rw [← hgm] at hka hra ⊢
  have HK : Hid (FK w0 g gm base body ab nb cb w) := Lib.hid ⟨hc, hlt, hle, hgm, hnb⟩
  have HZ0 : Hid (FZ w0 g gm base body ab nb cb w at_ m q wa) := Lib.hid ⟨h.below hba, hka, hra, ho.below hba, grown_below hba⟩
  have HWF := Lib.hid hwf
  clear hwa hv0 hba hka hra hgm hc h hlt hle hnb hwf ho
  go_wp2_with fail
  refine (cu_uint HK.out.rc HZ0.out.cs).mono ?_
  rintro e w1 ⟨v1, a1, rfl, hv1, hcs, hg, hgot⟩
  have HZ1 := Lib.hid (HZ0.out.step HK.out hcs hg)
  have HV1 := Lib.hid hv1
  have HG1 := Lib.hid hgot
  clear hv1 hcs hg hgot
  obtain ⟨z, hz⟩ : ∃ z, wrap64 (v1 : Int) = z := ⟨_, rfl⟩
  have hzI : I64 z := by unfold I64; rw [← hz]; unfold wrap64; omega
  have HZV := Lib.hid hz
  obtain ⟨c1, f1⟩ := HZ1.out.cell 1 (by omega)
  have hset := HZ1.out.set HK.out 1 (.int .i64 z) ({ m with handle := z } : M) q rfl HZ1.out.own
  obtain ⟨w2, hw2⟩ : ∃ x, x = w1.setCell ⟨gm, 1, none⟩ (.int .i64 z) := ⟨_, rfl⟩
  rw [← hw2] at hset
  have HZ2 := Lib.hid hset
  have HWW := Lib.hid hw2
  clear hset hw2
  go_upto_region 45 with fail
  clear hz
  rw [← HWW.out]
  clear HWW c1 f1
  have HWF2 : Hid (WfM ({ m with handle := z } : M)) := Lib.hid ({ HWF.out with handle := hzI })
  have HGOT : Hid (∀ x r, VX x → body.drop at_ = encF "sluice/wire.handle" x ++ r → ({ m with handle := z } : M) = setF "sluice/wire.handle" m x ∧ body.drop a1 = r) := Lib.hid (fun x r hx h9 => by
    have hh := hx.1.handle
    have hh0 := hx.2.1
    unfold I64 at hh
    obtain ⟨h1, h2⟩ := HG1.out x.handle.toNat r (by omega) h9
    refine ⟨?_, h2⟩
    have h3 : z = x.handle := by rw [← HZV.out, h1]; unfold wrap64; omega
    rw [h3]
    first | done | rfl)
  have hrg : w2.rangeAt gm 0 (cellsM ({ m with handle := z } : M) q) := HZ2.out.blk.whole
  have hth : w2.there (gm + 1) 0 31 := HZ2.out.res.there 0 31 (by decide)
  go_wp2_with (first | ((with_reducible refine at_dst 131 ?_); refine wpList_load_midg rfl _ _ rfl _ _ rfl _ _ hrg Try.underlying50 rfl (by kernel_rfl) ?_) | ((with_reducible refine at_store ?_); refine wpList_store_mid rfl 50 _ _ rfl (gm + 1) 0 (cellsM ({ m with handle := z } : M) q).toArray rfl rfl hth (by kernel_rfl) (by kernel_rfl) ?_) | fail)
  refine cf_end HZ2.out HK.out rfl HWF2.out HGOT.out _ ?_ ?_
  all_goals rfl
set_option maxHeartbeats 2000000 in
set_option maxRecDepth 20000 in
theorem cf_schema {w0 : World} {g base : Nat} {body : List UInt8} {ab : Option Addr} {nb cb at_ : Nat} {m : M} {q : Ps} {w : World} (hc : RC w0 g body ab nb cb) (h : CS w0 g body ab nb cb at_ w) (hlt : g < base) (hle : base ≤ w.heap.size) (hnb : nb ≤ 1073741824) (hwf : WfM m) (ho : OwnM base w m q) :
    Calls Try.prog 52 #[.pointer (some ⟨g, 0, none⟩), valM m q, .int .u8 83] w (CuField "sluice/wire.schema" w0 g base body ab nb cb at_ m w) := by
  obtain ⟨v0, hv0⟩ : ∃ v, v = valM m q := ⟨_, rfl⟩
  obtain ⟨wa, hwa⟩ : ∃ wa, wa = (w.alloc (.cells (cellsM m q).toArray 50)).alloc (.cells cellsZ.toArray 50) := ⟨_, rfl⟩
  have hba : Below w.heap.size w wa := by rw [hwa]; exact ((Below.refl _ _).alloc (Nat.le_refl _) _).alloc (by simp) _
  have hka : Blk wa w.heap.size 50 (cellsM m q) := by rw [hwa]; exact (Blk.new w _ 50).alloc _
  have hra : Blk wa (w.heap.size + 1) 50 cellsZ := by
    have := Blk.new (w.alloc (.cells (cellsM m q).toArray 50)) cellsZ 50
    rw [World.size_alloc] at this
    rw [hwa]
    exact this
  unfold cellsM cellsZ at hwa
  unfold valM cellsM at hv0
  unfold valM cellsM
  go_enter Try.func52, Try.ntmps52
  go_upto_region 1 with fail
  rw [← hwa, ← hv0]
  obtain ⟨gm, hgm⟩ : ∃ x, x = w.heap.size := ⟨_, rfl⟩
  rw [← hgm] at hka hra ⊢
  have HK : Hid (FK w0 g gm base body ab nb cb w) := Lib.hid ⟨hc, hlt, hle, hgm, hnb⟩
  have HZ0 : Hid (FZ w0 g gm base body ab nb cb w at_ m q wa) := Lib.hid ⟨h.below hba, hka, hra, ho.below hba, grown_below hba⟩
  have HWF := Lib.hid hwf
  clear hwa hv0 hba hka hra hgm hc h hlt hle hnb hwf ho
  go_wp2_with fail
  refine (cu_bytes HK.out.rc HZ0.out.cs).mono ?_
  rintro e w1 ⟨v1, a1, aa1, cc1, rfl, hv1, hcs, hg, hown, hgot⟩
  have HZ1 := Lib.hid (HZ0.out.step HK.out hcs hg)
  have HV1 := Lib.hid hv1
  have HG1 := Lib.hid hgot
  have HO1 := Lib.hid hown
  clear hown
  have hcv := conv_b rfl HO1.out
  clear hv1 hcs hg hgot
  obtain ⟨c28, f28⟩ := HZ1.out.cell 28 (by omega)
  have hset := HZ1.out.set HK.out 28 (.string ⟨v1.toArray⟩) ({ m with schema := ⟨v1.toArray⟩ } : M) q rfl HZ1.out.own
  obtain ⟨w2, hw2⟩ : ∃ x, x = w1.setCell ⟨gm, 28, none⟩ (.string ⟨v1.toArray⟩) := ⟨_, rfl⟩
  rw [← hw2] at hset
  have HZ2 := Lib.hid hset
  have HWW := Lib.hid hw2
  clear hset hw2
  go_upto_region 45 with fail
  rw [← HWW.out]
  clear HWW c28 f28
  have HWF2 : Hid (WfM ({ m with schema := ⟨v1.toArray⟩ } : M)) := Lib.hid ({ HWF.out with sl := by simp only; rw [ba_size]; have := HV1.out; have := HK.out.nb; omega })
  have HGOT : Hid (∀ x r, VX x → body.drop at_ = encF "sluice/wire.schema" x ++ r → ({ m with schema := ⟨v1.toArray⟩ } : M) = setF "sluice/wire.schema" m x ∧ body.drop a1 = r) := Lib.hid (fun x r hx h9 => by
    have hh := hx.1.sl
    have he : encF "sluice/wire.schema" x = bytesU x.schema.data.toList.length ++ x.schema.data.toList := rfl
    rw [he] at h9
    obtain ⟨h1, h2⟩ := HG1.out x.schema.data.toList r (by show x.schema.data.toList.length < _; rw [Array.length_toList]; exact Nat.lt_of_le_of_lt hh (by decide)) h9
    refine ⟨?_, h2⟩
    have h3 : (⟨v1.toArray⟩ : ByteArray) = x.schema := by rw [h1]
    rw [h3]
    first | done | rfl)
  have hrg : w2.rangeAt gm 0 (cellsM ({ m with schema := ⟨v1.toArray⟩ } : M) q) := HZ2.out.blk.whole
  have hth : w2.there (gm + 1) 0 31 := HZ2.out.res.there 0 31 (by decide)
  go_wp2_with (first | ((with_reducible refine at_dst 131 ?_); refine wpList_load_midg rfl _ _ rfl _ _ rfl _ _ hrg Try.underlying50 rfl (by kernel_rfl) ?_) | ((with_reducible refine at_store ?_); refine wpList_store_mid rfl 50 _ _ rfl (gm + 1) 0 (cellsM ({ m with schema := ⟨v1.toArray⟩ } : M) q).toArray rfl rfl hth (by kernel_rfl) (by kernel_rfl) ?_) | fail)
  refine cf_end HZ2.out HK.out rfl HWF2.out HGOT.out _ ?_ ?_
  all_goals rfl
set_option maxHeartbeats 2000000 in
set_option maxRecDepth 20000 in
theorem cf_query {w0 : World} {g base : Nat} {body : List UInt8} {ab : Option Addr} {nb cb at_ : Nat} {m : M} {q : Ps} {w : World} (hc : RC w0 g body ab nb cb) (h : CS w0 g body ab nb cb at_ w) (hlt : g < base) (hle : base ≤ w.heap.size) (hnb : nb ≤ 1073741824) (hwf : WfM m) (ho : OwnM base w m q) :
    Calls Try.prog 52 #[.pointer (some ⟨g, 0, none⟩), valM m q, .int .u8 81] w (CuField "sluice/wire.query" w0 g base body ab nb cb at_ m w) := by
  obtain ⟨v0, hv0⟩ : ∃ v, v = valM m q := ⟨_, rfl⟩
  obtain ⟨wa, hwa⟩ : ∃ wa, wa = (w.alloc (.cells (cellsM m q).toArray 50)).alloc (.cells cellsZ.toArray 50) := ⟨_, rfl⟩
  have hba : Below w.heap.size w wa := by rw [hwa]; exact ((Below.refl _ _).alloc (Nat.le_refl _) _).alloc (by simp) _
  have hka : Blk wa w.heap.size 50 (cellsM m q) := by rw [hwa]; exact (Blk.new w _ 50).alloc _
  have hra : Blk wa (w.heap.size + 1) 50 cellsZ := by
    have := Blk.new (w.alloc (.cells (cellsM m q).toArray 50)) cellsZ 50
    rw [World.size_alloc] at this
    rw [hwa]
    exact this
  unfold cellsM cellsZ at hwa
  unfold valM cellsM at hv0
  unfold valM cellsM
  go_enter Try.func52, Try.ntmps52
  go_upto_region 1 with fail
  rw [← hwa, ← hv0]
  obtain ⟨gm, hgm⟩ : ∃ x, x = w.heap.size := ⟨_, rfl⟩
  rw [← hgm] at hka hra ⊢
  have HK : Hid (FK w0 g gm base body ab nb cb w) := Lib.hid ⟨hc, hlt, hle, hgm, hnb⟩
  have HZ0 : Hid (FZ w0 g gm base body ab nb cb w at_ m q wa) := Lib.hid ⟨h.below hba, hka, hra, ho.below hba, grown_below hba⟩
  have HWF := Lib.hid hwf
  clear hwa hv0 hba hka hra hgm hc h hlt hle hnb hwf ho
  go_wp2_with fail
  refine (cu_bytes HK.out.rc HZ0.out.cs).mono ?_
  rintro e w1 ⟨v1, a1, aa1, cc1, rfl, hv1, hcs, hg, hown, hgot⟩
  have HZ1 := Lib.hid (HZ0.out.step HK.out hcs hg)
  have HV1 := Lib.hid hv1
  have HG1 := Lib.hid hgot
  have HO1 := Lib.hid hown
  clear hown
  have hcv := conv_b rfl HO1.out
  clear hv1 hcs hg hgot
  obtain ⟨c29, f29⟩ := HZ1.out.cell 29 (by omega)
  have hset := HZ1.out.set HK.out 29 (.string ⟨v1.toArray⟩) ({ m with query := ⟨v1.toArray⟩ } : M) q rfl HZ1.out.own
  obtain ⟨w2, hw2⟩ : ∃ x, x = w1.setCell ⟨gm, 29, none⟩ (.string ⟨v1.toArray⟩) := ⟨_, rfl⟩
  rw [← hw2] at hset
  have HZ2 := Lib.hid hset
  have HWW := Lib.hid hw2
  clear hset hw2
  go_upto_region 45 with fail
  rw [← HWW.out]
  clear HWW c29 f29
  have HWF2 : Hid (WfM ({ m with query := ⟨v1.toArray⟩ } : M)) := Lib.hid ({ HWF.out with ql := by simp only; rw [ba_size]; have := HV1.out; have := HK.out.nb; omega })
  have HGOT : Hid (∀ x r, VX x → body.drop at_ = encF "sluice/wire.query" x ++ r → ({ m with query := ⟨v1.toArray⟩ } : M) = setF "sluice/wire.query" m x ∧ body.drop a1 = r) := Lib.hid (fun x r hx h9 => by
    have hh := hx.1.ql
    have he : encF "sluice/wire.query" x = bytesU x.query.data.toList.length ++ x.query.data.toList := rfl
    rw [he] at h9
    obtain ⟨h1, h2⟩ := HG1.out x.query.data.toList r (by show x.query.data.toList.length < _; rw [Array.length_toList]; exact Nat.lt_of_le_of_lt hh (by decide)) h9
    refine ⟨?_, h2⟩
    have h3 : (⟨v1.toArray⟩ : ByteArray) = x.query := by rw [h1]
    rw [h3]
    first | done | rfl)
  have hrg : w2.rangeAt gm 0 (cellsM ({ m with query := ⟨v1.toArray⟩ } : M) q) := HZ2.out.blk.whole
  have hth : w2.there (gm + 1) 0 31 := HZ2.out.res.there 0 31 (by decide)
  go_wp2_with (first | ((with_reducible refine at_dst 131 ?_); refine wpList_load_midg rfl _ _ rfl _ _ rfl _ _ hrg Try.underlying50 rfl (by kernel_rfl) ?_) | ((with_reducible refine at_store ?_); refine wpList_store_mid rfl 50 _ _ rfl (gm + 1) 0 (cellsM ({ m with query := ⟨v1.toArray⟩ } : M) q).toArray rfl rfl hth (by kernel_rfl) (by kernel_rfl) ?_) | fail)
  refine cf_end HZ2.out HK.out rfl HWF2.out HGOT.out _ ?_ ?_
  all_goals rfl
set_option maxHeartbeats 2000000 in
set_option maxRecDepth 20000 in
theorem cf_image {w0 : World} {g base : Nat} {body : List UInt8} {ab : Option Addr} {nb cb at_ : Nat} {m : M} {q : Ps} {w : World} (hc : RC w0 g body ab nb cb) (h : CS w0 g body ab nb cb at_ w) (hlt : g < base) (hle : base ≤ w.heap.size) (hnb : nb ≤ 1073741824) (hwf : WfM m) (ho : OwnM base w m q) :
    Calls Try.prog 52 #[.pointer (some ⟨g, 0, none⟩), valM m q, .int .u8 73] w (CuField "sluice/wire.image" w0 g base body ab nb cb at_ m w) := by
  obtain ⟨v0, hv0⟩ : ∃ v, v = valM m q := ⟨_, rfl⟩
  obtain ⟨wa, hwa⟩ : ∃ wa, wa = (w.alloc (.cells (cellsM m q).toArray 50)).alloc (.cells cellsZ.toArray 50) := ⟨_, rfl⟩
  have hba : Below w.heap.size w wa := by rw [hwa]; exact ((Below.refl _ _).alloc (Nat.le_refl _) _).alloc (by simp) _
  have hka : Blk wa w.heap.size 50 (cellsM m q) := by rw [hwa]; exact (Blk.new w _ 50).alloc _
  have hra : Blk wa (w.heap.size + 1) 50 cellsZ := by
    have := Blk.new (w.alloc (.cells (cellsM m q).toArray 50)) cellsZ 50
    rw [World.size_alloc] at this
    rw [hwa]
    exact this
  unfold cellsM cellsZ at hwa
  unfold valM cellsM at hv0
  unfold valM cellsM
  go_enter Try.func52, Try.ntmps52
  go_upto_region 1 with fail
  rw [← hwa, ← hv0]
  obtain ⟨gm, hgm⟩ : ∃ x, x = w.heap.size := ⟨_, rfl⟩
  rw [← hgm] at hka hra ⊢
  have HK : Hid (FK w0 g gm base body ab nb cb w) := Lib.hid ⟨hc, hlt, hle, hgm, hnb⟩
  have HZ0 : Hid (FZ w0 g gm base body ab nb cb w at_ m q wa) := Lib.hid ⟨h.below hba, hka, hra, ho.below hba, grown_below hba⟩
  have HWF := Lib.hid hwf
  clear hwa hv0 hba hka hra hgm hc h hlt hle hnb hwf ho
  go_wp2_with fail
  refine (cu_bytes HK.out.rc HZ0.out.cs).mono ?_
  rintro e w1 ⟨v1, a1, aa1, cc1, rfl, hv1, hcs, hg, hown, hgot⟩
  have HZ1 := Lib.hid (HZ0.out.step HK.out hcs hg)
  have HV1 := Lib.hid hv1
  have HG1 := Lib.hid hgot
  have HO1 := Lib.hid hown
  clear hown
  clear hv1 hcs hg hgot
  obtain ⟨c30, f30⟩ := HZ1.out.cell 30 (by omega)
  have hset := HZ1.out.set HK.out 30 (.slice aa1 v1.length cc1) ({ m with image := v1 } : M) ({ q with ai := aa1, ci := cc1 } : Ps) rfl ⟨HZ1.out.own.1, HZ1.out.own.2.1, HZ1.out.own.2.2.1, own_low HO1.out (by have := HK.out.le; have := HZ0.out.grown.size; omega)⟩
  obtain ⟨w2, hw2⟩ : ∃ x, x = w1.setCell ⟨gm, 30, none⟩ (.slice aa1 v1.length cc1) := ⟨_, rfl⟩
  rw [← hw2] at hset
  have HZ2 := Lib.hid hset
  have HWW := Lib.hid hw2
  clear hset hw2
  go_upto_region 45 with fail
  rw [← HWW.out]
  clear HWW c30 f30
  have HWF2 : Hid (WfM ({ m with image := v1 } : M)) := Lib.hid ({ HWF.out with il := by simp only; have := HV1.out; have := HK.out.nb; omega })
  have HGOT : Hid (∀ x r, VX x → body.drop at_ = encF "sluice/wire.image" x ++ r → ({ m with image := v1 } : M) = setF "sluice/wire.image" m x ∧ body.drop a1 = r) := Lib.hid (fun x r hx h9 => by
    have hh := hx.1.il
    obtain ⟨h1, h2⟩ := HG1.out x.image r (by omega) h9
    exact ⟨by rw [h1]; rfl, h2⟩)
  have hrg : w2.rangeAt gm 0 (cellsM ({ m with image := v1 } : M) ({ q with ai := aa1, ci := cc1 } : Ps)) := HZ2.out.blk.whole
  have hth : w2.there (gm + 1) 0 31 := HZ2.out.res.there 0 31 (by decide)
  go_wp2_with (first | ((with_reducible refine at_dst 131 ?_); refine wpList_load_midg rfl _ _ rfl _ _ rfl _ _ hrg Try.underlying50 rfl (by kernel_rfl) ?_) | ((with_reducible refine at_store ?_); refine wpList_store_mid rfl 50 _ _ rfl (gm + 1) 0 (cellsM ({ m with image := v1 } : M) ({ q with ai := aa1, ci := cc1 } : Ps)).toArray rfl rfl hth (by kernel_rfl) (by kernel_rfl) ?_) | fail)
  refine cf_end HZ2.out HK.out rfl HWF2.out HGOT.out _ ?_ ?_
  all_goals rfl
set_option maxHeartbeats 2000000 in
set_option maxRecDepth 20000 in
theorem cf_fault {w0 : World} {g base : Nat} {body : List UInt8} {ab : Option Addr} {nb cb at_ : Nat} {m : M} {q : Ps} {w : World} (hc : RC w0 g body ab nb cb) (h : CS w0 g body ab nb cb at_ w) (hlt : g < base) (hle : base ≤ w.heap.size) (hnb : nb ≤ 1073741824) (hwf : WfM m) (ho : OwnM base w m q) :
    Calls Try.prog 52 #[.pointer (some ⟨g, 0, none⟩), valM m q, .int .u8 70] w (CuField "sluice/wire.fault" w0 g base body ab nb cb at_ m w) := by
  obtain ⟨v0, hv0⟩ : ∃ v, v = valM m q := ⟨_, rfl⟩
  obtain ⟨wa, hwa⟩ : ∃ wa, wa = (w.alloc (.cells (cellsM m q).toArray 50)).alloc (.cells cellsZ.toArray 50) := ⟨_, rfl⟩
  have hba : Below w.heap.size w wa := by rw [hwa]; exact ((Below.refl _ _).alloc (Nat.le_refl _) _).alloc (by simp) _
  have hka : Blk wa w.heap.size 50 (cellsM m q) := by rw [hwa]; exact (Blk.new w _ 50).alloc _
  have hra : Blk wa (w.heap.size + 1) 50 cellsZ := by
    have := Blk.new (w.alloc (.cells (cellsM m q).toArray 50)) cellsZ 50
    rw [World.size_alloc] at this
    rw [hwa]
    exact this
  unfold cellsM cellsZ at hwa
  unfold valM cellsM at hv0
  unfold valM cellsM
  go_enter Try.func52, Try.ntmps52
  go_upto_region 1 with fail
  rw [← hwa, ← hv0]
  obtain ⟨gm, hgm⟩ : ∃ x, x = w.heap.size := ⟨_, rfl⟩
  rw [← hgm] at hka hra ⊢
  have HK : Hid (FK w0 g gm base body ab nb cb w) := Lib.hid ⟨hc, hlt, hle, hgm, hnb⟩
  have HZ0 : Hid (FZ w0 g gm base body ab nb cb w at_ m q wa) := Lib.hid ⟨h.below hba, hka, hra, ho.below hba, grown_below hba⟩
  have HWF := Lib.hid hwf
  clear hwa hv0 hba hka hra hgm hc h hlt hle hnb hwf ho
  go_wp2_with fail
  refine (cu_int HK.out.rc HZ0.out.cs).mono ?_
  rintro e w1 ⟨v1, a1, rfl, hv1, hcs, hg, hgot⟩
  have HZ1 := Lib.hid (HZ0.out.step HK.out hcs hg)
  have HV1 := Lib.hid hv1
  have HG1 := Lib.hid hgot
  clear hv1 hcs hg hgot
  go_wp2_with fail
  refine (cu_int HK.out.rc HZ1.out.cs).mono ?_
  rintro e w2 ⟨v2, a2, rfl, hv2, hcs, hg, hgot⟩
  have HZ2 := Lib.hid (HZ1.out.step HK.out hcs hg)
  have HV2 := Lib.hid hv2
  have HG2 := Lib.hid hgot
  clear hv2 hcs hg hgot
  go_wp2_with fail
  refine (cu_int HK.out.rc HZ2.out.cs).mono ?_
  rintro e w3 ⟨v3, a3, rfl, hv3, hcs, hg, hgot⟩
  have HZ3 := Lib.hid (HZ2.out.step HK.out hcs hg)
  have HV3 := Lib.hid hv3
  have HG3 := Lib.hid hgot
  clear hv3 hcs hg hgot
  have hth48 : w3.there gm 24 3 := HZ3.out.blk.there 24 3 (by rw [cellsM_len]; omega)
  have hset := HZ3.out.sets HK.out 24 [.int .i64 v1, .int .i64 v2, .int .i64 v3] ({ m with fwhere := v1, fcode := v2, fat := v3 } : M) q (by simp) rfl HZ3.out.own
  obtain ⟨w4, hw4⟩ : ∃ x, x = w3.setCells gm 24 [.int .i64 v1, .int .i64 v2, .int .i64 v3] := ⟨_, rfl⟩
  rw [← hw4] at hset
  have HZ4 := Lib.hid hset
  have HWW := Lib.hid hw4
  clear hset hw4
  go_upto_region 45 with (first | ((with_reducible refine at_store ?_); refine wpList_store_mid rfl 48 _ _ rfl gm 24 #[.int .i64 v1, .int .i64 v2, .int .i64 v3] rfl rfl hth48 (by kernel_rfl) (by kernel_rfl) ?_; rw [← HWW.out]) | fail)
  clear HWW hth48
  have HWF2 : Hid (WfM ({ m with fwhere := v1, fcode := v2, fat := v3 } : M)) := Lib.hid ({ HWF.out with fwhere := HV1.out, fcode := HV2.out, fat := HV3.out })
  have HGOT : Hid (∀ x r, VX x → body.drop at_ = encF "sluice/wire.fault" x ++ r → ({ m with fwhere := v1, fcode := v2, fat := v3 } : M) = setF "sluice/wire.fault" m x ∧ body.drop a3 = r) := Lib.hid (fun x r hx h9 => by
    have he : encF "sluice/wire.fault" x = bytesI x.fwhere ++ (bytesI x.fcode ++ bytesI x.fat) := rfl
    rw [he, List.append_assoc, List.append_assoc] at h9
    obtain ⟨h1, h2⟩ := HG1.out x.fwhere _ hx.1.fwhere h9
    obtain ⟨h3, h4⟩ := HG2.out x.fcode _ hx.1.fcode h2
    obtain ⟨h5, h6⟩ := HG3.out x.fat _ hx.1.fat h4
    exact ⟨by rw [h1, h3, h5]; rfl, h6⟩)
  have hrg : w4.rangeAt gm 0 (cellsM ({ m with fwhere := v1, fcode := v2, fat := v3 } : M) q) := HZ4.out.blk.whole
  have hth : w4.there (gm + 1) 0 31 := HZ4.out.res.there 0 31 (by decide)
  go_wp2_with (first | ((with_reducible refine at_dst 131 ?_); refine wpList_load_midg rfl _ _ rfl _ _ rfl _ _ hrg Try.underlying50 rfl (by kernel_rfl) ?_) | ((with_reducible refine at_store ?_); refine wpList_store_mid rfl 50 _ _ rfl (gm + 1) 0 (cellsM ({ m with fwhere := v1, fcode := v2, fat := v3 } : M) q).toArray rfl rfl hth (by kernel_rfl) (by kernel_rfl) ?_) | fail)
  refine cf_end HZ4.out HK.out rfl HWF2.out HGOT.out _ ?_ ?_
  all_goals rfl
set_option maxHeartbeats 2000000 in
set_option maxRecDepth 20000 in
theorem cf_sizes {w0 : World} {g base : Nat} {body : List UInt8} {ab : Option Addr} {nb cb at_ : Nat} {m : M} {q : Ps} {w : World} (hc : RC w0 g body ab nb cb) (h : CS w0 g body ab nb cb at_ w) (hlt : g < base) (hle : base ≤ w.heap.size) (hnb : nb ≤ 1073741824) (hwf : WfM m) (ho : OwnM base w m q) :
    Calls Try.prog 52 #[.pointer (some ⟨g, 0, none⟩), valM m q, .int .u8 90] w (CuField "sluice/wire.sizes" w0 g base body ab nb cb at_ m w) := by
  obtain ⟨v0, hv0⟩ : ∃ v, v = valM m q := ⟨_, rfl⟩
  obtain ⟨wa, hwa⟩ : ∃ wa, wa = (w.alloc (.cells (cellsM m q).toArray 50)).alloc (.cells cellsZ.toArray 50) := ⟨_, rfl⟩
  have hba : Below w.heap.size w wa := by rw [hwa]; exact ((Below.refl _ _).alloc (Nat.le_refl _) _).alloc (by simp) _
  have hka : Blk wa w.heap.size 50 (cellsM m q) := by rw [hwa]; exact (Blk.new w _ 50).alloc _
  have hra : Blk wa (w.heap.size + 1) 50 cellsZ := by
    have := Blk.new (w.alloc (.cells (cellsM m q).toArray 50)) cellsZ 50
    rw [World.size_alloc] at this
    rw [hwa]
    exact this
  unfold cellsM cellsZ at hwa
  unfold valM cellsM at hv0
  unfold valM cellsM
  go_enter Try.func52, Try.ntmps52
  go_upto_region 1 with fail
  rw [← hwa, ← hv0]
  obtain ⟨gm, hgm⟩ : ∃ x, x = w.heap.size := ⟨_, rfl⟩
  rw [← hgm] at hka hra ⊢
  have HK : Hid (FK w0 g gm base body ab nb cb w) := Lib.hid ⟨hc, hlt, hle, hgm, hnb⟩
  have HZ0 : Hid (FZ w0 g gm base body ab nb cb w at_ m q wa) := Lib.hid ⟨h.below hba, hka, hra, ho.below hba, grown_below hba⟩
  have HWF := Lib.hid hwf
  clear hwa hv0 hba hka hra hgm hc h hlt hle hnb hwf ho
  go_wp2_with fail
  refine (cu_int HK.out.rc HZ0.out.cs).mono ?_
  rintro e w1 ⟨v1, a1, rfl, hv1, hcs, hg, hgot⟩
  have HZ1 := Lib.hid (HZ0.out.step HK.out hcs hg)
  have HV1 := Lib.hid hv1
  have HG1 := Lib.hid hgot
  clear hv1 hcs hg hgot
  obtain ⟨c18, f18⟩ := HZ1.out.cell 18 (by omega)
  have hset := HZ1.out.set HK.out 18 (.int .i64 v1) ({ m with mark := v1 } : M) q rfl HZ1.out.own
  obtain ⟨w2, hw2⟩ : ∃ x, x = w1.setCell ⟨gm, 18, none⟩ (.int .i64 v1) := ⟨_, rfl⟩
  rw [← hw2] at hset
  have HZ2 := Lib.hid hset
  have HWW := Lib.hid hw2
  clear hset hw2
  go_upto_region 36 with fail
  rw [← HWW.out]
  clear HWW c18 f18
  go_wp2_with fail
  refine (cu_truth HK.out.rc HZ2.out.cs).mono ?_
  rintro e w3 ⟨v2, a2, rfl, hv2, hcs, hg, hgot⟩
  have HZ3 := Lib.hid (HZ2.out.step HK.out hcs hg)
  have HV2 := Lib.hid hv2
  have HG2 := Lib.hid hgot
  clear hv2 hcs hg hgot
  obtain ⟨c19, f19⟩ := HZ3.out.cell 19 (by omega)
  have hset := HZ3.out.set HK.out 19 (.bool v2) ({ m with mark := v1, closed := v2 } : M) q rfl HZ3.out.own
  obtain ⟨w4, hw4⟩ : ∃ x, x = w3.setCell ⟨gm, 19, none⟩ (.bool v2) := ⟨_, rfl⟩
  rw [← hw4] at hset
  have HZ4 := Lib.hid hset
  have HWW := Lib.hid hw4
  clear hset hw4
  go_upto_region 37 with fail
  rw [← HWW.out]
  clear HWW c19 f19
  go_wp2_with fail
  refine (cu_int HK.out.rc HZ4.out.cs).mono ?_
  rintro e w5 ⟨v3, a3, rfl, hv3, hcs, hg, hgot⟩
  have HZ5 := Lib.hid (HZ4.out.step HK.out hcs hg)
  have HV3 := Lib.hid hv3
  have HG3 := Lib.hid hgot
  clear hv3 hcs hg hgot
  go_wp2_with fail
  refine (cu_int HK.out.rc HZ5.out.cs).mono ?_
  rintro e w6 ⟨v4, a4, rfl, hv4, hcs, hg, hgot⟩
  have HZ6 := Lib.hid (HZ5.out.step HK.out hcs hg)
  have HV4 := Lib.hid hv4
  have HG4 := Lib.hid hgot
  clear hv4 hcs hg hgot
  go_wp2_with fail
  refine (cu_int HK.out.rc HZ6.out.cs).mono ?_
  rintro e w7 ⟨v5, a5, rfl, hv5, hcs, hg, hgot⟩
  have HZ7 := Lib.hid (HZ6.out.step HK.out hcs hg)
  have HV5 := Lib.hid hv5
  have HG5 := Lib.hid hgot
  clear hv5 hcs hg hgot
  go_wp2_with fail
  refine (cu_int HK.out.rc HZ7.out.cs).mono ?_
  rintro e w8 ⟨v6, a6, rfl, hv6, hcs, hg, hgot⟩
  have HZ8 := Lib.hid (HZ7.out.step HK.out hcs hg)
  have HV6 := Lib.hid hv6
  have HG6 := Lib.hid hgot
  clear hv6 hcs hg hgot
  obtain ⟨c20, f20⟩ := HZ8.out.cell 20 (by omega)
  have hset := HZ8.out.set HK.out 20 (.int .i64 v3) ({ m with mark := v1, closed := v2, held := v3 } : M) q rfl HZ8.out.own
  obtain ⟨w9, hw9⟩ : ∃ x, x = w8.setCell ⟨gm, 20, none⟩ (.int .i64 v3) := ⟨_, rfl⟩
  rw [← hw9] at hset
  have HZ9 := Lib.hid hset
  have HWW := Lib.hid hw9
  clear hset hw9
  go_upto_region 42 with fail
  rw [← HWW.out]
  clear HWW c20 f20
  obtain ⟨c21, f21⟩ := HZ9.out.cell 21 (by omega)
  have hset := HZ9.out.set HK.out 21 (.int .i64 v4) ({ m with mark := v1, closed := v2, held := v3, kept := v4 } : M) q rfl HZ9.out.own
  obtain ⟨w10, hw10⟩ : ∃ x, x = w9.setCell ⟨gm, 21, none⟩ (.int .i64 v4) := ⟨_, rfl⟩
  rw [← hw10] at hset
  have HZ10 := Lib.hid hset
  have HWW := Lib.hid hw10
  clear hset hw10
  go_upto_region 43 with fail
  rw [← HWW.out]
  clear HWW c21 f21
  obtain ⟨c22, f22⟩ := HZ10.out.cell 22 (by omega)
  have hset := HZ10.out.set HK.out 22 (.int .i64 v5) ({ m with mark := v1, closed := v2, held := v3, kept := v4, waiting := v5 } : M) q rfl HZ10.out.own
  obtain ⟨w11, hw11⟩ : ∃ x, x = w10.setCell ⟨gm, 22, none⟩ (.int .i64 v5) := ⟨_, rfl⟩
  rw [← hw11] at hset
  have HZ11 := Lib.hid hset
  have HWW := Lib.hid hw11
  clear hset hw11
  go_upto_region 44 with fail
  rw [← HWW.out]
  clear HWW c22 f22
  obtain ⟨c23, f23⟩ := HZ11.out.cell 23 (by omega)
  have hset := HZ11.out.set HK.out 23 (.int .i64 v6) ({ m with mark := v1, closed := v2, held := v3, kept := v4, waiting := v5, parts := v6 } : M) q rfl HZ11.out.own
  obtain ⟨w12, hw12⟩ : ∃ x, x = w11.setCell ⟨gm, 23, none⟩ (.int .i64 v6) := ⟨_, rfl⟩
  rw [← hw12] at hset
  have HZ12 := Lib.hid hset
  have HWW := Lib.hid hw12
  clear hset hw12
  go_upto_region 45 with fail
  rw [← HWW.out]
  clear HWW c23 f23
  have HWF2 : Hid (WfM ({ m with mark := v1, closed := v2, held := v3, kept := v4, waiting := v5, parts := v6 } : M)) := Lib.hid ({ HWF.out with mark := HV1.out, held := HV3.out, kept := HV4.out, waiting := HV5.out, parts := HV6.out })
  have HGOT : Hid (∀ x r, VX x → body.drop at_ = encF "sluice/wire.sizes" x ++ r → ({ m with mark := v1, closed := v2, held := v3, kept := v4, waiting := v5, parts := v6 } : M) = setF "sluice/wire.sizes" m x ∧ body.drop a6 = r) := Lib.hid (fun x r hx h9 => by
    have he : encF "sluice/wire.sizes" x = bytesI x.mark ++ (byT x.closed ++ (bytesI x.held ++ (bytesI x.kept ++ (bytesI x.waiting ++ (bytesI x.parts ++ []))))) := rfl
    rw [he, List.append_nil] at h9
    simp only [List.append_assoc] at h9
    obtain ⟨h1, h2⟩ := HG1.out x.mark _ hx.1.mark h9
    obtain ⟨h3, h4⟩ := HG2.out x.closed _ trivial h2
    obtain ⟨h5, h6⟩ := HG3.out x.held _ hx.1.held h4
    obtain ⟨h7, h8⟩ := HG4.out x.kept _ hx.1.kept h6
    obtain ⟨k1, k2⟩ := HG5.out x.waiting _ hx.1.waiting h8
    obtain ⟨k3, k4⟩ := HG6.out x.parts _ hx.1.parts k2
    exact ⟨by rw [h1, h3, h5, h7, k1, k3]; rfl, k4⟩)
  have hrg : w12.rangeAt gm 0 (cellsM ({ m with mark := v1, closed := v2, held := v3, kept := v4, waiting := v5, parts := v6 } : M) q) := HZ12.out.blk.whole
  have hth : w12.there (gm + 1) 0 31 := HZ12.out.res.there 0 31 (by decide)
  go_wp2_with (first | ((with_reducible refine at_dst 131 ?_); refine wpList_load_midg rfl _ _ rfl _ _ rfl _ _ hrg Try.underlying50 rfl (by kernel_rfl) ?_) | ((with_reducible refine at_store ?_); refine wpList_store_mid rfl 50 _ _ rfl (gm + 1) 0 (cellsM ({ m with mark := v1, closed := v2, held := v3, kept := v4, waiting := v5, parts := v6 } : M) q).toArray rfl rfl hth (by kernel_rfl) (by kernel_rfl) ?_) | fail)
  refine cf_end HZ12.out HK.out rfl HWF2.out HGOT.out _ ?_ ?_
  all_goals rfl
set_option maxHeartbeats 2000000 in
set_option maxRecDepth 20000 in
theorem cf_event {w0 : World} {g base : Nat} {body : List UInt8} {ab : Option Addr} {nb cb at_ : Nat} {m : M} {q : Ps} {w : World} (hc : RC w0 g body ab nb cb) (h : CS w0 g body ab nb cb at_ w) (hlt : g < base) (hle : base ≤ w.heap.size) (hnb : nb ≤ 1073741824) (hwf : WfM m) (ho : OwnM base w m q) :
    Calls Try.prog 52 #[.pointer (some ⟨g, 0, none⟩), valM m q, .int .u8 69] w (CuField "sluice/wire.event" w0 g base body ab nb cb at_ m w) := by
  obtain ⟨v0, hv0⟩ : ∃ v, v = valM m q := ⟨_, rfl⟩
  obtain ⟨wa, hwa⟩ : ∃ wa, wa = (w.alloc (.cells (cellsM m q).toArray 50)).alloc (.cells cellsZ.toArray 50) := ⟨_, rfl⟩
  have hba : Below w.heap.size w wa := by rw [hwa]; exact ((Below.refl _ _).alloc (Nat.le_refl _) _).alloc (by simp) _
  have hka : Blk wa w.heap.size 50 (cellsM m q) := by rw [hwa]; exact (Blk.new w _ 50).alloc _
  have hra : Blk wa (w.heap.size + 1) 50 cellsZ := by
    have := Blk.new (w.alloc (.cells (cellsM m q).toArray 50)) cellsZ 50
    rw [World.size_alloc] at this
    rw [hwa]
    exact this
  unfold cellsM cellsZ at hwa
  unfold valM cellsM at hv0
  unfold valM cellsM
  go_enter Try.func52, Try.ntmps52
  go_upto_region 1 with fail
  rw [← hwa, ← hv0]
  obtain ⟨gm, hgm⟩ : ∃ x, x = w.heap.size := ⟨_, rfl⟩
  rw [← hgm] at hka hra ⊢
  have HK : Hid (FK w0 g gm base body ab nb cb w) := Lib.hid ⟨hc, hlt, hle, hgm, hnb⟩
  have HZ0 : Hid (FZ w0 g gm base body ab nb cb w at_ m q wa) := Lib.hid ⟨h.below hba, hka, hra, ho.below hba, grown_below hba⟩
  have HWF := Lib.hid hwf
  clear hwa hv0 hba hka hra hgm hc h hlt hle hnb hwf ho
  go_wp2_with fail
  refine (cu_int HK.out.rc HZ0.out.cs).mono ?_
  rintro e w1 ⟨v1, a1, rfl, hv1, hcs, hg, hgot⟩
  have HZ1 := Lib.hid (HZ0.out.step HK.out hcs hg)
  have HV1 := Lib.hid hv1
  have HG1 := Lib.hid hgot
  clear hv1 hcs hg hgot
  obtain ⟨c3, f3⟩ := HZ1.out.cell 3 (by omega)
  have hset := HZ1.out.set HK.out 3 (.int .i64 v1) ({ m with ts := v1 } : M) q rfl HZ1.out.own
  obtain ⟨w2, hw2⟩ : ∃ x, x = w1.setCell ⟨gm, 3, none⟩ (.int .i64 v1) := ⟨_, rfl⟩
  rw [← hw2] at hset
  have HZ2 := Lib.hid hset
  have HWW := Lib.hid hw2
  clear hset hw2
  go_upto_region 17 with fail
  rw [← HWW.out]
  clear HWW c3 f3
  go_wp2_with fail
  refine (cu_uint HK.out.rc HZ2.out.cs).mono ?_
  rintro e w3 ⟨v2, a2, rfl, hv2, hcs, hg, hgot⟩
  have HZ3 := Lib.hid (HZ2.out.step HK.out hcs hg)
  have HV2 := Lib.hid hv2
  have HG2 := Lib.hid hgot
  clear hv2 hcs hg hgot
  obtain ⟨c4, f4⟩ := HZ3.out.cell 4 (by omega)
  have hset := HZ3.out.set HK.out 4 (.int .u64 (v2 : Int)) ({ m with ts := v1, id := (v2 : Int) } : M) q rfl HZ3.out.own
  obtain ⟨w4, hw4⟩ : ∃ x, x = w3.setCell ⟨gm, 4, none⟩ (.int .u64 (v2 : Int)) := ⟨_, rfl⟩
  rw [← hw4] at hset
  have HZ4 := Lib.hid hset
  have HWW := Lib.hid hw4
  clear hset hw4
  go_upto_region 18 with fail
  rw [← HWW.out]
  clear HWW c4 f4
  go_wp2_with fail
  refine (cu_int HK.out.rc HZ4.out.cs).mono ?_
  rintro e w5 ⟨v3, a3, rfl, hv3, hcs, hg, hgot⟩
  have HZ5 := Lib.hid (HZ4.out.step HK.out hcs hg)
  have HV3 := Lib.hid hv3
  have HG3 := Lib.hid hgot
  clear hv3 hcs hg hgot
  obtain ⟨c5, f5⟩ := HZ5.out.cell 5 (by omega)
  have hset := HZ5.out.set HK.out 5 (.int .i64 v3) ({ m with ts := v1, id := (v2 : Int), typ := v3 } : M) q rfl HZ5.out.own
  obtain ⟨w6, hw6⟩ : ∃ x, x = w5.setCell ⟨gm, 5, none⟩ (.int .i64 v3) := ⟨_, rfl⟩
  rw [← hw6] at hset
  have HZ6 := Lib.hid hset
  have HWW := Lib.hid hw6
  clear hset hw6
  go_upto_region 20 with fail
  rw [← HWW.out]
  clear HWW c5 f5
  obtain ⟨M6, hM6⟩ : ∃ x : M, x = { m with ts := v1, id := (v2 : Int), typ := v3 } := ⟨_, rfl⟩
  rw [← hM6] at HZ6
  have HM6 := Lib.hid hM6
  have HWM : Hid (WfM M6) := Lib.hid (by
    rw [hM6]
    exact { HWF.out with ts := HV1.out, id := by have := HV2.out; unfold U64; simp only; omega, typ := HV3.out })
  clear hM6
  obtain ⟨W6, hW6⟩ : ∃ x, x = w6 := ⟨_, rfl⟩
  rw [← hW6] at HZ6 ⊢
  clear hW6
  go_wp2_with fail
  go_loopw [11] (fun i wr => ∃ (j : Nat) (l : List Int) (aj : Nat), i = .int .i64 (j : Int) ∧ j ≤ 8 ∧ l.length = j ∧ (∀ v ∈ l, I64 v) ∧ FZ w0 g gm base body ab nb cb w aj (mA M6 l) q wr ∧ (∀ (xs : List Int) (r : List UInt8), (∀ v ∈ xs, I64 v) → xs.length = 8 → body.drop a3 = xs.flatMap bytesI ++ r → l = xs.take j ∧ body.drop aj = (xs.drop j).flatMap bytesI ++ r)) (fun i _ => 8 - (intOf i).toNat)
  case atStart => exact ⟨0, [], a3, rfl, by omega, rfl, fun v hv => by simp at hv, by rw [mA_nil]; exact HZ6.out, fun xs r _ _ h9 => ⟨rfl, h9⟩⟩
  case round =>
    obtain ⟨j, l, aj, rfl, hj, hlj, hlI, hfz, hgt⟩ := hrel
    have HFZ := Lib.hid hfz
    have HGT := Lib.hid hgt
    have HLI := Lib.hid hlI
    have HLJ := Lib.hid hlj
    clear hfz hgt hlI hlj
    by_cases hlt : j < 8
    · have hlt' : (j : Int) < 8 := by omega
      have hj0 : (0 : Int) ≤ j := by omega
      have HME := Lib.hid (meas_lt hlt)
      have hjn : j + 1 ≤ 8 := hlt
      go_wp2_with fail
      refine (cu_int HK.out.rc HFZ.out.cs).mono ?_
      rintro e w7 ⟨v, a2, rfl, hv, hcs, hg, hgot⟩
      have hfz2 := HFZ.out.step HK.out hcs hg
      obtain ⟨c6, f6⟩ := hfz2.cell (6 + j) (by omega)
      have hset := hfz2.set HK.out (6 + j) (.int .i64 v) (mA M6 (l ++ [v])) q (mA_set M6 q l v j HLJ.out hlt) hfz2.own
      have HNX : Hid (∃ (j' : Nat) (l' : List Int) (aj' : Nat), Value.int .i64 ((j : Int) + 1) = .int .i64 (j' : Int) ∧ j' ≤ 8 ∧ l'.length = j' ∧ (∀ v ∈ l', I64 v) ∧ FZ w0 g gm base body ab nb cb w aj' (mA M6 l') q (w7.setCell ⟨gm, 6 + j, none⟩ (.int .i64 v)) ∧ (∀ (xs : List Int) (r : List UInt8), (∀ v ∈ xs, I64 v) → xs.length = 8 → body.drop a3 = xs.flatMap bytesI ++ r → l' = xs.take j' ∧ body.drop aj' = (xs.drop j').flatMap bytesI ++ r)) :=
        Lib.hid ⟨j + 1, l ++ [v], a2, rfl, hjn, by rw [List.length_append, HLJ.out]; rfl, fun u hu => by
          rcases List.mem_append.1 hu with hu | hu
          · exact HLI.out u hu
          · rw [List.mem_singleton.1 hu]; exact hv, hset, fun xs r hI h8 h9 => by
          obtain ⟨k1, k2⟩ := HGT.out xs r hI h8 h9
          have hjx : j < xs.length := by omega
          rw [List.drop_eq_getElem_cons hjx, List.flatMap_cons, List.append_assoc] at k2
          obtain ⟨k3, k4⟩ := hgot xs[j] _ (hI _ (List.getElem_mem hjx)) k2
          exact ⟨by rw [k1, k3, take_snoc xs j hjx], k4⟩⟩
      clear hfz2 hset hgot hcs hg hv
      go_wp2
      go_roundw
      case rel => exact HNX.out
      case measure => exact HME.out
    · have hlt' : ¬ (j : Int) < 8 := by omega
      obtain rfl : j = 8 := by omega
      obtain ⟨m8, hm8⟩ : ∃ x, x = mA M6 l := ⟨_, rfl⟩
      rw [← hm8] at HFZ
      have HM8 := Lib.hid hm8
      clear hm8
      have HWF2 : Hid (WfM m8) := Lib.hid (by rw [HM8.out]; exact mA_wf HWM.out HLI.out)
      have HGOT : Hid (∀ x r, VX x → body.drop at_ = encF "sluice/wire.event" x ++ r → m8 = setF "sluice/wire.event" m x ∧ body.drop aj = r) := Lib.hid (fun x r hx h9 => by
        have he : encF "sluice/wire.event" x = bytesI x.ts ++ (bytesU x.id.toNat ++ (bytesI x.typ ++ (attrs x).flatMap bytesI)) := rfl
        rw [he] at h9
        simp only [List.append_assoc] at h9
        have hid := hx.1.id
        unfold U64 at hid
        obtain ⟨h1, h2⟩ := HG1.out x.ts _ hx.1.ts h9
        obtain ⟨h3, h4⟩ := HG2.out x.id.toNat _ (by show x.id.toNat < _; omega) h2
        obtain ⟨h5, h6⟩ := HG3.out x.typ _ hx.1.typ h4
        obtain ⟨h7, h8⟩ := HGT.out (attrs x) r (fun v hv => by
          unfold attrs at hv
          simp only [List.mem_cons, List.not_mem_nil, or_false] at hv
          rcases hv with rfl | rfl | rfl | rfl | rfl | rfl | rfl | rfl
          · exact hx.1.a0
          · exact hx.1.a1
          · exact hx.1.a2
          · exact hx.1.a3
          · exact hx.1.a4
          · exact hx.1.a5
          · exact hx.1.a6
          · exact hx.1.a7) rfl h6
        have h80 : (attrs x).drop 8 = [] := rfl
        rw [h80] at h8
        refine ⟨?_, h8⟩
        have h10 : (v2 : Int) = x.id := by rw [h3]; omega
        rw [HM8.out, h7, HM6.out, h1, h10, h5]
        rfl)
      have hrg : wr.rangeAt gm 0 (cellsM m8 q) := HFZ.out.blk.whole
      have hth : wr.there (gm + 1) 0 31 := HFZ.out.res.there 0 31 (by decide)
      go_wp2_with (first | ((with_reducible refine at_dst 131 ?_); refine wpList_load_midg rfl _ _ rfl _ _ rfl _ _ hrg Try.underlying50 rfl (by kernel_rfl) ?_) | ((with_reducible refine at_store ?_); refine wpList_store_mid rfl 50 _ _ rfl (gm + 1) 0 (cellsM m8 q).toArray rfl rfl hth (by kernel_rfl) (by kernel_rfl) ?_) | fail)
      refine cf_end HFZ.out HK.out rfl HWF2.out HGOT.out _ ?_ ?_
      all_goals rfl
end Go.Proofs.Ytaipnbpefdcejaa
