/- The walk of the reference's Decode (printed by gen_rdec.py). -/
import Derived.Test.YtaipnbpefdcejaaCu5
set_option linter.unusedVariables false
namespace Go.Proofs.Ytaipnbpefdcejaa
open Go.RowKit
theorem rdec_end {l : List UInt8} {w W : World} {gr : Nat} {m : M} {q : Ps} {n : Nat} {c : Int} (hR : DecR l m n c) (hg : gr = w.heap.size) (hk : Blk W gr 50 (cellsM m q)) (hb : Below w.heap.size w W) (ho : OwnM w.heap.size W m q)
    (a : Act) (h2 : a.tmps.getD 2 undef = .pointer (some ⟨gr, 0, none⟩)) (h3 : a.tmps.getD 3 undef = .int .i64 (n : Int)) (h4 : a.tmps.getD 4 undef = .int .i64 c) (hd : a.defers = []) : bodyPost Try.prog Try.f31 (DecPost l w) Exit.ret a W := by
  have hrf : W.rangeAt gr 0 (cellsM m q) := hk.whole
  have hres := results_cell3 (fn := Try.f31) (t := 2) (t1 := 3) (t2 := 4) (ty := 50) rfl a.tmps Try.prog W gr 0 (.agg (cellsM m q).toArray) h2 (run_loadVar_mid W gr 0 50 (cellsM m q) _ hrf Try.underlying50 rfl (by kernel_rfl))
  rw [h3, h4] at hres
  exact bodyPost_ret hres hd ⟨m, q, n, c, rfl, hR, ho, hb⟩
theorem rdec_zero {l : List UInt8} {w w1 : World} {gr : Nat} {c : Int} (hR : DecR l (zM 0) 0 c) (hg : gr = w.heap.size) (hk : Blk w1 gr 50 cellsZ) (hb : Below w.heap.size w w1)
    (a : Act) (h2 : a.tmps.getD 2 undef = .pointer (some ⟨gr, 0, none⟩)) (h3 : a.tmps.getD 3 undef = .int .i64 0) (h4 : a.tmps.getD 4 undef = .int .i64 c) (hd : a.defers = []) : bodyPost Try.prog Try.f31 (DecPost l w) Exit.ret a (w1.setCells gr 0 cellsZ) := by
  obtain ⟨h5, h6⟩ := put_all (cs := cellsZ) hk rfl
  subst hg
  exact rdec_end (m := zM 0) (q := zP) (n := 0) hR rfl h5 (below_gr hb h6) (ownZ _ _ _) a h2 h3 h4 hd
theorem cf_any2 {s : String} (hs : s ∈ tenL) (b : Int) (hb : b = ((letter s).toNat : Int)) {w0 : World} {g base : Nat} {body : List UInt8} {ab : Option Addr} {nb cb at_ : Nat} {m : M} {q : Ps} {w : World} (hc : RC w0 g body ab nb cb) (h : CS w0 g body ab nb cb at_ w) (hlt : g < base) (hle : base ≤ w.heap.size) (hnb : nb ≤ 1073741824) (hwf : WfM m) (ho : OwnM base w m q) :
    Calls Try.prog 52 #[.pointer (some ⟨g, 0, none⟩), valM m q, .int .u8 b] w (CuField s w0 g base body ab nb cb at_ m w) := by
  subst hb
  exact cf_any hs hc h hlt hle hnb hwf ho
theorem in_max {m : M} (h : WfM m) (hp : properM m) : (inM m).length ≤ 68719476736 := by
  have h0 := room_le h hp
  have h1 := h.sl
  have h2 := h.ql
  have h3 := h.il
  have h4 := h.nl
  have h5 := h.ll
  have h6 := h.vl
  unfold roomM at h0
  omega
theorem rd_drop2 {w : World} {g off : Nat} {l : List UInt8} (h : Rd w (some ⟨g, off, none⟩) (l.map B)) (k : Nat) : Rd w (some ⟨g, off + k, none⟩) ((l.drop k).map B) := by
  rcases h with h0 | ⟨b, o, h1, hc⟩
  · refine .inl ?_
    have : l = [] := by simpa using h0
    simp [this]
  · cases h1
    refine .inr ⟨g, off + k, rfl, fun i u hu => ?_⟩
    rw [List.map_drop, List.getElem?_drop] at hu
    rw [Nat.add_assoc]
    exact hc _ u hu
/-- The world's first blocks. -/
def trunc (W : World) (g : Nat) : World := { W with heap := W.heap.extract 0 g }
theorem trunc_size {W : World} {g : Nat} (h : g ≤ W.heap.size) : (trunc W g).heap.size = g := by
  show (W.heap.extract 0 g).size = g
  rw [Array.size_extract]; omega
theorem trunc_get {W : World} {g k : Nat} (h : g ≤ W.heap.size) (hk : k < g) : W.heap[k]? = (trunc W g).heap[k]? := by
  show _ = (W.heap.extract 0 g)[k]?
  rw [Array.getElem?_extract]
  simp
  omega
theorem trunc_below {W : World} {g : Nat} (h : g ≤ W.heap.size) : Below (trunc W g).heap.size (trunc W g) W := by
  have h1 := trunc_size h
  exact ⟨rfl, rfl, rfl, by omega, fun k hk => trunc_get h (by omega)⟩
theorem trunc_rd {W : World} {g : Nat} {a : Option Addr} {vs : List Value} (h : g ≤ W.heap.size) (hr : Rd W a vs) (ha : ∀ x, a = some x → x.block < g) : Rd (trunc W g) a vs := by
  rcases hr with h0 | ⟨b, off, rfl, hc⟩
  · exact .inl h0
  · refine .inr ⟨b, off, rfl, fun i u hu => ?_⟩
    exact (World.cell?_of_block (w := trunc W g) (w' := W) (a := ⟨b, off + i, none⟩) (trunc_get h (ha ⟨b, off, none⟩ rfl))).symm.trans (hc i u hu)
/-- What is so while the fields are read. -/
structure DZ (w : World) (gr gm g : Nat) (a : Option Addr) (l body : List UInt8) (ab : Option Addr) (nb cb : Nat) (z : Int) (j : Nat) (m : M) (q : Ps) (aj : Nat) (W : World) : Prop where
  cu : Blk W g 95 [.slice ab nb cb, .int .i64 (aj : Int)]
  at_ : aj ≤ nb
  rb : Rd W ab (body.map B)
  blk : Blk W gm 50 (cellsM m q)
  zr : Blk W gr 50 cellsZ
  zn : Blk W (gr + 1) 50 cellsZ
  wf : WfM m
  own : OwnM (g + 1) W m q
  rd : Rd W a (l.map B)
  bel : Below w.heap.size w W
  le : g + 1 ≤ W.heap.size
  ok : ∀ x, VX x → properM x → UInt8.ofNat z.toNat :: body = inM x → ((ordL z).take j).foldl (fun z s => setF s z x) (zM z) = m ∧ body.drop aj = ((ordL z).drop j).flatMap fun s => encF s x
structure DK (w : World) (gr gm g : Nat) (a : Option Addr) (body : List UInt8) (ab : Option Addr) (nb cb : Nat) : Prop where
  len : body.length = nb
  cap : nb ≤ cb
  base : gr = w.heap.size
  o1 : gr + 1 < gm
  o2 : gm < g
  nb : nb ≤ 1048576
  ab : ∀ x, ab = some x → x.block < g ∧ x.block ≠ gm
  a : ∀ x, a = some x → x.block < w.heap.size
section
variable {w : World} {gr gm g : Nat} {a : Option Addr} {l body : List UInt8} {ab : Option Addr} {nb cb : Nat} {z : Int} {j : Nat} {m : M} {q : Ps} {aj : Nat} {W W' : World}
theorem DZ.rc (hk : DK w gr gm g a body ab nb cb) (h : DZ w gr gm g a l body ab nb cb z j m q aj W) : RC (trunc W g) g body ab nb cb ∧ CS (trunc W g) g body ab nb cb aj W := by
  have hle := h.le
  have hs := trunc_size (W := W) (g := g) (by omega)
  exact ⟨⟨trunc_rd (by omega) h.rb (fun x hx => (hk.ab x hx).1), hk.len, by have := hk.nb; omega, Nat.le_of_eq hs, hk.cap⟩, h.cu, h.at_, trunc_below (by omega)⟩
theorem DZ.below (h : DZ w gr gm g a l body ab nb cb z j m q aj W) (hb : Below W.heap.size W W') : DZ w gr gm g a l body ab nb cb z j m q aj W' :=
  ⟨h.cu.below hb, h.at_, h.rb.below hb, h.blk.below hb, h.zr.below hb, h.zn.below hb, h.wf, h.own.below hb, h.rd.below hb, h.bel.trans (hb.mono h.bel.size), Nat.le_trans h.le hb.size, h.ok⟩
theorem DZ.drew (h : DZ w gr gm g a l body ab nb cb z j m q aj W) : DZ w gr gm g a l body ab nb cb z j m q aj W.drew := h.below (below_draws (n := 1) W)
/-- One field is read, and the message stored. -/
theorem DZ.next {m' : M} {q' : Ps} {a2 : Nat} {s : String} (hk : DK w gr gm g a body ab nb cb) (h : DZ w gr gm g a l body ab nb cb z j m q aj W) (hj : j < (ordL z).length) (hs : s = (ordL z)[j])
    (hwf : WfM m') (hcs : CS (trunc W g) g body ab nb cb a2 W') (hg : W.grownBy W' (some g)) (ho : OwnM (g + 1) W' m' q') (hgot : ∀ x r, VX x → body.drop aj = encF s x ++ r → m' = setF s m x ∧ body.drop a2 = r) :
    (W'.there gm 0 31) ∧ DZ w gr gm g a l body ab nb cb z (j + 1) m' q' a2 (W'.setCells gm 0 (cellsM m' q')) := by
  have h1 := hk.o1
  have h2 := hk.o2
  have hgr := hk.base
  have hbm := blk_g (by omega) h.blk hg
  obtain ⟨k1, k2⟩ := put_all (cs := cellsM m' q') hbm rfl
  have hb1 : Below w.heap.size w W' := h.bel.trans (by refine ⟨hg.os, hg.tape, hg.output, hg.size, fun k hk2 => hg.block k (Nat.lt_of_lt_of_le hk2 h.bel.size) (by intro e; cases e; omega)⟩)
  have hb2 : Below w.heap.size w (W'.setCells gm 0 (cellsM m' q')) := hb1.trans (by refine ⟨k2.os, k2.tape, k2.output, k2.size, fun k hk2 => k2.block k (Nat.lt_of_lt_of_le hk2 hb1.size) (by intro e; cases e; omega)⟩)
  have hrb := (h.rb.grown hg (fun b off e => by have := (hk.ab _ e).1; dsimp only at this; omega)).grown k2 (fun b off e => (hk.ab _ e).2)
  have hrd := (h.rd.grown hg (fun b off e => by have := hk.a _ e; dsimp only at this; omega)).grown k2 (fun b off e => by have := hk.a _ e; dsimp only at this; omega)
  refine ⟨hbm.there 0 31 (Nat.le_refl _), blk_g (by omega) hcs.1 k2, hcs.2.1, hrb, k1, blk_g (by omega) (blk_g (by omega) h.zr hg) k2, blk_g (by omega) (blk_g (by omega) h.zn hg) k2, hwf, ho.off hbm k2, hrd, hb2, Nat.le_trans (Nat.le_trans h.le hg.size) k2.size, ?_⟩
  intro x hx px he
  obtain ⟨e1, e2⟩ := h.ok x hx px he
  rw [List.drop_eq_getElem_cons hj, ← hs, List.flatMap_cons] at e2
  obtain ⟨e3, e4⟩ := hgot x _ hx e2
  refine ⟨?_, e4⟩
  rw [take_snoc _ j hj, ← hs, List.foldl_append, e1, e3]
  rfl
end
set_option maxHeartbeats 4000000 in
set_option maxRecDepth 20000 in
theorem rdecode_any (a : Option Addr) (nb cap : Nat) (l : List UInt8) (w : World) (hn : l.length = nb) (hmax : nb ≤ 140737488355328) (hcap : nb ≤ cap) (hr : Rd w a (l.map B)) : Calls Try.prog 31 #[.slice a nb cap] w (DecPost l w) := by
  obtain ⟨e0, hu⟩ := upost_ex l 0 (Nat.zero_le _)
  have hcs := hu.cases (Nat.zero_le _)
  obtain ⟨w1, hw1⟩ : ∃ w1, w1 = (w.alloc (.cells cellsZ.toArray 50)).alloc (.cells cellsZ.toArray 50) := ⟨_, rfl⟩
  obtain ⟨gr, hgr⟩ : ∃ g, g = w.heap.size := ⟨_, rfl⟩
  have hb1 : Below w.heap.size w w1 := by rw [hw1]; exact ((Below.refl _ _).alloc (Nat.le_refl _) _).alloc (by simp) _
  have hk1 : Blk w1 gr 50 cellsZ := by rw [hw1, hgr]; exact (Blk.new w _ 50).alloc _
  have hn1 : Blk w1 (gr + 1) 50 cellsZ := by
    have := Blk.new (w.alloc (.cells cellsZ.toArray 50)) cellsZ 50
    rw [World.size_alloc] at this
    rw [hw1, hgr]
    exact this
  have hr1 := hr.below hb1
  unfold cellsZ at hw1
  have HGR := Lib.hid hgr
  have HN := Lib.hid hn
  obtain ⟨v0, hv0⟩ : ∃ v0 : Value, e0 = .returned v0 := by
    rcases hcs with ⟨n, en, h1, _⟩ | ⟨er, h1, _⟩
    · exact ⟨_, h1⟩
    · exact ⟨_, h1⟩
  subst hv0
  have HU := Lib.hid hu
  have HCS := Lib.hid hcs
  go_enter Try.func31, Try.ntmps31
  go_wp2_with fail
  rw [← HGR.out]
  rw [← hw1]
  have HA : Hid (∀ x, a = some x → x.block < w.heap.size ∨ l = []) := Lib.hid (fun x hx => by
    rcases hr with h0 | ⟨b, off, hb, hc⟩
    · exact .inr (by simpa using h0)
    · by_cases hl : l = []
      · exact .inr hl
      · left
        have hpos : 0 < l.length := List.length_pos_iff.2 hl
        have h9 := hc 0 (B l[0]) (by rw [List.getElem?_map, List.getElem?_eq_getElem hpos]; rfl)
        rw [hb] at hx
        cases hx
        exact World.block_lt_of_cell? w _ h9)
  clear hw1 hu hcs hgr hn
  refine (ruint_any a cap nb l 0 w1 HN.out hmax (by omega) hr1).mono ?_
  rintro e w2 ⟨hu2, hb2⟩
  obtain rfl := hu2.unique HU.out
  have hzr := hk1.below hb2
  have hzn := hn1.below hb2
  have hr2 := hr1.below hb2
  have hbw := hb1.trans (hb2.mono hb1.size)
  clear hu2 hb2 hk1 hn1 hb1 hr1 hr
  rcases HCS.out with ⟨u, en, he, hu1, hu2, hu3, hu4⟩ | ⟨er, he, her, her2, hno⟩
  · have hv : v0 = T3 u en 0 := by injection he
    have hen : en ≤ nb := by rw [← HN.out]; exact hu4
    have hRR : ∀ m n c, _ → DecR l m n c := fun m n c h => ⟨u, en, 0, by rw [← hv]; exact HU.out, hu1, .inr ⟨rfl, by simpa using hu2, by rw [hu3]; omega, hu4, h⟩⟩
    have HRR := Lib.hid hRR
    subst hv
    rw [T3]
    clear hRR hu2 hu3 hu4 he HU HCS
    by_cases hA : u < 1
    · have hA' : (u : Int) = 0 := by omega
      have hA1 := eql_of hA'
      have HD := Lib.hid (HRR.out (zM 0) 0 211 (.inl ⟨.inl hA, rfl, rfl, rfl⟩))
      have HZR := Lib.hid hzr
      have HBW := Lib.hid hbw
      have hrgz := hzn.whole
      have hthz := hzr.there 0 31 (Nat.le_refl _)
      clear hzr hzn hbw
      go_wp2_with (first | ((with_reducible refine at_dst 33 ?_); refine wpList_load_midg rfl _ _ rfl _ _ rfl _ _ hrgz Try.underlying50 rfl (by kernel_rfl) ?_) | ((with_reducible refine at_store ?_); refine wpList_store_mid rfl 50 _ _ rfl gr 0 (cellsZ).toArray rfl rfl hthz (by kernel_rfl) (by kernel_rfl) ?_) | fail)
      exact rdec_zero HD.out HGR.out HZR.out HBW.out _ rfl rfl rfl rfl
    · have hA' : ¬ (u : Int) = 0 := by omega
      have hA1 := eql_of' hA'
      by_cases hA2 : 1048576 < u
      · have hA3 : (1048576 : Int) < u := by omega
        have hA4 : (u : Int) > 1048576 := by omega
        have HD := Lib.hid (HRR.out (zM 0) 0 211 (.inl ⟨.inr hA2, rfl, rfl, rfl⟩))
        have HZR := Lib.hid hzr
        have HBW := Lib.hid hbw
        have hrgz := hzn.whole
        have hthz := hzr.there 0 31 (Nat.le_refl _)
        clear hzr hzn hbw
        go_wp2_with (first | ((with_reducible refine at_dst 33 ?_); refine wpList_load_midg rfl _ _ rfl _ _ rfl _ _ hrgz Try.underlying50 rfl (by kernel_rfl) ?_) | ((with_reducible refine at_store ?_); refine wpList_store_mid rfl 50 _ _ rfl gr 0 (cellsZ).toArray rfl rfl hthz (by kernel_rfl) (by kernel_rfl) ?_) | fail)
        exact rdec_zero HD.out HGR.out HZR.out HBW.out _ rfl rfl rfl rfl
      · have hA3 : ¬ (1048576 : Int) < u := by omega
        have hA4 : ¬ (u : Int) > 1048576 := by omega
        have hs3 : IntKind.i64.wrap (u : Int) = u := by rw [IntKind.wrap_i64]; omega
        have hs3' : wrap64 (u : Int) = u := by unfold wrap64; omega
        have hs4 : IntKind.i64.wrap ((en : Int) + u) = (en : Int) + u := by rw [IntKind.wrap_i64]; omega
        have hs5 : IntKind.i64.wrap ((en : Int) + 1) = (en : Int) + 1 := by rw [IntKind.wrap_i64]; omega
        by_cases hB : nb - en < u
        · have hB' : (nb : Int) < (en : Int) + u := by omega
          have hB2 : (en : Int) + u > nb := by omega
          have HD := Lib.hid (HRR.out (zM 0) 0 210 (.inr (.inl ⟨by omega, by omega, by rw [HN.out]; omega, rfl, rfl, rfl⟩)))
          have HZR := Lib.hid hzr
          have HBW := Lib.hid hbw
          have hrgz := hzn.whole
          have hthz := hzr.there 0 31 (Nat.le_refl _)
          clear hzr hzn hbw
          go_wp2_with (first | ((with_reducible refine at_dst 42 ?_); refine wpList_load_midg rfl _ _ rfl _ _ rfl _ _ hrgz Try.underlying50 rfl (by kernel_rfl) ?_) | ((with_reducible refine at_store ?_); refine wpList_store_mid rfl 50 _ _ rfl gr 0 (cellsZ).toArray rfl rfl hthz (by kernel_rfl) (by kernel_rfl) ?_) | fail)
          exact rdec_zero HD.out HGR.out HZR.out HBW.out _ rfl rfl rfl rfl
        · have hB' : ¬ (nb : Int) < (en : Int) + u := by omega
          have hB2 : ¬ (en : Int) + u > nb := by omega
          have hlne : l ≠ [] := by intro h0; have h9 := HN.out; rw [h0, List.length_nil] at h9; omega
          obtain ⟨bk, off, rfl, hc⟩ := hr2.cells (by intro h0; have h9 := congrArg List.length h0; rw [List.length_map, List.length_nil, HN.out] at h9; omega)
          have hcn := hc en (by rw [List.length_map, HN.out]; omega)
          rw [List.getElem_map, B] at hcn
          obtain ⟨z, hz⟩ : ∃ z : Int, z = ((l[en]'(by rw [HN.out]; omega)).toNat : Int) := ⟨_, rfl⟩
          rw [← hz] at hcn
          have hz0 : 0 ≤ z := by omega
          have hz1 : z < 256 := by have := (l[en]'(by rw [HN.out]; omega)).toNat_lt; omega
          have hwz : IntKind.i64.wrap z = z := by rw [IntKind.wrap_i64]; omega
          have hwz' : wrap64 z = z := by unfold wrap64; omega
          have hen2 : (en : Int) < nb := by omega
          have HZ := Lib.hid hz
          have HLNE := Lib.hid hlne
          clear hz hc hlne
          obtain ⟨hkk, hkb, hth⟩ := new_msg w2 (zM z) zP
          obtain ⟨w4, hw4⟩ : ∃ x, x = (w2.alloc (.cells cellsZ.toArray 50)).setCells w2.heap.size 0 (cellsM (zM z) zP) := ⟨_, rfl⟩
          rw [← hw4] at hkk hkb
          unfold cellsZ at hth hw4
          have HWB := Lib.hid hw4
          clear hw4
          have HZR := Lib.hid hzr
          have HZN := Lib.hid hzn
          have HBW := Lib.hid hbw
          have HR2 := Lib.hid hr2
          have HKB := Lib.hid hkb
          have HKK := Lib.hid hkk
          clear hzr hzn hbw hr2 hkb hkk
          go_upto_region 11 with (first | ((with_reducible refine at_store ?_); refine wpList_store_mid rfl 50 _ _ rfl w2.heap.size 0 (cellsM (zM z) zP).toArray rfl rfl hth (by kernel_rfl) (by kernel_rfl) ?_; rw [← HWB.out]) | fail)
          clear hth HWB hcn
          obtain ⟨gm, hgm⟩ : ∃ x, x = w2.heap.size := ⟨_, rfl⟩
          rw [← hgm]
          have HGM := Lib.hid hgm
          clear hgm
          obtain ⟨body, hbody⟩ : ∃ x, x = (l.drop (en + 1)).take (u - 1) := ⟨_, rfl⟩
          have HBODY := Lib.hid hbody
          have HBL : Hid (body.length = u - 1) := Lib.hid (by rw [hbody, List.length_take, List.length_drop, HN.out]; omega)
          have hrd4 := HR2.out.below HKB.out
          have HRD4 : Hid (∀ P : Option Addr, (0 < u - 1 → P = (some (⟨bk, off, none⟩ : Addr)).map (·.add ((en + 1) * 1))) → Rd w4 P (body.map B)) := Lib.hid (fun P hP => by
            have h := hrd4.sub (en + 1) (en + u) (by rw [List.length_map, HN.out]; omega) P (fun h => hP (by omega))
            rw [← List.map_take, ← List.map_drop, List.drop_take, show en + u - (en + 1) = u - 1 by omega, ← hbody] at h
            exact h)
          have hNu : en + u - (en + 1) = u - 1 := by omega
          have HNU := Lib.hid hNu
          clear hbody hrd4 hNu
          by_cases hcp : cap = en + 1
          · subst hcp
            go_wp2_with fail
            refine (rcopied_n (some ⟨bk, off, none⟩) 0 (en + u - (en + 1)) body w4 (by rw [HBL.out, HNU.out]) (by omega) (HRD4.out (some ⟨bk, off, none⟩) (fun h => by omega))).mono ?_
            rintro e w5 ⟨a5, c5, rfl, hown5, hb5⟩
            obtain ⟨N, hN⟩ : ∃ x, x = en + u - (en + 1) := ⟨_, rfl⟩
            rw [← hN] at hown5 ⊢
            rw [HNU.out] at hN
            have HNN := Lib.hid hN
            obtain ⟨w6, hw6⟩ : ∃ x, x = w5.alloc (.cells #[.slice a5 N c5, .int .i64 0] 95) := ⟨_, rfl⟩
            have hbg : Blk w6 w5.heap.size 95 [.slice a5 N c5, .int .i64 0] := by rw [hw6]; exact Blk.new w5 [.slice a5 N c5, .int .i64 0] 95
            have hb56 : Below w5.heap.size w5 w6 := by rw [hw6]; exact (Below.refl _ _).alloc (Nat.le_refl _) _
            have hsz6 : w6.heap.size = w5.heap.size + 1 := by rw [hw6]; exact World.size_alloc _ _
            have HW6 := Lib.hid hw6
            clear hw6 hN
            go_upto_region 12 with fail
            rw [← HW6.out]
            obtain ⟨g, hg⟩ : ∃ x, x = w5.heap.size := ⟨_, rfl⟩
            rw [← hg] at hbg hsz6 ⊢
            have hb46 : Below w4.heap.size w4 w6 := hb5.trans (hb56.mono hb5.size)
            have hb26 : Below w2.heap.size w2 w6 := HKB.out.trans (hb46.mono HKB.out.size)
            have hgm4 : gm < w4.heap.size := by rw [HGM.out]; exact HKK.out.lt
            have h45 : w4.heap.size ≤ w5.heap.size := hb5.size
            have hgr2 : gr + 1 < gm := by rw [HGM.out]; exact HZN.out.lt
            have hDK : DK w gr gm g (some ⟨bk, off, none⟩) body a5 N c5 := ⟨by rw [HBL.out, HNN.out], own_cap hown5, HGR.out, hgr2, by omega, by rw [HNN.out]; omega, fun x hx => by
              subst hx
              have h9 := hown5.lt x.block rfl
              constructor
              · rw [hg]; exact h9.2
              · intro h10; omega, fun x hx => by
              rcases HA.out x hx with h9 | h9
              · exact h9
              · exact (HLNE.out h9).elim⟩
            have hDZ : DZ w gr gm g (some ⟨bk, off, none⟩) l body a5 N c5 z 0 (zM z) zP 0 w6 := ⟨hbg, Nat.zero_le _, (ownsRow_rd hown5).below hb56, by rw [HGM.out]; exact HKK.out.below hb46, HZR.out.below hb26, HZN.out.below hb26, (vxZ z hz0 hz1).1, ownZ _ _ _, HR2.out.below hb26, HBW.out.trans (hb26.mono HBW.out.size), by omega, fun x hx px he => by
              obtain ⟨k1, k2⟩ := kind_eq px hz0 hz1 he
              exact ⟨rfl, by rw [List.drop_zero, List.drop_zero]; exact k2⟩⟩
            have HDK := Lib.hid hDK
            have HDZ := Lib.hid hDZ
            have c0 : w6.cell? ⟨gm, 0, none⟩ = some (.int .i64 z) := hDZ.blk.cell 0 (by rw [cellsM_len]; omega)
            clear hDK hDZ hbg hb56 hsz6 hb46 hb26 hgm4 h45 hgr2 hb5 hown5 hg HKB HKK HZR HZN HBW HR2 HRD4
            go_wp2_with fail
            refine (named_any z w6).mono ?_
            rintro e _ ⟨rfl, rfl⟩
            clear c0
            obtain ⟨L, hL⟩ : ∃ L, L = ordL z := ⟨_, rfl⟩
            obtain ⟨nl, hnl⟩ : ∃ n, n = L.length := ⟨_, rfl⟩
            have hnl3 : nl ≤ 3 := by rw [hnl, hL]; exact ordL_len3 _
            have hten : ∀ s ∈ L, s ∈ tenL := by rw [hL]; exact ordL_ten z
            have hnm : namedL z = L.map letter := by rw [hL]; exact named_ord z
            rw [hnm]
            have hsz : (⟨(L.map letter).toArray⟩ : ByteArray).size = nl := by rw [hnl]; show (L.map letter).toArray.size = _; simp
            obtain ⟨S, hS⟩ : ∃ S : ByteArray, S = ⟨(L.map letter).toArray⟩ := ⟨_, rfl⟩
            have hget : ∀ j (h : j < L.length), ∃ h2 : j < S.size, S[j] = letter L[j] := by
              intro j h
              subst hS
              refine ⟨by rw [hsz, hnl]; exact h, ?_⟩
              show (L.map letter).toArray[j]'(by simpa using h) = _
              simp
            unfold strB
            rw [← hS] at hsz ⊢
            have HL := Lib.hid hL
            have HNL := Lib.hid hnl
            have HTEN := Lib.hid hten
            have HGET := Lib.hid hget
            clear hL hnl hten hnm hS hget
            go_wp2_with fail
            obtain ⟨W6, hW6⟩ : ∃ x, x = w6 := ⟨_, rfl⟩
            rw [← hW6] at HDZ ⊢
            clear hW6 HW6
            go_loopw [13] (fun i wr => ∃ (j : Nat) (m : M) (q : Ps) (aj : Nat), j ≤ nl ∧ i = .int .i64 (j : Int) ∧ DZ w gr gm g (some ⟨bk, off, none⟩) l body a5 N c5 z j m q aj wr) (fun i _ => nl - (intOf i).toNat)
            case atStart => exact ⟨0, zM z, zP, 0, Nat.zero_le _, rfl, HDZ.out⟩
            case round =>
              obtain ⟨j, m, q, aj, hj, rfl, hdz⟩ := hrel
              by_cases hlt : j < nl
              · have hjl : j < L.length := by rw [← HNL.out]; exact hlt
                have hjo : j < (ordL z).length := by rw [← HL.out]; exact hjl
                have hlt' : (j : Int) < nl := by omega
                obtain ⟨hjs, hgt⟩ := HGET.out j hjl
                obtain ⟨s, hs⟩ : ∃ s, s = L[j] := ⟨_, rfl⟩
                have hten := HTEN.out s (by rw [hs]; exact List.getElem_mem hjl)
                rw [← hs] at hgt
                have hso : s = (ordL z)[j] := by
                  rw [hs]
                  first
                    | (congr 1; done)
                    | (congr 1; exact HL.out)
                have HME := Lib.hid (meas_lt hlt)
                have hjn : j + 1 ≤ nl := hlt
                have HTT := Lib.hid hten
                have hgt' : ((S[j].toNat : Nat) : Int) = ((letter s).toNat : Int) := by rw [hgt]
                have HGT := Lib.hid hgt'
                have HSO := Lib.hid hso
                have hdd := hdz.drew
                have hrgd : wr.drew.rangeAt gm 0 (cellsM m q) := hdd.blk.whole
                have HDD := Lib.hid hdd
                clear hs hten hgt hgt' hso hdd hdz
                go_wp2
                refine wp_region_still_tail 5 (by kernel_rfl) (by kernel_rfl) ?_
                simp only [List.take_succ_cons, List.take_zero, List.drop_succ_cons, List.drop_zero]
                still_step
                refine wpStill_load_mid rfl _ _ rfl _ _ rfl _ _ hrgd Try.underlying50 rfl (by kernel_rfl) ?_
                still_step
                still_step
                still_step
                refine wpStill_nil ?_
                change wpList _ _ _ _ _ wr.drew
                have hd := HDD.out
                obtain ⟨W7, hW7⟩ : ∃ W5, W5 = wr.drew := ⟨_, rfl⟩
                rw [← hW7] at hd ⊢
                have HD7 := Lib.hid hd
                clear hW7 hd hrgd HDD
                go_wp2_with fail
                refine (cf_any2 HTT.out _ HGT.out (HD7.out.rc HDK.out).1 (HD7.out.rc HDK.out).2 (Nat.lt_succ_self g) HD7.out.le (by have := HDK.out.nb; omega) HD7.out.wf HD7.out.own).mono ?_
                rintro e w8 ⟨m', q', a8, rfl, hwf8, hcs8, hg8, ho8, hgot8⟩
                obtain ⟨hth8, hnext⟩ := HD7.out.next HDK.out hjo HSO.out hwf8 hcs8 hg8 ho8 hgot8
                have HNX : Hid (∃ (j' : Nat) (m2 : M) (q2 : Ps) (aj2 : Nat), j' ≤ nl ∧ Value.int .i64 ((j : Int) + 1) = .int .i64 (j' : Int) ∧ DZ w gr gm g (some ⟨bk, off, none⟩) l body a5 N c5 z j' m2 q2 aj2 (w8.setCells gm 0 (cellsM m' q'))) := Lib.hid ⟨j + 1, m', q', a8, hjn, rfl, hnext⟩
                clear hwf8 hcs8 hg8 ho8 hgot8 hnext
                go_wp2_with (first | ((with_reducible refine at_store ?_); refine wpList_store_mid rfl 50 _ _ rfl gm 0 (cellsM m' q').toArray rfl rfl hth8 (by kernel_rfl) (by kernel_rfl) ?_) | fail)
                go_roundw
                case rel => exact HNX.out
                case measure => exact HME.out
              · have hlt' : ¬ (j : Int) < nl := by omega
                have hjL : (ordL z).take j = ordL z := by rw [← HL.out]; exact List.take_of_length_le (by rw [← HNL.out]; omega)
                have hcons := body_cons (l := l) (en := en) (u := u) (z := z) (by rw [HN.out]; omega) (by omega) HZ.out
                rw [← HBODY.out] at hcons
                have hmatch : ∀ x, VX x → properM x → (l.drop en).take u = inM x → m = x := fun x hx px he => by
                  rw [hcons] at he
                  obtain ⟨k1, k2⟩ := hdz.ok x hx px he
                  rw [hjL] at k1
                  have k3 := (kind_eq px hz0 hz1 he).1
                  have k4 := proper_built px
                  rw [k3] at k4
                  rw [← k1, k4]
                have HMT := Lib.hid hmatch
                have HDZ2 := Lib.hid hdz
                have hrgm : wr.rangeAt gm 0 (cellsM m q) := hdz.blk.whole
                clear hjL hcons hmatch hdz
                go_wp2_with (first | ((with_reducible refine at_dst 72 ?_); refine wpList_load_midg rfl _ _ rfl _ _ rfl _ _ hrgm Try.underlying50 rfl (by kernel_rfl) ?_) | fail)
                refine (rproper_any m q wr HDZ2.out.own.rd HDZ2.out.wf.vl).mono ?_
                rintro e w9 ⟨b, rfl, hpb, hb9⟩
                rw [proper_iff] at hpb
                have HD9 := Lib.hid (HDZ2.out.below hb9)
                have HPB := Lib.hid hpb
                clear hpb hb9 hrgm HDZ2
                have HNO : Hid ((∀ x, VX x → properM x → (l.drop en).take u ≠ inM x) → DecR l (zM 0) 0 212) := Lib.hid (fun h => HRR.out (zM 0) 0 212 (.inr (.inr ⟨by omega, by omega, by rw [HN.out]; omega, .inr ⟨rfl, rfl, rfl, h⟩⟩)))
                cases b with
                | false =>
                  have HD := Lib.hid (HNO.out (fun x hx px he => by
                    have h9 := HMT.out x hx px he
                    have h10 : properM m := by rw [h9]; exact px
                    exact Bool.false_ne_true (HPB.out.2 h10)))
                  have hzr := HD9.out.zr
                  have hzn := HD9.out.zn
                  have hbw := HD9.out.bel
                  have HZR := Lib.hid hzr
                  have HBW := Lib.hid hbw
                  have hrgz := hzn.whole
                  have hthz := hzr.there 0 31 (Nat.le_refl _)
                  clear hzr hzn hbw
                  go_wp2_with (first | ((with_reducible refine at_dst 76 ?_); refine wpList_load_midg rfl _ _ rfl _ _ rfl _ _ hrgz Try.underlying50 rfl (by kernel_rfl) ?_) | ((with_reducible refine at_store ?_); refine wpList_store_mid rfl 50 _ _ rfl gr 0 (cellsZ).toArray rfl rfl hthz (by kernel_rfl) (by kernel_rfl) ?_) | fail)
                  exact rdec_zero HD.out HGR.out HZR.out HBW.out _ rfl rfl rfl rfl
                | true =>
                  have hpm := HPB.out.1 rfl
                  have HPM := Lib.hid hpm
                  have hrgm9 : w9.rangeAt gm 0 (cellsM m q) := HD9.out.blk.whole
                  clear hpm
                  go_wp2_with (first | ((with_reducible refine at_dst 77 ?_); refine wpList_load_midg rfl _ _ rfl _ _ rfl _ _ hrgm9 Try.underlying50 rfl (by kernel_rfl) ?_) | fail)
                  refine (inside_any m q w9 HD9.out.wf HPM.out.1 (kind_rng HPM.out).1 HD9.out.own.rd).mono ?_
                  rintro e w10 ⟨a10, n10, c10, rfl, hn10, hown10, hb10⟩
                  have HD10 := Lib.hid (HD9.out.below hb10)
                  have hf10 := ownsRow_rd hown10
                  have hrt := rd_take (rd_drop2 HD10.out.rd en) u
                  have HN10 := Lib.hid hn10
                  have HLU : Hid (((l.drop en).take u).length = u) := Lib.hid (by rw [List.length_take, List.length_drop, HN.out]; omega)
                  have HF10 := Lib.hid hf10
                  have HRT := Lib.hid hrt
                  have hnb10 : n10 ≤ 140737488355328 := by have h9 := in_max HD9.out.wf HPM.out; omega
                  have i1 : (en : Int) + u ≤ (en + 1) := by omega
                  have i2 : (en : Int) ≤ (en : Int) + u := by omega
                  have i3 : en < (en + 1) := by omega
                  have i4 : en + u ≤ (en + 1) := by omega
                  clear hrgm9 hn10 hown10 hb10 hf10 hrt
                  go_wp2_with fail
                  refine (same_n a10 (some ⟨bk, off + en, none⟩) c10 _ n10 u (inM m) ((l.drop en).take u) w10 HN10.out HLU.out hnb10 HF10.out HRT.out).mono ?_
                  rintro e w11 ⟨rfl, hb11⟩
                  have HD11 := Lib.hid (HD10.out.below hb11)
                  clear hb11
                  by_cases heq : inM m = (l.drop en).take u
                  · rw [beq_iff_eq.2 heq]
                    have HD := Lib.hid (HRR.out m (en + u) 0 (.inr (.inr ⟨by omega, by omega, by rw [HN.out]; omega, .inl ⟨rfl, VX.of HD11.out.wf HPM.out, HPM.out, heq.symm, rfl⟩⟩)))
                    have hrg11 : w11.rangeAt gm 0 (cellsM m q) := HD11.out.blk.whole
                    have hthr := HD11.out.zr.there 0 31 (Nat.le_refl _)
                    have hend := put_all (cs := cellsM m q) HD11.out.zr rfl
                    have hown2 := (HD11.out.own.off HD11.out.zr hend.2).low (base' := w.heap.size) (by have h1 := HDK.out.o1; have h2 := HDK.out.o2; have h3 := HDK.out.base; omega)
                    have hbe : Below w.heap.size w (w11.setCells gr 0 (cellsM m q)) := below_gr HD11.out.bel (by rw [← HGR.out]; exact hend.2)
                    have HEND := Lib.hid hend.1
                    have HOWN := Lib.hid hown2
                    have HBE := Lib.hid hbe
                    clear heq hend hown2 hbe
                    go_wp2_with (first | ((with_reducible refine at_dst 88 ?_); refine wpList_load_midg rfl _ _ rfl _ _ rfl _ _ hrg11 Try.underlying50 rfl (by kernel_rfl) ?_) | ((with_reducible refine at_store ?_); refine wpList_store_mid rfl 50 _ _ rfl gr 0 (cellsM m q).toArray rfl rfl hthr (by kernel_rfl) (by kernel_rfl) ?_) | fail)
                    exact rdec_end HD.out HGR.out HEND.out HBE.out HOWN.out _ rfl rfl rfl rfl
                  · rw [beq_false_of_ne heq]
                    have HD := Lib.hid (HNO.out (fun x hx px he => by
                      have h9 := HMT.out x hx px he
                      exact heq (by rw [he, h9])))
                    have hzr := HD11.out.zr
                    have hzn := HD11.out.zn
                    have hbw := HD11.out.bel
                    have HZR := Lib.hid hzr
                    have HBW := Lib.hid hbw
                    have hrgz := hzn.whole
                    have hthz := hzr.there 0 31 (Nat.le_refl _)
                    clear hzr hzn hbw
                    go_wp2_with (first | ((with_reducible refine at_dst 87 ?_); refine wpList_load_midg rfl _ _ rfl _ _ rfl _ _ hrgz Try.underlying50 rfl (by kernel_rfl) ?_) | ((with_reducible refine at_store ?_); refine wpList_store_mid rfl 50 _ _ rfl gr 0 (cellsZ).toArray rfl rfl hthz (by kernel_rfl) (by kernel_rfl) ?_) | fail)
                    exact rdec_zero HD.out HGR.out HZR.out HBW.out _ rfl rfl rfl rfl
          · go_wp2_with fail
            refine (rcopied_n (some ⟨bk, off + (en + 1), none⟩) (cap - (en + 1)) (en + u - (en + 1)) body w4 (by rw [HBL.out, HNU.out]) (by omega) (HRD4.out (some ⟨bk, off + (en + 1), none⟩) (fun _ => by simp [Addr.add]))).mono ?_
            rintro e w5 ⟨a5, c5, rfl, hown5, hb5⟩
            obtain ⟨N, hN⟩ : ∃ x, x = en + u - (en + 1) := ⟨_, rfl⟩
            rw [← hN] at hown5 ⊢
            rw [HNU.out] at hN
            have HNN := Lib.hid hN
            obtain ⟨w6, hw6⟩ : ∃ x, x = w5.alloc (.cells #[.slice a5 N c5, .int .i64 0] 95) := ⟨_, rfl⟩
            have hbg : Blk w6 w5.heap.size 95 [.slice a5 N c5, .int .i64 0] := by rw [hw6]; exact Blk.new w5 [.slice a5 N c5, .int .i64 0] 95
            have hb56 : Below w5.heap.size w5 w6 := by rw [hw6]; exact (Below.refl _ _).alloc (Nat.le_refl _) _
            have hsz6 : w6.heap.size = w5.heap.size + 1 := by rw [hw6]; exact World.size_alloc _ _
            have HW6 := Lib.hid hw6
            clear hw6 hN
            go_upto_region 12 with fail
            rw [← HW6.out]
            obtain ⟨g, hg⟩ : ∃ x, x = w5.heap.size := ⟨_, rfl⟩
            rw [← hg] at hbg hsz6 ⊢
            have hb46 : Below w4.heap.size w4 w6 := hb5.trans (hb56.mono hb5.size)
            have hb26 : Below w2.heap.size w2 w6 := HKB.out.trans (hb46.mono HKB.out.size)
            have hgm4 : gm < w4.heap.size := by rw [HGM.out]; exact HKK.out.lt
            have h45 : w4.heap.size ≤ w5.heap.size := hb5.size
            have hgr2 : gr + 1 < gm := by rw [HGM.out]; exact HZN.out.lt
            have hDK : DK w gr gm g (some ⟨bk, off, none⟩) body a5 N c5 := ⟨by rw [HBL.out, HNN.out], own_cap hown5, HGR.out, hgr2, by omega, by rw [HNN.out]; omega, fun x hx => by
              subst hx
              have h9 := hown5.lt x.block rfl
              constructor
              · rw [hg]; exact h9.2
              · intro h10; omega, fun x hx => by
              rcases HA.out x hx with h9 | h9
              · exact h9
              · exact (HLNE.out h9).elim⟩
            have hDZ : DZ w gr gm g (some ⟨bk, off, none⟩) l body a5 N c5 z 0 (zM z) zP 0 w6 := ⟨hbg, Nat.zero_le _, (ownsRow_rd hown5).below hb56, by rw [HGM.out]; exact HKK.out.below hb46, HZR.out.below hb26, HZN.out.below hb26, (vxZ z hz0 hz1).1, ownZ _ _ _, HR2.out.below hb26, HBW.out.trans (hb26.mono HBW.out.size), by omega, fun x hx px he => by
              obtain ⟨k1, k2⟩ := kind_eq px hz0 hz1 he
              exact ⟨rfl, by rw [List.drop_zero, List.drop_zero]; exact k2⟩⟩
            have HDK := Lib.hid hDK
            have HDZ := Lib.hid hDZ
            have c0 : w6.cell? ⟨gm, 0, none⟩ = some (.int .i64 z) := hDZ.blk.cell 0 (by rw [cellsM_len]; omega)
            clear hDK hDZ hbg hb56 hsz6 hb46 hb26 hgm4 h45 hgr2 hb5 hown5 hg HKB HKK HZR HZN HBW HR2 HRD4
            go_wp2_with fail
            refine (named_any z w6).mono ?_
            rintro e _ ⟨rfl, rfl⟩
            clear c0
            obtain ⟨L, hL⟩ : ∃ L, L = ordL z := ⟨_, rfl⟩
            obtain ⟨nl, hnl⟩ : ∃ n, n = L.length := ⟨_, rfl⟩
            have hnl3 : nl ≤ 3 := by rw [hnl, hL]; exact ordL_len3 _
            have hten : ∀ s ∈ L, s ∈ tenL := by rw [hL]; exact ordL_ten z
            have hnm : namedL z = L.map letter := by rw [hL]; exact named_ord z
            rw [hnm]
            have hsz : (⟨(L.map letter).toArray⟩ : ByteArray).size = nl := by rw [hnl]; show (L.map letter).toArray.size = _; simp
            obtain ⟨S, hS⟩ : ∃ S : ByteArray, S = ⟨(L.map letter).toArray⟩ := ⟨_, rfl⟩
            have hget : ∀ j (h : j < L.length), ∃ h2 : j < S.size, S[j] = letter L[j] := by
              intro j h
              subst hS
              refine ⟨by rw [hsz, hnl]; exact h, ?_⟩
              show (L.map letter).toArray[j]'(by simpa using h) = _
              simp
            unfold strB
            rw [← hS] at hsz ⊢
            have HL := Lib.hid hL
            have HNL := Lib.hid hnl
            have HTEN := Lib.hid hten
            have HGET := Lib.hid hget
            clear hL hnl hten hnm hS hget
            go_wp2_with fail
            obtain ⟨W6, hW6⟩ : ∃ x, x = w6 := ⟨_, rfl⟩
            rw [← hW6] at HDZ ⊢
            clear hW6 HW6
            go_loopw [13] (fun i wr => ∃ (j : Nat) (m : M) (q : Ps) (aj : Nat), j ≤ nl ∧ i = .int .i64 (j : Int) ∧ DZ w gr gm g (some ⟨bk, off, none⟩) l body a5 N c5 z j m q aj wr) (fun i _ => nl - (intOf i).toNat)
            case atStart => exact ⟨0, zM z, zP, 0, Nat.zero_le _, rfl, HDZ.out⟩
            case round =>
              obtain ⟨j, m, q, aj, hj, rfl, hdz⟩ := hrel
              by_cases hlt : j < nl
              · have hjl : j < L.length := by rw [← HNL.out]; exact hlt
                have hjo : j < (ordL z).length := by rw [← HL.out]; exact hjl
                have hlt' : (j : Int) < nl := by omega
                obtain ⟨hjs, hgt⟩ := HGET.out j hjl
                obtain ⟨s, hs⟩ : ∃ s, s = L[j] := ⟨_, rfl⟩
                have hten := HTEN.out s (by rw [hs]; exact List.getElem_mem hjl)
                rw [← hs] at hgt
                have hso : s = (ordL z)[j] := by
                  rw [hs]
                  first
                    | (congr 1; done)
                    | (congr 1; exact HL.out)
                have HME := Lib.hid (meas_lt hlt)
                have hjn : j + 1 ≤ nl := hlt
                have HTT := Lib.hid hten
                have hgt' : ((S[j].toNat : Nat) : Int) = ((letter s).toNat : Int) := by rw [hgt]
                have HGT := Lib.hid hgt'
                have HSO := Lib.hid hso
                have hdd := hdz.drew
                have hrgd : wr.drew.rangeAt gm 0 (cellsM m q) := hdd.blk.whole
                have HDD := Lib.hid hdd
                clear hs hten hgt hgt' hso hdd hdz
                go_wp2
                refine wp_region_still_tail 5 (by kernel_rfl) (by kernel_rfl) ?_
                simp only [List.take_succ_cons, List.take_zero, List.drop_succ_cons, List.drop_zero]
                still_step
                refine wpStill_load_mid rfl _ _ rfl _ _ rfl _ _ hrgd Try.underlying50 rfl (by kernel_rfl) ?_
                still_step
                still_step
                still_step
                refine wpStill_nil ?_
                change wpList _ _ _ _ _ wr.drew
                have hd := HDD.out
                obtain ⟨W7, hW7⟩ : ∃ W5, W5 = wr.drew := ⟨_, rfl⟩
                rw [← hW7] at hd ⊢
                have HD7 := Lib.hid hd
                clear hW7 hd hrgd HDD
                go_wp2_with fail
                refine (cf_any2 HTT.out _ HGT.out (HD7.out.rc HDK.out).1 (HD7.out.rc HDK.out).2 (Nat.lt_succ_self g) HD7.out.le (by have := HDK.out.nb; omega) HD7.out.wf HD7.out.own).mono ?_
                rintro e w8 ⟨m', q', a8, rfl, hwf8, hcs8, hg8, ho8, hgot8⟩
                obtain ⟨hth8, hnext⟩ := HD7.out.next HDK.out hjo HSO.out hwf8 hcs8 hg8 ho8 hgot8
                have HNX : Hid (∃ (j' : Nat) (m2 : M) (q2 : Ps) (aj2 : Nat), j' ≤ nl ∧ Value.int .i64 ((j : Int) + 1) = .int .i64 (j' : Int) ∧ DZ w gr gm g (some ⟨bk, off, none⟩) l body a5 N c5 z j' m2 q2 aj2 (w8.setCells gm 0 (cellsM m' q'))) := Lib.hid ⟨j + 1, m', q', a8, hjn, rfl, hnext⟩
                clear hwf8 hcs8 hg8 ho8 hgot8 hnext
                go_wp2_with (first | ((with_reducible refine at_store ?_); refine wpList_store_mid rfl 50 _ _ rfl gm 0 (cellsM m' q').toArray rfl rfl hth8 (by kernel_rfl) (by kernel_rfl) ?_) | fail)
                go_roundw
                case rel => exact HNX.out
                case measure => exact HME.out
              · have hlt' : ¬ (j : Int) < nl := by omega
                have hjL : (ordL z).take j = ordL z := by rw [← HL.out]; exact List.take_of_length_le (by rw [← HNL.out]; omega)
                have hcons := body_cons (l := l) (en := en) (u := u) (z := z) (by rw [HN.out]; omega) (by omega) HZ.out
                rw [← HBODY.out] at hcons
                have hmatch : ∀ x, VX x → properM x → (l.drop en).take u = inM x → m = x := fun x hx px he => by
                  rw [hcons] at he
                  obtain ⟨k1, k2⟩ := hdz.ok x hx px he
                  rw [hjL] at k1
                  have k3 := (kind_eq px hz0 hz1 he).1
                  have k4 := proper_built px
                  rw [k3] at k4
                  rw [← k1, k4]
                have HMT := Lib.hid hmatch
                have HDZ2 := Lib.hid hdz
                have hrgm : wr.rangeAt gm 0 (cellsM m q) := hdz.blk.whole
                clear hjL hcons hmatch hdz
                go_wp2_with (first | ((with_reducible refine at_dst 72 ?_); refine wpList_load_midg rfl _ _ rfl _ _ rfl _ _ hrgm Try.underlying50 rfl (by kernel_rfl) ?_) | fail)
                refine (rproper_any m q wr HDZ2.out.own.rd HDZ2.out.wf.vl).mono ?_
                rintro e w9 ⟨b, rfl, hpb, hb9⟩
                rw [proper_iff] at hpb
                have HD9 := Lib.hid (HDZ2.out.below hb9)
                have HPB := Lib.hid hpb
                clear hpb hb9 hrgm HDZ2
                have HNO : Hid ((∀ x, VX x → properM x → (l.drop en).take u ≠ inM x) → DecR l (zM 0) 0 212) := Lib.hid (fun h => HRR.out (zM 0) 0 212 (.inr (.inr ⟨by omega, by omega, by rw [HN.out]; omega, .inr ⟨rfl, rfl, rfl, h⟩⟩)))
                cases b with
                | false =>
                  have HD := Lib.hid (HNO.out (fun x hx px he => by
                    have h9 := HMT.out x hx px he
                    have h10 : properM m := by rw [h9]; exact px
                    exact Bool.false_ne_true (HPB.out.2 h10)))
                  have hzr := HD9.out.zr
                  have hzn := HD9.out.zn
                  have hbw := HD9.out.bel
                  have HZR := Lib.hid hzr
                  have HBW := Lib.hid hbw
                  have hrgz := hzn.whole
                  have hthz := hzr.there 0 31 (Nat.le_refl _)
                  clear hzr hzn hbw
                  go_wp2_with (first | ((with_reducible refine at_dst 76 ?_); refine wpList_load_midg rfl _ _ rfl _ _ rfl _ _ hrgz Try.underlying50 rfl (by kernel_rfl) ?_) | ((with_reducible refine at_store ?_); refine wpList_store_mid rfl 50 _ _ rfl gr 0 (cellsZ).toArray rfl rfl hthz (by kernel_rfl) (by kernel_rfl) ?_) | fail)
                  exact rdec_zero HD.out HGR.out HZR.out HBW.out _ rfl rfl rfl rfl
                | true =>
                  have hpm := HPB.out.1 rfl
                  have HPM := Lib.hid hpm
                  have hrgm9 : w9.rangeAt gm 0 (cellsM m q) := HD9.out.blk.whole
                  clear hpm
                  go_wp2_with (first | ((with_reducible refine at_dst 77 ?_); refine wpList_load_midg rfl _ _ rfl _ _ rfl _ _ hrgm9 Try.underlying50 rfl (by kernel_rfl) ?_) | fail)
                  refine (inside_any m q w9 HD9.out.wf HPM.out.1 (kind_rng HPM.out).1 HD9.out.own.rd).mono ?_
                  rintro e w10 ⟨a10, n10, c10, rfl, hn10, hown10, hb10⟩
                  have HD10 := Lib.hid (HD9.out.below hb10)
                  have hf10 := ownsRow_rd hown10
                  have hrt := rd_take (rd_drop2 HD10.out.rd en) u
                  have HN10 := Lib.hid hn10
                  have HLU : Hid (((l.drop en).take u).length = u) := Lib.hid (by rw [List.length_take, List.length_drop, HN.out]; omega)
                  have HF10 := Lib.hid hf10
                  have HRT := Lib.hid hrt
                  have hnb10 : n10 ≤ 140737488355328 := by have h9 := in_max HD9.out.wf HPM.out; omega
                  have i1 : (en : Int) + u ≤ cap := by omega
                  have i2 : (en : Int) ≤ (en : Int) + u := by omega
                  have i3 : en < cap := by omega
                  have i4 : en + u ≤ cap := by omega
                  clear hrgm9 hn10 hown10 hb10 hf10 hrt
                  go_wp2_with fail
                  refine (same_n a10 (some ⟨bk, off + en, none⟩) c10 _ n10 u (inM m) ((l.drop en).take u) w10 HN10.out HLU.out hnb10 HF10.out HRT.out).mono ?_
                  rintro e w11 ⟨rfl, hb11⟩
                  have HD11 := Lib.hid (HD10.out.below hb11)
                  clear hb11
                  by_cases heq : inM m = (l.drop en).take u
                  · rw [beq_iff_eq.2 heq]
                    have HD := Lib.hid (HRR.out m (en + u) 0 (.inr (.inr ⟨by omega, by omega, by rw [HN.out]; omega, .inl ⟨rfl, VX.of HD11.out.wf HPM.out, HPM.out, heq.symm, rfl⟩⟩)))
                    have hrg11 : w11.rangeAt gm 0 (cellsM m q) := HD11.out.blk.whole
                    have hthr := HD11.out.zr.there 0 31 (Nat.le_refl _)
                    have hend := put_all (cs := cellsM m q) HD11.out.zr rfl
                    have hown2 := (HD11.out.own.off HD11.out.zr hend.2).low (base' := w.heap.size) (by have h1 := HDK.out.o1; have h2 := HDK.out.o2; have h3 := HDK.out.base; omega)
                    have hbe : Below w.heap.size w (w11.setCells gr 0 (cellsM m q)) := below_gr HD11.out.bel (by rw [← HGR.out]; exact hend.2)
                    have HEND := Lib.hid hend.1
                    have HOWN := Lib.hid hown2
                    have HBE := Lib.hid hbe
                    clear heq hend hown2 hbe
                    go_wp2_with (first | ((with_reducible refine at_dst 88 ?_); refine wpList_load_midg rfl _ _ rfl _ _ rfl _ _ hrg11 Try.underlying50 rfl (by kernel_rfl) ?_) | ((with_reducible refine at_store ?_); refine wpList_store_mid rfl 50 _ _ rfl gr 0 (cellsM m q).toArray rfl rfl hthr (by kernel_rfl) (by kernel_rfl) ?_) | fail)
                    exact rdec_end HD.out HGR.out HEND.out HBE.out HOWN.out _ rfl rfl rfl rfl
                  · rw [beq_false_of_ne heq]
                    have HD := Lib.hid (HNO.out (fun x hx px he => by
                      have h9 := HMT.out x hx px he
                      exact heq (by rw [he, h9])))
                    have hzr := HD11.out.zr
                    have hzn := HD11.out.zn
                    have hbw := HD11.out.bel
                    have HZR := Lib.hid hzr
                    have HBW := Lib.hid hbw
                    have hrgz := hzn.whole
                    have hthz := hzr.there 0 31 (Nat.le_refl _)
                    clear hzr hzn hbw
                    go_wp2_with (first | ((with_reducible refine at_dst 87 ?_); refine wpList_load_midg rfl _ _ rfl _ _ rfl _ _ hrgz Try.underlying50 rfl (by kernel_rfl) ?_) | ((with_reducible refine at_store ?_); refine wpList_store_mid rfl 50 _ _ rfl gr 0 (cellsZ).toArray rfl rfl hthz (by kernel_rfl) (by kernel_rfl) ?_) | fail)
                    exact rdec_zero HD.out HGR.out HZR.out HBW.out _ rfl rfl rfl rfl
  · have hv : v0 = T3 0 0 er := by injection he
    have HD := Lib.hid (show DecR l (zM 0) 0 er from ⟨0, 0, er, by have h9 := HU.out; rw [hv] at h9; exact h9, by omega, .inl ⟨her, rfl, rfl, rfl⟩⟩)
    have hne := neq_of' (a := er) (b := 0) her
    subst hv
    rw [T3]
    clear HU HCS he her2 hno
    have HZR := Lib.hid hzr
    have HBW := Lib.hid hbw
    have hrgz := hzn.whole
    have hthz := hzr.there 0 31 (Nat.le_refl _)
    clear hzr hzn hbw
    go_wp2_with (first | ((with_reducible refine at_dst 25 ?_); refine wpList_load_midg rfl _ _ rfl _ _ rfl _ _ hrgz Try.underlying50 rfl (by kernel_rfl) ?_) | ((with_reducible refine at_store ?_); refine wpList_store_mid rfl 50 _ _ rfl gr 0 (cellsZ).toArray rfl rfl hthz (by kernel_rfl) (by kernel_rfl) ?_) | fail)
    exact rdec_zero HD.out HGR.out HZR.out HBW.out _ rfl rfl rfl rfl
end Go.Proofs.Ytaipnbpefdcejaa
