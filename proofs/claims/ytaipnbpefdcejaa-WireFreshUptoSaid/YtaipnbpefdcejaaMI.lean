/- Joined by wip/tools/merge.py out of: Dec. -/
import Derived.Test.YtaipnbpefdcejaaMH
import Derived.Deep.QuietTactic
/- The walk of the program's Decode (printed by gen_decode.py). -/
set_option linter.unusedVariables false
namespace Go.Proofs.Ytaipnbpefdcejaa
open Go.RowKit
def DecPost (l : List UInt8) (w : World) (e : Ending) (w' : World) : Prop :=
  ∃ (m : M) (q : Ps) (n : Nat) (c : Int), e = .returned (.tuple #[valM m q, .int .i64 (n : Int), .int .i64 c]) ∧ DecR l m n c ∧ OwnM w.heap.size w' m q ∧ Below w.heap.size w w'
theorem ownZ (base : Nat) (w : World) (k : Int) : OwnM base w (zM k) zP := ⟨World.ownsRow_nil _ _ _ _, World.ownsRow_nil _ _ _ _, World.ownsRow_nil _ _ _ _, World.ownsRow_nil _ _ _ _⟩
theorem results_cell3 {fn : Func} {t t1 t2 : Tmp} {ty : TypeId} (h : fn.results = #[.cell t ty, .tmp t1, .tmp t2]) (tmps : Array Value) (P : Program) (w : World) (b o : Nat) (v : Value) (ht : tmps.getD t undef = .pointer (some ⟨b, o, none⟩)) (hl : (loadVar ty ⟨b, o, none⟩).run P w = .ok v w) :
    (results fn tmps).run P w = .ok (.tuple #[v, tmps.getD t1 undef, tmps.getD t2 undef]) w := by
  rw [Array.getD_eq_getD_getElem?] at ht
  simp [results, h, ht, hl, asAddr]
theorem dec_end {l : List UInt8} {w W : World} {gr : Nat} {m : M} {q : Ps} {n : Nat} {c : Int} (hR : DecR l m n c) (hg : gr = w.heap.size) (hk : Blk W gr 50 (cellsM m q)) (hb : Below w.heap.size w W) (ho : OwnM w.heap.size W m q)
    (a : Act) (h2 : a.tmps.getD 2 undef = .pointer (some ⟨gr, 0, none⟩)) (h3 : a.tmps.getD 3 undef = .int .i64 (n : Int)) (h4 : a.tmps.getD 4 undef = .int .i64 c) (hd : a.defers = []) : bodyPost Try.prog Try.f30 (DecPost l w) Exit.ret a W := by
  have hrf : W.rangeAt gr 0 (cellsM m q) := hk.whole
  have hres := results_cell3 (fn := Try.f30) (t := 2) (t1 := 3) (t2 := 4) (ty := 50) rfl a.tmps Try.prog W gr 0 (.agg (cellsM m q).toArray) h2 (run_loadVar_mid W gr 0 50 (cellsM m q) _ hrf Try.underlying50 rfl (by kernel_rfl))
  rw [h3, h4] at hres
  exact bodyPost_ret hres hd ⟨m, q, n, c, rfl, hR, ho, hb⟩
theorem put_all {w1 : World} {gr : Nat} {cs0 cs : List Value} (hk : Blk w1 gr 50 cs0) (hl : cs.length = cs0.length) : Blk (w1.setCells gr 0 cs) gr 50 cs ∧ w1.grownBy (w1.setCells gr 0 cs) (some gr) := by
  obtain ⟨h1, h2⟩ := hk.setCells cs 0 cs0 w1 (by omega)
  rw [spl_all hl] at h1
  exact ⟨h1, h2⟩
theorem below_gr {w w1 w2 : World} (hb : Below w.heap.size w w1) (hg : w1.grownBy w2 (some w.heap.size)) : Below w.heap.size w w2 :=
  ⟨hg.os.trans hb.os, hg.tape.trans hb.tape, hg.output.trans hb.output, Nat.le_trans hb.size hg.size, fun k hk => (hg.block k (Nat.lt_of_lt_of_le hk hb.size) (by intro e; cases e; omega)).trans (hb.block k hk)⟩
theorem vxZ (z : Int) (h0 : 0 ≤ z) (h1 : z < 256) : VX (zM z) := by
  refine ⟨⟨?_, ?_, ?_, ?_, ?_, ?_, ?_, ?_, ?_, ?_, ?_, ?_, ?_, ?_, ?_, ?_, ?_, ?_, ?_, ?_, ?_, ?_, ?_, ?_, ?_, ?_, ?_, ?_, ?_, ?_, ?_, ?_, ?_⟩, ?_, ?_⟩
  all_goals first
    | (show I64 _; unfold I64; simp only [zM]; omega)
    | (show U64 _; unfold U64; simp only [zM]; omega)
    | (intro v hv; simp [zM] at hv)
    | (simp [zM])
theorem Rd.gr2 {w w' : World} {a : Option Addr} {vs : List Value} {g gm : Nat} (h : Rd w a vs) (hg : Gr2 g gm w w') (ho : ∀ x, a = some x → x.block ≠ g ∧ x.block ≠ gm) : Rd w' a vs := by
  rcases h with rfl | ⟨b, off, rfl, hc⟩
  · exact .inl rfl
  · refine .inr ⟨b, off, rfl, fun i u hu => ?_⟩
    have h1 := hc i u hu
    have h2 := ho _ rfl
    rw [World.cell?_of_block (w := w) (hg.block b (World.block_lt_of_cell? w _ h1) h2.1 h2.2)]
    exact h1
/-- The reader that Decode makes. -/
theorem mk_reader {w1 : World} {a' a : Option Addr} {l : List UInt8} {nb en u N C : Nat} (hr : Rd w1 a (l.map B)) (hn : l.length = nb) (hu : 1 ≤ u) (he : u ≤ nb - en) (he2 : en ≤ nb) (hN : N = u - 1) (hC : N ≤ C) (h5 : u ≤ 1048576)
    (ha : 0 < N → a' = a.map (·.add ((en + 1) * 1))) :
    RC w1 w1.heap.size ((l.drop (en + 1)).take (u - 1)) a' N C ∧ RS w1 w1.heap.size ((l.drop (en + 1)).take (u - 1)) a' N C 0 false (w1.alloc (.cells #[.slice a' N C, .int .i64 0, .bool false] 92)) := by
  have hlen : ((l.drop (en + 1)).take (u - 1)).length = N := by rw [List.length_take, List.length_drop]; omega
  refine ⟨⟨?_, hlen, by omega, Nat.le_refl _, hC⟩, Blk.new w1 [.slice a' N C, .int .i64 0, .bool false] 92, Nat.zero_le _, (Below.refl _ _).alloc (Nat.le_refl _) _⟩
  have h := hr.sub (en + 1) (en + u) (by rw [List.length_map]; omega) a' (fun h => ha (by omega))
  rw [← List.map_take, ← List.map_drop, List.drop_take, show en + u - (en + 1) = u - 1 by omega] at h
  exact h
theorem dec_zero {l : List UInt8} {w w1 : World} {gr : Nat} {c : Int} (hR : DecR l (zM 0) 0 c) (hg : gr = w.heap.size) (hk : Blk w1 gr 50 cellsZ) (hb : Below w.heap.size w w1)
    (a : Act) (h2 : a.tmps.getD 2 undef = .pointer (some ⟨gr, 0, none⟩)) (h3 : a.tmps.getD 3 undef = .int .i64 0) (h4 : a.tmps.getD 4 undef = .int .i64 c) (hd : a.defers = []) : bodyPost Try.prog Try.f30 (DecPost l w) Exit.ret a (w1.setCells gr 0 cellsZ) := by
  obtain ⟨h5, h6⟩ := put_all (cs := cellsZ) hk rfl
  subst hg
  exact dec_end (m := zM 0) (q := zP) (n := 0) hR rfl h5 (below_gr hb h6) (ownZ _ _ _) a h2 h3 h4 hd
set_option maxHeartbeats 4000000 in
set_option maxRecDepth 20000 in
theorem decode_any (a : Option Addr) (nb cap : Nat) (l : List UInt8) (w : World) (hn : l.length = nb) (hmax : nb ≤ 140737488355328) (hcap : nb ≤ cap) (hr : Rd w a (l.map B)) : Calls Try.prog 30 #[.slice a nb cap] w (DecPost l w) := by
  obtain ⟨e0, hu⟩ := upost_ex l 0 (Nat.zero_le _)
  have hcs := hu.cases (Nat.zero_le _)
  obtain ⟨w1, hw1⟩ : ∃ w1, w1 = w.alloc (.cells cellsZ.toArray 50) := ⟨_, rfl⟩
  obtain ⟨gr, hgr⟩ : ∃ g, g = w.heap.size := ⟨_, rfl⟩
  have hb1 : Below w.heap.size w w1 := by rw [hw1]; exact (Below.refl _ _).alloc (Nat.le_refl _) _
  have hk1 : Blk w1 gr 50 cellsZ := by rw [hw1, hgr]; exact Blk.new w _ 50
  have hr1 := hr.below hb1
  unfold cellsZ at hw1
  have HGR := Lib.hid hgr
  have HB1 := Lib.hid hb1
  have HK1 := Lib.hid hk1
  have HR1 := Lib.hid hr1
  clear hb1 hk1 hr1 hgr
  rcases hcs with ⟨u, en, rfl, hu1, hu2, hu3, hu4⟩ | ⟨er, rfl, her, her2, hno⟩
  · have hen : en ≤ nb := by rw [← hn]; exact hu4
    have HU := Lib.hid (show UPost l 0 (.returned (T3 u en 0)) from hu)
    have hRR : ∀ m n c, _ → DecR l m n c := fun m n c h => ⟨u, en, 0, HU.out, hu1, .inr ⟨rfl, by simpa using hu2, by rw [hu3]; omega, hu4, h⟩⟩
    have HRR := Lib.hid hRR
    go_enter Try.func30, Try.ntmps30
    go_wp2_with fail
    rw [← HGR.out]
    rw [← hw1]
    clear hw1 hu2 hu3 hu4 hRR
    refine (uint_is w1 hu hn hmax (by omega) HR1.out).mono ?_
    rintro e w1 ⟨rfl, rfl⟩
    rw [T3]
    clear hu
    have hth : w1.there gr 0 31 := HK1.out.there 0 31 (by decide)
    have hs1 : IntKind.i64.wrap ((nb : Int) - en) = (nb : Int) - en := by rw [IntKind.wrap_i64]; omega
    have hs2 : IntKind.u64.wrap ((nb : Int) - en) = (nb : Int) - en := by rw [IntKind.wrap_u64]; omega
    by_cases hA : u < 1
    · have hA' : (u : Int) < 1 := by omega
      have HD := Lib.hid (HRR.out (zM 0) 0 211 (.inl ⟨.inl hA, rfl, rfl, rfl⟩))
      go_wp2_with (first | ((with_reducible refine at_store ?_); refine wpList_store_mid rfl 50 _ _ rfl gr 0 cellsZ.toArray rfl rfl hth (by kernel_rfl) (by kernel_rfl) ?_) | fail)
      exact dec_zero HD.out HGR.out HK1.out HB1.out _ rfl rfl rfl rfl
    · by_cases hA2 : 1048576 < u
      · have hA' : ¬ (u : Int) < 1 := by omega
        have hA3 : (1048576 : Int) < u := by omega
        have HD := Lib.hid (HRR.out (zM 0) 0 211 (.inl ⟨.inr hA2, rfl, rfl, rfl⟩))
        go_wp2_with (first | ((with_reducible refine at_store ?_); refine wpList_store_mid rfl 50 _ _ rfl gr 0 cellsZ.toArray rfl rfl hth (by kernel_rfl) (by kernel_rfl) ?_) | fail)
        exact dec_zero HD.out HGR.out HK1.out HB1.out _ rfl rfl rfl rfl
      · have hA' : ¬ (u : Int) < 1 := by omega
        have hA3 : ¬ (1048576 : Int) < u := by omega
        by_cases hB : nb - en < u
        · have hB' : (nb : Int) - en < u := by omega
          have HD := Lib.hid (HRR.out (zM 0) 0 210 (.inr (.inl ⟨by omega, by omega, by omega, rfl, rfl, rfl⟩)))
          go_wp2_with (first | ((with_reducible refine at_store ?_); refine wpList_store_mid rfl 50 _ _ rfl gr 0 cellsZ.toArray rfl rfl hth (by kernel_rfl) (by kernel_rfl) ?_) | fail)
          exact dec_zero HD.out HGR.out HK1.out HB1.out _ rfl rfl rfl rfl
        · have hB' : ¬ (nb : Int) - en < u := by omega
          have hs3 : IntKind.i64.wrap (u : Int) = u := by rw [IntKind.wrap_i64]; omega
          have hs4 : IntKind.i64.wrap ((en : Int) + u) = (en : Int) + u := by rw [IntKind.wrap_i64]; omega
          have hs5 : IntKind.i64.wrap ((en : Int) + 1) = (en : Int) + 1 := by rw [IntKind.wrap_i64]; omega
          obtain ⟨bk, off, rfl, hc⟩ := HR1.out.cells (by intro h0; have := congrArg List.length h0; simp at this; rw [this] at hn; simp at hn; omega)
          have hcn := hc en (by rw [List.length_map]; omega)
          rw [List.getElem_map, B] at hcn
          obtain ⟨z, hz⟩ : ∃ z : Int, z = ((l[en]'(by omega)).toNat : Int) := ⟨_, rfl⟩
          rw [← hz] at hcn
          have hz0 : 0 ≤ z := by omega
          have hz1 : z < 256 := by have := (l[en]'(by omega)).toNat_lt; omega
          have hwz : IntKind.i64.wrap z = z := by rw [IntKind.wrap_i64]; omega
          have hcA : ∀ o, (w1.alloc o).cell? ⟨bk, off + en, none⟩ = some (.int .u8 z) := fun o => by
            rw [World.cell?_of_block (w := w1) (((Below.refl w1.heap.size w1).alloc (Nat.le_refl _) o).block bk (World.block_lt_of_cell? w1 _ hcn))]
            exact hcn
          have HZ := Lib.hid hz
          clear hz hc
          have hmk : ∀ (a' : Option Addr) (N C : Nat), N = u - 1 → N ≤ C → (0 < N → a' = (some (⟨bk, off, none⟩ : Addr)).map (·.add ((en + 1) * 1))) → _ := fun a' N C h1 h2 h3 => mk_reader (w1 := w1) (a' := a') HR1.out hn (by omega : 1 ≤ u) (by omega) hen h1 h2 (by omega) h3
          have HMK := Lib.hid hmk
          clear hmk
          by_cases hcp : cap = en + 1
          · subst hcp
            go_upto_region 10 with fail
            have hfa := HMK.out (some ⟨bk, off, none⟩) (en + u - (en + 1)) 0 (by omega) (by omega) (fun h => by omega)
            have hcB := hcA (.cells #[.slice (some ⟨bk, off, none⟩) (en + u - (en + 1)) 0, .int .i64 0, .bool false] 92)
            have hsz : (w1.alloc (.cells #[.slice (some ⟨bk, off, none⟩) (en + u - (en + 1)) 0, .int .i64 0, .bool false] 92)).heap.size = w1.heap.size + 1 := World.size_alloc _ _
            have hb12 : Below w1.heap.size w1 (w1.alloc (.cells #[.slice (some ⟨bk, off, none⟩) (en + u - (en + 1)) 0, .int .i64 0, .bool false] 92)) := (Below.refl _ _).alloc (Nat.le_refl _) _
            obtain ⟨w2, hw2⟩ : ∃ x, x = w1.alloc (.cells #[.slice (some ⟨bk, off, none⟩) (en + u - (en + 1)) 0, .int .i64 0, .bool false] 92) := ⟨_, rfl⟩
            rw [← hw2] at hfa hcB hsz hb12 ⊢
            obtain ⟨ab, hab⟩ : ∃ x : Option Addr, x = (some ⟨bk, off, none⟩) := ⟨_, rfl⟩
            obtain ⟨N, hN⟩ : ∃ x, x = en + u - (en + 1) := ⟨_, rfl⟩
            rw [← hab, ← hN] at hfa
            obtain ⟨C, hrc, hrs⟩ : ∃ C, RC w1 w1.heap.size ((l.drop (en + 1)).take (u - 1)) ab N C ∧ RS w1 w1.heap.size ((l.drop (en + 1)).take (u - 1)) ab N C 0 false w2 := ⟨_, hfa⟩
            have HRC := Lib.hid hrc
            have HRS := Lib.hid hrs
            have HN := Lib.hid hN
            have HSZ := Lib.hid hsz
            have HB12 := Lib.hid hb12
            clear hw2 hab hN hfa hrc hrs hcA hcn hsz hb12 HMK
            have hgz : Blk (w2.alloc (.cells cellsZ.toArray 50)) w2.heap.size 50 cellsZ := Blk.new w2 _ 50
            have hth2 : (w2.alloc (.cells cellsZ.toArray 50)).there w2.heap.size 0 31 := hgz.there 0 31 (Nat.le_refl _)
            have hst := put_all (cs := cellsM (zM z) zP) hgz rfl
            obtain ⟨w4, hw4⟩ : ∃ x, x = (w2.alloc (.cells cellsZ.toArray 50)).setCells w2.heap.size 0 (cellsM (zM z) zP) := ⟨_, rfl⟩
            rw [← hw4] at hst
            have hb24 : Below w2.heap.size w2 w4 := ((Below.refl w2.heap.size w2).alloc (Nat.le_refl _) (.cells cellsZ.toArray 50)).grown hst.2 (by rw [World.size_alloc]; omega) (by intro k hk; cases hk; exact Nat.le_refl _)
            unfold cellsZ at hth2 hw4
            clear hgz
            have HST := Lib.hid hst
            have HB24 := Lib.hid hb24
            clear hst hb24
            go_upto_region 11 with (first | ((with_reducible refine at_store ?_); refine wpList_store_mid rfl 50 _ _ rfl w2.heap.size 0 (cellsM (zM z) zP).toArray rfl rfl hth2 (by kernel_rfl) (by kernel_rfl) ?_; rw [← hw4]) | fail)
            clear hth2 hw4 hcB
            obtain ⟨gm, hgm⟩ : ∃ x, x = w2.heap.size := ⟨_, rfl⟩
            obtain ⟨g, hg⟩ : ∃ x, x = w1.heap.size := ⟨_, rfl⟩
            rw [← hgm, ← hg]
            have hgg : gm = g + 1 := by rw [hgm, hg]; exact HSZ.out
            have hk4 := HST.out.1
            rw [← hgm] at hk4
            have hrs4 : RS w1 g ((l.drop (en + 1)).take (u - 1)) ab N C 0 false w4 := by rw [hg]; exact HRS.out.low HB24.out (by have := HSZ.out; omega) (by have := HSZ.out; omega)
            have hb14 : Below w1.heap.size w1 w4 := hrs4.2.2
            have hrc4 : RC w1 g ((l.drop (en + 1)).take (u - 1)) ab N C := by rw [hg]; exact HRC.out
            have hc40 : w4.cell? ⟨gm, 0, none⟩ = some (.int .i64 z) := hk4.cell 0 (by rw [cellsM_len]; omega)
            have hNs : N = u - 1 := by rw [HN.out]; omega
            obtain ⟨body, hbody⟩ : ∃ x, x = (l.drop (en + 1)).take (u - 1) := ⟨_, rfl⟩
            rw [← hbody] at hrs4 hrc4
            have HBODY := Lib.hid hbody
            have HG := Lib.hid hg
            have HGM := Lib.hid hgm
            have HK4 := Lib.hid hk4
            have HRS4 := Lib.hid hrs4
            have HRC4 := Lib.hid hrc4
            have HGG := Lib.hid hgg
            have hszm : gm < w4.heap.size := hk4.lt
            have hg1 : w1.heap.size ≤ g := by rw [hg]; exact Nat.le_refl _
            have HNS := Lib.hid hNs
            clear hbody hg hgm hk4 hrs4 hrc4 hgg HST HB24 HRS HRC HN hNs HSZ
            go_wp2_with fail
            refine (order_rd g z w4).mono ?_
            rintro e w5 ⟨al, cl, rfl, hrl, hbl, hn1, hn2, hfr⟩
            obtain ⟨L, hL⟩ : ∃ L, L = ordL z := ⟨_, rfl⟩
            rw [← hL] at hrl hn1 hn2 ⊢
            obtain ⟨nl, hnl⟩ : ∃ n, n = L.length := ⟨_, rfl⟩
            rw [← hnl]
            have HL := Lib.hid hL
            have HNL := Lib.hid hnl
            have HRL := Lib.hid hrl
            have hnl3 : nl ≤ 3 := by
              rw [hnl, hL]
              exact ordL_len3 _
            have HTEN := Lib.hid (show ∀ s ∈ L, s ∈ tenL by rw [hL]; exact ordL_ten z)
            have hfc : FC w1 g gm (gm + 1) body ab N C := ⟨HRC4.out, by have := HGG.out; omega, by have := HGG.out; omega, Nat.lt_succ_self _, by have := HGG.out; omega, by have := HNS.out; omega⟩
            have hfs : FS w1 g gm (gm + 1) body ab N C 0 false (zM z) zP w5 := ⟨HRS4.out.low hbl (by have := HGG.out; omega) (by have := HGG.out; omega), HK4.out.below hbl, ownZ _ _ _, vxZ z hz0 hz1, by have := hbl.size; omega⟩
            have hoff : ∀ x, al = some x → x.block ≠ g ∧ x.block ≠ gm := fun x hx => by have := hfr x hx; have := HGG.out; constructor <;> omega
            have HOFF := Lib.hid hoff
            have HFC := Lib.hid hfc
            have HFS := Lib.hid hfs
            have HBL := Lib.hid hbl
            have HN1 := Lib.hid hn1
            have HN2 := Lib.hid hn2
            clear hL hnl hbl hfr hoff hrl hfc hfs HRS4 HRC4 HK4 hc40
            go_wp2_with fail
            have HNDP := Lib.hid (show L.Nodup by rw [HL.out]; exact ordL_nodup z)
            have HPF := Lib.hid (show ∀ i (hi : i < L.length), L[i] = "sluice/wire.match" → ∀ s ∈ L.take i, s = "sluice/wire.handle" by rw [HL.out]; exact ordL_match z)
            have hb15 : Below w1.heap.size w1 w5 := hb14.trans (HBL.out.mono hb14.size)
            have HB15 := Lib.hid hb15
            clear hb14 hb15 hn1 hn2 hr
            obtain ⟨W5, hW5⟩ : ∃ W5, W5 = w5 := ⟨_, rfl⟩
            rw [← hW5] at HRL HFS HB15 ⊢
            clear hW5 HBL
            go_loopw [66] (fun i wr => ∃ (j : Nat) (m : M) (q : Ps) (a : Nat) (b : Bool), j ≤ nl ∧ i = .int .i64 (j : Int) ∧ FS w1 g gm (gm + 1) body ab N C a b m q wr ∧ Gr2 g gm W5 wr ∧ DI z L body j m a b ∧ ((∀ s ∈ L.take j, s = "sluice/wire.handle") → NoLists m q)) (fun i _ => nl - (intOf i).toNat)
            case atStart => exact ⟨0, zM z, zP, 0, false, Nat.zero_le _, rfl, HFS.out, ⟨rfl, rfl, rfl, Nat.le_refl _, fun _ _ _ _ => rfl⟩, DI.start _ _ _, fun _ => ⟨rfl, rfl, rfl, rfl, rfl, rfl, rfl, rfl, rfl⟩⟩
            case round =>
              obtain ⟨j, m, q, a, b, hj, rfl, hfs, hgr, hdi, hno⟩ := hrel
              by_cases hlt : j < nl
              · have hjl : j < L.length := by rw [← HNL.out]; exact hlt
                have hlt' : (j : Int) < nl := by omega
                have hrl := HRL.out.gr2 hgr HOFF.out
                obtain ⟨bb, off2, hal, hc⟩ := hrl.cells (by intro h0; have := congrArg List.length h0; simp at this; rw [this] at hjl; simp at hjl)
                have hcj := hc j (by simpa using hjl)
                rw [List.getElem_map, mf] at hcj
                obtain ⟨s, hs⟩ : ∃ s, s = L[j] := ⟨_, rfl⟩
                have hten := HTEN.out s (by rw [hs]; exact List.getElem_mem hjl)
                have hstep : ∀ m' a2 b2, m' = setF s m m' → Verdict s body a b a2 b2 m' → DI z L body (j + 1) m' a2 b2 := fun m' a2 b2 h1 h2 => hdi.step HTEN.out HNDP.out hjl hfs.vx (hs ▸ h1) (hs ▸ h2)
                have hsn : L.take (j + 1) = L.take j ++ [s] := by rw [hs]; exact List.take_succ_eq_append_getElem hjl
                have hm : s = "sluice/wire.match" → NoLists m q := fun h => hno (HPF.out j hjl (by rw [← hs]; exact h))
                rw [← hs] at hcj
                have HSTEP := Lib.hid hstep
                have HSNN := Lib.hid hsn
                have HNO := Lib.hid hno
                have HM := Lib.hid hm
                have HFS1 := Lib.hid hfs
                have HGR1 := Lib.hid hgr
                have HME := Lib.hid (meas_lt hlt)
                have hjn : j + 1 ≤ nl := hlt
                clear hc hs hsn hrl hstep hno hm hfs hgr hdi
                subst hal
                simp only [tenL, List.mem_cons, List.not_mem_nil, or_false] at hten
                rcases hten with rfl | rfl | rfl | rfl | rfl | rfl | rfl | rfl | rfl | rfl
                · go_wp2_with fail
                  refine (rf2_number HFC.out HFS1.out).mono ?_
                  rintro e w6 ⟨m', q', a2, b2, rfl, h5, hg5, hset, hv⟩
                  have HR : Hid (∃ (j' : Nat) (m : M) (q : Ps) (a : Nat) (b : Bool), j' ≤ nl ∧ Value.int .i64 ((j : Int) + 1) = .int .i64 (j' : Int) ∧ FS w1 g gm (gm + 1) body ab N C a b m q w6 ∧ Gr2 g gm W5 w6 ∧ DI z L body j' m a b ∧ ((∀ s ∈ L.take j', s = "sluice/wire.handle") → NoLists m q)) := Lib.hid ⟨j + 1, m', q', a2, b2, hjn, rfl, h5, HGR1.out.trans hg5, HSTEP.out _ _ _ hset hv, fun h => absurd (h _ (by rw [HSNN.out]; exact List.mem_append_right _ (List.mem_singleton.2 rfl))) (by decide)⟩
                  clear h5 hg5 hset hv hcj
                  go_wp2
                  go_roundw
                  case rel => exact HR.out
                  case measure => exact HME.out
                · go_wp2_with fail
                  refine (rf2_handle_q HFC.out HFS1.out).mono ?_
                  rintro e w6 ⟨m', a2, b2, rfl, h5, hg5, hset, hv⟩
                  have HR : Hid (∃ (j' : Nat) (m : M) (q : Ps) (a : Nat) (b : Bool), j' ≤ nl ∧ Value.int .i64 ((j : Int) + 1) = .int .i64 (j' : Int) ∧ FS w1 g gm (gm + 1) body ab N C a b m q w6 ∧ Gr2 g gm W5 w6 ∧ DI z L body j' m a b ∧ ((∀ s ∈ L.take j', s = "sluice/wire.handle") → NoLists m q)) := Lib.hid ⟨j + 1, m', q, a2, b2, hjn, rfl, h5, HGR1.out.trans hg5, HSTEP.out _ _ _ hset hv, fun h => by
                    have h6 := HNO.out (fun s hs => h s (by rw [HSNN.out]; simp [hs]))
                    rw [hset]
                    exact h6⟩
                  clear h5 hg5 hset hv hcj
                  go_wp2
                  go_roundw
                  case rel => exact HR.out
                  case measure => exact HME.out
                · go_wp2_with fail
                  refine (rf2_code HFC.out HFS1.out).mono ?_
                  rintro e w6 ⟨m', q', a2, b2, rfl, h5, hg5, hset, hv⟩
                  have HR : Hid (∃ (j' : Nat) (m : M) (q : Ps) (a : Nat) (b : Bool), j' ≤ nl ∧ Value.int .i64 ((j : Int) + 1) = .int .i64 (j' : Int) ∧ FS w1 g gm (gm + 1) body ab N C a b m q w6 ∧ Gr2 g gm W5 w6 ∧ DI z L body j' m a b ∧ ((∀ s ∈ L.take j', s = "sluice/wire.handle") → NoLists m q)) := Lib.hid ⟨j + 1, m', q', a2, b2, hjn, rfl, h5, HGR1.out.trans hg5, HSTEP.out _ _ _ hset hv, fun h => absurd (h _ (by rw [HSNN.out]; exact List.mem_append_right _ (List.mem_singleton.2 rfl))) (by decide)⟩
                  clear h5 hg5 hset hv hcj
                  go_wp2
                  go_roundw
                  case rel => exact HR.out
                  case measure => exact HME.out
                · go_wp2_with fail
                  refine (rf2_schema HFC.out HFS1.out).mono ?_
                  rintro e w6 ⟨m', q', a2, b2, rfl, h5, hg5, hset, hv⟩
                  have HR : Hid (∃ (j' : Nat) (m : M) (q : Ps) (a : Nat) (b : Bool), j' ≤ nl ∧ Value.int .i64 ((j : Int) + 1) = .int .i64 (j' : Int) ∧ FS w1 g gm (gm + 1) body ab N C a b m q w6 ∧ Gr2 g gm W5 w6 ∧ DI z L body j' m a b ∧ ((∀ s ∈ L.take j', s = "sluice/wire.handle") → NoLists m q)) := Lib.hid ⟨j + 1, m', q', a2, b2, hjn, rfl, h5, HGR1.out.trans hg5, HSTEP.out _ _ _ hset hv, fun h => absurd (h _ (by rw [HSNN.out]; exact List.mem_append_right _ (List.mem_singleton.2 rfl))) (by decide)⟩
                  clear h5 hg5 hset hv hcj
                  go_wp2
                  go_roundw
                  case rel => exact HR.out
                  case measure => exact HME.out
                · go_wp2_with fail
                  refine (rf2_query HFC.out HFS1.out).mono ?_
                  rintro e w6 ⟨m', q', a2, b2, rfl, h5, hg5, hset, hv⟩
                  have HR : Hid (∃ (j' : Nat) (m : M) (q : Ps) (a : Nat) (b : Bool), j' ≤ nl ∧ Value.int .i64 ((j : Int) + 1) = .int .i64 (j' : Int) ∧ FS w1 g gm (gm + 1) body ab N C a b m q w6 ∧ Gr2 g gm W5 w6 ∧ DI z L body j' m a b ∧ ((∀ s ∈ L.take j', s = "sluice/wire.handle") → NoLists m q)) := Lib.hid ⟨j + 1, m', q', a2, b2, hjn, rfl, h5, HGR1.out.trans hg5, HSTEP.out _ _ _ hset hv, fun h => absurd (h _ (by rw [HSNN.out]; exact List.mem_append_right _ (List.mem_singleton.2 rfl))) (by decide)⟩
                  clear h5 hg5 hset hv hcj
                  go_wp2
                  go_roundw
                  case rel => exact HR.out
                  case measure => exact HME.out
                · go_wp2_with fail
                  refine (rf2_image HFC.out HFS1.out).mono ?_
                  rintro e w6 ⟨m', q', a2, b2, rfl, h5, hg5, hset, hv⟩
                  have HR : Hid (∃ (j' : Nat) (m : M) (q : Ps) (a : Nat) (b : Bool), j' ≤ nl ∧ Value.int .i64 ((j : Int) + 1) = .int .i64 (j' : Int) ∧ FS w1 g gm (gm + 1) body ab N C a b m q w6 ∧ Gr2 g gm W5 w6 ∧ DI z L body j' m a b ∧ ((∀ s ∈ L.take j', s = "sluice/wire.handle") → NoLists m q)) := Lib.hid ⟨j + 1, m', q', a2, b2, hjn, rfl, h5, HGR1.out.trans hg5, HSTEP.out _ _ _ hset hv, fun h => absurd (h _ (by rw [HSNN.out]; exact List.mem_append_right _ (List.mem_singleton.2 rfl))) (by decide)⟩
                  clear h5 hg5 hset hv hcj
                  go_wp2
                  go_roundw
                  case rel => exact HR.out
                  case measure => exact HME.out
                · go_wp2_with fail
                  refine (rf2_event HFC.out HFS1.out).mono ?_
                  rintro e w6 ⟨m', q', a2, b2, rfl, h5, hg5, hset, hv⟩
                  have HR : Hid (∃ (j' : Nat) (m : M) (q : Ps) (a : Nat) (b : Bool), j' ≤ nl ∧ Value.int .i64 ((j : Int) + 1) = .int .i64 (j' : Int) ∧ FS w1 g gm (gm + 1) body ab N C a b m q w6 ∧ Gr2 g gm W5 w6 ∧ DI z L body j' m a b ∧ ((∀ s ∈ L.take j', s = "sluice/wire.handle") → NoLists m q)) := Lib.hid ⟨j + 1, m', q', a2, b2, hjn, rfl, h5, HGR1.out.trans hg5, HSTEP.out _ _ _ hset hv, fun h => absurd (h _ (by rw [HSNN.out]; exact List.mem_append_right _ (List.mem_singleton.2 rfl))) (by decide)⟩
                  clear h5 hg5 hset hv hcj
                  go_wp2
                  go_roundw
                  case rel => exact HR.out
                  case measure => exact HME.out
                · go_wp2_with fail
                  refine (rf2_match HFC.out HFS1.out (by first | exact HM.out rfl | exact HM.out trivial)).mono ?_
                  rintro e w6 ⟨m', q', a2, b2, rfl, h5, hg5, hset, hv⟩
                  have HR : Hid (∃ (j' : Nat) (m : M) (q : Ps) (a : Nat) (b : Bool), j' ≤ nl ∧ Value.int .i64 ((j : Int) + 1) = .int .i64 (j' : Int) ∧ FS w1 g gm (gm + 1) body ab N C a b m q w6 ∧ Gr2 g gm W5 w6 ∧ DI z L body j' m a b ∧ ((∀ s ∈ L.take j', s = "sluice/wire.handle") → NoLists m q)) := Lib.hid ⟨j + 1, m', q', a2, b2, hjn, rfl, h5, HGR1.out.trans hg5, HSTEP.out _ _ _ hset hv, fun h => absurd (h _ (by rw [HSNN.out]; exact List.mem_append_right _ (List.mem_singleton.2 rfl))) (by decide)⟩
                  clear h5 hg5 hset hv hcj
                  go_wp2
                  go_roundw
                  case rel => exact HR.out
                  case measure => exact HME.out
                · go_wp2_with fail
                  refine (rf2_sizes HFC.out HFS1.out).mono ?_
                  rintro e w6 ⟨m', q', a2, b2, rfl, h5, hg5, hset, hv⟩
                  have HR : Hid (∃ (j' : Nat) (m : M) (q : Ps) (a : Nat) (b : Bool), j' ≤ nl ∧ Value.int .i64 ((j : Int) + 1) = .int .i64 (j' : Int) ∧ FS w1 g gm (gm + 1) body ab N C a b m q w6 ∧ Gr2 g gm W5 w6 ∧ DI z L body j' m a b ∧ ((∀ s ∈ L.take j', s = "sluice/wire.handle") → NoLists m q)) := Lib.hid ⟨j + 1, m', q', a2, b2, hjn, rfl, h5, HGR1.out.trans hg5, HSTEP.out _ _ _ hset hv, fun h => absurd (h _ (by rw [HSNN.out]; exact List.mem_append_right _ (List.mem_singleton.2 rfl))) (by decide)⟩
                  clear h5 hg5 hset hv hcj
                  go_wp2
                  go_roundw
                  case rel => exact HR.out
                  case measure => exact HME.out
                · go_wp2_with fail
                  refine (rf2_fault HFC.out HFS1.out).mono ?_
                  rintro e w6 ⟨m', q', a2, b2, rfl, h5, hg5, hset, hv⟩
                  have HR : Hid (∃ (j' : Nat) (m : M) (q : Ps) (a : Nat) (b : Bool), j' ≤ nl ∧ Value.int .i64 ((j : Int) + 1) = .int .i64 (j' : Int) ∧ FS w1 g gm (gm + 1) body ab N C a b m q w6 ∧ Gr2 g gm W5 w6 ∧ DI z L body j' m a b ∧ ((∀ s ∈ L.take j', s = "sluice/wire.handle") → NoLists m q)) := Lib.hid ⟨j + 1, m', q', a2, b2, hjn, rfl, h5, HGR1.out.trans hg5, HSTEP.out _ _ _ hset hv, fun h => absurd (h _ (by rw [HSNN.out]; exact List.mem_append_right _ (List.mem_singleton.2 rfl))) (by decide)⟩
                  clear h5 hg5 hset hv hcj
                  go_wp2
                  go_roundw
                  case rel => exact HR.out
                  case measure => exact HME.out
              · have hlt' : ¬ (j : Int) < nl := by omega
                have hjL : (ordL z).take j = ordL z := by rw [← HL.out]; exact List.take_of_length_le (by rw [← HNL.out]; omega)
                obtain ⟨c0, c1, c2, _, _⟩ := hfs.rs.cells
                have hlenb : body.length = N := HFC.out.rc.len
                have haN : a ≤ N := hfs.rs.2.1
                have hcons := body_cons (l := l) (en := en) (u := u) (z := z) (by rw [hn]; omega) (by omega) HZ.out
                rw [← HBODY.out] at hcons
                have hnope : (∀ x, VX x → properM x → UInt8.ofNat z.toNat :: body ≠ inM x) → DecR l (zM 0) 0 212 := fun h => HRR.out _ _ _ (.inr (.inr ⟨by omega, by omega, by rw [hn]; omega, .inr ⟨rfl, rfl, rfl, by rw [hcons]; exact h⟩⟩))
                have hkr : Blk wr gr 50 cellsZ := HK1.out.below hfs.rs.2.2
                have hbw : Below w.heap.size w wr := HB1.out.trans (hfs.rs.2.2.mono HB1.out.size)
                have hthr : wr.there gr 0 31 := hkr.there 0 31 (Nat.le_refl _)
                rw [HL.out] at hdi
                have HDI := Lib.hid hdi
                have HNP := Lib.hid hnope
                have HKX : Hid (∀ n, Blk (wr.drewN n) gr 50 cellsZ) := Lib.hid (fun n => hkr.below (below_draws wr))
                have HBX : Hid (∀ n, Below w.heap.size w (wr.drewN n)) := Lib.hid (fun n => hbw.trans (below_draws wr))
                have HFN : Hid (∀ n, Blk (wr.drewN n) gm 50 (cellsM m q) ∧ OwnM (gm + 1) (wr.drewN n) m q) := Lib.hid (fun n => ⟨hfs.blk.below (below_draws wr), own_below hfs.own.1 (below_draws wr), own_below hfs.own.2.1 (below_draws wr), own_below hfs.own.2.2.1 (below_draws wr), own_below hfs.own.2.2.2 (below_draws wr)⟩)
                have HKR := Lib.hid hkr
                have HBW := Lib.hid hbw
                have HFX := Lib.hid hfs
                have HCONS := Lib.hid hcons
                have HJL := Lib.hid hjL
                clear hdi hnope hkr hbw hfs hcons hjL hno hgr hth
                by_cases hnil : L = []
                · have hal := HN1.out hnil
                  have HD := Lib.hid (HNP.out (dec_none hz0 hz1 (by rw [← HL.out]; exact hnil)))
                  subst hal
                  have heq : ∀ (W : World), (binOp .eql 77 (.slice none nl cl) (.slice none 0 0)).run Try.prog W = .ok (.bool true) W := fun W => by kernel_rfl
                  clear hnil
                  go_wp2_with fail
                  go_quiet (fail)
                  have hkx := HKX.out nq
                  have hbx := HBX.out nq
                  have hthr := hkx.there 0 31 (Nat.le_refl _)
                  obtain ⟨wx, hwx⟩ : ∃ x, x = wr.drewN nq := ⟨_, rfl⟩
                  rw [← hwx] at hkx hbx hthr ⊢
                  have HKY := Lib.hid hkx
                  have HBY := Lib.hid hbx
                  clear hwx hkx hbx
                  go_wp2_with (first | ((with_reducible refine at_store ?_); refine wpList_store_mid rfl 50 _ _ rfl gr 0 cellsZ.toArray rfl rfl hthr (by kernel_rfl) (by kernel_rfl) ?_) | fail)
                  refine dec_zero HD.out HGR.out HKY.out HBY.out _ ?_ ?_ ?_ ?_
                  all_goals rfl
                · have hal := HN2.out hnil
                  have hLz : ordL z ≠ [] := by rw [← HL.out]; exact hnil
                  have HLZ := Lib.hid hLz
                  clear hnil hLz
                  cases al with
                  | none => exact absurd rfl hal
                  | some x =>
                    clear hal
                    have heq : ∀ (W : World), (binOp .eql 77 (.slice (some x) nl cl) (.slice none 0 0)).run Try.prog W = .ok (.bool false) W := fun W => by kernel_rfl
                    cases b with
                    | true =>
                      have HD := Lib.hid (HNP.out (dec_bad hz0 hz1 HDI.out))
                      go_wp2_with fail
                      go_quiet (fail)
                      have hkx := HKX.out nq
                      have hbx := HBX.out nq
                      have hthr := hkx.there 0 31 (Nat.le_refl _)
                      obtain ⟨wx, hwx⟩ : ∃ x, x = wr.drewN nq := ⟨_, rfl⟩
                      rw [← hwx] at hkx hbx hthr ⊢
                      have HKY := Lib.hid hkx
                      have HBY := Lib.hid hbx
                      clear hwx hkx hbx
                      go_wp2_with (first | ((with_reducible refine at_store ?_); refine wpList_store_mid rfl 50 _ _ rfl gr 0 cellsZ.toArray rfl rfl hthr (by kernel_rfl) (by kernel_rfl) ?_) | fail)
                      refine dec_zero HD.out HGR.out HKY.out HBY.out _ ?_ ?_ ?_ ?_
                      all_goals rfl
                    | false =>
                      by_cases hat : a < N
                      · have hat' : (a : Int) < N := by omega
                        have HD := Lib.hid (HNP.out (dec_long hz0 hz1 HFX.out.vx HDI.out HJL.out (by omega)))
                        go_wp2_with fail
                        go_quiet (fail)
                        have hkx := HKX.out nq
                        have hbx := HBX.out nq
                        have hthr := hkx.there 0 31 (Nat.le_refl _)
                        obtain ⟨wx, hwx⟩ : ∃ x, x = wr.drewN nq := ⟨_, rfl⟩
                        rw [← hwx] at hkx hbx hthr ⊢
                        have HKY := Lib.hid hkx
                        have HBY := Lib.hid hbx
                        clear hwx hkx hbx
                        go_wp2_with (first | ((with_reducible refine at_store ?_); refine wpList_store_mid rfl 50 _ _ rfl gr 0 cellsZ.toArray rfl rfl hthr (by kernel_rfl) (by kernel_rfl) ?_) | fail)
                        refine dec_zero HD.out HGR.out HKY.out HBY.out _ ?_ ?_ ?_ ?_
                        all_goals rfl
                      · have hat' : ¬ (a : Int) < N := by omega
                        have hok := dec_ok HFX.out.vx HDI.out HJL.out HLZ.out (by omega)
                        have hD : DecR l m (en + u) 0 := HRR.out _ _ _ (.inr (.inr ⟨by omega, by omega, by rw [hn]; omega, .inl ⟨rfl, HFX.out.vx, hok.1, by rw [HCONS.out]; exact hok.2, rfl⟩⟩))
                        have HD := Lib.hid hD
                        have hgrl : gr < gm + 1 := by
                          have h1 := HGR.out
                          have h2 := HB1.out.size
                          have h3 := HK1.out.lt
                          have := HGG.out
                          omega
                        have hwb : w.heap.size ≤ gm + 1 := by rw [← HGR.out]; omega
                        clear hok hD
                        go_wp2_with fail
                        go_quiet (fail)
                        have hkx := HKX.out nq
                        have hbx := HBX.out nq
                        have hfx := HFN.out nq
                        obtain ⟨wx, hwx⟩ : ∃ x, x = wr.drewN nq := ⟨_, rfl⟩
                        rw [← hwx] at hkx hbx hfx ⊢
                        clear hwx
                        have hthr := hkx.there 0 31 (Nat.le_refl _)
                        have hrg : wx.rangeAt gm 0 (cellsM m q) := hfx.1.whole
                        have hend := put_all (cs := cellsM m q) hkx rfl
                        have hown := hfx.2.two (Gr2.ofm gr hend.2) hgrl hgrl
                        have hown2 : OwnM w.heap.size (wx.setCells gr 0 (cellsM m q)) m q := ⟨own_low hown.1 hwb, own_low hown.2.1 hwb, own_low hown.2.2.1 hwb, own_low hown.2.2.2 hwb⟩
                        have hbe : Below w.heap.size w (wx.setCells gr 0 (cellsM m q)) := below_gr hbx (by rw [← HGR.out]; exact hend.2)
                        have HEND := Lib.hid hend.1
                        have HOWN := Lib.hid hown2
                        have HBE := Lib.hid hbe
                        clear hkx hbx hfx hend hown hown2 hbe
                        go_wp2_with (first | ((with_reducible refine at_dst 94 ?_); refine wpList_load_midg rfl _ _ rfl _ _ rfl _ _ hrg Try.underlying50 rfl (by kernel_rfl) ?_) | ((with_reducible refine at_store ?_); refine wpList_store_mid rfl 50 _ _ rfl gr 0 (cellsM m q).toArray rfl rfl hthr (by kernel_rfl) (by kernel_rfl) ?_) | fail)
                        refine dec_end HD.out HGR.out HEND.out HBE.out HOWN.out _ ?_ ?_ ?_ ?_
                        all_goals rfl
          · go_upto_region 10 with fail
            have hfa := HMK.out (some ⟨bk, off + (en + 1), none⟩) (en + u - (en + 1)) (cap - (en + 1)) (by omega) (by omega) (fun _ => by simp [Addr.add])
            have hcB := hcA (.cells #[.slice (some ⟨bk, off + (en + 1), none⟩) (en + u - (en + 1)) (cap - (en + 1)), .int .i64 0, .bool false] 92)
            have hsz : (w1.alloc (.cells #[.slice (some ⟨bk, off + (en + 1), none⟩) (en + u - (en + 1)) (cap - (en + 1)), .int .i64 0, .bool false] 92)).heap.size = w1.heap.size + 1 := World.size_alloc _ _
            have hb12 : Below w1.heap.size w1 (w1.alloc (.cells #[.slice (some ⟨bk, off + (en + 1), none⟩) (en + u - (en + 1)) (cap - (en + 1)), .int .i64 0, .bool false] 92)) := (Below.refl _ _).alloc (Nat.le_refl _) _
            obtain ⟨w2, hw2⟩ : ∃ x, x = w1.alloc (.cells #[.slice (some ⟨bk, off + (en + 1), none⟩) (en + u - (en + 1)) (cap - (en + 1)), .int .i64 0, .bool false] 92) := ⟨_, rfl⟩
            rw [← hw2] at hfa hcB hsz hb12 ⊢
            obtain ⟨ab, hab⟩ : ∃ x : Option Addr, x = (some ⟨bk, off + (en + 1), none⟩) := ⟨_, rfl⟩
            obtain ⟨N, hN⟩ : ∃ x, x = en + u - (en + 1) := ⟨_, rfl⟩
            rw [← hab, ← hN] at hfa
            obtain ⟨C, hrc, hrs⟩ : ∃ C, RC w1 w1.heap.size ((l.drop (en + 1)).take (u - 1)) ab N C ∧ RS w1 w1.heap.size ((l.drop (en + 1)).take (u - 1)) ab N C 0 false w2 := ⟨_, hfa⟩
            have HRC := Lib.hid hrc
            have HRS := Lib.hid hrs
            have HN := Lib.hid hN
            have HSZ := Lib.hid hsz
            have HB12 := Lib.hid hb12
            clear hw2 hab hN hfa hrc hrs hcA hcn hsz hb12 HMK
            have hgz : Blk (w2.alloc (.cells cellsZ.toArray 50)) w2.heap.size 50 cellsZ := Blk.new w2 _ 50
            have hth2 : (w2.alloc (.cells cellsZ.toArray 50)).there w2.heap.size 0 31 := hgz.there 0 31 (Nat.le_refl _)
            have hst := put_all (cs := cellsM (zM z) zP) hgz rfl
            obtain ⟨w4, hw4⟩ : ∃ x, x = (w2.alloc (.cells cellsZ.toArray 50)).setCells w2.heap.size 0 (cellsM (zM z) zP) := ⟨_, rfl⟩
            rw [← hw4] at hst
            have hb24 : Below w2.heap.size w2 w4 := ((Below.refl w2.heap.size w2).alloc (Nat.le_refl _) (.cells cellsZ.toArray 50)).grown hst.2 (by rw [World.size_alloc]; omega) (by intro k hk; cases hk; exact Nat.le_refl _)
            unfold cellsZ at hth2 hw4
            clear hgz
            have HST := Lib.hid hst
            have HB24 := Lib.hid hb24
            clear hst hb24
            go_upto_region 11 with (first | ((with_reducible refine at_store ?_); refine wpList_store_mid rfl 50 _ _ rfl w2.heap.size 0 (cellsM (zM z) zP).toArray rfl rfl hth2 (by kernel_rfl) (by kernel_rfl) ?_; rw [← hw4]) | fail)
            clear hth2 hw4 hcB
            obtain ⟨gm, hgm⟩ : ∃ x, x = w2.heap.size := ⟨_, rfl⟩
            obtain ⟨g, hg⟩ : ∃ x, x = w1.heap.size := ⟨_, rfl⟩
            rw [← hgm, ← hg]
            have hgg : gm = g + 1 := by rw [hgm, hg]; exact HSZ.out
            have hk4 := HST.out.1
            rw [← hgm] at hk4
            have hrs4 : RS w1 g ((l.drop (en + 1)).take (u - 1)) ab N C 0 false w4 := by rw [hg]; exact HRS.out.low HB24.out (by have := HSZ.out; omega) (by have := HSZ.out; omega)
            have hb14 : Below w1.heap.size w1 w4 := hrs4.2.2
            have hrc4 : RC w1 g ((l.drop (en + 1)).take (u - 1)) ab N C := by rw [hg]; exact HRC.out
            have hc40 : w4.cell? ⟨gm, 0, none⟩ = some (.int .i64 z) := hk4.cell 0 (by rw [cellsM_len]; omega)
            have hNs : N = u - 1 := by rw [HN.out]; omega
            obtain ⟨body, hbody⟩ : ∃ x, x = (l.drop (en + 1)).take (u - 1) := ⟨_, rfl⟩
            rw [← hbody] at hrs4 hrc4
            have HBODY := Lib.hid hbody
            have HG := Lib.hid hg
            have HGM := Lib.hid hgm
            have HK4 := Lib.hid hk4
            have HRS4 := Lib.hid hrs4
            have HRC4 := Lib.hid hrc4
            have HGG := Lib.hid hgg
            have hszm : gm < w4.heap.size := hk4.lt
            have hg1 : w1.heap.size ≤ g := by rw [hg]; exact Nat.le_refl _
            have HNS := Lib.hid hNs
            clear hbody hg hgm hk4 hrs4 hrc4 hgg HST HB24 HRS HRC HN hNs HSZ
            go_wp2_with fail
            refine (order_rd g z w4).mono ?_
            rintro e w5 ⟨al, cl, rfl, hrl, hbl, hn1, hn2, hfr⟩
            obtain ⟨L, hL⟩ : ∃ L, L = ordL z := ⟨_, rfl⟩
            rw [← hL] at hrl hn1 hn2 ⊢
            obtain ⟨nl, hnl⟩ : ∃ n, n = L.length := ⟨_, rfl⟩
            rw [← hnl]
            have HL := Lib.hid hL
            have HNL := Lib.hid hnl
            have HRL := Lib.hid hrl
            have hnl3 : nl ≤ 3 := by
              rw [hnl, hL]
              exact ordL_len3 _
            have HTEN := Lib.hid (show ∀ s ∈ L, s ∈ tenL by rw [hL]; exact ordL_ten z)
            have hfc : FC w1 g gm (gm + 1) body ab N C := ⟨HRC4.out, by have := HGG.out; omega, by have := HGG.out; omega, Nat.lt_succ_self _, by have := HGG.out; omega, by have := HNS.out; omega⟩
            have hfs : FS w1 g gm (gm + 1) body ab N C 0 false (zM z) zP w5 := ⟨HRS4.out.low hbl (by have := HGG.out; omega) (by have := HGG.out; omega), HK4.out.below hbl, ownZ _ _ _, vxZ z hz0 hz1, by have := hbl.size; omega⟩
            have hoff : ∀ x, al = some x → x.block ≠ g ∧ x.block ≠ gm := fun x hx => by have := hfr x hx; have := HGG.out; constructor <;> omega
            have HOFF := Lib.hid hoff
            have HFC := Lib.hid hfc
            have HFS := Lib.hid hfs
            have HBL := Lib.hid hbl
            have HN1 := Lib.hid hn1
            have HN2 := Lib.hid hn2
            clear hL hnl hbl hfr hoff hrl hfc hfs HRS4 HRC4 HK4 hc40
            go_wp2_with fail
            have HNDP := Lib.hid (show L.Nodup by rw [HL.out]; exact ordL_nodup z)
            have HPF := Lib.hid (show ∀ i (hi : i < L.length), L[i] = "sluice/wire.match" → ∀ s ∈ L.take i, s = "sluice/wire.handle" by rw [HL.out]; exact ordL_match z)
            have hb15 : Below w1.heap.size w1 w5 := hb14.trans (HBL.out.mono hb14.size)
            have HB15 := Lib.hid hb15
            clear hb14 hb15 hn1 hn2 hr
            obtain ⟨W5, hW5⟩ : ∃ W5, W5 = w5 := ⟨_, rfl⟩
            rw [← hW5] at HRL HFS HB15 ⊢
            clear hW5 HBL
            go_loopw [66] (fun i wr => ∃ (j : Nat) (m : M) (q : Ps) (a : Nat) (b : Bool), j ≤ nl ∧ i = .int .i64 (j : Int) ∧ FS w1 g gm (gm + 1) body ab N C a b m q wr ∧ Gr2 g gm W5 wr ∧ DI z L body j m a b ∧ ((∀ s ∈ L.take j, s = "sluice/wire.handle") → NoLists m q)) (fun i _ => nl - (intOf i).toNat)
            case atStart => exact ⟨0, zM z, zP, 0, false, Nat.zero_le _, rfl, HFS.out, ⟨rfl, rfl, rfl, Nat.le_refl _, fun _ _ _ _ => rfl⟩, DI.start _ _ _, fun _ => ⟨rfl, rfl, rfl, rfl, rfl, rfl, rfl, rfl, rfl⟩⟩
            case round =>
              obtain ⟨j, m, q, a, b, hj, rfl, hfs, hgr, hdi, hno⟩ := hrel
              by_cases hlt : j < nl
              · have hjl : j < L.length := by rw [← HNL.out]; exact hlt
                have hlt' : (j : Int) < nl := by omega
                have hrl := HRL.out.gr2 hgr HOFF.out
                obtain ⟨bb, off2, hal, hc⟩ := hrl.cells (by intro h0; have := congrArg List.length h0; simp at this; rw [this] at hjl; simp at hjl)
                have hcj := hc j (by simpa using hjl)
                rw [List.getElem_map, mf] at hcj
                obtain ⟨s, hs⟩ : ∃ s, s = L[j] := ⟨_, rfl⟩
                have hten := HTEN.out s (by rw [hs]; exact List.getElem_mem hjl)
                have hstep : ∀ m' a2 b2, m' = setF s m m' → Verdict s body a b a2 b2 m' → DI z L body (j + 1) m' a2 b2 := fun m' a2 b2 h1 h2 => hdi.step HTEN.out HNDP.out hjl hfs.vx (hs ▸ h1) (hs ▸ h2)
                have hsn : L.take (j + 1) = L.take j ++ [s] := by rw [hs]; exact List.take_succ_eq_append_getElem hjl
                have hm : s = "sluice/wire.match" → NoLists m q := fun h => hno (HPF.out j hjl (by rw [← hs]; exact h))
                rw [← hs] at hcj
                have HSTEP := Lib.hid hstep
                have HSNN := Lib.hid hsn
                have HNO := Lib.hid hno
                have HM := Lib.hid hm
                have HFS1 := Lib.hid hfs
                have HGR1 := Lib.hid hgr
                have HME := Lib.hid (meas_lt hlt)
                have hjn : j + 1 ≤ nl := hlt
                clear hc hs hsn hrl hstep hno hm hfs hgr hdi
                subst hal
                simp only [tenL, List.mem_cons, List.not_mem_nil, or_false] at hten
                rcases hten with rfl | rfl | rfl | rfl | rfl | rfl | rfl | rfl | rfl | rfl
                · go_wp2_with fail
                  refine (rf2_number HFC.out HFS1.out).mono ?_
                  rintro e w6 ⟨m', q', a2, b2, rfl, h5, hg5, hset, hv⟩
                  have HR : Hid (∃ (j' : Nat) (m : M) (q : Ps) (a : Nat) (b : Bool), j' ≤ nl ∧ Value.int .i64 ((j : Int) + 1) = .int .i64 (j' : Int) ∧ FS w1 g gm (gm + 1) body ab N C a b m q w6 ∧ Gr2 g gm W5 w6 ∧ DI z L body j' m a b ∧ ((∀ s ∈ L.take j', s = "sluice/wire.handle") → NoLists m q)) := Lib.hid ⟨j + 1, m', q', a2, b2, hjn, rfl, h5, HGR1.out.trans hg5, HSTEP.out _ _ _ hset hv, fun h => absurd (h _ (by rw [HSNN.out]; exact List.mem_append_right _ (List.mem_singleton.2 rfl))) (by decide)⟩
                  clear h5 hg5 hset hv hcj
                  go_wp2
                  go_roundw
                  case rel => exact HR.out
                  case measure => exact HME.out
                · go_wp2_with fail
                  refine (rf2_handle_q HFC.out HFS1.out).mono ?_
                  rintro e w6 ⟨m', a2, b2, rfl, h5, hg5, hset, hv⟩
                  have HR : Hid (∃ (j' : Nat) (m : M) (q : Ps) (a : Nat) (b : Bool), j' ≤ nl ∧ Value.int .i64 ((j : Int) + 1) = .int .i64 (j' : Int) ∧ FS w1 g gm (gm + 1) body ab N C a b m q w6 ∧ Gr2 g gm W5 w6 ∧ DI z L body j' m a b ∧ ((∀ s ∈ L.take j', s = "sluice/wire.handle") → NoLists m q)) := Lib.hid ⟨j + 1, m', q, a2, b2, hjn, rfl, h5, HGR1.out.trans hg5, HSTEP.out _ _ _ hset hv, fun h => by
                    have h6 := HNO.out (fun s hs => h s (by rw [HSNN.out]; simp [hs]))
                    rw [hset]
                    exact h6⟩
                  clear h5 hg5 hset hv hcj
                  go_wp2
                  go_roundw
                  case rel => exact HR.out
                  case measure => exact HME.out
                · go_wp2_with fail
                  refine (rf2_code HFC.out HFS1.out).mono ?_
                  rintro e w6 ⟨m', q', a2, b2, rfl, h5, hg5, hset, hv⟩
                  have HR : Hid (∃ (j' : Nat) (m : M) (q : Ps) (a : Nat) (b : Bool), j' ≤ nl ∧ Value.int .i64 ((j : Int) + 1) = .int .i64 (j' : Int) ∧ FS w1 g gm (gm + 1) body ab N C a b m q w6 ∧ Gr2 g gm W5 w6 ∧ DI z L body j' m a b ∧ ((∀ s ∈ L.take j', s = "sluice/wire.handle") → NoLists m q)) := Lib.hid ⟨j + 1, m', q', a2, b2, hjn, rfl, h5, HGR1.out.trans hg5, HSTEP.out _ _ _ hset hv, fun h => absurd (h _ (by rw [HSNN.out]; exact List.mem_append_right _ (List.mem_singleton.2 rfl))) (by decide)⟩
                  clear h5 hg5 hset hv hcj
                  go_wp2
                  go_roundw
                  case rel => exact HR.out
                  case measure => exact HME.out
                · go_wp2_with fail
                  refine (rf2_schema HFC.out HFS1.out).mono ?_
                  rintro e w6 ⟨m', q', a2, b2, rfl, h5, hg5, hset, hv⟩
                  have HR : Hid (∃ (j' : Nat) (m : M) (q : Ps) (a : Nat) (b : Bool), j' ≤ nl ∧ Value.int .i64 ((j : Int) + 1) = .int .i64 (j' : Int) ∧ FS w1 g gm (gm + 1) body ab N C a b m q w6 ∧ Gr2 g gm W5 w6 ∧ DI z L body j' m a b ∧ ((∀ s ∈ L.take j', s = "sluice/wire.handle") → NoLists m q)) := Lib.hid ⟨j + 1, m', q', a2, b2, hjn, rfl, h5, HGR1.out.trans hg5, HSTEP.out _ _ _ hset hv, fun h => absurd (h _ (by rw [HSNN.out]; exact List.mem_append_right _ (List.mem_singleton.2 rfl))) (by decide)⟩
                  clear h5 hg5 hset hv hcj
                  go_wp2
                  go_roundw
                  case rel => exact HR.out
                  case measure => exact HME.out
                · go_wp2_with fail
                  refine (rf2_query HFC.out HFS1.out).mono ?_
                  rintro e w6 ⟨m', q', a2, b2, rfl, h5, hg5, hset, hv⟩
                  have HR : Hid (∃ (j' : Nat) (m : M) (q : Ps) (a : Nat) (b : Bool), j' ≤ nl ∧ Value.int .i64 ((j : Int) + 1) = .int .i64 (j' : Int) ∧ FS w1 g gm (gm + 1) body ab N C a b m q w6 ∧ Gr2 g gm W5 w6 ∧ DI z L body j' m a b ∧ ((∀ s ∈ L.take j', s = "sluice/wire.handle") → NoLists m q)) := Lib.hid ⟨j + 1, m', q', a2, b2, hjn, rfl, h5, HGR1.out.trans hg5, HSTEP.out _ _ _ hset hv, fun h => absurd (h _ (by rw [HSNN.out]; exact List.mem_append_right _ (List.mem_singleton.2 rfl))) (by decide)⟩
                  clear h5 hg5 hset hv hcj
                  go_wp2
                  go_roundw
                  case rel => exact HR.out
                  case measure => exact HME.out
                · go_wp2_with fail
                  refine (rf2_image HFC.out HFS1.out).mono ?_
                  rintro e w6 ⟨m', q', a2, b2, rfl, h5, hg5, hset, hv⟩
                  have HR : Hid (∃ (j' : Nat) (m : M) (q : Ps) (a : Nat) (b : Bool), j' ≤ nl ∧ Value.int .i64 ((j : Int) + 1) = .int .i64 (j' : Int) ∧ FS w1 g gm (gm + 1) body ab N C a b m q w6 ∧ Gr2 g gm W5 w6 ∧ DI z L body j' m a b ∧ ((∀ s ∈ L.take j', s = "sluice/wire.handle") → NoLists m q)) := Lib.hid ⟨j + 1, m', q', a2, b2, hjn, rfl, h5, HGR1.out.trans hg5, HSTEP.out _ _ _ hset hv, fun h => absurd (h _ (by rw [HSNN.out]; exact List.mem_append_right _ (List.mem_singleton.2 rfl))) (by decide)⟩
                  clear h5 hg5 hset hv hcj
                  go_wp2
                  go_roundw
                  case rel => exact HR.out
                  case measure => exact HME.out
                · go_wp2_with fail
                  refine (rf2_event HFC.out HFS1.out).mono ?_
                  rintro e w6 ⟨m', q', a2, b2, rfl, h5, hg5, hset, hv⟩
                  have HR : Hid (∃ (j' : Nat) (m : M) (q : Ps) (a : Nat) (b : Bool), j' ≤ nl ∧ Value.int .i64 ((j : Int) + 1) = .int .i64 (j' : Int) ∧ FS w1 g gm (gm + 1) body ab N C a b m q w6 ∧ Gr2 g gm W5 w6 ∧ DI z L body j' m a b ∧ ((∀ s ∈ L.take j', s = "sluice/wire.handle") → NoLists m q)) := Lib.hid ⟨j + 1, m', q', a2, b2, hjn, rfl, h5, HGR1.out.trans hg5, HSTEP.out _ _ _ hset hv, fun h => absurd (h _ (by rw [HSNN.out]; exact List.mem_append_right _ (List.mem_singleton.2 rfl))) (by decide)⟩
                  clear h5 hg5 hset hv hcj
                  go_wp2
                  go_roundw
                  case rel => exact HR.out
                  case measure => exact HME.out
                · go_wp2_with fail
                  refine (rf2_match HFC.out HFS1.out (by first | exact HM.out rfl | exact HM.out trivial)).mono ?_
                  rintro e w6 ⟨m', q', a2, b2, rfl, h5, hg5, hset, hv⟩
                  have HR : Hid (∃ (j' : Nat) (m : M) (q : Ps) (a : Nat) (b : Bool), j' ≤ nl ∧ Value.int .i64 ((j : Int) + 1) = .int .i64 (j' : Int) ∧ FS w1 g gm (gm + 1) body ab N C a b m q w6 ∧ Gr2 g gm W5 w6 ∧ DI z L body j' m a b ∧ ((∀ s ∈ L.take j', s = "sluice/wire.handle") → NoLists m q)) := Lib.hid ⟨j + 1, m', q', a2, b2, hjn, rfl, h5, HGR1.out.trans hg5, HSTEP.out _ _ _ hset hv, fun h => absurd (h _ (by rw [HSNN.out]; exact List.mem_append_right _ (List.mem_singleton.2 rfl))) (by decide)⟩
                  clear h5 hg5 hset hv hcj
                  go_wp2
                  go_roundw
                  case rel => exact HR.out
                  case measure => exact HME.out
                · go_wp2_with fail
                  refine (rf2_sizes HFC.out HFS1.out).mono ?_
                  rintro e w6 ⟨m', q', a2, b2, rfl, h5, hg5, hset, hv⟩
                  have HR : Hid (∃ (j' : Nat) (m : M) (q : Ps) (a : Nat) (b : Bool), j' ≤ nl ∧ Value.int .i64 ((j : Int) + 1) = .int .i64 (j' : Int) ∧ FS w1 g gm (gm + 1) body ab N C a b m q w6 ∧ Gr2 g gm W5 w6 ∧ DI z L body j' m a b ∧ ((∀ s ∈ L.take j', s = "sluice/wire.handle") → NoLists m q)) := Lib.hid ⟨j + 1, m', q', a2, b2, hjn, rfl, h5, HGR1.out.trans hg5, HSTEP.out _ _ _ hset hv, fun h => absurd (h _ (by rw [HSNN.out]; exact List.mem_append_right _ (List.mem_singleton.2 rfl))) (by decide)⟩
                  clear h5 hg5 hset hv hcj
                  go_wp2
                  go_roundw
                  case rel => exact HR.out
                  case measure => exact HME.out
                · go_wp2_with fail
                  refine (rf2_fault HFC.out HFS1.out).mono ?_
                  rintro e w6 ⟨m', q', a2, b2, rfl, h5, hg5, hset, hv⟩
                  have HR : Hid (∃ (j' : Nat) (m : M) (q : Ps) (a : Nat) (b : Bool), j' ≤ nl ∧ Value.int .i64 ((j : Int) + 1) = .int .i64 (j' : Int) ∧ FS w1 g gm (gm + 1) body ab N C a b m q w6 ∧ Gr2 g gm W5 w6 ∧ DI z L body j' m a b ∧ ((∀ s ∈ L.take j', s = "sluice/wire.handle") → NoLists m q)) := Lib.hid ⟨j + 1, m', q', a2, b2, hjn, rfl, h5, HGR1.out.trans hg5, HSTEP.out _ _ _ hset hv, fun h => absurd (h _ (by rw [HSNN.out]; exact List.mem_append_right _ (List.mem_singleton.2 rfl))) (by decide)⟩
                  clear h5 hg5 hset hv hcj
                  go_wp2
                  go_roundw
                  case rel => exact HR.out
                  case measure => exact HME.out
              · have hlt' : ¬ (j : Int) < nl := by omega
                have hjL : (ordL z).take j = ordL z := by rw [← HL.out]; exact List.take_of_length_le (by rw [← HNL.out]; omega)
                obtain ⟨c0, c1, c2, _, _⟩ := hfs.rs.cells
                have hlenb : body.length = N := HFC.out.rc.len
                have haN : a ≤ N := hfs.rs.2.1
                have hcons := body_cons (l := l) (en := en) (u := u) (z := z) (by rw [hn]; omega) (by omega) HZ.out
                rw [← HBODY.out] at hcons
                have hnope : (∀ x, VX x → properM x → UInt8.ofNat z.toNat :: body ≠ inM x) → DecR l (zM 0) 0 212 := fun h => HRR.out _ _ _ (.inr (.inr ⟨by omega, by omega, by rw [hn]; omega, .inr ⟨rfl, rfl, rfl, by rw [hcons]; exact h⟩⟩))
                have hkr : Blk wr gr 50 cellsZ := HK1.out.below hfs.rs.2.2
                have hbw : Below w.heap.size w wr := HB1.out.trans (hfs.rs.2.2.mono HB1.out.size)
                have hthr : wr.there gr 0 31 := hkr.there 0 31 (Nat.le_refl _)
                rw [HL.out] at hdi
                have HDI := Lib.hid hdi
                have HNP := Lib.hid hnope
                have HKX : Hid (∀ n, Blk (wr.drewN n) gr 50 cellsZ) := Lib.hid (fun n => hkr.below (below_draws wr))
                have HBX : Hid (∀ n, Below w.heap.size w (wr.drewN n)) := Lib.hid (fun n => hbw.trans (below_draws wr))
                have HFN : Hid (∀ n, Blk (wr.drewN n) gm 50 (cellsM m q) ∧ OwnM (gm + 1) (wr.drewN n) m q) := Lib.hid (fun n => ⟨hfs.blk.below (below_draws wr), own_below hfs.own.1 (below_draws wr), own_below hfs.own.2.1 (below_draws wr), own_below hfs.own.2.2.1 (below_draws wr), own_below hfs.own.2.2.2 (below_draws wr)⟩)
                have HKR := Lib.hid hkr
                have HBW := Lib.hid hbw
                have HFX := Lib.hid hfs
                have HCONS := Lib.hid hcons
                have HJL := Lib.hid hjL
                clear hdi hnope hkr hbw hfs hcons hjL hno hgr hth
                by_cases hnil : L = []
                · have hal := HN1.out hnil
                  have HD := Lib.hid (HNP.out (dec_none hz0 hz1 (by rw [← HL.out]; exact hnil)))
                  subst hal
                  have heq : ∀ (W : World), (binOp .eql 77 (.slice none nl cl) (.slice none 0 0)).run Try.prog W = .ok (.bool true) W := fun W => by kernel_rfl
                  clear hnil
                  go_wp2_with fail
                  go_quiet (fail)
                  have hkx := HKX.out nq
                  have hbx := HBX.out nq
                  have hthr := hkx.there 0 31 (Nat.le_refl _)
                  obtain ⟨wx, hwx⟩ : ∃ x, x = wr.drewN nq := ⟨_, rfl⟩
                  rw [← hwx] at hkx hbx hthr ⊢
                  have HKY := Lib.hid hkx
                  have HBY := Lib.hid hbx
                  clear hwx hkx hbx
                  go_wp2_with (first | ((with_reducible refine at_store ?_); refine wpList_store_mid rfl 50 _ _ rfl gr 0 cellsZ.toArray rfl rfl hthr (by kernel_rfl) (by kernel_rfl) ?_) | fail)
                  refine dec_zero HD.out HGR.out HKY.out HBY.out _ ?_ ?_ ?_ ?_
                  all_goals rfl
                · have hal := HN2.out hnil
                  have hLz : ordL z ≠ [] := by rw [← HL.out]; exact hnil
                  have HLZ := Lib.hid hLz
                  clear hnil hLz
                  cases al with
                  | none => exact absurd rfl hal
                  | some x =>
                    clear hal
                    have heq : ∀ (W : World), (binOp .eql 77 (.slice (some x) nl cl) (.slice none 0 0)).run Try.prog W = .ok (.bool false) W := fun W => by kernel_rfl
                    cases b with
                    | true =>
                      have HD := Lib.hid (HNP.out (dec_bad hz0 hz1 HDI.out))
                      go_wp2_with fail
                      go_quiet (fail)
                      have hkx := HKX.out nq
                      have hbx := HBX.out nq
                      have hthr := hkx.there 0 31 (Nat.le_refl _)
                      obtain ⟨wx, hwx⟩ : ∃ x, x = wr.drewN nq := ⟨_, rfl⟩
                      rw [← hwx] at hkx hbx hthr ⊢
                      have HKY := Lib.hid hkx
                      have HBY := Lib.hid hbx
                      clear hwx hkx hbx
                      go_wp2_with (first | ((with_reducible refine at_store ?_); refine wpList_store_mid rfl 50 _ _ rfl gr 0 cellsZ.toArray rfl rfl hthr (by kernel_rfl) (by kernel_rfl) ?_) | fail)
                      refine dec_zero HD.out HGR.out HKY.out HBY.out _ ?_ ?_ ?_ ?_
                      all_goals rfl
                    | false =>
                      by_cases hat : a < N
                      · have hat' : (a : Int) < N := by omega
                        have HD := Lib.hid (HNP.out (dec_long hz0 hz1 HFX.out.vx HDI.out HJL.out (by omega)))
                        go_wp2_with fail
                        go_quiet (fail)
                        have hkx := HKX.out nq
                        have hbx := HBX.out nq
                        have hthr := hkx.there 0 31 (Nat.le_refl _)
                        obtain ⟨wx, hwx⟩ : ∃ x, x = wr.drewN nq := ⟨_, rfl⟩
                        rw [← hwx] at hkx hbx hthr ⊢
                        have HKY := Lib.hid hkx
                        have HBY := Lib.hid hbx
                        clear hwx hkx hbx
                        go_wp2_with (first | ((with_reducible refine at_store ?_); refine wpList_store_mid rfl 50 _ _ rfl gr 0 cellsZ.toArray rfl rfl hthr (by kernel_rfl) (by kernel_rfl) ?_) | fail)
                        refine dec_zero HD.out HGR.out HKY.out HBY.out _ ?_ ?_ ?_ ?_
                        all_goals rfl
                      · have hat' : ¬ (a : Int) < N := by omega
                        have hok := dec_ok HFX.out.vx HDI.out HJL.out HLZ.out (by omega)
                        have hD : DecR l m (en + u) 0 := HRR.out _ _ _ (.inr (.inr ⟨by omega, by omega, by rw [hn]; omega, .inl ⟨rfl, HFX.out.vx, hok.1, by rw [HCONS.out]; exact hok.2, rfl⟩⟩))
                        have HD := Lib.hid hD
                        have hgrl : gr < gm + 1 := by
                          have h1 := HGR.out
                          have h2 := HB1.out.size
                          have h3 := HK1.out.lt
                          have := HGG.out
                          omega
                        have hwb : w.heap.size ≤ gm + 1 := by rw [← HGR.out]; omega
                        clear hok hD
                        go_wp2_with fail
                        go_quiet (fail)
                        have hkx := HKX.out nq
                        have hbx := HBX.out nq
                        have hfx := HFN.out nq
                        obtain ⟨wx, hwx⟩ : ∃ x, x = wr.drewN nq := ⟨_, rfl⟩
                        rw [← hwx] at hkx hbx hfx ⊢
                        clear hwx
                        have hthr := hkx.there 0 31 (Nat.le_refl _)
                        have hrg : wx.rangeAt gm 0 (cellsM m q) := hfx.1.whole
                        have hend := put_all (cs := cellsM m q) hkx rfl
                        have hown := hfx.2.two (Gr2.ofm gr hend.2) hgrl hgrl
                        have hown2 : OwnM w.heap.size (wx.setCells gr 0 (cellsM m q)) m q := ⟨own_low hown.1 hwb, own_low hown.2.1 hwb, own_low hown.2.2.1 hwb, own_low hown.2.2.2 hwb⟩
                        have hbe : Below w.heap.size w (wx.setCells gr 0 (cellsM m q)) := below_gr hbx (by rw [← HGR.out]; exact hend.2)
                        have HEND := Lib.hid hend.1
                        have HOWN := Lib.hid hown2
                        have HBE := Lib.hid hbe
                        clear hkx hbx hfx hend hown hown2 hbe
                        go_wp2_with (first | ((with_reducible refine at_dst 94 ?_); refine wpList_load_midg rfl _ _ rfl _ _ rfl _ _ hrg Try.underlying50 rfl (by kernel_rfl) ?_) | ((with_reducible refine at_store ?_); refine wpList_store_mid rfl 50 _ _ rfl gr 0 (cellsM m q).toArray rfl rfl hthr (by kernel_rfl) (by kernel_rfl) ?_) | fail)
                        refine dec_end HD.out HGR.out HEND.out HBE.out HOWN.out _ ?_ ?_ ?_ ?_
                        all_goals rfl
  · have hD : DecR l (zM 0) 0 er := ⟨0, 0, er, hu, by omega, .inl ⟨her, rfl, rfl, rfl⟩⟩
    have HD := Lib.hid hD
    go_enter Try.func30, Try.ntmps30
    go_wp2_with fail
    rw [← HGR.out]
    rw [← hw1]
    clear hw1
    refine (uint_is w1 hu hn hmax (by omega) HR1.out).mono ?_
    rintro e w1 ⟨rfl, rfl⟩
    rw [T3]
    clear hD hu hno her2
    have hth : w1.there gr 0 31 := HK1.out.there 0 31 (by decide)
    go_wp2_with (first | ((with_reducible refine at_store ?_); refine wpList_store_mid rfl 50 _ _ rfl gr 0 cellsZ.toArray rfl rfl hth (by kernel_rfl) (by kernel_rfl) ?_) | fail)
    exact dec_zero HD.out HGR.out HK1.out HB1.out _ rfl rfl rfl rfl
end Go.Proofs.Ytaipnbpefdcejaa
