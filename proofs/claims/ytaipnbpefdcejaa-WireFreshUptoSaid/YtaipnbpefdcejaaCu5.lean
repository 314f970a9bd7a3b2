/- The Cursor's field at the match, and at any letter (printed by gen_cu5.py). -/
import Derived.Test.YtaipnbpefdcejaaCu4
set_option linter.unusedVariables false
namespace Go.Proofs.Ytaipnbpefdcejaa
open Go.RowKit
set_option maxHeartbeats 2000000 in
set_option maxRecDepth 20000 in
theorem cf_match {w0 : World} {g base : Nat} {body : List UInt8} {ab : Option Addr} {nb cb at_ : Nat} {m : M} {q : Ps} {w : World} (hc : RC w0 g body ab nb cb) (h : CS w0 g body ab nb cb at_ w) (hlt : g < base) (hle : base ≤ w.heap.size) (hnb : nb ≤ 1073741824) (hwf : WfM m) (ho : OwnM base w m q) :
    Calls Try.prog 52 #[.pointer (some ⟨g, 0, none⟩), valM m q, .int .u8 77] w (CuField "sluice/wire.match" w0 g base body ab nb cb at_ m w) := by
  obtain ⟨v0, hv0⟩ : ∃ v, v = valM m q := ⟨_, rfl⟩
  obtain ⟨wa, hwa⟩ : ∃ wa, wa = (w.alloc (.cells (cellsM m q).toArray 50)).alloc (.cells cellsZ.toArray 50) := ⟨_, rfl⟩
  have hba : Below w.heap.size w wa := by rw [hwa]; exact ((Below.refl _ _).alloc (Nat.le_refl _) _).alloc (by simp) _
  have hka : Blk wa w.heap.size 50 (cellsM m q) := by rw [hwa]; exact (Blk.new w _ 50).alloc _
  have hra : Blk wa (w.heap.size + 1) 50 cellsZ := by
    have := Blk.new (w.alloc (.cells (cellsM m q).toArray 50)) cellsZ 50
    rw [World.size_alloc] at this
    rw [hwa]
    exact this
  unfold cellsM cellsZ at hwa
  unfold valM cellsM at hv0
  unfold valM cellsM
  go_enter Try.func52, Try.ntmps52
  go_upto_region 1 with fail
  rw [← hwa, ← hv0]
  obtain ⟨gm, hgm⟩ : ∃ x, x = w.heap.size := ⟨_, rfl⟩
  rw [← hgm] at hka hra ⊢
  have HK : Hid (FK w0 g gm base body ab nb cb w) := Lib.hid ⟨hc, hlt, hle, hgm, hnb⟩
  have HZ0 : Hid (FZ w0 g gm base body ab nb cb w at_ m q wa) := Lib.hid ⟨h.below hba, hka, hra, ho.below hba, grown_below hba⟩
  have HWF := Lib.hid hwf
  clear hwa hv0 hba hka hra hgm hc h hlt hle hnb hwf ho
  have hgwa : g < wa.heap.size := by have h1 := HK.out.lt; have h2 := HK.out.le; have h3 := HZ0.out.grown.size; omega
  go_wp2_with fail
  refine (cu_match HK.out.rc HZ0.out.cs hgwa HK.out.nb).mono ?_
  rintro e w1 ⟨d, L, a1, rfl, hd, hI1, hI2, hI3, hn1, hn2, hn3, hcs, hg, hoN, hoL, hoV, hgot⟩
  have HZ1 := Lib.hid (HZ0.out.step HK.out hcs hg)
  have hbase : base ≤ wa.heap.size := Nat.le_trans HK.out.le HZ0.out.grown.size
  have hown : OwnM base w1 ({ m with dec := d, names := L.ns, lens := L.ls, vals := L.vs } : M) ({ q with an := L.an, cn := L.cn, al := L.al, cl := L.cl, av := L.av, cv := L.cv } : Ps) := ⟨own_low hoN hbase, own_low hoL hbase, own_low hoV hbase, HZ1.out.own.2.2.2⟩
  have hset := HZ1.out.sets HK.out 14 (mt d L) ({ m with dec := d, names := L.ns, lens := L.ls, vals := L.vs } : M) ({ q with an := L.an, cn := L.cn, al := L.al, cl := L.cl, av := L.av, cv := L.cv } : Ps) (by simp [mt]) rfl hown
  have HGOT0 := Lib.hid hgot
  have HWF2' : Hid (WfM ({ m with dec := d, names := L.ns, lens := L.ls, vals := L.vs } : M)) := Lib.hid (by
    have h9 := HK.out.nb
    exact { HWF.out with dec := hd, names := hI1, lens := hI2, vals := hI3, nl := by simp only; omega, ll := by simp only; omega, vl := by simp only; omega })
  have hth44 : w1.there gm 14 4 := HZ1.out.blk.there 14 4 (by rw [cellsM_len]; omega)
  obtain ⟨w2, hw2⟩ : ∃ x, x = w1.setCells gm 14 (mt d L) := ⟨_, rfl⟩
  rw [← hw2] at hset
  have HZ2 := Lib.hid hset
  have HWW := Lib.hid hw2
  clear hset hw2 hd hI1 hI2 hI3 hn1 hn2 hn3 hcs hg hoN hoL hoV hgot hown hbase hgwa
  go_upto_region 45 with (first | ((with_reducible refine at_store ?_); refine wpList_store_mid rfl 44 _ _ rfl gm 14 (mt d L).toArray rfl rfl hth44 (by kernel_rfl) (by kernel_rfl) ?_; rw [← HWW.out]) | fail)
  clear HWW hth44
  have HWF2 : Hid (WfM ({ m with dec := d, names := L.ns, lens := L.ls, vals := L.vs } : M)) := Lib.hid (HWF2'.out)
  have HGOT : Hid (∀ x r, VX x → body.drop at_ = encF "sluice/wire.match" x ++ r → ({ m with dec := d, names := L.ns, lens := L.ls, vals := L.vs } : M) = setF "sluice/wire.match" m x ∧ body.drop a1 = r) := Lib.hid (fun x r hx h9 => by
    obtain ⟨h1, h2, h3, h4, h5⟩ := HGOT0.out x r hx h9
    exact ⟨by rw [h1, h2, h3, h4]; rfl, h5⟩)
  have hrg : w2.rangeAt gm 0 (cellsM ({ m with dec := d, names := L.ns, lens := L.ls, vals := L.vs } : M) ({ q with an := L.an, cn := L.cn, al := L.al, cl := L.cl, av := L.av, cv := L.cv } : Ps)) := HZ2.out.blk.whole
  have hth : w2.there (gm + 1) 0 31 := HZ2.out.res.there 0 31 (by decide)
  go_wp2_with (first | ((with_reducible refine at_dst 131 ?_); refine wpList_load_midg rfl _ _ rfl _ _ rfl _ _ hrg Try.underlying50 rfl (by kernel_rfl) ?_) | ((with_reducible refine at_store ?_); refine wpList_store_mid rfl 50 _ _ rfl (gm + 1) 0 (cellsM ({ m with dec := d, names := L.ns, lens := L.ls, vals := L.vs } : M) ({ q with an := L.an, cn := L.cn, al := L.al, cl := L.cl, av := L.av, cv := L.cv } : Ps)).toArray rfl rfl hth (by kernel_rfl) (by kernel_rfl) ?_) | fail)
  refine cf_end HZ2.out HK.out rfl HWF2.out HGOT.out _ ?_ ?_
  all_goals rfl
theorem cf_any {s : String} (hs : s ∈ tenL) {w0 : World} {g base : Nat} {body : List UInt8} {ab : Option Addr} {nb cb at_ : Nat} {m : M} {q : Ps} {w : World} (hc : RC w0 g body ab nb cb) (h : CS w0 g body ab nb cb at_ w) (hlt : g < base) (hle : base ≤ w.heap.size) (hnb : nb ≤ 1073741824) (hwf : WfM m) (ho : OwnM base w m q) :
    Calls Try.prog 52 #[.pointer (some ⟨g, 0, none⟩), valM m q, .int .u8 ((letter s).toNat : Int)] w (CuField s w0 g base body ab nb cb at_ m w) := by
  simp only [tenL, List.mem_cons, List.not_mem_nil, or_false] at hs
  rcases hs with rfl | rfl | rfl | rfl | rfl | rfl | rfl | rfl | rfl | rfl
  · exact cf_number hc h hlt hle hnb hwf ho
  · exact cf_handle hc h hlt hle hnb hwf ho
  · exact cf_code hc h hlt hle hnb hwf ho
  · exact cf_schema hc h hlt hle hnb hwf ho
  · exact cf_query hc h hlt hle hnb hwf ho
  · exact cf_image hc h hlt hle hnb hwf ho
  · exact cf_event hc h hlt hle hnb hwf ho
  · exact cf_match hc h hlt hle hnb hwf ho
  · exact cf_sizes hc h hlt hle hnb hwf ho
  · exact cf_fault hc h hlt hle hnb hwf ho
#print axioms cf_any
end Go.Proofs.Ytaipnbpefdcejaa
