/- Joined by wip/tools/merge.py out of: Rf5. -/
import Derived.Test.YtaipnbpefdcejaaMF
import Derived.Deep.RegionLaw
/- The walk of the reader's match. -/
set_option linter.unusedVariables false
namespace Go.Proofs.Ytaipnbpefdcejaa
open Go.RowKit
/-- A message whose match is empty. -/
def NoLists (m : M) (q : Ps) : Prop := m.names = [] ∧ m.lens = [] ∧ m.vals = [] ∧ q.an = none ∧ q.cn = 0 ∧ q.al = none ∧ q.cl = 0 ∧ q.av = none ∧ q.cv = 0
/-- append, as a step of a region that draws its order. -/
theorem step_app_rd {ops : Array Oper} {o : Oper} {a : Act} {w : World} {K : Act → World → Prop} {Q : Exit → Act → World → Prop} {E : Prop} (hgd : o.guard = none) (s x : Operand) (t : TypeId)
    (ho : o.op = .call { callee := .builtin .append, args := #[s, x], argTypes := #[t, t] }) (base : Nat) (e : TypeId) (z : Value) (size bytes : Nat) (ht : Try.prog.underlying t = some (.slice e)) (hi : (Try.prog.info? e).map (fun i => (i.zero, i.size, i.bytes)) = some (some z, size, bytes))
    (hzs : z.cells.size = size) (hsz : 0 < size) (v : Value) (n : Nat) (xs : List Value) (hs : a.eval s = v) (hown : w.ownsRow base e size v n xs)
    (ao : Option Addr) (m c : Nat) (news : List Value) (hx : a.eval x = .slice ao m c) (hl : news.length = m * size) (hrd : Rd w ao news) (h1 : ∀ u ∈ news, u.oneCell' = true) (h63 : n + m ≤ maxLen) (hbytes : (n + m) * bytes ≤ 140737488355328) (hbase : base ≤ w.heap.size)
    (h : ∀ a' c' w', w'.ownsRow base e size (.slice a' (n + m) c') (n + m) (xs ++ news) → Below base w w' → Moved w w' v (.slice a' (n + m) c') → K (a.put o.dst (.slice a' (n + m) c')) w') :
    if Region.wanted o (yielded ops a.tmps) = true then Oper.wp Try.prog o a w K Q else E := by
  have hw : Region.wanted o (yielded ops a.tmps) = true := by simp [Region.wanted, hgd]
  rw [if_pos hw]
  obtain ⟨i0, hi0, hz0, hz1, hz2⟩ := info_parts hi
  obtain ⟨a', c', w', hr, h2, h3⟩ := run_append_rd (P := Try.prog) w base t o.type e i0 z size bytes ht hi0 hz0 hz1 hz2 hzs hsz v n _ hown ao m c _ hl hrd h1 h63 hbytes hbase
  unfold Oper.wp execOp
  simp only [ho, resolve, invoke, builtin, Sem.run_bind, Sem.run_pure, Result.andThen_ok, List.map_toArray, List.map_cons, List.map_nil, hs, hx, hr]
  exact h a' c' w' h2 (h3.below (fun k hk => (hown.lt k hk).1) hbase) h3
theorem Blk.low {w w' : World} {g base : Nat} {t : TypeId} {cs : List Value} (h : Blk w g t cs) (hb : Below base w w') (hg : g < base) : Blk w' g t cs := by
  unfold Blk
  rw [hb.block g hg]
  exact h
theorem RS.low {w0 : World} {g : Nat} {body : List UInt8} {ab : Option Addr} {nb cb at_ : Nat} {bad : Bool} {w w' : World} {base : Nat} (h : RS w0 g body ab nb cb at_ bad w) (hb : Below base w w') (hg : g < base) (h0 : w0.heap.size ≤ base) : RS w0 g body ab nb cb at_ bad w' :=
  ⟨h.1.low hb hg, h.2.1, h.2.2.trans (hb.mono h0)⟩
theorem Gr2.low {g gm : Nat} {w w1 w2 : World} (h : Gr2 g gm w w1) (hb : Below w.heap.size w1 w2) : Gr2 g gm w w2 :=
  ⟨hb.os.trans h.os, hb.tape.trans h.tape, hb.output.trans h.output, Nat.le_trans h.size hb.size, fun k hk h1 h2 => (hb.block k hk).trans (h.block k hk h1 h2)⟩
theorem one_name (a b : Int) : ncells [(a, b)] = [.int .i64 a, .int .u64 b] := rfl
theorem cells_name (m : M) (d : Int) (l : List (Int × Int)) (x : Int × Int) (q : Ps) (an : Option Addr) (cn : Nat) (a : Option Addr) (c : Nat) :
    (cellsM { m with dec := d, names := l, lens := [], vals := [] } { q with an := an, cn := cn, al := none, cl := 0, av := none, cv := 0 }).set 15 (.slice a (l.length + 1) c) = cellsM { m with dec := d, names := l ++ [x], lens := [], vals := [] } { q with an := a, cn := c, al := none, cl := 0, av := none, cv := 0 } := by
  simp [cellsM]
theorem cells_len (m : M) (d : Int) (l : List (Int × Int)) (l2 : List Int) (x : Int) (q : Ps) (an : Option Addr) (cn : Nat) (al : Option Addr) (cl : Nat) (a : Option Addr) (c : Nat) :
    (cellsM { m with dec := d, names := l, lens := l2, vals := [] } { q with an := an, cn := cn, al := al, cl := cl, av := none, cv := 0 }).set 16 (.slice a (l2.length + 1) c) = cellsM { m with dec := d, names := l, lens := l2 ++ [x], vals := [] } { q with an := an, cn := cn, al := a, cl := c, av := none, cv := 0 } := by
  simp [cellsM]
theorem cells_val (m : M) (d : Int) (l : List (Int × Int)) (l2 : List Int) (l3 : List (Bool × Int)) (x : Bool × Int) (q : Ps) (an : Option Addr) (cn : Nat) (al : Option Addr) (cl : Nat) (av : Option Addr) (cv : Nat) (a : Option Addr) (c : Nat) :
    (cellsM { m with dec := d, names := l, lens := l2, vals := l3 } { q with an := an, cn := cn, al := al, cl := cl, av := av, cv := cv }).set 17 (.slice a (l3.length + 1) c) = cellsM { m with dec := d, names := l, lens := l2, vals := l3 ++ [x] } { q with an := an, cn := cn, al := al, cl := cl, av := a, cv := c } := by
  simp [cellsM]
theorem own_moved {w w' : World} {W base e size n : Nat} {u v v' : Value} {xs : List Value} (h : w.ownsRow base e size u n xs) (hm : Moved w w' v v') (hne : u.ownBlock = none ∨ u.ownBlock ≠ v.ownBlock) : w'.ownsRow base e size u n xs := hm.kept h hne
theorem step_load_mid {ops : Array Oper} {o : Oper} {a : Act} {w : World} {K : Act → World → Prop} {Q : Exit → Act → World → Prop} {E : Prop} (hgd : o.guard = none) (ty : TypeId) (x : Operand) (ho : o.op = .load ty x)
    (b off : Nat) (hx : a.eval x = .pointer (some ⟨b, off, none⟩)) (cs : List Value) (d : TypeDesc) (hc : w.rangeAt b off cs) (hu : Try.prog.underlying ty = some d) (hd : d.isRow = true) (hi : (Try.prog.info? ty).map (·.size) = some cs.length)
    (h : K (a.put o.dst (.agg cs.toArray)) w) : if Region.wanted o (yielded ops a.tmps) = true then Oper.wp Try.prog o a w K Q else E := by
  have hw : Region.wanted o (yielded ops a.tmps) = true := by simp [Region.wanted, hgd]
  rw [if_pos hw]
  exact wp_load_mid ty x ho b off hx cs d hc hu hd hi h
theorem below_of3 {w w' : World} {g base : Nat} (h : w.grownBy w' (some g)) (hb : base ≤ g) (hs : base ≤ w.heap.size) : Below base w w' :=
  ⟨h.os, h.tape, h.output, h.size, fun k hk => h.block k (by omega) (by intro e; cases e; omega)⟩
theorem two_cells {w : World} {g : Nat} {t : TypeId} {x y : Value} (h : Blk w g t [x, y]) : w.rangeAt g 0 [x, y] := h.range 0 2 (by simp)
def eqM (m : M) (d : Int) (ns : List (Int × Int)) (ls : List Int) (vs : List (Bool × Int)) : M := { m with dec := d, names := ns, lens := ls, vals := vs }
def eqP (q : Ps) (an : Option Addr) (cn : Nat) (al : Option Addr) (cl : Nat) (av : Option Addr) (cv : Nat) : Ps := { q with an := an, cn := cn, al := al, cl := cl, av := av, cv := cv }
set_option maxHeartbeats 4000000 in
set_option maxRecDepth 20000 in
theorem rf2_match {w0 : World} {g gm base : Nat} {body : List UInt8} {ab : Option Addr} {nb cb at_ : Nat} {bad : Bool} {m : M} {q : Ps} {w : World} (hc : FC w0 g gm base body ab nb cb) (h : FS w0 g gm base body ab nb cb at_ bad m q w) (hno : NoLists m q) :
    Calls Try.prog 114 #[.pointer (some ⟨g, 0, none⟩), .pointer (some ⟨gm, 0, none⟩)] w (FPost "sluice/wire.match" w0 g gm base body ab nb cb at_ bad m w) := by
  have HC := Lib.hid hc
  have HH := Lib.hid h
  have HNO := Lib.hid hno
  go_enter Try.func114, Try.ntmps114
  go_wp2_with fail
  refine (rd_int HC.out.rc HH.out.rs).mono ?_
  rintro e v1 ⟨i1, at1, b1, rfl, hi1, hrs1, hg1, hz1, hst1⟩
  obtain ⟨hr1, hk1, hl1, hgr1⟩ := fs_int HC.out HH.out.blk hrs1 hg1 14 (.int .i64 i1)
  have hcell := hk1.cell 14 (by rw [cellsM_len]; omega)
  have hfr := hk1.frozen 14
  obtain ⟨y, hy⟩ : ∃ y, y = (cellsM m q)[14]'(by rw [cellsM_len]; omega) := ⟨_, rfl⟩
  rw [← hy] at hcell
  have HI1 := Lib.hid (show I64 i1 from hi1)
  have HP1 := Lib.hid (sp_int hi1 hst1)
  have HR1 := Lib.hid hr1
  have HK1 := Lib.hid hl1
  have HG1 := Lib.hid (hgr1)
  clear hy hk1 hr1 hl1 hgr1 hrs1 hg1 hz1 hst1 hi1
  obtain ⟨w1, hw1⟩ : ∃ x, x = v1.setCell ⟨gm, 14, none⟩ (.int .i64 i1) := ⟨_, rfl⟩
  rw [← hw1] at HR1 HK1 HG1
  have hcs : (cellsM m q).set 14 (.int .i64 i1) = cellsM (eqM m i1 [] [] []) (eqP q none 0 none 0 none 0) := by
    obtain ⟨h1, h2, h3, h4, h5, h6, h7, h8, h9⟩ := HNO.out
    obtain ⟨kind, handle, num, ts, id, typ, a0, a1, a2, a3, a4, a5, a6, a7, dec, names, lens, vals, mark, closed, held, kept, waiting, parts, fwhere, fcode, fat, code, schema, query, image⟩ := m
    obtain ⟨an, cn, al, cl, av, cv, ai, ci⟩ := q
    simp only at h1 h2 h3 h4 h5 h6 h7 h8 h9
    subst h1; subst h2; subst h3; subst h4; subst h5; subst h6; subst h7; subst h8; subst h9
    rfl
  have hk2 := HK1.out
  rw [hcs] at hk2
  have HK2 := Lib.hid hk2
  clear hk2 hcs HK1
  go_upto_region 1 with fail
  rw [← hw1]
  clear hw1 hcell hfr h hc hno
  have hgl : g < w.heap.size := Nat.lt_of_lt_of_le HC.out.g1 HH.out.le
  have hgml : gm < w.heap.size := Nat.lt_of_lt_of_le HC.out.gm1 HH.out.le
  have h0l : w0.heap.size ≤ w.heap.size := HH.out.rs.2.2.size
  obtain ⟨W, hW⟩ : ∃ W, W = w.heap.size := ⟨_, rfl⟩
  rw [← hW] at hgl hgml h0l
  have HWE := Lib.hid hW
  have hnb := HC.out.nbs
  clear hW
  go_wp2_with fail
  refine (rd_count HC.out.rc HR1.out).mono ?_
  rintro e w2 ⟨n0, at2, b2, rfl, hn2, hrs2, hg2, hz2, hst2⟩
  have hk3 := blk_g HC.out.ne HK2.out hg2
  have hgr3 := HG1.out.trans (Gr2.ofg gm hg2)
  have HST2 := Lib.hid hst2
  clear hst2 hz2 HK2 HG1 hg2 HR1
  obtain ⟨_, _, c2, _, _⟩ := hrs2.cells
  go_wp2_with fail
  go_loopw [4] (fun v wr => ∃ (j k a : Nat) (b : Bool) (l : List (Int × Int)) (an : Option Addr) (cn : Nat), v = .int .i64 (j : Int) ∧ l.length = k ∧ j + k = n0 ∧ RS w0 g body ab nb cb a b wr ∧ Blk wr gm 50 (cellsM (eqM m i1 l [] []) (eqP q an cn none 0 none 0)) ∧ wr.ownsRow W 89 2 (.slice an k cn) k (ncells l) ∧ Gr2 g gm w wr ∧ (∀ z ∈ l, vName z) ∧
    SP (fun l : List (Int × Int) => l.flatMap encName) (vL vName k) body at2 b2 a b l) (fun v _ => (intOf v).toNat)
  case atStart => exact ⟨n0, 0, at2, b2, [], none, 0, rfl, rfl, rfl, hrs2, hk3, World.ownsRow_nil _ _ _ _, hgr3, fun z hz => by simp at hz, SP.none_yet _ _ _ _ _⟩
  case round =>
    clear hrs2 hk3 hgr3 c2
    obtain ⟨j, k, a, b, l, an, cn, rfl, hlk, hjk, hrs, hbk, hown, hgr, hall, hsp⟩ := hrel
    obtain ⟨_, _, c2, _, _⟩ := hrs.cells
    have HLK := Lib.hid hlk
    have HRS := Lib.hid hrs
    have HBK := Lib.hid hbk
    have HOWN := Lib.hid hown
    have HGR := Lib.hid hgr
    have HALL := Lib.hid hall
    have HSP := Lib.hid hsp
    clear hlk hrs hbk hown hgr hall hsp
    by_cases hgo : 0 < j ∧ b = false
    · obtain ⟨hj0, rfl⟩ := hgo
      have hj1 : (0 : Int) < j := by omega
      · go_wp2_with fail
        refine (rd_int HC.out.rc HRS.out).mono ?_
        rintro e v3 ⟨ts, at3, b3, rfl, hts, hrs3, hg3, hz3, hst3⟩
        have hbk3 := blk_g HC.out.ne HBK.out hg3
        have hcell3 : v3.cell? ⟨gm, 15, none⟩ = some (.slice an k cn) := by
          rw [← HLK.out]
          exact hbk3.cell 15 (by rw [cellsM_len]; omega)
        have hown3 := own2 HOWN.out (Gr2.ofg gm hg3) hgl hgml
        have hgr3 := HGR.out.trans (Gr2.ofg gm hg3)
        have HRS3 := Lib.hid hrs3.drew
        have HBK3 : Hid (Blk v3.drew gm 50 (cellsM (eqM m i1 l [] []) (eqP q an cn none 0 none 0))) := Lib.hid hbk3
        have HOWN3 : Hid (v3.drew.ownsRow W 89 2 (.slice an k cn) k (ncells l)) := Lib.hid hown3
        have HGR3 : Hid (Gr2 g gm w v3.drew) := Lib.hid ⟨hgr3.os, hgr3.tape, hgr3.output, hgr3.size, hgr3.block⟩
        have HTS := Lib.hid (show I64 ts from hts)
        have HST3 := Lib.hid (sp_int hts hst3)
        clear hbk3 hown3 hgr3 hrs3 hg3 hz3 hst3 hts
        go_wp2
        go_region_law (first | (refine step_app_rd rfl _ _ 40 rfl W 89 (.agg #[.int .i64 0, .int .u64 0]) 2 16 Try.underlying40 info89 rfl (by decide) (.slice an k cn) k (ncells l) rfl ?_ (some ⟨v5.heap.size, 0, none⟩) 1 1 (ncells [(ts, (id : Int))]) rfl rfl ?_ (ncells_one _) (by unfold maxLen; omega) (by omega) ?_ ?_; exact HOWN5.out.alloc _; exact (Blk.new v5 [.int .i64 ts, .int .u64 (id : Int)] 89).rd; exact HW5.out; intro a6 c6 v6 hown6 hb6 hm6; (have hbk6 := (HBK5.out.alloc (.cells #[.int .i64 ts, .int .u64 (id : Int)] 89)).low hb6 hgml); (have hcell6 := hbk6.cell 15 (by rw [cellsM_len]; omega)); (have hfr6 := hbk6.frozen 15); (obtain ⟨y6, hy6⟩ : ∃ y, y = (cellsM (eqM m i1 l [] []) (eqP q an cn none 0 none 0))[15]'(by rw [cellsM_len]; omega) := ⟨_, rfl⟩); rw [← hy6] at hcell6; (have HBK6 := Lib.hid hbk6); (have HOWN6 := Lib.hid hown6); (have HB6 := Lib.hid hb6); clear hy6 hbk6 hown6 hb6 hm6) | (go_simp; go_at_call 120; refine (rd_uint HC.out.rc HRS3.out).mono ?_; rintro e v5 ⟨id, at5, b5, rfl, hid, hrs5, hg5, hz5, hst5⟩; (have hbk5 := blk_g HC.out.ne HBK3.out hg5); (have hcell5 : v5.cell? ⟨gm, 15, none⟩ = some (.slice an k cn) := (by rw [← HLK.out]; exact hbk5.cell 15 (by rw [cellsM_len]; omega))); (have hcell5a : (v5.alloc (.cells #[.int .i64 ts, .int .u64 (id : Int)] 89)).cell? ⟨gm, 15, none⟩ = some (.slice an k cn) := (by rw [← HLK.out]; exact (hbk5.alloc _).cell 15 (by rw [cellsM_len]; omega))); (have HOWN5 := Lib.hid (own2 HOWN3.out (Gr2.ofg gm hg5) hgl hgml)); (have HGR5 := Lib.hid (HGR3.out.trans (Gr2.ofg gm hg5))); (have HW5 : Hid (W ≤ (v5.alloc (.cells #[.int .i64 ts, .int .u64 (id : Int)] 89)).heap.size) := Lib.hid (by rw [World.size_alloc, HWE.out]; have := HGR5.out.size; omega)); (have HBK5 := Lib.hid hbk5); (have HRS5 := Lib.hid hrs5); (have HID := Lib.hid hid); (have HST5 := Lib.hid (sp_uint hid hst5)); clear hbk5 hrs5 hg5 hz5 hst5 hid))
        all_goals go_wp2
        all_goals
          have hs6 := HBK6.out.setCell 15 (.slice a6 (k + 1) c6)
          have hc := cells_name m i1 l (ts, (id : Int)) q an cn a6 c6
          rw [HLK.out] at hc
          have hbk7 := hs6.1
          rw [show (cellsM (eqM m i1 l [] []) (eqP q an cn none 0 none 0)).set 15 (.slice a6 (k + 1) c6) = cellsM (eqM m i1 (l ++ [(ts, (id : Int))]) [] []) (eqP q a6 c6 none 0 none 0) from hc] at hbk7
          have hrs6 := (show RS w0 g body ab nb cb at5 b5 (v5.alloc (.cells #[.int .i64 ts, .int .u64 (id : Int)] 89)) from ⟨HRS5.out.1.alloc _, HRS5.out.2.1, HRS5.out.2.2.alloc HRS5.out.2.2.size _⟩).low HB6.out hgl h0l
          have hgr6 := (HGR5.out.trans (Gr2.ofg gm (grown_alloc v5 (.cells #[.int .i64 ts, .int .u64 (id : Int)] 89) (some g)))).low (HWE.out ▸ HB6.out)
          have hown7 := own2 HOWN6.out (Gr2.ofm g hs6.2) hgl hgml
          rw [show ncells l ++ ncells [(ts, (id : Int))] = ncells (l ++ [(ts, (id : Int))]) by simp [ncells]] at hown7
          have hR : ∃ (j' k' a : Nat) (b : Bool) (l : List (Int × Int)) (an : Option Addr) (cn : Nat), Value.int .i64 ((j : Int) - 1) = .int .i64 (j' : Int) ∧ l.length = k' ∧ j' + k' = n0 ∧ RS w0 g body ab nb cb a b (v6.setCell ⟨gm, 15, none⟩ (.slice a6 (k + 1) c6)) ∧ Blk (v6.setCell ⟨gm, 15, none⟩ (.slice a6 (k + 1) c6)) gm 50 (cellsM (eqM m i1 l [] []) (eqP q an cn none 0 none 0)) ∧ (v6.setCell ⟨gm, 15, none⟩ (.slice a6 (k + 1) c6)).ownsRow W 89 2 (.slice an k' cn) k' (ncells l) ∧ Gr2 g gm w (v6.setCell ⟨gm, 15, none⟩ (.slice a6 (k + 1) c6)) ∧ (∀ z ∈ l, vName z) ∧
              SP (fun l : List (Int × Int) => l.flatMap encName) (vL vName k') body at2 b2 a b l := by
            refine ⟨j - 1, k + 1, at5, b5, l ++ [(ts, (id : Int))], a6, c6, by congr 1; omega, by rw [List.length_append, HLK.out]; rfl, by omega, rs_gm HC.out hrs6 hs6.2, hbk7, hown7, hgr6.trans (Gr2.ofm g hs6.2), fun z hz => ?_, HSP.out.push (sp_name HST3.out HST5.out) udName⟩
            rcases List.mem_append.1 hz with hz | hz
            · exact HALL.out z hz
            · simp at hz
              subst hz
              have := HID.out
              exact ⟨HTS.out, by show U64 (id : Int); unfold U64; omega⟩
          have HR := Lib.hid hR
          clear hs6 hc hbk7 hrs6 hgr6 hown7 hR
        all_goals go_wp2
        all_goals go_roundw
        all_goals first | exact HR.out | (simp [intOf]; omega)
    · have hfin : SP (eC bytesI encName) (vC I64 vName) body at_ bad a b (i1, l) := by
        cases b with
        | true => exact SP.count HP1.out HST2.out (by omega) (HSP.out.more (n := n0) (by omega)) udI name_pos
        | false =>
          have hkn : k = n0 := by
            by_cases h0 : 0 < j
            · exact (hgo ⟨h0, rfl⟩).elim
            · omega
          have h5 := HSP.out
          rw [hkn] at h5
          exact SP.count HP1.out HST2.out (by omega) h5 udI name_pos
      have hex : j = 0 ∨ ((0 : Int) < j ∧ b = true) := by
        by_cases h0 : j = 0
        · exact .inl h0
        · cases b
          · exact (hgo ⟨by omega, rfl⟩).elim
          · exact .inr ⟨by omega, rfl⟩
      have hkb : k ≤ nb := by omega
      have HFIN := Lib.hid hfin
      clear hfin hgo hjk hn2 HST2 HP1 HSP
      rcases hex with hex | ⟨hj1, hex⟩
      · subst hex
        go_wp2_with fail
        refine (rd_count HC.out.rc HRS.out).mono ?_
        rintro e w4 ⟨n4, at4, b4, rfl, hn4, hrs4, hg4, hz4, hst4⟩
        have hk4 := blk_g HC.out.ne HBK.out hg4
        have hgr4 := HGR.out.trans (Gr2.ofg gm hg4)
        have hon4 := own2 HOWN.out (Gr2.ofg gm hg4) hgl hgml
        have HST4 := Lib.hid hst4
        obtain ⟨_, _, c4, _, _⟩ := hrs4.cells
        clear hst4 hz4 hg4 HRS HBK HGR HOWN
        go_wp2_with fail
        go_loopw [6] (fun v wr => ∃ (j2 k2 a2 : Nat) (b2 : Bool) (l2 : List Int) (al : Option Addr) (cl : Nat), v = .int .i64 (j2 : Int) ∧ l2.length = k2 ∧ j2 + k2 = n4 ∧ RS w0 g body ab nb cb a2 b2 wr ∧ Blk wr gm 50 (cellsM (eqM m i1 l l2 []) (eqP q an cn al cl none 0)) ∧ wr.ownsRow W 89 2 (.slice an k cn) k (ncells l) ∧ wr.ownsRow W 3 1 (.slice al k2 cl) k2 (zcells l2) ∧ Gr2 g gm w wr ∧ (∀ z ∈ l2, I64 z) ∧
          SP (fun l : List Int => l.flatMap bytesI) (vL I64 k2) body at4 b4 a2 b2 l2 ∧ ((Value.slice an k cn).ownBlock = none ∨ (Value.slice an k cn).ownBlock ≠ (Value.slice al k2 cl).ownBlock)) (fun v _ => (intOf v).toNat)
        case atStart => exact ⟨n4, 0, at4, b4, [], none, 0, rfl, rfl, rfl, hrs4, hk4, hon4, World.ownsRow_nil _ _ _ _, hgr4, fun z hz => by simp at hz, SP.none_yet _ _ _ _ _, by cases an <;> simp [Value.ownBlock]⟩
        case round =>
          clear hrs4 hk4 hgr4 c4 hon4
          obtain ⟨j2, k2, a2, b2, l2, al, cl, rfl, hlk2, hjk2, hrs, hbk, hown, hown2, hgr, hall2, hsp, hap⟩ := hrel
          obtain ⟨_, _, c4, _, _⟩ := hrs.cells
          have HLK2 := Lib.hid hlk2
          have HRS := Lib.hid hrs
          have HBK := Lib.hid hbk
          have HOWN := Lib.hid hown
          have HOW2 := Lib.hid hown2
          have HGR := Lib.hid hgr
          have HALL2 := Lib.hid hall2
          have HSP := Lib.hid hsp
          have HAP := Lib.hid hap
          clear hlk2 hrs hbk hown hown2 hgr hall2 hsp hap
          by_cases hgo : 0 < j2 ∧ b2 = false
          · obtain ⟨hj0, rfl⟩ := hgo
            have hj1 : (0 : Int) < j2 := by omega
            have hcell3 : wr.cell? ⟨gm, 16, none⟩ = some (.slice al k2 cl) := by
              rw [← HLK2.out]
              exact HBK.out.cell 16 (by rw [cellsM_len]; omega)
            have HRS3 := Lib.hid HRS.out.drew
            have HBK3 : Hid (Blk wr.drew gm 50 (cellsM (eqM m i1 l l2 []) (eqP q an cn al cl none 0))) := HBK
            have HOWN3 : Hid (wr.drew.ownsRow W 89 2 (.slice an k cn) k (ncells l)) := HOWN
            have HOW23 : Hid (wr.drew.ownsRow W 3 1 (.slice al k2 cl) k2 (zcells l2)) := HOW2
            have HGR3 : Hid (Gr2 g gm w wr.drew) := Lib.hid ⟨HGR.out.os, HGR.out.tape, HGR.out.output, HGR.out.size, HGR.out.block⟩
            go_wp2
            go_region_law (first | (refine step_app_rd rfl _ _ 41 rfl W 3 (.int .i64 0) 1 8 Try.underlying41 info3 rfl (by decide) (.slice al k2 cl) k2 (zcells l2) rfl ?_ (some ⟨v5.heap.size, 0, none⟩) 1 1 (zcells [x]) rfl rfl ?_ (zcells_one _) (by unfold maxLen; omega) (by omega) ?_ ?_; exact HOW25.out.alloc _; exact (Blk.new v5 [.int .i64 x] 3).rd; exact HW5.out; intro a6 c6 v6 hown6 hb6 hm6; (have hbk6 := (HBK5.out.alloc (.cells #[.int .i64 x] 3)).low hb6 hgml); (have hcell6 := hbk6.cell 16 (by rw [cellsM_len]; omega)); (have hfr6 := hbk6.frozen 16); (obtain ⟨y6, hy6⟩ : ∃ y, y = (cellsM (eqM m i1 l l2 []) (eqP q an cn al cl none 0))[16]'(by rw [cellsM_len]; omega) := ⟨_, rfl⟩); rw [← hy6] at hcell6; (have HBK6 := Lib.hid hbk6); (have HOW26 := Lib.hid hown6); (have HOWN6 := Lib.hid (hm6.kept (HOWN5.out.alloc (.cells #[.int .i64 x] 3)) HAP.out)); (have HAP6 := Lib.hid (hm6.apart (HOWN5.out.alloc (.cells #[.int .i64 x] 3)) HAP.out)); (have HB6 := Lib.hid hb6); clear hy6 hbk6 hown6 hb6 hm6) | (go_simp; go_at_call 119; refine (rd_int HC.out.rc HRS3.out).mono ?_; rintro e v5 ⟨x, at5, b5, rfl, hx, hrs5, hg5, hz5, hst5⟩; (have hbk5 := blk_g HC.out.ne HBK3.out hg5); (have hcell5 : v5.cell? ⟨gm, 16, none⟩ = some (.slice al k2 cl) := (by rw [← HLK2.out]; exact hbk5.cell 16 (by rw [cellsM_len]; omega))); (have hcell5a : (v5.alloc (.cells #[.int .i64 x] 3)).cell? ⟨gm, 16, none⟩ = some (.slice al k2 cl) := (by rw [← HLK2.out]; exact (hbk5.alloc _).cell 16 (by rw [cellsM_len]; omega))); (have HOWN5 := Lib.hid (own2 HOWN3.out (Gr2.ofg gm hg5) hgl hgml)); (have HOW25 := Lib.hid (own2 HOW23.out (Gr2.ofg gm hg5) hgl hgml)); (have HGR5 := Lib.hid (HGR3.out.trans (Gr2.ofg gm hg5))); (have HW5 : Hid (W ≤ (v5.alloc (.cells #[.int .i64 x] 3)).heap.size) := Lib.hid (by rw [World.size_alloc, HWE.out]; have := HGR5.out.size; omega)); (have HBK5 := Lib.hid hbk5); (have HRS5 := Lib.hid hrs5); (have HXI := Lib.hid (show I64 x from hx)); (have HST5 := Lib.hid (sp_int hx hst5)); clear hbk5 hrs5 hg5 hz5 hst5 hx))
            all_goals go_wp2
            all_goals
              have hs6 := HBK6.out.setCell 16 (.slice a6 (k2 + 1) c6)
              have hc := cells_len m i1 l l2 x q an cn al cl a6 c6
              rw [HLK2.out] at hc
              have hbk7 := hs6.1
              rw [show (cellsM (eqM m i1 l l2 []) (eqP q an cn al cl none 0)).set 16 (.slice a6 (k2 + 1) c6) = cellsM (eqM m i1 l (l2 ++ [x]) []) (eqP q an cn a6 c6 none 0) from hc] at hbk7
              have hrs6 := (show RS w0 g body ab nb cb at5 b5 (v5.alloc (.cells #[.int .i64 x] 3)) from ⟨HRS5.out.1.alloc _, HRS5.out.2.1, HRS5.out.2.2.alloc HRS5.out.2.2.size _⟩).low HB6.out hgl h0l
              have hgr6 := (HGR5.out.trans (Gr2.ofg gm (grown_alloc v5 (.cells #[.int .i64 x] 3) (some g)))).low (HWE.out ▸ HB6.out)
              have hown7 := own2 HOWN6.out (Gr2.ofm g hs6.2) hgl hgml
              have how27 := own2 HOW26.out (Gr2.ofm g hs6.2) hgl hgml
              rw [show zcells l2 ++ zcells [x] = zcells (l2 ++ [x]) by simp [zcells]] at how27
              have hR : ∃ (j2' k2' a2 : Nat) (b2 : Bool) (l2 : List Int) (al : Option Addr) (cl : Nat), Value.int .i64 ((j2 : Int) - 1) = .int .i64 (j2' : Int) ∧ l2.length = k2' ∧ j2' + k2' = n4 ∧ RS w0 g body ab nb cb a2 b2 (v6.setCell ⟨gm, 16, none⟩ (.slice a6 (k2 + 1) c6)) ∧ Blk (v6.setCell ⟨gm, 16, none⟩ (.slice a6 (k2 + 1) c6)) gm 50 (cellsM (eqM m i1 l l2 []) (eqP q an cn al cl none 0)) ∧ (v6.setCell ⟨gm, 16, none⟩ (.slice a6 (k2 + 1) c6)).ownsRow W 89 2 (.slice an k cn) k (ncells l) ∧ (v6.setCell ⟨gm, 16, none⟩ (.slice a6 (k2 + 1) c6)).ownsRow W 3 1 (.slice al k2' cl) k2' (zcells l2) ∧ Gr2 g gm w (v6.setCell ⟨gm, 16, none⟩ (.slice a6 (k2 + 1) c6)) ∧ (∀ z ∈ l2, I64 z) ∧
                  SP (fun l : List Int => l.flatMap bytesI) (vL I64 k2') body at4 b4 a2 b2 l2 ∧ ((Value.slice an k cn).ownBlock = none ∨ (Value.slice an k cn).ownBlock ≠ (Value.slice al k2' cl).ownBlock) := by
                refine ⟨j2 - 1, k2 + 1, at5, b5, l2 ++ [x], a6, c6, by congr 1; omega, by rw [List.length_append, HLK2.out]; rfl, by omega, rs_gm HC.out hrs6 hs6.2, hbk7, hown7, how27, hgr6.trans (Gr2.ofm g hs6.2), fun z hz => ?_, HSP.out.push HST5.out udI, HAP6.out⟩
                rcases List.mem_append.1 hz with hz | hz
                · exact HALL2.out z hz
                · simp at hz
                  subst hz
                  exact HXI.out
              have HR := Lib.hid hR
              clear hs6 hc hbk7 hrs6 hgr6 hown7 how27 hR
            all_goals go_wp2
            all_goals go_roundw
            all_goals first | exact HR.out | (simp [intOf]; omega)
          · have hfin : SP (eC (eC bytesI encName) bytesI) (vC (vC I64 vName) I64) body at_ bad a2 b2 ((i1, l), l2) := by
              cases b2 with
              | true => exact SP.count HFIN.out HST4.out (by omega) (HSP.out.more (n := n4) (by omega)) (udC udI udName) (fun z _ => bytesI_pos z)
              | false =>
                have hkn : k2 = n4 := by
                  by_cases h0 : 0 < j2
                  · exact (hgo ⟨h0, rfl⟩).elim
                  · omega
                have h5 := HSP.out
                rw [hkn] at h5
                exact SP.count HFIN.out HST4.out (by omega) h5 (udC udI udName) (fun z _ => bytesI_pos z)
            have hex : j2 = 0 ∨ ((0 : Int) < j2 ∧ b2 = true) := by
              by_cases h0 : j2 = 0
              · exact .inl h0
              · cases b2
                · exact (hgo ⟨by omega, rfl⟩).elim
                · exact .inr ⟨by omega, rfl⟩
            have hk2b : k2 ≤ nb := by omega
            have HFIN2 := Lib.hid hfin
            clear hfin hgo hjk2 hn4 HST4 HFIN HSP
            rcases hex with hex | ⟨hj2, hex⟩
            · subst hex
              go_wp2_with fail
              refine (rd_count HC.out.rc HRS.out).mono ?_
              rintro e w6 ⟨n6, at6, b6, rfl, hn6, hrs6, hg6, hz6, hst6⟩
              have hk6 := blk_g HC.out.ne HBK.out hg6
              have hgr6 := HGR.out.trans (Gr2.ofg gm hg6)
              have hon6 := own2 HOWN.out (Gr2.ofg gm hg6) hgl hgml
              have hol6 := own2 HOW2.out (Gr2.ofg gm hg6) hgl hgml
              have HST6 := Lib.hid hst6
              obtain ⟨_, _, c6, _, _⟩ := hrs6.cells
              clear hst6 hz6 hg6 HRS HBK HGR HOWN HOW2 HAP
              go_wp2_with fail
              go_loopw [7] (fun v wr => ∃ (j3 k3 a3 : Nat) (b3 : Bool) (l3 : List (Bool × Int)) (av : Option Addr) (cv : Nat), v = .int .i64 (j3 : Int) ∧ l3.length = k3 ∧ j3 + k3 = n6 ∧ RS w0 g body ab nb cb a3 b3 wr ∧ Blk wr gm 50 (cellsM (eqM m i1 l l2 l3) (eqP q an cn al cl av cv)) ∧ wr.ownsRow W 89 2 (.slice an k cn) k (ncells l) ∧ wr.ownsRow W 3 1 (.slice al k2 cl) k2 (zcells l2) ∧ wr.ownsRow W 74 2 (.slice av k3 cv) k3 (vcells l3) ∧ Gr2 g gm w wr ∧ (∀ z ∈ l3, vVal z) ∧
                SP (fun l : List (Bool × Int) => l.flatMap encVal) (vL vVal k3) body at6 b6 a3 b3 l3 ∧ ((Value.slice an k cn).ownBlock = none ∨ (Value.slice an k cn).ownBlock ≠ (Value.slice av k3 cv).ownBlock) ∧ ((Value.slice al k2 cl).ownBlock = none ∨ (Value.slice al k2 cl).ownBlock ≠ (Value.slice av k3 cv).ownBlock)) (fun v _ => (intOf v).toNat)
              case atStart => exact ⟨n6, 0, at6, b6, [], none, 0, rfl, rfl, rfl, hrs6, hk6, hon6, hol6, World.ownsRow_nil _ _ _ _, hgr6, fun z hz => by simp at hz, SP.none_yet _ _ _ _ _, by cases an <;> simp [Value.ownBlock], by cases al <;> simp [Value.ownBlock]⟩
              case round =>
                clear hrs6 hk6 hgr6 c6 hon6 hol6
                obtain ⟨j3, k3, a3, b3, l3, av, cv, rfl, hlk3, hjk3, hrs, hbk, hown, hown2, hown3, hgr, hall3, hsp, hap, hap2⟩ := hrel
                obtain ⟨_, _, c6, _, _⟩ := hrs.cells
                have HLK3 := Lib.hid hlk3
                have HRS := Lib.hid hrs
                have HBK := Lib.hid hbk
                have HOWN := Lib.hid hown
                have HOW2 := Lib.hid hown2
                have HOW3 := Lib.hid hown3
                have HGR := Lib.hid hgr
                have HALL3 := Lib.hid hall3
                have HSP := Lib.hid hsp
                have HAP := Lib.hid hap
                have HAP2 := Lib.hid hap2
                clear hlk3 hrs hbk hown hown2 hown3 hgr hall3 hsp hap hap2
                by_cases hgo : 0 < j3 ∧ b3 = false
                · obtain ⟨hj0, rfl⟩ := hgo
                  have hj1 : (0 : Int) < j3 := by omega
                  go_wp2_with fail
                  refine (rd_truth HC.out.rc HRS.out).mono ?_
                  rintro e v3 ⟨t3, at3, b3, rfl, hrs3, hg3, hz3, hst3⟩
                  have hbk3 := blk_g HC.out.ne HBK.out hg3
                  have hgr3 := HGR.out.trans (Gr2.ofg gm hg3)
                  have hon3 := own2 HOWN.out (Gr2.ofg gm hg3) hgl hgml
                  have hol3 := own2 HOW2.out (Gr2.ofg gm hg3) hgl hgml
                  have hov3 := own2 HOW3.out (Gr2.ofg gm hg3) hgl hgml
                  have hsp3 := sp_truth hst3
                  have hszW : W ≤ v3.heap.size := by rw [HWE.out]; exact hgr3.size
                  have HGR3 := Lib.hid hgr3
                  have HON3 := Lib.hid hon3
                  have HOL3 := Lib.hid hol3
                  have HOV3 := Lib.hid hov3
                  clear hgr3 hon3 hol3 hov3
                  cases t3
                  · have HSV := Lib.hid (sp_val_false hsp3)
                    have hI : I64 (0 : Int) := by unfold I64; omega
                    have HI := Lib.hid hI
                    have HRS3 := Lib.hid hrs3
                    clear hsp3 hst3 hg3 hz3 hI
                    obtain ⟨V, hV⟩ : ∃ V, V = v3.alloc (.cells #[.bool false, .int .i64 0] 74) := ⟨_, rfl⟩
                    have HBV : Hid (Blk V v3.heap.size 74 [.bool false, .int .i64 0]) := Lib.hid (hV ▸ Blk.new v3 [.bool false, .int .i64 0] 74)
                    have HKV : Hid (Blk V gm 50 (cellsM (eqM m i1 l l2 l3) (eqP q an cn al cl av cv))) := Lib.hid (hV ▸ hbk3.alloc _)
                    have HRV : Hid (RS w0 g body ab nb cb at3 b3 V) := Lib.hid (hV ▸ ⟨HRS3.out.1.alloc _, HRS3.out.2.1, HRS3.out.2.2.alloc HRS3.out.2.2.size _⟩)
                    have HGV : Hid (Gr2 g gm v3 V) := Lib.hid (hV ▸ Gr2.ofg gm (grown_alloc v3 _ (some g)))
                    clear hrs3 hbk3
                    go_upto_region 16 with fail
                    rw [← hV]
                    clear hV HRS3
                    have hc0 : V.cell? ⟨v3.heap.size, 0, none⟩ = some (.bool false) := HBV.out.cell 0 (by simp)
                    have hc1 : V.cell? ⟨v3.heap.size, 1, none⟩ = some (.int .i64 0) := HBV.out.cell 1 (by simp)
                    have hcellB : V.cell? ⟨gm, 17, none⟩ = some (.slice av k3 cv) := by
                      rw [← HLK3.out]
                      exact HKV.out.cell 17 (by rw [cellsM_len]; omega)
                    have hcellA : (V.alloc (.cells #[.bool false, .int .i64 0] 74)).cell? ⟨gm, 17, none⟩ = some (.slice av k3 cv) := by
                      rw [← HLK3.out]
                      exact (HKV.out.alloc _).cell 17 (by rw [cellsM_len]; omega)
                    have HGRV := HGR3.out.trans HGV.out
                    have HON : Hid (V.drew.ownsRow W 89 2 (.slice an k cn) k (ncells l)) := Lib.hid (show V.ownsRow W 89 2 (.slice an k cn) k (ncells l) from own2 HON3.out HGV.out hgl hgml)
                    have HOL : Hid (V.drew.ownsRow W 3 1 (.slice al k2 cl) k2 (zcells l2)) := Lib.hid (show V.ownsRow W 3 1 (.slice al k2 cl) k2 (zcells l2) from own2 HOL3.out HGV.out hgl hgml)
                    have HOV : Hid (V.drew.ownsRow W 74 2 (.slice av k3 cv) k3 (vcells l3)) := Lib.hid (show V.ownsRow W 74 2 (.slice av k3 cv) k3 (vcells l3) from own2 HOV3.out HGV.out hgl hgml)
                    have HGD : Hid (Gr2 g gm w V.drew) := Lib.hid ⟨HGRV.os, HGRV.tape, HGRV.output, HGRV.size, HGRV.block⟩
                    have HKD : Hid (Blk V.drew gm 50 (cellsM (eqM m i1 l l2 l3) (eqP q an cn al cl av cv))) := HKV
                    have HBD : Hid (Blk V.drew v3.heap.size 74 [.bool false, .int .i64 0]) := HBV
                    have HRD := Lib.hid HRV.out.drew
                    have HWD : Hid (W ≤ (V.drew.alloc (.cells #[.bool false, .int .i64 0] 74)).heap.size) := Lib.hid (by rw [World.size_alloc, HWE.out]; have := HGD.out.size; omega)
                    clear HGRV HGR3 HGV HKV HRV HON3 HOL3 HOV3 HBV
                    go_region_law (refine step_app_rd rfl _ _ 42 rfl W 74 (.agg #[.bool false, .int .i64 0]) 2 16 Try.underlying42 info74 rfl (by decide) (.slice av k3 cv) k3 (vcells l3) rfl ?_ (some ⟨V.heap.size, 0, none⟩) 1 1 (vcells [(false, 0)]) rfl rfl ?_ (vcells_one _) (by unfold maxLen; omega) (by omega) ?_ ?_; exact HOV.out.alloc _; exact (Blk.new V.drew [.bool false, .int .i64 0] 74).rd; exact HWD.out; intro a6 c6 v6 hown6 hb6 hm6; (have hbk6 := (HKD.out.alloc (.cells #[.bool false, .int .i64 0] 74)).low hb6 hgml); (have hcell6 := hbk6.cell 17 (by rw [cellsM_len]; omega)); (have hfr6 := hbk6.frozen 17); (obtain ⟨y6, hy6⟩ : ∃ y, y = (cellsM (eqM m i1 l l2 l3) (eqP q an cn al cl av cv))[17]'(by rw [cellsM_len]; omega) := ⟨_, rfl⟩); rw [← hy6] at hcell6; (have HBK6 := Lib.hid hbk6); (have HOV6 := Lib.hid hown6); (have HON6 := Lib.hid (hm6.kept (HON.out.alloc (.cells #[.bool false, .int .i64 0] 74)) HAP.out)); (have HOL6 := Lib.hid (hm6.kept (HOL.out.alloc (.cells #[.bool false, .int .i64 0] 74)) HAP2.out)); (have HAP6 := Lib.hid (hm6.apart (HON.out.alloc (.cells #[.bool false, .int .i64 0] 74)) HAP.out)); (have HAP26 := Lib.hid (hm6.apart (HOL.out.alloc (.cells #[.bool false, .int .i64 0] 74)) HAP2.out)); (have HB6 := Lib.hid hb6); clear hy6 hbk6 hown6 hb6 hm6)
                    all_goals go_wp2
                    all_goals
                      have hs6 := HBK6.out.setCell 17 (.slice a6 (k3 + 1) c6)
                      have hc := cells_val m i1 l l2 l3 (false, 0) q an cn al cl av cv a6 c6
                      rw [HLK3.out] at hc
                      have hbk7 := hs6.1
                      rw [show (cellsM (eqM m i1 l l2 l3) (eqP q an cn al cl av cv)).set 17 (.slice a6 (k3 + 1) c6) = cellsM (eqM m i1 l l2 (l3 ++ [(false, 0)])) (eqP q an cn al cl a6 c6) from hc] at hbk7
                      have hrs6 := (show RS w0 g body ab nb cb at3 b3 (V.drew.alloc (.cells #[.bool false, .int .i64 0] 74)) from ⟨HRD.out.1.alloc _, HRD.out.2.1, HRD.out.2.2.alloc HRD.out.2.2.size _⟩).low HB6.out hgl h0l
                      have hgr6 := (HGD.out.trans (Gr2.ofg gm (grown_alloc V.drew (.cells #[.bool false, .int .i64 0] 74) (some g)))).low (HWE.out ▸ HB6.out)
                      have hon7 := own2 HON6.out (Gr2.ofm g hs6.2) hgl hgml
                      have hol7 := own2 HOL6.out (Gr2.ofm g hs6.2) hgl hgml
                      have hov7 := own2 HOV6.out (Gr2.ofm g hs6.2) hgl hgml
                      rw [show vcells l3 ++ vcells [(false, 0)] = vcells (l3 ++ [(false, 0)]) by simp [vcells]] at hov7
                      have hR : ∃ (j3' k3' a3 : Nat) (b3 : Bool) (l3 : List (Bool × Int)) (av : Option Addr) (cv : Nat), Value.int .i64 ((j3 : Int) - 1) = .int .i64 (j3' : Int) ∧ l3.length = k3' ∧ j3' + k3' = n6 ∧ RS w0 g body ab nb cb a3 b3 (v6.setCell ⟨gm, 17, none⟩ (.slice a6 (k3 + 1) c6)) ∧ Blk (v6.setCell ⟨gm, 17, none⟩ (.slice a6 (k3 + 1) c6)) gm 50 (cellsM (eqM m i1 l l2 l3) (eqP q an cn al cl av cv)) ∧ (v6.setCell ⟨gm, 17, none⟩ (.slice a6 (k3 + 1) c6)).ownsRow W 89 2 (.slice an k cn) k (ncells l) ∧ (v6.setCell ⟨gm, 17, none⟩ (.slice a6 (k3 + 1) c6)).ownsRow W 3 1 (.slice al k2 cl) k2 (zcells l2) ∧ (v6.setCell ⟨gm, 17, none⟩ (.slice a6 (k3 + 1) c6)).ownsRow W 74 2 (.slice av k3' cv) k3' (vcells l3) ∧ Gr2 g gm w (v6.setCell ⟨gm, 17, none⟩ (.slice a6 (k3 + 1) c6)) ∧ (∀ z ∈ l3, vVal z) ∧
                          SP (fun l : List (Bool × Int) => l.flatMap encVal) (vL vVal k3') body at6 b6 a3 b3 l3 ∧ ((Value.slice an k cn).ownBlock = none ∨ (Value.slice an k cn).ownBlock ≠ (Value.slice av k3' cv).ownBlock) ∧ ((Value.slice al k2 cl).ownBlock = none ∨ (Value.slice al k2 cl).ownBlock ≠ (Value.slice av k3' cv).ownBlock) := by
                        refine ⟨j3 - 1, k3 + 1, at3, b3, l3 ++ [(false, 0)], a6, c6, by congr 1; omega, by rw [List.length_append, HLK3.out]; rfl, by omega, rs_gm HC.out hrs6 hs6.2, hbk7, hon7, hol7, hov7, hgr6.trans (Gr2.ofm g hs6.2), fun z hz => ?_, HSP.out.push HSV.out udVal, HAP6.out, HAP26.out⟩
                        rcases List.mem_append.1 hz with hz | hz
                        · exact HALL3.out z hz
                        · simp at hz
                          subst hz
                          exact ⟨HI.out, fun h => by first | rfl | cases h⟩
                      have HR := Lib.hid hR
                      clear hs6 hc hbk7 hrs6 hgr6 hon7 hol7 hov7 hR
                    all_goals go_wp2
                    all_goals go_roundw
                    all_goals first | exact HR.out | (simp [intOf]; omega)

                  · have hb3 : b3 = false := by
                      cases b3
                      · rfl
                      · exact absurd (hz3 rfl) (by decide)
                    subst hb3
                    have HSP3 := Lib.hid hsp3
                    have hrsA : RS w0 g body ab nb cb at3 false (v3.alloc (.cells #[.bool true, .int .i64 0] 74)) := ⟨hrs3.1.alloc _, hrs3.2.1, hrs3.2.2.alloc hrs3.2.2.size _⟩
                    have HRA := Lib.hid hrsA
                    have HKA := Lib.hid (hbk3.alloc (.cells #[.bool true, .int .i64 0] 74))
                    have HBA := Lib.hid (Blk.new v3 [.bool true, .int .i64 0] 74)
                    have HGA := Lib.hid (Gr2.ofg gm (grown_alloc v3 (.cells #[.bool true, .int .i64 0] 74) (some g)))
                    clear hrs3 hbk3 hsp3 hst3 hg3 hz3 hrsA
                    go_wp2_with fail
                    refine (rd_int HC.out.rc HRA.out).mono ?_
                    rintro e v5 ⟨x, at5, b5, rfl, hI, hrs5, hg5, hz5, hst5⟩
                    have hne3 : v3.heap.size ≠ g := by omega
                    have hb5 : Blk v5 v3.heap.size 74 [.bool true, .int .i64 0] := blk_g hne3 HBA.out hg5
                    have hbk5 := blk_g HC.out.ne HKA.out hg5
                    have hG5 := HGA.out.trans (Gr2.ofg gm hg5)
                    have hs7 := hb5.setCell 1 (.int .i64 x)
                    have hB7 : Below v3.heap.size v5 (v5.setCell ⟨v3.heap.size, 1, none⟩ (.int .i64 x)) := below_of3 hs7.2 (Nat.le_refl _) hG5.size
                    have hcN : v5.cell? ⟨v3.heap.size, 1, none⟩ = some (.int .i64 0) := hb5.cell 1 (by simp)
                    have hcK : v5.cell? ⟨v3.heap.size, 0, none⟩ = some (.bool true) := hb5.cell 0 (by simp)
                    have hfN := hb5.frozen 1
                    have HSV := Lib.hid (sp_val_true HSP3.out (sp_int hI hst5) rfl)
                    have HI := Lib.hid (show I64 x from hI)
                    obtain ⟨V, hV⟩ : ∃ V, V = v5.setCell ⟨v3.heap.size, 1, none⟩ (.int .i64 x) := ⟨_, rfl⟩
                    rw [← hV] at hB7 hs7
                    have HBV : Hid (Blk V v3.heap.size 74 [.bool true, .int .i64 x]) := Lib.hid hs7.1
                    have HKV : Hid (Blk V gm 50 (cellsM (eqM m i1 l l2 l3) (eqP q an cn al cl av cv))) := Lib.hid (hbk5.low hB7 (by omega))
                    have HRV : Hid (RS w0 g body ab nb cb at5 b5 V) := Lib.hid (hrs5.low hB7 (by omega) (by omega))
                    have HGV : Hid (Gr2 g gm v3 V) := Lib.hid (hG5.low hB7)
                    clear HRA HKA HBA HGA HSP3 hst5 hg5 hz5 hI hb5 hbk5 hG5 hs7 hB7 hrs5
                    go_upto_region 16 with fail
                    rw [← hV]
                    clear hV hcN hfN hcK hne3
                    have hc0 : V.cell? ⟨v3.heap.size, 0, none⟩ = some (.bool true) := HBV.out.cell 0 (by simp)
                    have hc1 : V.cell? ⟨v3.heap.size, 1, none⟩ = some (.int .i64 x) := HBV.out.cell 1 (by simp)
                    have hcellB : V.cell? ⟨gm, 17, none⟩ = some (.slice av k3 cv) := by
                      rw [← HLK3.out]
                      exact HKV.out.cell 17 (by rw [cellsM_len]; omega)
                    have hcellA : (V.alloc (.cells #[.bool true, .int .i64 x] 74)).cell? ⟨gm, 17, none⟩ = some (.slice av k3 cv) := by
                      rw [← HLK3.out]
                      exact (HKV.out.alloc _).cell 17 (by rw [cellsM_len]; omega)
                    have HGRV := HGR3.out.trans HGV.out
                    have HON : Hid (V.drew.ownsRow W 89 2 (.slice an k cn) k (ncells l)) := Lib.hid (show V.ownsRow W 89 2 (.slice an k cn) k (ncells l) from own2 HON3.out HGV.out hgl hgml)
                    have HOL : Hid (V.drew.ownsRow W 3 1 (.slice al k2 cl) k2 (zcells l2)) := Lib.hid (show V.ownsRow W 3 1 (.slice al k2 cl) k2 (zcells l2) from own2 HOL3.out HGV.out hgl hgml)
                    have HOV : Hid (V.drew.ownsRow W 74 2 (.slice av k3 cv) k3 (vcells l3)) := Lib.hid (show V.ownsRow W 74 2 (.slice av k3 cv) k3 (vcells l3) from own2 HOV3.out HGV.out hgl hgml)
                    have HGD : Hid (Gr2 g gm w V.drew) := Lib.hid ⟨HGRV.os, HGRV.tape, HGRV.output, HGRV.size, HGRV.block⟩
                    have HKD : Hid (Blk V.drew gm 50 (cellsM (eqM m i1 l l2 l3) (eqP q an cn al cl av cv))) := HKV
                    have HBD : Hid (Blk V.drew v3.heap.size 74 [.bool true, .int .i64 x]) := HBV
                    have HRD := Lib.hid HRV.out.drew
                    have HWD : Hid (W ≤ (V.drew.alloc (.cells #[.bool true, .int .i64 x] 74)).heap.size) := Lib.hid (by rw [World.size_alloc, HWE.out]; have := HGD.out.size; omega)
                    clear HGRV HGR3 HGV HKV HRV HON3 HOL3 HOV3 HBV
                    go_region_law (refine step_app_rd rfl _ _ 42 rfl W 74 (.agg #[.bool false, .int .i64 0]) 2 16 Try.underlying42 info74 rfl (by decide) (.slice av k3 cv) k3 (vcells l3) rfl ?_ (some ⟨V.heap.size, 0, none⟩) 1 1 (vcells [(true, x)]) rfl rfl ?_ (vcells_one _) (by unfold maxLen; omega) (by omega) ?_ ?_; exact HOV.out.alloc _; exact (Blk.new V.drew [.bool true, .int .i64 x] 74).rd; exact HWD.out; intro a6 c6 v6 hown6 hb6 hm6; (have hbk6 := (HKD.out.alloc (.cells #[.bool true, .int .i64 x] 74)).low hb6 hgml); (have hcell6 := hbk6.cell 17 (by rw [cellsM_len]; omega)); (have hfr6 := hbk6.frozen 17); (obtain ⟨y6, hy6⟩ : ∃ y, y = (cellsM (eqM m i1 l l2 l3) (eqP q an cn al cl av cv))[17]'(by rw [cellsM_len]; omega) := ⟨_, rfl⟩); rw [← hy6] at hcell6; (have HBK6 := Lib.hid hbk6); (have HOV6 := Lib.hid hown6); (have HON6 := Lib.hid (hm6.kept (HON.out.alloc (.cells #[.bool true, .int .i64 x] 74)) HAP.out)); (have HOL6 := Lib.hid (hm6.kept (HOL.out.alloc (.cells #[.bool true, .int .i64 x] 74)) HAP2.out)); (have HAP6 := Lib.hid (hm6.apart (HON.out.alloc (.cells #[.bool true, .int .i64 x] 74)) HAP.out)); (have HAP26 := Lib.hid (hm6.apart (HOL.out.alloc (.cells #[.bool true, .int .i64 x] 74)) HAP2.out)); (have HB6 := Lib.hid hb6); clear hy6 hbk6 hown6 hb6 hm6)
                    all_goals go_wp2
                    all_goals
                      have hs6 := HBK6.out.setCell 17 (.slice a6 (k3 + 1) c6)
                      have hc := cells_val m i1 l l2 l3 (true, x) q an cn al cl av cv a6 c6
                      rw [HLK3.out] at hc
                      have hbk7 := hs6.1
                      rw [show (cellsM (eqM m i1 l l2 l3) (eqP q an cn al cl av cv)).set 17 (.slice a6 (k3 + 1) c6) = cellsM (eqM m i1 l l2 (l3 ++ [(true, x)])) (eqP q an cn al cl a6 c6) from hc] at hbk7
                      have hrs6 := (show RS w0 g body ab nb cb at5 b5 (V.drew.alloc (.cells #[.bool true, .int .i64 x] 74)) from ⟨HRD.out.1.alloc _, HRD.out.2.1, HRD.out.2.2.alloc HRD.out.2.2.size _⟩).low HB6.out hgl h0l
                      have hgr6 := (HGD.out.trans (Gr2.ofg gm (grown_alloc V.drew (.cells #[.bool true, .int .i64 x] 74) (some g)))).low (HWE.out ▸ HB6.out)
                      have hon7 := own2 HON6.out (Gr2.ofm g hs6.2) hgl hgml
                      have hol7 := own2 HOL6.out (Gr2.ofm g hs6.2) hgl hgml
                      have hov7 := own2 HOV6.out (Gr2.ofm g hs6.2) hgl hgml
                      rw [show vcells l3 ++ vcells [(true, x)] = vcells (l3 ++ [(true, x)]) by simp [vcells]] at hov7
                      have hR : ∃ (j3' k3' a3 : Nat) (b3 : Bool) (l3 : List (Bool × Int)) (av : Option Addr) (cv : Nat), Value.int .i64 ((j3 : Int) - 1) = .int .i64 (j3' : Int) ∧ l3.length = k3' ∧ j3' + k3' = n6 ∧ RS w0 g body ab nb cb a3 b3 (v6.setCell ⟨gm, 17, none⟩ (.slice a6 (k3 + 1) c6)) ∧ Blk (v6.setCell ⟨gm, 17, none⟩ (.slice a6 (k3 + 1) c6)) gm 50 (cellsM (eqM m i1 l l2 l3) (eqP q an cn al cl av cv)) ∧ (v6.setCell ⟨gm, 17, none⟩ (.slice a6 (k3 + 1) c6)).ownsRow W 89 2 (.slice an k cn) k (ncells l) ∧ (v6.setCell ⟨gm, 17, none⟩ (.slice a6 (k3 + 1) c6)).ownsRow W 3 1 (.slice al k2 cl) k2 (zcells l2) ∧ (v6.setCell ⟨gm, 17, none⟩ (.slice a6 (k3 + 1) c6)).ownsRow W 74 2 (.slice av k3' cv) k3' (vcells l3) ∧ Gr2 g gm w (v6.setCell ⟨gm, 17, none⟩ (.slice a6 (k3 + 1) c6)) ∧ (∀ z ∈ l3, vVal z) ∧
                          SP (fun l : List (Bool × Int) => l.flatMap encVal) (vL vVal k3') body at6 b6 a3 b3 l3 ∧ ((Value.slice an k cn).ownBlock = none ∨ (Value.slice an k cn).ownBlock ≠ (Value.slice av k3' cv).ownBlock) ∧ ((Value.slice al k2 cl).ownBlock = none ∨ (Value.slice al k2 cl).ownBlock ≠ (Value.slice av k3' cv).ownBlock) := by
                        refine ⟨j3 - 1, k3 + 1, at5, b5, l3 ++ [(true, x)], a6, c6, by congr 1; omega, by rw [List.length_append, HLK3.out]; rfl, by omega, rs_gm HC.out hrs6 hs6.2, hbk7, hon7, hol7, hov7, hgr6.trans (Gr2.ofm g hs6.2), fun z hz => ?_, HSP.out.push HSV.out udVal, HAP6.out, HAP26.out⟩
                        rcases List.mem_append.1 hz with hz | hz
                        · exact HALL3.out z hz
                        · simp at hz
                          subst hz
                          exact ⟨HI.out, fun h => by first | rfl | cases h⟩
                      have HR := Lib.hid hR
                      clear hs6 hc hbk7 hrs6 hgr6 hon7 hol7 hov7 hR
                    all_goals go_wp2
                    all_goals go_roundw
                    all_goals first | exact HR.out | (simp [intOf]; omega)

                · have hfin : SP (eC (eC (eC bytesI encName) bytesI) encVal) (vC (vC (vC I64 vName) I64) vVal) body at_ bad a3 b3 (((i1, l), l2), l3) := by
                    cases b3 with
                    | true => exact SP.count HFIN2.out HST6.out (by omega) (HSP.out.more (n := n6) (by omega)) (udC (udC udI udName) udI) val_pos
                    | false =>
                      have hkn : k3 = n6 := by
                        by_cases h0 : 0 < j3
                        · exact (hgo ⟨h0, rfl⟩).elim
                        · omega
                      have h5 := HSP.out
                      rw [hkn] at h5
                      exact SP.count HFIN2.out HST6.out (by omega) h5 (udC (udC udI udName) udI) val_pos
                  have hex : j3 = 0 ∨ ((0 : Int) < j3 ∧ b3 = true) := by
                    by_cases h0 : j3 = 0
                    · exact .inl h0
                    · cases b3
                      · exact (hgo ⟨by omega, rfl⟩).elim
                      · exact .inr ⟨by omega, rfl⟩
                  have hk3b : k3 ≤ nb := by omega
                  have hend : FPost "sluice/wire.match" w0 g gm base body ab nb cb at_ bad m w (.returned (.tuple #[])) wr := by
                    have hW := HWE.out
                    have hle := HH.out.le
                    have h2 := HOWN.out
                    have h3 := HOW2.out
                    have h4 := HOW3.out
                    rw [← HLK.out] at h2
                    rw [← HLK2.out] at h3
                    rw [← HLK3.out] at h4
                    have hv := HH.out.vx
                    refine ⟨eqM m i1 l l2 l3, eqP q an cn al cl av cv, a3, b3, rfl, ⟨HRS.out, HBK.out, ⟨own_low h2 (by omega), own_low h3 (by omega), own_low h4 (by omega), own2 HH.out.own.2.2.2 HGR.out HC.out.g1 HC.out.gm1⟩, ?_, Nat.le_trans HH.out.le HGR.out.size⟩, HGR.out, rfl, ?_⟩
                    · refine ⟨{ hv.1 with dec := HI1.out, names := HALL.out, lens := HALL2.out, vals := fun z hz => (HALL3.out z hz).1, nl := ?_, ll := ?_, vl := ?_ }, hv.2.1, fun z hz => (HALL3.out z hz).2⟩
                      · show l.length ≤ 1073741824
                        rw [HLK.out]; omega
                      · show l2.length ≤ 1073741824
                        rw [HLK2.out]; omega
                      · show l3.length ≤ 1073741824
                        rw [HLK3.out]; omega
                    · refine hfin.verdict _ _ (fun x => (((x.dec, x.names), x.lens), x.vals)) rfl (fun y => ?_) (fun y hy => ?_)
                      · show encMatch y = _
                        simp only [encMatch, encNames, encLens, encVals, eC, List.append_assoc]
                      · have h1 := hy.1.nl
                        have h2 := hy.1.ll
                        have h3 := hy.1.vl
                        exact ⟨⟨⟨hy.1.dec, by show y.names.length < _; omega, hy.1.names⟩, by show y.lens.length < _; omega, hy.1.lens⟩, by show y.vals.length < _; omega, fun z hz => ⟨hy.1.vals z hz, hy.2.2 z hz⟩⟩
                  have HF := Lib.hid hend
                  clear hfin hgo hjk3 hn6 HST6 HFIN2 HSP hend
                  rcases hex with hex | ⟨hj3, hex⟩
                  · subst hex
                    go_wp2
                    go_end0
                    exact HF.out
                  · subst hex
                    go_wp2
                    go_end0
                    exact HF.out

            · subst hex
              go_wp2_with fail
              refine (rd_count HC.out.rc HRS.out).mono ?_
              rintro e w6 ⟨n6, at6, b6, rfl, hn6, hrs6, hg6, hz6, hst6⟩
              have hk6 := blk_g HC.out.ne HBK.out hg6
              have hgr6 := HGR.out.trans (Gr2.ofg gm hg6)
              have hon6 := own2 HOWN.out (Gr2.ofg gm hg6) hgl hgml
              have hol6 := own2 HOW2.out (Gr2.ofg gm hg6) hgl hgml
              have HST6 := Lib.hid hst6
              obtain ⟨_, _, c6, _, _⟩ := hrs6.cells
              clear hst6 hz6 hg6 HRS HBK HGR HOWN HOW2 HAP
              go_wp2_with fail
              go_loopw [7] (fun v wr => ∃ (j3 k3 a3 : Nat) (b3 : Bool) (l3 : List (Bool × Int)) (av : Option Addr) (cv : Nat), v = .int .i64 (j3 : Int) ∧ l3.length = k3 ∧ j3 + k3 = n6 ∧ RS w0 g body ab nb cb a3 b3 wr ∧ Blk wr gm 50 (cellsM (eqM m i1 l l2 l3) (eqP q an cn al cl av cv)) ∧ wr.ownsRow W 89 2 (.slice an k cn) k (ncells l) ∧ wr.ownsRow W 3 1 (.slice al k2 cl) k2 (zcells l2) ∧ wr.ownsRow W 74 2 (.slice av k3 cv) k3 (vcells l3) ∧ Gr2 g gm w wr ∧ (∀ z ∈ l3, vVal z) ∧
                SP (fun l : List (Bool × Int) => l.flatMap encVal) (vL vVal k3) body at6 b6 a3 b3 l3 ∧ ((Value.slice an k cn).ownBlock = none ∨ (Value.slice an k cn).ownBlock ≠ (Value.slice av k3 cv).ownBlock) ∧ ((Value.slice al k2 cl).ownBlock = none ∨ (Value.slice al k2 cl).ownBlock ≠ (Value.slice av k3 cv).ownBlock)) (fun v _ => (intOf v).toNat)
              case atStart => exact ⟨n6, 0, at6, b6, [], none, 0, rfl, rfl, rfl, hrs6, hk6, hon6, hol6, World.ownsRow_nil _ _ _ _, hgr6, fun z hz => by simp at hz, SP.none_yet _ _ _ _ _, by cases an <;> simp [Value.ownBlock], by cases al <;> simp [Value.ownBlock]⟩
              case round =>
                clear hrs6 hk6 hgr6 c6 hon6 hol6
                obtain ⟨j3, k3, a3, b3, l3, av, cv, rfl, hlk3, hjk3, hrs, hbk, hown, hown2, hown3, hgr, hall3, hsp, hap, hap2⟩ := hrel
                obtain ⟨_, _, c6, _, _⟩ := hrs.cells
                have HLK3 := Lib.hid hlk3
                have HRS := Lib.hid hrs
                have HBK := Lib.hid hbk
                have HOWN := Lib.hid hown
                have HOW2 := Lib.hid hown2
                have HOW3 := Lib.hid hown3
                have HGR := Lib.hid hgr
                have HALL3 := Lib.hid hall3
                have HSP := Lib.hid hsp
                have HAP := Lib.hid hap
                have HAP2 := Lib.hid hap2
                clear hlk3 hrs hbk hown hown2 hown3 hgr hall3 hsp hap hap2
                by_cases hgo : 0 < j3 ∧ b3 = false
                · obtain ⟨hj0, rfl⟩ := hgo
                  have hj1 : (0 : Int) < j3 := by omega
                  go_wp2_with fail
                  refine (rd_truth HC.out.rc HRS.out).mono ?_
                  rintro e v3 ⟨t3, at3, b3, rfl, hrs3, hg3, hz3, hst3⟩
                  have hbk3 := blk_g HC.out.ne HBK.out hg3
                  have hgr3 := HGR.out.trans (Gr2.ofg gm hg3)
                  have hon3 := own2 HOWN.out (Gr2.ofg gm hg3) hgl hgml
                  have hol3 := own2 HOW2.out (Gr2.ofg gm hg3) hgl hgml
                  have hov3 := own2 HOW3.out (Gr2.ofg gm hg3) hgl hgml
                  have hsp3 := sp_truth hst3
                  have hszW : W ≤ v3.heap.size := by rw [HWE.out]; exact hgr3.size
                  have HGR3 := Lib.hid hgr3
                  have HON3 := Lib.hid hon3
                  have HOL3 := Lib.hid hol3
                  have HOV3 := Lib.hid hov3
                  clear hgr3 hon3 hol3 hov3
                  cases t3
                  · have HSV := Lib.hid (sp_val_false hsp3)
                    have hI : I64 (0 : Int) := by unfold I64; omega
                    have HI := Lib.hid hI
                    have HRS3 := Lib.hid hrs3
                    clear hsp3 hst3 hg3 hz3 hI
                    obtain ⟨V, hV⟩ : ∃ V, V = v3.alloc (.cells #[.bool false, .int .i64 0] 74) := ⟨_, rfl⟩
                    have HBV : Hid (Blk V v3.heap.size 74 [.bool false, .int .i64 0]) := Lib.hid (hV ▸ Blk.new v3 [.bool false, .int .i64 0] 74)
                    have HKV : Hid (Blk V gm 50 (cellsM (eqM m i1 l l2 l3) (eqP q an cn al cl av cv))) := Lib.hid (hV ▸ hbk3.alloc _)
                    have HRV : Hid (RS w0 g body ab nb cb at3 b3 V) := Lib.hid (hV ▸ ⟨HRS3.out.1.alloc _, HRS3.out.2.1, HRS3.out.2.2.alloc HRS3.out.2.2.size _⟩)
                    have HGV : Hid (Gr2 g gm v3 V) := Lib.hid (hV ▸ Gr2.ofg gm (grown_alloc v3 _ (some g)))
                    clear hrs3 hbk3
                    go_upto_region 16 with fail
                    rw [← hV]
                    clear hV HRS3
                    have hc0 : V.cell? ⟨v3.heap.size, 0, none⟩ = some (.bool false) := HBV.out.cell 0 (by simp)
                    have hc1 : V.cell? ⟨v3.heap.size, 1, none⟩ = some (.int .i64 0) := HBV.out.cell 1 (by simp)
                    have hcellB : V.cell? ⟨gm, 17, none⟩ = some (.slice av k3 cv) := by
                      rw [← HLK3.out]
                      exact HKV.out.cell 17 (by rw [cellsM_len]; omega)
                    have hcellA : (V.alloc (.cells #[.bool false, .int .i64 0] 74)).cell? ⟨gm, 17, none⟩ = some (.slice av k3 cv) := by
                      rw [← HLK3.out]
                      exact (HKV.out.alloc _).cell 17 (by rw [cellsM_len]; omega)
                    have HGRV := HGR3.out.trans HGV.out
                    have HON : Hid (V.drew.ownsRow W 89 2 (.slice an k cn) k (ncells l)) := Lib.hid (show V.ownsRow W 89 2 (.slice an k cn) k (ncells l) from own2 HON3.out HGV.out hgl hgml)
                    have HOL : Hid (V.drew.ownsRow W 3 1 (.slice al k2 cl) k2 (zcells l2)) := Lib.hid (show V.ownsRow W 3 1 (.slice al k2 cl) k2 (zcells l2) from own2 HOL3.out HGV.out hgl hgml)
                    have HOV : Hid (V.drew.ownsRow W 74 2 (.slice av k3 cv) k3 (vcells l3)) := Lib.hid (show V.ownsRow W 74 2 (.slice av k3 cv) k3 (vcells l3) from own2 HOV3.out HGV.out hgl hgml)
                    have HGD : Hid (Gr2 g gm w V.drew) := Lib.hid ⟨HGRV.os, HGRV.tape, HGRV.output, HGRV.size, HGRV.block⟩
                    have HKD : Hid (Blk V.drew gm 50 (cellsM (eqM m i1 l l2 l3) (eqP q an cn al cl av cv))) := HKV
                    have HBD : Hid (Blk V.drew v3.heap.size 74 [.bool false, .int .i64 0]) := HBV
                    have HRD := Lib.hid HRV.out.drew
                    have HWD : Hid (W ≤ (V.drew.alloc (.cells #[.bool false, .int .i64 0] 74)).heap.size) := Lib.hid (by rw [World.size_alloc, HWE.out]; have := HGD.out.size; omega)
                    clear HGRV HGR3 HGV HKV HRV HON3 HOL3 HOV3 HBV
                    go_region_law (refine step_app_rd rfl _ _ 42 rfl W 74 (.agg #[.bool false, .int .i64 0]) 2 16 Try.underlying42 info74 rfl (by decide) (.slice av k3 cv) k3 (vcells l3) rfl ?_ (some ⟨V.heap.size, 0, none⟩) 1 1 (vcells [(false, 0)]) rfl rfl ?_ (vcells_one _) (by unfold maxLen; omega) (by omega) ?_ ?_; exact HOV.out.alloc _; exact (Blk.new V.drew [.bool false, .int .i64 0] 74).rd; exact HWD.out; intro a6 c6 v6 hown6 hb6 hm6; (have hbk6 := (HKD.out.alloc (.cells #[.bool false, .int .i64 0] 74)).low hb6 hgml); (have hcell6 := hbk6.cell 17 (by rw [cellsM_len]; omega)); (have hfr6 := hbk6.frozen 17); (obtain ⟨y6, hy6⟩ : ∃ y, y = (cellsM (eqM m i1 l l2 l3) (eqP q an cn al cl av cv))[17]'(by rw [cellsM_len]; omega) := ⟨_, rfl⟩); rw [← hy6] at hcell6; (have HBK6 := Lib.hid hbk6); (have HOV6 := Lib.hid hown6); (have HON6 := Lib.hid (hm6.kept (HON.out.alloc (.cells #[.bool false, .int .i64 0] 74)) HAP.out)); (have HOL6 := Lib.hid (hm6.kept (HOL.out.alloc (.cells #[.bool false, .int .i64 0] 74)) HAP2.out)); (have HAP6 := Lib.hid (hm6.apart (HON.out.alloc (.cells #[.bool false, .int .i64 0] 74)) HAP.out)); (have HAP26 := Lib.hid (hm6.apart (HOL.out.alloc (.cells #[.bool false, .int .i64 0] 74)) HAP2.out)); (have HB6 := Lib.hid hb6); clear hy6 hbk6 hown6 hb6 hm6)
                    all_goals go_wp2
                    all_goals
                      have hs6 := HBK6.out.setCell 17 (.slice a6 (k3 + 1) c6)
                      have hc := cells_val m i1 l l2 l3 (false, 0) q an cn al cl av cv a6 c6
                      rw [HLK3.out] at hc
                      have hbk7 := hs6.1
                      rw [show (cellsM (eqM m i1 l l2 l3) (eqP q an cn al cl av cv)).set 17 (.slice a6 (k3 + 1) c6) = cellsM (eqM m i1 l l2 (l3 ++ [(false, 0)])) (eqP q an cn al cl a6 c6) from hc] at hbk7
                      have hrs6 := (show RS w0 g body ab nb cb at3 b3 (V.drew.alloc (.cells #[.bool false, .int .i64 0] 74)) from ⟨HRD.out.1.alloc _, HRD.out.2.1, HRD.out.2.2.alloc HRD.out.2.2.size _⟩).low HB6.out hgl h0l
                      have hgr6 := (HGD.out.trans (Gr2.ofg gm (grown_alloc V.drew (.cells #[.bool false, .int .i64 0] 74) (some g)))).low (HWE.out ▸ HB6.out)
                      have hon7 := own2 HON6.out (Gr2.ofm g hs6.2) hgl hgml
                      have hol7 := own2 HOL6.out (Gr2.ofm g hs6.2) hgl hgml
                      have hov7 := own2 HOV6.out (Gr2.ofm g hs6.2) hgl hgml
                      rw [show vcells l3 ++ vcells [(false, 0)] = vcells (l3 ++ [(false, 0)]) by simp [vcells]] at hov7
                      have hR : ∃ (j3' k3' a3 : Nat) (b3 : Bool) (l3 : List (Bool × Int)) (av : Option Addr) (cv : Nat), Value.int .i64 ((j3 : Int) - 1) = .int .i64 (j3' : Int) ∧ l3.length = k3' ∧ j3' + k3' = n6 ∧ RS w0 g body ab nb cb a3 b3 (v6.setCell ⟨gm, 17, none⟩ (.slice a6 (k3 + 1) c6)) ∧ Blk (v6.setCell ⟨gm, 17, none⟩ (.slice a6 (k3 + 1) c6)) gm 50 (cellsM (eqM m i1 l l2 l3) (eqP q an cn al cl av cv)) ∧ (v6.setCell ⟨gm, 17, none⟩ (.slice a6 (k3 + 1) c6)).ownsRow W 89 2 (.slice an k cn) k (ncells l) ∧ (v6.setCell ⟨gm, 17, none⟩ (.slice a6 (k3 + 1) c6)).ownsRow W 3 1 (.slice al k2 cl) k2 (zcells l2) ∧ (v6.setCell ⟨gm, 17, none⟩ (.slice a6 (k3 + 1) c6)).ownsRow W 74 2 (.slice av k3' cv) k3' (vcells l3) ∧ Gr2 g gm w (v6.setCell ⟨gm, 17, none⟩ (.slice a6 (k3 + 1) c6)) ∧ (∀ z ∈ l3, vVal z) ∧
                          SP (fun l : List (Bool × Int) => l.flatMap encVal) (vL vVal k3') body at6 b6 a3 b3 l3 ∧ ((Value.slice an k cn).ownBlock = none ∨ (Value.slice an k cn).ownBlock ≠ (Value.slice av k3' cv).ownBlock) ∧ ((Value.slice al k2 cl).ownBlock = none ∨ (Value.slice al k2 cl).ownBlock ≠ (Value.slice av k3' cv).ownBlock) := by
                        refine ⟨j3 - 1, k3 + 1, at3, b3, l3 ++ [(false, 0)], a6, c6, by congr 1; omega, by rw [List.length_append, HLK3.out]; rfl, by omega, rs_gm HC.out hrs6 hs6.2, hbk7, hon7, hol7, hov7, hgr6.trans (Gr2.ofm g hs6.2), fun z hz => ?_, HSP.out.push HSV.out udVal, HAP6.out, HAP26.out⟩
                        rcases List.mem_append.1 hz with hz | hz
                        · exact HALL3.out z hz
                        · simp at hz
                          subst hz
                          exact ⟨HI.out, fun h => by first | rfl | cases h⟩
                      have HR := Lib.hid hR
                      clear hs6 hc hbk7 hrs6 hgr6 hon7 hol7 hov7 hR
                    all_goals go_wp2
                    all_goals go_roundw
                    all_goals first | exact HR.out | (simp [intOf]; omega)

                  · have hb3 : b3 = false := by
                      cases b3
                      · rfl
                      · exact absurd (hz3 rfl) (by decide)
                    subst hb3
                    have HSP3 := Lib.hid hsp3
                    have hrsA : RS w0 g body ab nb cb at3 false (v3.alloc (.cells #[.bool true, .int .i64 0] 74)) := ⟨hrs3.1.alloc _, hrs3.2.1, hrs3.2.2.alloc hrs3.2.2.size _⟩
                    have HRA := Lib.hid hrsA
                    have HKA := Lib.hid (hbk3.alloc (.cells #[.bool true, .int .i64 0] 74))
                    have HBA := Lib.hid (Blk.new v3 [.bool true, .int .i64 0] 74)
                    have HGA := Lib.hid (Gr2.ofg gm (grown_alloc v3 (.cells #[.bool true, .int .i64 0] 74) (some g)))
                    clear hrs3 hbk3 hsp3 hst3 hg3 hz3 hrsA
                    go_wp2_with fail
                    refine (rd_int HC.out.rc HRA.out).mono ?_
                    rintro e v5 ⟨x, at5, b5, rfl, hI, hrs5, hg5, hz5, hst5⟩
                    have hne3 : v3.heap.size ≠ g := by omega
                    have hb5 : Blk v5 v3.heap.size 74 [.bool true, .int .i64 0] := blk_g hne3 HBA.out hg5
                    have hbk5 := blk_g HC.out.ne HKA.out hg5
                    have hG5 := HGA.out.trans (Gr2.ofg gm hg5)
                    have hs7 := hb5.setCell 1 (.int .i64 x)
                    have hB7 : Below v3.heap.size v5 (v5.setCell ⟨v3.heap.size, 1, none⟩ (.int .i64 x)) := below_of3 hs7.2 (Nat.le_refl _) hG5.size
                    have hcN : v5.cell? ⟨v3.heap.size, 1, none⟩ = some (.int .i64 0) := hb5.cell 1 (by simp)
                    have hcK : v5.cell? ⟨v3.heap.size, 0, none⟩ = some (.bool true) := hb5.cell 0 (by simp)
                    have hfN := hb5.frozen 1
                    have HSV := Lib.hid (sp_val_true HSP3.out (sp_int hI hst5) rfl)
                    have HI := Lib.hid (show I64 x from hI)
                    obtain ⟨V, hV⟩ : ∃ V, V = v5.setCell ⟨v3.heap.size, 1, none⟩ (.int .i64 x) := ⟨_, rfl⟩
                    rw [← hV] at hB7 hs7
                    have HBV : Hid (Blk V v3.heap.size 74 [.bool true, .int .i64 x]) := Lib.hid hs7.1
                    have HKV : Hid (Blk V gm 50 (cellsM (eqM m i1 l l2 l3) (eqP q an cn al cl av cv))) := Lib.hid (hbk5.low hB7 (by omega))
                    have HRV : Hid (RS w0 g body ab nb cb at5 b5 V) := Lib.hid (hrs5.low hB7 (by omega) (by omega))
                    have HGV : Hid (Gr2 g gm v3 V) := Lib.hid (hG5.low hB7)
                    clear HRA HKA HBA HGA HSP3 hst5 hg5 hz5 hI hb5 hbk5 hG5 hs7 hB7 hrs5
                    go_upto_region 16 with fail
                    rw [← hV]
                    clear hV hcN hfN hcK hne3
                    have hc0 : V.cell? ⟨v3.heap.size, 0, none⟩ = some (.bool true) := HBV.out.cell 0 (by simp)
                    have hc1 : V.cell? ⟨v3.heap.size, 1, none⟩ = some (.int .i64 x) := HBV.out.cell 1 (by simp)
                    have hcellB : V.cell? ⟨gm, 17, none⟩ = some (.slice av k3 cv) := by
                      rw [← HLK3.out]
                      exact HKV.out.cell 17 (by rw [cellsM_len]; omega)
                    have hcellA : (V.alloc (.cells #[.bool true, .int .i64 x] 74)).cell? ⟨gm, 17, none⟩ = some (.slice av k3 cv) := by
                      rw [← HLK3.out]
                      exact (HKV.out.alloc _).cell 17 (by rw [cellsM_len]; omega)
                    have HGRV := HGR3.out.trans HGV.out
                    have HON : Hid (V.drew.ownsRow W 89 2 (.slice an k cn) k (ncells l)) := Lib.hid (show V.ownsRow W 89 2 (.slice an k cn) k (ncells l) from own2 HON3.out HGV.out hgl hgml)
                    have HOL : Hid (V.drew.ownsRow W 3 1 (.slice al k2 cl) k2 (zcells l2)) := Lib.hid (show V.ownsRow W 3 1 (.slice al k2 cl) k2 (zcells l2) from own2 HOL3.out HGV.out hgl hgml)
                    have HOV : Hid (V.drew.ownsRow W 74 2 (.slice av k3 cv) k3 (vcells l3)) := Lib.hid (show V.ownsRow W 74 2 (.slice av k3 cv) k3 (vcells l3) from own2 HOV3.out HGV.out hgl hgml)
                    have HGD : Hid (Gr2 g gm w V.drew) := Lib.hid ⟨HGRV.os, HGRV.tape, HGRV.output, HGRV.size, HGRV.block⟩
                    have HKD : Hid (Blk V.drew gm 50 (cellsM (eqM m i1 l l2 l3) (eqP q an cn al cl av cv))) := HKV
                    have HBD : Hid (Blk V.drew v3.heap.size 74 [.bool true, .int .i64 x]) := HBV
                    have HRD := Lib.hid HRV.out.drew
                    have HWD : Hid (W ≤ (V.drew.alloc (.cells #[.bool true, .int .i64 x] 74)).heap.size) := Lib.hid (by rw [World.size_alloc, HWE.out]; have := HGD.out.size; omega)
                    clear HGRV HGR3 HGV HKV HRV HON3 HOL3 HOV3 HBV
                    go_region_law (refine step_app_rd rfl _ _ 42 rfl W 74 (.agg #[.bool false, .int .i64 0]) 2 16 Try.underlying42 info74 rfl (by decide) (.slice av k3 cv) k3 (vcells l3) rfl ?_ (some ⟨V.heap.size, 0, none⟩) 1 1 (vcells [(true, x)]) rfl rfl ?_ (vcells_one _) (by unfold maxLen; omega) (by omega) ?_ ?_; exact HOV.out.alloc _; exact (Blk.new V.drew [.bool true, .int .i64 x] 74).rd; exact HWD.out; intro a6 c6 v6 hown6 hb6 hm6; (have hbk6 := (HKD.out.alloc (.cells #[.bool true, .int .i64 x] 74)).low hb6 hgml); (have hcell6 := hbk6.cell 17 (by rw [cellsM_len]; omega)); (have hfr6 := hbk6.frozen 17); (obtain ⟨y6, hy6⟩ : ∃ y, y = (cellsM (eqM m i1 l l2 l3) (eqP q an cn al cl av cv))[17]'(by rw [cellsM_len]; omega) := ⟨_, rfl⟩); rw [← hy6] at hcell6; (have HBK6 := Lib.hid hbk6); (have HOV6 := Lib.hid hown6); (have HON6 := Lib.hid (hm6.kept (HON.out.alloc (.cells #[.bool true, .int .i64 x] 74)) HAP.out)); (have HOL6 := Lib.hid (hm6.kept (HOL.out.alloc (.cells #[.bool true, .int .i64 x] 74)) HAP2.out)); (have HAP6 := Lib.hid (hm6.apart (HON.out.alloc (.cells #[.bool true, .int .i64 x] 74)) HAP.out)); (have HAP26 := Lib.hid (hm6.apart (HOL.out.alloc (.cells #[.bool true, .int .i64 x] 74)) HAP2.out)); (have HB6 := Lib.hid hb6); clear hy6 hbk6 hown6 hb6 hm6)
                    all_goals go_wp2
                    all_goals
                      have hs6 := HBK6.out.setCell 17 (.slice a6 (k3 + 1) c6)
                      have hc := cells_val m i1 l l2 l3 (true, x) q an cn al cl av cv a6 c6
                      rw [HLK3.out] at hc
                      have hbk7 := hs6.1
                      rw [show (cellsM (eqM m i1 l l2 l3) (eqP q an cn al cl av cv)).set 17 (.slice a6 (k3 + 1) c6) = cellsM (eqM m i1 l l2 (l3 ++ [(true, x)])) (eqP q an cn al cl a6 c6) from hc] at hbk7
                      have hrs6 := (show RS w0 g body ab nb cb at5 b5 (V.drew.alloc (.cells #[.bool true, .int .i64 x] 74)) from ⟨HRD.out.1.alloc _, HRD.out.2.1, HRD.out.2.2.alloc HRD.out.2.2.size _⟩).low HB6.out hgl h0l
                      have hgr6 := (HGD.out.trans (Gr2.ofg gm (grown_alloc V.drew (.cells #[.bool true, .int .i64 x] 74) (some g)))).low (HWE.out ▸ HB6.out)
                      have hon7 := own2 HON6.out (Gr2.ofm g hs6.2) hgl hgml
                      have hol7 := own2 HOL6.out (Gr2.ofm g hs6.2) hgl hgml
                      have hov7 := own2 HOV6.out (Gr2.ofm g hs6.2) hgl hgml
                      rw [show vcells l3 ++ vcells [(true, x)] = vcells (l3 ++ [(true, x)]) by simp [vcells]] at hov7
                      have hR : ∃ (j3' k3' a3 : Nat) (b3 : Bool) (l3 : List (Bool × Int)) (av : Option Addr) (cv : Nat), Value.int .i64 ((j3 : Int) - 1) = .int .i64 (j3' : Int) ∧ l3.length = k3' ∧ j3' + k3' = n6 ∧ RS w0 g body ab nb cb a3 b3 (v6.setCell ⟨gm, 17, none⟩ (.slice a6 (k3 + 1) c6)) ∧ Blk (v6.setCell ⟨gm, 17, none⟩ (.slice a6 (k3 + 1) c6)) gm 50 (cellsM (eqM m i1 l l2 l3) (eqP q an cn al cl av cv)) ∧ (v6.setCell ⟨gm, 17, none⟩ (.slice a6 (k3 + 1) c6)).ownsRow W 89 2 (.slice an k cn) k (ncells l) ∧ (v6.setCell ⟨gm, 17, none⟩ (.slice a6 (k3 + 1) c6)).ownsRow W 3 1 (.slice al k2 cl) k2 (zcells l2) ∧ (v6.setCell ⟨gm, 17, none⟩ (.slice a6 (k3 + 1) c6)).ownsRow W 74 2 (.slice av k3' cv) k3' (vcells l3) ∧ Gr2 g gm w (v6.setCell ⟨gm, 17, none⟩ (.slice a6 (k3 + 1) c6)) ∧ (∀ z ∈ l3, vVal z) ∧
                          SP (fun l : List (Bool × Int) => l.flatMap encVal) (vL vVal k3') body at6 b6 a3 b3 l3 ∧ ((Value.slice an k cn).ownBlock = none ∨ (Value.slice an k cn).ownBlock ≠ (Value.slice av k3' cv).ownBlock) ∧ ((Value.slice al k2 cl).ownBlock = none ∨ (Value.slice al k2 cl).ownBlock ≠ (Value.slice av k3' cv).ownBlock) := by
                        refine ⟨j3 - 1, k3 + 1, at5, b5, l3 ++ [(true, x)], a6, c6, by congr 1; omega, by rw [List.length_append, HLK3.out]; rfl, by omega, rs_gm HC.out hrs6 hs6.2, hbk7, hon7, hol7, hov7, hgr6.trans (Gr2.ofm g hs6.2), fun z hz => ?_, HSP.out.push HSV.out udVal, HAP6.out, HAP26.out⟩
                        rcases List.mem_append.1 hz with hz | hz
                        · exact HALL3.out z hz
                        · simp at hz
                          subst hz
                          exact ⟨HI.out, fun h => by first | rfl | cases h⟩
                      have HR := Lib.hid hR
                      clear hs6 hc hbk7 hrs6 hgr6 hon7 hol7 hov7 hR
                    all_goals go_wp2
                    all_goals go_roundw
                    all_goals first | exact HR.out | (simp [intOf]; omega)

                · have hfin : SP (eC (eC (eC bytesI encName) bytesI) encVal) (vC (vC (vC I64 vName) I64) vVal) body at_ bad a3 b3 (((i1, l), l2), l3) := by
                    cases b3 with
                    | true => exact SP.count HFIN2.out HST6.out (by omega) (HSP.out.more (n := n6) (by omega)) (udC (udC udI udName) udI) val_pos
                    | false =>
                      have hkn : k3 = n6 := by
                        by_cases h0 : 0 < j3
                        · exact (hgo ⟨h0, rfl⟩).elim
                        · omega
                      have h5 := HSP.out
                      rw [hkn] at h5
                      exact SP.count HFIN2.out HST6.out (by omega) h5 (udC (udC udI udName) udI) val_pos
                  have hex : j3 = 0 ∨ ((0 : Int) < j3 ∧ b3 = true) := by
                    by_cases h0 : j3 = 0
                    · exact .inl h0
                    · cases b3
                      · exact (hgo ⟨by omega, rfl⟩).elim
                      · exact .inr ⟨by omega, rfl⟩
                  have hk3b : k3 ≤ nb := by omega
                  have hend : FPost "sluice/wire.match" w0 g gm base body ab nb cb at_ bad m w (.returned (.tuple #[])) wr := by
                    have hW := HWE.out
                    have hle := HH.out.le
                    have h2 := HOWN.out
                    have h3 := HOW2.out
                    have h4 := HOW3.out
                    rw [← HLK.out] at h2
                    rw [← HLK2.out] at h3
                    rw [← HLK3.out] at h4
                    have hv := HH.out.vx
                    refine ⟨eqM m i1 l l2 l3, eqP q an cn al cl av cv, a3, b3, rfl, ⟨HRS.out, HBK.out, ⟨own_low h2 (by omega), own_low h3 (by omega), own_low h4 (by omega), own2 HH.out.own.2.2.2 HGR.out HC.out.g1 HC.out.gm1⟩, ?_, Nat.le_trans HH.out.le HGR.out.size⟩, HGR.out, rfl, ?_⟩
                    · refine ⟨{ hv.1 with dec := HI1.out, names := HALL.out, lens := HALL2.out, vals := fun z hz => (HALL3.out z hz).1, nl := ?_, ll := ?_, vl := ?_ }, hv.2.1, fun z hz => (HALL3.out z hz).2⟩
                      · show l.length ≤ 1073741824
                        rw [HLK.out]; omega
                      · show l2.length ≤ 1073741824
                        rw [HLK2.out]; omega
                      · show l3.length ≤ 1073741824
                        rw [HLK3.out]; omega
                    · refine hfin.verdict _ _ (fun x => (((x.dec, x.names), x.lens), x.vals)) rfl (fun y => ?_) (fun y hy => ?_)
                      · show encMatch y = _
                        simp only [encMatch, encNames, encLens, encVals, eC, List.append_assoc]
                      · have h1 := hy.1.nl
                        have h2 := hy.1.ll
                        have h3 := hy.1.vl
                        exact ⟨⟨⟨hy.1.dec, by show y.names.length < _; omega, hy.1.names⟩, by show y.lens.length < _; omega, hy.1.lens⟩, by show y.vals.length < _; omega, fun z hz => ⟨hy.1.vals z hz, hy.2.2 z hz⟩⟩
                  have HF := Lib.hid hend
                  clear hfin hgo hjk3 hn6 HST6 HFIN2 HSP hend
                  rcases hex with hex | ⟨hj3, hex⟩
                  · subst hex
                    go_wp2
                    go_end0
                    exact HF.out
                  · subst hex
                    go_wp2
                    go_end0
                    exact HF.out

      · subst hex
        go_wp2_with fail
        refine (rd_count HC.out.rc HRS.out).mono ?_
        rintro e w4 ⟨n4, at4, b4, rfl, hn4, hrs4, hg4, hz4, hst4⟩
        have hk4 := blk_g HC.out.ne HBK.out hg4
        have hgr4 := HGR.out.trans (Gr2.ofg gm hg4)
        have hon4 := own2 HOWN.out (Gr2.ofg gm hg4) hgl hgml
        have HST4 := Lib.hid hst4
        obtain ⟨_, _, c4, _, _⟩ := hrs4.cells
        clear hst4 hz4 hg4 HRS HBK HGR HOWN
        go_wp2_with fail
        go_loopw [6] (fun v wr => ∃ (j2 k2 a2 : Nat) (b2 : Bool) (l2 : List Int) (al : Option Addr) (cl : Nat), v = .int .i64 (j2 : Int) ∧ l2.length = k2 ∧ j2 + k2 = n4 ∧ RS w0 g body ab nb cb a2 b2 wr ∧ Blk wr gm 50 (cellsM (eqM m i1 l l2 []) (eqP q an cn al cl none 0)) ∧ wr.ownsRow W 89 2 (.slice an k cn) k (ncells l) ∧ wr.ownsRow W 3 1 (.slice al k2 cl) k2 (zcells l2) ∧ Gr2 g gm w wr ∧ (∀ z ∈ l2, I64 z) ∧
          SP (fun l : List Int => l.flatMap bytesI) (vL I64 k2) body at4 b4 a2 b2 l2 ∧ ((Value.slice an k cn).ownBlock = none ∨ (Value.slice an k cn).ownBlock ≠ (Value.slice al k2 cl).ownBlock)) (fun v _ => (intOf v).toNat)
        case atStart => exact ⟨n4, 0, at4, b4, [], none, 0, rfl, rfl, rfl, hrs4, hk4, hon4, World.ownsRow_nil _ _ _ _, hgr4, fun z hz => by simp at hz, SP.none_yet _ _ _ _ _, by cases an <;> simp [Value.ownBlock]⟩
        case round =>
          clear hrs4 hk4 hgr4 c4 hon4
          obtain ⟨j2, k2, a2, b2, l2, al, cl, rfl, hlk2, hjk2, hrs, hbk, hown, hown2, hgr, hall2, hsp, hap⟩ := hrel
          obtain ⟨_, _, c4, _, _⟩ := hrs.cells
          have HLK2 := Lib.hid hlk2
          have HRS := Lib.hid hrs
          have HBK := Lib.hid hbk
          have HOWN := Lib.hid hown
          have HOW2 := Lib.hid hown2
          have HGR := Lib.hid hgr
          have HALL2 := Lib.hid hall2
          have HSP := Lib.hid hsp
          have HAP := Lib.hid hap
          clear hlk2 hrs hbk hown hown2 hgr hall2 hsp hap
          by_cases hgo : 0 < j2 ∧ b2 = false
          · obtain ⟨hj0, rfl⟩ := hgo
            have hj1 : (0 : Int) < j2 := by omega
            have hcell3 : wr.cell? ⟨gm, 16, none⟩ = some (.slice al k2 cl) := by
              rw [← HLK2.out]
              exact HBK.out.cell 16 (by rw [cellsM_len]; omega)
            have HRS3 := Lib.hid HRS.out.drew
            have HBK3 : Hid (Blk wr.drew gm 50 (cellsM (eqM m i1 l l2 []) (eqP q an cn al cl none 0))) := HBK
            have HOWN3 : Hid (wr.drew.ownsRow W 89 2 (.slice an k cn) k (ncells l)) := HOWN
            have HOW23 : Hid (wr.drew.ownsRow W 3 1 (.slice al k2 cl) k2 (zcells l2)) := HOW2
            have HGR3 : Hid (Gr2 g gm w wr.drew) := Lib.hid ⟨HGR.out.os, HGR.out.tape, HGR.out.output, HGR.out.size, HGR.out.block⟩
            go_wp2
            go_region_law (first | (refine step_app_rd rfl _ _ 41 rfl W 3 (.int .i64 0) 1 8 Try.underlying41 info3 rfl (by decide) (.slice al k2 cl) k2 (zcells l2) rfl ?_ (some ⟨v5.heap.size, 0, none⟩) 1 1 (zcells [x]) rfl rfl ?_ (zcells_one _) (by unfold maxLen; omega) (by omega) ?_ ?_; exact HOW25.out.alloc _; exact (Blk.new v5 [.int .i64 x] 3).rd; exact HW5.out; intro a6 c6 v6 hown6 hb6 hm6; (have hbk6 := (HBK5.out.alloc (.cells #[.int .i64 x] 3)).low hb6 hgml); (have hcell6 := hbk6.cell 16 (by rw [cellsM_len]; omega)); (have hfr6 := hbk6.frozen 16); (obtain ⟨y6, hy6⟩ : ∃ y, y = (cellsM (eqM m i1 l l2 []) (eqP q an cn al cl none 0))[16]'(by rw [cellsM_len]; omega) := ⟨_, rfl⟩); rw [← hy6] at hcell6; (have HBK6 := Lib.hid hbk6); (have HOW26 := Lib.hid hown6); (have HOWN6 := Lib.hid (hm6.kept (HOWN5.out.alloc (.cells #[.int .i64 x] 3)) HAP.out)); (have HAP6 := Lib.hid (hm6.apart (HOWN5.out.alloc (.cells #[.int .i64 x] 3)) HAP.out)); (have HB6 := Lib.hid hb6); clear hy6 hbk6 hown6 hb6 hm6) | (go_simp; go_at_call 119; refine (rd_int HC.out.rc HRS3.out).mono ?_; rintro e v5 ⟨x, at5, b5, rfl, hx, hrs5, hg5, hz5, hst5⟩; (have hbk5 := blk_g HC.out.ne HBK3.out hg5); (have hcell5 : v5.cell? ⟨gm, 16, none⟩ = some (.slice al k2 cl) := (by rw [← HLK2.out]; exact hbk5.cell 16 (by rw [cellsM_len]; omega))); (have hcell5a : (v5.alloc (.cells #[.int .i64 x] 3)).cell? ⟨gm, 16, none⟩ = some (.slice al k2 cl) := (by rw [← HLK2.out]; exact (hbk5.alloc _).cell 16 (by rw [cellsM_len]; omega))); (have HOWN5 := Lib.hid (own2 HOWN3.out (Gr2.ofg gm hg5) hgl hgml)); (have HOW25 := Lib.hid (own2 HOW23.out (Gr2.ofg gm hg5) hgl hgml)); (have HGR5 := Lib.hid (HGR3.out.trans (Gr2.ofg gm hg5))); (have HW5 : Hid (W ≤ (v5.alloc (.cells #[.int .i64 x] 3)).heap.size) := Lib.hid (by rw [World.size_alloc, HWE.out]; have := HGR5.out.size; omega)); (have HBK5 := Lib.hid hbk5); (have HRS5 := Lib.hid hrs5); (have HXI := Lib.hid (show I64 x from hx)); (have HST5 := Lib.hid (sp_int hx hst5)); clear hbk5 hrs5 hg5 hz5 hst5 hx))
            all_goals go_wp2
            all_goals
              have hs6 := HBK6.out.setCell 16 (.slice a6 (k2 + 1) c6)
              have hc := cells_len m i1 l l2 x q an cn al cl a6 c6
              rw [HLK2.out] at hc
              have hbk7 := hs6.1
              rw [show (cellsM (eqM m i1 l l2 []) (eqP q an cn al cl none 0)).set 16 (.slice a6 (k2 + 1) c6) = cellsM (eqM m i1 l (l2 ++ [x]) []) (eqP q an cn a6 c6 none 0) from hc] at hbk7
              have hrs6 := (show RS w0 g body ab nb cb at5 b5 (v5.alloc (.cells #[.int .i64 x] 3)) from ⟨HRS5.out.1.alloc _, HRS5.out.2.1, HRS5.out.2.2.alloc HRS5.out.2.2.size _⟩).low HB6.out hgl h0l
              have hgr6 := (HGR5.out.trans (Gr2.ofg gm (grown_alloc v5 (.cells #[.int .i64 x] 3) (some g)))).low (HWE.out ▸ HB6.out)
              have hown7 := own2 HOWN6.out (Gr2.ofm g hs6.2) hgl hgml
              have how27 := own2 HOW26.out (Gr2.ofm g hs6.2) hgl hgml
              rw [show zcells l2 ++ zcells [x] = zcells (l2 ++ [x]) by simp [zcells]] at how27
              have hR : ∃ (j2' k2' a2 : Nat) (b2 : Bool) (l2 : List Int) (al : Option Addr) (cl : Nat), Value.int .i64 ((j2 : Int) - 1) = .int .i64 (j2' : Int) ∧ l2.length = k2' ∧ j2' + k2' = n4 ∧ RS w0 g body ab nb cb a2 b2 (v6.setCell ⟨gm, 16, none⟩ (.slice a6 (k2 + 1) c6)) ∧ Blk (v6.setCell ⟨gm, 16, none⟩ (.slice a6 (k2 + 1) c6)) gm 50 (cellsM (eqM m i1 l l2 []) (eqP q an cn al cl none 0)) ∧ (v6.setCell ⟨gm, 16, none⟩ (.slice a6 (k2 + 1) c6)).ownsRow W 89 2 (.slice an k cn) k (ncells l) ∧ (v6.setCell ⟨gm, 16, none⟩ (.slice a6 (k2 + 1) c6)).ownsRow W 3 1 (.slice al k2' cl) k2' (zcells l2) ∧ Gr2 g gm w (v6.setCell ⟨gm, 16, none⟩ (.slice a6 (k2 + 1) c6)) ∧ (∀ z ∈ l2, I64 z) ∧
                  SP (fun l : List Int => l.flatMap bytesI) (vL I64 k2') body at4 b4 a2 b2 l2 ∧ ((Value.slice an k cn).ownBlock = none ∨ (Value.slice an k cn).ownBlock ≠ (Value.slice al k2' cl).ownBlock) := by
                refine ⟨j2 - 1, k2 + 1, at5, b5, l2 ++ [x], a6, c6, by congr 1; omega, by rw [List.length_append, HLK2.out]; rfl, by omega, rs_gm HC.out hrs6 hs6.2, hbk7, hown7, how27, hgr6.trans (Gr2.ofm g hs6.2), fun z hz => ?_, HSP.out.push HST5.out udI, HAP6.out⟩
                rcases List.mem_append.1 hz with hz | hz
                · exact HALL2.out z hz
                · simp at hz
                  subst hz
                  exact HXI.out
              have HR := Lib.hid hR
              clear hs6 hc hbk7 hrs6 hgr6 hown7 how27 hR
            all_goals go_wp2
            all_goals go_roundw
            all_goals first | exact HR.out | (simp [intOf]; omega)
          · have hfin : SP (eC (eC bytesI encName) bytesI) (vC (vC I64 vName) I64) body at_ bad a2 b2 ((i1, l), l2) := by
              cases b2 with
              | true => exact SP.count HFIN.out HST4.out (by omega) (HSP.out.more (n := n4) (by omega)) (udC udI udName) (fun z _ => bytesI_pos z)
              | false =>
                have hkn : k2 = n4 := by
                  by_cases h0 : 0 < j2
                  · exact (hgo ⟨h0, rfl⟩).elim
                  · omega
                have h5 := HSP.out
                rw [hkn] at h5
                exact SP.count HFIN.out HST4.out (by omega) h5 (udC udI udName) (fun z _ => bytesI_pos z)
            have hex : j2 = 0 ∨ ((0 : Int) < j2 ∧ b2 = true) := by
              by_cases h0 : j2 = 0
              · exact .inl h0
              · cases b2
                · exact (hgo ⟨by omega, rfl⟩).elim
                · exact .inr ⟨by omega, rfl⟩
            have hk2b : k2 ≤ nb := by omega
            have HFIN2 := Lib.hid hfin
            clear hfin hgo hjk2 hn4 HST4 HFIN HSP
            rcases hex with hex | ⟨hj2, hex⟩
            · subst hex
              go_wp2_with fail
              refine (rd_count HC.out.rc HRS.out).mono ?_
              rintro e w6 ⟨n6, at6, b6, rfl, hn6, hrs6, hg6, hz6, hst6⟩
              have hk6 := blk_g HC.out.ne HBK.out hg6
              have hgr6 := HGR.out.trans (Gr2.ofg gm hg6)
              have hon6 := own2 HOWN.out (Gr2.ofg gm hg6) hgl hgml
              have hol6 := own2 HOW2.out (Gr2.ofg gm hg6) hgl hgml
              have HST6 := Lib.hid hst6
              obtain ⟨_, _, c6, _, _⟩ := hrs6.cells
              clear hst6 hz6 hg6 HRS HBK HGR HOWN HOW2 HAP
              go_wp2_with fail
              go_loopw [7] (fun v wr => ∃ (j3 k3 a3 : Nat) (b3 : Bool) (l3 : List (Bool × Int)) (av : Option Addr) (cv : Nat), v = .int .i64 (j3 : Int) ∧ l3.length = k3 ∧ j3 + k3 = n6 ∧ RS w0 g body ab nb cb a3 b3 wr ∧ Blk wr gm 50 (cellsM (eqM m i1 l l2 l3) (eqP q an cn al cl av cv)) ∧ wr.ownsRow W 89 2 (.slice an k cn) k (ncells l) ∧ wr.ownsRow W 3 1 (.slice al k2 cl) k2 (zcells l2) ∧ wr.ownsRow W 74 2 (.slice av k3 cv) k3 (vcells l3) ∧ Gr2 g gm w wr ∧ (∀ z ∈ l3, vVal z) ∧
                SP (fun l : List (Bool × Int) => l.flatMap encVal) (vL vVal k3) body at6 b6 a3 b3 l3 ∧ ((Value.slice an k cn).ownBlock = none ∨ (Value.slice an k cn).ownBlock ≠ (Value.slice av k3 cv).ownBlock) ∧ ((Value.slice al k2 cl).ownBlock = none ∨ (Value.slice al k2 cl).ownBlock ≠ (Value.slice av k3 cv).ownBlock)) (fun v _ => (intOf v).toNat)
              case atStart => exact ⟨n6, 0, at6, b6, [], none, 0, rfl, rfl, rfl, hrs6, hk6, hon6, hol6, World.ownsRow_nil _ _ _ _, hgr6, fun z hz => by simp at hz, SP.none_yet _ _ _ _ _, by cases an <;> simp [Value.ownBlock], by cases al <;> simp [Value.ownBlock]⟩
              case round =>
                clear hrs6 hk6 hgr6 c6 hon6 hol6
                obtain ⟨j3, k3, a3, b3, l3, av, cv, rfl, hlk3, hjk3, hrs, hbk, hown, hown2, hown3, hgr, hall3, hsp, hap, hap2⟩ := hrel
                obtain ⟨_, _, c6, _, _⟩ := hrs.cells
                have HLK3 := Lib.hid hlk3
                have HRS := Lib.hid hrs
                have HBK := Lib.hid hbk
                have HOWN := Lib.hid hown
                have HOW2 := Lib.hid hown2
                have HOW3 := Lib.hid hown3
                have HGR := Lib.hid hgr
                have HALL3 := Lib.hid hall3
                have HSP := Lib.hid hsp
                have HAP := Lib.hid hap
                have HAP2 := Lib.hid hap2
                clear hlk3 hrs hbk hown hown2 hown3 hgr hall3 hsp hap hap2
                by_cases hgo : 0 < j3 ∧ b3 = false
                · obtain ⟨hj0, rfl⟩ := hgo
                  have hj1 : (0 : Int) < j3 := by omega
                  go_wp2_with fail
                  refine (rd_truth HC.out.rc HRS.out).mono ?_
                  rintro e v3 ⟨t3, at3, b3, rfl, hrs3, hg3, hz3, hst3⟩
                  have hbk3 := blk_g HC.out.ne HBK.out hg3
                  have hgr3 := HGR.out.trans (Gr2.ofg gm hg3)
                  have hon3 := own2 HOWN.out (Gr2.ofg gm hg3) hgl hgml
                  have hol3 := own2 HOW2.out (Gr2.ofg gm hg3) hgl hgml
                  have hov3 := own2 HOW3.out (Gr2.ofg gm hg3) hgl hgml
                  have hsp3 := sp_truth hst3
                  have hszW : W ≤ v3.heap.size := by rw [HWE.out]; exact hgr3.size
                  have HGR3 := Lib.hid hgr3
                  have HON3 := Lib.hid hon3
                  have HOL3 := Lib.hid hol3
                  have HOV3 := Lib.hid hov3
                  clear hgr3 hon3 hol3 hov3
                  cases t3
                  · have HSV := Lib.hid (sp_val_false hsp3)
                    have hI : I64 (0 : Int) := by unfold I64; omega
                    have HI := Lib.hid hI
                    have HRS3 := Lib.hid hrs3
                    clear hsp3 hst3 hg3 hz3 hI
                    obtain ⟨V, hV⟩ : ∃ V, V = v3.alloc (.cells #[.bool false, .int .i64 0] 74) := ⟨_, rfl⟩
                    have HBV : Hid (Blk V v3.heap.size 74 [.bool false, .int .i64 0]) := Lib.hid (hV ▸ Blk.new v3 [.bool false, .int .i64 0] 74)
                    have HKV : Hid (Blk V gm 50 (cellsM (eqM m i1 l l2 l3) (eqP q an cn al cl av cv))) := Lib.hid (hV ▸ hbk3.alloc _)
                    have HRV : Hid (RS w0 g body ab nb cb at3 b3 V) := Lib.hid (hV ▸ ⟨HRS3.out.1.alloc _, HRS3.out.2.1, HRS3.out.2.2.alloc HRS3.out.2.2.size _⟩)
                    have HGV : Hid (Gr2 g gm v3 V) := Lib.hid (hV ▸ Gr2.ofg gm (grown_alloc v3 _ (some g)))
                    clear hrs3 hbk3
                    go_upto_region 16 with fail
                    rw [← hV]
                    clear hV HRS3
                    have hc0 : V.cell? ⟨v3.heap.size, 0, none⟩ = some (.bool false) := HBV.out.cell 0 (by simp)
                    have hc1 : V.cell? ⟨v3.heap.size, 1, none⟩ = some (.int .i64 0) := HBV.out.cell 1 (by simp)
                    have hcellB : V.cell? ⟨gm, 17, none⟩ = some (.slice av k3 cv) := by
                      rw [← HLK3.out]
                      exact HKV.out.cell 17 (by rw [cellsM_len]; omega)
                    have hcellA : (V.alloc (.cells #[.bool false, .int .i64 0] 74)).cell? ⟨gm, 17, none⟩ = some (.slice av k3 cv) := by
                      rw [← HLK3.out]
                      exact (HKV.out.alloc _).cell 17 (by rw [cellsM_len]; omega)
                    have HGRV := HGR3.out.trans HGV.out
                    have HON : Hid (V.drew.ownsRow W 89 2 (.slice an k cn) k (ncells l)) := Lib.hid (show V.ownsRow W 89 2 (.slice an k cn) k (ncells l) from own2 HON3.out HGV.out hgl hgml)
                    have HOL : Hid (V.drew.ownsRow W 3 1 (.slice al k2 cl) k2 (zcells l2)) := Lib.hid (show V.ownsRow W 3 1 (.slice al k2 cl) k2 (zcells l2) from own2 HOL3.out HGV.out hgl hgml)
                    have HOV : Hid (V.drew.ownsRow W 74 2 (.slice av k3 cv) k3 (vcells l3)) := Lib.hid (show V.ownsRow W 74 2 (.slice av k3 cv) k3 (vcells l3) from own2 HOV3.out HGV.out hgl hgml)
                    have HGD : Hid (Gr2 g gm w V.drew) := Lib.hid ⟨HGRV.os, HGRV.tape, HGRV.output, HGRV.size, HGRV.block⟩
                    have HKD : Hid (Blk V.drew gm 50 (cellsM (eqM m i1 l l2 l3) (eqP q an cn al cl av cv))) := HKV
                    have HBD : Hid (Blk V.drew v3.heap.size 74 [.bool false, .int .i64 0]) := HBV
                    have HRD := Lib.hid HRV.out.drew
                    have HWD : Hid (W ≤ (V.drew.alloc (.cells #[.bool false, .int .i64 0] 74)).heap.size) := Lib.hid (by rw [World.size_alloc, HWE.out]; have := HGD.out.size; omega)
                    clear HGRV HGR3 HGV HKV HRV HON3 HOL3 HOV3 HBV
                    go_region_law (refine step_app_rd rfl _ _ 42 rfl W 74 (.agg #[.bool false, .int .i64 0]) 2 16 Try.underlying42 info74 rfl (by decide) (.slice av k3 cv) k3 (vcells l3) rfl ?_ (some ⟨V.heap.size, 0, none⟩) 1 1 (vcells [(false, 0)]) rfl rfl ?_ (vcells_one _) (by unfold maxLen; omega) (by omega) ?_ ?_; exact HOV.out.alloc _; exact (Blk.new V.drew [.bool false, .int .i64 0] 74).rd; exact HWD.out; intro a6 c6 v6 hown6 hb6 hm6; (have hbk6 := (HKD.out.alloc (.cells #[.bool false, .int .i64 0] 74)).low hb6 hgml); (have hcell6 := hbk6.cell 17 (by rw [cellsM_len]; omega)); (have hfr6 := hbk6.frozen 17); (obtain ⟨y6, hy6⟩ : ∃ y, y = (cellsM (eqM m i1 l l2 l3) (eqP q an cn al cl av cv))[17]'(by rw [cellsM_len]; omega) := ⟨_, rfl⟩); rw [← hy6] at hcell6; (have HBK6 := Lib.hid hbk6); (have HOV6 := Lib.hid hown6); (have HON6 := Lib.hid (hm6.kept (HON.out.alloc (.cells #[.bool false, .int .i64 0] 74)) HAP.out)); (have HOL6 := Lib.hid (hm6.kept (HOL.out.alloc (.cells #[.bool false, .int .i64 0] 74)) HAP2.out)); (have HAP6 := Lib.hid (hm6.apart (HON.out.alloc (.cells #[.bool false, .int .i64 0] 74)) HAP.out)); (have HAP26 := Lib.hid (hm6.apart (HOL.out.alloc (.cells #[.bool false, .int .i64 0] 74)) HAP2.out)); (have HB6 := Lib.hid hb6); clear hy6 hbk6 hown6 hb6 hm6)
                    all_goals go_wp2
                    all_goals
                      have hs6 := HBK6.out.setCell 17 (.slice a6 (k3 + 1) c6)
                      have hc := cells_val m i1 l l2 l3 (false, 0) q an cn al cl av cv a6 c6
                      rw [HLK3.out] at hc
                      have hbk7 := hs6.1
                      rw [show (cellsM (eqM m i1 l l2 l3) (eqP q an cn al cl av cv)).set 17 (.slice a6 (k3 + 1) c6) = cellsM (eqM m i1 l l2 (l3 ++ [(false, 0)])) (eqP q an cn al cl a6 c6) from hc] at hbk7
                      have hrs6 := (show RS w0 g body ab nb cb at3 b3 (V.drew.alloc (.cells #[.bool false, .int .i64 0] 74)) from ⟨HRD.out.1.alloc _, HRD.out.2.1, HRD.out.2.2.alloc HRD.out.2.2.size _⟩).low HB6.out hgl h0l
                      have hgr6 := (HGD.out.trans (Gr2.ofg gm (grown_alloc V.drew (.cells #[.bool false, .int .i64 0] 74) (some g)))).low (HWE.out ▸ HB6.out)
                      have hon7 := own2 HON6.out (Gr2.ofm g hs6.2) hgl hgml
                      have hol7 := own2 HOL6.out (Gr2.ofm g hs6.2) hgl hgml
                      have hov7 := own2 HOV6.out (Gr2.ofm g hs6.2) hgl hgml
                      rw [show vcells l3 ++ vcells [(false, 0)] = vcells (l3 ++ [(false, 0)]) by simp [vcells]] at hov7
                      have hR : ∃ (j3' k3' a3 : Nat) (b3 : Bool) (l3 : List (Bool × Int)) (av : Option Addr) (cv : Nat), Value.int .i64 ((j3 : Int) - 1) = .int .i64 (j3' : Int) ∧ l3.length = k3' ∧ j3' + k3' = n6 ∧ RS w0 g body ab nb cb a3 b3 (v6.setCell ⟨gm, 17, none⟩ (.slice a6 (k3 + 1) c6)) ∧ Blk (v6.setCell ⟨gm, 17, none⟩ (.slice a6 (k3 + 1) c6)) gm 50 (cellsM (eqM m i1 l l2 l3) (eqP q an cn al cl av cv)) ∧ (v6.setCell ⟨gm, 17, none⟩ (.slice a6 (k3 + 1) c6)).ownsRow W 89 2 (.slice an k cn) k (ncells l) ∧ (v6.setCell ⟨gm, 17, none⟩ (.slice a6 (k3 + 1) c6)).ownsRow W 3 1 (.slice al k2 cl) k2 (zcells l2) ∧ (v6.setCell ⟨gm, 17, none⟩ (.slice a6 (k3 + 1) c6)).ownsRow W 74 2 (.slice av k3' cv) k3' (vcells l3) ∧ Gr2 g gm w (v6.setCell ⟨gm, 17, none⟩ (.slice a6 (k3 + 1) c6)) ∧ (∀ z ∈ l3, vVal z) ∧
                          SP (fun l : List (Bool × Int) => l.flatMap encVal) (vL vVal k3') body at6 b6 a3 b3 l3 ∧ ((Value.slice an k cn).ownBlock = none ∨ (Value.slice an k cn).ownBlock ≠ (Value.slice av k3' cv).ownBlock) ∧ ((Value.slice al k2 cl).ownBlock = none ∨ (Value.slice al k2 cl).ownBlock ≠ (Value.slice av k3' cv).ownBlock) := by
                        refine ⟨j3 - 1, k3 + 1, at3, b3, l3 ++ [(false, 0)], a6, c6, by congr 1; omega, by rw [List.length_append, HLK3.out]; rfl, by omega, rs_gm HC.out hrs6 hs6.2, hbk7, hon7, hol7, hov7, hgr6.trans (Gr2.ofm g hs6.2), fun z hz => ?_, HSP.out.push HSV.out udVal, HAP6.out, HAP26.out⟩
                        rcases List.mem_append.1 hz with hz | hz
                        · exact HALL3.out z hz
                        · simp at hz
                          subst hz
                          exact ⟨HI.out, fun h => by first | rfl | cases h⟩
                      have HR := Lib.hid hR
                      clear hs6 hc hbk7 hrs6 hgr6 hon7 hol7 hov7 hR
                    all_goals go_wp2
                    all_goals go_roundw
                    all_goals first | exact HR.out | (simp [intOf]; omega)

                  · have hb3 : b3 = false := by
                      cases b3
                      · rfl
                      · exact absurd (hz3 rfl) (by decide)
                    subst hb3
                    have HSP3 := Lib.hid hsp3
                    have hrsA : RS w0 g body ab nb cb at3 false (v3.alloc (.cells #[.bool true, .int .i64 0] 74)) := ⟨hrs3.1.alloc _, hrs3.2.1, hrs3.2.2.alloc hrs3.2.2.size _⟩
                    have HRA := Lib.hid hrsA
                    have HKA := Lib.hid (hbk3.alloc (.cells #[.bool true, .int .i64 0] 74))
                    have HBA := Lib.hid (Blk.new v3 [.bool true, .int .i64 0] 74)
                    have HGA := Lib.hid (Gr2.ofg gm (grown_alloc v3 (.cells #[.bool true, .int .i64 0] 74) (some g)))
                    clear hrs3 hbk3 hsp3 hst3 hg3 hz3 hrsA
                    go_wp2_with fail
                    refine (rd_int HC.out.rc HRA.out).mono ?_
                    rintro e v5 ⟨x, at5, b5, rfl, hI, hrs5, hg5, hz5, hst5⟩
                    have hne3 : v3.heap.size ≠ g := by omega
                    have hb5 : Blk v5 v3.heap.size 74 [.bool true, .int .i64 0] := blk_g hne3 HBA.out hg5
                    have hbk5 := blk_g HC.out.ne HKA.out hg5
                    have hG5 := HGA.out.trans (Gr2.ofg gm hg5)
                    have hs7 := hb5.setCell 1 (.int .i64 x)
                    have hB7 : Below v3.heap.size v5 (v5.setCell ⟨v3.heap.size, 1, none⟩ (.int .i64 x)) := below_of3 hs7.2 (Nat.le_refl _) hG5.size
                    have hcN : v5.cell? ⟨v3.heap.size, 1, none⟩ = some (.int .i64 0) := hb5.cell 1 (by simp)
                    have hcK : v5.cell? ⟨v3.heap.size, 0, none⟩ = some (.bool true) := hb5.cell 0 (by simp)
                    have hfN := hb5.frozen 1
                    have HSV := Lib.hid (sp_val_true HSP3.out (sp_int hI hst5) rfl)
                    have HI := Lib.hid (show I64 x from hI)
                    obtain ⟨V, hV⟩ : ∃ V, V = v5.setCell ⟨v3.heap.size, 1, none⟩ (.int .i64 x) := ⟨_, rfl⟩
                    rw [← hV] at hB7 hs7
                    have HBV : Hid (Blk V v3.heap.size 74 [.bool true, .int .i64 x]) := Lib.hid hs7.1
                    have HKV : Hid (Blk V gm 50 (cellsM (eqM m i1 l l2 l3) (eqP q an cn al cl av cv))) := Lib.hid (hbk5.low hB7 (by omega))
                    have HRV : Hid (RS w0 g body ab nb cb at5 b5 V) := Lib.hid (hrs5.low hB7 (by omega) (by omega))
                    have HGV : Hid (Gr2 g gm v3 V) := Lib.hid (hG5.low hB7)
                    clear HRA HKA HBA HGA HSP3 hst5 hg5 hz5 hI hb5 hbk5 hG5 hs7 hB7 hrs5
                    go_upto_region 16 with fail
                    rw [← hV]
                    clear hV hcN hfN hcK hne3
                    have hc0 : V.cell? ⟨v3.heap.size, 0, none⟩ = some (.bool true) := HBV.out.cell 0 (by simp)
                    have hc1 : V.cell? ⟨v3.heap.size, 1, none⟩ = some (.int .i64 x) := HBV.out.cell 1 (by simp)
                    have hcellB : V.cell? ⟨gm, 17, none⟩ = some (.slice av k3 cv) := by
                      rw [← HLK3.out]
                      exact HKV.out.cell 17 (by rw [cellsM_len]; omega)
                    have hcellA : (V.alloc (.cells #[.bool true, .int .i64 x] 74)).cell? ⟨gm, 17, none⟩ = some (.slice av k3 cv) := by
                      rw [← HLK3.out]
                      exact (HKV.out.alloc _).cell 17 (by rw [cellsM_len]; omega)
                    have HGRV := HGR3.out.trans HGV.out
                    have HON : Hid (V.drew.ownsRow W 89 2 (.slice an k cn) k (ncells l)) := Lib.hid (show V.ownsRow W 89 2 (.slice an k cn) k (ncells l) from own2 HON3.out HGV.out hgl hgml)
                    have HOL : Hid (V.drew.ownsRow W 3 1 (.slice al k2 cl) k2 (zcells l2)) := Lib.hid (show V.ownsRow W 3 1 (.slice al k2 cl) k2 (zcells l2) from own2 HOL3.out HGV.out hgl hgml)
                    have HOV : Hid (V.drew.ownsRow W 74 2 (.slice av k3 cv) k3 (vcells l3)) := Lib.hid (show V.ownsRow W 74 2 (.slice av k3 cv) k3 (vcells l3) from own2 HOV3.out HGV.out hgl hgml)
                    have HGD : Hid (Gr2 g gm w V.drew) := Lib.hid ⟨HGRV.os, HGRV.tape, HGRV.output, HGRV.size, HGRV.block⟩
                    have HKD : Hid (Blk V.drew gm 50 (cellsM (eqM m i1 l l2 l3) (eqP q an cn al cl av cv))) := HKV
                    have HBD : Hid (Blk V.drew v3.heap.size 74 [.bool true, .int .i64 x]) := HBV
                    have HRD := Lib.hid HRV.out.drew
                    have HWD : Hid (W ≤ (V.drew.alloc (.cells #[.bool true, .int .i64 x] 74)).heap.size) := Lib.hid (by rw [World.size_alloc, HWE.out]; have := HGD.out.size; omega)
                    clear HGRV HGR3 HGV HKV HRV HON3 HOL3 HOV3 HBV
                    go_region_law (refine step_app_rd rfl _ _ 42 rfl W 74 (.agg #[.bool false, .int .i64 0]) 2 16 Try.underlying42 info74 rfl (by decide) (.slice av k3 cv) k3 (vcells l3) rfl ?_ (some ⟨V.heap.size, 0, none⟩) 1 1 (vcells [(true, x)]) rfl rfl ?_ (vcells_one _) (by unfold maxLen; omega) (by omega) ?_ ?_; exact HOV.out.alloc _; exact (Blk.new V.drew [.bool true, .int .i64 x] 74).rd; exact HWD.out; intro a6 c6 v6 hown6 hb6 hm6; (have hbk6 := (HKD.out.alloc (.cells #[.bool true, .int .i64 x] 74)).low hb6 hgml); (have hcell6 := hbk6.cell 17 (by rw [cellsM_len]; omega)); (have hfr6 := hbk6.frozen 17); (obtain ⟨y6, hy6⟩ : ∃ y, y = (cellsM (eqM m i1 l l2 l3) (eqP q an cn al cl av cv))[17]'(by rw [cellsM_len]; omega) := ⟨_, rfl⟩); rw [← hy6] at hcell6; (have HBK6 := Lib.hid hbk6); (have HOV6 := Lib.hid hown6); (have HON6 := Lib.hid (hm6.kept (HON.out.alloc (.cells #[.bool true, .int .i64 x] 74)) HAP.out)); (have HOL6 := Lib.hid (hm6.kept (HOL.out.alloc (.cells #[.bool true, .int .i64 x] 74)) HAP2.out)); (have HAP6 := Lib.hid (hm6.apart (HON.out.alloc (.cells #[.bool true, .int .i64 x] 74)) HAP.out)); (have HAP26 := Lib.hid (hm6.apart (HOL.out.alloc (.cells #[.bool true, .int .i64 x] 74)) HAP2.out)); (have HB6 := Lib.hid hb6); clear hy6 hbk6 hown6 hb6 hm6)
                    all_goals go_wp2
                    all_goals
                      have hs6 := HBK6.out.setCell 17 (.slice a6 (k3 + 1) c6)
                      have hc := cells_val m i1 l l2 l3 (true, x) q an cn al cl av cv a6 c6
                      rw [HLK3.out] at hc
                      have hbk7 := hs6.1
                      rw [show (cellsM (eqM m i1 l l2 l3) (eqP q an cn al cl av cv)).set 17 (.slice a6 (k3 + 1) c6) = cellsM (eqM m i1 l l2 (l3 ++ [(true, x)])) (eqP q an cn al cl a6 c6) from hc] at hbk7
                      have hrs6 := (show RS w0 g body ab nb cb at5 b5 (V.drew.alloc (.cells #[.bool true, .int .i64 x] 74)) from ⟨HRD.out.1.alloc _, HRD.out.2.1, HRD.out.2.2.alloc HRD.out.2.2.size _⟩).low HB6.out hgl h0l
                      have hgr6 := (HGD.out.trans (Gr2.ofg gm (grown_alloc V.drew (.cells #[.bool true, .int .i64 x] 74) (some g)))).low (HWE.out ▸ HB6.out)
                      have hon7 := own2 HON6.out (Gr2.ofm g hs6.2) hgl hgml
                      have hol7 := own2 HOL6.out (Gr2.ofm g hs6.2) hgl hgml
                      have hov7 := own2 HOV6.out (Gr2.ofm g hs6.2) hgl hgml
                      rw [show vcells l3 ++ vcells [(true, x)] = vcells (l3 ++ [(true, x)]) by simp [vcells]] at hov7
                      have hR : ∃ (j3' k3' a3 : Nat) (b3 : Bool) (l3 : List (Bool × Int)) (av : Option Addr) (cv : Nat), Value.int .i64 ((j3 : Int) - 1) = .int .i64 (j3' : Int) ∧ l3.length = k3' ∧ j3' + k3' = n6 ∧ RS w0 g body ab nb cb a3 b3 (v6.setCell ⟨gm, 17, none⟩ (.slice a6 (k3 + 1) c6)) ∧ Blk (v6.setCell ⟨gm, 17, none⟩ (.slice a6 (k3 + 1) c6)) gm 50 (cellsM (eqM m i1 l l2 l3) (eqP q an cn al cl av cv)) ∧ (v6.setCell ⟨gm, 17, none⟩ (.slice a6 (k3 + 1) c6)).ownsRow W 89 2 (.slice an k cn) k (ncells l) ∧ (v6.setCell ⟨gm, 17, none⟩ (.slice a6 (k3 + 1) c6)).ownsRow W 3 1 (.slice al k2 cl) k2 (zcells l2) ∧ (v6.setCell ⟨gm, 17, none⟩ (.slice a6 (k3 + 1) c6)).ownsRow W 74 2 (.slice av k3' cv) k3' (vcells l3) ∧ Gr2 g gm w (v6.setCell ⟨gm, 17, none⟩ (.slice a6 (k3 + 1) c6)) ∧ (∀ z ∈ l3, vVal z) ∧
                          SP (fun l : List (Bool × Int) => l.flatMap encVal) (vL vVal k3') body at6 b6 a3 b3 l3 ∧ ((Value.slice an k cn).ownBlock = none ∨ (Value.slice an k cn).ownBlock ≠ (Value.slice av k3' cv).ownBlock) ∧ ((Value.slice al k2 cl).ownBlock = none ∨ (Value.slice al k2 cl).ownBlock ≠ (Value.slice av k3' cv).ownBlock) := by
                        refine ⟨j3 - 1, k3 + 1, at5, b5, l3 ++ [(true, x)], a6, c6, by congr 1; omega, by rw [List.length_append, HLK3.out]; rfl, by omega, rs_gm HC.out hrs6 hs6.2, hbk7, hon7, hol7, hov7, hgr6.trans (Gr2.ofm g hs6.2), fun z hz => ?_, HSP.out.push HSV.out udVal, HAP6.out, HAP26.out⟩
                        rcases List.mem_append.1 hz with hz | hz
                        · exact HALL3.out z hz
                        · simp at hz
                          subst hz
                          exact ⟨HI.out, fun h => by first | rfl | cases h⟩
                      have HR := Lib.hid hR
                      clear hs6 hc hbk7 hrs6 hgr6 hon7 hol7 hov7 hR
                    all_goals go_wp2
                    all_goals go_roundw
                    all_goals first | exact HR.out | (simp [intOf]; omega)

                · have hfin : SP (eC (eC (eC bytesI encName) bytesI) encVal) (vC (vC (vC I64 vName) I64) vVal) body at_ bad a3 b3 (((i1, l), l2), l3) := by
                    cases b3 with
                    | true => exact SP.count HFIN2.out HST6.out (by omega) (HSP.out.more (n := n6) (by omega)) (udC (udC udI udName) udI) val_pos
                    | false =>
                      have hkn : k3 = n6 := by
                        by_cases h0 : 0 < j3
                        · exact (hgo ⟨h0, rfl⟩).elim
                        · omega
                      have h5 := HSP.out
                      rw [hkn] at h5
                      exact SP.count HFIN2.out HST6.out (by omega) h5 (udC (udC udI udName) udI) val_pos
                  have hex : j3 = 0 ∨ ((0 : Int) < j3 ∧ b3 = true) := by
                    by_cases h0 : j3 = 0
                    · exact .inl h0
                    · cases b3
                      · exact (hgo ⟨by omega, rfl⟩).elim
                      · exact .inr ⟨by omega, rfl⟩
                  have hk3b : k3 ≤ nb := by omega
                  have hend : FPost "sluice/wire.match" w0 g gm base body ab nb cb at_ bad m w (.returned (.tuple #[])) wr := by
                    have hW := HWE.out
                    have hle := HH.out.le
                    have h2 := HOWN.out
                    have h3 := HOW2.out
                    have h4 := HOW3.out
                    rw [← HLK.out] at h2
                    rw [← HLK2.out] at h3
                    rw [← HLK3.out] at h4
                    have hv := HH.out.vx
                    refine ⟨eqM m i1 l l2 l3, eqP q an cn al cl av cv, a3, b3, rfl, ⟨HRS.out, HBK.out, ⟨own_low h2 (by omega), own_low h3 (by omega), own_low h4 (by omega), own2 HH.out.own.2.2.2 HGR.out HC.out.g1 HC.out.gm1⟩, ?_, Nat.le_trans HH.out.le HGR.out.size⟩, HGR.out, rfl, ?_⟩
                    · refine ⟨{ hv.1 with dec := HI1.out, names := HALL.out, lens := HALL2.out, vals := fun z hz => (HALL3.out z hz).1, nl := ?_, ll := ?_, vl := ?_ }, hv.2.1, fun z hz => (HALL3.out z hz).2⟩
                      · show l.length ≤ 1073741824
                        rw [HLK.out]; omega
                      · show l2.length ≤ 1073741824
                        rw [HLK2.out]; omega
                      · show l3.length ≤ 1073741824
                        rw [HLK3.out]; omega
                    · refine hfin.verdict _ _ (fun x => (((x.dec, x.names), x.lens), x.vals)) rfl (fun y => ?_) (fun y hy => ?_)
                      · show encMatch y = _
                        simp only [encMatch, encNames, encLens, encVals, eC, List.append_assoc]
                      · have h1 := hy.1.nl
                        have h2 := hy.1.ll
                        have h3 := hy.1.vl
                        exact ⟨⟨⟨hy.1.dec, by show y.names.length < _; omega, hy.1.names⟩, by show y.lens.length < _; omega, hy.1.lens⟩, by show y.vals.length < _; omega, fun z hz => ⟨hy.1.vals z hz, hy.2.2 z hz⟩⟩
                  have HF := Lib.hid hend
                  clear hfin hgo hjk3 hn6 HST6 HFIN2 HSP hend
                  rcases hex with hex | ⟨hj3, hex⟩
                  · subst hex
                    go_wp2
                    go_end0
                    exact HF.out
                  · subst hex
                    go_wp2
                    go_end0
                    exact HF.out

            · subst hex
              go_wp2_with fail
              refine (rd_count HC.out.rc HRS.out).mono ?_
              rintro e w6 ⟨n6, at6, b6, rfl, hn6, hrs6, hg6, hz6, hst6⟩
              have hk6 := blk_g HC.out.ne HBK.out hg6
              have hgr6 := HGR.out.trans (Gr2.ofg gm hg6)
              have hon6 := own2 HOWN.out (Gr2.ofg gm hg6) hgl hgml
              have hol6 := own2 HOW2.out (Gr2.ofg gm hg6) hgl hgml
              have HST6 := Lib.hid hst6
              obtain ⟨_, _, c6, _, _⟩ := hrs6.cells
              clear hst6 hz6 hg6 HRS HBK HGR HOWN HOW2 HAP
              go_wp2_with fail
              go_loopw [7] (fun v wr => ∃ (j3 k3 a3 : Nat) (b3 : Bool) (l3 : List (Bool × Int)) (av : Option Addr) (cv : Nat), v = .int .i64 (j3 : Int) ∧ l3.length = k3 ∧ j3 + k3 = n6 ∧ RS w0 g body ab nb cb a3 b3 wr ∧ Blk wr gm 50 (cellsM (eqM m i1 l l2 l3) (eqP q an cn al cl av cv)) ∧ wr.ownsRow W 89 2 (.slice an k cn) k (ncells l) ∧ wr.ownsRow W 3 1 (.slice al k2 cl) k2 (zcells l2) ∧ wr.ownsRow W 74 2 (.slice av k3 cv) k3 (vcells l3) ∧ Gr2 g gm w wr ∧ (∀ z ∈ l3, vVal z) ∧
                SP (fun l : List (Bool × Int) => l.flatMap encVal) (vL vVal k3) body at6 b6 a3 b3 l3 ∧ ((Value.slice an k cn).ownBlock = none ∨ (Value.slice an k cn).ownBlock ≠ (Value.slice av k3 cv).ownBlock) ∧ ((Value.slice al k2 cl).ownBlock = none ∨ (Value.slice al k2 cl).ownBlock ≠ (Value.slice av k3 cv).ownBlock)) (fun v _ => (intOf v).toNat)
              case atStart => exact ⟨n6, 0, at6, b6, [], none, 0, rfl, rfl, rfl, hrs6, hk6, hon6, hol6, World.ownsRow_nil _ _ _ _, hgr6, fun z hz => by simp at hz, SP.none_yet _ _ _ _ _, by cases an <;> simp [Value.ownBlock], by cases al <;> simp [Value.ownBlock]⟩
              case round =>
                clear hrs6 hk6 hgr6 c6 hon6 hol6
                obtain ⟨j3, k3, a3, b3, l3, av, cv, rfl, hlk3, hjk3, hrs, hbk, hown, hown2, hown3, hgr, hall3, hsp, hap, hap2⟩ := hrel
                obtain ⟨_, _, c6, _, _⟩ := hrs.cells
                have HLK3 := Lib.hid hlk3
                have HRS := Lib.hid hrs
                have HBK := Lib.hid hbk
                have HOWN := Lib.hid hown
                have HOW2 := Lib.hid hown2
                have HOW3 := Lib.hid hown3
                have HGR := Lib.hid hgr
                have HALL3 := Lib.hid hall3
                have HSP := Lib.hid hsp
                have HAP := Lib.hid hap
                have HAP2 := Lib.hid hap2
                clear hlk3 hrs hbk hown hown2 hown3 hgr hall3 hsp hap hap2
                by_cases hgo : 0 < j3 ∧ b3 = false
                · obtain ⟨hj0, rfl⟩ := hgo
                  have hj1 : (0 : Int) < j3 := by omega
                  go_wp2_with fail
                  refine (rd_truth HC.out.rc HRS.out).mono ?_
                  rintro e v3 ⟨t3, at3, b3, rfl, hrs3, hg3, hz3, hst3⟩
                  have hbk3 := blk_g HC.out.ne HBK.out hg3
                  have hgr3 := HGR.out.trans (Gr2.ofg gm hg3)
                  have hon3 := own2 HOWN.out (Gr2.ofg gm hg3) hgl hgml
                  have hol3 := own2 HOW2.out (Gr2.ofg gm hg3) hgl hgml
                  have hov3 := own2 HOW3.out (Gr2.ofg gm hg3) hgl hgml
                  have hsp3 := sp_truth hst3
                  have hszW : W ≤ v3.heap.size := by rw [HWE.out]; exact hgr3.size
                  have HGR3 := Lib.hid hgr3
                  have HON3 := Lib.hid hon3
                  have HOL3 := Lib.hid hol3
                  have HOV3 := Lib.hid hov3
                  clear hgr3 hon3 hol3 hov3
                  cases t3
                  · have HSV := Lib.hid (sp_val_false hsp3)
                    have hI : I64 (0 : Int) := by unfold I64; omega
                    have HI := Lib.hid hI
                    have HRS3 := Lib.hid hrs3
                    clear hsp3 hst3 hg3 hz3 hI
                    obtain ⟨V, hV⟩ : ∃ V, V = v3.alloc (.cells #[.bool false, .int .i64 0] 74) := ⟨_, rfl⟩
                    have HBV : Hid (Blk V v3.heap.size 74 [.bool false, .int .i64 0]) := Lib.hid (hV ▸ Blk.new v3 [.bool false, .int .i64 0] 74)
                    have HKV : Hid (Blk V gm 50 (cellsM (eqM m i1 l l2 l3) (eqP q an cn al cl av cv))) := Lib.hid (hV ▸ hbk3.alloc _)
                    have HRV : Hid (RS w0 g body ab nb cb at3 b3 V) := Lib.hid (hV ▸ ⟨HRS3.out.1.alloc _, HRS3.out.2.1, HRS3.out.2.2.alloc HRS3.out.2.2.size _⟩)
                    have HGV : Hid (Gr2 g gm v3 V) := Lib.hid (hV ▸ Gr2.ofg gm (grown_alloc v3 _ (some g)))
                    clear hrs3 hbk3
                    go_upto_region 16 with fail
                    rw [← hV]
                    clear hV HRS3
                    have hc0 : V.cell? ⟨v3.heap.size, 0, none⟩ = some (.bool false) := HBV.out.cell 0 (by simp)
                    have hc1 : V.cell? ⟨v3.heap.size, 1, none⟩ = some (.int .i64 0) := HBV.out.cell 1 (by simp)
                    have hcellB : V.cell? ⟨gm, 17, none⟩ = some (.slice av k3 cv) := by
                      rw [← HLK3.out]
                      exact HKV.out.cell 17 (by rw [cellsM_len]; omega)
                    have hcellA : (V.alloc (.cells #[.bool false, .int .i64 0] 74)).cell? ⟨gm, 17, none⟩ = some (.slice av k3 cv) := by
                      rw [← HLK3.out]
                      exact (HKV.out.alloc _).cell 17 (by rw [cellsM_len]; omega)
                    have HGRV := HGR3.out.trans HGV.out
                    have HON : Hid (V.drew.ownsRow W 89 2 (.slice an k cn) k (ncells l)) := Lib.hid (show V.ownsRow W 89 2 (.slice an k cn) k (ncells l) from own2 HON3.out HGV.out hgl hgml)
                    have HOL : Hid (V.drew.ownsRow W 3 1 (.slice al k2 cl) k2 (zcells l2)) := Lib.hid (show V.ownsRow W 3 1 (.slice al k2 cl) k2 (zcells l2) from own2 HOL3.out HGV.out hgl hgml)
                    have HOV : Hid (V.drew.ownsRow W 74 2 (.slice av k3 cv) k3 (vcells l3)) := Lib.hid (show V.ownsRow W 74 2 (.slice av k3 cv) k3 (vcells l3) from own2 HOV3.out HGV.out hgl hgml)
                    have HGD : Hid (Gr2 g gm w V.drew) := Lib.hid ⟨HGRV.os, HGRV.tape, HGRV.output, HGRV.size, HGRV.block⟩
                    have HKD : Hid (Blk V.drew gm 50 (cellsM (eqM m i1 l l2 l3) (eqP q an cn al cl av cv))) := HKV
                    have HBD : Hid (Blk V.drew v3.heap.size 74 [.bool false, .int .i64 0]) := HBV
                    have HRD := Lib.hid HRV.out.drew
                    have HWD : Hid (W ≤ (V.drew.alloc (.cells #[.bool false, .int .i64 0] 74)).heap.size) := Lib.hid (by rw [World.size_alloc, HWE.out]; have := HGD.out.size; omega)
                    clear HGRV HGR3 HGV HKV HRV HON3 HOL3 HOV3 HBV
                    go_region_law (refine step_app_rd rfl _ _ 42 rfl W 74 (.agg #[.bool false, .int .i64 0]) 2 16 Try.underlying42 info74 rfl (by decide) (.slice av k3 cv) k3 (vcells l3) rfl ?_ (some ⟨V.heap.size, 0, none⟩) 1 1 (vcells [(false, 0)]) rfl rfl ?_ (vcells_one _) (by unfold maxLen; omega) (by omega) ?_ ?_; exact HOV.out.alloc _; exact (Blk.new V.drew [.bool false, .int .i64 0] 74).rd; exact HWD.out; intro a6 c6 v6 hown6 hb6 hm6; (have hbk6 := (HKD.out.alloc (.cells #[.bool false, .int .i64 0] 74)).low hb6 hgml); (have hcell6 := hbk6.cell 17 (by rw [cellsM_len]; omega)); (have hfr6 := hbk6.frozen 17); (obtain ⟨y6, hy6⟩ : ∃ y, y = (cellsM (eqM m i1 l l2 l3) (eqP q an cn al cl av cv))[17]'(by rw [cellsM_len]; omega) := ⟨_, rfl⟩); rw [← hy6] at hcell6; (have HBK6 := Lib.hid hbk6); (have HOV6 := Lib.hid hown6); (have HON6 := Lib.hid (hm6.kept (HON.out.alloc (.cells #[.bool false, .int .i64 0] 74)) HAP.out)); (have HOL6 := Lib.hid (hm6.kept (HOL.out.alloc (.cells #[.bool false, .int .i64 0] 74)) HAP2.out)); (have HAP6 := Lib.hid (hm6.apart (HON.out.alloc (.cells #[.bool false, .int .i64 0] 74)) HAP.out)); (have HAP26 := Lib.hid (hm6.apart (HOL.out.alloc (.cells #[.bool false, .int .i64 0] 74)) HAP2.out)); (have HB6 := Lib.hid hb6); clear hy6 hbk6 hown6 hb6 hm6)
                    all_goals go_wp2
                    all_goals
                      have hs6 := HBK6.out.setCell 17 (.slice a6 (k3 + 1) c6)
                      have hc := cells_val m i1 l l2 l3 (false, 0) q an cn al cl av cv a6 c6
                      rw [HLK3.out] at hc
                      have hbk7 := hs6.1
                      rw [show (cellsM (eqM m i1 l l2 l3) (eqP q an cn al cl av cv)).set 17 (.slice a6 (k3 + 1) c6) = cellsM (eqM m i1 l l2 (l3 ++ [(false, 0)])) (eqP q an cn al cl a6 c6) from hc] at hbk7
                      have hrs6 := (show RS w0 g body ab nb cb at3 b3 (V.drew.alloc (.cells #[.bool false, .int .i64 0] 74)) from ⟨HRD.out.1.alloc _, HRD.out.2.1, HRD.out.2.2.alloc HRD.out.2.2.size _⟩).low HB6.out hgl h0l
                      have hgr6 := (HGD.out.trans (Gr2.ofg gm (grown_alloc V.drew (.cells #[.bool false, .int .i64 0] 74) (some g)))).low (HWE.out ▸ HB6.out)
                      have hon7 := own2 HON6.out (Gr2.ofm g hs6.2) hgl hgml
                      have hol7 := own2 HOL6.out (Gr2.ofm g hs6.2) hgl hgml
                      have hov7 := own2 HOV6.out (Gr2.ofm g hs6.2) hgl hgml
                      rw [show vcells l3 ++ vcells [(false, 0)] = vcells (l3 ++ [(false, 0)]) by simp [vcells]] at hov7
                      have hR : ∃ (j3' k3' a3 : Nat) (b3 : Bool) (l3 : List (Bool × Int)) (av : Option Addr) (cv : Nat), Value.int .i64 ((j3 : Int) - 1) = .int .i64 (j3' : Int) ∧ l3.length = k3' ∧ j3' + k3' = n6 ∧ RS w0 g body ab nb cb a3 b3 (v6.setCell ⟨gm, 17, none⟩ (.slice a6 (k3 + 1) c6)) ∧ Blk (v6.setCell ⟨gm, 17, none⟩ (.slice a6 (k3 + 1) c6)) gm 50 (cellsM (eqM m i1 l l2 l3) (eqP q an cn al cl av cv)) ∧ (v6.setCell ⟨gm, 17, none⟩ (.slice a6 (k3 + 1) c6)).ownsRow W 89 2 (.slice an k cn) k (ncells l) ∧ (v6.setCell ⟨gm, 17, none⟩ (.slice a6 (k3 + 1) c6)).ownsRow W 3 1 (.slice al k2 cl) k2 (zcells l2) ∧ (v6.setCell ⟨gm, 17, none⟩ (.slice a6 (k3 + 1) c6)).ownsRow W 74 2 (.slice av k3' cv) k3' (vcells l3) ∧ Gr2 g gm w (v6.setCell ⟨gm, 17, none⟩ (.slice a6 (k3 + 1) c6)) ∧ (∀ z ∈ l3, vVal z) ∧
                          SP (fun l : List (Bool × Int) => l.flatMap encVal) (vL vVal k3') body at6 b6 a3 b3 l3 ∧ ((Value.slice an k cn).ownBlock = none ∨ (Value.slice an k cn).ownBlock ≠ (Value.slice av k3' cv).ownBlock) ∧ ((Value.slice al k2 cl).ownBlock = none ∨ (Value.slice al k2 cl).ownBlock ≠ (Value.slice av k3' cv).ownBlock) := by
                        refine ⟨j3 - 1, k3 + 1, at3, b3, l3 ++ [(false, 0)], a6, c6, by congr 1; omega, by rw [List.length_append, HLK3.out]; rfl, by omega, rs_gm HC.out hrs6 hs6.2, hbk7, hon7, hol7, hov7, hgr6.trans (Gr2.ofm g hs6.2), fun z hz => ?_, HSP.out.push HSV.out udVal, HAP6.out, HAP26.out⟩
                        rcases List.mem_append.1 hz with hz | hz
                        · exact HALL3.out z hz
                        · simp at hz
                          subst hz
                          exact ⟨HI.out, fun h => by first | rfl | cases h⟩
                      have HR := Lib.hid hR
                      clear hs6 hc hbk7 hrs6 hgr6 hon7 hol7 hov7 hR
                    all_goals go_wp2
                    all_goals go_roundw
                    all_goals first | exact HR.out | (simp [intOf]; omega)

                  · have hb3 : b3 = false := by
                      cases b3
                      · rfl
                      · exact absurd (hz3 rfl) (by decide)
                    subst hb3
                    have HSP3 := Lib.hid hsp3
                    have hrsA : RS w0 g body ab nb cb at3 false (v3.alloc (.cells #[.bool true, .int .i64 0] 74)) := ⟨hrs3.1.alloc _, hrs3.2.1, hrs3.2.2.alloc hrs3.2.2.size _⟩
                    have HRA := Lib.hid hrsA
                    have HKA := Lib.hid (hbk3.alloc (.cells #[.bool true, .int .i64 0] 74))
                    have HBA := Lib.hid (Blk.new v3 [.bool true, .int .i64 0] 74)
                    have HGA := Lib.hid (Gr2.ofg gm (grown_alloc v3 (.cells #[.bool true, .int .i64 0] 74) (some g)))
                    clear hrs3 hbk3 hsp3 hst3 hg3 hz3 hrsA
                    go_wp2_with fail
                    refine (rd_int HC.out.rc HRA.out).mono ?_
                    rintro e v5 ⟨x, at5, b5, rfl, hI, hrs5, hg5, hz5, hst5⟩
                    have hne3 : v3.heap.size ≠ g := by omega
                    have hb5 : Blk v5 v3.heap.size 74 [.bool true, .int .i64 0] := blk_g hne3 HBA.out hg5
                    have hbk5 := blk_g HC.out.ne HKA.out hg5
                    have hG5 := HGA.out.trans (Gr2.ofg gm hg5)
                    have hs7 := hb5.setCell 1 (.int .i64 x)
                    have hB7 : Below v3.heap.size v5 (v5.setCell ⟨v3.heap.size, 1, none⟩ (.int .i64 x)) := below_of3 hs7.2 (Nat.le_refl _) hG5.size
                    have hcN : v5.cell? ⟨v3.heap.size, 1, none⟩ = some (.int .i64 0) := hb5.cell 1 (by simp)
                    have hcK : v5.cell? ⟨v3.heap.size, 0, none⟩ = some (.bool true) := hb5.cell 0 (by simp)
                    have hfN := hb5.frozen 1
                    have HSV := Lib.hid (sp_val_true HSP3.out (sp_int hI hst5) rfl)
                    have HI := Lib.hid (show I64 x from hI)
                    obtain ⟨V, hV⟩ : ∃ V, V = v5.setCell ⟨v3.heap.size, 1, none⟩ (.int .i64 x) := ⟨_, rfl⟩
                    rw [← hV] at hB7 hs7
                    have HBV : Hid (Blk V v3.heap.size 74 [.bool true, .int .i64 x]) := Lib.hid hs7.1
                    have HKV : Hid (Blk V gm 50 (cellsM (eqM m i1 l l2 l3) (eqP q an cn al cl av cv))) := Lib.hid (hbk5.low hB7 (by omega))
                    have HRV : Hid (RS w0 g body ab nb cb at5 b5 V) := Lib.hid (hrs5.low hB7 (by omega) (by omega))
                    have HGV : Hid (Gr2 g gm v3 V) := Lib.hid (hG5.low hB7)
                    clear HRA HKA HBA HGA HSP3 hst5 hg5 hz5 hI hb5 hbk5 hG5 hs7 hB7 hrs5
                    go_upto_region 16 with fail
                    rw [← hV]
                    clear hV hcN hfN hcK hne3
                    have hc0 : V.cell? ⟨v3.heap.size, 0, none⟩ = some (.bool true) := HBV.out.cell 0 (by simp)
                    have hc1 : V.cell? ⟨v3.heap.size, 1, none⟩ = some (.int .i64 x) := HBV.out.cell 1 (by simp)
                    have hcellB : V.cell? ⟨gm, 17, none⟩ = some (.slice av k3 cv) := by
                      rw [← HLK3.out]
                      exact HKV.out.cell 17 (by rw [cellsM_len]; omega)
                    have hcellA : (V.alloc (.cells #[.bool true, .int .i64 x] 74)).cell? ⟨gm, 17, none⟩ = some (.slice av k3 cv) := by
                      rw [← HLK3.out]
                      exact (HKV.out.alloc _).cell 17 (by rw [cellsM_len]; omega)
                    have HGRV := HGR3.out.trans HGV.out
                    have HON : Hid (V.drew.ownsRow W 89 2 (.slice an k cn) k (ncells l)) := Lib.hid (show V.ownsRow W 89 2 (.slice an k cn) k (ncells l) from own2 HON3.out HGV.out hgl hgml)
                    have HOL : Hid (V.drew.ownsRow W 3 1 (.slice al k2 cl) k2 (zcells l2)) := Lib.hid (show V.ownsRow W 3 1 (.slice al k2 cl) k2 (zcells l2) from own2 HOL3.out HGV.out hgl hgml)
                    have HOV : Hid (V.drew.ownsRow W 74 2 (.slice av k3 cv) k3 (vcells l3)) := Lib.hid (show V.ownsRow W 74 2 (.slice av k3 cv) k3 (vcells l3) from own2 HOV3.out HGV.out hgl hgml)
                    have HGD : Hid (Gr2 g gm w V.drew) := Lib.hid ⟨HGRV.os, HGRV.tape, HGRV.output, HGRV.size, HGRV.block⟩
                    have HKD : Hid (Blk V.drew gm 50 (cellsM (eqM m i1 l l2 l3) (eqP q an cn al cl av cv))) := HKV
                    have HBD : Hid (Blk V.drew v3.heap.size 74 [.bool true, .int .i64 x]) := HBV
                    have HRD := Lib.hid HRV.out.drew
                    have HWD : Hid (W ≤ (V.drew.alloc (.cells #[.bool true, .int .i64 x] 74)).heap.size) := Lib.hid (by rw [World.size_alloc, HWE.out]; have := HGD.out.size; omega)
                    clear HGRV HGR3 HGV HKV HRV HON3 HOL3 HOV3 HBV
                    go_region_law (refine step_app_rd rfl _ _ 42 rfl W 74 (.agg #[.bool false, .int .i64 0]) 2 16 Try.underlying42 info74 rfl (by decide) (.slice av k3 cv) k3 (vcells l3) rfl ?_ (some ⟨V.heap.size, 0, none⟩) 1 1 (vcells [(true, x)]) rfl rfl ?_ (vcells_one _) (by unfold maxLen; omega) (by omega) ?_ ?_; exact HOV.out.alloc _; exact (Blk.new V.drew [.bool true, .int .i64 x] 74).rd; exact HWD.out; intro a6 c6 v6 hown6 hb6 hm6; (have hbk6 := (HKD.out.alloc (.cells #[.bool true, .int .i64 x] 74)).low hb6 hgml); (have hcell6 := hbk6.cell 17 (by rw [cellsM_len]; omega)); (have hfr6 := hbk6.frozen 17); (obtain ⟨y6, hy6⟩ : ∃ y, y = (cellsM (eqM m i1 l l2 l3) (eqP q an cn al cl av cv))[17]'(by rw [cellsM_len]; omega) := ⟨_, rfl⟩); rw [← hy6] at hcell6; (have HBK6 := Lib.hid hbk6); (have HOV6 := Lib.hid hown6); (have HON6 := Lib.hid (hm6.kept (HON.out.alloc (.cells #[.bool true, .int .i64 x] 74)) HAP.out)); (have HOL6 := Lib.hid (hm6.kept (HOL.out.alloc (.cells #[.bool true, .int .i64 x] 74)) HAP2.out)); (have HAP6 := Lib.hid (hm6.apart (HON.out.alloc (.cells #[.bool true, .int .i64 x] 74)) HAP.out)); (have HAP26 := Lib.hid (hm6.apart (HOL.out.alloc (.cells #[.bool true, .int .i64 x] 74)) HAP2.out)); (have HB6 := Lib.hid hb6); clear hy6 hbk6 hown6 hb6 hm6)
                    all_goals go_wp2
                    all_goals
                      have hs6 := HBK6.out.setCell 17 (.slice a6 (k3 + 1) c6)
                      have hc := cells_val m i1 l l2 l3 (true, x) q an cn al cl av cv a6 c6
                      rw [HLK3.out] at hc
                      have hbk7 := hs6.1
                      rw [show (cellsM (eqM m i1 l l2 l3) (eqP q an cn al cl av cv)).set 17 (.slice a6 (k3 + 1) c6) = cellsM (eqM m i1 l l2 (l3 ++ [(true, x)])) (eqP q an cn al cl a6 c6) from hc] at hbk7
                      have hrs6 := (show RS w0 g body ab nb cb at5 b5 (V.drew.alloc (.cells #[.bool true, .int .i64 x] 74)) from ⟨HRD.out.1.alloc _, HRD.out.2.1, HRD.out.2.2.alloc HRD.out.2.2.size _⟩).low HB6.out hgl h0l
                      have hgr6 := (HGD.out.trans (Gr2.ofg gm (grown_alloc V.drew (.cells #[.bool true, .int .i64 x] 74) (some g)))).low (HWE.out ▸ HB6.out)
                      have hon7 := own2 HON6.out (Gr2.ofm g hs6.2) hgl hgml
                      have hol7 := own2 HOL6.out (Gr2.ofm g hs6.2) hgl hgml
                      have hov7 := own2 HOV6.out (Gr2.ofm g hs6.2) hgl hgml
                      rw [show vcells l3 ++ vcells [(true, x)] = vcells (l3 ++ [(true, x)]) by simp [vcells]] at hov7
                      have hR : ∃ (j3' k3' a3 : Nat) (b3 : Bool) (l3 : List (Bool × Int)) (av : Option Addr) (cv : Nat), Value.int .i64 ((j3 : Int) - 1) = .int .i64 (j3' : Int) ∧ l3.length = k3' ∧ j3' + k3' = n6 ∧ RS w0 g body ab nb cb a3 b3 (v6.setCell ⟨gm, 17, none⟩ (.slice a6 (k3 + 1) c6)) ∧ Blk (v6.setCell ⟨gm, 17, none⟩ (.slice a6 (k3 + 1) c6)) gm 50 (cellsM (eqM m i1 l l2 l3) (eqP q an cn al cl av cv)) ∧ (v6.setCell ⟨gm, 17, none⟩ (.slice a6 (k3 + 1) c6)).ownsRow W 89 2 (.slice an k cn) k (ncells l) ∧ (v6.setCell ⟨gm, 17, none⟩ (.slice a6 (k3 + 1) c6)).ownsRow W 3 1 (.slice al k2 cl) k2 (zcells l2) ∧ (v6.setCell ⟨gm, 17, none⟩ (.slice a6 (k3 + 1) c6)).ownsRow W 74 2 (.slice av k3' cv) k3' (vcells l3) ∧ Gr2 g gm w (v6.setCell ⟨gm, 17, none⟩ (.slice a6 (k3 + 1) c6)) ∧ (∀ z ∈ l3, vVal z) ∧
                          SP (fun l : List (Bool × Int) => l.flatMap encVal) (vL vVal k3') body at6 b6 a3 b3 l3 ∧ ((Value.slice an k cn).ownBlock = none ∨ (Value.slice an k cn).ownBlock ≠ (Value.slice av k3' cv).ownBlock) ∧ ((Value.slice al k2 cl).ownBlock = none ∨ (Value.slice al k2 cl).ownBlock ≠ (Value.slice av k3' cv).ownBlock) := by
                        refine ⟨j3 - 1, k3 + 1, at5, b5, l3 ++ [(true, x)], a6, c6, by congr 1; omega, by rw [List.length_append, HLK3.out]; rfl, by omega, rs_gm HC.out hrs6 hs6.2, hbk7, hon7, hol7, hov7, hgr6.trans (Gr2.ofm g hs6.2), fun z hz => ?_, HSP.out.push HSV.out udVal, HAP6.out, HAP26.out⟩
                        rcases List.mem_append.1 hz with hz | hz
                        · exact HALL3.out z hz
                        · simp at hz
                          subst hz
                          exact ⟨HI.out, fun h => by first | rfl | cases h⟩
                      have HR := Lib.hid hR
                      clear hs6 hc hbk7 hrs6 hgr6 hon7 hol7 hov7 hR
                    all_goals go_wp2
                    all_goals go_roundw
                    all_goals first | exact HR.out | (simp [intOf]; omega)

                · have hfin : SP (eC (eC (eC bytesI encName) bytesI) encVal) (vC (vC (vC I64 vName) I64) vVal) body at_ bad a3 b3 (((i1, l), l2), l3) := by
                    cases b3 with
                    | true => exact SP.count HFIN2.out HST6.out (by omega) (HSP.out.more (n := n6) (by omega)) (udC (udC udI udName) udI) val_pos
                    | false =>
                      have hkn : k3 = n6 := by
                        by_cases h0 : 0 < j3
                        · exact (hgo ⟨h0, rfl⟩).elim
                        · omega
                      have h5 := HSP.out
                      rw [hkn] at h5
                      exact SP.count HFIN2.out HST6.out (by omega) h5 (udC (udC udI udName) udI) val_pos
                  have hex : j3 = 0 ∨ ((0 : Int) < j3 ∧ b3 = true) := by
                    by_cases h0 : j3 = 0
                    · exact .inl h0
                    · cases b3
                      · exact (hgo ⟨by omega, rfl⟩).elim
                      · exact .inr ⟨by omega, rfl⟩
                  have hk3b : k3 ≤ nb := by omega
                  have hend : FPost "sluice/wire.match" w0 g gm base body ab nb cb at_ bad m w (.returned (.tuple #[])) wr := by
                    have hW := HWE.out
                    have hle := HH.out.le
                    have h2 := HOWN.out
                    have h3 := HOW2.out
                    have h4 := HOW3.out
                    rw [← HLK.out] at h2
                    rw [← HLK2.out] at h3
                    rw [← HLK3.out] at h4
                    have hv := HH.out.vx
                    refine ⟨eqM m i1 l l2 l3, eqP q an cn al cl av cv, a3, b3, rfl, ⟨HRS.out, HBK.out, ⟨own_low h2 (by omega), own_low h3 (by omega), own_low h4 (by omega), own2 HH.out.own.2.2.2 HGR.out HC.out.g1 HC.out.gm1⟩, ?_, Nat.le_trans HH.out.le HGR.out.size⟩, HGR.out, rfl, ?_⟩
                    · refine ⟨{ hv.1 with dec := HI1.out, names := HALL.out, lens := HALL2.out, vals := fun z hz => (HALL3.out z hz).1, nl := ?_, ll := ?_, vl := ?_ }, hv.2.1, fun z hz => (HALL3.out z hz).2⟩
                      · show l.length ≤ 1073741824
                        rw [HLK.out]; omega
                      · show l2.length ≤ 1073741824
                        rw [HLK2.out]; omega
                      · show l3.length ≤ 1073741824
                        rw [HLK3.out]; omega
                    · refine hfin.verdict _ _ (fun x => (((x.dec, x.names), x.lens), x.vals)) rfl (fun y => ?_) (fun y hy => ?_)
                      · show encMatch y = _
                        simp only [encMatch, encNames, encLens, encVals, eC, List.append_assoc]
                      · have h1 := hy.1.nl
                        have h2 := hy.1.ll
                        have h3 := hy.1.vl
                        exact ⟨⟨⟨hy.1.dec, by show y.names.length < _; omega, hy.1.names⟩, by show y.lens.length < _; omega, hy.1.lens⟩, by show y.vals.length < _; omega, fun z hz => ⟨hy.1.vals z hz, hy.2.2 z hz⟩⟩
                  have HF := Lib.hid hend
                  clear hfin hgo hjk3 hn6 HST6 HFIN2 HSP hend
                  rcases hex with hex | ⟨hj3, hex⟩
                  · subst hex
                    go_wp2
                    go_end0
                    exact HF.out
                  · subst hex
                    go_wp2
                    go_end0
                    exact HF.out

end Go.Proofs.Ytaipnbpefdcejaa
