/- The reference's Cursor: its small methods. -/
import Derived.Test.YtaipnbpefdcejaaMF
import Derived.Test.YtaipnbpefdcejaaQC
import Derived.StillTailTactics
import Derived.Deep.QuietTactic
set_option linter.unusedVariables false
namespace Go.Proofs.Ytaipnbpefdcejaa
open Go.RowKit
/-- The cursor in block g: its bytes, its place. -/
def CS (w0 : World) (g : Nat) (body : List UInt8) (ab : Option Addr) (nb cb at_ : Nat) (w : World) : Prop :=
  Blk w g 95 [.slice ab nb cb, .int .i64 (at_ : Int)] ∧ at_ ≤ nb ∧ Below w0.heap.size w0 w
/-- If the bytes ahead are those of a value, this is it, and the place is behind them. -/
def Got {α : Type} (body : List UInt8) (at_ a2 : Nat) (e : α → List UInt8) (V : α → List UInt8 → Prop) (v : α) : Prop := ∀ v' r, V v' r → body.drop at_ = e v' ++ r → v = v' ∧ body.drop a2 = r
theorem CS.cells {w0 : World} {g : Nat} {body : List UInt8} {ab : Option Addr} {nb cb at_ : Nat} {w : World} (h : CS w0 g body ab nb cb at_ w) :
    w.cell? ⟨g, 0, none⟩ = some (.slice ab nb cb) ∧ w.cell? ⟨g, 1, none⟩ = some (.int .i64 (at_ : Int)) ∧ w.frozen? ⟨g, 1, none⟩ = false :=
  ⟨h.1.cell 0 (by simp), h.1.cell 1 (by simp), h.1.frozen 1⟩
theorem CS.setAt {w0 : World} {g : Nat} {body : List UInt8} {ab : Option Addr} {nb cb at_ : Nat} {w : World} (hc : RC w0 g body ab nb cb) (h : CS w0 g body ab nb cb at_ w) (a2 : Nat) (ha : a2 ≤ nb) :
    CS w0 g body ab nb cb a2 (w.setCell ⟨g, 1, none⟩ (.int .i64 (a2 : Int))) ∧ w.grownBy (w.setCell ⟨g, 1, none⟩ (.int .i64 (a2 : Int))) (some g) := by
  have h1 := h.1.setCell 1 (.int .i64 (a2 : Int))
  exact ⟨⟨h1.1, ha, h.2.2.grown h1.2 h.2.2.size (fun k hk => by cases hk; exact hc.base)⟩, h1.2⟩
theorem CS.drew {w0 : World} {g : Nat} {body : List UInt8} {ab : Option Addr} {nb cb at_ : Nat} {w : World} (h : CS w0 g body ab nb cb at_ w) : CS w0 g body ab nb cb at_ w.drew := ⟨h.1, h.2.1, h.2.2.drew⟩
theorem CS.below {w0 : World} {g : Nat} {body : List UInt8} {ab : Option Addr} {nb cb at_ : Nat} {w w' : World} (h : CS w0 g body ab nb cb at_ w) (hb : Below w.heap.size w w') : CS w0 g body ab nb cb at_ w' :=
  ⟨h.1.below hb, h.2.1, h.2.2.trans (hb.mono h.2.2.size)⟩
theorem grown_below {w w' : World} {r : Option Nat} (h : Below w.heap.size w w') : w.grownBy w' r := ⟨h.os, h.tape, h.output, h.size, fun k hk _ => h.block k hk⟩
def CuPost {α : Type} (e : α → List UInt8) (V : α → List UInt8 → Prop) (val : α → Value) (wf : α → Prop) (w0 : World) (g : Nat) (body : List UInt8) (ab : Option Addr) (nb cb at_ : Nat) (w : World) (en : Ending) (w' : World) : Prop :=
  ∃ (v : α) (a2 : Nat), en = .returned (val v) ∧ wf v ∧ CS w0 g body ab nb cb a2 w' ∧ w.grownBy w' (some g) ∧ Got body at_ a2 e V v
section
variable {P : Program} {ops : Array Oper} {C : World → Prop} {Q : Act → Prop} {a : Act} {o : Oper} {rest : List Oper}
theorem qc_nil (hg : o.guard = none) (x : Operand) (ho : o.op = .nilCheck x) (b off : Nat) (hx : a.eval x = .pointer (some ⟨b, off, none⟩)) (h : wpQuiet P ops C Q rest (a.put o.dst (.pointer (some ⟨b, off, none⟩)))) : wpQuiet P ops C Q (o :: rest) a := by
  refine qc_value hg _ (fun w _ => ?_) h
  unfold execOp
  simp [ho, hx]
theorem qc_field (hg : o.guard = none) (t : TypeId) (x : Operand) (k : Nat) (ho : o.op = .fieldAddr t x k) (b off d : Nat) (hx : a.eval x = .pointer (some ⟨b, off, none⟩)) (hf : ∀ w, (Instr.fieldAt t (.pointer (some ⟨b, off, none⟩)) k).run P w = .ok (.pointer (some ⟨b, d, none⟩)) w)
    (h : wpQuiet P ops C Q rest (a.put o.dst (.pointer (some ⟨b, d, none⟩)))) : wpQuiet P ops C Q (o :: rest) a := by
  refine qc_value hg _ (fun w _ => ?_) h
  unfold execOp
  simp [ho, hx, hf w]
theorem qc_cell (hg : o.guard = none) (t : TypeId) (x : Operand) (ho : o.op = .load t x) (ad : Addr) (v : Value) (hx : a.eval x = .pointer (some ad)) (hl : ∀ w, C w → (Instr.loadAt t (.pointer (some ad))).run P w = .ok v w)
    (h : wpQuiet P ops C Q rest (a.put o.dst v)) : wpQuiet P ops C Q (o :: rest) a := by
  refine qc_value hg _ (fun w hw => ?_) h
  unfold execOp
  simp [ho, hx, hl w hw]
theorem qc_extract (hg : o.guard = none) (x : Operand) (i : Nat) (ho : o.op = .extract x i) (vs : Array Value) (v : Value) (hx : a.eval x = .tuple vs) (hv : vs[i]? = some v) (h : wpQuiet P ops C Q rest (a.put o.dst v)) : wpQuiet P ops C Q (o :: rest) a := by
  refine qc_value hg _ (fun w _ => ?_) h
  unfold execOp
  simp [ho, hx, Instr.extract, hv]
end
def CuUint := CuPost (α := Nat) bytesU (fun n _ => n < 18446744073709551616) (fun n => .int .u64 (n : Int)) (fun n => n < 18446744073709551616)
set_option maxRecDepth 20000 in
theorem cu_uint {w0 : World} {g : Nat} {body : List UInt8} {ab : Option Addr} {nb cb at_ : Nat} {w : World} (hc : RC w0 g body ab nb cb) (h : CS w0 g body ab nb cb at_ w) :
    Calls Try.prog 58 #[.pointer (some ⟨g, 0, none⟩)] w (CuUint w0 g body ab nb cb at_ w) := by
  have hlen := hc.len
  have hsm := hc.small
  have hat := h.2.1
  have HC := Lib.hid hc
  have HS := Lib.hid h
  have HL := Lib.hid hlen
  clear hc h hlen
  obtain ⟨e0, hu⟩ := upost_ex body at_ (by rw [HL.out]; exact hat)
  obtain ⟨v0, he0⟩ : ∃ v0 : Value, e0 = .returned v0 := by
    rcases hu.cases (by rw [HL.out]; exact hat) with ⟨n, en, h1, _⟩ | ⟨er, h1, _⟩
    · exact ⟨_, h1⟩
    · exact ⟨_, h1⟩
  subst he0
  have HU := Lib.hid hu
  clear hu
  have hl0 : ∀ W, Below w.heap.size w W → (Instr.loadAt 23 (.pointer (some ⟨g, 0, none⟩))).run Try.prog W = .ok (.slice ab nb cb) W := fun W hW => by
    have c0 := (HS.out.below hW).cells.1
    go_simp
  have hl1 : ∀ W, Below w.heap.size w W → (Instr.loadAt 3 (.pointer (some ⟨g, 1, none⟩))).run Try.prog W = .ok (.int .i64 (at_ : Int)) W := fun W hW => by
    have c1 := (HS.out.below hW).cells.2.1
    go_simp
  have hf0 : ∀ W, (Instr.fieldAt 95 (.pointer (some ⟨g, 0, none⟩)) 0).run Try.prog W = .ok (.pointer (some ⟨g, 0, none⟩)) W := fun W => by go_simp
  have hf1 : ∀ W, (Instr.fieldAt 95 (.pointer (some ⟨g, 0, none⟩)) 1).run Try.prog W = .ok (.pointer (some ⟨g, 1, none⟩)) W := fun W => by go_simp
  rcases HU.out.cases (by rw [HL.out]; exact hat) with ⟨n, en, he1, hn, hd, hen, hel⟩ | ⟨er, he1, her, _, hno⟩
  · obtain rfl : v0 = T3 n en 0 := by injection he1
    rw [HL.out] at hel
    have HGOT : Hid (Got body at_ en bytesU (fun n _ => n < 18446744073709551616) n) := Lib.hid (fun v' r hv' h9 => by
      rw [hd] at h9
      exact ud_U hn hv' h9)
    have HN := Lib.hid hn
    clear hd he1 hen hn
    go_enter Try.func58, Try.ntmps58
    unfold T3 at HU
    go_upto_region 1 with fail
    refine wp_region_class (fun W => Below w.heap.size w W) (by kernel_rfl) (by kernel_rfl) (below_draws w) ?_
    refine qc_move rfl (.tmp 0) (.inl rfl) ?_
    refine wpq_hide (fun K hK => ?_)
    go_simp
    refine hK _ ?_
    clear hK K
    refine qc_nil rfl (.tmp 7) rfl g 0 rfl ?_
    refine wpq_hide (fun K hK => ?_)
    go_simp
    refine hK _ ?_
    clear hK K
    refine qc_field rfl 95 (.tmp 8) 0 rfl g 0 0 rfl hf0 ?_
    refine wpq_hide (fun K hK => ?_)
    go_simp
    refine hK _ ?_
    clear hK K
    refine qc_cell rfl 23 (.tmp 9) rfl ⟨g, 0, none⟩ (.slice ab nb cb) rfl hl0 ?_
    refine wpq_hide (fun K hK => ?_)
    go_simp
    refine hK _ ?_
    clear hK K
    refine qc_move rfl (.tmp 0) (.inl rfl) ?_
    refine wpq_hide (fun K hK => ?_)
    go_simp
    refine hK _ ?_
    clear hK K
    refine qc_nil rfl (.tmp 11) rfl g 0 rfl ?_
    refine wpq_hide (fun K hK => ?_)
    go_simp
    refine hK _ ?_
    clear hK K
    refine qc_field rfl 95 (.tmp 12) 1 rfl g 0 1 rfl hf1 ?_
    refine wpq_hide (fun K hK => ?_)
    go_simp
    refine hK _ ?_
    clear hK K
    refine qc_cell rfl 3 (.tmp 13) rfl ⟨g, 1, none⟩ (.int .i64 (at_ : Int)) rfl hl1 ?_
    refine wpq_hide (fun K hK => ?_)
    go_simp
    refine hK _ ?_
    clear hK K
    refine qc_call2 rfl 16 (by kernel_rfl) (.tmp 10) (.tmp 14) #[23, 3] rfl (.slice ab nb cb) (.int .i64 (at_ : Int)) rfl rfl (.tuple #[.int .u64 (n : Int), .int .i64 (en : Int), .int .i64 0]) (fun W hW => ?_) ?_
    · refine (ruint_any ab cb nb body (at_ : Int) W HL.out (by omega) (by omega) (HC.out.rd.below (HS.out.below hW).2.2)).mono ?_
      rintro e W' ⟨hu2, hb2⟩
      exact ⟨hu2.unique HU.out, hW.trans (hb2.mono hW.size)⟩
    refine wpq_hide (fun K hK => ?_)
    go_simp
    refine hK _ ?_
    clear hK K
    refine qc_move rfl (.tmp 15) (.inl rfl) ?_
    refine wpq_hide (fun K hK => ?_)
    go_simp
    refine hK _ ?_
    clear hK K
    refine qc_extract rfl (.tmp 6) 0 rfl _ _ rfl rfl ?_
    refine wpq_hide (fun K hK => ?_)
    go_simp
    refine hK _ ?_
    clear hK K
    refine qc_extract rfl (.tmp 6) 1 rfl _ _ rfl rfl ?_
    refine wpq_hide (fun K hK => ?_)
    go_simp
    refine hK _ ?_
    clear hK K
    refine qc_extract rfl (.tmp 6) 2 rfl _ _ rfl rfl ?_
    refine wpq_hide (fun K hK => ?_)
    go_simp
    refine hK _ ?_
    clear hK K
    refine qc_move rfl (.tmp 16) (.inr rfl) ?_
    refine wpq_hide (fun K hK => ?_)
    go_simp
    refine hK _ ?_
    clear hK K
    refine qc_move rfl (.tmp 17) (.inr rfl) ?_
    refine wpq_hide (fun K hK => ?_)
    go_simp
    refine hK _ ?_
    clear hK K
    refine qc_move rfl (.tmp 18) (.inr rfl) ?_
    refine wpq_hide (fun K hK => ?_)
    go_simp
    refine hK _ ?_
    clear hK K
    refine wpQuiet_nil ?_
    intro w1 hb1
    have hs1 := HS.out.below hb1
    obtain ⟨d0, d1, k1⟩ := hs1.cells
    have hs2 := hs1.setAt HC.out en hel
    have HS2 := Lib.hid hs2
    have HB1 := Lib.hid hb1
    clear hs1 hs2 hb1
    go_wp2
    go_ret
    exact ⟨n, en, rfl, HN.out, HS2.out.1, grown_trans2 (grown_below HB1.out) HS2.out.2, HGOT.out⟩
  · obtain rfl : v0 = T3 0 0 er := by injection he1
    have HGOT : Hid (Got body at_ nb bytesU (fun n _ => n < 18446744073709551616) 0) := Lib.hid (fun v' r hv' h9 => (hno v' hv' r h9).elim)
    have hne := neq_of' (a := er) (b := 0) her
    clear hno he1
    go_enter Try.func58, Try.ntmps58
    unfold T3 at HU
    go_upto_region 1 with fail
    refine wp_region_class (fun W => Below w.heap.size w W) (by kernel_rfl) (by kernel_rfl) (below_draws w) ?_
    refine qc_move rfl (.tmp 0) (.inl rfl) ?_
    refine wpq_hide (fun K hK => ?_)
    go_simp
    refine hK _ ?_
    clear hK K
    refine qc_nil rfl (.tmp 7) rfl g 0 rfl ?_
    refine wpq_hide (fun K hK => ?_)
    go_simp
    refine hK _ ?_
    clear hK K
    refine qc_field rfl 95 (.tmp 8) 0 rfl g 0 0 rfl hf0 ?_
    refine wpq_hide (fun K hK => ?_)
    go_simp
    refine hK _ ?_
    clear hK K
    refine qc_cell rfl 23 (.tmp 9) rfl ⟨g, 0, none⟩ (.slice ab nb cb) rfl hl0 ?_
    refine wpq_hide (fun K hK => ?_)
    go_simp
    refine hK _ ?_
    clear hK K
    refine qc_move rfl (.tmp 0) (.inl rfl) ?_
    refine wpq_hide (fun K hK => ?_)
    go_simp
    refine hK _ ?_
    clear hK K
    refine qc_nil rfl (.tmp 11) rfl g 0 rfl ?_
    refine wpq_hide (fun K hK => ?_)
    go_simp
    refine hK _ ?_
    clear hK K
    refine qc_field rfl 95 (.tmp 12) 1 rfl g 0 1 rfl hf1 ?_
    refine wpq_hide (fun K hK => ?_)
    go_simp
    refine hK _ ?_
    clear hK K
    refine qc_cell rfl 3 (.tmp 13) rfl ⟨g, 1, none⟩ (.int .i64 (at_ : Int)) rfl hl1 ?_
    refine wpq_hide (fun K hK => ?_)
    go_simp
    refine hK _ ?_
    clear hK K
    refine qc_call2 rfl 16 (by kernel_rfl) (.tmp 10) (.tmp 14) #[23, 3] rfl (.slice ab nb cb) (.int .i64 (at_ : Int)) rfl rfl (.tuple #[.int .u64 0, .int .i64 0, .int .i64 er]) (fun W hW => ?_) ?_
    · refine (ruint_any ab cb nb body (at_ : Int) W HL.out (by omega) (by omega) (HC.out.rd.below (HS.out.below hW).2.2)).mono ?_
      rintro e W' ⟨hu2, hb2⟩
      exact ⟨hu2.unique HU.out, hW.trans (hb2.mono hW.size)⟩
    refine wpq_hide (fun K hK => ?_)
    go_simp
    refine hK _ ?_
    clear hK K
    refine qc_move rfl (.tmp 15) (.inl rfl) ?_
    refine wpq_hide (fun K hK => ?_)
    go_simp
    refine hK _ ?_
    clear hK K
    refine qc_extract rfl (.tmp 6) 0 rfl _ _ rfl rfl ?_
    refine wpq_hide (fun K hK => ?_)
    go_simp
    refine hK _ ?_
    clear hK K
    refine qc_extract rfl (.tmp 6) 1 rfl _ _ rfl rfl ?_
    refine wpq_hide (fun K hK => ?_)
    go_simp
    refine hK _ ?_
    clear hK K
    refine qc_extract rfl (.tmp 6) 2 rfl _ _ rfl rfl ?_
    refine wpq_hide (fun K hK => ?_)
    go_simp
    refine hK _ ?_
    clear hK K
    refine qc_move rfl (.tmp 16) (.inr rfl) ?_
    refine wpq_hide (fun K hK => ?_)
    go_simp
    refine hK _ ?_
    clear hK K
    refine qc_move rfl (.tmp 17) (.inr rfl) ?_
    refine wpq_hide (fun K hK => ?_)
    go_simp
    refine hK _ ?_
    clear hK K
    refine qc_move rfl (.tmp 18) (.inr rfl) ?_
    refine wpq_hide (fun K hK => ?_)
    go_simp
    refine hK _ ?_
    clear hK K
    refine wpQuiet_nil ?_
    intro w1 hb1
    have hs1 := HS.out.below hb1
    obtain ⟨d0, d1, k1⟩ := hs1.cells
    have hs2 := hs1.setAt HC.out nb (Nat.le_refl _)
    have HS2 := Lib.hid hs2
    have HB1 := Lib.hid hb1
    clear hs1 hs2 hb1
    go_wp2
    go_ret
    exact ⟨0, nb, rfl, by omega, HS2.out.1, grown_trans2 (grown_below HB1.out) HS2.out.2, HGOT.out⟩
#print axioms cu_uint
def CuInt := CuPost (α := Int) bytesI (fun i _ => I64 i) (fun i => .int .i64 i) (fun i => I64 i)
theorem cu_int {w0 : World} {g : Nat} {body : List UInt8} {ab : Option Addr} {nb cb at_ : Nat} {w : World} (hc : RC w0 g body ab nb cb) (h : CS w0 g body ab nb cb at_ w) :
    Calls Try.prog 57 #[.pointer (some ⟨g, 0, none⟩)] w (CuInt w0 g body ab nb cb at_ w) := by
  go_enter Try.func57, Try.ntmps57
  go_wp2_with fail
  refine (cu_uint hc h).mono ?_
  rintro e w1 ⟨n, a2, rfl, hn, hcs, hg, hgot⟩
  have hzu := zig_unz n hn
  have HZ := Lib.hid hzu
  have HN := Lib.hid hn
  have HCS := Lib.hid hcs
  have HG := Lib.hid hg
  have HGOT : Hid (Got body at_ a2 bytesI (fun i _ => I64 i) (unz n)) := Lib.hid (fun v' r hv' h9 => by
    obtain ⟨h1, h2⟩ := hgot (zig v') r (zig_lt v' hv') h9
    refine ⟨?_, h2⟩
    apply zig_inj
    rw [hzu.1, h1])
  clear hzu hn hcs hg hgot
  go_wp2_with fail
  refine (unfold_any n w1 HN.out).mono ?_
  rintro e _ ⟨rfl, rfl⟩
  go_wp2
  go_ret
  exact ⟨unz n, a2, rfl, HZ.out.2, HCS.out, HG.out, HGOT.out⟩
def CuCount (w0 : World) (g : Nat) (body : List UInt8) (ab : Option Addr) (nb cb at_ : Nat) (w : World) (en : Ending) (w' : World) : Prop :=
  ∃ (n a2 : Nat), en = .returned (.int .i64 (n : Int)) ∧ a2 + n ≤ nb ∧ CS w0 g body ab nb cb a2 w' ∧ w.grownBy w' (some g) ∧ Got body at_ a2 bytesU (fun n r => n ≤ r.length ∧ n < 18446744073709551616) n
set_option maxRecDepth 20000 in
theorem cu_count {w0 : World} {g : Nat} {body : List UInt8} {ab : Option Addr} {nb cb at_ : Nat} {w : World} (hc : RC w0 g body ab nb cb) (h : CS w0 g body ab nb cb at_ w) :
    Calls Try.prog 64 #[.pointer (some ⟨g, 0, none⟩)] w (CuCount w0 g body ab nb cb at_ w) := by
  go_enter Try.func64, Try.ntmps64
  go_wp2_with fail
  refine (cu_uint hc h).mono ?_
  rintro e w1 ⟨n, a2, rfl, hn, hcs, hg, hgot⟩
  obtain ⟨c0, c1, f1⟩ := hcs.cells
  have ha2 := hcs.2.1
  have hsm := hc.small
  have hlen := hc.len
  have HCS := Lib.hid hcs
  have HG := Lib.hid hg
  have HGOT := Lib.hid hgot
  have HL := Lib.hid hlen
  have hw1 : wrap64 ((nb : Int) - a2) = (nb : Int) - a2 := by unfold wrap64; omega
  have hw2 : IntKind.u64.wrap ((nb : Int) - a2) = (nb : Int) - a2 := by rw [IntKind.wrap_u64]; omega
  have hw3 : IntKind.i64.wrap ((nb : Int) - a2) = (nb : Int) - a2 := by rw [IntKind.wrap_i64]; omega
  clear hcs hg hgot hc h hlen
  by_cases hbig : nb - a2 < n
  · have hb : (nb : Int) - a2 < n := by omega
    go_wp2_with (go_quiet (fail))
    all_goals go_ret
    all_goals exact ⟨0, a2, rfl, ha2, HCS.out.below (below_draws w1), ⟨HG.out.os, HG.out.tape, HG.out.output, HG.out.size, HG.out.block⟩, fun v' r hv' h9 => by
      obtain ⟨h1, h2⟩ := HGOT.out v' r hv'.2 h9
      exfalso
      have h3 := congrArg List.length h2
      rw [List.length_drop, HL.out] at h3
      have h4 := hv'.1
      omega⟩
  · have hb : ¬ (nb : Int) - a2 < n := by omega
    have hw4 : IntKind.i64.wrap (n : Int) = n := by rw [IntKind.wrap_i64]; omega
    go_wp2_with (go_quiet (fail))
    all_goals go_ret
    all_goals exact ⟨n, a2, rfl, by omega, HCS.out.below (below_draws w1), ⟨HG.out.os, HG.out.tape, HG.out.output, HG.out.size, HG.out.block⟩, fun v' r hv' h9 => HGOT.out v' r hv'.2 h9⟩
end Go.Proofs.Ytaipnbpefdcejaa
