/- Joined by wip/tools/merge.py out of: DecP Rf6 DecQ DecR. -/
import Derived.Test.YtaipnbpefdcejaaMF
import Derived.Test.YtaipnbpefdcejaaMG
import Derived.Test.YtaipnbpefdcejaaMD
/- What the fields' bytes tell, in plain Lean: for Decode. -/
set_option linter.unusedVariables false
namespace Go.Proofs.Ytaipnbpefdcejaa
open Go.RowKit
/-- The zero message of a kind. -/
def zM (k : Int) : M := { kind := k, handle := 0, num := 0, ts := 0, id := 0, typ := 0, a0 := 0, a1 := 0, a2 := 0, a3 := 0, a4 := 0, a5 := 0, a6 := 0, a7 := 0, dec := 0, names := [], lens := [], vals := [], mark := 0, closed := false, held := 0, kept := 0, waiting := 0, parts := 0, fwhere := 0, fcode := 0, fat := 0, code := 0, schema := ByteArray.empty, query := ByteArray.empty, image := [] }
def zP : Ps := ⟨none, 0, none, 0, none, 0, none, 0⟩
/-- A field's bytes tell the field, and where they end. -/
def UDF (s : String) : Prop := ∀ x y r r', VX x → VX y → encF s x ++ r = encF s y ++ r' → (∀ z, setF s z x = setF s z y) ∧ r = r'
theorem udF_of {α : Type} {e : α → List UInt8} {v : α → Prop} (hu : UD e v) (s : String) (π : M → α) (he : ∀ y, encF s y = e (π y)) (hv : ∀ y, VX y → v (π y)) (hset : ∀ x y, π x = π y → ∀ z, setF s z x = setF s z y) : UDF s := by
  intro x y r r' hx hy h
  rw [he, he] at h
  obtain ⟨h1, h2⟩ := hu _ _ _ _ (hv x hx) (hv y hy) h
  exact ⟨hset x y h1, h2⟩
theorem udH : UD (fun h : Int => bytesU h.toNat) (fun h => 0 ≤ h ∧ h < 18446744073709551616) := by
  intro x y r r' hx hy h
  obtain ⟨h1, h2⟩ := ud_U (by omega) (by omega) h
  exact ⟨by omega, h2⟩
theorem udB : UD (fun l : List UInt8 => bytesU l.length ++ l) (fun l => l.length < 18446744073709551616) := by
  intro x y r r' hx hy h
  simp only [List.append_assoc] at h
  obtain ⟨h1, h2⟩ := ud_U hx hy h
  exact List.append_inj h2 h1
theorem udText : UD encText (fun s => s.size < 18446744073709551616) := by
  intro x y r r' hx hy h
  have e : ∀ s : ByteArray, encText s = bytesU s.data.toList.length ++ s.data.toList := fun s => rfl
  rw [e, e] at h
  obtain ⟨h1, h2⟩ := udB x.data.toList y.data.toList r r' hx hy h
  refine ⟨?_, h2⟩
  cases x; cases y
  simp at h1
  rw [h1]
theorem udf_number : UDF "sluice/wire.number" := udF_of udI _ (fun m => m.num) (fun _ => rfl) (fun y h => h.1.num) (fun x y h z => by simp [setF, show x.num = y.num from h])
theorem udf_handle : UDF "sluice/wire.handle" := udF_of udH _ (fun m => m.handle) (fun _ => rfl) (fun y h => ⟨h.2.1, by have := h.1.handle; unfold I64 at this; omega⟩) (fun x y h z => by simp [setF, show x.handle = y.handle from h])
theorem udf_code : UDF "sluice/wire.code" := udF_of udI _ (fun m => m.code) (fun _ => rfl) (fun y h => h.1.code) (fun x y h z => by simp [setF, show x.code = y.code from h])
theorem udf_schema : UDF "sluice/wire.schema" := udF_of udText _ (fun m => m.schema) (fun _ => rfl) (fun y h => by have := h.1.sl; show y.schema.size < _; omega) (fun x y h z => by simp [setF, show x.schema = y.schema from h])
theorem udf_query : UDF "sluice/wire.query" := udF_of udText _ (fun m => m.query) (fun _ => rfl) (fun y h => by have := h.1.ql; show y.query.size < _; omega) (fun x y h z => by simp [setF, show x.query = y.query from h])
theorem udf_image : UDF "sluice/wire.image" := udF_of udB _ (fun m => m.image) (fun _ => rfl) (fun y h => by have := h.1.il; show y.image.length < _; omega) (fun x y h z => by simp [setF, show x.image = y.image from h])
theorem udf_event : UDF "sluice/wire.event" :=
  udF_of (udI.pair (udH.pair (udI.pair (udL udI 8)))) _ (fun m => (m.ts, (m.id, (m.typ, attrs m)))) (fun _ => rfl)
    (fun y h => ⟨h.1.ts, ⟨by have := h.1.id; unfold U64 at this; constructor <;> (dsimp only; omega), h.1.typ, rfl, fun v hv => by
      simp only [attrs, List.mem_cons, List.not_mem_nil, or_false] at hv
      rcases hv with rfl | rfl | rfl | rfl | rfl | rfl | rfl | rfl
      · exact h.1.a0
      · exact h.1.a1
      · exact h.1.a2
      · exact h.1.a3
      · exact h.1.a4
      · exact h.1.a5
      · exact h.1.a6
      · exact h.1.a7⟩⟩)
    (fun x y h z => by
      simp only [attrs, Prod.mk.injEq, List.cons.injEq, and_true] at h
      obtain ⟨h1, h2, h3, h4, h5, h6, h7, h8, h9, h10, h11⟩ := h
      simp [setF, h1, h2, h3, h4, h5, h6, h7, h8, h9, h10, h11])
theorem udf_sizes : UDF "sluice/wire.sizes" :=
  udF_of (udI.pair (udT.pair (udL udI 4))) _ (fun m => (m.mark, (m.closed, [m.held, m.kept, m.waiting, m.parts]))) (fun _ => rfl)
    (fun y h => ⟨h.1.mark, trivial, rfl, fun v hv => by
      simp only [List.mem_cons, List.not_mem_nil, or_false] at hv
      rcases hv with rfl | rfl | rfl | rfl
      · exact h.1.held
      · exact h.1.kept
      · exact h.1.waiting
      · exact h.1.parts⟩)
    (fun x y h z => by
      simp only [Prod.mk.injEq, List.cons.injEq, and_true] at h
      obtain ⟨h1, h2, h3, h4, h5, h6⟩ := h
      simp [setF, h1, h2, h3, h4, h5, h6])
theorem udf_fault : UDF "sluice/wire.fault" :=
  udF_of (udI.pair (udI.pair udI)) _ (fun m => (m.fwhere, (m.fcode, m.fat))) (fun _ => rfl) (fun y h => ⟨h.1.fwhere, h.1.fcode, h.1.fat⟩)
    (fun x y h z => by
      simp only [Prod.mk.injEq] at h
      obtain ⟨h1, h2, h3⟩ := h
      simp [setF, h1, h2, h3])
theorem udf_match : UDF "sluice/wire.match" :=
  udF_of (udC (udC (udC udI udName) udI) udVal) _ (fun x => (((x.dec, x.names), x.lens), x.vals))
    (fun y => by
      show encMatch y = _
      simp only [encMatch, encNames, encLens, encVals, eC, List.append_assoc])
    (fun y hy => by
      have h1 := hy.1.nl
      have h2 := hy.1.ll
      have h3 := hy.1.vl
      exact ⟨⟨⟨hy.1.dec, by show y.names.length < _; omega, hy.1.names⟩, by show y.lens.length < _; omega, hy.1.lens⟩, by show y.vals.length < _; omega, fun z hz => ⟨hy.1.vals z hz, hy.2.2 z hz⟩⟩)
    (fun x y h z => by
      simp only [Prod.mk.injEq] at h
      obtain ⟨⟨⟨h1, h2⟩, h3⟩, h4⟩ := h
      simp [setF, h1, h2, h3, h4])
theorem udf_ten {s : String} (hs : s ∈ tenL) : UDF s := by
  simp only [tenL, List.mem_cons, List.not_mem_nil, or_false] at hs
  rcases hs with rfl | rfl | rfl | rfl | rfl | rfl | rfl | rfl | rfl | rfl
  · exact udf_number
  · exact udf_handle
  · exact udf_code
  · exact udf_schema
  · exact udf_query
  · exact udf_image
  · exact udf_event
  · exact udf_match
  · exact udf_sizes
  · exact udf_fault
theorem ud_fields : ∀ L : List String, (∀ s ∈ L, s ∈ tenL) → ∀ x y r r', VX x → VX y → L.flatMap (fun s => encF s x) ++ r = L.flatMap (fun s => encF s y) ++ r' → (∀ s ∈ L, ∀ z, setF s z x = setF s z y) ∧ r = r' := by
  intro L
  induction L with
  | nil => intro _ x y r r' _ _ h; exact ⟨fun s hs => by simp at hs, by simpa using h⟩
  | cons t L ih =>
    intro hL x y r r' hx hy h
    simp only [List.flatMap_cons, List.append_assoc] at h
    obtain ⟨h1, h2⟩ := udf_ten (hL t (by simp)) x y _ _ hx hy h
    obtain ⟨h3, h4⟩ := ih (fun s hs => hL s (by simp [hs])) x y r r' hx hy h2
    refine ⟨fun s hs => ?_, h4⟩
    rcases List.mem_cons.1 hs with rfl | hs
    · exact h1
    · exact h3 s hs
theorem setF_kind (s : String) (m x : M) : (setF s m x).kind = m.kind := by
  simp only [setF, apply_ite M.kind, ite_self]
set_option maxHeartbeats 2000000 in
theorem encF_set {s t : String} (hs : s ∈ tenL) (ht : t ∈ tenL) (hne : t ≠ s) (m x : M) : encF t (setF s m x) = encF t m := by
  simp only [tenL, List.mem_cons, List.not_mem_nil, or_false] at hs ht
  rcases hs with rfl | rfl | rfl | rfl | rfl | rfl | rfl | rfl | rfl | rfl <;>
  rcases ht with rfl | rfl | rfl | rfl | rfl | rfl | rfl | rfl | rfl | rfl <;>
  first | exact (hne rfl).elim | rfl
set_option maxHeartbeats 2000000 in
theorem setF_set {s t : String} (hs : s ∈ tenL) (ht : t ∈ tenL) (hne : t ≠ s) (m x z : M) : setF t z (setF s m x) = setF t z m := by
  simp only [tenL, List.mem_cons, List.not_mem_nil, or_false] at hs ht
  rcases hs with rfl | rfl | rfl | rfl | rfl | rfl | rfl | rfl | rfl | rfl <;>
  rcases ht with rfl | rfl | rfl | rfl | rfl | rfl | rfl | rfl | rfl | rfl <;>
  first | exact (hne rfl).elim | rfl
end Go.Proofs.Ytaipnbpefdcejaa
/- The reader's handle, which leaves the lists' places; what Decode's loop keeps. -/
set_option linter.unusedVariables false
namespace Go.Proofs.Ytaipnbpefdcejaa
open Go.RowKit
def FPostQ (s : String) (w0 : World) (g gm base : Nat) (body : List UInt8) (ab : Option Addr) (nb cb at_ : Nat) (bad : Bool) (m : M) (q : Ps) (w : World) (e : Ending) (w' : World) : Prop :=
  ∃ (m' : M) (a2 : Nat) (b2 : Bool), e = .returned (.tuple #[]) ∧ FS w0 g gm base body ab nb cb a2 b2 m' q w' ∧ Gr2 g gm w w' ∧ m' = setF s m m' ∧ Verdict s body at_ bad a2 b2 m'
set_option maxRecDepth 20000 in
theorem rf2_handle_q {w0 : World} {g gm base : Nat} {body : List UInt8} {ab : Option Addr} {nb cb at_ : Nat} {bad : Bool} {m : M} {q : Ps} {w : World} (hc : FC w0 g gm base body ab nb cb) (h : FS w0 g gm base body ab nb cb at_ bad m q w) :
    Calls Try.prog 112 #[.pointer (some ⟨g, 0, none⟩), .pointer (some ⟨gm, 0, none⟩)] w (FPostQ "sluice/wire.handle" w0 g gm base body ab nb cb at_ bad m q w) := by
  go_enter Try.func112, Try.ntmps112
  go_wp2_with fail
  refine (rd_uint hc.rc h.rs).mono ?_
  rintro e w1 ⟨n, a2, b2, rfl, hn, hrs, hg, hz, hst⟩
  have hk1 := blk_g hc.ne h.blk hg
  have hcell := hk1.cell 1 (by rw [cellsM_len]; omega)
  have hfr := hk1.frozen 1
  obtain ⟨_, _, c2, _, f2⟩ := hrs.cells
  by_cases hbig : 9223372036854775807 < n
  · have hb : (9223372036854775807 : Int) < n := by omega
    have hsb := hrs.setBad hc.rc true
    have hg2 := Gr2.ofg gm (grown_trans2 hg hsb.2)
    have hfin : FPostQ "sluice/wire.handle" w0 g gm base body ab nb cb at_ bad m q w (.returned (.tuple #[])) (w1.setCell ⟨g, 2, none⟩ (.bool true)) := by
      refine ⟨m, a2, true, rfl, ⟨hsb.1, blk_g hc.ne hk1 hsb.2, h.own.two hg2 hc.g1 hc.gm1, h.vx, Nat.le_trans h.le hg2.size⟩, hg2, rfl, .inr ⟨rfl, ?_⟩⟩
      rcases hst with ⟨h1, h2, e, rfl, h4⟩ | ⟨h1, h2⟩
      · refine .inr fun x r hx he => ?_
        have hx1 := hx.1.handle
        have hx2 := hx.2.1
        unfold I64 at hx1
        rw [h4] at he
        have := (ud_U hn (by omega) (he : _ = bytesU x.handle.toNat ++ r)).1
        omega
      · rw [hz h1] at hbig
        omega
    have HF := Lib.hid hfin
    clear hk1 hsb hg2 hfin hrs hg hz hst h hc hbig hcell hfr
    go_wp2
    go_end0
    exact HF.out
  · have hb : ¬ (9223372036854775807 : Int) < n := by omega
    have hs1 := hk1.setCell 1 (.int .i64 (n : Int))
    have hg2 := (Gr2.ofg gm hg).trans (Gr2.ofm g hs1.2)
    have hfin : FPostQ "sluice/wire.handle" w0 g gm base body ab nb cb at_ bad m q w (.returned (.tuple #[])) (w1.setCell ⟨gm, 1, none⟩ (.int .i64 (n : Int))) := by
      refine ⟨{ m with handle := n }, a2, b2, rfl, ⟨rs_gm hc hrs hs1.2, hs1.1, h.own.two hg2 hc.g1 hc.gm1, ⟨{ h.vx.1 with handle := by show I64 (n : Int); unfold I64; omega }, by show (0 : Int) ≤ (n : Int); omega, h.vx.2.2⟩, Nat.le_trans h.le hg2.size⟩, hg2, rfl, ?_⟩
      rcases hst with ⟨h1, h2, e, rfl, h4⟩ | ⟨h1, h2⟩
      · refine .inl ⟨h1, h2, ?_⟩
        show _ = bytesU ((n : Int).toNat) ++ _
        rw [Int.toNat_natCast]
        exact h4
      · refine .inr ⟨h1, h2.imp id fun hno x r hx => ?_⟩
        have hx1 := hx.1.handle
        unfold I64 at hx1
        exact hno x.handle.toNat (by omega) r
    have hwz : IntKind.i64.wrap (n : Int) = (n : Int) := by rw [IntKind.wrap_i64]; omega
    have HF := Lib.hid hfin
    obtain ⟨y, hy⟩ : ∃ y, y = (cellsM m q)[1]'(by rw [cellsM_len]; omega) := ⟨_, rfl⟩
    rw [← hy] at hcell
    clear hy hk1 hs1 hg2 hfin hrs hg hz hst h hc hbig
    go_wp2
    go_end0
    exact HF.out

/-- What Decode's loop keeps, in plain words. -/
structure DI (k : Int) (L : List String) (body : List UInt8) (j : Nat) (m : M) (a : Nat) (b : Bool) : Prop where
  built : (L.take j).foldl (fun z s => setF s z m) (zM k) = m
  ok : (b = false ∧ body = (L.take j).flatMap (fun s => encF s m) ++ body.drop a) ∨ (b = true ∧ ∀ x r, VX x → body ≠ L.flatMap (fun s => encF s x) ++ r)
theorem fold_set {s : String} (hs : s ∈ tenL) (m x : M) : ∀ (l : List String) (z : M), (∀ t ∈ l, t ∈ tenL) → s ∉ l → l.foldl (fun z t => setF t z (setF s m x)) z = l.foldl (fun z t => setF t z m) z := by
  intro l
  induction l with
  | nil => intro z _ _; rfl
  | cons t l ih =>
    intro z hl hn
    simp only [List.foldl_cons]
    rw [setF_set hs (hl t (by simp)) (fun e => hn (by simp [e]))]
    exact ih _ (fun t ht => hl t (by simp [ht])) (fun h => hn (by simp [h]))
theorem flat_set {s : String} (hs : s ∈ tenL) (m x : M) : ∀ (l : List String), (∀ t ∈ l, t ∈ tenL) → s ∉ l → l.flatMap (fun t => encF t (setF s m x)) = l.flatMap (fun t => encF t m) := by
  intro l
  induction l with
  | nil => intro _ _; rfl
  | cons t l ih =>
    intro hl hn
    simp only [List.flatMap_cons]
    rw [encF_set hs (hl t (by simp)) (fun e => hn (by simp [e])), ih (fun t ht => hl t (by simp [ht])) (fun h => hn (by simp [h]))]
theorem DI.start (k : Int) (L : List String) (body : List UInt8) : DI k L body 0 (zM k) 0 false := ⟨rfl, .inl ⟨rfl, by simp⟩⟩
theorem DI.step {k : Int} {L : List String} {body : List UInt8} {j : Nat} {m m' : M} {a a2 : Nat} {b b2 : Bool} (h : DI k L body j m a b) (hL : ∀ s ∈ L, s ∈ tenL) (hnd : L.Nodup) (hj : j < L.length) (hvm : VX m) (hm : m' = setF L[j] m m') (hv : Verdict L[j] body a b a2 b2 m') : DI k L body (j + 1) m' a2 b2 := by
  have hs := hL L[j] (List.getElem_mem hj)
  have hin : ∀ t ∈ L.take j, t ∈ tenL := fun t ht => hL t (List.mem_of_mem_take ht)
  have hno : L[j] ∉ L.take j := by
    intro hmem
    obtain ⟨i, hi, he⟩ := List.getElem_of_mem hmem
    rw [List.length_take] at hi
    rw [List.getElem_take] at he
    have := (List.getElem_inj hnd).1 he
    omega
  have hsp : L.take (j + 1) = L.take j ++ [L[j]] := List.take_succ_eq_append_getElem hj
  have hfl : (L.take j).flatMap (fun t => encF t m') = (L.take j).flatMap (fun t => encF t m) := by
    rw [hm]; exact flat_set hs m m' _ hin hno
  constructor
  · rw [hsp, List.foldl_append]
    simp only [List.foldl_cons, List.foldl_nil]
    have h1 : (L.take j).foldl (fun z t => setF t z m') (zM k) = m := by
      rw [hm, fold_set hs m m' _ _ hin hno]
      exact h.built
    rw [h1]
    exact hm.symm
  · rcases hv with ⟨h1, h2, h3⟩ | ⟨h1, h2⟩
    · left
      refine ⟨h2, ?_⟩
      rcases h.ok with ⟨_, h4⟩ | ⟨h4, _⟩
      · rw [hsp, List.flatMap_append, hfl]
        simp only [List.flatMap_cons, List.flatMap_nil, List.append_nil, List.append_assoc]
        rw [← h3]
        exact h4
      · rw [h1] at h4; cases h4
    · right
      refine ⟨h1, ?_⟩
      rcases h2 with h2 | h2
      · rcases h.ok with ⟨h4, _⟩ | ⟨_, h4⟩
        · rw [h2] at h4; cases h4
        · exact h4
      · rcases h.ok with ⟨_, h4⟩ | ⟨_, h4⟩
        · intro x r hx he
          have hL2 : L = L.take j ++ (L[j] :: L.drop (j + 1)) := by simp
          have he2 : body = (L.take j).flatMap (fun s => encF s x) ++ (encF L[j] x ++ ((L.drop (j + 1)).flatMap (fun s => encF s x) ++ r)) := by
            rw [he]
            conv => lhs; rw [hL2]
            simp only [List.flatMap_append, List.flatMap_cons, List.append_assoc]
          have he3 := h4.symm.trans he2
          exact h2 x _ hx (ud_fields _ hin _ _ _ _ hvm hx he3).2
        · exact h4
end Go.Proofs.Ytaipnbpefdcejaa
/- What Decode's ends say, in plain Lean. -/
set_option linter.unusedVariables false
namespace Go.Proofs.Ytaipnbpefdcejaa
open Go.RowKit
theorem ordL_nodup (k : Int) : (ordL k).Nodup := by
  unfold ordL
  repeat' split
  all_goals decide
theorem ordL_match (k : Int) : ∀ i (hi : i < (ordL k).length), (ordL k)[i] = "sluice/wire.match" → ∀ s ∈ (ordL k).take i, s = "sluice/wire.handle" := by
  have hm : ordL k = (["sluice/wire.number"] : List String) ∨ ordL k = (["sluice/wire.schema", "sluice/wire.query", "sluice/wire.number"] : List String) ∨ ordL k = (["sluice/wire.handle", "sluice/wire.event"] : List String) ∨ ordL k = (["sluice/wire.handle", "sluice/wire.number"] : List String) ∨ ordL k = (["sluice/wire.handle"] : List String) ∨ ordL k = (["sluice/wire.image"] : List String) ∨ ordL k = (["sluice/wire.code"] : List String) ∨ ordL k = (["sluice/wire.fault"] : List String) ∨ ordL k = (["sluice/wire.handle", "sluice/wire.match"] : List String) ∨ ordL k = (["sluice/wire.handle", "sluice/wire.sizes"] : List String) ∨ ordL k = (["sluice/wire.handle", "sluice/wire.image"] : List String) ∨ ordL k = ([] : List String) := by
    unfold ordL
    repeat' split
    all_goals simp
  generalize ordL k = L at hm ⊢
  rcases hm with rfl | rfl | rfl | rfl | rfl | rfl | rfl | rfl | rfl | rfl | rfl | rfl
  all_goals
    intro i hi h s hs
    rcases i with _ | _ | _ | i
    all_goals first
      | (simp at hs; done)
      | (exfalso; revert h; simp; done)
      | (simp at hs; exact hs)
      | (exfalso; simp only [List.length_cons, List.length_nil] at hi; omega)
theorem proper_kind {m : M} (h : properM m) : 1 ≤ m.kind ∧ m.kind ≤ 21 := by
  have h1 := h.2.2.1
  unfold ordL at h1
  repeat' split at h1
  all_goals first | omega | (exact (h1 rfl).elim)
theorem kind_eq {x : M} {z : Int} {body : List UInt8} (hp : properM x) (h0 : 0 ≤ z) (h1 : z < 256) (h : UInt8.ofNat z.toNat :: body = inM x) : x.kind = z ∧ body = (ordL z).flatMap fun s => encF s x := by
  unfold inM at h
  injection h with h2 h3
  have hk := proper_kind hp
  have h4 := congrArg UInt8.toNat h2
  rw [UInt8.toNat_ofNat', UInt8.toNat_ofNat'] at h4
  have h5 : x.kind = z := by omega
  rw [h5] at h3
  exact ⟨h5, h3⟩
theorem fold_kind (m : M) : ∀ (l : List String) (z : M), (l.foldl (fun z s => setF s z m) z).kind = z.kind := by
  intro l
  induction l with
  | nil => intro z; rfl
  | cons s l ih => intro z; rw [List.foldl_cons, ih, setF_kind]
theorem dec_none {body : List UInt8} {z : Int} (h0 : 0 ≤ z) (h1 : z < 256) (hL : ordL z = []) : ∀ x, VX x → properM x → UInt8.ofNat z.toNat :: body ≠ inM x := by
  intro x _ hp h
  have := (kind_eq hp h0 h1 h).1
  exact hp.2.2.1 (by rw [this]; exact hL)
theorem dec_bad {body : List UInt8} {z : Int} {j a : Nat} {m : M} (h0 : 0 ≤ z) (h1 : z < 256) (hd : DI z (ordL z) body j m a true) : ∀ x, VX x → properM x → UInt8.ofNat z.toNat :: body ≠ inM x := by
  intro x hx hp h
  rcases hd.ok with ⟨h2, _⟩ | ⟨_, h2⟩
  · cases h2
  · exact h2 x [] hx (by rw [List.append_nil]; exact (kind_eq hp h0 h1 h).2)
theorem dec_long {body : List UInt8} {z : Int} {j a : Nat} {m : M} (h0 : 0 ≤ z) (h1 : z < 256) (hm : VX m) (hd : DI z (ordL z) body j m a false) (hj : (ordL z).take j = ordL z) (ha : a < body.length) : ∀ x, VX x → properM x → UInt8.ofNat z.toNat :: body ≠ inM x := by
  intro x hx hp h
  rcases hd.ok with ⟨_, h2⟩ | ⟨h2, _⟩
  · rw [hj] at h2
    have h3 := (kind_eq hp h0 h1 h).2
    have h4 := (ud_fields (ordL z) (ordL_ten z) m x (body.drop a) [] hm hx (by rw [List.append_nil, ← h2]; exact h3)).2
    have h5 := congrArg List.length h4
    rw [List.length_drop, List.length_nil] at h5
    omega
  · cases h2
set_option maxHeartbeats 4000000 in
theorem dec_proper {z : Int} {m : M} (hm : VX m) (hb : (ordL z).foldl (fun z s => setF s z m) (zM z) = m) (hk : m.kind = z) (hL : ordL z ≠ []) : properM m := by
  refine ⟨hm.2.1, hm.2.2, by rw [hk]; exact hL, ?_⟩
  rw [hk]
  clear hm
  have hz : z = 1 ∨ z = 2 ∨ z = 3 ∨ z = 4 ∨ z = 5 ∨ z = 6 ∨ z = 7 ∨ z = 8 ∨ z = 9 ∨ z = 16 ∨ z = 17 ∨ z = 18 ∨ z = 19 ∨ z = 20 ∨ z = 21 := by
    unfold ordL at hL
    repeat' split at hL
    all_goals first | omega | exact (hL rfl).elim
  clear hL
  obtain ⟨kind, handle, num, ts, id, typ, a0, a1, a2, a3, a4, a5, a6, a7, dec, names, lens, vals, mark, closed, held, kept, waiting, parts, fwhere, fcode, fat, code, schema, query, image⟩ := m
  simp only at hk
  subst hk
  rcases hz with rfl | rfl | rfl | rfl | rfl | rfl | rfl | rfl | rfl | rfl | rfl | rfl | rfl | rfl | rfl
  all_goals
    simp (decide := true) only [ordL, setF, zM, List.foldl, M.mk.injEq, if_true, if_false, true_and, and_true] at hb
    simp (decide := true) only [ordL, eraseM, blankM, blankP, empty_toList, List.foldl, if_true, if_false, true_and, and_true, List.length_nil]
    simp only [eq_comm (a := (0 : Int)), eq_comm (a := ByteArray.empty)] at hb
    simp [hb]
theorem dec_ok {body : List UInt8} {z : Int} {j a : Nat} {m : M} (hm : VX m) (hd : DI z (ordL z) body j m a false) (hj : (ordL z).take j = ordL z) (hL : ordL z ≠ []) (ha : body.length ≤ a) : properM m ∧ UInt8.ofNat z.toNat :: body = inM m := by
  have hb := hd.built
  rw [hj] at hb
  have hk : m.kind = z := by
    have := congrArg M.kind hb
    rw [fold_kind] at this
    exact this.symm
  refine ⟨dec_proper hm hb hk hL, ?_⟩
  rcases hd.ok with ⟨_, h2⟩ | ⟨h2, _⟩
  · rw [hj, List.drop_of_length_le ha, List.append_nil] at h2
    unfold inM
    rw [hk, ← h2]
  · cases h2
theorem body_cons {l : List UInt8} {en u : Nat} {z : Int} (he : en < l.length) (hu : 1 ≤ u) (hz : z = (l[en].toNat : Int)) : (l.drop en).take u = UInt8.ofNat z.toNat :: (l.drop (en + 1)).take (u - 1) := by
  rw [List.drop_eq_getElem_cons he, hz]
  obtain ⟨v, rfl⟩ : ∃ v, u = v + 1 := ⟨u - 1, by omega⟩
  rw [List.take_succ_cons]
  simp
end Go.Proofs.Ytaipnbpefdcejaa
/- Frames in plain Lean: what Decode answers at a frame and at a shorter beginning of one, and what an answer without a fault says. -/
set_option linter.unusedVariables false
namespace Go.Proofs.Ytaipnbpefdcejaa
open Go.RowKit
def DecR (l : List UInt8) (m : M) (n : Nat) (c : Int) : Prop :=
  ∃ (u en : Nat) (er : Int), UPost l 0 (.returned (T3 u en er)) ∧ u < 18446744073709551616 ∧
    ((er ≠ 0 ∧ c = er ∧ m = zM 0 ∧ n = 0) ∨
     (er = 0 ∧ l = bytesU u ++ l.drop en ∧ en = (bytesU u).length ∧ en ≤ l.length ∧
       (((u < 1 ∨ 1048576 < u) ∧ c = 211 ∧ m = zM 0 ∧ n = 0) ∨
        (1 ≤ u ∧ u ≤ 1048576 ∧ l.length - en < u ∧ c = 210 ∧ m = zM 0 ∧ n = 0) ∨
        (1 ≤ u ∧ u ≤ 1048576 ∧ u ≤ l.length - en ∧
          ((c = 0 ∧ VX m ∧ properM m ∧ (l.drop en).take u = inM m ∧ n = en + u) ∨
           (c = 212 ∧ m = zM 0 ∧ n = 0 ∧ ∀ x, VX x → properM x → (l.drop en).take u ≠ inM x))))))
theorem toList_nil (s : ByteArray) : s.toList = [] ↔ s = ByteArray.empty := by
  constructor
  · intro h
    rw [ByteArray.toList_eq] at h
    exact ByteArray.ext (by rw [← Array.toList_inj]; exact h)
  · intro h; rw [h]; exact empty_toList
set_option maxHeartbeats 4000000 in
theorem proper_built {m : M} (h : properM m) : (ordL m.kind).foldl (fun z s => setF s z m) (zM m.kind) = m := by
  obtain ⟨_, _, hL, hb⟩ := h
  have hz : m.kind = 1 ∨ m.kind = 2 ∨ m.kind = 3 ∨ m.kind = 4 ∨ m.kind = 5 ∨ m.kind = 6 ∨ m.kind = 7 ∨ m.kind = 8 ∨ m.kind = 9 ∨ m.kind = 16 ∨ m.kind = 17 ∨ m.kind = 18 ∨ m.kind = 19 ∨ m.kind = 20 ∨ m.kind = 21 := by
    generalize m.kind = z at hL
    unfold ordL at hL
    repeat' split at hL
    all_goals first | omega | exact (hL rfl).elim
  clear hL
  obtain ⟨kind, handle, num, ts, id, typ, a0, a1, a2, a3, a4, a5, a6, a7, dec, names, lens, vals, mark, closed, held, kept, waiting, parts, fwhere, fcode, fat, code, schema, query, image⟩ := m
  simp only at hz hb ⊢
  rcases hz with rfl | rfl | rfl | rfl | rfl | rfl | rfl | rfl | rfl | rfl | rfl | rfl | rfl | rfl | rfl
  all_goals
    simp (decide := true) only [ordL, eraseM, blankM, blankP, empty_toList, List.foldl, if_true, if_false, true_and, and_true, List.length_nil, List.length_eq_zero_iff, toList_nil] at hb
    simp (decide := true) only [ordL, setF, zM, List.foldl, M.mk.injEq, if_true, if_false, true_and, and_true]
    simp [hb]
theorem VX.of {m : M} (h : WfM m) (hp : properM m) : VX m := ⟨h, hp.1, hp.2.1⟩
theorem fold_congr (x y : M) : ∀ (L : List String) (z : M), (∀ s ∈ L, ∀ z, setF s z x = setF s z y) → L.foldl (fun z s => setF s z x) z = L.foldl (fun z s => setF s z y) z := by
  intro L
  induction L with
  | nil => intro z _; rfl
  | cons s L ih =>
    intro z h
    simp only [List.foldl_cons]
    rw [h s (by simp), ih _ (fun t ht => h t (by simp [ht]))]
theorem kind_rng {x : M} (h : properM x) : 0 ≤ x.kind ∧ x.kind < 256 := by have := proper_kind h; omega
theorem inM_inj {x y : M} (hx : VX x) (hy : VX y) (px : properM x) (py : properM y) (h : inM x = inM y) : x = y := by
  have h1 := kind_eq (x := y) (z := x.kind) (body := (ordL x.kind).flatMap fun s => encF s x) py (kind_rng px).1 (kind_rng px).2 h
  have h2 := (ud_fields (ordL x.kind) (ordL_ten _) x y [] [] hx hy (by rw [List.append_nil, List.append_nil]; exact h1.2)).1
  have h3 := fold_congr x y _ (zM x.kind) h2
  have h4 := proper_built px
  have h5 := proper_built py
  rw [h1.1] at h5
  rw [← h4, h3, h5]
theorem inM_pos (m : M) : 1 ≤ (inM m).length := by unfold inM; simp
theorem T3.inj {u en u' en' : Nat} {er er' : Int} (h : Ending.returned (T3 u en er) = .returned (T3 u' en' er')) : u = u' ∧ en = en' ∧ er = er' := by
  simp only [T3, Ending.returned.injEq, Value.tuple.injEq, Array.mk.injEq, List.cons.injEq, Value.int.injEq, true_and, and_true] at h
  omega
theorem upost_frame {N u en : Nat} {er : Int} {r : List UInt8} (hN : N < 18446744073709551616) (h : UPost (bytesU N ++ r) 0 (.returned (T3 u en er))) : er = 0 ∧ u = N ∧ en = (bytesU N).length := by
  rcases UPost.cases (at_ := 0) h (Nat.zero_le _) with ⟨n, e2, h1, h2, h3, h4, h5⟩ | ⟨er2, h1, h2, h3, h4⟩
  · obtain ⟨rfl, rfl, rfl⟩ := T3.inj h1
    rw [List.drop_zero] at h3
    obtain ⟨rfl, _⟩ := ud_U hN h2 h3
    exact ⟨rfl, rfl, by omega⟩
  · exact absurd (List.drop_zero) (h4 N hN r)
theorem upost_short {l : List UInt8} {u en : Nat} {er : Int} (h9 : l.length ≤ 9) (ha : ∀ i (h : i < l.length), 128 ≤ l[i].toNat) (h : UPost l 0 (.returned (T3 u en er))) : er = 210 := by
  rcases h with ⟨_, h2⟩ | ⟨_, j, hj, h⟩
  · exact (T3.inj (u' := 0) (en' := 0) h2).2.2
  · have hj2 : IsLast l j := hj
    have h1 : j = l.length := hj2.unique ⟨h9, Nat.le_refl _, fun i hi _ => ha i hi, fun h => by omega⟩
    have h2 := h
    rw [uAns_more (by rw [h1]; exact Nat.le_refl _)] at h2
    exact (T3.inj (u' := 0) (en' := 0) h2).2.2
theorem upost_code {l : List UInt8} {u en : Nat} {er : Int} (h : UPost l 0 (.returned (T3 u en er))) : er = 0 ∨ er = 210 ∨ er = 211 := by
  rcases UPost.cases (at_ := 0) h (Nat.zero_le _) with ⟨n, e2, h1, _⟩ | ⟨er2, h1, _, h3, _⟩
  · exact .inl (T3.inj h1).2.2
  · have := (T3.inj (u' := 0) (en' := 0) h1).2.2
    omega
theorem dec_frame {x m : M} {n : Nat} {c : Int} {r : List UInt8} (hm : VX m) (pm : properM m) (hl : (inM m).length ≤ 1048576) (h : DecR (frameM m ++ r) x n c) : c = 0 ∧ x = m ∧ n = (frameM m).length := by
  obtain ⟨u, en, er, hu, hu2, h⟩ := h
  unfold frameM at hu h ⊢
  rw [List.append_assoc] at hu h
  have hp := inM_pos m
  obtain ⟨rfl, rfl, rfl⟩ := upost_frame (by omega) hu
  rcases h with ⟨h1, _⟩ | ⟨_, _, _, _, h⟩
  · exact (h1 rfl).elim
  · rw [List.drop_left, List.take_left] at h
    simp only [List.length_append] at h
    rcases h with ⟨h1, _⟩ | ⟨_, _, h1, _⟩ | ⟨_, _, _, ⟨h1, hx, px, h2, h3⟩ | ⟨_, _, _, h2⟩⟩
    · omega
    · omega
    · exact ⟨h1, inM_inj hx hm px pm h2.symm, by rw [List.length_append]; exact h3⟩
    · exact absurd rfl (h2 m hm pm)
theorem dec_cut {y m : M} {n k : Nat} {c : Int} (hl : (inM m).length ≤ 1048576) (hk : k < (frameM m).length) (h : DecR ((frameM m).take k) y n c) : c = 210 ∧ y = zM 0 ∧ n = 0 := by
  obtain ⟨u, en, er, hu, hu2, h⟩ := h
  unfold frameM at hu h hk
  rw [List.length_append] at hk
  have hp := inM_pos m
  by_cases hs : k < (bytesU (inM m).length).length
  · rw [List.take_append_of_le_length (by omega)] at hu h
    have h10 := bytesU_le (inM m).length (by omega)
    have h2 : er = 210 := by
      refine upost_short (by rw [List.length_take]; omega) (fun i hi => ?_) hu
      rw [List.length_take] at hi
      rw [List.getElem_take]
      exact (bytesU_groups _).1 i (by omega) (by omega)
    subst h2
    rcases h with ⟨_, h1, h2, h3⟩ | ⟨h1, _⟩
    · exact ⟨h1, h2, h3⟩
    · omega
  · rw [List.take_append, List.take_of_length_le (by omega)] at hu h
    obtain ⟨rfl, rfl, rfl⟩ := upost_frame (by omega) hu
    rcases h with ⟨h1, _⟩ | ⟨_, _, _, _, h⟩
    · exact (h1 rfl).elim
    · simp only [List.length_append, List.length_take] at h
      rcases h with ⟨h1, _⟩ | ⟨_, _, h1, h2, h3, h4⟩ | ⟨_, _, h1, _⟩
      · omega
      · exact ⟨h2, h3, h4⟩
      · omega
theorem dec_one {l : List UInt8} {m : M} {n : Nat} (h : DecR l m n 0) : VX m ∧ properM m ∧ (inM m).length ≤ 1048576 ∧ n = (frameM m).length ∧ l.take n = frameM m ∧ n ≤ l.length ∧ 2 ≤ n := by
  obtain ⟨u, en, er, hu, hu2, h⟩ := h
  rcases h with ⟨h1, h2, _⟩ | ⟨_, hl, hen, hle, h⟩
  · exact (h1 h2.symm).elim
  · rcases h with ⟨_, h1, _⟩ | ⟨_, _, _, h1, _⟩ | ⟨h1, h2, h3, ⟨_, hx, px, h4, h5⟩ | ⟨h4, _⟩⟩
    · omega
    · omega
    · have hlen := congrArg List.length h4
      rw [List.length_take, List.length_drop, Nat.min_eq_left h3] at hlen
      have hpos := bytesU_pos u
      refine ⟨hx, px, by omega, ?_, ?_, by omega, by omega⟩
      · unfold frameM; rw [List.length_append, ← hlen]; omega
      · unfold frameM
        rw [← hlen, ← h4, h5, hl, ← hl, List.take_add]
        congr 1
        rw [hl, hen, List.take_left]
    · omega
theorem dec_code {l : List UInt8} {m : M} {n : Nat} {c : Int} (h : DecR l m n c) : c = 0 ∨ (m = zM 0 ∧ n = 0 ∧ (c = 210 ∨ c = 211 ∨ c = 212)) := by
  obtain ⟨u, en, er, hu, hu2, h⟩ := h
  rcases h with ⟨h1, h2, h3, h4⟩ | ⟨_, hl, hen, hle, h⟩
  · have := upost_code hu
    exact .inr ⟨h3, h4, by omega⟩
  · rcases h with ⟨_, h1, h2, h3⟩ | ⟨_, _, _, h1, h2, h3⟩ | ⟨_, _, _, ⟨h1, _⟩ | ⟨h1, h2, h3, _⟩⟩
    · exact .inr ⟨h2, h3, by omega⟩
    · exact .inr ⟨h2, h3, by omega⟩
    · exact .inl h1
    · exact .inr ⟨h2, h3, by omega⟩
theorem frame_inj {x y : M} {r r' : List UInt8} (hx : VX x) (hy : VX y) (px : properM x) (py : properM y) (lx : (inM x).length ≤ 1048576) (ly : (inM y).length ≤ 1048576) (h : frameM x ++ r = frameM y ++ r') : x = y ∧ r = r' := by
  unfold frameM at h
  rw [List.append_assoc, List.append_assoc] at h
  obtain ⟨h1, h2⟩ := ud_U (by omega) (by omega) h
  obtain ⟨h3, h4⟩ := List.append_inj h2 h1
  exact ⟨inM_inj hx hy px py h3, h4⟩
/-- Decode's answer is one. -/
theorem dec_det {l : List UInt8} {m m' : M} {n n' : Nat} {c c' : Int} (h : DecR l m n c) (h' : DecR l m' n' c') : m = m' ∧ n = n' ∧ c = c' := by
  by_cases h0 : c = 0
  · subst h0
    obtain ⟨hx, px, lx, hn, ht, hle, _⟩ := dec_one h
    have hl : l = frameM m ++ l.drop n := by rw [← ht, List.take_append_drop]
    rw [hl] at h'
    obtain ⟨h1, h2, h3⟩ := dec_frame hx px lx h'
    exact ⟨h2.symm, by rw [h3, hn], h1.symm⟩
  · by_cases h0' : c' = 0
    · subst h0'
      obtain ⟨hx, px, lx, hn, ht, hle, _⟩ := dec_one h'
      have hl : l = frameM m' ++ l.drop n' := by rw [← ht, List.take_append_drop]
      rw [hl] at h
      obtain ⟨h1, h2, h3⟩ := dec_frame hx px lx h
      exact ⟨h2, by rw [h3, hn], h1⟩
    · rcases dec_code h with h1 | ⟨h1, h2, h3⟩
      · exact (h0 h1).elim
      · rcases dec_code h' with h4 | ⟨h4, h5, h6⟩
        · exact (h0' h4).elim
        · refine ⟨by rw [h1, h4], by rw [h2, h5], ?_⟩
          obtain ⟨u, en, er, hu, hu2, h⟩ := h
          obtain ⟨u', en', er', hu', hu2', h'⟩ := h'
          have hue : Ending.returned (T3 u en er) = .returned (T3 u' en' er') := hu.unique hu'
          obtain ⟨rfl, rfl, rfl⟩ := T3.inj hue
          rcases h with ⟨g1, g2, _⟩ | ⟨g0, _, _, _, h⟩
          · rcases h' with ⟨_, k2, _⟩ | ⟨k0, _⟩
            · rw [g2, k2]
            · exact (g1 k0).elim
          · rcases h' with ⟨k1, _⟩ | ⟨_, _, _, _, h'⟩
            · exact (k1 g0).elim
            · rcases h with ⟨_, g1, _⟩ | ⟨_, _, _, g1, _⟩ | ⟨_, _, _, ⟨g1, _⟩ | ⟨g1, _⟩⟩ <;>
              rcases h' with ⟨_, k1, _⟩ | ⟨_, _, _, k1, _⟩ | ⟨_, _, _, ⟨k1, _⟩ | ⟨k1, _⟩⟩ <;> omega
/-- How many bytes a message's texts and lists take at most. -/
def roomM (m : M) : Nat := 200 + m.schema.size + m.query.size + m.image.length + 20 * m.names.length + 10 * m.lens.length + 11 * m.vals.length
theorem flat_le2 {α : Type} (f : α → List UInt8) (c : Nat) (l : List α) (h : ∀ v ∈ l, (f v).length ≤ c) : (l.flatMap f).length ≤ c * l.length := by
  have := flat_le f c l h
  rw [Nat.mul_comm]; exact this
theorem len_text (s : ByteArray) (h : s.size ≤ 1073741824) : (encText s).length ≤ 10 + s.size := by
  have := bytesU_le s.size (by omega)
  unfold encText
  rw [List.length_append]
  have h2 : s.data.toList.length = s.size := by rw [Array.length_toList]; rfl
  omega
theorem len_image (l : List UInt8) (h : l.length ≤ 1073741824) : (bytesU l.length ++ l).length ≤ 10 + l.length := by
  have := bytesU_le l.length (by omega)
  rw [List.length_append]
  omega
theorem len_event {m : M} (h : WfM m) : (encEvent m).length ≤ 110 := by
  have h1 := bytesI_le _ h.ts
  have h2 := bytesU_le m.id.toNat (by have := h.id; unfold U64 at this; omega)
  have h3 := bytesI_le _ h.typ
  have h4 := flat_le bytesI 10 (attrs m) (fun v hv => by
    unfold attrs at hv
    simp only [List.mem_cons, List.not_mem_nil, or_false] at hv
    rcases hv with rfl | rfl | rfl | rfl | rfl | rfl | rfl | rfl
    · exact bytesI_le _ h.a0
    · exact bytesI_le _ h.a1
    · exact bytesI_le _ h.a2
    · exact bytesI_le _ h.a3
    · exact bytesI_le _ h.a4
    · exact bytesI_le _ h.a5
    · exact bytesI_le _ h.a6
    · exact bytesI_le _ h.a7)
  have h5 : (attrs m).length = 8 := rfl
  unfold encEvent
  simp only [List.length_append]
  omega
theorem len_sizes {m : M} (h : WfM m) : (encSizes m).length ≤ 51 := by
  have h1 := bytesI_le _ h.mark
  have h2 := byT_len m.closed
  have h4 := flat_le bytesI 10 [m.held, m.kept, m.waiting, m.parts] (fun v hv => by
    simp only [List.mem_cons, List.not_mem_nil, or_false] at hv
    rcases hv with rfl | rfl | rfl | rfl
    · exact bytesI_le _ h.held
    · exact bytesI_le _ h.kept
    · exact bytesI_le _ h.waiting
    · exact bytesI_le _ h.parts)
  have h5 : [m.held, m.kept, m.waiting, m.parts].length = 4 := rfl
  unfold encSizes
  simp only [List.length_append]
  omega
theorem len_fault {m : M} (h : WfM m) : (encFault m).length ≤ 30 := by
  have h1 := bytesI_le _ h.fwhere
  have h2 := bytesI_le _ h.fcode
  have h3 := bytesI_le _ h.fat
  unfold encFault
  simp only [List.length_append]
  omega
theorem len_match {m : M} (h : WfM m) : (encMatch m).length ≤ 40 + 20 * m.names.length + 10 * m.lens.length + 11 * m.vals.length := by
  have h1 := bytesI_le _ h.dec
  have h2 := flat_le2 encName 20 m.names (fun v hv => by
    have h3 := bytesI_le _ (h.names v hv).1
    have h4 := bytesU_le v.2.toNat (by have := (h.names v hv).2; unfold U64 at this; omega)
    unfold encName
    rw [List.length_append]
    omega)
  have h3 := flat_le2 bytesI 10 m.lens (fun v hv => bytesI_le _ (h.lens v hv))
  have h4 := flat_le2 encVal 11 m.vals (fun v hv => encVal_le (h.vals v hv))
  have h5 := bytesU_le m.names.length (by have := h.nl; omega)
  have h6 := bytesU_le m.lens.length (by have := h.ll; omega)
  have h7 := bytesU_le m.vals.length (by have := h.vl; omega)
  unfold encMatch encNames encLens encVals
  simp only [List.length_append]
  omega
theorem ordL_vals (k : Int) : ordL k = (["sluice/wire.number"] : List String) ∨ ordL k = (["sluice/wire.schema", "sluice/wire.query", "sluice/wire.number"] : List String) ∨ ordL k = (["sluice/wire.handle", "sluice/wire.event"] : List String) ∨ ordL k = (["sluice/wire.handle", "sluice/wire.number"] : List String) ∨ ordL k = (["sluice/wire.handle"] : List String) ∨ ordL k = (["sluice/wire.image"] : List String) ∨ ordL k = (["sluice/wire.code"] : List String) ∨ ordL k = (["sluice/wire.fault"] : List String) ∨ ordL k = (["sluice/wire.handle", "sluice/wire.match"] : List String) ∨ ordL k = (["sluice/wire.handle", "sluice/wire.sizes"] : List String) ∨ ordL k = (["sluice/wire.handle", "sluice/wire.image"] : List String) ∨ ordL k = ([] : List String) := by
  unfold ordL
  repeat' split
  all_goals simp
theorem enc_field (s : String) (m : M) : encF s m = encF s m := rfl
set_option maxHeartbeats 2000000 in
theorem room_le {m : M} (h : WfM m) (hp : properM m) : (inM m).length ≤ roomM m := by
  have h1 := bytesI_le _ h.num
  have h2 : (bytesU m.handle.toNat).length ≤ 10 := bytesU_le _ (by have h0 := h.handle; unfold I64 at h0; omega)
  have h3 := bytesI_le _ h.code
  have h4 := len_text _ h.sl
  have h5 := len_text _ h.ql
  have h6 := len_image _ h.il
  have h7 := len_event h
  have h8 := len_match h
  have h9 := len_sizes h
  have h10 := len_fault h
  rw [List.length_append] at h6
  clear h hp
  unfold inM roomM
  have hv := ordL_vals m.kind
  generalize ordL m.kind = L at hv ⊢
  rcases hv with rfl | rfl | rfl | rfl | rfl | rfl | rfl | rfl | rfl | rfl | rfl | rfl
  all_goals
    simp (decide := true) only [List.length_cons, List.flatMap_cons, List.flatMap_nil, List.length_append, List.length_nil, encF, if_true, if_false]
    omega
end Go.Proofs.Ytaipnbpefdcejaa
