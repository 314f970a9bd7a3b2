/- Joined by wip/tools/merge.py out of: Open Encodes Room Encd Alive MsgL All. -/
import Derived.Test.YtaipnbpefdcejaaMB
import Derived.Test.YtaipnbpefdcejaaBulk
import Derived.Deep.Slices
import Derived.OpenShut
import Derived.WideShapes
import Derived.Test.YtaipnbpefdcejaaMJ
import Derived.Test.YtaipnbpefdcejaaMH
import Derived.Test.YtaipnbpefdcejaaMI
/- A message that comes in: its plain data, how its lists read, and its bulk. -/
set_option linter.unusedVariables false
namespace Go.Proofs.Ytaipnbpefdcejaa
open Go.RowKit
theorem flat_get {α : Type} (f : α → List Value) (k : Nat) (hk : 0 < k) (hf : ∀ v, (f v).length = k) : ∀ (l : List α) (j : Nat), (l.flatMap f)[j]? = (l[j / k]?).bind fun v => (f v)[j % k]? := by
  intro l
  induction l with
  | nil => intro j; simp
  | cons v l ih =>
    intro j
    rw [List.flatMap_cons]
    by_cases h : j < k
    · rw [List.getElem?_append_left (by rw [hf]; exact h), Nat.div_eq_of_lt h, Nat.mod_eq_of_lt h]
      rfl
    · rw [List.getElem?_append_right (by rw [hf]; omega), hf, ih]
      have h1 : j / k = (j - k) / k + 1 := by
        rw [← Nat.sub_add_cancel (show k ≤ j by omega), Nat.add_div_right _ hk, Nat.add_sub_cancel]
      have h2 : j % k = (j - k) % k := by
        rw [← Nat.sub_add_cancel (show k ≤ j by omega), Nat.add_mod_right, Nat.add_sub_cancel]
      rw [h1, h2, List.getElem?_cons_succ]
section
variable {H : Type} {enc : TypeId × Value → H} {P : Program} {W : World}
theorem bulk_get {xs : List (DataW H × List MemPlace)} {i : Nat} {y : DataW H × List MemPlace} (h : xs[i]? = some y) : Rows.uptoBulk y.1 ≤ Rows.uptoBulkAll (xs.map (·.1)) := by
  induction xs generalizing i with
  | nil => simp at h
  | cons z xs ih =>
    cases i with
    | zero =>
      simp at h
      subst h
      simp only [List.map_cons, Rows.uptoBulkAll]
      omega
    | succ i =>
      have := ih (by simpa using h)
      simp only [List.map_cons, Rows.uptoBulkAll]
      omega
theorem open_list {α : Type} [Inhabited α] (f : α → List Value) (k : Nat) (hk : 0 < k) (hf : ∀ v, (f v).length = k) (ok : α → Prop) {t e : TypeId} (ht : P.underlying t = some (.slice e)) (hc : P.cellsOf e = k)
    (hel : ∀ n cs y, DataW.trod enc P W 0 (fun _ => true) true n e cs = some y → ∃ v, cs = f v ∧ ok v) {fuel : Nat} {cs : List Value} {x : DataW H × List MemPlace} (h : DataW.trod enc P W 0 (fun _ => true) true fuel t cs = some x) :
    ∃ (a : Option Addr) (c : Nat) (l : List α), cs = [.slice a l.length c] ∧ Rd W a (l.flatMap f) ∧ (∀ v ∈ l, ok v) ∧ l.length + 1 ≤ Rows.uptoBulk x.1 := by
  rcases DataW.trod_slice ht h with ⟨rfl, rfl⟩ | ⟨a, len, cap, elems, rest, n, _, rfl, rfl, _, hl, _, hlen, hei, _, _⟩
  · exact ⟨none, 0, [], rfl, Rd.nil _ _, fun v hv => by simp at hv, by simp [Rows.uptoBulk]⟩
  · rw [hc] at hei
    have hex : ∀ i, i < len → ∃ v, ok v ∧ ∀ r, r < k → W.cell? (a.add (i * k + r)) = (f v)[r]? := by
      intro i hi
      have h1 := hei i hi
      rw [List.getElem?_eq_getElem (by omega)] at h1
      obtain ⟨cs', h2, h3⟩ := Option.bind_eq_some_iff.1 h1
      obtain ⟨v, rfl, hv⟩ := hel n cs' _ h3
      obtain ⟨_, _, h4⟩ := World.cells?_some h2
      refine ⟨v, hv, fun r hr => ?_⟩
      rw [← h4 r hr, Go.Deep.add_add]
    obtain ⟨V, hV⟩ := Go.Deep.choose_lt hex
    have hll : ((List.range len).map V).length = len := by simp
    refine ⟨some a, cap, (List.range len).map V, by rw [hll], ?_, fun v hv => ?_, ?_⟩
    · by_cases h0 : len = 0
      · left; subst h0; rfl
      · right
        obtain ⟨b, off, spot⟩ := a
        have h1 := (hV 0 (by omega)).2 0 hk
        obtain ⟨u, hu⟩ : ∃ u, (f (V 0))[0]? = some u := ⟨_, List.getElem?_eq_getElem (by rw [hf]; exact hk)⟩
        rw [hu] at h1
        have hspot : spot = none := by simpa [Addr.add] using World.cell?_spot h1
        subst hspot
        refine ⟨b, off, rfl, fun j u hu => ?_⟩
        rw [flat_get f k hk hf, List.getElem?_map] at hu
        by_cases hj : j / k < len
        · rw [List.getElem?_range hj] at hu
          have h2 := (hV (j / k) hj).2 (j % k) (Nat.mod_lt _ hk)
          rw [Addr.add_lit, Nat.div_add_mod'] at h2
          rw [h2]
          exact hu
        · rw [List.getElem?_eq_none (by simpa using hj)] at hu
          simp at hu
    · obtain ⟨i, hi, rfl⟩ := List.mem_map.1 hv
      exact (hV i (by simpa using hi)).1
    · have h1 := bulk_len (elems.map (·.1))
      simp only [List.length_map] at h1
      rw [hll]
      simp only [Rows.uptoBulk]
      omega
theorem pc (cs : List Value) (o s r : Nat) (h : o + s = r) : cs.drop o = (cs.drop o).take s ++ cs.drop r := by
  subst h
  rw [← List.drop_drop, List.take_append_drop]
theorem fld {fs : Array Field} {n : Nat} {cs : List Value} {xs : List (DataW H × List MemPlace)} (hl : xs.length = fs.size)
    (hf : ∀ (i : Nat) (f : Field), fs[i]? = some f → DataW.trod enc P W 0 (fun _ => true) true n f.type ((cs.drop f.offset).take (P.cellsOf f.type)) = xs[i]?) (i : Nat) (f : Field) (hi : fs[i]? = some f) (T o s : Nat) (hT : f.type = T) (ho : f.offset = o) (hs : P.cellsOf T = s) :
    ∃ y, xs[i]? = some y ∧ DataW.trod enc P W 0 (fun _ => true) true n T ((cs.drop o).take s) = some y := by
  subst hT; subst ho; subst hs
  have h1 : i < xs.length := by rw [hl]; exact (Array.getElem?_eq_some_iff.1 hi).1
  exact ⟨_, List.getElem?_eq_getElem h1, (hf i f hi).trans (List.getElem?_eq_getElem h1)⟩
end
section
variable {H : Type} {enc : TypeId × Value → H} {W : World} {n : Nat} {cs : List Value} {x : DataW H × List MemPlace}
abbrev TR (H : Type) (enc : TypeId × Value → H) (W : World) (n T : Nat) (cs : List Value) (x : DataW H × List MemPlace) : Prop := DataW.trod enc Try.prog W 0 (fun _ => true) true n T cs = some x
theorem i64_of {z : Int} (h : (Lit.int .i64 z).wf = true) : I64 z := by
  simp [Lit.wf, IntKind.min, IntKind.max, IntKind.bits, IntKind.signed] at h
  unfold I64
  omega
theorem u64_of {z : Int} (h : (Lit.int .u64 z).wf = true) : U64 z := by
  simp [Lit.wf, IntKind.min, IntKind.max, IntKind.bits, IntKind.signed] at h
  unfold U64
  omega
theorem o_i64 {T : Nat} (ht : Try.prog.underlying T = some (.int .i64)) (h : TR H enc W n T cs x) : ∃ z, cs = [.int .i64 z] ∧ I64 z := by
  obtain ⟨z, h1, _, h2⟩ := DataW.trod_int ht h
  exact ⟨z, h1, i64_of h2⟩
theorem o_u64 {T : Nat} (ht : Try.prog.underlying T = some (.int .u64)) (h : TR H enc W n T cs x) : ∃ z, cs = [.int .u64 z] ∧ U64 z := by
  obtain ⟨z, h1, _, h2⟩ := DataW.trod_int ht h
  exact ⟨z, h1, u64_of h2⟩
theorem o_bool (h : TR H enc W n 4 cs x) : ∃ b, cs = [.bool b] := by
  obtain ⟨b, h1, _⟩ := DataW.trod_bool Try.underlying4 h
  exact ⟨b, h1⟩
theorem o_str (h : TR H enc W n 9 cs x) : ∃ s : ByteArray, cs = [.string s] ∧ s.size + 1 ≤ Rows.uptoBulk x.1 := by
  obtain ⟨s, h1, h2, _⟩ := DataW.trod_string Try.underlying9 h
  refine ⟨s, h1, ?_⟩
  rw [h2]
  simp only [Rows.uptoBulk]
  rw [Array.length_toList]
  exact Nat.le_refl _
/-- What a struct's fields are: by place. -/
theorem all_drop {N : Nat} (h : cs.length = N) : cs.drop N = [] := List.drop_eq_nil_of_le (by omega)
theorem o_name (h : TR H enc W n 89 cs x) : ∃ v : Int × Int, cs = [.int .i64 v.1, .int .u64 v.2] ∧ (I64 v.1 ∧ U64 v.2) := by
  obtain ⟨xs, m, _, _, hlen, hl, hf⟩ := DataW.trod_struct Try.underlying89 h
  have hlen : cs.length = 2 := hlen.trans (by kernel_rfl)
  obtain ⟨y0, _, h0⟩ := fld hl hf 0 _ rfl 2 0 1 rfl rfl (by kernel_rfl)
  obtain ⟨y1, _, h1⟩ := fld hl hf 1 _ rfl 25 1 1 rfl rfl (by kernel_rfl)
  obtain ⟨a, ha, wa⟩ := o_i64 Try.underlying2 h0
  obtain ⟨b, hb, wb⟩ := o_u64 Try.underlying25 h1
  refine ⟨(a, b), ?_, wa, wb⟩
  rw [← List.drop_zero (l := cs), pc cs 0 1 1 rfl, pc cs 1 1 2 rfl, all_drop hlen, ha, hb]
  rfl
theorem o_val (h : TR H enc W n 74 cs x) : ∃ v : Bool × Int, cs = [.bool v.1, .int .i64 v.2] ∧ I64 v.2 := by
  obtain ⟨xs, m, _, _, hlen, hl, hf⟩ := DataW.trod_struct Try.underlying74 h
  have hlen : cs.length = 2 := hlen.trans (by kernel_rfl)
  obtain ⟨y0, _, h0⟩ := fld hl hf 0 _ rfl 4 0 1 rfl rfl (by kernel_rfl)
  obtain ⟨y1, _, h1⟩ := fld hl hf 1 _ rfl 2 1 1 rfl rfl (by kernel_rfl)
  obtain ⟨a, ha⟩ := o_bool h0
  obtain ⟨b, hb, wb⟩ := o_i64 Try.underlying2 h1
  refine ⟨(a, b), ?_, wb⟩
  rw [← List.drop_zero (l := cs), pc cs 0 1 1 rfl, pc cs 1 1 2 rfl, all_drop hlen, ha, hb]
  rfl
theorem o_arr (h : TR H enc W n 37 cs x) : ∃ a0 a1 a2 a3 a4 a5 a6 a7 : Int, cs = [.int .i64 a0, .int .i64 a1, .int .i64 a2, .int .i64 a3, .int .i64 a4, .int .i64 a5, .int .i64 a6, .int .i64 a7] ∧ I64 a0 ∧ I64 a1 ∧ I64 a2 ∧ I64 a3 ∧ I64 a4 ∧ I64 a5 ∧ I64 a6 ∧ I64 a7 := by
  obtain ⟨xs, m, _, _, hlen, hl, hf⟩ := DataW.trod_array Try.underlying37 h
  have hlen : cs.length = 8 := hlen.trans (by kernel_rfl)
  have h1 : Try.prog.cellsOf 2 = 1 := by kernel_rfl
  rw [h1] at hf
  have g : ∀ i, i < 8 → ∃ z, (cs.drop i).take 1 = [.int .i64 z] ∧ I64 z := by
    intro i hi
    have h2 := hf i hi
    rw [Nat.mul_one, List.getElem?_eq_getElem (by omega)] at h2
    exact o_i64 Try.underlying2 h2
  obtain ⟨a0, e0, w0⟩ := g 0 (by omega)
  obtain ⟨a1, e1, w1⟩ := g 1 (by omega)
  obtain ⟨a2, e2, w2⟩ := g 2 (by omega)
  obtain ⟨a3, e3, w3⟩ := g 3 (by omega)
  obtain ⟨a4, e4, w4⟩ := g 4 (by omega)
  obtain ⟨a5, e5, w5⟩ := g 5 (by omega)
  obtain ⟨a6, e6, w6⟩ := g 6 (by omega)
  obtain ⟨a7, e7, w7⟩ := g 7 (by omega)
  refine ⟨a0, a1, a2, a3, a4, a5, a6, a7, ?_, w0, w1, w2, w3, w4, w5, w6, w7⟩
  rw [← List.drop_zero (l := cs), pc cs 0 1 1 rfl, pc cs 1 1 2 rfl, pc cs 2 1 3 rfl, pc cs 3 1 4 rfl, pc cs 4 1 5 rfl, pc cs 5 1 6 rfl, pc cs 6 1 7 rfl, pc cs 7 1 8 rfl, all_drop hlen, e0, e1, e2, e3, e4, e5, e6, e7]
  rfl
theorem o_event (h : TR H enc W n 39 cs x) : ∃ ts id typ a0 a1 a2 a3 a4 a5 a6 a7 : Int, cs = [.int .i64 ts, .int .u64 id, .int .i64 typ, .int .i64 a0, .int .i64 a1, .int .i64 a2, .int .i64 a3, .int .i64 a4, .int .i64 a5, .int .i64 a6, .int .i64 a7] ∧
    (I64 ts ∧ U64 id ∧ I64 typ) ∧ I64 a0 ∧ I64 a1 ∧ I64 a2 ∧ I64 a3 ∧ I64 a4 ∧ I64 a5 ∧ I64 a6 ∧ I64 a7 := by
  obtain ⟨xs, m, _, _, hlen, hl, hf⟩ := DataW.trod_struct Try.underlying39 h
  have hlen : cs.length = 11 := hlen.trans (by kernel_rfl)
  obtain ⟨y0, _, h0⟩ := fld hl hf 0 _ rfl 2 0 1 rfl rfl (by kernel_rfl)
  obtain ⟨y1, _, h1⟩ := fld hl hf 1 _ rfl 25 1 1 rfl rfl (by kernel_rfl)
  obtain ⟨y2, _, h2⟩ := fld hl hf 2 _ rfl 3 2 1 rfl rfl (by kernel_rfl)
  obtain ⟨y3, _, h3⟩ := fld hl hf 3 _ rfl 37 3 8 rfl rfl (by kernel_rfl)
  obtain ⟨ts, e0, w0⟩ := o_i64 Try.underlying2 h0
  obtain ⟨id, e1, w1⟩ := o_u64 Try.underlying25 h1
  obtain ⟨typ, e2, w2⟩ := o_i64 Try.underlying3 h2
  obtain ⟨a0, a1, a2, a3, a4, a5, a6, a7, e3, w3⟩ := o_arr h3
  refine ⟨ts, id, typ, a0, a1, a2, a3, a4, a5, a6, a7, ?_, ⟨w0, w1, w2⟩, w3⟩
  rw [← List.drop_zero (l := cs), pc cs 0 1 1 rfl, pc cs 1 1 2 rfl, pc cs 2 1 3 rfl, pc cs 3 8 11 rfl, all_drop hlen, e0, e1, e2, e3]
  rfl
theorem o_sizes (h : TR H enc W n 46 cs x) : ∃ (mark : Int) (closed : Bool) (held kept waiting parts : Int), cs = [.int .i64 mark, .bool closed, .int .i64 held, .int .i64 kept, .int .i64 waiting, .int .i64 parts] ∧ I64 mark ∧ I64 held ∧ I64 kept ∧ I64 waiting ∧ I64 parts := by
  obtain ⟨xs, m, _, _, hlen, hl, hf⟩ := DataW.trod_struct Try.underlying46 h
  have hlen : cs.length = 6 := hlen.trans (by kernel_rfl)
  obtain ⟨y0, _, h0⟩ := fld hl hf 0 _ rfl 2 0 1 rfl rfl (by kernel_rfl)
  obtain ⟨y1, _, h1⟩ := fld hl hf 1 _ rfl 4 1 1 rfl rfl (by kernel_rfl)
  obtain ⟨y2, _, h2⟩ := fld hl hf 2 _ rfl 3 2 1 rfl rfl (by kernel_rfl)
  obtain ⟨y3, _, h3⟩ := fld hl hf 3 _ rfl 3 3 1 rfl rfl (by kernel_rfl)
  obtain ⟨y4, _, h4⟩ := fld hl hf 4 _ rfl 3 4 1 rfl rfl (by kernel_rfl)
  obtain ⟨y5, _, h5⟩ := fld hl hf 5 _ rfl 3 5 1 rfl rfl (by kernel_rfl)
  obtain ⟨z0, e0, w0⟩ := o_i64 Try.underlying2 h0
  obtain ⟨z1, e1⟩ := o_bool h1
  obtain ⟨z2, e2, w2⟩ := o_i64 Try.underlying3 h2
  obtain ⟨z3, e3, w3⟩ := o_i64 Try.underlying3 h3
  obtain ⟨z4, e4, w4⟩ := o_i64 Try.underlying3 h4
  obtain ⟨z5, e5, w5⟩ := o_i64 Try.underlying3 h5
  refine ⟨z0, z1, z2, z3, z4, z5, ?_, w0, w2, w3, w4, w5⟩
  rw [← List.drop_zero (l := cs), pc cs 0 1 1 rfl, pc cs 1 1 2 rfl, pc cs 2 1 3 rfl, pc cs 3 1 4 rfl, pc cs 4 1 5 rfl, pc cs 5 1 6 rfl, all_drop hlen, e0, e1, e2, e3, e4, e5]
  rfl
theorem o_fault (h : TR H enc W n 48 cs x) : ∃ a b c : Int, cs = [.int .i64 a, .int .i64 b, .int .i64 c] ∧ I64 a ∧ I64 b ∧ I64 c := by
  obtain ⟨xs, m, _, _, hlen, hl, hf⟩ := DataW.trod_struct Try.underlying48 h
  have hlen : cs.length = 3 := hlen.trans (by kernel_rfl)
  obtain ⟨y0, _, h0⟩ := fld hl hf 0 _ rfl 3 0 1 rfl rfl (by kernel_rfl)
  obtain ⟨y1, _, h1⟩ := fld hl hf 1 _ rfl 26 1 1 rfl rfl (by kernel_rfl)
  obtain ⟨y2, _, h2⟩ := fld hl hf 2 _ rfl 3 2 1 rfl rfl (by kernel_rfl)
  obtain ⟨z0, e0, w0⟩ := o_i64 Try.underlying3 h0
  obtain ⟨z1, e1, w1⟩ := o_i64 Try.underlying26 h1
  obtain ⟨z2, e2, w2⟩ := o_i64 Try.underlying3 h2
  refine ⟨z0, z1, z2, ?_, w0, w1, w2⟩
  rw [← List.drop_zero (l := cs), pc cs 0 1 1 rfl, pc cs 1 1 2 rfl, pc cs 2 1 3 rfl, all_drop hlen, e0, e1, e2]
  rfl
theorem o_match (h : TR H enc W n 44 cs x) : ∃ (dec : Int) (an : Option Addr) (cn : Nat) (al : Option Addr) (cl : Nat) (av : Option Addr) (cv : Nat) (names : List (Int × Int)) (lens : List Int) (vals : List (Bool × Int)),
    cs = [.int .i64 dec, .slice an names.length cn, .slice al lens.length cl, .slice av vals.length cv] ∧ I64 dec ∧ Rd W an (ncells names) ∧ Rd W al (zcells lens) ∧ Rd W av (vcells vals) ∧ (∀ v ∈ names, I64 v.1 ∧ U64 v.2) ∧ (∀ v ∈ lens, I64 v) ∧ (∀ v ∈ vals, I64 v.2) ∧
    names.length ≤ Rows.uptoBulk x.1 ∧ lens.length ≤ Rows.uptoBulk x.1 ∧ vals.length ≤ Rows.uptoBulk x.1 := by
  obtain ⟨xs, m, _, hx, hlen, hl, hf⟩ := DataW.trod_struct Try.underlying44 h
  have hlen : cs.length = 4 := hlen.trans (by kernel_rfl)
  obtain ⟨y0, g0, h0⟩ := fld hl hf 0 _ rfl 2 0 1 rfl rfl (by kernel_rfl)
  obtain ⟨y1, g1, h1⟩ := fld hl hf 1 _ rfl 40 1 1 rfl rfl (by kernel_rfl)
  obtain ⟨y2, g2, h2⟩ := fld hl hf 2 _ rfl 41 2 1 rfl rfl (by kernel_rfl)
  obtain ⟨y3, g3, h3⟩ := fld hl hf 3 _ rfl 42 3 1 rfl rfl (by kernel_rfl)
  obtain ⟨z0, e0, w0⟩ := o_i64 Try.underlying2 h0
  obtain ⟨an, cn, names, e1, r1, w1, b1⟩ := open_list (fun v : Int × Int => [.int .i64 v.1, .int .u64 v.2]) 2 (by omega) (fun _ => rfl) (fun v => I64 v.1 ∧ U64 v.2) Try.underlying40 (by kernel_rfl) (fun _ _ _ h => o_name h) h1
  obtain ⟨al, cl, lens, e2, r2, w2, b2⟩ := open_list (fun v : Int => [.int .i64 v]) 1 (by omega) (fun _ => rfl) I64 Try.underlying41 (by kernel_rfl) (fun _ _ _ h => o_i64 Try.underlying3 h) h2
  obtain ⟨av, cv, vals, e3, r3, w3, b3⟩ := open_list (fun v : Bool × Int => [.bool v.1, .int .i64 v.2]) 2 (by omega) (fun _ => rfl) (fun v => I64 v.2) Try.underlying42 (by kernel_rfl) (fun _ _ _ h => o_val h) h3
  have k1 := bulk_get g1
  have k2 := bulk_get g2
  have k3 := bulk_get g3
  have kx : Rows.uptoBulk x.1 = Rows.uptoBulkAll (xs.map (·.1)) + 1 := by rw [hx]; simp only [Rows.uptoBulk]
  refine ⟨z0, an, cn, al, cl, av, cv, names, lens, vals, ?_, w0, r1, ?_, r3, w1, w2, w3, by omega, by omega, by omega⟩
  · rw [← List.drop_zero (l := cs), pc cs 0 1 1 rfl, pc cs 1 1 2 rfl, pc cs 2 1 3 rfl, pc cs 3 1 4 rfl, all_drop hlen, e0, e1, e2, e3]
    rfl
  · have : zcells lens = lens.flatMap fun v => [.int .i64 v] := by
      clear r2 w2 b2 e2
      induction lens with
      | nil => rfl
      | cons v l ih => show Value.int .i64 v :: zcells l = _; rw [ih]; rfl
    rw [this]
    exact r2
set_option maxRecDepth 20000 in
/-- A message that comes in. -/
theorem open_msg {v : Value} {d : DataW H} {p : List MemPlace} (hv : Value.okWide Try.prog W .any 0 50 v ∨ ∃ cs : Array Value, v = .agg cs) (h : DataW.Trod enc Try.prog W 0 (fun _ => true) true 50 v d p) (hb : Rows.uptoBulk d ≤ 1073741824) :
    ∃ (m : M) (q : Ps), v = valM m q ∧ WfM m ∧ MRd W m q := by
  obtain ⟨cs0, rfl⟩ : ∃ cs : Array Value, v = .agg cs := by
    rcases hv with hv | h
    · obtain ⟨cs, rfl, _⟩ := WideShapes.okWide_struct Try.underlying50 hv
      exact ⟨cs, rfl⟩
    · exact h
  obtain ⟨fuel, hf0⟩ := h
  obtain ⟨xs, n, _, hx, hlen, hl, hf⟩ := DataW.trod_struct Try.underlying50 hf0
  obtain ⟨cs, hcs⟩ : ∃ cs, cs = (Value.agg cs0).cells.toList := ⟨_, rfl⟩
  rw [← hcs] at hlen hf
  have hlen : cs.length = 31 := hlen.trans (by kernel_rfl)
  obtain ⟨y0, g0, h0⟩ := fld hl hf 0 _ rfl 36 0 1 rfl rfl (by kernel_rfl)
  obtain ⟨y1, g1, h1⟩ := fld hl hf 1 _ rfl 3 1 1 rfl rfl (by kernel_rfl)
  obtain ⟨y2, g2, h2⟩ := fld hl hf 2 _ rfl 2 2 1 rfl rfl (by kernel_rfl)
  obtain ⟨y3, g3, h3⟩ := fld hl hf 3 _ rfl 39 3 11 rfl rfl (by kernel_rfl)
  obtain ⟨y4, g4, h4⟩ := fld hl hf 4 _ rfl 44 14 4 rfl rfl (by kernel_rfl)
  obtain ⟨y5, g5, h5⟩ := fld hl hf 5 _ rfl 46 18 6 rfl rfl (by kernel_rfl)
  obtain ⟨y6, g6, h6⟩ := fld hl hf 6 _ rfl 48 24 3 rfl rfl (by kernel_rfl)
  obtain ⟨y7, g7, h7⟩ := fld hl hf 7 _ rfl 26 27 1 rfl rfl (by kernel_rfl)
  obtain ⟨y8, g8, h8⟩ := fld hl hf 8 _ rfl 9 28 1 rfl rfl (by kernel_rfl)
  obtain ⟨y9, g9, h9⟩ := fld hl hf 9 _ rfl 9 29 1 rfl rfl (by kernel_rfl)
  obtain ⟨y10, g10, h10⟩ := fld hl hf 10 _ rfl 23 30 1 rfl rfl (by kernel_rfl)
  obtain ⟨kind, e0, w0⟩ := o_i64 Try.underlying36 h0
  obtain ⟨handle, e1, w1⟩ := o_i64 Try.underlying3 h1
  obtain ⟨num, e2, w2⟩ := o_i64 Try.underlying2 h2
  obtain ⟨ts, id, typ, a0, a1, a2, a3, a4, a5, a6, a7, e3, ⟨w30, w31, w32⟩, w33, w34, w35, w36, w37, w38, w39, w3a⟩ := o_event h3
  obtain ⟨dec, an, cn, al, cl, av, cv, names, lens, vals, e4, w4, r4, r4', r4'', w41, w42, w43, b41, b42, b43⟩ := o_match h4
  obtain ⟨mark, closed, held, kept, waiting, parts, e5, w51, w52, w53, w54, w55⟩ := o_sizes h5
  obtain ⟨fwhere, fcode, fat, e6, w61, w62, w63⟩ := o_fault h6
  obtain ⟨code, e7, w7⟩ := o_i64 Try.underlying26 h7
  obtain ⟨schema, e8, b8⟩ := o_str h8
  obtain ⟨query, e9, b9⟩ := o_str h9
  obtain ⟨ai, ci, image, e10, r10, w10, b10⟩ := open_list (fun v : UInt8 => [B v]) 1 (by omega) (fun _ => rfl) (fun _ => True) Try.underlying23 (by kernel_rfl) (fun _ cs _ h => by
    obtain ⟨z, h1, _, h2⟩ := DataW.trod_int Try.underlying5 h
    refine ⟨UInt8.ofNat z.toNat, ?_, trivial⟩
    simp [Lit.wf, IntKind.min, IntKind.max, IntKind.bits, IntKind.signed] at h2
    rw [h1, B, UInt8.toNat_ofNat']
    congr 2
    omega) h10
  have k4 := bulk_get g4
  have k8 := bulk_get g8
  have k9 := bulk_get g9
  have k10 := bulk_get g10
  have kx : Rows.uptoBulk d = Rows.uptoBulkAll (xs.map (·.1)) + 1 := by
    simp only [Prod.mk.injEq] at hx
    rw [hx.1]
    simp only [Rows.uptoBulk]
  refine ⟨⟨kind, handle, num, ts, id, typ, a0, a1, a2, a3, a4, a5, a6, a7, dec, names, lens, vals, mark, closed, held, kept, waiting, parts, fwhere, fcode, fat, code, schema, query, image⟩, ⟨an, cn, al, cl, av, cv, ai, ci⟩, ?_,
    ⟨w0, w1, w2, w30, w31, w32, w33, w34, w35, w36, w37, w38, w39, w3a, w4, w41, w42, w43, w51, w52, w53, w54, w55, w61, w62, w63, w7, show names.length ≤ 1073741824 by omega, show lens.length ≤ 1073741824 by omega, show vals.length ≤ 1073741824 by omega, show schema.size ≤ 1073741824 by omega, show query.size ≤ 1073741824 by omega, show image.length ≤ 1073741824 by omega⟩, r4, r4', r4'', ?_⟩
  · have : cs0.toList = cs := hcs.symm
    unfold valM cellsM
    congr 1
    apply Array.ext'
    rw [this]
    rw [← List.drop_zero (l := cs), pc cs 0 1 1 rfl, pc cs 1 1 2 rfl, pc cs 2 1 3 rfl, pc cs 3 11 14 rfl, pc cs 14 4 18 rfl, pc cs 18 6 24 rfl, pc cs 24 3 27 rfl, pc cs 27 1 28 rfl, pc cs 28 1 29 rfl, pc cs 29 1 30 rfl, pc cs 30 1 31 rfl, all_drop hlen, e0, e1, e2, e3, e4, e5, e6, e7, e8, e9, e10]
    rfl
  · have : image.map B = image.flatMap fun v => [B v] := by
      clear r10 b10 e10 w10
      induction image with
      | nil => rfl
      | cons v l ih => rw [List.map_cons, ih]; rfl
    rw [this]
    exact r10
end
end Go.Proofs.Ytaipnbpefdcejaa
/- The walk of the law WireEncodes. -/
set_option linter.unusedVariables false
namespace Go.Proofs.Ytaipnbpefdcejaa
open Go.RowKit
theorem bool_iff {b c : Bool} {p : Prop} (h : b = true ↔ p) (g : c = true ↔ p) : b = c := by
  cases b <;> cases c <;> simp_all
theorem encA_len (m : M) : (encA m).1.length ≤ 1048600 := by
  unfold encA frameM
  split
  · split
    · rename_i h
      have := bytesU_le (inM m).length (by omega)
      simp only [List.length_append]
      omega
    · simp
  · simp
/-- Two messages of the same data, each in its block. -/
def TW (w : World) (m : M) (p q : Ps) (gm gk : Nat) (x : World) : Prop := Blk x gm 50 (cellsM m p) ∧ Blk x gk 50 (cellsM m q) ∧ MRd x m p ∧ MRd x m q ∧ Below w.heap.size w x
theorem TW.below {w : World} {m : M} {p q : Ps} {gm gk : Nat} {x x' : World} (h : TW w m p q gm gk x) (hb : Below x.heap.size x x') : TW w m p q gm gk x' :=
  ⟨h.1.below hb, h.2.1.below hb, h.2.2.1.below hb, h.2.2.2.1.below hb, h.2.2.2.2.trans (hb.mono h.2.2.2.2.size)⟩
/-- A struct stored whole into a block just made. -/
theorem new_msg (w : World) (m : M) (q : Ps) : Blk ((w.alloc (.cells cellsZ.toArray 50)).setCells w.heap.size 0 (cellsM m q)) w.heap.size 50 (cellsM m q) ∧ Below w.heap.size w ((w.alloc (.cells cellsZ.toArray 50)).setCells w.heap.size 0 (cellsM m q)) ∧
    (w.alloc (.cells cellsZ.toArray 50)).there w.heap.size 0 31 := by
  have hgz : Blk (w.alloc (.cells cellsZ.toArray 50)) w.heap.size 50 cellsZ := Blk.new w _ 50
  have hst := Blk.setCells (cellsM m q) 0 _ _ hgz (by rw [cellsM_len]; exact Nat.le_refl _)
  rw [spl_all (show (cellsM m q).length = cellsZ.length from rfl)] at hst
  exact ⟨hst.1, ((Below.refl _ _).alloc (Nat.le_refl _) _).grown hst.2 (by simp) (fun k hk => by cases hk; exact Nat.le_refl _), hgz.there 0 31 (Nat.le_refl _)⟩
set_option maxHeartbeats 2000000 in
set_option maxRecDepth 20000 in
theorem encodes_walk (m : M) (p : Ps) (w : World) (hwf : WfM m) (hr : MRd w m p) : Calls Try.prog 6 #[valM m p] w fun e w' => e = .returned (.bool true) ∧ Below w.heap.size w w' := by
  have hv := hwf.vl
  obtain ⟨v0, hv0⟩ : ∃ v, v = valM m p := ⟨_, rfl⟩
  obtain ⟨wa, hwa⟩ : ∃ wa, wa = w.alloc (.cells (cellsM m p).toArray 50) := ⟨_, rfl⟩
  have hba : Below w.heap.size w wa := by rw [hwa]; exact (Below.refl _ _).alloc (Nat.le_refl _) _
  have hka : Blk wa w.heap.size 50 (cellsM m p) := by rw [hwa]; exact Blk.new w _ 50
  have hra := hr.below hba
  unfold cellsM at hwa
  unfold valM cellsM at hv0
  unfold valM cellsM
  go_enter Try.func6, Try.ntmps6
  go_upto_region 1 with fail
  rw [← hwa, ← hv0]
  obtain ⟨gm, hgm⟩ : ∃ g, g = w.heap.size := ⟨_, rfl⟩
  rw [← hgm] at hka ⊢
  have hrg : wa.rangeAt gm 0 (cellsM m p) := hka.whole
  clear hwa hv0 hgm hr
  go_wp2_with (first | ((with_reducible refine at_dst 10 ?_); refine wpList_load_midg rfl _ _ rfl _ _ rfl _ _ hrg Try.underlying50 rfl (by kernel_rfl) ?_) | fail)
  refine (twin_any m p wa hwf hra).mono ?_
  rintro e w1 ⟨q, rfl, hown, hb1⟩
  have hk1 := hka.below hb1
  have hr1 := hra.below hb1
  have hq1 := hown.rd
  have bb1 := hba.trans (hb1.mono hba.size)
  clear hown hrg hka hra hba hb1
  obtain ⟨hkk, hkb, hth⟩ := new_msg w1 m q
  obtain ⟨wb, hwb⟩ : ∃ wb, wb = (w1.alloc (.cells cellsZ.toArray 50)).setCells w1.heap.size 0 (cellsM m q) := ⟨_, rfl⟩
  rw [← hwb] at hkk hkb
  unfold cellsZ at hth hwb
  go_upto_region 2 with (first | ((with_reducible refine at_store ?_); refine wpList_store_mid rfl 50 _ _ rfl w1.heap.size 0 (cellsM m q).toArray rfl rfl hth (by kernel_rfl) (by kernel_rfl) ?_; rw [← hwb]) | fail)
  obtain ⟨gk, hgk⟩ : ∃ g, g = w1.heap.size := ⟨_, rfl⟩
  rw [← hgk] at hkk ⊢
  have HTb : Hid (TW w m p q gm gk wb) := Lib.hid ⟨hk1.below hkb, hkk, hr1.below hkb, hq1.below hkb, bb1.trans (hkb.mono bb1.size)⟩
  clear hk1 hkk hr1 hq1 bb1 hkb hth hwb hgk
  go_wp2_with (first | ((with_reducible refine at_dst 12 ?_); refine wpList_load_midg rfl 50 (.tmp 1) rfl gm 0 rfl (cellsM m p) _ (HTb.out.1.whole) Try.underlying50 rfl (by kernel_rfl) ?_) | ((with_reducible refine at_dst 99 ?_); refine wpList_load_midg rfl 50 (.tmp 3) rfl gk 0 rfl (cellsM m q) _ (HTb.out.2.1.whole) Try.underlying50 rfl (by kernel_rfl) ?_) | fail)
  refine (proper_any m p wb HTb.out.2.2.1 hv).mono ?_
  rintro e w2 ⟨b, rfl, hpb, hb2⟩
  have HT2 := Lib.hid (HTb.out.below hb2)
  clear hb2 HTb
  go_wp2_with (first | ((with_reducible refine at_dst 98 ?_); refine wpList_load_midg rfl 50 (.tmp 1) rfl gm 0 rfl (cellsM m p) _ (HT2.out.1.whole) Try.underlying50 rfl (by kernel_rfl) ?_) | ((with_reducible refine at_dst 15 ?_); refine wpList_load_midg rfl 50 (.tmp 3) rfl gk 0 rfl (cellsM m q) _ (HT2.out.2.1.whole) Try.underlying50 rfl (by kernel_rfl) ?_) | fail)
  refine (rproper_any m q w2 HT2.out.2.2.2.1 hv).mono ?_
  rintro e w3 ⟨b', rfl, hpb', hb3⟩
  rw [proper_iff] at hpb'
  obtain rfl := bool_iff hpb hpb'
  have HT3 := Lib.hid (HT2.out.below hb3)
  clear hpb hpb' hb3 HT2
  have hbn : (b != b) = false := by cases b <;> rfl
  go_wp2_with (first | ((with_reducible refine at_dst 19 ?_); refine wpList_load_midg rfl 50 (.tmp 1) rfl gm 0 rfl (cellsM m p) _ (HT3.out.1.whole) Try.underlying50 rfl (by kernel_rfl) ?_) | ((with_reducible refine at_dst 98 ?_); refine wpList_load_midg rfl 50 (.tmp 3) rfl gk 0 rfl (cellsM m q) _ (HT3.out.2.1.whole) Try.underlying50 rfl (by kernel_rfl) ?_) | fail)
  refine (encode_any m p w3 hwf HT3.out.2.2.1).mono ?_
  rintro e w4 ⟨a4, c4, rfl, hown4, hb4⟩
  have HT4 := Lib.hid (HT3.out.below hb4)
  have hl := encA_len m
  obtain ⟨E, hE⟩ : ∃ E, E = encA m := ⟨_, rfl⟩
  rw [← hE] at hown4 hl ⊢
  obtain ⟨L, er⟩ := E
  dsimp only at hown4 hl ⊢
  obtain ⟨n, hn⟩ : ∃ n, n = L.length := ⟨_, rfl⟩
  rw [← hn] at hown4 hl ⊢
  have HE := Lib.hid hE
  have HN := Lib.hid hn
  have HO4 := Lib.hid (ownsRow_rd hown4)
  clear HT3 hb4 hE hn hown4
  go_wp2_with (first | ((with_reducible refine at_dst 99 ?_); refine wpList_load_midg rfl 50 (.tmp 1) rfl gm 0 rfl (cellsM m p) _ (HT4.out.1.whole) Try.underlying50 rfl (by kernel_rfl) ?_) | ((with_reducible refine at_dst 24 ?_); refine wpList_load_midg rfl 50 (.tmp 3) rfl gk 0 rfl (cellsM m q) _ (HT4.out.2.1.whole) Try.underlying50 rfl (by kernel_rfl) ?_) | fail)
  refine (rencode_any m q w4 hwf HT4.out.2.2.2.1).mono ?_
  rintro e w5 ⟨a5, c5, rfl, hown5, hb5⟩
  have HT5 := Lib.hid (HT4.out.below hb5)
  rw [← HE.out] at hown5 ⊢
  dsimp only at hown5 ⊢
  rw [← HN.out] at hown5 ⊢
  have HO45 := Lib.hid (HO4.out.below hb5)
  have HO5 := Lib.hid (ownsRow_rd hown5)
  clear HT4 hb5 hown5
  go_wp2_with (first | ((with_reducible refine at_dst 28 ?_); refine wpList_load_midg rfl 50 (.tmp 1) rfl gm 0 rfl (cellsM m p) _ (HT5.out.1.whole) Try.underlying50 rfl (by kernel_rfl) ?_) | ((with_reducible refine at_dst 29 ?_); refine wpList_load_midg rfl 50 (.tmp 3) rfl gk 0 rfl (cellsM m q) _ (HT5.out.2.1.whole) Try.underlying50 rfl (by kernel_rfl) ?_) | fail)
  refine (alike_any m m p q w5 hwf hwf HT5.out.2.2.1 HT5.out.2.2.2.1).mono ?_
  rintro e w6 ⟨b6, rfl, hb6, hbe6⟩
  obtain rfl : b6 = true := hb6.2 rfl
  have HT6 := Lib.hid (HT5.out.below hbe6)
  have hO46 := HO45.out.below hbe6
  have hO56 := HO5.out.below hbe6
  clear HT5 hbe6 hb6
  have hee := eql_of (a := er) (b := er) rfl
  go_wp2_with fail
  refine (same_n a4 a5 c4 c5 n n L L w6 HN.out.symm HN.out.symm (by omega) hO46 hO56).mono ?_
  rintro e w7 ⟨rfl, hb7⟩
  rw [beq_self_eq_true]
  have hfin := HT6.out.2.2.2.2.trans (hb7.mono HT6.out.2.2.2.2.size)
  go_wp2
  go_ret
  exact ⟨rfl, hfin⟩
end Go.Proofs.Ytaipnbpefdcejaa
/- The laws' room 53: how many bytes a message's texts and lists take at most. -/
set_option linter.unusedVariables false
namespace Go.Proofs.Ytaipnbpefdcejaa
open Go.RowKit
set_option maxHeartbeats 2000000 in
set_option maxRecDepth 20000 in
theorem room_any (m : M) (p : Ps) (w : World) (hwf : WfM m) : Calls Try.prog 53 #[valM m p] w fun e w' => e = .returned (.int .i64 (roomM m : Int)) ∧ Below w.heap.size w w' := by
  obtain ⟨w1, hw1⟩ : ∃ w1, w1 = w.alloc (.cells (cellsM m p).toArray 50) := ⟨_, rfl⟩
  have hb1 : Below w.heap.size w w1 := by rw [hw1]; exact (Below.refl _ _).alloc (Nat.le_refl _) _
  have hk1 : Blk w1 w.heap.size 50 (cellsM m p) := by rw [hw1]; exact Blk.new w _ 50
  unfold cellsM at hw1
  unfold valM cellsM
  go_enter Try.func53, Try.ntmps53
  go_upto_region 1 with fail
  rw [← hw1]
  clear hw1
  obtain ⟨gm, hgm⟩ : ∃ g, g = w.heap.size := ⟨_, rfl⟩
  rw [← hgm] at hk1 ⊢
  clear hgm
  have c28 : w1.cell? ⟨gm, 28, none⟩ = some (.string m.schema) := hk1.cell 28 (by rw [cellsM_len]; omega)
  have c29 : w1.cell? ⟨gm, 29, none⟩ = some (.string m.query) := hk1.cell 29 (by rw [cellsM_len]; omega)
  have c30 : w1.cell? ⟨gm, 30, none⟩ = some (.slice p.ai m.image.length p.ci) := hk1.cell 30 (by rw [cellsM_len]; omega)
  have c15 : w1.cell? ⟨gm, 15, none⟩ = some (.slice p.an m.names.length p.cn) := hk1.cell 15 (by rw [cellsM_len]; omega)
  have c16 : w1.cell? ⟨gm, 16, none⟩ = some (.slice p.al m.lens.length p.cl) := hk1.cell 16 (by rw [cellsM_len]; omega)
  have c17 : w1.cell? ⟨gm, 17, none⟩ = some (.slice p.av m.vals.length p.cv) := hk1.cell 17 (by rw [cellsM_len]; omega)
  have h1 := hwf.sl
  have h2 := hwf.ql
  have h3 := hwf.il
  have h4 := hwf.nl
  have h5 := hwf.ll
  have h6 := hwf.vl
  have hr : ((roomM m : Nat) : Int) = 200 + (m.schema.size : Int) + m.query.size + m.image.length + 20 * m.names.length + 10 * m.lens.length + 11 * m.vals.length := by
    unfold roomM; push_cast; rfl
  obtain ⟨R, hR⟩ : ∃ R, R = roomM m := ⟨_, rfl⟩
  rw [← hR] at hr
  generalize m.schema = s1 at *
  generalize m.query = s2 at *
  generalize m.image.length = n3 at *
  generalize m.names.length = n4 at *
  generalize m.lens.length = n5 at *
  generalize m.vals.length = n6 at *
  have e1 : IntKind.i64.wrap (200 + (s1.size : Int)) = 200 + (s1.size : Int) := by rw [IntKind.wrap_i64]; omega
  have e2 : IntKind.i64.wrap (200 + (s1.size : Int) + s2.size) = 200 + (s1.size : Int) + s2.size := by rw [IntKind.wrap_i64]; omega
  have e3 : IntKind.i64.wrap (200 + (s1.size : Int) + s2.size + n3) = 200 + (s1.size : Int) + s2.size + n3 := by rw [IntKind.wrap_i64]; omega
  have e4 : IntKind.i64.wrap (20 * (n4 : Int)) = 20 * n4 := by rw [IntKind.wrap_i64]; omega
  have e5 : IntKind.i64.wrap (200 + (s1.size : Int) + s2.size + n3 + 20 * n4) = 200 + (s1.size : Int) + s2.size + n3 + 20 * n4 := by rw [IntKind.wrap_i64]; omega
  have e6 : IntKind.i64.wrap (10 * (n5 : Int)) = 10 * n5 := by rw [IntKind.wrap_i64]; omega
  have e7 : IntKind.i64.wrap (200 + (s1.size : Int) + s2.size + n3 + 20 * n4 + 10 * n5) = 200 + (s1.size : Int) + s2.size + n3 + 20 * n4 + 10 * n5 := by rw [IntKind.wrap_i64]; omega
  have e8 : IntKind.i64.wrap (11 * (n6 : Int)) = 11 * n6 := by rw [IntKind.wrap_i64]; omega
  have e9 : IntKind.i64.wrap (200 + (s1.size : Int) + s2.size + n3 + 20 * n4 + 10 * n5 + 11 * n6) = 200 + (s1.size : Int) + s2.size + n3 + 20 * n4 + 10 * n5 + 11 * n6 := by rw [IntKind.wrap_i64]; omega
  have HR := Lib.hid hr
  have HRR := Lib.hid hR
  clear h1 h2 h3 h4 h5 h6 hr hR hk1 hwf
  go_wp2_with fail
  go_ret
  have hv : Value.int .i64 (200 + (s1.size : Int) + s2.size + n3 + 20 * n4 + 10 * n5 + 11 * n6) = .int .i64 (roomM m : Int) := by rw [← HRR.out, HR.out]
  exact ⟨congrArg Ending.returned hv, hb1⟩
end Go.Proofs.Ytaipnbpefdcejaa
/- The laws' encoded 32: a message's frame. -/
set_option linter.unusedVariables false
namespace Go.Proofs.Ytaipnbpefdcejaa
open Go.RowKit
/-- What 'encoded' answers: the frame, or nothing; never false. -/
def EncdPost (m : M) (w : World) (e : Ending) (w' : World) : Prop :=
  ∃ a c, e = .returned (.tuple #[.slice a (encA m).1.length c, .bool true]) ∧ w'.ownsRow w.heap.size 5 1 (.slice a (encA m).1.length c) (encA m).1.length ((encA m).1.map B) ∧ Below w.heap.size w w'
theorem encd_nil {m : M} {w w' : World} (h : (encA m).1 = []) (hb : Below w.heap.size w w') : EncdPost m w (.returned (.tuple #[.slice none 0 0, .bool true])) w' := by
  refine ⟨none, 0, ?_, ?_, hb⟩
  · rw [h]; rfl
  · rw [h]; exact World.ownsRow_nil _ _ _ _
theorem encA_cases (m : M) (h : WfM m) : (¬ properM m ∧ encA m = ([], 212)) ∨ (properM m ∧ (inM m).length ≤ 1048576 ∧ encA m = (frameM m, 0) ∧ 2 ≤ (frameM m).length) ∨ (properM m ∧ 1048576 < (inM m).length ∧ encA m = ([], 211) ∧ 1048576 < roomM m) := by
  unfold encA
  by_cases hp : properM m
  · rw [if_pos hp]
    have hr := room_le h hp
    by_cases hl : (inM m).length ≤ 1048576
    · rw [if_pos hl]
      have := inM_pos m
      have := bytesU_pos (inM m).length
      exact .inr (.inl ⟨hp, hl, rfl, by unfold frameM; rw [List.length_append]; omega⟩)
    · rw [if_neg hl]
      exact .inr (.inr ⟨hp, by omega, rfl, by omega⟩)
  · rw [if_neg hp]
    exact .inl ⟨hp, rfl⟩
set_option maxHeartbeats 2000000 in
set_option maxRecDepth 20000 in
theorem encoded_any (m : M) (p : Ps) (w : World) (hwf : WfM m) (hr : MRd w m p) : Calls Try.prog 32 #[valM m p] w (EncdPost m w) := by
  have hv := hwf.vl
  obtain ⟨v0, hv0⟩ : ∃ v, v = valM m p := ⟨_, rfl⟩
  obtain ⟨wa, hwa⟩ : ∃ wa, wa = w.alloc (.cells (cellsM m p).toArray 50) := ⟨_, rfl⟩
  have hba : Below w.heap.size w wa := by rw [hwa]; exact (Below.refl _ _).alloc (Nat.le_refl _) _
  have hka : Blk wa w.heap.size 50 (cellsM m p) := by rw [hwa]; exact Blk.new w _ 50
  have hra := hr.below hba
  unfold cellsM at hwa
  unfold valM cellsM at hv0
  unfold valM cellsM
  go_enter Try.func32, Try.ntmps32
  go_upto_region 1 with fail
  rw [← hwa]
  obtain ⟨gm, hgm⟩ : ∃ g, g = w.heap.size := ⟨_, rfl⟩
  rw [← hgm] at hka ⊢
  have hrg : wa.rangeAt gm 0 (cellsM m p) := hka.whole
  have HGM := Lib.hid hgm
  clear hwa hv0 hgm hr
  go_wp2_with (first | ((with_reducible refine at_dst 9 ?_); refine wpList_load_midg rfl _ _ rfl _ _ rfl _ _ hrg Try.underlying50 rfl (by kernel_rfl) ?_) | fail)
  refine (rproper_any m p wa hra hv).mono ?_
  rintro e w0 ⟨b, rfl, hpb, hb0⟩
  rw [proper_iff] at hpb
  have hk0 := hka.below hb0
  have hr0 := hra.below hb0
  have bb0 := hba.trans (hb0.mono hba.size)
  have hrg0 : w0.rangeAt gm 0 (cellsM m p) := hk0.whole
  clear hrg hka hra hba hb0
  have HPB := Lib.hid hpb
  clear hpb
  go_upto_region 2 with fail
  go_wp2_with (first | ((with_reducible refine at_dst 11 ?_); refine wpList_load_midg rfl _ _ rfl _ _ rfl _ _ hrg0 Try.underlying50 rfl (by kernel_rfl) ?_) | fail)
  refine (twin_any m p w0 hwf hr0).mono ?_
  rintro e w1 ⟨q, rfl, hown, hb1⟩
  have hk1 := hk0.below hb1
  have hr1 := hr0.below hb1
  have hq1 := hown.rd
  have bb1 := bb0.trans (hb1.mono bb0.size)
  clear hown hrg0 hk0 hr0 bb0 hb1
  obtain ⟨hkk, hkb, hth⟩ := new_msg w1 m q
  obtain ⟨wb, hwb⟩ : ∃ wb, wb = (w1.alloc (.cells cellsZ.toArray 50)).setCells w1.heap.size 0 (cellsM m q) := ⟨_, rfl⟩
  rw [← hwb] at hkk hkb
  unfold cellsZ at hth hwb
  go_upto_region 3 with (first | ((with_reducible refine at_store ?_); refine wpList_store_mid rfl 50 _ _ rfl w1.heap.size 0 (cellsM m q).toArray rfl rfl hth (by kernel_rfl) (by kernel_rfl) ?_; rw [← hwb]) | fail)
  obtain ⟨gk, hgk⟩ : ∃ g, g = w1.heap.size := ⟨_, rfl⟩
  rw [← hgk] at hkk ⊢
  have HTb : Hid (TW w m p q gm gk wb) := Lib.hid ⟨hk1.below hkb, hkk, hr1.below hkb, hq1.below hkb, bb1.trans (hkb.mono bb1.size)⟩
  clear hk1 hkk hr1 hq1 bb1 hkb hth hwb hgk
  go_wp2_with (first | ((with_reducible refine at_dst 14 ?_); refine wpList_load_midg rfl 50 (.tmp 5) rfl gk 0 rfl (cellsM m q) _ (HTb.out.2.1.whole) Try.underlying50 rfl (by kernel_rfl) ?_) | fail)
  refine (encode_any m q wb hwf HTb.out.2.2.2.1).mono ?_
  rintro e w4 ⟨a4, c4, rfl, hown4, hb4⟩
  have hbw : w.heap.size ≤ wb.heap.size := HTb.out.2.2.2.2.size
  have HT4 := Lib.hid (HTb.out.below hb4)
  have hl := encA_len m
  have HC := Lib.hid (encA_cases m hwf)
  have hpost : ∀ w', Below w4.heap.size w4 w' → EncdPost m w (.returned (.tuple #[.slice a4 (encA m).1.length c4, .bool true])) w' := fun w' hb => ⟨a4, c4, rfl, own_low (own_below hown4 hb) hbw, HT4.out.2.2.2.2.trans (hb.mono HT4.out.2.2.2.2.size)⟩
  have hnil : (encA m).1 = [] → ∀ w', Below w4.heap.size w4 w' → EncdPost m w (.returned (.tuple #[.slice none 0 0, .bool true])) w' := fun h w' hb => encd_nil h (HT4.out.2.2.2.2.trans (hb.mono HT4.out.2.2.2.2.size))
  have HPOST := Lib.hid hpost
  have HNIL := Lib.hid hnil
  clear hpost hnil hown4
  obtain ⟨E, hE⟩ : ∃ E, E = encA m := ⟨_, rfl⟩
  rw [← hE] at hl HPOST HNIL ⊢
  have HC2 : Hid ((b = false ∧ E = ([], 212)) ∨ (b = true ∧ E.2 = 0 ∧ 2 ≤ E.1.length) ∨ (b = true ∧ E = ([], 211) ∧ 1048576 < roomM m)) := by
    refine Lib.hid ?_
    have hpb := HPB.out
    rcases HC.out with ⟨h1, h2⟩ | ⟨h1, h2, h3, h4⟩ | ⟨h1, h2, h3, h4⟩
    · refine .inl ⟨?_, by rw [hE, h2]⟩
      cases b with
      | false => rfl
      | true => exact (h1 (hpb.1 rfl)).elim
    · exact .inr (.inl ⟨hpb.2 h1, by rw [hE, h3], by rw [hE, h3]; exact h4⟩)
    · exact .inr (.inr ⟨hpb.2 h1, by rw [hE, h3], h4⟩)
  obtain ⟨L, er⟩ := E
  dsimp only at hl HPOST HNIL HC2 ⊢
  obtain ⟨n, hn⟩ : ∃ n, n = L.length := ⟨_, rfl⟩
  rw [← hn] at hl HPOST HC2 ⊢
  have HN := Lib.hid hn
  clear hb4 hE hn HC HPB HTb hbw
  go_wp2_with (first | ((with_reducible refine at_dst 18 ?_); refine wpList_load_midg rfl 50 (.tmp 1) rfl gm 0 rfl (cellsM m p) _ (HT4.out.1.whole) Try.underlying50 rfl (by kernel_rfl) ?_) | ((with_reducible refine at_dst 19 ?_); refine wpList_load_midg rfl 50 (.tmp 5) rfl gk 0 rfl (cellsM m q) _ (HT4.out.2.1.whole) Try.underlying50 rfl (by kernel_rfl) ?_) | fail)
  refine (alike_any m m p q w4 hwf hwf HT4.out.2.2.1 HT4.out.2.2.2.1).mono ?_
  rintro e w6 ⟨b6, rfl, hb6, hbe6⟩
  obtain rfl : b6 = true := hb6.2 rfl
  have HT6 := Lib.hid (HT4.out.below hbe6)
  have HB6 := Lib.hid hbe6
  clear HT4 hbe6 hb6
  rcases HC2.out with ⟨rfl, hc⟩ | ⟨rfl, hc, hc2⟩ | ⟨rfl, hc, hc2⟩
  · have h1 : L = [] := congrArg Prod.fst hc
    have h2 : er = 212 := congrArg Prod.snd hc
    have h3 : n = 0 := by rw [HN.out, h1]; rfl
    have HF := HNIL.out h1 w6 HB6.out
    clear HC2 hc h1
    subst h2 h3
    go_wp2_with fail
    go_ret2
    exact HF
  · clear HC2
    subst hc
    have hge : (n : Int) ≥ 2 := by omega
    go_wp2_with (first | ((with_reducible refine at_dst 32 ?_); refine wpList_load_midg rfl 50 (.tmp 1) rfl gm 0 rfl (cellsM m p) _ (HT6.out.1.whole) Try.underlying50 rfl (by kernel_rfl) ?_) | fail)
    refine (room_any m p w6 hwf).mono ?_
    rintro e w7 ⟨rfl, hb7⟩
    have HF := HPOST.out w7 (HB6.out.trans (hb7.mono HB6.out.size))
    clear hb7
    by_cases hrm : roomM m ≤ 1048576
    · have hrm' : (roomM m : Int) ≤ 1048576 := by omega
      go_wp2_with fail
      go_ret2
      exact HF
    · have hrm' : ¬ (roomM m : Int) ≤ 1048576 := by omega
      go_wp2_with fail
      go_ret2
      exact HF
  · have h1 : L = [] := congrArg Prod.fst hc
    have h2 : er = 211 := congrArg Prod.snd hc
    have h3 : n = 0 := by rw [HN.out, h1]; rfl
    clear HC2 hc
    subst h2 h3
    go_wp2_with (first | ((with_reducible refine at_dst 32 ?_); refine wpList_load_midg rfl 50 (.tmp 1) rfl gm 0 rfl (cellsM m p) _ (HT6.out.1.whole) Try.underlying50 rfl (by kernel_rfl) ?_) | fail)
    refine (room_any m p w6 hwf).mono ?_
    rintro e w7 ⟨rfl, hb7⟩
    have HF := HNIL.out h1 w7 (HB6.out.trans (hb7.mono HB6.out.size))
    have hrm' : ¬ (roomM m : Int) ≤ 1048576 := by omega
    clear hb7 h1
    go_wp2_with fail
    go_ret2
    exact HF
end Go.Proofs.Ytaipnbpefdcejaa
/- The laws' alive 33. -/
set_option linter.unusedVariables false
namespace Go.Proofs.Ytaipnbpefdcejaa
open Go.RowKit
def mH : M := { zM 1 with num := 1 }
theorem wf_H : WfM mH := by
  have h := (vxZ 1 (by omega) (by omega)).1
  exact { h with num := by unfold I64; decide }
theorem proper_H : properM mH := by
  refine ⟨Int.le_refl 0, fun v hv => by simp [mH, zM] at hv, by simp [mH, zM, ordL], ?_⟩
  simp (decide := true) only [mH, zM, ordL, eraseM, blankM, blankP, empty_toList, List.foldl, if_true, if_false, and_true]
theorem in_H : inM mH = [1, 2] := by
  unfold inM
  simp [mH, zM, ordL, encF, bytesI, zig, bytesU_low]
theorem frame_H : frameM mH = [2, 1, 2] := by
  unfold frameM
  rw [in_H]
  simp [bytesU_low]
theorem enc_H : encA mH = ([2, 1, 2], 0) := by
  unfold encA
  rw [if_pos proper_H, if_pos (by rw [in_H]; decide), frame_H]
theorem rd_H (w : World) (k : Int) : MRd w mH zP := ⟨.inl rfl, .inl rfl, .inl rfl, .inl rfl⟩
theorem rd_Z (w : World) (k : Int) : MRd w (zM k) zP := ⟨.inl rfl, .inl rfl, .inl rfl, .inl rfl⟩
theorem lit_rd (w : World) (l : List UInt8) (t : TypeId) : Rd (w.alloc (.cells (l.map B).toArray t)) (some ⟨w.heap.size, 0, none⟩) (l.map B) := by
  refine .inr ⟨w.heap.size, 0, rfl, fun i u hu => ?_⟩
  have hk := Blk.new w (l.map B) t
  obtain ⟨hi, h2⟩ := List.getElem?_eq_some_iff.1 hu
  have h3 := hk.cell i hi
  rw [h2] at h3
  rw [Nat.zero_add]
  exact h3
set_option maxHeartbeats 2000000 in
set_option maxRecDepth 20000 in
theorem alive_any (w : World) : Calls Try.prog 33 #[] w fun e w' => e = .returned (.bool true) ∧ Below w.heap.size w w' := by
  go_enter Try.func33, Try.ntmps33
  go_upto_region 1 with fail
  go_wp2_with fail
  refine (encode_any mH zP w wf_H (rd_H w 0)).mono ?_
  rintro e w1 ⟨a1, c1, rfl, hown1, hb1⟩
  rw [enc_H] at hown1 ⊢
  dsimp only at hown1 ⊢
  have hr1 := ownsRow_rd hown1
  clear hown1
  have hn3 : ([2, 1, 2] : List UInt8).length = 3 := rfl
  rw [hn3]
  go_wp2_with fail
  have hb12 : Below w1.heap.size w1 (w1.alloc (.cells #[.int .u8 2, .int .u8 1, .int .u8 2] 5)) := (Below.refl _ _).alloc (Nat.le_refl _) _
  refine (same_n a1 (some ⟨w1.heap.size, 0, none⟩) c1 3 3 3 [2, 1, 2] [2, 1, 2] (w1.alloc (.cells #[.int .u8 2, .int .u8 1, .int .u8 2] 5)) rfl rfl (by omega) (hr1.below hb12) (lit_rd w1 [2, 1, 2] 5)).mono ?_
  rintro e w2 ⟨rfl, hb2⟩
  rw [beq_self_eq_true]
  have bb2 := hb1.trans ((hb12.trans (hb2.mono hb12.size)).mono hb1.size)
  clear hb12 hb2 hr1 hb1
  go_wp2_with fail
  have hb23 : Below w2.heap.size w2 (w2.alloc (.cells #[.int .u8 2, .int .u8 1, .int .u8 2, .int .u8 9] 5)) := (Below.refl _ _).alloc (Nat.le_refl _) _
  refine (decode_any (some ⟨w2.heap.size, 0, none⟩) 4 4 [2, 1, 2, 9] (w2.alloc (.cells #[.int .u8 2, .int .u8 1, .int .u8 2, .int .u8 9] 5)) rfl (by omega) (by omega) (lit_rd w2 [2, 1, 2, 9] 5)).mono ?_
  rintro e w3 ⟨x, q, n, c, rfl, hR, hown3, hb3⟩
  rw [show ([2, 1, 2, 9] : List UInt8) = frameM mH ++ [9] by rw [frame_H]; rfl] at hR
  obtain ⟨rfl, hx, rfl⟩ := dec_frame (VX.of wf_H proper_H) proper_H (by rw [in_H]; decide) hR
  have HX := Lib.hid hx
  have hn4 : (((frameM mH).length : Nat) : Int) = 3 := by rw [frame_H]; rfl
  rw [hn4]
  have hq3 := hown3.rd
  have bb3 := bb2.trans ((hb23.trans (hb3.mono hb23.size)).mono bb2.size)
  clear hx hR hown3 hb3 hb23 bb2 hn4
  obtain ⟨hkk, hkb, hth⟩ := new_msg w3 x q
  obtain ⟨wb, hwb⟩ : ∃ wb, wb = (w3.alloc (.cells cellsZ.toArray 50)).setCells w3.heap.size 0 (cellsM x q) := ⟨_, rfl⟩
  rw [← hwb] at hkk hkb
  unfold cellsZ at hth hwb
  have HWB := Lib.hid hwb
  clear hwb
  go_upto_region 6 with (first | ((with_reducible refine at_store ?_); refine wpList_store_mid rfl 50 _ _ rfl w3.heap.size 0 (cellsM x q).toArray rfl rfl hth (by kernel_rfl) (by kernel_rfl) ?_; rw [← HWB.out]) | fail)
  obtain ⟨gk, hgk⟩ : ∃ g, g = w3.heap.size := ⟨_, rfl⟩
  rw [← hgk] at hkk ⊢
  have hq4 := hq3.below hkb
  have bb4 := bb3.trans (hkb.mono bb3.size)
  clear hkb hth HWB hgk hq3 bb3
  go_wp2_with (first | ((with_reducible refine at_dst 34 ?_); refine wpList_load_midg rfl 50 (.tmp 4) rfl gk 0 rfl (cellsM x q) _ hkk.whole Try.underlying50 rfl (by kernel_rfl) ?_) | fail)
  refine (alike_any x mH q zP wb (by rw [HX.out]; exact wf_H) wf_H hq4 (rd_H wb 0)).mono ?_
  rintro e w6 ⟨b6, rfl, hb6, hbe6⟩
  obtain rfl : b6 = true := hb6.2 HX.out
  have bb6 := bb4.trans (hbe6.mono bb4.size)
  clear bb4 hbe6 hb6 hkk hq4
  go_wp2
  go_ret
  exact ⟨rfl, bb6⟩
end Go.Proofs.Ytaipnbpefdcejaa
/- A list of messages in memory; a slice built of one struct. -/
set_option linter.unusedVariables false
namespace Go.Proofs.Ytaipnbpefdcejaa
open Go.RowKit
/-- Messages one behind the other. -/
def mcells (ms : List (M × Ps)) : List Value := ms.flatMap fun x => cellsM x.1 x.2
theorem mcells_len (ms : List (M × Ps)) : (mcells ms).length = ms.length * 31 := by
  induction ms with
  | nil => rfl
  | cons x ms ih => show (cellsM x.1 x.2 ++ mcells ms).length = _; rw [List.length_append, ih, cellsM_len, List.length_cons]; omega
theorem mcells_app (a b : List (M × Ps)) : mcells (a ++ b) = mcells a ++ mcells b := List.flatMap_append
theorem mcells_at (ms : List (M × Ps)) (i : Nat) (hi : i < ms.length) : ((mcells ms).drop (i * 31)).take 31 = cellsM ms[i].1 ms[i].2 := by
  have h1 : ms = ms.take i ++ ms[i] :: ms.drop (i + 1) := by rw [List.getElem_cons_drop hi, List.take_append_drop]
  have h2 : mcells ms = mcells (ms.take i) ++ (cellsM ms[i].1 ms[i].2 ++ mcells (ms.drop (i + 1))) := by
    conv => lhs; rw [h1]
    rw [mcells_app]; rfl
  have h3 : (mcells (ms.take i)).length = i * 31 := by rw [mcells_len, List.length_take]; omega
  rw [h2, ← h3, List.drop_left]
  exact List.take_left' (cellsM_len _ _)
def OwnL (base : Nat) (w : World) (v : Value) (ms : List (M × Ps)) : Prop := w.ownsRow base 50 31 v ms.length (mcells ms) ∧ ∀ x ∈ ms, OwnM base w x.1 x.2
/-- Messages read at a place. -/
def RdL (w : World) (a : Option Addr) (ms : List (M × Ps)) : Prop := Rd w a (mcells ms) ∧ ∀ x ∈ ms, MRd w x.1 x.2
theorem OwnL.rd {base : Nat} {w : World} {a : Option Addr} {c : Nat} {ms : List (M × Ps)} (h : OwnL base w (.slice a ms.length c) ms) : RdL w a ms := ⟨ownsRow_rd h.1, fun x hx => (h.2 x hx).rd⟩
theorem OwnL.low {base base' : Nat} {w : World} {v : Value} {ms : List (M × Ps)} (h : OwnL base w v ms) (hb : base' ≤ base) : OwnL base' w v ms :=
  ⟨own_low h.1 hb, fun x hx => have g := h.2 x hx; ⟨own_low g.1 hb, own_low g.2.1 hb, own_low g.2.2.1 hb, own_low g.2.2.2 hb⟩⟩
theorem OwnM.below {base : Nat} {w w' : World} {m : M} {q : Ps} (g : OwnM base w m q) (hb : Below w.heap.size w w') : OwnM base w' m q := ⟨own_below g.1 hb, own_below g.2.1 hb, own_below g.2.2.1 hb, own_below g.2.2.2 hb⟩
theorem OwnM.low {base base' : Nat} {w : World} {m : M} {q : Ps} (g : OwnM base w m q) (hb : base' ≤ base) : OwnM base' w m q := ⟨own_low g.1 hb, own_low g.2.1 hb, own_low g.2.2.1 hb, own_low g.2.2.2 hb⟩
theorem OwnL.below {base : Nat} {w w' : World} {v : Value} {ms : List (M × Ps)} (h : OwnL base w v ms) (hb : Below w.heap.size w w') : OwnL base w' v ms :=
  ⟨own_below h.1 hb, fun x hx => (h.2 x hx).below hb⟩
theorem RdL.below {w w' : World} {a : Option Addr} {ms : List (M × Ps)} (h : RdL w a ms) (hb : Below w.heap.size w w') : RdL w' a ms := ⟨h.1.below hb, fun x hx => (h.2 x hx).below hb⟩
/-- The message at a place of the list lies there whole. -/
theorem RdL.at {w : World} {a : Option Addr} {ms : List (M × Ps)} (h : RdL w a ms) (i : Nat) (hi : i < ms.length) : ∃ b off, a = some ⟨b, off, none⟩ ∧ w.rangeAt b (off + i * 31) (cellsM ms[i].1 ms[i].2) := by
  rcases h.1 with h0 | ⟨b, off, rfl, hc⟩
  · have := congrArg List.length h0
    rw [mcells_len, List.length_nil] at this
    omega
  · refine ⟨b, off, rfl, fun j v hv => ?_⟩
    rw [← mcells_at ms i hi] at hv
    have hj : j < 31 := by
      have := (List.getElem?_eq_some_iff.1 hv).1
      rw [List.length_take] at this
      omega
    rw [List.getElem?_take_of_lt hj, List.getElem?_drop] at hv
    have := hc _ v hv
    rw [Nat.add_assoc]
    exact this
theorem tk_one (A D : List Value) (x : Value) (n : Nat) (h : A.length = n) : (A ++ x :: D).take (n + 1) = A ++ [x] := by
  rw [show A ++ x :: D = (A ++ [x]) ++ D by simp]
  exact List.take_left' (by simp [h])
theorem dk_one (A D : List Value) (x : Value) (n m : Nat) (h : A.length = n) : (A ++ x :: D).drop (n + 1 + m) = D.drop m := by
  rw [← List.drop_drop, show A ++ x :: D = (A ++ [x]) ++ D by simp, List.drop_left' (by simp [h])]
/-- Laying a struct's cells over as many others leaves just them. -/
theorem fold_set_all (off : Nat) : ∀ (xs : List Value) (k : Nat) (cs : Array Value), off + k + xs.length ≤ cs.size → ((xs.zipIdx k).foldl (fun cs (x : Value × Nat) => cs.setIfInBounds (off + x.2) x.1) cs).toList = cs.toList.take (off + k) ++ (xs ++ cs.toList.drop (off + k + xs.length)) := by
  intro xs
  induction xs with
  | nil => intro k cs h; simp
  | cons x xs ih =>
    intro k cs h
    rw [List.length_cons] at h
    rw [List.zipIdx_cons, List.foldl_cons, ih (k + 1) _ (by simp; omega)]
    have h1 : (cs.setIfInBounds (off + k) x).toList = cs.toList.take (off + k) ++ x :: cs.toList.drop (off + k + 1) := by
      rw [Array.toList_setIfInBounds, List.set_eq_take_append_cons_drop, if_pos (by rw [Array.length_toList]; omega)]
    rw [h1]
    have h2 : (cs.toList.take (off + k)).length = off + k := by rw [List.length_take, Array.length_toList]; omega
    have e1 : (cs.toList.take (off + k) ++ x :: cs.toList.drop (off + k + 1)).take (off + (k + 1)) = cs.toList.take (off + k) ++ [x] := tk_one _ _ _ _ h2
    have e2 : (cs.toList.take (off + k) ++ x :: cs.toList.drop (off + k + 1)).drop (off + (k + 1) + xs.length) = cs.toList.drop (off + k + (xs.length + 1)) := by
      refine (dk_one _ _ _ _ _ h2).trans ?_
      rw [List.drop_drop]
      congr 1
      omega
    rw [e1, e2, List.append_assoc, List.length_cons]
    rfl
section
variable {P : Program}
theorem run_buildSlice_one (w : World) (t e : TypeId) (i : TypeInfo) (z : Value) (cs : Array Value) (ht : P.underlying t = some (.slice e)) (hi : P.info? e = some i) (hz : i.zero = some z) (hzs : z.cells.size = i.size) (hs : cs.size = i.size) (h0 : 0 < i.size) (hm : i.size ≤ 16777216) :
    (Instr.buildSlice t 1 #[(0, .agg cs)]).run P w = .ok (.slice (some ⟨w.heap.size, 0, none⟩) 1 1) (w.alloc (.cells cs e)) := by
  have hsz : P.cellsOf e = i.size := by simp [Program.cellsOf, hi]
  have hf : ∀ zz : Array Value, zz.size = cs.size → Instr.fill (fun k => some (k * i.size, i.size)) zz [(0, .agg cs)] = some cs := by
    intro zz hzz
    have h1 := fold_set_all 0 cs.toList 0 zz (by rw [Array.length_toList]; omega)
    have h2 : Array.foldl (fun cs (x : Value × Nat) => cs.setIfInBounds (0 * i.size + x.2) x.1) zz cs.zipIdx = cs := by
      apply Array.toList_inj.1
      rw [Nat.zero_mul, ← Array.foldl_toList, Array.toList_zipIdx]
      refine h1.trans ?_
      rw [List.drop_eq_nil_of_le (by rw [Array.length_toList, Array.length_toList]; omega)]
      simp
    have h3 : ¬ ((decide (cs.size ≠ i.size) || decide (0 * i.size + cs.size > zz.size)) = true) := by simp; omega
    unfold Instr.fill
    exact (if_neg h3).trans (congrArg some h2)
  unfold Instr.buildSlice
  have hsm : ¬ 16777216 < i.size := by omega
  have hs0 : ¬ i.size = 0 := by omega
  have hfx := hf ((Array.range i.size).map (fun x => z.cells[x % z.cells.size]!)) (by simp; omega)
  simp [run_underlying ht, sizeOf, typeInfo, zeroValue, hi, hz, hsm, hs0, hfx, newRow]
theorem wpList_buildSlice_one (w : World) {ops : Array Oper} {rest : List Oper} {o : Oper} {a : Act} {Q : Exit → Act → World → Prop} (hgd : o.guard = none) (t e : TypeId) (x : Operand)
    (ho : o.op = .buildSlice t 1 #[(0, x)]) (n : Nat) (ht : P.underlying t = some (.slice e)) (hi : (P.info? e).map (fun i => (i.zero.map fun z => z.cells.size, i.size)) = some (some n, n)) (h0 : 0 < n) (hm : n ≤ 16777216)
    (cs : Array Value) (hx : a.eval x = .agg cs) (hs : cs.size = n)
    (h : wpList P ops Q rest (a.put o.dst (.slice (some ⟨w.heap.size, 0, none⟩) 1 1)) (w.alloc (.cells cs e))) : wpList P ops Q (o :: rest) a w := by
  refine wpList_plain hgd fun K hK => ?_
  obtain ⟨i, hi, h1⟩ := Option.map_eq_some_iff.1 hi
  obtain ⟨h2, h3⟩ := Prod.mk.injEq _ _ _ _ ▸ h1
  obtain ⟨z, hz, hzs⟩ := Option.map_eq_some_iff.1 h2
  have hr := run_buildSlice_one w t e i z cs ht hi hz (by omega) (by omega) (by omega) (by omega)
  unfold Oper.wp execOp
  simp only [ho, List.map_toArray, List.map_cons, List.map_nil, hx]
  simp [hr]
  exact hK _ _ h
end
theorem info50 : (Try.prog.info? 50).map (fun i => (i.zero, i.size, i.bytes)) = some (some (.agg cellsZ.toArray), 31, 328) := by kernel_rfl
theorem zero50 : (Try.prog.info? 50).map (fun i => (i.zero.map fun z => z.cells.size, i.size)) = some (some 31, 31) := by kernel_rfl
theorem cellsM_one (m : M) (q : Ps) : ∀ u ∈ cellsM m q, u.oneCell' = true := by
  intro u hu
  unfold cellsM at hu
  simp only [List.mem_cons, List.not_mem_nil, or_false] at hu
  rcases hu with rfl | rfl | rfl | rfl | rfl | rfl | rfl | rfl | rfl | rfl | rfl | rfl | rfl | rfl | rfl | rfl | rfl | rfl | rfl | rfl | rfl | rfl | rfl | rfl | rfl | rfl | rfl | rfl | rfl | rfl | rfl <;> rfl
/-- 'append(s, x)' of one message. -/
theorem app_msg (w : World) {ops : Array Oper} {rest : List Oper} {o : Oper} {a : Act} {Q : Exit → Act → World → Prop} (hgd : o.guard = none) (s x : Operand)
    (ho : o.op = .call { callee := .builtin .append, args := #[s, x], argTypes := #[62, 62] }) (base : Nat) (v : Value) (ms : List (M × Ps)) (k : Nat) (hk : k = ms.length) (hs : a.eval s = v) (hown : w.ownsRow base 50 31 v k (mcells ms))
    (m : M) (q : Ps) (hx : a.eval x = .slice (some ⟨w.heap.size, 0, none⟩) 1 1) (hb : k + 1 ≤ 34359738368) (hbase : base ≤ w.heap.size)
    (h : ∀ a' c' w', w'.ownsRow base 50 31 (.slice a' (k + 1) c') (k + 1) (mcells (ms ++ [(m, q)])) → Below base w w' → Moved (w.alloc (.cells (cellsM m q).toArray 50)) w' v (.slice a' (k + 1) c') →
      wpList Try.prog ops Q rest (a.put o.dst (.slice a' (k + 1) c')) w') : wpList Try.prog ops Q (o :: rest) a (w.alloc (.cells (cellsM m q).toArray 50)) := by
  subst hk
  obtain ⟨i0, hi, hz0, hz1, hz2⟩ := info_parts info50
  refine wpList_append_one w hgd s x 62 ho base 50 i0 _ 31 328 Try.underlying62 hi hz0 hz1 hz2 rfl (by decide) v ms.length _ _ hs hown hx rfl (by simpa using cellsM_one m q) (by unfold maxLen; omega) (by omega) hbase ?_
  intro a' c' w' h1 h2 h3
  refine h a' c' w' ?_ h2 h3
  rw [mcells_app]
  simpa [mcells] using h1
end Go.Proofs.Ytaipnbpefdcejaa
/- The walk of the program's All. -/
set_option linter.unusedVariables false
namespace Go.Proofs.Ytaipnbpefdcejaa
open Go.RowKit
def flatF (ms : List M) : List UInt8 := ms.flatMap frameM
/-- What All answers. -/
def AllR (l : List UInt8) (ms : List M) (n : Nat) (c : Int) : Prop :=
  ∃ rest, l = flatF ms ++ rest ∧ n = (flatF ms).length ∧ (∀ m ∈ ms, VX m ∧ properM m ∧ (inM m).length ≤ 1048576) ∧ ((rest = [] ∧ c = 0) ∨ (rest ≠ [] ∧ c ≠ 0 ∧ ∃ x k, DecR rest x k c))
def AllPost (l : List UInt8) (w : World) (e : Ending) (w' : World) : Prop :=
  ∃ (ms : List (M × Ps)) (a : Option Addr) (c : Nat) (n : Nat) (er : Int), e = .returned (.tuple #[.slice a ms.length c, .int .i64 (n : Int), .int .i64 er]) ∧ AllR l (ms.map (·.1)) n er ∧ OwnL w.heap.size w' (.slice a ms.length c) ms ∧ Below w.heap.size w w'
theorem meas_lt2 {nb at_ n : Nat} (h : at_ < nb) (hn : 0 < n) : nb - (intOf (.int .i64 ((at_ : Int) + n))).toNat < nb - (intOf (.int .i64 (at_ : Int))).toNat := by
  show nb - ((at_ : Int) + n).toNat < nb - ((at_ : Int)).toNat
  omega
theorem flatF_app (a b : List M) : flatF (a ++ b) = flatF a ++ flatF b := List.flatMap_append
theorem flatF_len (ms : List M) : ms.length * 2 ≤ (flatF ms).length := by
  induction ms with
  | nil => simp [flatF]
  | cons m ms ih =>
    have h1 := inM_pos m
    have h2 := bytesU_pos (inM m).length
    show _ ≤ (frameM m ++ flatF ms).length
    rw [List.length_append, List.length_cons]
    unfold frameM
    rw [List.length_append]
    omega
/-- All under way: the messages so far, the place. -/
structure AS (w : World) (l : List UInt8) (ms : List (M × Ps)) (a : Option Addr) (c : Nat) (at_ : Nat) (wr : World) : Prop where
  place : at_ = (flatF (ms.map (·.1))).length
  split : l = flatF (ms.map (·.1)) ++ l.drop at_
  le : at_ ≤ l.length
  good : ∀ m ∈ ms.map (·.1), VX m ∧ properM m ∧ (inM m).length ≤ 1048576
  own : OwnL w.heap.size wr (.slice a ms.length c) ms
  bel : Below w.heap.size w wr
theorem AS.start (w : World) (l : List UInt8) : AS w l [] none 0 0 w :=
  ⟨rfl, by simp [flatF], Nat.zero_le _, fun m hm => by simp at hm, ⟨World.ownsRow_nil _ _ _ _, fun x hx => by simp at hx⟩, Below.refl _ _⟩
theorem AS.stop {w wr wr' : World} {l : List UInt8} {ms : List (M × Ps)} {a : Option Addr} {c at_ : Nat} (h : AS w l ms a c at_ wr) (hb : Below wr.heap.size wr wr') (hend : at_ = l.length) :
    AllPost l w (.returned (.tuple #[.slice a ms.length c, .int .i64 (at_ : Int), .int .i64 0])) wr' :=
  ⟨ms, a, c, at_, 0, rfl, ⟨[], by have := h.split; rw [hend, List.drop_length] at this; exact this, h.place, h.good, .inl ⟨rfl, rfl⟩⟩, h.own.below hb, h.bel.trans (hb.mono h.bel.size)⟩
theorem AS.fail {w wr wr' : World} {l : List UInt8} {ms : List (M × Ps)} {a : Option Addr} {c at_ : Nat} (h : AS w l ms a c at_ wr) (hb : Below wr.heap.size wr wr') (hlt : at_ < l.length) {x : M} {k : Nat} {er : Int} (hr : DecR (l.drop at_) x k er) (he : er ≠ 0) :
    AllPost l w (.returned (.tuple #[.slice a ms.length c, .int .i64 (at_ : Int), .int .i64 er])) wr' :=
  ⟨ms, a, c, at_, er, rfl, ⟨l.drop at_, h.split, h.place, h.good, .inr ⟨by intro h0; have := congrArg List.length h0; rw [List.length_drop, List.length_nil] at this; omega, he, x, k, hr⟩⟩, h.own.below hb, h.bel.trans (hb.mono h.bel.size)⟩
theorem own_apart {w : World} {base base' e e' size size' n n' : Nat} {u v : Value} {xs ys : List Value} (h : w.ownsRow base e size u n xs) (h' : w.ownsRow base' e' size' v n' ys) (hne : e ≠ e') : u.ownBlock = none ∨ u.ownBlock ≠ v.ownBlock := by
  rcases h.2 with ⟨rfl, _⟩ | ⟨g, cap, cur, rfl, _, h1, _⟩
  · exact .inl rfl
  · rcases h'.2 with ⟨rfl, _⟩ | ⟨g', cap', cur', rfl, _, h2, _⟩
    · exact .inr (by simp [Value.ownBlock])
    · refine .inr fun he => ?_
      simp only [Value.ownBlock, Option.some.injEq] at he
      subst he
      rw [h1] at h2
      simp only [Option.some.injEq, Obj.cells.injEq] at h2
      exact hne h2.2.1
theorem Moved.kept' {w w' : World} {base e size n : Nat} {u v v' : Value} {xs : List Value} (h : w.ownsRow base e size u n xs) (hm : Moved w w' v v') (hne : u.ownBlock = none ∨ u.ownBlock ≠ v.ownBlock) : w'.ownsRow base e size u n xs := hm.kept h hne
theorem OwnM.moved {base base' n : Nat} {w w' : World} {x : M} {q : Ps} {v v' : Value} {xs : List Value} (h : OwnM base w x q) (hv : w.ownsRow base' 50 31 v n xs) (hm : Moved w w' v v') : OwnM base w' x q :=
  ⟨Moved.kept' h.1 hm (own_apart h.1 hv (by decide)), Moved.kept' h.2.1 hm (own_apart h.2.1 hv (by decide)), Moved.kept' h.2.2.1 hm (own_apart h.2.2.1 hv (by decide)), Moved.kept' h.2.2.2 hm (own_apart h.2.2.2 hv (by decide))⟩
theorem AS.grow {w wr wd w' : World} {l : List UInt8} {ms : List (M × Ps)} {a a' : Option Addr} {c c' at_ : Nat} (h : AS w l ms a c at_ wr) {x : M} {q : Ps} {k : Nat} (hr : DecR (l.drop at_) x k 0)
    (hd : Below wr.heap.size wr wd) (hq : OwnM wr.heap.size wd x q) (hm : Moved wd w' (.slice a ms.length c) (.slice a' (ms.length + 1) c')) (hbw : Below w.heap.size wr w')
    (ho : w'.ownsRow w.heap.size 50 31 (.slice a' (ms.length + 1) c') (ms.length + 1) (mcells (ms ++ [(x, q)]))) : AS w l (ms ++ [(x, q)]) a' c' (at_ + k) w' := by
  obtain ⟨hx, px, lx, hk, ht, hle, _⟩ := dec_one hr
  rw [List.length_drop] at hle
  have hmap : (ms ++ [(x, q)]).map (·.1) = ms.map (·.1) ++ [x] := by simp
  have hone : flatF [x] = frameM x := by simp [flatF]
  have hvd := own_below h.own.1 hd
  refine ⟨?_, ?_, ?_, ?_, ⟨?_, ?_⟩, h.bel.trans hbw⟩
  · rw [hmap, flatF_app, hone, List.length_append, h.place, hk]
  · rw [hmap, flatF_app, hone, List.append_assoc, ← List.drop_drop, ← ht, List.take_append_drop]
    exact h.split
  · have := h.le; omega
  · intro y hy
    rw [hmap] at hy
    rcases List.mem_append.1 hy with hy | hy
    · exact h.good y hy
    · rw [List.mem_singleton.1 hy]; exact ⟨hx, px, lx⟩
  · rw [List.length_append]; exact ho
  · intro y hy
    rcases List.mem_append.1 hy with hy | hy
    · exact ((h.own.2 y hy).below hd).moved hvd hm
    · rw [List.mem_singleton.1 hy]
      exact (hq.moved hvd hm).low h.bel.size
set_option maxHeartbeats 4000000 in
set_option maxRecDepth 20000 in
theorem all_any (a : Option Addr) (nb cap : Nat) (l : List UInt8) (w : World) (hn : l.length = nb) (hmax : nb ≤ 34359738368) (hcap : nb ≤ cap) (hr : Rd w a (l.map B)) : Calls Try.prog 34 #[.slice a nb cap] w (AllPost l w) := by
  have HN := Lib.hid hn
  have HR := Lib.hid hr
  have HST := Lib.hid (AS.start w l)
  clear hn hr
  go_enter Try.func34, Try.ntmps34
  go_wp2_with fail
  obtain ⟨W0, hW0⟩ : ∃ W0, W0 = w := ⟨_, rfl⟩
  rw [← hW0]
  have HST2 : Hid (AS w l [] none 0 0 W0) := Lib.hid (by rw [hW0]; exact HST.out)
  have HW0 := Lib.hid hW0
  clear hW0 HST
  go_loopw [5, 6] (fun o i wr => ∃ (ms : List (M × Ps)) (a2 : Option Addr) (c2 at_ : Nat), o = .slice a2 ms.length c2 ∧ i = .int .i64 (at_ : Int) ∧ AS w l ms a2 c2 at_ wr) (fun _ i _ => nb - (intOf i).toNat)
  case atStart => exact ⟨[], none, 0, 0, rfl, rfl, HST2.out⟩
  case round =>
    obtain ⟨ms, a2, c2, at_, rfl, rfl, has⟩ := hrel
    have HAS := Lib.hid has
    have hle := has.le
    rw [HN.out] at hle
    have hme := flatF_len (ms.map (·.1))
    rw [← has.place, List.length_map] at hme
    clear has
    by_cases hlt : at_ < nb
    · have hlt' : (at_ : Int) < nb := by omega
      obtain ⟨bk, off, rfl, _⟩ := HR.out.cells (by intro h0; have h1 := congrArg List.length h0; rw [List.length_map, List.length_nil, HN.out] at h1; omega)
      have hrd := (HR.out.below HAS.out.bel).sub at_ nb (by rw [List.length_map]; exact Nat.le_of_eq HN.out.symm) (some ⟨bk, off + at_, none⟩) (fun _ => by simp [Addr.add])
      rw [← List.map_take, ← List.map_drop, List.take_of_length_le (by rw [HN.out]; exact Nat.le_refl _)] at hrd
      have hln : (l.drop at_).length = nb - at_ := by rw [List.length_drop, HN.out]
      have HRD := Lib.hid hrd
      have HLN := Lib.hid hln
      clear hrd hln
      go_wp2_with fail
      refine (decode_any (some ⟨bk, off + at_, none⟩) (nb - at_) (cap - at_) (l.drop at_) wr HLN.out (by omega) (by omega) HRD.out).mono ?_
      rintro e w1 ⟨x, q, n, c, rfl, hR, hown, hb1⟩
      have HRR := Lib.hid hR
      have HB1 := Lib.hid hb1
      have HOW := Lib.hid hown
      clear hR hb1 hown
      obtain ⟨hkk, hkb, hth⟩ := new_msg w1 x q
      obtain ⟨wb, hwb⟩ : ∃ wb, wb = (w1.alloc (.cells cellsZ.toArray 50)).setCells w1.heap.size 0 (cellsM x q) := ⟨_, rfl⟩
      rw [← hwb] at hkk hkb
      unfold cellsZ at hth hwb
      have HWB := Lib.hid hwb
      clear hwb
      go_upto_region 5 with (first | ((with_reducible refine at_store ?_); refine wpList_store_mid rfl 50 _ _ rfl w1.heap.size 0 (cellsM x q).toArray rfl rfl hth (by kernel_rfl) (by kernel_rfl) ?_; rw [← HWB.out]) | fail)
      obtain ⟨gk, hgk⟩ : ∃ g, g = w1.heap.size := ⟨_, rfl⟩
      rw [← hgk] at hkk ⊢
      have hbb : Below wr.heap.size wr wb := HB1.out.trans (hkb.mono HB1.out.size)
      have hown2 : OwnM wr.heap.size wb x q := HOW.out.below hkb
      have hown3 : wb.ownsRow w.heap.size 50 31 (.slice a2 ms.length c2) ms.length (mcells ms) := own_below HAS.out.own.1 hbb
      have hbase : w.heap.size ≤ wb.heap.size := Nat.le_trans HAS.out.bel.size hbb.size
      have HBB := Lib.hid hbb
      have HO2 := Lib.hid hown2
      clear hth HWB hgk hkb hbb hown2 HOW HB1
      by_cases hc : c = 0
      · subst hc
        have hd1 := dec_one HRR.out
        have hn2 : 2 ≤ n := hd1.2.2.2.2.2.2
        have hn3 : n ≤ nb - at_ := by have := hd1.2.2.2.2.2.1; rw [HLN.out] at this; exact this
        have hs : IntKind.i64.wrap ((at_ : Int) + n) = (at_ : Int) + n := by rw [IntKind.wrap_i64]; omega
        have hme2 : nb - (at_ + n) < nb - at_ := by omega
        clear hd1
        go_wp2_with (first | ((with_reducible refine at_dst 28 ?_); refine wpList_load_midg rfl 50 (.tmp 7) rfl gk 0 rfl (cellsM x q) _ hkk.whole Try.underlying50 rfl (by kernel_rfl) ?_) | ((with_reducible refine at_dst 29 ?_); refine wpList_buildSlice_one wb rfl 62 50 (.tmp 28) rfl 31 Try.underlying62 zero50 (by decide) (by decide) (cellsM x q).toArray rfl rfl ?_) | (at_builtin; refine app_msg wb rfl _ _ rfl w.heap.size (.slice a2 ms.length c2) ms ms.length rfl rfl hown3 x q rfl (by omega) hbase ?_; intro a' c' w' ho' hb' hm') | fail)
        have hgrow := HAS.out.grow HRR.out (HBB.out.trans ((Below.refl wb.heap.size wb).alloc (Nat.le_refl _) (.cells (cellsM x q).toArray 50) |>.mono HBB.out.size)) (HO2.out.below ((Below.refl _ _).alloc (Nat.le_refl _) _)) hm' ((HBB.out.mono HAS.out.bel.size).trans hb') ho'
        have HR : Hid (∃ (ms' : List (M × Ps)) (a3 : Option Addr) (c3 at2 : Nat), Value.slice a' (ms.length + 1) c' = .slice a3 ms'.length c3 ∧ Value.int .i64 ((at_ : Int) + n) = .int .i64 (at2 : Int) ∧ AS w l ms' a3 c3 at2 w') := Lib.hid ⟨ms ++ [(x, q)], a', c', at_ + n, by rw [List.length_append]; rfl, rfl, hgrow⟩
        have HME := Lib.hid (meas_lt2 (n := n) hlt (by omega))
        clear hgrow ho' hb' hm' hkk hown3 hbase
        go_wp2
        go_roundw
        case rel => exact HR.out
        case measure => exact HME.out
      · go_wp2_with fail
        go_ret3
        rw [HW0.out]
        exact HAS.out.fail HBB.out (by rw [HN.out]; exact hlt) HRR.out hc
    · have hlt' : ¬ (at_ : Int) < nb := by omega
      go_wp2_with fail
      go_ret3
      first | rw [HW0.out] | skip
      exact HAS.out.stop (Below.refl _ _) (by rw [HN.out]; omega)
end Go.Proofs.Ytaipnbpefdcejaa
