/- A message that comes in: its plain data, how its lists read, and its bulk. -/
import Derived.Test.YtaipnbpefdcejaaEnc
import Derived.Test.YtaipnbpefdcejaaBulk
import Derived.Deep.Slices
import Derived.OpenShut
import Derived.WideShapes
set_option linter.unusedVariables false
namespace Go.Proofs.Ytaipnbpefdcejaa
open Go.RowKit
theorem flat_get {α : Type} (f : α → List Value) (k : Nat) (hk : 0 < k) (hf : ∀ v, (f v).length = k) : ∀ (l : List α) (j : Nat), (l.flatMap f)[j]? = (l[j / k]?).bind fun v => (f v)[j % k]? := by
  intro l
  induction l with
  | nil => intro j; simp
  | cons v l ih =>
    intro j
    rw [List.flatMap_cons]
    by_cases h : j < k
    · rw [List.getElem?_append_left (by rw [hf]; exact h), Nat.div_eq_of_lt h, Nat.mod_eq_of_lt h]
      rfl
    · rw [List.getElem?_append_right (by rw [hf]; omega), hf, ih]
      have h1 : j / k = (j - k) / k + 1 := by
        rw [← Nat.sub_add_cancel (show k ≤ j by omega), Nat.add_div_right _ hk, Nat.add_sub_cancel]
      have h2 : j % k = (j - k) % k := by
        rw [← Nat.sub_add_cancel (show k ≤ j by omega), Nat.add_mod_right, Nat.add_sub_cancel]
      rw [h1, h2, List.getElem?_cons_succ]
section
variable {H : Type} {enc : TypeId × Value → H} {P : Program} {W : World}
theorem bulk_get {xs : List (DataW H × List MemPlace)} {i : Nat} {y : DataW H × List MemPlace} (h : xs[i]? = some y) : Rows.uptoBulk y.1 ≤ Rows.uptoBulkAll (xs.map (·.1)) := by
  induction xs generalizing i with
  | nil => simp at h
  | cons z xs ih =>
    cases i with
    | zero =>
      simp at h
      subst h
      simp only [List.map_cons, Rows.uptoBulkAll]
      omega
    | succ i =>
      have := ih (by simpa using h)
      simp only [List.map_cons, Rows.uptoBulkAll]
      omega
theorem open_list {α : Type} [Inhabited α] (f : α → List Value) (k : Nat) (hk : 0 < k) (hf : ∀ v, (f v).length = k) (ok : α → Prop) {t e : TypeId} (ht : P.underlying t = some (.slice e)) (hc : P.cellsOf e = k)
    (hel : ∀ n cs y, DataW.trod enc P W 0 (fun _ => true) true n e cs = some y → ∃ v, cs = f v ∧ ok v) {fuel : Nat} {cs : List Value} {x : DataW H × List MemPlace} (h : DataW.trod enc P W 0 (fun _ => true) true fuel t cs = some x) :
    ∃ (a : Option Addr) (c : Nat) (l : List α), cs = [.slice a l.length c] ∧ Rd W a (l.flatMap f) ∧ (∀ v ∈ l, ok v) ∧ l.length + 1 ≤ Rows.uptoBulk x.1 := by
  rcases DataW.trod_slice ht h with ⟨rfl, rfl⟩ | ⟨a, len, cap, elems, rest, n, _, rfl, rfl, _, hl, _, hlen, hei, _, _⟩
  · exact ⟨none, 0, [], rfl, Rd.nil _ _, fun v hv => by simp at hv, by simp [Rows.uptoBulk]⟩
  · rw [hc] at hei
    have hex : ∀ i, i < len → ∃ v, ok v ∧ ∀ r, r < k → W.cell? (a.add (i * k + r)) = (f v)[r]? := by
      intro i hi
      have h1 := hei i hi
      rw [List.getElem?_eq_getElem (by omega)] at h1
      obtain ⟨cs', h2, h3⟩ := Option.bind_eq_some_iff.1 h1
      obtain ⟨v, rfl, hv⟩ := hel n cs' _ h3
      obtain ⟨_, _, h4⟩ := World.cells?_some h2
      refine ⟨v, hv, fun r hr => ?_⟩
      rw [← h4 r hr, Go.Deep.add_add]
    obtain ⟨V, hV⟩ := Go.Deep.choose_lt hex
    have hll : ((List.range len).map V).length = len := by simp
    refine ⟨some a, cap, (List.range len).map V, by rw [hll], ?_, fun v hv => ?_, ?_⟩
    · by_cases h0 : len = 0
      · left; subst h0; rfl
      · right
        obtain ⟨b, off, spot⟩ := a
        have h1 := (hV 0 (by omega)).2 0 hk
        obtain ⟨u, hu⟩ : ∃ u, (f (V 0))[0]? = some u := ⟨_, List.getElem?_eq_getElem (by rw [hf]; exact hk)⟩
        rw [hu] at h1
        have hspot : spot = none := by simpa [Addr.add] using World.cell?_spot h1
        subst hspot
        refine ⟨b, off, rfl, fun j u hu => ?_⟩
        rw [flat_get f k hk hf, List.getElem?_map] at hu
        by_cases hj : j / k < len
        · rw [List.getElem?_range hj] at hu
          have h2 := (hV (j / k) hj).2 (j % k) (Nat.mod_lt _ hk)
          rw [Addr.add_lit, Nat.div_add_mod'] at h2
          rw [h2]
          exact hu
        · rw [List.getElem?_eq_none (by simpa using hj)] at hu
          simp at hu
    · obtain ⟨i, hi, rfl⟩ := List.mem_map.1 hv
      exact (hV i (by simpa using hi)).1
    · have h1 := bulk_len (elems.map (·.1))
      simp only [List.length_map] at h1
      rw [hll]
      simp only [Rows.uptoBulk]
      omega
theorem pc (cs : List Value) (o s r : Nat) (h : o + s = r) : cs.drop o = (cs.drop o).take s ++ cs.drop r := by
  subst h
  rw [← List.drop_drop, List.take_append_drop]
theorem fld {fs : Array Field} {n : Nat} {cs : List Value} {xs : List (DataW H × List MemPlace)} (hl : xs.length = fs.size)
    (hf : ∀ (i : Nat) (f : Field), fs[i]? = some f → DataW.trod enc P W 0 (fun _ => true) true n f.type ((cs.drop f.offset).take (P.cellsOf f.type)) = xs[i]?) (i : Nat) (f : Field) (hi : fs[i]? = some f) (T o s : Nat) (hT : f.type = T) (ho : f.offset = o) (hs : P.cellsOf T = s) :
    ∃ y, xs[i]? = some y ∧ DataW.trod enc P W 0 (fun _ => true) true n T ((cs.drop o).take s) = some y := by
  subst hT; subst ho; subst hs
  have h1 : i < xs.length := by rw [hl]; exact (Array.getElem?_eq_some_iff.1 hi).1
  exact ⟨_, List.getElem?_eq_getElem h1, (hf i f hi).trans (List.getElem?_eq_getElem h1)⟩
end
section
variable {H : Type} {enc : TypeId × Value → H} {W : World} {n : Nat} {cs : List Value} {x : DataW H × List MemPlace}
abbrev TR (H : Type) (enc : TypeId × Value → H) (W : World) (n T : Nat) (cs : List Value) (x : DataW H × List MemPlace) : Prop := DataW.trod enc Try.prog W 0 (fun _ => true) true n T cs = some x
theorem i64_of {z : Int} (h : (Lit.int .i64 z).wf = true) : I64 z := by
  simp [Lit.wf, IntKind.min, IntKind.max, IntKind.bits, IntKind.signed] at h
  unfold I64
  omega
theorem u64_of {z : Int} (h : (Lit.int .u64 z).wf = true) : U64 z := by
  simp [Lit.wf, IntKind.min, IntKind.max, IntKind.bits, IntKind.signed] at h
  unfold U64
  omega
theorem o_i64 {T : Nat} (ht : Try.prog.underlying T = some (.int .i64)) (h : TR H enc W n T cs x) : ∃ z, cs = [.int .i64 z] ∧ I64 z := by
  obtain ⟨z, h1, _, h2⟩ := DataW.trod_int ht h
  exact ⟨z, h1, i64_of h2⟩
theorem o_u64 {T : Nat} (ht : Try.prog.underlying T = some (.int .u64)) (h : TR H enc W n T cs x) : ∃ z, cs = [.int .u64 z] ∧ U64 z := by
  obtain ⟨z, h1, _, h2⟩ := DataW.trod_int ht h
  exact ⟨z, h1, u64_of h2⟩
theorem o_bool (h : TR H enc W n 4 cs x) : ∃ b, cs = [.bool b] := by
  obtain ⟨b, h1, _⟩ := DataW.trod_bool Try.underlying4 h
  exact ⟨b, h1⟩
theorem o_str (h : TR H enc W n 9 cs x) : ∃ s : ByteArray, cs = [.string s] ∧ s.size + 1 ≤ Rows.uptoBulk x.1 := by
  obtain ⟨s, h1, h2, _⟩ := DataW.trod_string Try.underlying9 h
  refine ⟨s, h1, ?_⟩
  rw [h2]
  simp only [Rows.uptoBulk]
  rw [Array.length_toList]
  exact Nat.le_refl _
/-- What a struct's fields are: by place. -/
theorem all_drop {N : Nat} (h : cs.length = N) : cs.drop N = [] := List.drop_eq_nil_of_le (by omega)
theorem o_name (h : TR H enc W n 89 cs x) : ∃ v : Int × Int, cs = [.int .i64 v.1, .int .u64 v.2] ∧ (I64 v.1 ∧ U64 v.2) := by
  obtain ⟨xs, m, _, _, hlen, hl, hf⟩ := DataW.trod_struct Try.underlying89 h
  have hlen : cs.length = 2 := hlen.trans (by kernel_rfl)
  obtain ⟨y0, _, h0⟩ := fld hl hf 0 _ rfl 2 0 1 rfl rfl (by kernel_rfl)
  obtain ⟨y1, _, h1⟩ := fld hl hf 1 _ rfl 25 1 1 rfl rfl (by kernel_rfl)
  obtain ⟨a, ha, wa⟩ := o_i64 Try.underlying2 h0
  obtain ⟨b, hb, wb⟩ := o_u64 Try.underlying25 h1
  refine ⟨(a, b), ?_, wa, wb⟩
  rw [← List.drop_zero (l := cs), pc cs 0 1 1 rfl, pc cs 1 1 2 rfl, all_drop hlen, ha, hb]
  rfl
theorem o_val (h : TR H enc W n 74 cs x) : ∃ v : Bool × Int, cs = [.bool v.1, .int .i64 v.2] ∧ I64 v.2 := by
  obtain ⟨xs, m, _, _, hlen, hl, hf⟩ := DataW.trod_struct Try.underlying74 h
  have hlen : cs.length = 2 := hlen.trans (by kernel_rfl)
  obtain ⟨y0, _, h0⟩ := fld hl hf 0 _ rfl 4 0 1 rfl rfl (by kernel_rfl)
  obtain ⟨y1, _, h1⟩ := fld hl hf 1 _ rfl 2 1 1 rfl rfl (by kernel_rfl)
  obtain ⟨a, ha⟩ := o_bool h0
  obtain ⟨b, hb, wb⟩ := o_i64 Try.underlying2 h1
  refine ⟨(a, b), ?_, wb⟩
  rw [← List.drop_zero (l := cs), pc cs 0 1 1 rfl, pc cs 1 1 2 rfl, all_drop hlen, ha, hb]
  rfl
theorem o_arr (h : TR H enc W n 37 cs x) : ∃ a0 a1 a2 a3 a4 a5 a6 a7 : Int, cs = [.int .i64 a0, .int .i64 a1, .int .i64 a2, .int .i64 a3, .int .i64 a4, .int .i64 a5, .int .i64 a6, .int .i64 a7] ∧ I64 a0 ∧ I64 a1 ∧ I64 a2 ∧ I64 a3 ∧ I64 a4 ∧ I64 a5 ∧ I64 a6 ∧ I64 a7 := by
  obtain ⟨xs, m, _, _, hlen, hl, hf⟩ := DataW.trod_array Try.underlying37 h
  have hlen : cs.length = 8 := hlen.trans (by kernel_rfl)
  have h1 : Try.prog.cellsOf 2 = 1 := by kernel_rfl
  rw [h1] at hf
  have g : ∀ i, i < 8 → ∃ z, (cs.drop i).take 1 = [.int .i64 z] ∧ I64 z := by
    intro i hi
    have h2 := hf i hi
    rw [Nat.mul_one, List.getElem?_eq_getElem (by omega)] at h2
    exact o_i64 Try.underlying2 h2
  obtain ⟨a0, e0, w0⟩ := g 0 (by omega)
  obtain ⟨a1, e1, w1⟩ := g 1 (by omega)
  obtain ⟨a2, e2, w2⟩ := g 2 (by omega)
  obtain ⟨a3, e3, w3⟩ := g 3 (by omega)
  obtain ⟨a4, e4, w4⟩ := g 4 (by omega)
  obtain ⟨a5, e5, w5⟩ := g 5 (by omega)
  obtain ⟨a6, e6, w6⟩ := g 6 (by omega)
  obtain ⟨a7, e7, w7⟩ := g 7 (by omega)
  refine ⟨a0, a1, a2, a3, a4, a5, a6, a7, ?_, w0, w1, w2, w3, w4, w5, w6, w7⟩
  rw [← List.drop_zero (l := cs), pc cs 0 1 1 rfl, pc cs 1 1 2 rfl, pc cs 2 1 3 rfl, pc cs 3 1 4 rfl, pc cs 4 1 5 rfl, pc cs 5 1 6 rfl, pc cs 6 1 7 rfl, pc cs 7 1 8 rfl, all_drop hlen, e0, e1, e2, e3, e4, e5, e6, e7]
  rfl
theorem o_event (h : TR H enc W n 39 cs x) : ∃ ts id typ a0 a1 a2 a3 a4 a5 a6 a7 : Int, cs = [.int .i64 ts, .int .u64 id, .int .i64 typ, .int .i64 a0, .int .i64 a1, .int .i64 a2, .int .i64 a3, .int .i64 a4, .int .i64 a5, .int .i64 a6, .int .i64 a7] ∧
    (I64 ts ∧ U64 id ∧ I64 typ) ∧ I64 a0 ∧ I64 a1 ∧ I64 a2 ∧ I64 a3 ∧ I64 a4 ∧ I64 a5 ∧ I64 a6 ∧ I64 a7 := by
  obtain ⟨xs, m, _, _, hlen, hl, hf⟩ := DataW.trod_struct Try.underlying39 h
  have hlen : cs.length = 11 := hlen.trans (by kernel_rfl)
  obtain ⟨y0, _, h0⟩ := fld hl hf 0 _ rfl 2 0 1 rfl rfl (by kernel_rfl)
  obtain ⟨y1, _, h1⟩ := fld hl hf 1 _ rfl 25 1 1 rfl rfl (by kernel_rfl)
  obtain ⟨y2, _, h2⟩ := fld hl hf 2 _ rfl 3 2 1 rfl rfl (by kernel_rfl)
  obtain ⟨y3, _, h3⟩ := fld hl hf 3 _ rfl 37 3 8 rfl rfl (by kernel_rfl)
  obtain ⟨ts, e0, w0⟩ := o_i64 Try.underlying2 h0
  obtain ⟨id, e1, w1⟩ := o_u64 Try.underlying25 h1
  obtain ⟨typ, e2, w2⟩ := o_i64 Try.underlying3 h2
  obtain ⟨a0, a1, a2, a3, a4, a5, a6, a7, e3, w3⟩ := o_arr h3
  refine ⟨ts, id, typ, a0, a1, a2, a3, a4, a5, a6, a7, ?_, ⟨w0, w1, w2⟩, w3⟩
  rw [← List.drop_zero (l := cs), pc cs 0 1 1 rfl, pc cs 1 1 2 rfl, pc cs 2 1 3 rfl, pc cs 3 8 11 rfl, all_drop hlen, e0, e1, e2, e3]
  rfl
theorem o_sizes (h : TR H enc W n 46 cs x) : ∃ (mark : Int) (closed : Bool) (held kept waiting parts : Int), cs = [.int .i64 mark, .bool closed, .int .i64 held, .int .i64 kept, .int .i64 waiting, .int .i64 parts] ∧ I64 mark ∧ I64 held ∧ I64 kept ∧ I64 waiting ∧ I64 parts := by
  obtain ⟨xs, m, _, _, hlen, hl, hf⟩ := DataW.trod_struct Try.underlying46 h
  have hlen : cs.length = 6 := hlen.trans (by kernel_rfl)
  obtain ⟨y0, _, h0⟩ := fld hl hf 0 _ rfl 2 0 1 rfl rfl (by kernel_rfl)
  obtain ⟨y1, _, h1⟩ := fld hl hf 1 _ rfl 4 1 1 rfl rfl (by kernel_rfl)
  obtain ⟨y2, _, h2⟩ := fld hl hf 2 _ rfl 3 2 1 rfl rfl (by kernel_rfl)
  obtain ⟨y3, _, h3⟩ := fld hl hf 3 _ rfl 3 3 1 rfl rfl (by kernel_rfl)
  obtain ⟨y4, _, h4⟩ := fld hl hf 4 _ rfl 3 4 1 rfl rfl (by kernel_rfl)
  obtain ⟨y5, _, h5⟩ := fld hl hf 5 _ rfl 3 5 1 rfl rfl (by kernel_rfl)
  obtain ⟨z0, e0, w0⟩ := o_i64 Try.underlying2 h0
  obtain ⟨z1, e1⟩ := o_bool h1
  obtain ⟨z2, e2, w2⟩ := o_i64 Try.underlying3 h2
  obtain ⟨z3, e3, w3⟩ := o_i64 Try.underlying3 h3
  obtain ⟨z4, e4, w4⟩ := o_i64 Try.underlying3 h4
  obtain ⟨z5, e5, w5⟩ := o_i64 Try.underlying3 h5
  refine ⟨z0, z1, z2, z3, z4, z5, ?_, w0, w2, w3, w4, w5⟩
  rw [← List.drop_zero (l := cs), pc cs 0 1 1 rfl, pc cs 1 1 2 rfl, pc cs 2 1 3 rfl, pc cs 3 1 4 rfl, pc cs 4 1 5 rfl, pc cs 5 1 6 rfl, all_drop hlen, e0, e1, e2, e3, e4, e5]
  rfl
theorem o_fault (h : TR H enc W n 48 cs x) : ∃ a b c : Int, cs = [.int .i64 a, .int .i64 b, .int .i64 c] ∧ I64 a ∧ I64 b ∧ I64 c := by
  obtain ⟨xs, m, _, _, hlen, hl, hf⟩ := DataW.trod_struct Try.underlying48 h
  have hlen : cs.length = 3 := hlen.trans (by kernel_rfl)
  obtain ⟨y0, _, h0⟩ := fld hl hf 0 _ rfl 3 0 1 rfl rfl (by kernel_rfl)
  obtain ⟨y1, _, h1⟩ := fld hl hf 1 _ rfl 26 1 1 rfl rfl (by kernel_rfl)
  obtain ⟨y2, _, h2⟩ := fld hl hf 2 _ rfl 3 2 1 rfl rfl (by kernel_rfl)
  obtain ⟨z0, e0, w0⟩ := o_i64 Try.underlying3 h0
  obtain ⟨z1, e1, w1⟩ := o_i64 Try.underlying26 h1
  obtain ⟨z2, e2, w2⟩ := o_i64 Try.underlying3 h2
  refine ⟨z0, z1, z2, ?_, w0, w1, w2⟩
  rw [← List.drop_zero (l := cs), pc cs 0 1 1 rfl, pc cs 1 1 2 rfl, pc cs 2 1 3 rfl, all_drop hlen, e0, e1, e2]
  rfl
theorem o_match (h : TR H enc W n 44 cs x) : ∃ (dec : Int) (an : Option Addr) (cn : Nat) (al : Option Addr) (cl : Nat) (av : Option Addr) (cv : Nat) (names : List (Int × Int)) (lens : List Int) (vals : List (Bool × Int)),
    cs = [.int .i64 dec, .slice an names.length cn, .slice al lens.length cl, .slice av vals.length cv] ∧ I64 dec ∧ Rd W an (ncells names) ∧ Rd W al (zcells lens) ∧ Rd W av (vcells vals) ∧ (∀ v ∈ names, I64 v.1 ∧ U64 v.2) ∧ (∀ v ∈ lens, I64 v) ∧ (∀ v ∈ vals, I64 v.2) ∧
    names.length ≤ Rows.uptoBulk x.1 ∧ lens.length ≤ Rows.uptoBulk x.1 ∧ vals.length ≤ Rows.uptoBulk x.1 := by
  obtain ⟨xs, m, _, hx, hlen, hl, hf⟩ := DataW.trod_struct Try.underlying44 h
  have hlen : cs.length = 4 := hlen.trans (by kernel_rfl)
  obtain ⟨y0, g0, h0⟩ := fld hl hf 0 _ rfl 2 0 1 rfl rfl (by kernel_rfl)
  obtain ⟨y1, g1, h1⟩ := fld hl hf 1 _ rfl 40 1 1 rfl rfl (by kernel_rfl)
  obtain ⟨y2, g2, h2⟩ := fld hl hf 2 _ rfl 41 2 1 rfl rfl (by kernel_rfl)
  obtain ⟨y3, g3, h3⟩ := fld hl hf 3 _ rfl 42 3 1 rfl rfl (by kernel_rfl)
  obtain ⟨z0, e0, w0⟩ := o_i64 Try.underlying2 h0
  obtain ⟨an, cn, names, e1, r1, w1, b1⟩ := open_list (fun v : Int × Int => [.int .i64 v.1, .int .u64 v.2]) 2 (by omega) (fun _ => rfl) (fun v => I64 v.1 ∧ U64 v.2) Try.underlying40 (by kernel_rfl) (fun _ _ _ h => o_name h) h1
  obtain ⟨al, cl, lens, e2, r2, w2, b2⟩ := open_list (fun v : Int => [.int .i64 v]) 1 (by omega) (fun _ => rfl) I64 Try.underlying41 (by kernel_rfl) (fun _ _ _ h => o_i64 Try.underlying3 h) h2
  obtain ⟨av, cv, vals, e3, r3, w3, b3⟩ := open_list (fun v : Bool × Int => [.bool v.1, .int .i64 v.2]) 2 (by omega) (fun _ => rfl) (fun v => I64 v.2) Try.underlying42 (by kernel_rfl) (fun _ _ _ h => o_val h) h3
  have k1 := bulk_get g1
  have k2 := bulk_get g2
  have k3 := bulk_get g3
  have kx : Rows.uptoBulk x.1 = Rows.uptoBulkAll (xs.map (·.1)) + 1 := by rw [hx]; simp only [Rows.uptoBulk]
  refine ⟨z0, an, cn, al, cl, av, cv, names, lens, vals, ?_, w0, r1, ?_, r3, w1, w2, w3, by omega, by omega, by omega⟩
  · rw [← List.drop_zero (l := cs), pc cs 0 1 1 rfl, pc cs 1 1 2 rfl, pc cs 2 1 3 rfl, pc cs 3 1 4 rfl, all_drop hlen, e0, e1, e2, e3]
    rfl
  · have : zcells lens = lens.flatMap fun v => [.int .i64 v] := by
      clear r2 w2 b2 e2
      induction lens with
      | nil => rfl
      | cons v l ih => show Value.int .i64 v :: zcells l = _; rw [ih]; rfl
    rw [this]
    exact r2
set_option maxRecDepth 20000 in
/-- A message that comes in. -/
theorem open_msg {v : Value} {d : DataW H} {p : List MemPlace} (hv : Value.okWide Try.prog W .any 0 50 v ∨ ∃ cs : Array Value, v = .agg cs) (h : DataW.Trod enc Try.prog W 0 (fun _ => true) true 50 v d p) (hb : Rows.uptoBulk d ≤ 1073741824) :
    ∃ (m : M) (q : Ps), v = valM m q ∧ WfM m ∧ MRd W m q := by
  obtain ⟨cs0, rfl⟩ : ∃ cs : Array Value, v = .agg cs := by
    rcases hv with hv | h
    · obtain ⟨cs, rfl, _⟩ := WideShapes.okWide_struct Try.underlying50 hv
      exact ⟨cs, rfl⟩
    · exact h
  obtain ⟨fuel, hf0⟩ := h
  obtain ⟨xs, n, _, hx, hlen, hl, hf⟩ := DataW.trod_struct Try.underlying50 hf0
  obtain ⟨cs, hcs⟩ : ∃ cs, cs = (Value.agg cs0).cells.toList := ⟨_, rfl⟩
  rw [← hcs] at hlen hf
  have hlen : cs.length = 31 := hlen.trans (by kernel_rfl)
  obtain ⟨y0, g0, h0⟩ := fld hl hf 0 _ rfl 36 0 1 rfl rfl (by kernel_rfl)
  obtain ⟨y1, g1, h1⟩ := fld hl hf 1 _ rfl 3 1 1 rfl rfl (by kernel_rfl)
  obtain ⟨y2, g2, h2⟩ := fld hl hf 2 _ rfl 2 2 1 rfl rfl (by kernel_rfl)
  obtain ⟨y3, g3, h3⟩ := fld hl hf 3 _ rfl 39 3 11 rfl rfl (by kernel_rfl)
  obtain ⟨y4, g4, h4⟩ := fld hl hf 4 _ rfl 44 14 4 rfl rfl (by kernel_rfl)
  obtain ⟨y5, g5, h5⟩ := fld hl hf 5 _ rfl 46 18 6 rfl rfl (by kernel_rfl)
  obtain ⟨y6, g6, h6⟩ := fld hl hf 6 _ rfl 48 24 3 rfl rfl (by kernel_rfl)
  obtain ⟨y7, g7, h7⟩ := fld hl hf 7 _ rfl 26 27 1 rfl rfl (by kernel_rfl)
  obtain ⟨y8, g8, h8⟩ := fld hl hf 8 _ rfl 9 28 1 rfl rfl (by kernel_rfl)
  obtain ⟨y9, g9, h9⟩ := fld hl hf 9 _ rfl 9 29 1 rfl rfl (by kernel_rfl)
  obtain ⟨y10, g10, h10⟩ := fld hl hf 10 _ rfl 23 30 1 rfl rfl (by kernel_rfl)
  obtain ⟨kind, e0, w0⟩ := o_i64 Try.underlying36 h0
  obtain ⟨handle, e1, w1⟩ := o_i64 Try.underlying3 h1
  obtain ⟨num, e2, w2⟩ := o_i64 Try.underlying2 h2
  obtain ⟨ts, id, typ, a0, a1, a2, a3, a4, a5, a6, a7, e3, ⟨w30, w31, w32⟩, w33, w34, w35, w36, w37, w38, w39, w3a⟩ := o_event h3
  obtain ⟨dec, an, cn, al, cl, av, cv, names, lens, vals, e4, w4, r4, r4', r4'', w41, w42, w43, b41, b42, b43⟩ := o_match h4
  obtain ⟨mark, closed, held, kept, waiting, parts, e5, w51, w52, w53, w54, w55⟩ := o_sizes h5
  obtain ⟨fwhere, fcode, fat, e6, w61, w62, w63⟩ := o_fault h6
  obtain ⟨code, e7, w7⟩ := o_i64 Try.underlying26 h7
  obtain ⟨schema, e8, b8⟩ := o_str h8
  obtain ⟨query, e9, b9⟩ := o_str h9
  obtain ⟨ai, ci, image, e10, r10, w10, b10⟩ := open_list (fun v : UInt8 => [B v]) 1 (by omega) (fun _ => rfl) (fun _ => True) Try.underlying23 (by kernel_rfl) (fun _ cs _ h => by
    obtain ⟨z, h1, _, h2⟩ := DataW.trod_int Try.underlying5 h
    refine ⟨UInt8.ofNat z.toNat, ?_, trivial⟩
    simp [Lit.wf, IntKind.min, IntKind.max, IntKind.bits, IntKind.signed] at h2
    rw [h1, B, UInt8.toNat_ofNat']
    congr 2
    omega) h10
  have k4 := bulk_get g4
  have k8 := bulk_get g8
  have k9 := bulk_get g9
  have k10 := bulk_get g10
  have kx : Rows.uptoBulk d = Rows.uptoBulkAll (xs.map (·.1)) + 1 := by
    simp only [Prod.mk.injEq] at hx
    rw [hx.1]
    simp only [Rows.uptoBulk]
  refine ⟨⟨kind, handle, num, ts, id, typ, a0, a1, a2, a3, a4, a5, a6, a7, dec, names, lens, vals, mark, closed, held, kept, waiting, parts, fwhere, fcode, fat, code, schema, query, image⟩, ⟨an, cn, al, cl, av, cv, ai, ci⟩, ?_,
    ⟨w0, w1, w2, w30, w31, w32, w33, w34, w35, w36, w37, w38, w39, w3a, w4, w41, w42, w43, w51, w52, w53, w54, w55, w61, w62, w63, w7, show names.length ≤ 1073741824 by omega, show lens.length ≤ 1073741824 by omega, show vals.length ≤ 1073741824 by omega, show schema.size ≤ 1073741824 by omega, show query.size ≤ 1073741824 by omega, show image.length ≤ 1073741824 by omega⟩, r4, r4', r4'', ?_⟩
  · have : cs0.toList = cs := hcs.symm
    unfold valM cellsM
    congr 1
    apply Array.ext'
    rw [this]
    rw [← List.drop_zero (l := cs), pc cs 0 1 1 rfl, pc cs 1 1 2 rfl, pc cs 2 1 3 rfl, pc cs 3 11 14 rfl, pc cs 14 4 18 rfl, pc cs 18 6 24 rfl, pc cs 24 3 27 rfl, pc cs 27 1 28 rfl, pc cs 28 1 29 rfl, pc cs 29 1 30 rfl, pc cs 30 1 31 rfl, all_drop hlen, e0, e1, e2, e3, e4, e5, e6, e7, e8, e9, e10]
    rfl
  · have : image.map B = image.flatMap fun v => [B v] := by
      clear r10 b10 e10 w10
      induction image with
      | nil => rfl
      | cons v l ih => rw [List.map_cons, ih]; rfl
    rw [this]
    exact r10
end
#print axioms open_msg
end Go.Proofs.Ytaipnbpefdcejaa
