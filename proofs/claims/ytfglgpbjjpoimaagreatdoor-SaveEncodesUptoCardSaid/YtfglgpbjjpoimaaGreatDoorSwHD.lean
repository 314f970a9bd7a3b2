/- SaveEncodes: a state that comes in: its contents, how its lists read, and its bulk. -/
import Derived.Test.YtfglgpbjjpoimaaGreatDoorSwYA
import Derived.Test.YtfglgpbjjpoimaaGreatDoorRows
import Derived.Deep.Slices
import Derived.OpenShut
import Derived.WideShapes
import Derived.Lib.LaidTab
import GoSem.ClaimJoined
import Derived.Test.YtfglgpbjjpoimaaGreatDoorSwHC
import Derived.Test.YtfglgpbjjpoimaaGreatDoorSwGH
import Derived.LaidHandle
set_option linter.unusedVariables false
namespace Go.Proofs.YtfglgpbjjpoimaaGreatDoor
open Go.RowKit Sv
theorem bulk_one {H : Type} (d : DataW H) : 1 ≤ Rows.uptoBulk d := by
 cases d with
 | lit l => cases l <;> simp [Rows.uptoBulk]
 | _ => simp [Rows.uptoBulk]
theorem bulk_len {H : Type} (l : List (DataW H)) : l.length ≤ Rows.uptoBulkAll l := by
 induction l with
 | nil => simp [Rows.uptoBulkAll]
 | cons x r ih => have := bulk_one x; simp only [Rows.uptoBulkAll, List.length_cons]; omega
theorem flat_getO {α : Type} (f : α → List Value) (k : Nat) (hk : 0 < k) (hf : ∀ v, (f v).length = k) : ∀ (l : List α) (j : Nat), (l.flatMap f)[j]? = (l[j / k]?).bind fun v => (f v)[j % k]? := by
 intro l
 induction l with
 | nil => intro j; simp
 | cons v l ih =>
  intro j
  rw [List.flatMap_cons]
  by_cases h : j < k
  ·rw [List.getElem?_append_left (by rw [hf]; exact h), Nat.div_eq_of_lt h, Nat.mod_eq_of_lt h]
   rfl
  ·rw [List.getElem?_append_right (by rw [hf]; omega), hf, ih]
   have h1 : j / k = (j - k) / k + 1 := by
    rw [← Nat.sub_add_cancel (show k ≤ j by omega), Nat.add_div_right _ hk, Nat.add_sub_cancel]
   have h2 : j % k = (j - k) % k := by
    rw [← Nat.sub_add_cancel (show k ≤ j by omega), Nat.add_mod_right, Nat.add_sub_cancel]
   rw [h1, h2, List.getElem?_cons_succ]
section
variable {H : Type} {enc : TypeId × Value → H} {P : Program} {W : World}
theorem bulk_get {xs : List (DataW H × List MemPlace)} {i : Nat} {y : DataW H × List MemPlace} (h : xs[i]? = some y) : Rows.uptoBulk y.1 ≤ Rows.uptoBulkAll (xs.map (·.1)) := by
 induction xs generalizing i with
 | nil => simp at h
 | cons z xs ih =>
  cases i with
  | zero =>
   simp at h
   subst h
   simp only [List.map_cons, Rows.uptoBulkAll]
   omega
  | succ i =>
   have := ih (by simpa using h)
   simp only [List.map_cons, Rows.uptoBulkAll]
   omega
theorem open_list {α : Type} [Inhabited α] (N : Nat) (f : α → List Value) (k : Nat) (hk : 0 < k) (hf : ∀ v, (f v).length = k) (ok : α → Prop) {t e : TypeId} (ht : P.underlying t = some (.slice e)) (hc : P.cellsOf e = k)
  (hel : ∀ n cs y, DataW.trod enc P W 0 (fun _ => true) true n e cs = some y → Rows.uptoBulk y.1 ≤ N → ∃ v, cs = f v ∧ ok v) {fuel : Nat} {cs : List Value} {x : DataW H × List MemPlace} (h : DataW.trod enc P W 0 (fun _ => true) true fuel t cs = some x) (hN : Rows.uptoBulk x.1 ≤ N) :
  ∃ (a : Option Addr) (c : Nat) (l : List α), cs = [.slice a l.length c] ∧ Rd W a (l.flatMap f) ∧ (∀ v ∈ l, ok v) ∧ l.length ≤ N ∧ l.length ≤ c := by
 rcases DataW.trod_slice ht h with ⟨rfl, rfl⟩ | ⟨a, len, cap, elems, rest, n, _, rfl, rfl, _, hl, _, hlen, hei, _, _⟩
 ·exact ⟨none, 0, [], rfl, Rd.nil _ _, fun v hv => by simp at hv, Nat.zero_le _, Nat.zero_le _⟩
 ·rw [hc] at hei
  simp only [Rows.uptoBulk] at hN
  have hex : ∀ i, i < len → ∃ v, ok v ∧ ∀ r, r < k → W.cell? (a.add (i * k + r)) = (f v)[r]? := by
   intro i hi
   have h1 := hei i hi
   rw [List.getElem?_eq_getElem (by omega)] at h1
   obtain ⟨cs', h2, h3⟩ := Option.bind_eq_some_iff.1 h1
   have hbk := bulk_get (List.getElem?_eq_getElem (show i < elems.length by omega))
   obtain ⟨v, rfl, hv⟩ := hel n cs' _ h3 (by omega)
   obtain ⟨_, _, h4⟩ := World.cells?_some h2
   refine ⟨v, hv, fun r hr => ?_⟩
   rw [← h4 r hr, Go.Deep.add_add]
  obtain ⟨V, hV⟩ := Go.Deep.choose_lt hex
  have hll : ((List.range len).map V).length = len := by simp
  have h1 := bulk_len (elems.map (·.1))
  simp only [List.length_map] at h1
  refine ⟨some a, cap, (List.range len).map V, by rw [hll], ?_, fun v hv => ?_, by rw [hll]; omega, by rw [hll]; exact hl⟩
  ·by_cases h0 : len = 0
   ·left; subst h0; rfl
   ·right
    obtain ⟨b, off, spot⟩ := a
    have h1 := (hV 0 (by omega)).2 0 hk
    obtain ⟨u, hu⟩ : ∃ u, (f (V 0))[0]? = some u := ⟨_, List.getElem?_eq_getElem (by rw [hf]; exact hk)⟩
    rw [hu] at h1
    have hspot : spot = none := by simpa [Addr.add] using World.cell?_spot h1
    subst hspot
    refine ⟨b, off, rfl, fun j u hu => ?_⟩
    rw [flat_getO f k hk hf, List.getElem?_map] at hu
    by_cases hj : j / k < len
    ·rw [List.getElem?_range hj] at hu
     have h2 := (hV (j / k) hj).2 (j % k) (Nat.mod_lt _ hk)
     rw [Addr.add_lit, Nat.div_add_mod'] at h2
     rw [h2]
     exact hu
    ·rw [List.getElem?_eq_none (by simpa using hj)] at hu
     simp at hu
  ·obtain ⟨i, hi, rfl⟩ := List.mem_map.1 hv
   exact (hV i (by simpa using hi)).1
theorem pc (cs : List Value) (o s r : Nat) (h : o + s = r) : cs.drop o = (cs.drop o).take s ++ cs.drop r := by
 subst h
 rw [← List.drop_drop, List.take_append_drop]
theorem fld {fs : Array Field} {n : Nat} {cs : List Value} {xs : List (DataW H × List MemPlace)} (hl : xs.length = fs.size)
  (hf : ∀ (i : Nat) (f : Field), fs[i]? = some f → DataW.trod enc P W 0 (fun _ => true) true n f.type ((cs.drop f.offset).take (P.cellsOf f.type)) = xs[i]?) (i : Nat) (f : Field) (hi : fs[i]? = some f) (T o s : Nat) (hT : f.type = T) (ho : f.offset = o) (hs : P.cellsOf T = s) :
  ∃ y, xs[i]? = some y ∧ DataW.trod enc P W 0 (fun _ => true) true n T ((cs.drop o).take s) = some y := by
 subst hT; subst ho; subst hs
 have h1 : i < xs.length := by rw [hl]; exact (Array.getElem?_eq_some_iff.1 hi).1
 exact ⟨_, List.getElem?_eq_getElem h1, (hf i f hi).trans (List.getElem?_eq_getElem h1)⟩
end
section
variable {H : Type} {enc : TypeId × Value → H} {W : World} {n : Nat} {cs : List Value} {x : DataW H × List MemPlace}
abbrev TR (H : Type) (enc : TypeId × Value → H) (W : World) (n T : Nat) (cs : List Value) (x : DataW H × List MemPlace) : Prop := DataW.trod enc Tryz.prog W 0 (fun _ => true) true n T cs = some x
theorem i64_of {z : Int} (h : (Lit.int .i64 z).wf = true) : I64' z := by
 simp [Lit.wf, IntKind.min, IntKind.max, IntKind.bits, IntKind.signed] at h
 unfold I64'
 omega
theorem u64_of {z : Int} (h : (Lit.int .u64 z).wf = true) : 0 ≤ z ∧ z < 18446744073709551616 := by
 simp [Lit.wf, IntKind.min, IntKind.max, IntKind.bits, IntKind.signed] at h
 omega
theorem o_i64 {T : Nat} (ht : Tryz.prog.underlying T = some (.int .i64)) (h : TR H enc W n T cs x) : ∃ z, cs = [.int .i64 z] ∧ I64' z := by
 obtain ⟨z, h1, _, h2⟩ := DataW.trod_int ht h
 exact ⟨z, h1, i64_of h2⟩
theorem o_u64 {T : Nat} (ht : Tryz.prog.underlying T = some (.int .u64)) (h : TR H enc W n T cs x) : ∃ z, cs = [.int .u64 z] ∧ 0 ≤ z ∧ z < 18446744073709551616 := by
 obtain ⟨z, h1, _, h2⟩ := DataW.trod_int ht h
 exact ⟨z, h1, u64_of h2⟩
theorem o_bool (h : TR H enc W n 4 cs x) : ∃ b, cs = [.bool b] := by
 obtain ⟨b, h1, _⟩ := DataW.trod_bool Tryz.underlying4 h
 exact ⟨b, h1⟩
theorem o_str (h : TR H enc W n 9 cs x) : ∃ s : Str, cs = [T s] := by
 obtain ⟨s, h1, h2, _⟩ := DataW.trod_string Tryz.underlying9 h
 exact ⟨s.data.toList, by rw [h1]; rfl⟩
theorem all_drop {N : Nat} (h : cs.length = N) : cs.drop N = [] := List.drop_eq_nil_of_le (by omega)
theorem o_name (h : TR H enc W n 82 cs x) : ∃ v : Nm, cs = nmc v ∧ NmB v := by
 obtain ⟨xs, m, _, hx, hlen, hl, hf⟩ := DataW.trod_struct Tryz.underlying82 h
 have hlen : cs.length = 2 := hlen.trans (by kernel_rfl)
 obtain ⟨y0, g0, h0⟩ := fld hl hf 0 _ rfl 2 0 1 rfl rfl (by kernel_rfl)
 obtain ⟨a, e0, wa⟩ := o_i64 Tryz.underlying2 h0
 obtain ⟨y1, g1, h1⟩ := fld hl hf 1 _ rfl 76 1 1 rfl rfl (by kernel_rfl)
 obtain ⟨b, e1, wb⟩ := o_u64 Tryz.underlying76 h1
 refine ⟨⟨a, b.toNat⟩, ?_, wa, by dsimp only; omega⟩
 rw [← List.drop_zero (l := cs), pc cs 0 1 1 rfl, pc cs 1 1 2 rfl, all_drop hlen, e0, e1]
 show [Value.int .i64 a, .int .u64 b] = [.int .i64 a, .int .u64 (b.toNat : Int)]
 rw [Int.toNat_of_nonneg wb.1]
theorem o_val (h : TR H enc W n 64 cs x) : ∃ v : Bool × Int, cs = vlc v ∧ I64' v.2 := by
 obtain ⟨xs, m, _, hx, hlen, hl, hf⟩ := DataW.trod_struct Tryz.underlying64 h
 have hlen : cs.length = 2 := hlen.trans (by kernel_rfl)
 obtain ⟨y0, g0, h0⟩ := fld hl hf 0 _ rfl 4 0 1 rfl rfl (by kernel_rfl)
 obtain ⟨a, e0⟩ := o_bool h0
 obtain ⟨y1, g1, h1⟩ := fld hl hf 1 _ rfl 2 1 1 rfl rfl (by kernel_rfl)
 obtain ⟨b, e1, wb⟩ := o_i64 Tryz.underlying2 h1
 refine ⟨(a, b), ?_, wb⟩
 ·rw [← List.drop_zero (l := cs), pc cs 0 1 1 rfl, pc cs 1 1 2 rfl, all_drop hlen, e0, e1]
  rfl
theorem o_arr (h : TR H enc W n 106 cs x) : ∃ a0 a1 a2 a3 a4 a5 a6 a7 : Int, cs = [.int .i64 a0, .int .i64 a1, .int .i64 a2, .int .i64 a3, .int .i64 a4, .int .i64 a5, .int .i64 a6, .int .i64 a7] ∧ I64' a0 ∧ I64' a1 ∧ I64' a2 ∧ I64' a3 ∧ I64' a4 ∧ I64' a5 ∧ I64' a6 ∧ I64' a7 := by
 obtain ⟨xs, m, _, _, hlen, hl, hf⟩ := DataW.trod_array Tryz.underlying106 h
 have hlen : cs.length = 8 := hlen.trans (by kernel_rfl)
 have h1 : Tryz.prog.cellsOf 2 = 1 := by kernel_rfl
 rw [h1] at hf
 have g : ∀ i, i < 8 → ∃ z, (cs.drop i).take 1 = [.int .i64 z] ∧ I64' z := by
  intro i hi
  have h2 := hf i hi
  rw [Nat.mul_one, List.getElem?_eq_getElem (by omega)] at h2
  exact o_i64 Tryz.underlying2 h2
 obtain ⟨a0, e0, w0⟩ := g 0 (by omega)
 obtain ⟨a1, e1, w1⟩ := g 1 (by omega)
 obtain ⟨a2, e2, w2⟩ := g 2 (by omega)
 obtain ⟨a3, e3, w3⟩ := g 3 (by omega)
 obtain ⟨a4, e4, w4⟩ := g 4 (by omega)
 obtain ⟨a5, e5, w5⟩ := g 5 (by omega)
 obtain ⟨a6, e6, w6⟩ := g 6 (by omega)
 obtain ⟨a7, e7, w7⟩ := g 7 (by omega)
 refine ⟨a0, a1, a2, a3, a4, a5, a6, a7, ?_, w0, w1, w2, w3, w4, w5, w6, w7⟩
 rw [← List.drop_zero (l := cs), pc cs 0 1 1 rfl, pc cs 1 1 2 rfl, pc cs 2 1 3 rfl, pc cs 3 1 4 rfl, pc cs 4 1 5 rfl, pc cs 5 1 6 rfl, pc cs 6 1 7 rfl, pc cs 7 1 8 rfl, all_drop hlen, e0, e1, e2, e3, e4, e5, e6, e7]
 rfl
abbrev Ev8 := {e : Ev // e.at_.length = 8}
instance : Inhabited Ev8 := ⟨⟨⟨0, 0, 0, [0, 0, 0, 0, 0, 0, 0, 0]⟩, rfl⟩⟩
instance : Inhabited Nm := ⟨⟨0, 0⟩⟩
instance : Inhabited Nd := ⟨⟨0, 0, [], [], 0, 0⟩⟩
instance : Inhabited Tp := ⟨⟨[], [], none, 0⟩⟩
instance : Inhabited Im := ⟨⟨⟨false, [], [], 0, 0⟩, none, 0⟩⟩
instance : Inhabited Tr := ⟨⟨[], none, 0⟩⟩
instance : Inhabited Mm := ⟨⟨⟨0, [], [], []⟩, none, 0, none, 0, none, 0⟩⟩
theorem o_event (h : TR H enc W n 108 cs x) : ∃ v : Ev8, cs = evc v.1 ∧ EvB v.1 := by
 obtain ⟨xs, m, _, hx, hlen, hl, hf⟩ := DataW.trod_struct Tryz.underlying108 h
 have hlen : cs.length = 11 := hlen.trans (by kernel_rfl)
 obtain ⟨y0, g0, h0⟩ := fld hl hf 0 _ rfl 2 0 1 rfl rfl (by kernel_rfl)
 obtain ⟨ts, e0, w0⟩ := o_i64 Tryz.underlying2 h0
 obtain ⟨y1, g1, h1⟩ := fld hl hf 1 _ rfl 76 1 1 rfl rfl (by kernel_rfl)
 obtain ⟨id, e1, w1⟩ := o_u64 Tryz.underlying76 h1
 obtain ⟨y2, g2, h2⟩ := fld hl hf 2 _ rfl 3 2 1 rfl rfl (by kernel_rfl)
 obtain ⟨typ, e2, w2⟩ := o_i64 Tryz.underlying3 h2
 obtain ⟨y3, g3, h3⟩ := fld hl hf 3 _ rfl 106 3 8 rfl rfl (by kernel_rfl)
 obtain ⟨a0, a1, a2, a3, a4, a5, a6, a7, e3, w30, w31, w32, w33, w34, w35, w36, w37⟩ := o_arr h3
 refine ⟨⟨⟨ts, id, typ, [a0, a1, a2, a3, a4, a5, a6, a7]⟩, rfl⟩, ?_, w0, w1, w2, rfl, fun x hx => ?_⟩
 ·rw [← List.drop_zero (l := cs), pc cs 0 1 1 rfl, pc cs 1 1 2 rfl, pc cs 2 1 3 rfl, pc cs 3 8 11 rfl, all_drop hlen, e0, e1, e2, e3]
  rfl
 ·simp only [List.mem_cons, List.not_mem_nil, or_false] at hx
  rcases hx with rfl | rfl | rfl | rfl | rfl | rfl | rfl | rfl <;> assumption
theorem zc_flat (l : List Int) : l.map Z = l.flatMap fun v => [.int .i64 v] := List.map_eq_flatMap ..
theorem ev8_flat (l : List Ev8) : (l.map (·.1)).flatMap evc = l.flatMap fun v => evc v.1 := by rw [List.flatMap_map]
theorem o_match (h : TR H enc W n 62 cs x) (hN : Rows.uptoBulk x.1 ≤ 1048576) : ∃ v : Mm, cs = mmc v ∧ RdMl W v ∧ MtB v.m := by
 obtain ⟨xs, m, _, hx, hlen, hl, hf⟩ := DataW.trod_struct Tryz.underlying62 h
 have hlen : cs.length = 4 := hlen.trans (by kernel_rfl)
 have kx : Rows.uptoBulk x.1 = Rows.uptoBulkAll (xs.map (·.1)) + 1 := by rw [hx]; simp only [Rows.uptoBulk]
 obtain ⟨y0, g0, h0⟩ := fld hl hf 0 _ rfl 2 0 1 rfl rfl (by kernel_rfl)
 have k0 := bulk_get g0
 obtain ⟨z0, e0, w0⟩ := o_i64 Tryz.underlying2 h0
 obtain ⟨y1, g1, h1⟩ := fld hl hf 1 _ rfl 34 1 1 rfl rfl (by kernel_rfl)
 have k1 := bulk_get g1
 obtain ⟨an, cn, names, e1, r1, w1, b1, _⟩ := open_list 1048576 nmc 2 (by omega) (fun _ => rfl) NmB Tryz.underlying34 (by kernel_rfl) (fun _ _ _ h hb => o_name h) h1 (by omega)
 obtain ⟨y2, g2, h2⟩ := fld hl hf 2 _ rfl 59 2 1 rfl rfl (by kernel_rfl)
 have k2 := bulk_get g2
 obtain ⟨al, cl, lens, e2, r2, w2, b2, _⟩ := open_list 1048576 (fun v : Int => [.int .i64 v]) 1 (by omega) (fun _ => rfl) I64' Tryz.underlying59 (by kernel_rfl) (fun _ _ _ h hb => o_i64 Tryz.underlying3 h) h2 (by omega)
 obtain ⟨y3, g3, h3⟩ := fld hl hf 3 _ rfl 60 3 1 rfl rfl (by kernel_rfl)
 have k3 := bulk_get g3
 obtain ⟨av, cv, vals, e3, r3, w3, b3, _⟩ := open_list 1048576 vlc 2 (by omega) (fun _ => rfl) (fun v => I64' v.2) Tryz.underlying60 (by kernel_rfl) (fun _ _ _ h hb => o_val h) h3 (by omega)
 refine ⟨⟨⟨z0, names, lens, vals⟩, an, cn, al, cl, av, cv⟩, ?_, ⟨r1, ?_, r3⟩, ⟨w0, b1, b2, b3, w1, w2, w3⟩⟩
 ·rw [← List.drop_zero (l := cs), pc cs 0 1 1 rfl, pc cs 1 1 2 rfl, pc cs 2 1 3 rfl, pc cs 3 1 4 rfl, all_drop hlen, e0, e1, e2, e3]
  rfl
 ·show Rd W al (lens.map Z)
  rw [zc_flat]; exact r2
theorem o_node (h : TR H enc W n 102 cs x) : ∃ v : Nd, cs = ndc v ∧ I64' v.n := by
 obtain ⟨xs, m, _, hx, hlen, hl, hf⟩ := DataW.trod_struct Tryz.underlying102 h
 have hlen : cs.length = 6 := hlen.trans (by kernel_rfl)
 obtain ⟨y0, g0, h0⟩ := fld hl hf 0 _ rfl 100 0 1 rfl rfl (by kernel_rfl)
 obtain ⟨z0, e0, w0⟩ := o_i64 Tryz.underlying100 h0
 obtain ⟨y1, g1, h1⟩ := fld hl hf 1 _ rfl 2 1 1 rfl rfl (by kernel_rfl)
 obtain ⟨z1, e1, w1⟩ := o_i64 Tryz.underlying2 h1
 obtain ⟨y2, g2, h2⟩ := fld hl hf 2 _ rfl 9 2 1 rfl rfl (by kernel_rfl)
 obtain ⟨s2, e2⟩ := o_str h2
 obtain ⟨y3, g3, h3⟩ := fld hl hf 3 _ rfl 9 3 1 rfl rfl (by kernel_rfl)
 obtain ⟨s3, e3⟩ := o_str h3
 obtain ⟨y4, g4, h4⟩ := fld hl hf 4 _ rfl 3 4 1 rfl rfl (by kernel_rfl)
 obtain ⟨z4, e4, w4⟩ := o_i64 Tryz.underlying3 h4
 obtain ⟨y5, g5, h5⟩ := fld hl hf 5 _ rfl 3 5 1 rfl rfl (by kernel_rfl)
 obtain ⟨z5, e5, w5⟩ := o_i64 Tryz.underlying3 h5
 refine ⟨⟨z0, z1, s2, s3, z4, z5⟩, ?_, w1⟩
 ·rw [← List.drop_zero (l := cs), pc cs 0 1 1 rfl, pc cs 1 1 2 rfl, pc cs 2 1 3 rfl, pc cs 3 1 4 rfl, pc cs 4 1 5 rfl, pc cs 5 1 6 rfl, all_drop hlen, e0, e1, e2, e3, e4, e5]
  rfl
theorem str_flat (l : List Str) : l.map T = l.flatMap fun v => [T v] := List.map_eq_flatMap ..
theorem trv_flat (l : List Tr) : l.map trv = l.flatMap fun v => [trv v] := List.map_eq_flatMap ..
theorem o_typedef (h : TR H enc W n 58 cs x) (hN : Rows.uptoBulk x.1 ≤ 1048576) : ∃ v : Tp, cs = [T v.name, .slice v.a v.attrs.length v.c] ∧ RdS W v.a v.attrs ∧ v.attrs.length ≤ 1048576 ∧ v.attrs.length ≤ v.c := by
 obtain ⟨xs, m, _, hx, hlen, hl, hf⟩ := DataW.trod_struct Tryz.underlying58 h
 have hlen : cs.length = 2 := hlen.trans (by kernel_rfl)
 have kx : Rows.uptoBulk x.1 = Rows.uptoBulkAll (xs.map (·.1)) + 1 := by rw [hx]; simp only [Rows.uptoBulk]
 obtain ⟨y0, g0, h0⟩ := fld hl hf 0 _ rfl 9 0 1 rfl rfl (by kernel_rfl)
 have k0 := bulk_get g0
 obtain ⟨s0, e0⟩ := o_str h0
 obtain ⟨y1, g1, h1⟩ := fld hl hf 1 _ rfl 56 1 1 rfl rfl (by kernel_rfl)
 have k1 := bulk_get g1
 obtain ⟨a, c, l, e1, r1, _, b1, c1⟩ := open_list 1048576 (fun s : Str => [T s]) 1 (by omega) (fun _ => rfl) (fun _ => True) Tryz.underlying56 (by kernel_rfl) (fun _ _ _ h hb => (by obtain ⟨s, hs⟩ := o_str h; exact ⟨s, hs, trivial⟩)) h1 (by omega)
 refine ⟨⟨s0, l, a, c⟩, ?_, ?_, b1, c1⟩
 ·rw [← List.drop_zero (l := cs), pc cs 0 1 1 rfl, pc cs 1 1 2 rfl, all_drop hlen, e0, e1]
  rfl
 ·show Rd W a (l.map T)
  rw [str_flat]; exact r1
theorem o_item (h : TR H enc W n 105 cs x) (hN : Rows.uptoBulk x.1 ≤ 1048576) : ∃ v : Im, cs = imc v ∧ RdS W v.a v.i.types ∧ v.i.types.length ≤ 1048576 ∧ I64' v.i.lo ∧ I64' v.i.hi := by
 obtain ⟨xs, m, _, hx, hlen, hl, hf⟩ := DataW.trod_struct Tryz.underlying105 h
 have hlen : cs.length = 5 := hlen.trans (by kernel_rfl)
 have kx : Rows.uptoBulk x.1 = Rows.uptoBulkAll (xs.map (·.1)) + 1 := by rw [hx]; simp only [Rows.uptoBulk]
 obtain ⟨y0, g0, h0⟩ := fld hl hf 0 _ rfl 4 0 1 rfl rfl (by kernel_rfl)
 have k0 := bulk_get g0
 obtain ⟨neg, e0⟩ := o_bool h0
 obtain ⟨y1, g1, h1⟩ := fld hl hf 1 _ rfl 56 1 1 rfl rfl (by kernel_rfl)
 have k1 := bulk_get g1
 obtain ⟨a, c, l, e1, r1, _, b1, c1⟩ := open_list 1048576 (fun s : Str => [T s]) 1 (by omega) (fun _ => rfl) (fun _ => True) Tryz.underlying56 (by kernel_rfl) (fun _ _ _ h hb => (by obtain ⟨s, hs⟩ := o_str h; exact ⟨s, hs, trivial⟩)) h1 (by omega)
 obtain ⟨y2, g2, h2⟩ := fld hl hf 2 _ rfl 9 2 1 rfl rfl (by kernel_rfl)
 have k2 := bulk_get g2
 obtain ⟨s2, e2⟩ := o_str h2
 obtain ⟨y3, g3, h3⟩ := fld hl hf 3 _ rfl 3 3 1 rfl rfl (by kernel_rfl)
 have k3 := bulk_get g3
 obtain ⟨z3, e3, w3⟩ := o_i64 Tryz.underlying3 h3
 obtain ⟨y4, g4, h4⟩ := fld hl hf 4 _ rfl 3 4 1 rfl rfl (by kernel_rfl)
 have k4 := bulk_get g4
 obtain ⟨z4, e4, w4⟩ := o_i64 Tryz.underlying3 h4
 refine ⟨⟨⟨neg, l, s2, z3, z4⟩, a, c⟩, ?_, ?_, b1, w3, w4⟩
 ·rw [← List.drop_zero (l := cs), pc cs 0 1 1 rfl, pc cs 1 1 2 rfl, pc cs 2 1 3 rfl, pc cs 3 1 4 rfl, pc cs 4 1 5 rfl, all_drop hlen, e0, e1, e2, e3, e4]
  rfl
 ·show Rd W a (l.map T)
  rw [str_flat]; exact r1
theorem o_tree (h : TR H enc W n 28 cs x) (hN : Rows.uptoBulk x.1 ≤ 1048576) : ∃ v : Tr, cs = [trv v] ∧ RdN W v.a v.t ∧ v.t.length ≤ 1048576 ∧ ∀ y ∈ v.t, I64' y.n := by
 obtain ⟨a, c, l, e1, r1, w1, b1, _⟩ := open_list 1048576 ndc 6 (by omega) (fun _ => rfl) (fun v => I64' v.n) Tryz.underlying28 (by kernel_rfl) (fun _ _ _ h hb => o_node h) h hN
 exact ⟨⟨l, a, c⟩, e1, r1, b1, w1⟩
theorem o_query (h : TR H enc W n 31 cs x) (hN : Rows.uptoBulk x.1 ≤ 1048576) : ∃ v : Qm, cs = qmc v ∧ RdQ W v ∧ QB v ∧ QI v.q := by
 obtain ⟨xs, m, _, hx, hlen, hl, hf⟩ := DataW.trod_struct Tryz.underlying31 h
 have hlen : cs.length = 7 := hlen.trans (by kernel_rfl)
 have kx : Rows.uptoBulk x.1 = Rows.uptoBulkAll (xs.map (·.1)) + 1 := by rw [hx]; simp only [Rows.uptoBulk]
 obtain ⟨y0, g0, h0⟩ := fld hl hf 0 _ rfl 25 0 1 rfl rfl (by kernel_rfl)
 have k0 := bulk_get g0
 obtain ⟨ia, ic, items, e0, r0, w0, b0, _⟩ := open_list 1048576 imc 5 (by omega) (fun _ => rfl) (fun v => RdS W v.a v.i.types ∧ v.i.types.length ≤ 1048576 ∧ I64' v.i.lo ∧ I64' v.i.hi) Tryz.underlying25 (by kernel_rfl) (fun _ _ _ h hb => o_item h hb) h0 (by omega)
 obtain ⟨y1, g1, h1⟩ := fld hl hf 1 _ rfl 26 1 1 rfl rfl (by kernel_rfl)
 have k1 := bulk_get g1
 obtain ⟨mode, e1, w1⟩ := o_i64 Tryz.underlying26 h1
 obtain ⟨y2, g2, h2⟩ := fld hl hf 2 _ rfl 27 2 1 rfl rfl (by kernel_rfl)
 have k2 := bulk_get g2
 obtain ⟨after, e2, w2⟩ := o_i64 Tryz.underlying27 h2
 obtain ⟨y3, g3, h3⟩ := fld hl hf 3 _ rfl 28 3 1 rfl rfl (by kernel_rfl)
 have k3 := bulk_get g3
 obtain ⟨⟨wher, wa, wc⟩, e3, r3, b3, w3⟩ := o_tree h3 (by omega)
 obtain ⟨y4, g4, h4⟩ := fld hl hf 4 _ rfl 2 4 1 rfl rfl (by kernel_rfl)
 have k4 := bulk_get g4
 obtain ⟨within, e4, w4⟩ := o_i64 Tryz.underlying2 h4
 obtain ⟨y5, g5, h5⟩ := fld hl hf 5 _ rfl 9 5 1 rfl rfl (by kernel_rfl)
 have k5 := bulk_get g5
 obtain ⟨by_, e5⟩ := o_str h5
 obtain ⟨y6, g6, h6⟩ := fld hl hf 6 _ rfl 29 6 1 rfl rfl (by kernel_rfl)
 have k6 := bulk_get g6
 obtain ⟨ra, rc, ret, e6, r6, w6, b6, _⟩ := open_list 1048576 (fun v : Tr => [trv v]) 1 (by omega) (fun _ => rfl) (fun v => RdN W v.a v.t ∧ v.t.length ≤ 1048576 ∧ ∀ y ∈ v.t, I64' y.n) Tryz.underlying29 (by kernel_rfl) (fun _ _ _ h hb => o_tree h hb) h6 (by omega)
 refine ⟨⟨items, ia, ic, mode, after, wher, wa, wc, within, by_, ret, ra, rc⟩, ?_, ⟨⟨r0, fun y hy => (w0 y hy).1⟩, r3, ⟨?_, fun y hy => (w6 y hy).1⟩⟩, ⟨b0, fun y hy => (w0 y hy).2.1, b3, b6, fun y hy => (w6 y hy).2.1⟩, ⟨w4, fun y hy => ?_, w3, fun t ht => ?_⟩⟩
 ·rw [← List.drop_zero (l := cs), pc cs 0 1 1 rfl, pc cs 1 1 2 rfl, pc cs 2 1 3 rfl, pc cs 3 1 4 rfl, pc cs 4 1 5 rfl, pc cs 5 1 6 rfl, pc cs 6 1 7 rfl, all_drop hlen, e0, e1, e2, e3, e4, e5, e6]
  rfl
 ·show Rd W ra (ret.map trv)
  rw [trv_flat]; exact r6
 ·obtain ⟨z, hz, rfl⟩ := List.mem_map.1 hy
  exact (w0 z hz).2.2
 ·obtain ⟨z, hz, rfl⟩ := List.mem_map.1 ht
  exact (w6 z hz).2.2
theorem o_schema (h : TR H enc W n 24 cs x) (hN : Rows.uptoBulk x.1 ≤ 1048576) : ∃ (a : Option Addr) (c : Nat) (l : List Tp), cs = [.slice a l.length c] ∧ RdT W a l ∧ l.length ≤ 1048576 ∧ (∀ t ∈ l, t.attrs.length ≤ 1048576) ∧ ∀ t ∈ l, t.attrs.length ≤ t.c := by
 obtain ⟨xs, m, _, hx, hlen, hl, hf⟩ := DataW.trod_struct Tryz.underlying24 h
 have hlen : cs.length = 1 := hlen.trans (by kernel_rfl)
 have kx : Rows.uptoBulk x.1 = Rows.uptoBulkAll (xs.map (·.1)) + 1 := by rw [hx]; simp only [Rows.uptoBulk]
 obtain ⟨y0, g0, h0⟩ := fld hl hf 0 _ rfl 22 0 1 rfl rfl (by kernel_rfl)
 have k0 := bulk_get g0
 obtain ⟨ta, tc, types, e0, r0, w0, b0, _⟩ := open_list 1048576 (fun v : Tp => [T v.name, .slice v.a v.attrs.length v.c]) 2 (by omega) (fun _ => rfl) (fun v => RdS W v.a v.attrs ∧ v.attrs.length ≤ 1048576 ∧ v.attrs.length ≤ v.c) Tryz.underlying22 (by kernel_rfl) (fun _ _ _ h hb => o_typedef h hb) h0 (by omega)
 refine ⟨ta, tc, types, ?_, ⟨r0, fun y hy => (w0 y hy).1⟩, b0, fun y hy => (w0 y hy).2.1, fun y hy => (w0 y hy).2.2⟩
 ·rw [← List.drop_zero (l := cs), pc cs 0 1 1 rfl, all_drop hlen, e0]
  rfl
theorem open_stateC (h : TR H enc W n 36 cs x) (hN : Rows.uptoBulk x.1 ≤ 1048576) : ∃ v : Stm, cs = stc v ∧ RdSt W v ∧ StB v ∧ ∀ t ∈ v.types, t.attrs.length ≤ 1048576 := by
 obtain ⟨xs, m, _, hx, hlen, hl, hf⟩ := DataW.trod_struct Tryz.underlying36 h
 have hlen : cs.length = 15 := hlen.trans (by kernel_rfl)
 have kx : Rows.uptoBulk x.1 = Rows.uptoBulkAll (xs.map (·.1)) + 1 := by rw [hx]; simp only [Rows.uptoBulk]
 obtain ⟨y0, g0, h0⟩ := fld hl hf 0 _ rfl 24 0 1 rfl rfl (by kernel_rfl)
 have k0 := bulk_get g0
 obtain ⟨ta, tc, types, e0, r0, b0, c0, d0⟩ := o_schema h0 (by omega)
 obtain ⟨y1, g1, h1⟩ := fld hl hf 1 _ rfl 31 1 7 rfl rfl (by kernel_rfl)
 have k1 := bulk_get g1
 obtain ⟨q, e1, r1, b1, i1⟩ := o_query h1 (by omega)
 obtain ⟨y2, g2, h2⟩ := fld hl hf 2 _ rfl 3 8 1 rfl rfl (by kernel_rfl)
 have k2 := bulk_get g2
 obtain ⟨cap, e2, w2⟩ := o_i64 Tryz.underlying3 h2
 obtain ⟨y3, g3, h3⟩ := fld hl hf 3 _ rfl 2 9 1 rfl rfl (by kernel_rfl)
 have k3 := bulk_get g3
 obtain ⟨mark, e3, w3⟩ := o_i64 Tryz.underlying2 h3
 obtain ⟨y4, g4, h4⟩ := fld hl hf 4 _ rfl 4 10 1 rfl rfl (by kernel_rfl)
 have k4 := bulk_get g4
 obtain ⟨closed, e4⟩ := o_bool h4
 obtain ⟨y5, g5, h5⟩ := fld hl hf 5 _ rfl 32 11 1 rfl rfl (by kernel_rfl)
 have k5 := bulk_get g5
 obtain ⟨ha, hc, held, e5, r5, w5, b5, _⟩ := open_list 1048576 (fun v : Ev8 => evc v.1) 11 (by omega) (fun v => evc_len v.2) (fun v => EvB v.1) Tryz.underlying32 (by kernel_rfl) (fun _ _ _ h hb => o_event h) h5 (by omega)
 obtain ⟨y6, g6, h6⟩ := fld hl hf 6 _ rfl 32 12 1 rfl rfl (by kernel_rfl)
 have k6 := bulk_get g6
 obtain ⟨ka, kc, kept, e6, r6, w6, b6, _⟩ := open_list 1048576 (fun v : Ev8 => evc v.1) 11 (by omega) (fun v => evc_len v.2) (fun v => EvB v.1) Tryz.underlying32 (by kernel_rfl) (fun _ _ _ h hb => o_event h) h6 (by omega)
 obtain ⟨y7, g7, h7⟩ := fld hl hf 7 _ rfl 33 13 1 rfl rfl (by kernel_rfl)
 have k7 := bulk_get g7
 obtain ⟨wa, wc, waiting, e7, r7, w7, b7, _⟩ := open_list 1048576 mmc 4 (by omega) (fun _ => rfl) (fun v => RdMl W v ∧ MtB v.m) Tryz.underlying33 (by kernel_rfl) (fun _ _ _ h hb => o_match h hb) h7 (by omega)
 obtain ⟨y8, g8, h8⟩ := fld hl hf 8 _ rfl 34 14 1 rfl rfl (by kernel_rfl)
 have k8 := bulk_get g8
 obtain ⟨ua, uc, used, e8, r8, w8, b8, _⟩ := open_list 1048576 nmc 2 (by omega) (fun _ => rfl) NmB Tryz.underlying34 (by kernel_rfl) (fun _ _ _ h hb => o_name h) h8 (by omega)
 refine ⟨⟨types, ta, tc, q, cap, mark, closed, held.map (·.1), ha, hc, kept.map (·.1), ka, kc, waiting, wa, wc, used, ua, uc⟩, ?_, ⟨r0, r1, ⟨?_, ?_⟩, ⟨?_, ?_⟩, ⟨r7, fun m hm => (w7 m hm).1⟩, r8⟩, ⟨b0, d0, b1, i1, w2, w3, ?_, ?_, b7, b8, ?_, ?_, fun m hm => (w7 m hm).2, w8⟩, c0⟩
 ·rw [← List.drop_zero (l := cs), pc cs 0 1 1 rfl, pc cs 1 7 8 rfl, pc cs 8 1 9 rfl, pc cs 9 1 10 rfl, pc cs 10 1 11 rfl, pc cs 11 1 12 rfl, pc cs 12 1 13 rfl, pc cs 13 1 14 rfl, pc cs 14 1 15 rfl, all_drop hlen, e0, e1, e2, e3, e4, e5, e6, e7, e8]
  simp only [stc, List.length_map]
  rfl
 ·show Rd W ha ((held.map (·.1)).flatMap evc)
  rw [ev8_flat]; exact r5
 ·intro e he
  obtain ⟨z, hz, rfl⟩ := List.mem_map.1 he
  exact z.2
 ·show Rd W ka ((kept.map (·.1)).flatMap evc)
  rw [ev8_flat]; exact r6
 ·intro e he
  obtain ⟨z, hz, rfl⟩ := List.mem_map.1 he
  exact z.2
 ·rw [List.length_map]; exact b5
 ·rw [List.length_map]; exact b6
 ·intro e he
  obtain ⟨z, hz, rfl⟩ := List.mem_map.1 he
  exact w5 z hz
 ·intro e he
  obtain ⟨z, hz, rfl⟩ := List.mem_map.1 he
  exact w6 z hz
set_option maxRecDepth 20000 in
/-- A state that comes in. -/
theorem open_state {v : Value} {d : DataW H} {p : List MemPlace} (hv : Value.okWide Tryz.prog W .any 0 36 v ∨ ∃ cs : Array Value, v = .agg cs) (h : DataW.Trod enc Tryz.prog W 0 (fun _ => true) true 36 v d p) (hb : Rows.uptoBulk d ≤ 1048576) :
  ∃ y : Stm, v = .agg (stc y).toArray ∧ RdSt W y ∧ StB y ∧ ∀ t ∈ y.types, t.attrs.length ≤ 1048576 := by
 obtain ⟨cs0, rfl⟩ : ∃ cs : Array Value, v = .agg cs := by
  rcases hv with hv | h
  ·obtain ⟨cs, rfl, _⟩ := WideShapes.okWide_struct Tryz.underlying36 hv
   exact ⟨cs, rfl⟩
  ·exact h
 obtain ⟨fuel, hf0⟩ := h
 obtain ⟨y, h1, h2⟩ := open_stateC hf0 hb
 refine ⟨y, ?_, h2⟩
 have h3 : cs0.toList = stc y := h1
 rw [← h3]
end
end Go.Proofs.YtfglgpbjjpoimaaGreatDoor
/- SaveEncodes: what a row's condition on package-level variables says of the memory: arrays of ints and of strings (no program in sight). -/
set_option linter.unusedVariables false
namespace Go.Proofs.YtfglgpbjjpoimaaGreatDoor
open Go

/-- The value that a datum of one cell stands for. -/
def valOf {H : Type} : DataW H → Value
 | .lit (.string l) => .string ⟨l.toArray⟩
 | .lit (.int k z) => .int k z
 | _ => .tuple #[]
theorem cells_of_lits {H : Type} {enc : TypeId × Value → H} {P : Program} {w : World} {base : Nat} {sp : Nat → Bool} {held : Bool} {fuel : Nat} {t e : TypeId} {n : Nat} {cs : List Value} {ds : List (DataW H)} {p : List MemPlace}
  (ht : P.underlying t = some (.array n e)) (he : (∃ k, P.underlying e = some (.int k)) ∨ P.underlying e = some .string) (hce : P.cellsOf e = 1) (hct : P.cellsOf t = n)
  (h : DataW.trod enc P w base sp held fuel t cs = some (.agg ds, p)) : cs = ds.map valOf := by
 obtain ⟨xs, m, _, hx, hl, hxl, hel⟩ := DataW.trod_array ht h
 simp only [Prod.mk.injEq, DataW.agg.injEq] at hx
 rw [hct] at hl
 apply List.ext_getElem?
 intro i
 by_cases hi : i < n
 ·have h1 := hel i hi
  rw [hce, Nat.mul_one, List.getElem?_eq_getElem (by omega)] at h1
  have e1 : (cs.drop i).take 1 = [cs[i]'(by omega)] := by
   rw [List.drop_eq_getElem_cons (by omega)]
   rfl
  rw [e1] at h1
  have e2 : (ds.map valOf)[i]? = some (valOf (xs[i]'(by omega)).1) := by
   rw [hx.1, List.getElem?_map, List.getElem?_map, List.getElem?_eq_getElem (by omega)]
   rfl
  rw [e2, List.getElem?_eq_getElem (by omega)]
  rcases he with ⟨k, he⟩ | he
  ·obtain ⟨z, k1, k2, _⟩ := DataW.trod_int he h1
   rw [k2]
   simp only [List.cons.injEq, and_true] at k1
   rw [k1]
   rfl
  ·obtain ⟨s, k1, k2, _⟩ := DataW.trod_string he h1
   rw [k2]
   simp only [List.cons.injEq, and_true] at k1
   rw [k1]
   rfl
 ·rw [List.getElem?_eq_none (by omega), List.getElem?_eq_none (by rw [hx.1]; simp; omega)]
theorem heap_of_var {P : Program} {w : World} {name : String} {cs : Array Value} {g : Nat} (hg : P.globalNamed name = some g) (h : w.var? P name = some cs) : ∃ t fz, w.heap[g]? = some (.cells cs t fz) := by
 unfold World.var? at h
 rw [hg] at h
 simp only [Option.bind_some] at h
 split at h
 ·rename_i c t fz hb
  cases h
  exact ⟨t, fz, hb⟩
 ·cases h
/-- What is said of one variable. -/
def LaidOne (P : Program) (w : World) (n : String) (d : DataW Unit) : Prop :=
 ∃ g t cs fuel p, P.globalNamed n = some g ∧ (P.globals[g]?).map (·.type) = some t ∧ w.var? P n = some cs ∧ DataW.trod (fun _ => ()) P w 0 (fun _ => true) false fuel t cs.toList = some (d, p)
theorem laid_at {P : Program} {w : World} : ∀ {l : List (String × DataW Unit)} {ps : List MemPlace}, DataW.LaidVars P w l ps → ∀ n d, (n, d) ∈ l → LaidOne P w n d := by
 intro l
 induction l with
 | nil => intro ps _ n d h; simp at h
 | cons x l ih =>
  intro ps h n d hm
  obtain ⟨n0, d0⟩ := x
  obtain ⟨g, t, cs, fuel, p, q, h1, h2, h3, h4, h5, _⟩ := h
  rcases List.mem_cons.1 hm with h9 | h9
  ·cases h9
   exact ⟨g, t, cs, fuel, p, h1, h2, h3, h4⟩
  ·exact ih h5 n d h9
theorem met_at {P : Program} {w : World} {l : List (String × DataW Unit)} (h : laidMetH P l w) {n : String} {d : DataW Unit} (hm : (n, d) ∈ l) (hd : d.handleName? = none) : LaidOne P w n d := by
 unfold laidMetH at h
 split at h
 ·obtain ⟨ps, h1, _⟩ := h
  exact laid_at h1 n d hm
 ·obtain ⟨⟨ps, h1, _⟩, _⟩ := h
  exact laid_at h1 n d (List.mem_filter.2 ⟨hm, by simp [hd]⟩)
/-- An array of ints or strings that is laid: its block. -/
theorem block_at {P : Program} {w : World} {l : List (String × DataW Unit)} (h : laidMetH P l w) {n : String} {ds : List (DataW Unit)} {i : Nat} (hm : l[i]? = some (n, .agg ds)) {g N : Nat} {t e : TypeId} (hg : P.globalNamed n = some g) (hgt : (P.globals[g]?).map (·.type) = some t)
  (ht : P.underlying t = some (.array N e)) (he : (∃ k, P.underlying e = some (.int k)) ∨ P.underlying e = some .string) (hce : P.cellsOf e = 1) (hct : P.cellsOf t = N) {vs : List Value} (hvs : vs = ds.map valOf) : ∃ t' fz, w.heap[g]? = some (.cells vs.toArray t' fz) := by
 obtain ⟨g', t1, cs, fuel, p, h1, h2, h3, h4⟩ := met_at h (List.mem_of_getElem? hm) rfl
 obtain rfl := Option.some.inj (hg.symm.trans h1)
 obtain rfl := Option.some.inj (hgt.symm.trans h2)
 have h5 := cells_of_lits ht he hce hct h4
 obtain ⟨t', fz, h6⟩ := heap_of_var hg h3
 refine ⟨t', fz, ?_⟩
 rw [h6, hvs, ← h5]

end Go.Proofs.YtfglgpbjjpoimaaGreatDoor
/- SaveEncodes: the row's listed variables: what the walk asks of the memory. -/
set_option linter.unusedVariables false
namespace Go.Proofs.YtfglgpbjjpoimaaGreatDoor
open Go.RowKit Sv
def laidU : List (String × DataW Unit) := Rows.saveEncodesUptoRow.laid
theorem tb_of {w : World} (h : laidMetH Tryz.prog laidU w) {n : String} {ds : List (DataW Unit)} {i : Nat} (hm : laidU[i]? = some (n, .agg ds)) {g N : Nat} {t e : TypeId} (hg : Tryz.prog.globalNamed n = some g) (hgt : (Tryz.prog.globals[g]?).map (·.type) = some t)
  (ht : Tryz.prog.underlying t = some (.array N e)) (he : (∃ k, Tryz.prog.underlying e = some (.int k)) ∨ Tryz.prog.underlying e = some .string) (hce : Tryz.prog.cellsOf e = 1) (hct : Tryz.prog.cellsOf t = N) {vs : List Value} (hvs : vs = ds.map valOf) : Tb w g vs := by
 obtain ⟨t', fz, hh⟩ := block_at h hm hg hgt ht he hce hct hvs
 intro j hj
 simp [World.cell?, hh, hj]
theorem kw_laid {w : World} (h : laidMetH Tryz.prog laidU w) : Kw w := by
 have h1 := tb_of h (i := 4) rfl (g := 3) (t := 212) (e := 9) (by kernel_rfl) (by kernel_rfl) Tryz.underlying212 (.inr Tryz.underlying9) (by kernel_rfl) (by kernel_rfl) (vs := kwsL.map T) rfl
 intro i hi
 have h2 := h1 i (by simpa using hi)
 simpa using h2
theorem pow_laid {w : World} (h : laidMetH Tryz.prog laidU w) : Lib.TabIs Tryz.prog w "internal/strconv.uint64pow10" .u64 Lib.pow10Tab := by
 obtain ⟨g, t, cs, fuel, p, h1, h2, h3, h4⟩ := met_at h (n := "internal/strconv.uint64pow10") (List.mem_of_getElem? (show laidU[2]? = some ("internal/strconv.uint64pow10", Rows.laid_internal_strconv_uint64pow10) from rfl)) rfl
 have e1 : Tryz.prog.globalNamed "internal/strconv.uint64pow10" = some 9 := by kernel_rfl
 have e2 : (Tryz.prog.globals[9]?).map (·.type) = some 240 := by kernel_rfl
 obtain rfl := Option.some.inj (e1.symm.trans h1)
 obtain rfl := Option.some.inj (e2.symm.trans h2)
 have h5 := cells_of_lits Tryz.underlying240 (.inl ⟨_, Tryz.underlying76⟩) (by kernel_rfl) (by kernel_rfl) h4
 unfold Lib.TabIs
 rw [h3]
 congr 1
 apply Array.ext'
 rw [h5]
 rfl
theorem et_rt : (Tryz.prog.cutTypes.find? (·.1 == "internal/reflectlite.rtype")).map (·.2) = some 189 := by kernel_rfl
theorem et_rows : ((List.range 275).filter fun t => Tryz.prog.rowNamed t [101, 114, 114, 111, 114]) = [44] := by kernel_rfl
theorem et_size : Tryz.prog.types.size = 275 := by kernel_rfl
theorem et_laid {w : World} (h : laidMetH Tryz.prog laidU w) : EtOK w := by
 have hf : laidU.filter (fun x => x.2.handleName?.isSome) = [("errors.errorType", Rows.laid_errors_errorType)] := by kernel_rfl
 unfold laidMetH at h
 rw [hf] at h
 obtain ⟨name, u, ty, e1, e2, e3, e4, e5⟩ := h.2 _ (List.mem_singleton.2 rfl)
 have en : name = [101, 114, 114, 111, 114] := (Option.some.inj e1).symm
 subst en
 obtain rfl := Option.some.inj (et_rt.symm.trans e2)
 have hm : ty ∈ (List.range 275).filter fun t => Tryz.prog.rowNamed t [101, 114, 114, 111, 114] := List.mem_filter.2 ⟨List.mem_range.2 (by rw [← et_size]; exact e3), e4⟩
 rw [et_rows] at hm
 obtain rfl := List.mem_singleton.1 hm
 have hh : typeHandle Tryz.prog 44 = .pointer (some ⟨13, 44, none⟩) := by kernel_rfl
 rw [hh] at e5
 have hg : Tryz.prog.globalNamed "errors.errorType" = some 2 := by kernel_rfl
 unfold EtOK
 simpa using World.var?_cell hg e5 0
theorem ld_laid {w : World} (h : laidMetH Tryz.prog laidU w) : Ld w where
 kw := kw_laid h
 lev := tb_of h (i := 9) rfl (g := 7) (t := 233) (e := 3) (by kernel_rfl) (by kernel_rfl) Tryz.underlying233 (.inl ⟨_, Tryz.underlying3⟩) (by kernel_rfl) (by kernel_rfl) rfl
 sgn := tb_of h (i := 10) rfl (g := 4) (t := 218) (e := 136) (by kernel_rfl) (by kernel_rfl) Tryz.underlying218 (.inl ⟨_, Tryz.underlying136⟩) (by kernel_rfl) (by kernel_rfl) rfl
 aft := tb_of h (i := 11) rfl (g := 1) (t := 142) (e := 136) (by kernel_rfl) (by kernel_rfl) Tryz.underlying142 (.inl ⟨_, Tryz.underlying136⟩) (by kernel_rfl) (by kernel_rfl) rfl
 spl := tb_of h (i := 5) rfl (g := 8) (t := 236) (e := 9) (by kernel_rfl) (by kernel_rfl) Tryz.underlying236 (.inr Tryz.underlying9) (by kernel_rfl) (by kernel_rfl) rfl
 rsg := tb_of h (i := 6) rfl (g := 6) (t := 226) (e := 9) (by kernel_rfl) (by kernel_rfl) Tryz.underlying226 (.inr Tryz.underlying9) (by kernel_rfl) (by kernel_rfl) rfl
 rcl := tb_of h (i := 7) rfl (g := 5) (t := 225) (e := 9) (by kernel_rfl) (by kernel_rfl) Tryz.underlying225 (.inr Tryz.underlying9) (by kernel_rfl) (by kernel_rfl) rfl
 fst := tb_of h (i := 8) rfl (g := 0) (t := 114) (e := 3) (by kernel_rfl) (by kernel_rfl) Tryz.underlying114 (.inl ⟨_, Tryz.underlying3⟩) (by kernel_rfl) (by kernel_rfl) rfl
 tab := pow_laid h
end Go.Proofs.YtfglgpbjjpoimaaGreatDoor
