/- A slice of slices of bytes that came in, and what bounds it. -/
import Derived.Test.YtiebnfdjnclkcaaW10
import Derived.Test.YtiebnfdjnclkcaaBulk
import Derived.Deep.Slices
import Derived.SizedLaws
set_option linter.unusedVariables false
namespace Go.Proofs.Ytiebnfdjnclkcaa
open Go.RowKit

/-- How a list of bytes is told. -/
def Told {H : Type} (d : DataW H) (r : List UInt8) : Prop := d = .nil ∧ r.length = 0 ∨ ∃ el sp, d = .slice el sp ∧ el.length = r.length
/-- How the records are told. -/
def ToldR {H : Type} (d : DataW H) (rs : List (List UInt8)) : Prop :=
  d = .nil ∧ rs = [] ∨ ∃ (sp : List (DataW H)) (D : Nat → DataW H) (R : Nat → List UInt8), d = .slice ((List.range rs.length).map D) sp ∧ rs = (List.range rs.length).map R ∧ ∀ i, i < rs.length → Told (D i) (R i)

theorem open_recs {H : Type} {enc : TypeId × Value → H} {P : Program} {t s e : TypeId} {W : World} {a : Option Addr} {n cap : Nat} {d : DataW H} {p : List MemPlace}
    (ht : P.underlying t = some (.slice s)) (hs : P.underlying s = some (.slice e)) (he : P.underlying e = some (.int .u8)) (hcs : P.cellsOf s = 1) (hc : P.cellsOf e = 1)
    (h : DataW.Trod enc P W 0 (fun _ => true) true t (.slice a n cap) d p) :
    ∃ rs : List (List UInt8), rs.length = n ∧ RdR W a rs ∧ ToldR d rs := by
  obtain ⟨fuel, hf⟩ := h
  rcases Go.Deep.open_slice1 ht hcs hf with ⟨h1, hx⟩ | ⟨ad, len, c, m, fu, V, D, Pl, h1, _, hl, _, hm, hx, hV⟩
  · simp [Value.cells] at h1
    obtain ⟨rfl, rfl, rfl⟩ := h1
    simp only [Prod.mk.injEq] at hx
    exact ⟨[], rfl, RdR.nil _ _, .inl ⟨hx.1, rfl⟩⟩
  · simp [Value.cells] at h1
    obtain ⟨rfl, rfl, rfl⟩ := h1
    simp only [if_true] at hm
    subst hm
    simp only [Prod.mk.injEq] at hx
    have hex : ∀ i, i < n → ∃ r : List UInt8, (∃ b c, V i = .slice b r.length c ∧ Rd W b (r.map B)) ∧ Told (D i) r := by
      intro i hi
      obtain ⟨h2, h3⟩ := hV i (by omega)
      rcases Go.Deep.open_slice1 hs hc h3 with ⟨h4, _⟩ | ⟨ad2, len2, c2, _, _, _, _, _, h4, _⟩
      · simp at h4
        have h5 : DataW.Trod enc P W 0 (fun _ => true) true s (.slice none 0 0) (D i) (Pl i) := ⟨fu, by rw [h4] at h3; exact h3⟩
        obtain ⟨r, hr, hrd, htold, _⟩ := open_bytes hs he hc h5
        refine ⟨r, ⟨none, 0, by rw [h4, hr], hrd⟩, ?_⟩
        rcases htold with ⟨h6, h7⟩ | ⟨el, sp, h6, h7⟩
        · exact .inl ⟨h6, hr⟩
        · exact .inr ⟨el, sp, h6, by rw [h7, hr]⟩
      · simp at h4
        have h5 : DataW.Trod enc P W 0 (fun _ => true) true s (.slice (some ad2) len2 c2) (D i) (Pl i) := ⟨fu, by rw [h4] at h3; exact h3⟩
        obtain ⟨r, hr, hrd, htold, _⟩ := open_bytes hs he hc h5
        refine ⟨r, ⟨some ad2, c2, by rw [h4, hr], hrd⟩, ?_⟩
        rcases htold with ⟨h6, h7⟩ | ⟨el, sp, h6, h7⟩
        · exact .inl ⟨h6, by rw [hr, h7]⟩
        · exact .inr ⟨el, sp, h6, by rw [h7, hr]⟩
    obtain ⟨R, hR⟩ := Go.Deep.choose_lt (α := List UInt8) (p := fun i r => (∃ b c, V i = .slice b r.length c ∧ Rd W b (r.map B)) ∧ Told (D i) r) hex
    have hlen : ((List.range n).map R).length = n := by simp
    refine ⟨(List.range n).map R, hlen, ⟨(List.range n).map V, by simp, ?_, fun i hi => ?_⟩, .inr ⟨_, D, R, by rw [hlen]; exact hx.1, by rw [hlen], fun i hi => (hR i (by rw [← hlen]; exact hi)).2⟩⟩
    · by_cases hn : n = 0
      · left; subst hn; simp
      · right
        obtain ⟨b, off, spot⟩ := ad
        have hc0 := (hV 0 (by omega)).1
        have hspot : spot = none := by simpa [Addr.add] using World.cell?_spot hc0
        subst hspot
        refine ⟨b, off, rfl, fun i u hu => ?_⟩
        have hi : i < n := by
          have := (List.getElem?_eq_some_iff.1 hu).1
          simpa using this
        have h1 := (hV i (by omega)).1
        rw [Addr.add_lit] at h1
        rw [h1]
        simpa [List.getElem?_eq_getElem, hi] using hu
    · have hi' : i < n := by simpa using hi
      obtain ⟨⟨b, c, h2, h3⟩, _⟩ := hR i hi'
      have e : ((List.range n).map R)[i] = R i := by simp
      rw [e]
      exact ⟨b, c, by simp [hi', h2], h3⟩

theorem told_bulk {H : Type} {d : DataW H} {r : List UInt8} (h : Told d r) : r.length + 1 ≤ Rows.uptoBulk d := by
  rcases h with ⟨rfl, h⟩ | ⟨el, sp, rfl, h⟩
  · rw [h]; exact bulk_one _
  · have := bulk_len el
    simp only [Rows.uptoBulk]
    omega
theorem toldR_bulk {H : Type} {d : DataW H} {rs : List (List UInt8)} (h : ToldR d rs) : logBound rs + 1 ≤ 25 * Rows.uptoBulk d := by
  rcases h with ⟨rfl, rfl⟩ | ⟨sp, D, R, rfl, hR, ht⟩
  · simp [Rows.uptoBulk, logBound]
  · have key : ∀ l : List Nat, (∀ i ∈ l, Told (D i) (R i)) → logBound (l.map R) ≤ 25 * Rows.uptoBulkAll (l.map D) := by
      intro l
      induction l with
      | nil => intro _; simp [Rows.uptoBulkAll, logBound]
      | cons x l ih =>
        intro hl
        have h1 := ih (fun i hi => hl i (List.mem_cons_of_mem _ hi))
        have h2 := told_bulk (hl x (by simp))
        simp only [List.map_cons, Rows.uptoBulkAll, logBound, List.sum_cons] at h1 ⊢
        omega
    have := key (List.range rs.length) (fun i hi => ht i (List.mem_range.1 hi))
    rw [← hR] at this
    simp only [Rows.uptoBulk]
    omega

theorem weightsAll_mem {H : Type} {P : Program} {e : TypeId} {l : List (DataW H)} {d : DataW H} (hd : d ∈ l) : ∀ n ∈ d.weights P e, n ∈ DataW.weightsAll P e l := by
  induction l with
  | nil => cases hd
  | cons x l ih =>
    intro n hn
    rw [DataW.weightsAll]
    rcases List.mem_cons.1 hd with rfl | h
    · exact List.mem_append_left _ hn
    · exact List.mem_append_right _ (ih h n hn)

theorem toldR_sized {H : Type} {P : Program} {ts : List TypeId} {ds : List (DataW H)} (h : (DataW.weightsEach P ts ds).all (· ≤ reachBytes) = true) {j : Nat} {t s e : TypeId} {d : DataW H} {rs : List (List UInt8)}
    (ht : ts[j]? = some t) (hd : ds[j]? = some d) (hu : P.underlying t = some (.slice s)) (hu2 : P.underlying s = some (.slice e)) (hb : P.bytesOf s = 24) (hb2 : P.bytesOf e = 1) (hr : ToldR d rs) :
    rs.length ≤ 140737488351232 ∧ ∀ r ∈ rs, r.length ≤ 140737488351232 := by
  rcases hr with ⟨rfl, rfl⟩ | ⟨sp, D, R, rfl, hR, ht2⟩
  · exact ⟨by simp, fun r hr => by cases hr⟩
  · refine ⟨?_, fun r hr => ?_⟩
    · have h1 := sized_slice h ht hd hu
      rw [hb] at h1
      simp [reachBytes] at h1
      omega
    · rw [hR] at hr
      obtain ⟨i, hi, rfl⟩ := List.mem_map.1 hr
      have hi' := List.mem_range.1 hi
      rcases ht2 i hi' with ⟨h1, h2⟩ | ⟨el, sp2, h1, h2⟩
      · omega
      · have hm : (el.length + sp2.length) * 1 ∈ (D i).weights P s := by rw [h1]; simp [DataW.weights, hu2, hb2]
        have hm2 := weightsAll_mem (l := (List.range rs.length).map D) (List.mem_map.2 ⟨i, hi, rfl⟩) _ hm
        have hm3 := DataW.weights_mem_each (P := P) ht hd ((el.length + sp2.length) * 1) (by simp only [DataW.weights, hu]; exact List.mem_cons_of_mem _ (List.mem_append_left _ hm2))
        have := List.all_eq_true.1 h _ hm3
        simp [reachBytes] at this
        omega
theorem RdR.take {w : World} {a : Option Addr} {rs : List (List UInt8)} (h : RdR w a rs) (k : Nat) : RdR w a (rs.take k) := by
  obtain ⟨vs, h1, h2, h3⟩ := h
  refine ⟨vs.take k, by simp [h1], h2.take k, fun i hi => ?_⟩
  have hi' : i < k ∧ i < rs.length := by rw [List.length_take] at hi; omega
  obtain ⟨b, c, h4, h5⟩ := h3 i hi'.2
  refine ⟨b, c, ?_, ?_⟩
  · rw [List.getElem?_take_of_lt hi'.1, List.getElem_take]; exact h4
  · rw [List.getElem_take]; exact h5

/-- 's[:k]' of a slice of slices. -/
theorem slice_toR (a : Option Addr) (n cap k : Nat) (hk : k ≤ cap) :
    (∀ W, (Instr.slice 32 (.slice a n cap) none (some (.int .i64 (k : Int))) none).run Try.prog W = .ok (.slice a k cap) W) := by
  obtain ⟨i0, hi, hz0, hz1, hz2⟩ := info_parts info22
  intro W
  rw [run_slice_h (P := Try.prog) W 32 a n cap Try.underlying32 .i64 k (by omega) (by omega)]
  have : (sizeOf (Try.prog.elem 32) : Sem Nat).run Try.prog W = .ok 1 W := by
    show (sizeOf 22).run Try.prog W = _
    simp [sizeOf, typeInfo, hi, hz1]
  have e : ∀ x : Option Addr, x.map (·.add (0 * 1)) = x := by
    intro x; cases x <;> simp [Addr.add]
  simp [this, Result.andThen, sliced]
  intro _
  cases a <;> simp [Addr.add]
/-- 's[k:]' of a slice of slices. -/
theorem slice_fromR (a : Option Addr) (n cap k : Nat) (hk : k ≤ n) (hcap : n ≤ cap) :
    ∃ a2, (∀ W, (Instr.slice 32 (.slice a n cap) (some (.int .i64 (k : Int))) none none).run Try.prog W = .ok (.slice a2 (n - k) (cap - k)) W) ∧
      (∀ (W : World) (rs : List (List UInt8)), rs.length = n → RdR W a rs → RdR W a2 (rs.drop k)) := by
  obtain ⟨i0, hi, hz0, hz1, hz2⟩ := info_parts info22
  refine ⟨if cap = k then a else a.map (·.add (k * 1)), fun W => ?_, fun W rs hv hr => ?_⟩
  · rw [run_slice_l (P := Try.prog) W 32 a n cap Try.underlying32 .i64 k (by omega) (by omega)]
    have : (sizeOf (Try.prog.elem 32) : Sem Nat).run Try.prog W = .ok 1 W := by
      show (sizeOf 22).run Try.prog W = _
      simp [sizeOf, typeInfo, hi, hz1]
    simp [this, Result.andThen, sliced]
  · by_cases hlt : k < n
    · obtain ⟨vs, h1, h2, h3⟩ := hr
      have h4 := h2.sub k n (by omega) (if cap = k then a else a.map (·.add (k * 1))) (fun _ => by rw [if_neg (by omega)])
      rw [List.take_of_length_le (by omega)] at h4
      refine ⟨vs.drop k, by simp [h1], h4, fun i hi => ?_⟩
      have hi' : k + i < rs.length := by rw [List.length_drop] at hi; omega
      obtain ⟨b, c, h5, h6⟩ := h3 (k + i) hi'
      refine ⟨b, c, ?_, ?_⟩
      · rw [List.getElem?_drop, List.getElem_drop]; exact h5
      · rw [List.getElem_drop]; exact h6
    · rw [List.drop_eq_nil_of_le (by omega)]
      exact RdR.nil _ _
#print axioms open_recs
end Go.Proofs.Ytiebnfdjnclkcaa
