/- The law WireStream at what comes in. -/
import Derived.Test.YtaipnbpefdcejaaStr
set_option linter.unusedVariables false
namespace Go.Proofs.Ytaipnbpefdcejaa
open Go.RowKit
instance : Inhabited (M × Ps) := ⟨(zM 0, zP)⟩
/-- A list of messages that comes in. -/
theorem open_msgs {H : Type} {enc : TypeId × Value → H} {W : World} {v : Value} {d : DataW H} {p : List MemPlace} (h : DataW.Trod enc Try.prog W 0 (fun _ => true) true 62 v d p) (hb : Rows.uptoBulk d ≤ 1073741824) (a : Option Addr) (n c : Nat) (hv : v = .slice a n c) :
    ∃ ls : List (M × Ps), ls.length = n ∧ (∀ x ∈ ls, WfM x.1) ∧ RdL W a ls ∧ n + 1 ≤ Rows.uptoBulk d := by
  obtain ⟨fuel, hf⟩ := h
  have hvc : (v.cells.toList) = [v] := by rw [hv]; rfl
  rw [hvc, hv] at hf
  rcases DataW.trod_slice Try.underlying62 hf with ⟨h1, h2⟩ | ⟨a', len, cap, elems, rest, m, _, h1, h2, _, hl, _, hlen, hei, _, _⟩
  · simp only [List.cons.injEq, Value.slice.injEq, and_true] at h1
    obtain ⟨rfl, rfl, rfl⟩ := h1
    refine ⟨[], rfl, fun x hx => by simp at hx, ⟨.inl rfl, fun x hx => by simp at hx⟩, ?_⟩
    simp only [Prod.mk.injEq] at h2
    rw [h2.1]
    simp [Rows.uptoBulk]
  · simp only [List.cons.injEq, Value.slice.injEq, and_true] at h1
    obtain ⟨rfl, rfl, rfl⟩ := h1
    simp only [Prod.mk.injEq] at h2
    have hc : Try.prog.cellsOf 50 = 31 := by kernel_rfl
    rw [hc] at hei
    have hbd : Rows.uptoBulkAll (elems.map (·.1)) + 1 ≤ Rows.uptoBulk d := by
      rw [h2.1]
      simp only [Rows.uptoBulk]
      omega
    have hex : ∀ i, i < n → ∃ x : M × Ps, (WfM x.1 ∧ MRd W x.1 x.2) ∧ ∀ r, r < 31 → W.cell? (a'.add (i * 31 + r)) = (cellsM x.1 x.2)[r]? := by
      intro i hi
      have h3 := hei i hi
      rw [List.getElem?_eq_getElem (by omega)] at h3
      obtain ⟨cs', h4, h5⟩ := Option.bind_eq_some_iff.1 h3
      have hbk : Rows.uptoBulk (elems[i]'(by omega)).1 ≤ 1073741824 := by
        have := bulk_get (xs := elems) (i := i) (List.getElem?_eq_getElem (by omega))
        omega
      have hcl : ((Value.agg cs'.toArray).cells).toList = cs' := rfl
      obtain ⟨mm, q, h6, h7, h8⟩ := open_msg (v := .agg cs'.toArray) (.inr ⟨_, rfl⟩) ⟨m, by rw [hcl]; exact h5⟩ hbk
      have h9 : cs' = cellsM mm q := by
        unfold valM at h6
        simp only [Value.agg.injEq] at h6
        have := congrArg Array.toList h6
        exact this
      obtain ⟨_, _, h10⟩ := World.cells?_some h4
      refine ⟨(mm, q), ⟨h7, h8⟩, fun r hr => ?_⟩
      rw [← h9, ← h10 r hr, Go.Deep.add_add]
    obtain ⟨V, hV⟩ := Go.Deep.choose_lt hex
    have hll : ((List.range n).map V).length = n := by simp
    refine ⟨(List.range n).map V, hll, fun x hx => ?_, ⟨?_, fun x hx => ?_⟩, ?_⟩
    · obtain ⟨i, hi, rfl⟩ := List.mem_map.1 hx
      exact (hV i (by simpa using hi)).1.1
    · by_cases h0 : n = 0
      · left; subst h0; rfl
      · right
        obtain ⟨b, off, spot⟩ := a'
        have h3 := (hV 0 (by omega)).2 0 (by omega)
        obtain ⟨u, hu⟩ : ∃ u, (cellsM (V 0).1 (V 0).2)[0]? = some u := ⟨_, List.getElem?_eq_getElem (by rw [cellsM_len]; omega)⟩
        rw [hu] at h3
        have hspot : spot = none := by simpa [Addr.add] using World.cell?_spot h3
        subst hspot
        refine ⟨b, off, rfl, fun j u hu => ?_⟩
        unfold mcells at hu
        rw [flat_get (fun x : M × Ps => cellsM x.1 x.2) 31 (by omega) (fun x => cellsM_len _ _), List.getElem?_map] at hu
        by_cases hj : j / 31 < n
        · rw [List.getElem?_range hj] at hu
          have h4 := (hV (j / 31) hj).2 (j % 31) (Nat.mod_lt _ (by omega))
          rw [Addr.add_lit, Nat.div_add_mod'] at h4
          rw [h4]
          exact hu
        · rw [List.getElem?_eq_none (by simpa using hj)] at hu
          simp at hu
    · obtain ⟨i, hi, rfl⟩ := List.mem_map.1 hx
      exact (hV i (by simpa using hi)).1.2
    · have h1 := bulk_len (elems.map (·.1))
      simp only [List.length_map] at h1
      omega
set_option maxRecDepth 20000 in
theorem stream_law {H : Type} {enc : TypeId × Value → H} {W : World} {base : Nat} {p : List MemPlace} (v : Value) (d : DataW H) (k : DataW.Trod enc Try.prog W 0 (fun _ => true) true 62 v d p) (o : Value.okWide Try.prog W .any base 62 v) (hb : Rows.uptoBulk d ≤ 1048576)
    (x : Int) (wx : (Lit.int .i64 x).wf = true) (w' : World) (hw : W = w') :
    Calls Try.prog 12 #[v, .int .i64 x] w' fun e W' => e = .returned (.bool true) ∧ Below w'.heap.size w' W' := by
  subst hw
  obtain ⟨a, n, c, rfl⟩ := WideShapes.okWide_slice Try.underlying62 o
  obtain ⟨ls, h1, h2, h3, h4⟩ := open_msgs k (by omega) a n c rfl
  exact stream_walk a c n ls x W h1 (by omega) (by have h9 := i64_of wx; unfold I64 at h9; exact h9) h2 h3
#print axioms stream_law
end Go.Proofs.Ytaipnbpefdcejaa
