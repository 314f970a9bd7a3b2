/- The walk of order: the method values of a kind, for the eraser, the writer and the reader. -/
import Derived.Test.YtaipnbpefdcejaaErase
set_option linter.unusedVariables false
namespace Go.Proofs.Ytaipnbpefdcejaa
open Go.RowKit
theorem mkf : ∀ (fn : Fn) (first cap : Array Value) (w : World), (Instr.makeFunc fn first cap).run Try.prog w = .ok (.func fn first cap) w := fun _ _ _ _ => rfl
/-- A method value of f. -/
def mf (f : Value) (s : String) : Value := .func (.method s) #[f] #[]
/-- The fields of a kind, as order names them. -/
def ordL (k : Int) : List String :=
  if k = 1 then ["sluice/wire.number"] else if k = 2 then ["sluice/wire.schema", "sluice/wire.query", "sluice/wire.number"] else if k = 3 then ["sluice/wire.handle", "sluice/wire.event"] else if k = 4 then ["sluice/wire.handle", "sluice/wire.number"] else
  if k = 5 ∨ k = 6 ∨ k = 7 ∨ k = 9 ∨ k = 18 then ["sluice/wire.handle"] else if k = 8 then ["sluice/wire.image"] else if k = 16 then ["sluice/wire.code"] else if k = 17 then ["sluice/wire.fault"] else
  if k = 19 then ["sluice/wire.handle", "sluice/wire.match"] else if k = 20 then ["sluice/wire.handle", "sluice/wire.sizes"] else if k = 21 then ["sluice/wire.handle", "sluice/wire.image"] else []
def OrdPost (f : Value) (k : Int) (w : World) (e : Ending) (w' : World) : Prop :=
  ∃ a c, e = .returned (.slice a (ordL k).length c) ∧ Rd w' a ((ordL k).map (mf f)) ∧ Below w.heap.size w w' ∧ (ordL k = [] → a = none) ∧ (ordL k ≠ [] → a ≠ none) ∧ ∀ x, a = some x → w.heap.size ≤ x.block
theorem ordPost_mk {f : Value} {k : Int} {w : World} {l : List String} (hl : ordL k = l) (hne : l ≠ []) (W : World) (hW : W = w.alloc (.cells (l.map (mf f)).toArray 79) ∨ W = (w.alloc (.cells (l.map (mf f)).toArray 79)).drew) :
    OrdPost f k w (.returned (.slice (some ⟨w.heap.size, 0, none⟩) l.length l.length)) W := by
  subst hl
  have h1 : Rd (w.alloc (.cells ((ordL k).map (mf f)).toArray 79)) (some ⟨w.heap.size, 0, none⟩) ((ordL k).map (mf f)) := (Blk.new w _ 79).rd
  have h2 : Below w.heap.size w (w.alloc (.cells ((ordL k).map (mf f)).toArray 79)) := (Below.refl _ _).alloc (Nat.le_refl _) _
  refine ⟨_, _, rfl, ?_, ?_, fun h => (hne h).elim, fun _ => by simp, fun x hx => by cases hx; exact Nat.le_refl _⟩
  · rcases hW with rfl | rfl
    · exact h1
    · exact h1
  · rcases hW with rfl | rfl
    · exact h2
    · exact h2.drew

set_option maxRecDepth 20000 in
set_option maxHeartbeats 4000000 in
theorem order_er (k : Int) (w : World) : Calls Try.prog 46 #[.int .i64 k, .iface 76 (.agg #[])] w (OrdPost (.iface 76 (.agg #[])) k w) := by
  have hmf := mkf
  by_cases hk : k = 1 ∨ k = 2 ∨ k = 3 ∨ k = 4 ∨ k = 5 ∨ k = 6 ∨ k = 7 ∨ k = 8 ∨ k = 9 ∨ k = 16 ∨ k = 17 ∨ k = 18 ∨ k = 19 ∨ k = 20 ∨ k = 21
  · rcases hk with rfl | rfl | rfl | rfl | rfl | rfl | rfl | rfl | rfl | rfl | rfl | rfl | rfl | rfl | rfl
    · go_enter Try.func46, Try.ntmps46
      go_wp2
      all_goals go_ret
      all_goals exact ordPost_mk rfl (by decide) _ (by first | exact .inl rfl | exact .inr rfl)
    · go_enter Try.func46, Try.ntmps46
      go_wp2
      go_region_held3 (fun _ => True) (trivial) (fail)
      all_goals go_wp2
      all_goals go_ret
      all_goals exact ordPost_mk rfl (by decide) _ (by first | exact .inl rfl | exact .inr rfl)
    · go_enter Try.func46, Try.ntmps46
      go_wp2
      go_region_held3 (fun _ => True) (trivial) (fail)
      all_goals go_wp2
      all_goals go_ret
      all_goals exact ordPost_mk rfl (by decide) _ (by first | exact .inl rfl | exact .inr rfl)
    · go_enter Try.func46, Try.ntmps46
      go_wp2
      go_region_held3 (fun _ => True) (trivial) (fail)
      all_goals go_wp2
      all_goals go_ret
      all_goals exact ordPost_mk rfl (by decide) _ (by first | exact .inl rfl | exact .inr rfl)
    · go_enter Try.func46, Try.ntmps46
      go_wp2
      all_goals go_ret
      all_goals exact ordPost_mk rfl (by decide) _ (by first | exact .inl rfl | exact .inr rfl)
    · go_enter Try.func46, Try.ntmps46
      go_wp2
      all_goals go_ret
      all_goals exact ordPost_mk rfl (by decide) _ (by first | exact .inl rfl | exact .inr rfl)
    · go_enter Try.func46, Try.ntmps46
      go_wp2
      all_goals go_ret
      all_goals exact ordPost_mk rfl (by decide) _ (by first | exact .inl rfl | exact .inr rfl)
    · go_enter Try.func46, Try.ntmps46
      go_wp2
      all_goals go_ret
      all_goals exact ordPost_mk rfl (by decide) _ (by first | exact .inl rfl | exact .inr rfl)
    · go_enter Try.func46, Try.ntmps46
      go_wp2
      all_goals go_ret
      all_goals exact ordPost_mk rfl (by decide) _ (by first | exact .inl rfl | exact .inr rfl)
    · go_enter Try.func46, Try.ntmps46
      go_wp2
      all_goals go_ret
      all_goals exact ordPost_mk rfl (by decide) _ (by first | exact .inl rfl | exact .inr rfl)
    · go_enter Try.func46, Try.ntmps46
      go_wp2
      all_goals go_ret
      all_goals exact ordPost_mk rfl (by decide) _ (by first | exact .inl rfl | exact .inr rfl)
    · go_enter Try.func46, Try.ntmps46
      go_wp2
      all_goals go_ret
      all_goals exact ordPost_mk rfl (by decide) _ (by first | exact .inl rfl | exact .inr rfl)
    · go_enter Try.func46, Try.ntmps46
      go_wp2
      go_region_held3 (fun _ => True) (trivial) (fail)
      all_goals go_wp2
      all_goals go_ret
      all_goals exact ordPost_mk rfl (by decide) _ (by first | exact .inl rfl | exact .inr rfl)
    · go_enter Try.func46, Try.ntmps46
      go_wp2
      go_region_held3 (fun _ => True) (trivial) (fail)
      all_goals go_wp2
      all_goals go_ret
      all_goals exact ordPost_mk rfl (by decide) _ (by first | exact .inl rfl | exact .inr rfl)
    · go_enter Try.func46, Try.ntmps46
      go_wp2
      go_region_held3 (fun _ => True) (trivial) (fail)
      all_goals go_wp2
      all_goals go_ret
      all_goals exact ordPost_mk rfl (by decide) _ (by first | exact .inl rfl | exact .inr rfl)
  · have hne : ordL k = [] := by
      unfold ordL
      simp only [not_or] at hk
      obtain ⟨h1, h2, h3, h4, h5, h6, h7, h8, h9, h16, h17, h18, h19, h20, h21⟩ := hk
      simp [h1, h2, h3, h4, h5, h6, h7, h8, h9, h16, h17, h18, h19, h20, h21]
    simp only [not_or] at hk
    obtain ⟨h1, h2, h3, h4, h5, h6, h7, h8, h9, h16, h17, h18, h19, h20, h21⟩ := hk
    have HN := Lib.hid hne
    clear hne
    go_enter Try.func46, Try.ntmps46
    go_wp2
    all_goals go_ret
    all_goals exact ⟨none, 0, by rw [HN.out]; rfl, by rw [HN.out]; exact Rd.nil _ _, Below.refl _ _, fun _ => rfl, fun h => (h HN.out).elim, fun x hx => by cases hx⟩
set_option maxRecDepth 20000 in
set_option maxHeartbeats 4000000 in
theorem order_wr (g : Nat) (k : Int) (w : World) : Calls Try.prog 46 #[.int .i64 k, .iface 84 (.pointer (some ⟨g, 0, none⟩))] w (OrdPost (.iface 84 (.pointer (some ⟨g, 0, none⟩))) k w) := by
  have hmf := mkf
  by_cases hk : k = 1 ∨ k = 2 ∨ k = 3 ∨ k = 4 ∨ k = 5 ∨ k = 6 ∨ k = 7 ∨ k = 8 ∨ k = 9 ∨ k = 16 ∨ k = 17 ∨ k = 18 ∨ k = 19 ∨ k = 20 ∨ k = 21
  · rcases hk with rfl | rfl | rfl | rfl | rfl | rfl | rfl | rfl | rfl | rfl | rfl | rfl | rfl | rfl | rfl
    · go_enter Try.func46, Try.ntmps46
      go_wp2
      all_goals go_ret
      all_goals exact ordPost_mk rfl (by decide) _ (by first | exact .inl rfl | exact .inr rfl)
    · go_enter Try.func46, Try.ntmps46
      go_wp2
      go_region_held3 (fun _ => True) (trivial) (fail)
      all_goals go_wp2
      all_goals go_ret
      all_goals exact ordPost_mk rfl (by decide) _ (by first | exact .inl rfl | exact .inr rfl)
    · go_enter Try.func46, Try.ntmps46
      go_wp2
      go_region_held3 (fun _ => True) (trivial) (fail)
      all_goals go_wp2
      all_goals go_ret
      all_goals exact ordPost_mk rfl (by decide) _ (by first | exact .inl rfl | exact .inr rfl)
    · go_enter Try.func46, Try.ntmps46
      go_wp2
      go_region_held3 (fun _ => True) (trivial) (fail)
      all_goals go_wp2
      all_goals go_ret
      all_goals exact ordPost_mk rfl (by decide) _ (by first | exact .inl rfl | exact .inr rfl)
    · go_enter Try.func46, Try.ntmps46
      go_wp2
      all_goals go_ret
      all_goals exact ordPost_mk rfl (by decide) _ (by first | exact .inl rfl | exact .inr rfl)
    · go_enter Try.func46, Try.ntmps46
      go_wp2
      all_goals go_ret
      all_goals exact ordPost_mk rfl (by decide) _ (by first | exact .inl rfl | exact .inr rfl)
    · go_enter Try.func46, Try.ntmps46
      go_wp2
      all_goals go_ret
      all_goals exact ordPost_mk rfl (by decide) _ (by first | exact .inl rfl | exact .inr rfl)
    · go_enter Try.func46, Try.ntmps46
      go_wp2
      all_goals go_ret
      all_goals exact ordPost_mk rfl (by decide) _ (by first | exact .inl rfl | exact .inr rfl)
    · go_enter Try.func46, Try.ntmps46
      go_wp2
      all_goals go_ret
      all_goals exact ordPost_mk rfl (by decide) _ (by first | exact .inl rfl | exact .inr rfl)
    · go_enter Try.func46, Try.ntmps46
      go_wp2
      all_goals go_ret
      all_goals exact ordPost_mk rfl (by decide) _ (by first | exact .inl rfl | exact .inr rfl)
    · go_enter Try.func46, Try.ntmps46
      go_wp2
      all_goals go_ret
      all_goals exact ordPost_mk rfl (by decide) _ (by first | exact .inl rfl | exact .inr rfl)
    · go_enter Try.func46, Try.ntmps46
      go_wp2
      all_goals go_ret
      all_goals exact ordPost_mk rfl (by decide) _ (by first | exact .inl rfl | exact .inr rfl)
    · go_enter Try.func46, Try.ntmps46
      go_wp2
      go_region_held3 (fun _ => True) (trivial) (fail)
      all_goals go_wp2
      all_goals go_ret
      all_goals exact ordPost_mk rfl (by decide) _ (by first | exact .inl rfl | exact .inr rfl)
    · go_enter Try.func46, Try.ntmps46
      go_wp2
      go_region_held3 (fun _ => True) (trivial) (fail)
      all_goals go_wp2
      all_goals go_ret
      all_goals exact ordPost_mk rfl (by decide) _ (by first | exact .inl rfl | exact .inr rfl)
    · go_enter Try.func46, Try.ntmps46
      go_wp2
      go_region_held3 (fun _ => True) (trivial) (fail)
      all_goals go_wp2
      all_goals go_ret
      all_goals exact ordPost_mk rfl (by decide) _ (by first | exact .inl rfl | exact .inr rfl)
  · have hne : ordL k = [] := by
      unfold ordL
      simp only [not_or] at hk
      obtain ⟨h1, h2, h3, h4, h5, h6, h7, h8, h9, h16, h17, h18, h19, h20, h21⟩ := hk
      simp [h1, h2, h3, h4, h5, h6, h7, h8, h9, h16, h17, h18, h19, h20, h21]
    simp only [not_or] at hk
    obtain ⟨h1, h2, h3, h4, h5, h6, h7, h8, h9, h16, h17, h18, h19, h20, h21⟩ := hk
    have HN := Lib.hid hne
    clear hne
    go_enter Try.func46, Try.ntmps46
    go_wp2
    all_goals go_ret
    all_goals exact ⟨none, 0, by rw [HN.out]; rfl, by rw [HN.out]; exact Rd.nil _ _, Below.refl _ _, fun _ => rfl, fun h => (h HN.out).elim, fun x hx => by cases hx⟩
set_option maxRecDepth 20000 in
set_option maxHeartbeats 4000000 in
theorem order_rd (g : Nat) (k : Int) (w : World) : Calls Try.prog 46 #[.int .i64 k, .iface 90 (.pointer (some ⟨g, 0, none⟩))] w (OrdPost (.iface 90 (.pointer (some ⟨g, 0, none⟩))) k w) := by
  have hmf := mkf
  by_cases hk : k = 1 ∨ k = 2 ∨ k = 3 ∨ k = 4 ∨ k = 5 ∨ k = 6 ∨ k = 7 ∨ k = 8 ∨ k = 9 ∨ k = 16 ∨ k = 17 ∨ k = 18 ∨ k = 19 ∨ k = 20 ∨ k = 21
  · rcases hk with rfl | rfl | rfl | rfl | rfl | rfl | rfl | rfl | rfl | rfl | rfl | rfl | rfl | rfl | rfl
    · go_enter Try.func46, Try.ntmps46
      go_wp2
      all_goals go_ret
      all_goals exact ordPost_mk rfl (by decide) _ (by first | exact .inl rfl | exact .inr rfl)
    · go_enter Try.func46, Try.ntmps46
      go_wp2
      go_region_held3 (fun _ => True) (trivial) (fail)
      all_goals go_wp2
      all_goals go_ret
      all_goals exact ordPost_mk rfl (by decide) _ (by first | exact .inl rfl | exact .inr rfl)
    · go_enter Try.func46, Try.ntmps46
      go_wp2
      go_region_held3 (fun _ => True) (trivial) (fail)
      all_goals go_wp2
      all_goals go_ret
      all_goals exact ordPost_mk rfl (by decide) _ (by first | exact .inl rfl | exact .inr rfl)
    · go_enter Try.func46, Try.ntmps46
      go_wp2
      go_region_held3 (fun _ => True) (trivial) (fail)
      all_goals go_wp2
      all_goals go_ret
      all_goals exact ordPost_mk rfl (by decide) _ (by first | exact .inl rfl | exact .inr rfl)
    · go_enter Try.func46, Try.ntmps46
      go_wp2
      all_goals go_ret
      all_goals exact ordPost_mk rfl (by decide) _ (by first | exact .inl rfl | exact .inr rfl)
    · go_enter Try.func46, Try.ntmps46
      go_wp2
      all_goals go_ret
      all_goals exact ordPost_mk rfl (by decide) _ (by first | exact .inl rfl | exact .inr rfl)
    · go_enter Try.func46, Try.ntmps46
      go_wp2
      all_goals go_ret
      all_goals exact ordPost_mk rfl (by decide) _ (by first | exact .inl rfl | exact .inr rfl)
    · go_enter Try.func46, Try.ntmps46
      go_wp2
      all_goals go_ret
      all_goals exact ordPost_mk rfl (by decide) _ (by first | exact .inl rfl | exact .inr rfl)
    · go_enter Try.func46, Try.ntmps46
      go_wp2
      all_goals go_ret
      all_goals exact ordPost_mk rfl (by decide) _ (by first | exact .inl rfl | exact .inr rfl)
    · go_enter Try.func46, Try.ntmps46
      go_wp2
      all_goals go_ret
      all_goals exact ordPost_mk rfl (by decide) _ (by first | exact .inl rfl | exact .inr rfl)
    · go_enter Try.func46, Try.ntmps46
      go_wp2
      all_goals go_ret
      all_goals exact ordPost_mk rfl (by decide) _ (by first | exact .inl rfl | exact .inr rfl)
    · go_enter Try.func46, Try.ntmps46
      go_wp2
      all_goals go_ret
      all_goals exact ordPost_mk rfl (by decide) _ (by first | exact .inl rfl | exact .inr rfl)
    · go_enter Try.func46, Try.ntmps46
      go_wp2
      go_region_held3 (fun _ => True) (trivial) (fail)
      all_goals go_wp2
      all_goals go_ret
      all_goals exact ordPost_mk rfl (by decide) _ (by first | exact .inl rfl | exact .inr rfl)
    · go_enter Try.func46, Try.ntmps46
      go_wp2
      go_region_held3 (fun _ => True) (trivial) (fail)
      all_goals go_wp2
      all_goals go_ret
      all_goals exact ordPost_mk rfl (by decide) _ (by first | exact .inl rfl | exact .inr rfl)
    · go_enter Try.func46, Try.ntmps46
      go_wp2
      go_region_held3 (fun _ => True) (trivial) (fail)
      all_goals go_wp2
      all_goals go_ret
      all_goals exact ordPost_mk rfl (by decide) _ (by first | exact .inl rfl | exact .inr rfl)
  · have hne : ordL k = [] := by
      unfold ordL
      simp only [not_or] at hk
      obtain ⟨h1, h2, h3, h4, h5, h6, h7, h8, h9, h16, h17, h18, h19, h20, h21⟩ := hk
      simp [h1, h2, h3, h4, h5, h6, h7, h8, h9, h16, h17, h18, h19, h20, h21]
    simp only [not_or] at hk
    obtain ⟨h1, h2, h3, h4, h5, h6, h7, h8, h9, h16, h17, h18, h19, h20, h21⟩ := hk
    have HN := Lib.hid hne
    clear hne
    go_enter Try.func46, Try.ntmps46
    go_wp2
    all_goals go_ret
    all_goals exact ⟨none, 0, by rw [HN.out]; rfl, by rw [HN.out]; exact Rd.nil _ _, Below.refl _ _, fun _ => rfl, fun h => (h HN.out).elim, fun x hx => by cases hx⟩
#print axioms order_er
end Go.Proofs.Ytaipnbpefdcejaa
