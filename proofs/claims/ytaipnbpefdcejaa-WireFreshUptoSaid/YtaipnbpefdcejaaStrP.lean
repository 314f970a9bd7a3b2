/- Streams of frames in plain Lean. -/
import Derived.Test.YtaipnbpefdcejaaBey
set_option linter.unusedVariables false
namespace Go.Proofs.Ytaipnbpefdcejaa
open Go.RowKit
def okM (m : M) : Prop := VX m ∧ properM m ∧ (inM m).length ≤ 1048576
/-- Of frames one behind the other, with a cut one behind them, All answers just the whole ones. -/
theorem all_cut : ∀ (A : List M) (r : List UInt8) (ms : List M) (n : Nat) (c : Int), (∀ m ∈ A, okM m) → (r = [] ∨ ∃ y k, okM y ∧ k < (frameM y).length ∧ r = (frameM y).take k) → AllR (flatF A ++ r) ms n c →
    ms = A ∧ n = (flatF A).length ∧ ((r = [] ∧ c = 0) ∨ (r ≠ [] ∧ c = 210)) := by
  intro A
  induction A with
  | nil =>
    intro r ms n c _ hr h
    obtain ⟨rest, h1, h2, h3, h4⟩ := h
    cases ms with
    | nil =>
      have e1 : r = rest := by simpa [flatF] using h1
      subst e1
      refine ⟨rfl, by simpa [flatF] using h2, ?_⟩
      rcases h4 with h4 | ⟨h4, h5, x, k, h6⟩
      · exact .inl h4
      · rcases hr with hr | ⟨y, k2, hy, hk, hr⟩
        · exact (h4 hr).elim
        · rw [hr] at h6
          exact .inr ⟨h4, (dec_cut hy.2.2 hk h6).1⟩
    | cons x ms =>
      exfalso
      have hx := h3 x (by simp)
      have e1 : r = frameM x ++ (flatF ms ++ rest) := by simpa [flatF] using h1
      rcases hr with hr | ⟨y, k, hy, hk, hr⟩
      · rw [hr] at e1
        have := congrArg List.length e1
        have h7 := inM_pos x
        unfold frameM at this
        simp only [List.length_append, List.length_nil] at this
        omega
      · have e2 : frameM y ++ [] = frameM x ++ (flatF ms ++ rest ++ (frameM y).drop k) := by
          rw [List.append_nil, ← List.append_assoc, ← e1, hr, List.take_append_drop]
        have e3 := (frame_inj hy.1 hx.1 hy.2.1 hx.2.1 hy.2.2 hx.2.2 e2).1
        have e4 := congrArg List.length e1
        rw [hr, e3, List.length_append, List.length_take] at e4
        rw [e3] at hk
        omega
  | cons y A ih =>
    intro r ms n c hA hr h
    have hy := hA y (by simp)
    have e0 : flatF (y :: A) ++ r = frameM y ++ (flatF A ++ r) := by simp [flatF]
    rw [e0] at h
    obtain ⟨rest, h1, h2, h3, h4⟩ := h
    cases ms with
    | nil =>
      exfalso
      have e1 : frameM y ++ (flatF A ++ r) = rest := by simpa [flatF] using h1
      rcases h4 with ⟨h4, _⟩ | ⟨h4, h5, x, k, h6⟩
      · rw [h4] at e1
        have := congrArg List.length e1
        have h7 := inM_pos y
        unfold frameM at this
        simp only [List.length_append, List.length_nil] at this
        omega
      · rw [← e1] at h6
        exact h5 (dec_frame hy.1 hy.2.1 hy.2.2 h6).1
    | cons x ms =>
      have hx := h3 x (by simp)
      have e1 : frameM y ++ (flatF A ++ r) = frameM x ++ (flatF ms ++ rest) := by simpa [flatF] using h1
      obtain ⟨e2, e3⟩ := frame_inj hy.1 hx.1 hy.2.1 hx.2.1 hy.2.2 hx.2.2 e1
      obtain ⟨g1, g2, g3⟩ := ih r ms ((flatF ms).length) c (fun m hm => hA m (by simp [hm])) hr ⟨rest, e3, rfl, fun m hm => h3 m (by simp [hm]), h4⟩
      refine ⟨by rw [e2, g1], ?_, g3⟩
      rw [h2]
      show (flatF (x :: ms)).length = (flatF (y :: A)).length
      simp only [flatF, List.flatMap_cons, List.length_append] at g2 ⊢
      rw [← e2, g2]
theorem flat_take_succ (S : List M) (W : Nat) (h : W < S.length) : flatF (S.take (W + 1)) = flatF (S.take W) ++ frameM S[W] := by
  rw [take_snoc S W h, flatF_app]
  simp [flatF]
theorem flat_split (S : List M) (W : Nat) : flatF S = flatF (S.take W) ++ flatF (S.drop W) := by rw [← flatF_app, List.take_append_drop]
theorem flat_mono (S : List M) (i j : Nat) (h : i ≤ j) : (flatF (S.take i)).length ≤ (flatF (S.take j)).length := by
  have : S.take j = S.take i ++ (S.take j).drop i := by
    conv => lhs; rw [← List.take_append_drop i (S.take j)]
    rw [List.take_take, Nat.min_eq_left h]
  rw [this, flatF_app, List.length_append]
  omega
/-- What is ahead of a cut: the whole frames, and the beginning of the next. -/
theorem cut_form (S : List M) (W C : Nat) (hS : ∀ m ∈ S, okM m) (hW : W ≤ S.length) (h1 : (flatF (S.take W)).length ≤ C) (h2 : C ≤ (flatF S).length) (h3 : W = S.length ∨ C < (flatF (S.take (W + 1))).length) :
    ∃ r, (flatF S).take C = flatF (S.take W) ++ r ∧ (r = [] ∨ ∃ y k, okM y ∧ k < (frameM y).length ∧ r = (frameM y).take k) ∧ r.length = C - (flatF (S.take W)).length := by
  refine ⟨((flatF S).take C).drop (flatF (S.take W)).length, ?_, ?_, ?_⟩
  · conv => lhs; rw [← List.take_append_drop (flatF (S.take W)).length ((flatF S).take C)]
    rw [List.take_take, Nat.min_eq_left h1, flat_split S W, List.take_left]
  · rcases h3 with h3 | h3
    · left
      apply List.drop_eq_nil_of_le
      rw [List.length_take, h3, List.take_length]
      omega
    · by_cases hlt : W < S.length
      · right
        refine ⟨S[W], C - (flatF (S.take W)).length, hS _ (List.getElem_mem hlt), ?_, ?_⟩
        · rw [flat_take_succ S W hlt, List.length_append] at h3
          omega
        · rw [flat_split S W, List.take_append, List.take_of_length_le (l := flatF (S.take W)) h1, List.drop_left]
          rw [show S.drop W = S[W] :: S.drop (W + 1) from List.drop_eq_getElem_cons hlt]
          rw [flat_take_succ S W hlt, List.length_append] at h3
          show List.take _ (frameM S[W] ++ flatF (S.drop (W + 1))) = _
          rw [List.take_append_of_le_length (by omega)]
      · left
        apply List.drop_eq_nil_of_le
        have : W = S.length := by omega
        rw [List.length_take, this, List.take_length]
        omega
  · rw [List.length_drop, List.length_take]
    omega
open Classical in
/-- The messages that are sent: those with a frame. -/
noncomputable def sentL (ls : List (M × Ps)) : List (M × Ps) := ls.filter fun x => decide (okM x.1)
open Classical in
theorem sent_snoc (ls : List (M × Ps)) (j : Nat) (h : j < ls.length) : sentL (ls.take (j + 1)) = sentL (ls.take j) ++ (if okM ls[j].1 then [ls[j]] else []) := by
  unfold sentL
  rw [take_snoc ls j h, List.filter_append]
  congr 1
  by_cases hk : okM ls[j].1 <;> simp [hk]
theorem sent_ok (ls : List (M × Ps)) : ∀ x ∈ sentL ls, okM x.1 := by
  intro x hx
  unfold sentL at hx
  simpa using (List.mem_filter.1 hx).2
theorem sent_mem (ls : List (M × Ps)) : ∀ x ∈ sentL ls, x ∈ ls := by
  intro x hx
  unfold sentL at hx
  exact (List.mem_filter.1 hx).1
theorem enc_okM {m : M} (h : WfM m) : (okM m ∧ encA m = (frameM m, 0) ∧ 2 ≤ (frameM m).length) ∨ (¬ okM m ∧ (encA m).1 = []) := by
  rcases encA_cases m h with ⟨h1, h2⟩ | ⟨h1, h2, h3, h4⟩ | ⟨h1, h2, h3, _⟩
  · exact .inr ⟨fun h => h1 h.2.1, by rw [h2]⟩
  · exact .inl ⟨⟨VX.of h h1, h1, h2⟩, h3, h4⟩
  · exact .inr ⟨fun h => by have := h.2.2; omega, by rw [h3]⟩
theorem frame_room {m : M} (h : WfM m) (hp : properM m) (hl : (inM m).length ≤ 1048576) : (frameM m).length ≤ 2 * roomM m := by
  have h1 := room_le h hp
  have h2 := bytesU_le (inM m).length (by omega)
  unfold frameM
  rw [List.length_append]
  unfold roomM at h1 ⊢
  omega
/-- The ends of the frames. -/
def endsL (S : List M) : List Int := (List.range S.length).map fun i => ((flatF (S.take (i + 1))).length : Int)
theorem ends_snoc (S : List M) (m : M) : endsL (S ++ [m]) = endsL S ++ [((flatF (S ++ [m])).length : Int)] := by
  unfold endsL
  rw [List.length_append, List.length_singleton, List.range_succ, List.map_append]
  congr 1
  · apply List.map_congr_left
    intro i hi
    rw [List.mem_range] at hi
    rw [List.take_append_of_le_length (by omega)]
  · simp only [List.map_cons, List.map_nil]
    rw [List.take_of_length_le (by simp)]
theorem ends_len (S : List M) : (endsL S).length = S.length := by simp [endsL]
theorem ends_get (S : List M) (i : Nat) (h : i < S.length) : (endsL S)[i]'(by rw [ends_len]; exact h) = ((flatF (S.take (i + 1))).length : Int) := by simp [endsL]
#print axioms all_cut
end Go.Proofs.Ytaipnbpefdcejaa
