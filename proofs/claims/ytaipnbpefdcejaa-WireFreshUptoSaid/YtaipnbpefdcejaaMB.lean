/- Joined by wip/tools/merge.py out of: Eq8 Blank Order Msg Proper Named StEq StEq2 Enc. -/
import Derived.Test.YtaipnbpefdcejaaMA
/- The comparison of two arrays of eight numbers. -/
set_option linter.unusedVariables false
namespace Go.Proofs.Ytaipnbpefdcejaa
open Go.RowKit
def arr8 (x0 x1 x2 x3 x4 x5 x6 x7 : Int) : Value := .agg #[.int .i64 x0, .int .i64 x1, .int .i64 x2, .int .i64 x3, .int .i64 x4, .int .i64 x5, .int .i64 x6, .int .i64 x7]
theorem forIn_all {P : Program} (f : Nat → Bool) (g : Nat → Option Bool × Unit → Sem (ForInStep (Option Bool × Unit))) (w : World) : ∀ (l : List Nat), (∀ i ∈ l, (g i (none, ())).run P w = .ok (if f i then .yield (none, ()) else .done (some false, ())) w) →
    (forIn l ((none, ()) : Option Bool × Unit) g).run P w = .ok (if l.all f then (none, ()) else (some false, ())) w := by
  intro l
  induction l with
  | nil => intro _; simp
  | cons i l ih =>
    intro h
    rw [List.forIn_cons, Sem.run_bind, h i (by simp)]
    simp only [Result.andThen_ok, List.all_cons]
    by_cases hb : f i = true
    · simp only [hb, Bool.true_and, if_true]
      exact ih fun j hj => h j (List.mem_cons_of_mem _ hj)
    · simp [hb]
theorem eq8_d (d : Nat) (x0 x1 x2 x3 x4 x5 x6 x7 y0 y1 y2 y3 y4 y5 y6 y7 : Int) (w : World) :
    (Op.equalIn (d + 2) 37 (arr8 x0 x1 x2 x3 x4 x5 x6 x7) (arr8 y0 y1 y2 y3 y4 y5 y6 y7)).run Try.prog w =
      .ok (x0 == y0 && (x1 == y1 && (x2 == y2 && (x3 == y3 && (x4 == y4 && (x5 == y5 && (x6 == y6 && x7 == y7))))))) w := by
  have hu := Try.underlying37
  have h2 := Try.underlying2
  obtain ⟨i0, hi, hz0, hz1, hz2⟩ := info_parts (show (Try.prog.info? 2).map (fun i => (i.zero, i.size, i.bytes)) = some (some (.int .i64 0), 1, 8) by kernel_rfl)
  have hp : ∀ (w : World) (cs : Array Value) (k : Nat) (v : Value), cs[k]? = some v → (part 2 cs k).run Try.prog w = .ok v w := by
    intro w cs k v hv
    simp [part, Sem.run_bind, hv]
  have he : ∀ (w : World) (a b : Int), (Op.equalIn (d + 1) 2 (.int .i64 a) (.int .i64 b)).run Try.prog w = .ok (a == b) w := fun w a b => run_equalIn_int w d 2 .i64 .i64 a b h2
  have hs : ∀ w : World, (sizeOf 2).run Try.prog w = .ok 1 w := by
    intro w
    simp [sizeOf, typeInfo, hi, hz1]
  unfold arr8
  rw [Op.equalIn]
  simp only [Sem.run_bind, run_underlying hu, Result.andThen_ok, hs]
  generalize Op.equalIn (d + 1) = E at he ⊢
  simp only [Std.Legacy.Range.forIn_eq_forIn_range', Std.Legacy.Range.size]
  rw [show List.range' 0 ((8 - 0 + 1 - 1) / 1) = [0, 1, 2, 3, 4, 5, 6, 7] by decide]
  have hx := forIn_all (P := Try.prog) (fun i => match i with | 0 => x0 == y0 | 1 => x1 == y1 | 2 => x2 == y2 | 3 => x3 == y3 | 4 => x4 == y4 | 5 => x5 == y5 | 6 => x6 == y6 | _ => x7 == y7) (fun i __s => do
            let __do_lift ← part 2 #[Value.int IntKind.i64 x0, Value.int IntKind.i64 x1, Value.int IntKind.i64 x2, Value.int IntKind.i64 x3, Value.int IntKind.i64 x4, Value.int IntKind.i64 x5, Value.int IntKind.i64 x6, Value.int IntKind.i64 x7] (i * 1)
            let __do_lift_1 ← part 2 #[Value.int IntKind.i64 y0, Value.int IntKind.i64 y1, Value.int IntKind.i64 y2, Value.int IntKind.i64 y3, Value.int IntKind.i64 y4, Value.int IntKind.i64 y5, Value.int IntKind.i64 y6, Value.int IntKind.i64 y7] (i * 1)
            let __do_lift ← E 2 __do_lift __do_lift_1
            if (!__do_lift) = true then pure (ForInStep.done (some false, ())) else pure (ForInStep.yield (none, ()))) w [0, 1, 2, 3, 4, 5, 6, 7] (by
    have key : ∀ (k : Nat) (x y : Int), #[Value.int IntKind.i64 x0, Value.int IntKind.i64 x1, Value.int IntKind.i64 x2, Value.int IntKind.i64 x3, Value.int IntKind.i64 x4, Value.int IntKind.i64 x5, Value.int IntKind.i64 x6, Value.int IntKind.i64 x7][k]? = some (.int .i64 x) →
        #[Value.int IntKind.i64 y0, Value.int IntKind.i64 y1, Value.int IntKind.i64 y2, Value.int IntKind.i64 y3, Value.int IntKind.i64 y4, Value.int IntKind.i64 y5, Value.int IntKind.i64 y6, Value.int IntKind.i64 y7][k]? = some (.int .i64 y) →
        (do
            let __do_lift ← part 2 #[Value.int IntKind.i64 x0, Value.int IntKind.i64 x1, Value.int IntKind.i64 x2, Value.int IntKind.i64 x3, Value.int IntKind.i64 x4, Value.int IntKind.i64 x5, Value.int IntKind.i64 x6, Value.int IntKind.i64 x7] (k * 1)
            let __do_lift_1 ← part 2 #[Value.int IntKind.i64 y0, Value.int IntKind.i64 y1, Value.int IntKind.i64 y2, Value.int IntKind.i64 y3, Value.int IntKind.i64 y4, Value.int IntKind.i64 y5, Value.int IntKind.i64 y6, Value.int IntKind.i64 y7] (k * 1)
            let __do_lift ← E 2 __do_lift __do_lift_1
            if (!__do_lift) = true then pure (ForInStep.done (some false, ())) else pure (ForInStep.yield ((none, ()) : Option Bool × Unit)) : Sem (ForInStep (Option Bool × Unit))).run Try.prog w = .ok (if x == y then .yield (none, ()) else .done (some false, ())) w := by
      intro k x y h1 h2
      simp only [Sem.run_bind, Nat.mul_one, hp w _ k _ h1, hp w _ k _ h2, Result.andThen_ok, he]
      cases x == y <;> simp
    intro i hi
    simp only [List.mem_cons, List.not_mem_nil, or_false] at hi
    rcases hi with rfl | rfl | rfl | rfl | rfl | rfl | rfl | rfl
    · exact key 0 x0 y0 rfl rfl
    · exact key 1 x1 y1 rfl rfl
    · exact key 2 x2 y2 rfl rfl
    · exact key 3 x3 y3 rfl rfl
    · exact key 4 x4 y4 rfl rfl
    · exact key 5 x5 y5 rfl rfl
    · exact key 6 x6 y6 rfl rfl
    · exact key 7 x7 y7 rfl rfl)
  rw [hx]
  simp only [Result.andThen_ok, List.all_cons, List.all_nil, Bool.and_true]
  generalize (x0 == y0 && (x1 == y1 && (x2 == y2 && (x3 == y3 && (x4 == y4 && (x5 == y5 && (x6 == y6 && x7 == y7))))))) = c
  cases c <;> simp
end Go.Proofs.Ytaipnbpefdcejaa
/- The walk of blank. -/
set_option linter.unusedVariables false
namespace Go.Proofs.Ytaipnbpefdcejaa
open Go.RowKit
theorem eq8 (x0 x1 x2 x3 x4 x5 x6 x7 y0 y1 y2 y3 y4 y5 y6 y7 : Int) (w : World) :
    (Op.equalIn 9999 37 (.agg #[.int .i64 x0, .int .i64 x1, .int .i64 x2, .int .i64 x3, .int .i64 x4, .int .i64 x5, .int .i64 x6, .int .i64 x7]) (.agg #[.int .i64 y0, .int .i64 y1, .int .i64 y2, .int .i64 y3, .int .i64 y4, .int .i64 y5, .int .i64 y6, .int .i64 y7])).run Try.prog w =
      .ok (x0 == y0 && (x1 == y1 && (x2 == y2 && (x3 == y3 && (x4 == y4 && (x5 == y5 && (x6 == y6 && x7 == y7))))))) w := eq8_d 9997 x0 x1 x2 x3 x4 x5 x6 x7 y0 y1 y2 y3 y4 y5 y6 y7 w
def blankP (handle num ts id typ a0 a1 a2 a3 a4 a5 a6 a7 dec : Int) (nn nl nv : Nat) (mark : Int) (closed : Bool) (held kept waiting parts fwhere fcode fat code : Int) (schema query : ByteArray) (ni : Nat) : Prop :=
  (dec = 0 ∧ nn = 0 ∧ nl = 0 ∧ nv = 0) ∧ ((ts = 0 ∧ id = 0 ∧ typ = 0 ∧ a0 = 0 ∧ a1 = 0 ∧ a2 = 0 ∧ a3 = 0 ∧ a4 = 0 ∧ a5 = 0 ∧ a6 = 0 ∧ a7 = 0) ∧ (mark = 0 ∧ closed = false ∧ held = 0 ∧ kept = 0 ∧ waiting = 0 ∧ parts = 0) ∧ (fwhere = 0 ∧ fcode = 0 ∧ fat = 0)) ∧
    handle = 0 ∧ num = 0 ∧ code = 0 ∧ schema.toList = [] ∧ query.toList = [] ∧ ni = 0
set_option maxHeartbeats 4000000 in
set_option maxRecDepth 100000 in
theorem blank_any (kind handle num ts id typ a0 a1 a2 a3 a4 a5 a6 a7 dec : Int) (an : Option Addr) (nn cn : Nat) (al : Option Addr) (nl cl : Nat) (av : Option Addr) (nv cv : Nat) (mark : Int) (closed : Bool) (held kept waiting parts fwhere fcode fat code : Int) (schema query : ByteArray) (ai : Option Addr) (ni ci : Nat) (w : World) :
    Calls Try.prog 47 #[.agg #[.int .i64 kind, .int .i64 handle, .int .i64 num, .int .i64 ts, .int .u64 id, .int .i64 typ, .int .i64 a0, .int .i64 a1, .int .i64 a2, .int .i64 a3, .int .i64 a4, .int .i64 a5, .int .i64 a6, .int .i64 a7,
      .int .i64 dec, .slice an nn cn, .slice al nl cl, .slice av nv cv, .int .i64 mark, .bool closed, .int .i64 held, .int .i64 kept, .int .i64 waiting, .int .i64 parts, .int .i64 fwhere, .int .i64 fcode, .int .i64 fat, .int .i64 code, .string schema, .string query, .slice ai ni ci]] w
      fun e w' => ∃ b : Bool, e = .returned (.bool b) ∧ (b = true ↔ blankP handle num ts id typ a0 a1 a2 a3 a4 a5 a6 a7 dec nn nl nv mark closed held kept waiting parts fwhere fcode fat code schema query ni) ∧ Below w.heap.size w w' := by
  have heq8 := eq8
  go_enter Try.func47, Try.ntmps47
  go_wp2
  all_goals (go_ret; refine ⟨_, rfl, ?_, ?_⟩)
  all_goals first | (unfold blankP; simp_all; done) | (refine ⟨fun h => (Bool.false_ne_true h).elim, fun h => ?_⟩; unfold blankP at h; have := h.1.2.2.2; omega) | (exact ((Below.refl _ _).alloc (Nat.le_refl _) _).alloc (by simp) _) | (exact (((Below.refl _ _).alloc (Nat.le_refl _) _).alloc (by simp) _).drew) | skip
end Go.Proofs.Ytaipnbpefdcejaa
/- The walk of order: the method values of a kind, for the eraser, the writer and the reader. -/
set_option linter.unusedVariables false
namespace Go.Proofs.Ytaipnbpefdcejaa
open Go.RowKit
theorem mkf : ∀ (fn : Fn) (first cap : Array Value) (w : World), (Instr.makeFunc fn first cap).run Try.prog w = .ok (.func fn first cap) w := fun _ _ _ _ => rfl
/-- A method value of f. -/
def mf (f : Value) (s : String) : Value := .func (.method s) #[f] #[]
/-- The fields of a kind, as order names them. -/
def ordL (k : Int) : List String :=
  if k = 1 then ["sluice/wire.number"] else if k = 2 then ["sluice/wire.schema", "sluice/wire.query", "sluice/wire.number"] else if k = 3 then ["sluice/wire.handle", "sluice/wire.event"] else if k = 4 then ["sluice/wire.handle", "sluice/wire.number"] else
  if k = 5 ∨ k = 6 ∨ k = 7 ∨ k = 9 ∨ k = 18 then ["sluice/wire.handle"] else if k = 8 then ["sluice/wire.image"] else if k = 16 then ["sluice/wire.code"] else if k = 17 then ["sluice/wire.fault"] else
  if k = 19 then ["sluice/wire.handle", "sluice/wire.match"] else if k = 20 then ["sluice/wire.handle", "sluice/wire.sizes"] else if k = 21 then ["sluice/wire.handle", "sluice/wire.image"] else []
def OrdPost (f : Value) (k : Int) (w : World) (e : Ending) (w' : World) : Prop :=
  ∃ a c, e = .returned (.slice a (ordL k).length c) ∧ Rd w' a ((ordL k).map (mf f)) ∧ Below w.heap.size w w' ∧ (ordL k = [] → a = none) ∧ (ordL k ≠ [] → a ≠ none) ∧ ∀ x, a = some x → w.heap.size ≤ x.block
theorem ordPost_mk {f : Value} {k : Int} {w : World} {l : List String} (hl : ordL k = l) (hne : l ≠ []) (W : World) (hW : W = w.alloc (.cells (l.map (mf f)).toArray 79) ∨ W = (w.alloc (.cells (l.map (mf f)).toArray 79)).drew) :
    OrdPost f k w (.returned (.slice (some ⟨w.heap.size, 0, none⟩) l.length l.length)) W := by
  subst hl
  have h1 : Rd (w.alloc (.cells ((ordL k).map (mf f)).toArray 79)) (some ⟨w.heap.size, 0, none⟩) ((ordL k).map (mf f)) := (Blk.new w _ 79).rd
  have h2 : Below w.heap.size w (w.alloc (.cells ((ordL k).map (mf f)).toArray 79)) := (Below.refl _ _).alloc (Nat.le_refl _) _
  refine ⟨_, _, rfl, ?_, ?_, fun h => (hne h).elim, fun _ => by simp, fun x hx => by cases hx; exact Nat.le_refl _⟩
  · rcases hW with rfl | rfl
    · exact h1
    · exact h1
  · rcases hW with rfl | rfl
    · exact h2
    · exact h2.drew

set_option maxRecDepth 20000 in
set_option maxHeartbeats 4000000 in
theorem order_er (k : Int) (w : World) : Calls Try.prog 46 #[.int .i64 k, .iface 76 (.agg #[])] w (OrdPost (.iface 76 (.agg #[])) k w) := by
  have hmf := mkf
  by_cases hk : k = 1 ∨ k = 2 ∨ k = 3 ∨ k = 4 ∨ k = 5 ∨ k = 6 ∨ k = 7 ∨ k = 8 ∨ k = 9 ∨ k = 16 ∨ k = 17 ∨ k = 18 ∨ k = 19 ∨ k = 20 ∨ k = 21
  · rcases hk with rfl | rfl | rfl | rfl | rfl | rfl | rfl | rfl | rfl | rfl | rfl | rfl | rfl | rfl | rfl
    · go_enter Try.func46, Try.ntmps46
      go_wp2
      all_goals go_ret
      all_goals exact ordPost_mk rfl (by decide) _ (by first | exact .inl rfl | exact .inr rfl)
    · go_enter Try.func46, Try.ntmps46
      go_wp2
      go_region_held3 (fun _ => True) (trivial) (fail)
      all_goals go_wp2
      all_goals go_ret
      all_goals exact ordPost_mk rfl (by decide) _ (by first | exact .inl rfl | exact .inr rfl)
    · go_enter Try.func46, Try.ntmps46
      go_wp2
      go_region_held3 (fun _ => True) (trivial) (fail)
      all_goals go_wp2
      all_goals go_ret
      all_goals exact ordPost_mk rfl (by decide) _ (by first | exact .inl rfl | exact .inr rfl)
    · go_enter Try.func46, Try.ntmps46
      go_wp2
      go_region_held3 (fun _ => True) (trivial) (fail)
      all_goals go_wp2
      all_goals go_ret
      all_goals exact ordPost_mk rfl (by decide) _ (by first | exact .inl rfl | exact .inr rfl)
    · go_enter Try.func46, Try.ntmps46
      go_wp2
      all_goals go_ret
      all_goals exact ordPost_mk rfl (by decide) _ (by first | exact .inl rfl | exact .inr rfl)
    · go_enter Try.func46, Try.ntmps46
      go_wp2
      all_goals go_ret
      all_goals exact ordPost_mk rfl (by decide) _ (by first | exact .inl rfl | exact .inr rfl)
    · go_enter Try.func46, Try.ntmps46
      go_wp2
      all_goals go_ret
      all_goals exact ordPost_mk rfl (by decide) _ (by first | exact .inl rfl | exact .inr rfl)
    · go_enter Try.func46, Try.ntmps46
      go_wp2
      all_goals go_ret
      all_goals exact ordPost_mk rfl (by decide) _ (by first | exact .inl rfl | exact .inr rfl)
    · go_enter Try.func46, Try.ntmps46
      go_wp2
      all_goals go_ret
      all_goals exact ordPost_mk rfl (by decide) _ (by first | exact .inl rfl | exact .inr rfl)
    · go_enter Try.func46, Try.ntmps46
      go_wp2
      all_goals go_ret
      all_goals exact ordPost_mk rfl (by decide) _ (by first | exact .inl rfl | exact .inr rfl)
    · go_enter Try.func46, Try.ntmps46
      go_wp2
      all_goals go_ret
      all_goals exact ordPost_mk rfl (by decide) _ (by first | exact .inl rfl | exact .inr rfl)
    · go_enter Try.func46, Try.ntmps46
      go_wp2
      all_goals go_ret
      all_goals exact ordPost_mk rfl (by decide) _ (by first | exact .inl rfl | exact .inr rfl)
    · go_enter Try.func46, Try.ntmps46
      go_wp2
      go_region_held3 (fun _ => True) (trivial) (fail)
      all_goals go_wp2
      all_goals go_ret
      all_goals exact ordPost_mk rfl (by decide) _ (by first | exact .inl rfl | exact .inr rfl)
    · go_enter Try.func46, Try.ntmps46
      go_wp2
      go_region_held3 (fun _ => True) (trivial) (fail)
      all_goals go_wp2
      all_goals go_ret
      all_goals exact ordPost_mk rfl (by decide) _ (by first | exact .inl rfl | exact .inr rfl)
    · go_enter Try.func46, Try.ntmps46
      go_wp2
      go_region_held3 (fun _ => True) (trivial) (fail)
      all_goals go_wp2
      all_goals go_ret
      all_goals exact ordPost_mk rfl (by decide) _ (by first | exact .inl rfl | exact .inr rfl)
  · have hne : ordL k = [] := by
      unfold ordL
      simp only [not_or] at hk
      obtain ⟨h1, h2, h3, h4, h5, h6, h7, h8, h9, h16, h17, h18, h19, h20, h21⟩ := hk
      simp [h1, h2, h3, h4, h5, h6, h7, h8, h9, h16, h17, h18, h19, h20, h21]
    simp only [not_or] at hk
    obtain ⟨h1, h2, h3, h4, h5, h6, h7, h8, h9, h16, h17, h18, h19, h20, h21⟩ := hk
    have HN := Lib.hid hne
    clear hne
    go_enter Try.func46, Try.ntmps46
    go_wp2
    all_goals go_ret
    all_goals exact ⟨none, 0, by rw [HN.out]; rfl, by rw [HN.out]; exact Rd.nil _ _, Below.refl _ _, fun _ => rfl, fun h => (h HN.out).elim, fun x hx => by cases hx⟩
set_option maxRecDepth 20000 in
set_option maxHeartbeats 4000000 in
theorem order_wr (g : Nat) (k : Int) (w : World) : Calls Try.prog 46 #[.int .i64 k, .iface 84 (.pointer (some ⟨g, 0, none⟩))] w (OrdPost (.iface 84 (.pointer (some ⟨g, 0, none⟩))) k w) := by
  have hmf := mkf
  by_cases hk : k = 1 ∨ k = 2 ∨ k = 3 ∨ k = 4 ∨ k = 5 ∨ k = 6 ∨ k = 7 ∨ k = 8 ∨ k = 9 ∨ k = 16 ∨ k = 17 ∨ k = 18 ∨ k = 19 ∨ k = 20 ∨ k = 21
  · rcases hk with rfl | rfl | rfl | rfl | rfl | rfl | rfl | rfl | rfl | rfl | rfl | rfl | rfl | rfl | rfl
    · go_enter Try.func46, Try.ntmps46
      go_wp2
      all_goals go_ret
      all_goals exact ordPost_mk rfl (by decide) _ (by first | exact .inl rfl | exact .inr rfl)
    · go_enter Try.func46, Try.ntmps46
      go_wp2
      go_region_held3 (fun _ => True) (trivial) (fail)
      all_goals go_wp2
      all_goals go_ret
      all_goals exact ordPost_mk rfl (by decide) _ (by first | exact .inl rfl | exact .inr rfl)
    · go_enter Try.func46, Try.ntmps46
      go_wp2
      go_region_held3 (fun _ => True) (trivial) (fail)
      all_goals go_wp2
      all_goals go_ret
      all_goals exact ordPost_mk rfl (by decide) _ (by first | exact .inl rfl | exact .inr rfl)
    · go_enter Try.func46, Try.ntmps46
      go_wp2
      go_region_held3 (fun _ => True) (trivial) (fail)
      all_goals go_wp2
      all_goals go_ret
      all_goals exact ordPost_mk rfl (by decide) _ (by first | exact .inl rfl | exact .inr rfl)
    · go_enter Try.func46, Try.ntmps46
      go_wp2
      all_goals go_ret
      all_goals exact ordPost_mk rfl (by decide) _ (by first | exact .inl rfl | exact .inr rfl)
    · go_enter Try.func46, Try.ntmps46
      go_wp2
      all_goals go_ret
      all_goals exact ordPost_mk rfl (by decide) _ (by first | exact .inl rfl | exact .inr rfl)
    · go_enter Try.func46, Try.ntmps46
      go_wp2
      all_goals go_ret
      all_goals exact ordPost_mk rfl (by decide) _ (by first | exact .inl rfl | exact .inr rfl)
    · go_enter Try.func46, Try.ntmps46
      go_wp2
      all_goals go_ret
      all_goals exact ordPost_mk rfl (by decide) _ (by first | exact .inl rfl | exact .inr rfl)
    · go_enter Try.func46, Try.ntmps46
      go_wp2
      all_goals go_ret
      all_goals exact ordPost_mk rfl (by decide) _ (by first | exact .inl rfl | exact .inr rfl)
    · go_enter Try.func46, Try.ntmps46
      go_wp2
      all_goals go_ret
      all_goals exact ordPost_mk rfl (by decide) _ (by first | exact .inl rfl | exact .inr rfl)
    · go_enter Try.func46, Try.ntmps46
      go_wp2
      all_goals go_ret
      all_goals exact ordPost_mk rfl (by decide) _ (by first | exact .inl rfl | exact .inr rfl)
    · go_enter Try.func46, Try.ntmps46
      go_wp2
      all_goals go_ret
      all_goals exact ordPost_mk rfl (by decide) _ (by first | exact .inl rfl | exact .inr rfl)
    · go_enter Try.func46, Try.ntmps46
      go_wp2
      go_region_held3 (fun _ => True) (trivial) (fail)
      all_goals go_wp2
      all_goals go_ret
      all_goals exact ordPost_mk rfl (by decide) _ (by first | exact .inl rfl | exact .inr rfl)
    · go_enter Try.func46, Try.ntmps46
      go_wp2
      go_region_held3 (fun _ => True) (trivial) (fail)
      all_goals go_wp2
      all_goals go_ret
      all_goals exact ordPost_mk rfl (by decide) _ (by first | exact .inl rfl | exact .inr rfl)
    · go_enter Try.func46, Try.ntmps46
      go_wp2
      go_region_held3 (fun _ => True) (trivial) (fail)
      all_goals go_wp2
      all_goals go_ret
      all_goals exact ordPost_mk rfl (by decide) _ (by first | exact .inl rfl | exact .inr rfl)
  · have hne : ordL k = [] := by
      unfold ordL
      simp only [not_or] at hk
      obtain ⟨h1, h2, h3, h4, h5, h6, h7, h8, h9, h16, h17, h18, h19, h20, h21⟩ := hk
      simp [h1, h2, h3, h4, h5, h6, h7, h8, h9, h16, h17, h18, h19, h20, h21]
    simp only [not_or] at hk
    obtain ⟨h1, h2, h3, h4, h5, h6, h7, h8, h9, h16, h17, h18, h19, h20, h21⟩ := hk
    have HN := Lib.hid hne
    clear hne
    go_enter Try.func46, Try.ntmps46
    go_wp2
    all_goals go_ret
    all_goals exact ⟨none, 0, by rw [HN.out]; rfl, by rw [HN.out]; exact Rd.nil _ _, Below.refl _ _, fun _ => rfl, fun h => (h HN.out).elim, fun x hx => by cases hx⟩
set_option maxRecDepth 20000 in
set_option maxHeartbeats 4000000 in
theorem order_rd (g : Nat) (k : Int) (w : World) : Calls Try.prog 46 #[.int .i64 k, .iface 90 (.pointer (some ⟨g, 0, none⟩))] w (OrdPost (.iface 90 (.pointer (some ⟨g, 0, none⟩))) k w) := by
  have hmf := mkf
  by_cases hk : k = 1 ∨ k = 2 ∨ k = 3 ∨ k = 4 ∨ k = 5 ∨ k = 6 ∨ k = 7 ∨ k = 8 ∨ k = 9 ∨ k = 16 ∨ k = 17 ∨ k = 18 ∨ k = 19 ∨ k = 20 ∨ k = 21
  · rcases hk with rfl | rfl | rfl | rfl | rfl | rfl | rfl | rfl | rfl | rfl | rfl | rfl | rfl | rfl | rfl
    · go_enter Try.func46, Try.ntmps46
      go_wp2
      all_goals go_ret
      all_goals exact ordPost_mk rfl (by decide) _ (by first | exact .inl rfl | exact .inr rfl)
    · go_enter Try.func46, Try.ntmps46
      go_wp2
      go_region_held3 (fun _ => True) (trivial) (fail)
      all_goals go_wp2
      all_goals go_ret
      all_goals exact ordPost_mk rfl (by decide) _ (by first | exact .inl rfl | exact .inr rfl)
    · go_enter Try.func46, Try.ntmps46
      go_wp2
      go_region_held3 (fun _ => True) (trivial) (fail)
      all_goals go_wp2
      all_goals go_ret
      all_goals exact ordPost_mk rfl (by decide) _ (by first | exact .inl rfl | exact .inr rfl)
    · go_enter Try.func46, Try.ntmps46
      go_wp2
      go_region_held3 (fun _ => True) (trivial) (fail)
      all_goals go_wp2
      all_goals go_ret
      all_goals exact ordPost_mk rfl (by decide) _ (by first | exact .inl rfl | exact .inr rfl)
    · go_enter Try.func46, Try.ntmps46
      go_wp2
      all_goals go_ret
      all_goals exact ordPost_mk rfl (by decide) _ (by first | exact .inl rfl | exact .inr rfl)
    · go_enter Try.func46, Try.ntmps46
      go_wp2
      all_goals go_ret
      all_goals exact ordPost_mk rfl (by decide) _ (by first | exact .inl rfl | exact .inr rfl)
    · go_enter Try.func46, Try.ntmps46
      go_wp2
      all_goals go_ret
      all_goals exact ordPost_mk rfl (by decide) _ (by first | exact .inl rfl | exact .inr rfl)
    · go_enter Try.func46, Try.ntmps46
      go_wp2
      all_goals go_ret
      all_goals exact ordPost_mk rfl (by decide) _ (by first | exact .inl rfl | exact .inr rfl)
    · go_enter Try.func46, Try.ntmps46
      go_wp2
      all_goals go_ret
      all_goals exact ordPost_mk rfl (by decide) _ (by first | exact .inl rfl | exact .inr rfl)
    · go_enter Try.func46, Try.ntmps46
      go_wp2
      all_goals go_ret
      all_goals exact ordPost_mk rfl (by decide) _ (by first | exact .inl rfl | exact .inr rfl)
    · go_enter Try.func46, Try.ntmps46
      go_wp2
      all_goals go_ret
      all_goals exact ordPost_mk rfl (by decide) _ (by first | exact .inl rfl | exact .inr rfl)
    · go_enter Try.func46, Try.ntmps46
      go_wp2
      all_goals go_ret
      all_goals exact ordPost_mk rfl (by decide) _ (by first | exact .inl rfl | exact .inr rfl)
    · go_enter Try.func46, Try.ntmps46
      go_wp2
      go_region_held3 (fun _ => True) (trivial) (fail)
      all_goals go_wp2
      all_goals go_ret
      all_goals exact ordPost_mk rfl (by decide) _ (by first | exact .inl rfl | exact .inr rfl)
    · go_enter Try.func46, Try.ntmps46
      go_wp2
      go_region_held3 (fun _ => True) (trivial) (fail)
      all_goals go_wp2
      all_goals go_ret
      all_goals exact ordPost_mk rfl (by decide) _ (by first | exact .inl rfl | exact .inr rfl)
    · go_enter Try.func46, Try.ntmps46
      go_wp2
      go_region_held3 (fun _ => True) (trivial) (fail)
      all_goals go_wp2
      all_goals go_ret
      all_goals exact ordPost_mk rfl (by decide) _ (by first | exact .inl rfl | exact .inr rfl)
  · have hne : ordL k = [] := by
      unfold ordL
      simp only [not_or] at hk
      obtain ⟨h1, h2, h3, h4, h5, h6, h7, h8, h9, h16, h17, h18, h19, h20, h21⟩ := hk
      simp [h1, h2, h3, h4, h5, h6, h7, h8, h9, h16, h17, h18, h19, h20, h21]
    simp only [not_or] at hk
    obtain ⟨h1, h2, h3, h4, h5, h6, h7, h8, h9, h16, h17, h18, h19, h20, h21⟩ := hk
    have HN := Lib.hid hne
    clear hne
    go_enter Try.func46, Try.ntmps46
    go_wp2
    all_goals go_ret
    all_goals exact ⟨none, 0, by rw [HN.out]; rfl, by rw [HN.out]; exact Rd.nil _ _, Below.refl _ _, fun _ => rfl, fun h => (h HN.out).elim, fun x hx => by cases hx⟩
end Go.Proofs.Ytaipnbpefdcejaa
/- A message as plain data; its cells; what erasing a field does. -/
set_option linter.unusedVariables false
namespace Go.Proofs.Ytaipnbpefdcejaa
open Go.RowKit
/-- A message. -/
structure M where
  kind : Int
  handle : Int
  num : Int
  ts : Int
  id : Int
  typ : Int
  a0 : Int
  a1 : Int
  a2 : Int
  a3 : Int
  a4 : Int
  a5 : Int
  a6 : Int
  a7 : Int
  dec : Int
  names : List (Int × Int)
  lens : List Int
  vals : List (Bool × Int)
  mark : Int
  closed : Bool
  held : Int
  kept : Int
  waiting : Int
  parts : Int
  fwhere : Int
  fcode : Int
  fat : Int
  code : Int
  schema : ByteArray
  query : ByteArray
  image : List UInt8
/-- Where its lists lie. -/
structure Ps where
  an : Option Addr
  cn : Nat
  al : Option Addr
  cl : Nat
  av : Option Addr
  cv : Nat
  ai : Option Addr
  ci : Nat
def cellsM (m : M) (p : Ps) : List Value :=
  [.int .i64 m.kind, .int .i64 m.handle, .int .i64 m.num, .int .i64 m.ts, .int .u64 m.id, .int .i64 m.typ, .int .i64 m.a0, .int .i64 m.a1, .int .i64 m.a2, .int .i64 m.a3, .int .i64 m.a4, .int .i64 m.a5, .int .i64 m.a6, .int .i64 m.a7, .int .i64 m.dec, .slice p.an m.names.length p.cn, .slice p.al m.lens.length p.cl, .slice p.av m.vals.length p.cv, .int .i64 m.mark, .bool m.closed, .int .i64 m.held, .int .i64 m.kept, .int .i64 m.waiting, .int .i64 m.parts, .int .i64 m.fwhere, .int .i64 m.fcode, .int .i64 m.fat, .int .i64 m.code, .string m.schema, .string m.query, .slice p.ai m.image.length p.ci]
def valM (m : M) (p : Ps) : Value := .agg (cellsM m p).toArray
theorem cellsM_len (m : M) (p : Ps) : (cellsM m p).length = 31 := rfl

def eraseM (s : String) (m : M) : M :=
  if s = "sluice/wire.number" then { m with num := 0 } else
  if s = "sluice/wire.handle" then { m with handle := 0 } else
  if s = "sluice/wire.code" then { m with code := 0 } else
  if s = "sluice/wire.schema" then { m with schema := ByteArray.empty } else
  if s = "sluice/wire.query" then { m with query := ByteArray.empty } else
  if s = "sluice/wire.image" then { m with image := [] } else
  if s = "sluice/wire.event" then { m with ts := 0, id := 0, typ := 0, a0 := 0, a1 := 0, a2 := 0, a3 := 0, a4 := 0, a5 := 0, a6 := 0, a7 := 0 } else
  if s = "sluice/wire.match" then { m with dec := 0, names := [], lens := [], vals := [] } else
  if s = "sluice/wire.sizes" then { m with mark := 0, closed := false, held := 0, kept := 0, waiting := 0, parts := 0 } else
  if s = "sluice/wire.fault" then { m with fwhere := 0, fcode := 0, fat := 0 } else m
def eraseP (s : String) (p : Ps) : Ps :=
  if s = "sluice/wire.image" then { p with ai := none, ci := 0 } else
  if s = "sluice/wire.match" then { p with an := none, cn := 0, al := none, cl := 0, av := none, cv := 0 } else p
/-- The block holds the message with the field erased. -/
def ErasedM (s : String) (g : Nat) (m : M) (p : Ps) (w : World) (e : Ending) (w' : World) : Prop := Erased g (cellsM (eraseM s m) (eraseP s p)) w e w'
theorem erm_number (g : Nat) (m : M) (p : Ps) (w : World) (h : Blk w g 50 (cellsM m p)) : Calls Try.prog 89 #[.agg #[], .pointer (some ⟨g, 0, none⟩)] w (ErasedM "sluice/wire.number" g m p w) := er_number g _ w (cellsM_len m p) h
theorem erm_handle (g : Nat) (m : M) (p : Ps) (w : World) (h : Blk w g 50 (cellsM m p)) : Calls Try.prog 86 #[.agg #[], .pointer (some ⟨g, 0, none⟩)] w (ErasedM "sluice/wire.handle" g m p w) := er_handle g _ w (cellsM_len m p) h
theorem erm_code (g : Nat) (m : M) (p : Ps) (w : World) (h : Blk w g 50 (cellsM m p)) : Calls Try.prog 83 #[.agg #[], .pointer (some ⟨g, 0, none⟩)] w (ErasedM "sluice/wire.code" g m p w) := er_code g _ w (cellsM_len m p) h
theorem erm_schema (g : Nat) (m : M) (p : Ps) (w : World) (h : Blk w g 50 (cellsM m p)) : Calls Try.prog 91 #[.agg #[], .pointer (some ⟨g, 0, none⟩)] w (ErasedM "sluice/wire.schema" g m p w) := er_schema g _ w (cellsM_len m p) h
theorem erm_query (g : Nat) (m : M) (p : Ps) (w : World) (h : Blk w g 50 (cellsM m p)) : Calls Try.prog 90 #[.agg #[], .pointer (some ⟨g, 0, none⟩)] w (ErasedM "sluice/wire.query" g m p w) := er_query g _ w (cellsM_len m p) h
theorem erm_image (g : Nat) (m : M) (p : Ps) (w : World) (h : Blk w g 50 (cellsM m p)) : Calls Try.prog 87 #[.agg #[], .pointer (some ⟨g, 0, none⟩)] w (ErasedM "sluice/wire.image" g m p w) := er_image g _ w (cellsM_len m p) h
theorem erm_event (g : Nat) (m : M) (p : Ps) (w : World) (h : Blk w g 50 (cellsM m p)) : Calls Try.prog 84 #[.agg #[], .pointer (some ⟨g, 0, none⟩)] w (ErasedM "sluice/wire.event" g m p w) := er_event g _ w (cellsM_len m p) h
theorem erm_match (g : Nat) (m : M) (p : Ps) (w : World) (h : Blk w g 50 (cellsM m p)) : Calls Try.prog 88 #[.agg #[], .pointer (some ⟨g, 0, none⟩)] w (ErasedM "sluice/wire.match" g m p w) := er_match g _ w (cellsM_len m p) h
theorem erm_sizes (g : Nat) (m : M) (p : Ps) (w : World) (h : Blk w g 50 (cellsM m p)) : Calls Try.prog 92 #[.agg #[], .pointer (some ⟨g, 0, none⟩)] w (ErasedM "sluice/wire.sizes" g m p w) := er_sizes g _ w (cellsM_len m p) h
theorem erm_fault (g : Nat) (m : M) (p : Ps) (w : World) (h : Blk w g 50 (cellsM m p)) : Calls Try.prog 85 #[.agg #[], .pointer (some ⟨g, 0, none⟩)] w (ErasedM "sluice/wire.fault" g m p w) := er_fault g _ w (cellsM_len m p) h
/-- The ten names. -/
def tenL : List String := ["sluice/wire.number", "sluice/wire.handle", "sluice/wire.code", "sluice/wire.schema", "sluice/wire.query", "sluice/wire.image", "sluice/wire.event", "sluice/wire.match", "sluice/wire.sizes", "sluice/wire.fault"]
theorem ordL_ten (k : Int) : ∀ s ∈ ordL k, s ∈ tenL := by
  unfold ordL
  repeat' split
  all_goals (intro s hs; simp at hs; try (rcases hs with rfl | rfl | rfl); try (rcases hs with rfl | rfl); try (subst hs))
  all_goals simp [tenL]
def blankM (m : M) : Prop := blankP m.handle m.num m.ts m.id m.typ m.a0 m.a1 m.a2 m.a3 m.a4 m.a5 m.a6 m.a7 m.dec m.names.length m.lens.length m.vals.length m.mark m.closed m.held m.kept m.waiting m.parts m.fwhere m.fcode m.fat m.code m.schema m.query m.image.length
theorem blank_m (m : M) (p : Ps) (w : World) : Calls Try.prog 47 #[valM m p] w fun e w' => ∃ b : Bool, e = .returned (.bool b) ∧ (b = true ↔ blankM m) ∧ Below w.heap.size w w' :=
  blank_any m.kind m.handle m.num m.ts m.id m.typ m.a0 m.a1 m.a2 m.a3 m.a4 m.a5 m.a6 m.a7 m.dec p.an m.names.length p.cn p.al m.lens.length p.cl p.av m.vals.length p.cv m.mark m.closed m.held m.kept m.waiting m.parts m.fwhere m.fcode m.fat m.code m.schema m.query p.ai m.image.length p.ci w
end Go.Proofs.Ytaipnbpefdcejaa
/- The walk of the program's Proper. -/
set_option linter.unusedVariables false
namespace Go.Proofs.Ytaipnbpefdcejaa
open Go.RowKit
def vcells (l : List (Bool × Int)) : List Value := l.flatMap fun v => [.bool v.1, .int .i64 v.2]
/-- The lists of a message read as they are. -/
def ncells (l : List (Int × Int)) : List Value := l.flatMap fun v => [.int .i64 v.1, .int .u64 v.2]
def zcells (l : List Int) : List Value := l.map fun x => .int .i64 x
def MRd (w : World) (m : M) (p : Ps) : Prop := Rd w p.an (ncells m.names) ∧ Rd w p.al (zcells m.lens) ∧ Rd w p.av (vcells m.vals) ∧ Rd w p.ai (m.image.map B)
def cleanV (l : List (Bool × Int)) : Prop := ∀ v ∈ l, v.1 = false → v.2 = 0
theorem Rd.vat {w : World} {a : Option Addr} {l : List (Bool × Int)} (h : Rd w a (vcells l)) (i : Nat) (hi : i < l.length) :
    ∃ b off, a = some ⟨b, off, none⟩ ∧ w.cell? ⟨b, off + i * 2, none⟩ = some (.bool l[i].1) ∧ w.cell? ⟨b, off + i * 2 + 1, none⟩ = some (.int .i64 l[i].2) := by
  have hg : ∀ (l : List (Bool × Int)) (i : Nat) (hi : i < l.length), (vcells l)[i * 2]? = some (.bool l[i].1) ∧ (vcells l)[i * 2 + 1]? = some (.int .i64 l[i].2) := by
    intro l
    induction l with
    | nil => intro i hi; simp at hi
    | cons v l ih =>
      intro i hi
      cases i with
      | zero => exact ⟨rfl, rfl⟩
      | succ i =>
        have := ih i (by simpa using hi)
        rw [show (i + 1) * 2 = (i * 2 + 1) + 1 by omega]
        exact this
  obtain ⟨g1, g2⟩ := hg l i hi
  rcases h with h | ⟨b, off, rfl, hc⟩
  · rw [h] at g1; cases g1
  · exact ⟨b, off, rfl, hc _ _ g1, hc _ _ g2⟩
theorem meas_lt {q k : Nat} (h : q < k) : k - (intOf (.int .i64 ((q : Int) + 1))).toNat < k - (intOf (.int .i64 (q : Int))).toNat := by
  simp [intOf]
  omega
/-- Is it a message with just the fields of its kind? -/
def properM (m : M) : Prop := 0 ≤ m.handle ∧ cleanV m.vals ∧ ordL m.kind ≠ [] ∧ blankM ((ordL m.kind).foldl (fun m s => eraseM s m) m)
def PrPost (m : M) (w : World) (e : Ending) (w' : World) : Prop := ∃ b : Bool, e = .returned (.bool b) ∧ (b = true ↔ properM m) ∧ Below w.heap.size w w'
theorem ordL_len3 (k : Int) : (ordL k).length ≤ 3 := by
  unfold ordL
  repeat' split
  all_goals simp
theorem Rd.grown {w w' : World} {a : Option Addr} {vs : List Value} {g : Nat} (h : Rd w a vs) (hg : w.grownBy w' (some g)) (hne : ∀ b off, a = some ⟨b, off, none⟩ → b ≠ g) : Rd w' a vs := by
  rcases h with rfl | ⟨b, off, rfl, hc⟩
  · exact .inl rfl
  · refine .inr ⟨b, off, rfl, fun i u hu => ?_⟩
    have h1 := hc i u hu
    rw [World.cell?_of_block (w := w) (hg.block b (World.block_lt_of_cell? w _ h1) (fun e => hne b off rfl (Option.some.inj e)))]
    exact h1
theorem Blk.whole {w : World} {g : Nat} {t : TypeId} {cs : List Value} (h : Blk w g t cs) : w.rangeAt g 0 cs := by
  have := h.range 0 cs.length (by omega)
  simpa using this
theorem wpList_load_midg {P : Program} {ops : Array Oper} {rest : List Oper} {op : Oper} {a : Act} {w : World} {Q : Exit → Act → World → Prop} (hw : Region.wanted op (yielded ops a.tmps) = true) (ty : TypeId) (x : Operand) (ho : op.op = .load ty x)
    (b o : Nat) (hx : a.eval x = .pointer (some ⟨b, o, none⟩)) (cs : List Value) (d : TypeDesc) (hc : w.rangeAt b o cs)
    (hu : P.underlying ty = some d) (hd : d.isRow = true) (hi : (P.info? ty).map (·.size) = some cs.length)
    (h : wpList P ops Q rest (a.put op.dst (.agg cs.toArray)) w) : wpList P ops Q (op :: rest) a w :=
  wpList_step fun K hK => by
    rw [if_pos hw]
    exact wp_load_mid ty x ho b o hx cs d hc hu hd hi (hK _ _ h)
def foldM (l : List String) (m : M) : M := l.foldl (fun m s => eraseM s m) m
def foldP (l : List String) (p : Ps) : Ps := l.foldl (fun p s => eraseP s p) p
theorem foldM_snoc {L : List String} {j : Nat} (h : j < L.length) (m : M) : foldM (L.take (j + 1)) m = eraseM L[j] (foldM (L.take j) m) := by
  unfold foldM
  rw [List.take_succ_eq_append_getElem h, List.foldl_append]
  rfl
theorem foldP_snoc {L : List String} {j : Nat} (h : j < L.length) (p : Ps) : foldP (L.take (j + 1)) p = eraseP L[j] (foldP (L.take j) p) := by
  unfold foldP
  rw [List.take_succ_eq_append_getElem h, List.foldl_append]
  rfl
set_option maxHeartbeats 8000000 in
set_option maxRecDepth 20000 in
theorem proper_any (m : M) (p : Ps) (w : World) (hr : MRd w m p) (hmax : m.vals.length ≤ 1073741824) :
    Calls Try.prog 25 #[valM m p] w (PrPost m w) := by
  unfold valM cellsM
  go_enter Try.func25, Try.ntmps25
  by_cases h0 : m.handle < 0
  · go_wp2_with fail
    go_ret
    refine ⟨false, rfl, ⟨fun h => (Bool.false_ne_true h).elim, fun h => by have := h.1; omega⟩, ?_⟩
    exact (Below.refl _ _).alloc (Nat.le_refl _) _
  · go_wp2_with fail
    obtain ⟨w1, hw1⟩ : ∃ w1, w1 = w.alloc (.cells (cellsM m p).toArray 50) := ⟨_, rfl⟩
    have hb1 : Below w.heap.size w w1 := by rw [hw1]; exact (Below.refl _ _).alloc (Nat.le_refl _) _
    have hk1 : Blk w1 w.heap.size 50 (cellsM m p) := by rw [hw1]; exact Blk.new w _ 50
    have hv1 := hr.2.2.1.below hb1
    obtain ⟨g, hg⟩ : ∃ g, g = w.heap.size := ⟨_, rfl⟩
    have hgl : g < w1.heap.size := by rw [hg]; exact hk1.lt
    rw [← hg] at hk1
    unfold cellsM at hw1
    rw [← hw1, ← hg]
    obtain ⟨nv, hnv⟩ : ∃ nv, nv = m.vals.length := ⟨_, rfl⟩
    rw [← hnv] at hmax ⊢
    have HNV := Lib.hid hnv
    have HG := Lib.hid hg
    have HK1 := Lib.hid hk1
    have HB1 := Lib.hid hb1
    clear hw1 hnv hg hk1 hb1
    go_loopw [16] (fun i wr => ∃ k : Nat, k ≤ nv ∧ i = .int .i64 (k : Int) ∧ cleanV (m.vals.take k) ∧ Below w1.heap.size w1 wr) (fun i _ => nv - (intOf i).toNat)
    case atStart => exact ⟨0, Nat.zero_le _, rfl, (fun v hv => by simp at hv), Below.refl _ _⟩
    case round =>
      obtain ⟨k, hk, rfl, hcl, hbr⟩ := hrel
      by_cases hlt : k < nv
      · have hkl : k < m.vals.length := by rw [← HNV.out]; exact hlt
        obtain ⟨b, off, hav, hc1, hc2⟩ := (hv1.below hbr).vat k hkl
        have hlt' : (k : Int) < nv := by omega
        have hst : m.vals.take (k + 1) = m.vals.take k ++ [m.vals[k]] := by rw [List.take_succ_eq_append_getElem hkl]
        obtain ⟨⟨kn, x⟩, hx⟩ : ∃ v, v = m.vals[k] := ⟨_, rfl⟩
        rw [← hx] at hc1 hc2 hst
        dsimp only at hc1 hc2
        have HST := Lib.hid hst
        have HX := Lib.hid hx
        have HCL := Lib.hid hcl
        have hclean : (kn = false → x = 0) → cleanV (m.vals.take (k + 1)) := fun h v hv => by
          rw [HST.out] at hv
          rcases List.mem_append.1 hv with hv | hv
          · exact HCL.out v hv
          · simp at hv; subst hv; exact h
        have HC := Lib.hid hclean
        have HM := Lib.hid (meas_lt hlt)
        clear hst hx hcl hclean
        rw [hav]
        cases kn
        · by_cases hx0 : x = 0
          · subst hx0
            go_wp2
            go_roundw
            case rel => exact ⟨k + 1, by omega, by go_num, HC.out (fun _ => rfl), (hbr.alloc hbr.size _)⟩
            case measure => exact HM.out
          · have hxx : (x != 0) = true := by simp [hx0]
            have hbb := hbr.alloc hbr.size (.cells #[.bool false, .int .i64 x] 74)
            have HBB := Lib.hid hbb
            clear hbb
            go_wp2
            go_ret
            refine ⟨false, ret_val rfl, ⟨fun h => (Bool.false_ne_true h).elim, fun h => ?_⟩, HB1.out.trans (HBB.out.mono HB1.out.size)⟩
            exact (hx0 (h.2.1 (false, x) (by rw [HX.out]; exact List.getElem_mem hkl) rfl)).elim
        · go_wp2
          go_roundw
          case rel => exact ⟨k + 1, by omega, by go_num, HC.out (fun h => by cases h), (hbr.alloc hbr.size _)⟩
          case measure => exact HM.out
      · have hke : k = nv := by omega
        have hlt' : ¬ (k : Int) < nv := by omega
        have hclA : cleanV m.vals := by
          have e : m.vals.take k = m.vals := List.take_of_length_le (by rw [← HNV.out]; omega)
          rw [e] at hcl
          exact hcl
        have hk2 := HK1.out.below hbr
        have hb2 := HB1.out.trans (hbr.mono HB1.out.size)
        have HCL := Lib.hid hclA
        have HB2 := Lib.hid hb2
        clear hcl hclA hb2 hke hk hlt
        have hk3 := hk2.alloc (.cells #[] 76)
        have hc0 := hk3.cell 0 (by rw [cellsM_len]; omega)
        have hc0' : (wr.alloc (.cells #[] 76)).cell? ⟨g, 0, none⟩ = some (.int .i64 m.kind) := hc0
        have hal : Below wr.heap.size wr (wr.alloc (.cells #[] 76)) := (Below.refl _ _).alloc (Nat.le_refl _) _
        have HK3 := Lib.hid hk3
        clear hc0 hk2 hk3
        go_wp2_with fail
        refine (order_er m.kind _).mono ?_
        rintro e w2 ⟨al, cl, rfl, hrl, hbl, hn1, hn2, hfr⟩
        obtain ⟨L, hL⟩ : ∃ L, L = ordL m.kind := ⟨_, rfl⟩
        rw [← hL] at hrl hn1 hn2 ⊢
        obtain ⟨nl, hnl⟩ : ∃ n, n = L.length := ⟨_, rfl⟩
        rw [← hnl]
        have HL := Lib.hid hL
        have HNL := Lib.hid hnl
        have hk4 := HK3.out.below hbl
        have hb4 := HB2.out.trans ((hal.trans (hbl.mono hal.size)).mono HB2.out.size)
        have hnl3 : nl ≤ 3 := by
          rw [hnl, hL]
          exact ordL_len3 _
        have HTEN := Lib.hid (show ∀ s ∈ L, s ∈ tenL by rw [hL]; exact ordL_ten m.kind)
        have hgne : ∀ b off, al = some ⟨b, off, none⟩ → b ≠ g := fun b off e => by have h1 := hfr _ e; have h2 := HK3.out.lt; dsimp only at h1; omega
        have HGN := Lib.hid hgne
        clear hL hnl hc0' hal hbl hfr hgne
        obtain ⟨W2, hW2⟩ : ∃ W2, W2 = w2 := ⟨_, rfl⟩
        rw [← hW2] at hrl hk4 hb4 ⊢
        clear hW2
        go_wp2_with fail
        go_loopw [36] (fun i wr => ∃ j : Nat, j ≤ nl ∧ i = .int .i64 (j : Int) ∧ Blk wr g 50 (cellsM (foldM (L.take j) m) (foldP (L.take j) p)) ∧ Rd wr al (L.map (mf (.iface 76 (.agg #[])))) ∧ Below w.heap.size w wr) (fun i _ => nl - (intOf i).toNat)
        case atStart => exact ⟨0, Nat.zero_le _, rfl, hk4, hrl, hb4⟩
        case round =>
          obtain ⟨j, hj, rfl, hkb, hrl, hbw⟩ := hrel
          by_cases hlt : j < nl
          · have hjl : j < L.length := by rw [← HNL.out]; exact hlt
            have hlt' : (j : Int) < nl := by omega
            obtain ⟨b, off, rfl, hc⟩ := hrl.cells (by intro h0; have := congrArg List.length h0; simp at this; rw [this] at hjl; simp at hjl)
            have hcj := hc j (by simpa using hjl)
            rw [List.getElem_map, mf] at hcj
            have hfm := foldM_snoc hjl m
            have hfp := foldP_snoc hjl p
            obtain ⟨s, hs⟩ : ∃ s, s = L[j] := ⟨_, rfl⟩
            have hten := HTEN.out s (by rw [hs]; exact List.getElem_mem hjl)
            rw [← hs] at hcj hfm hfp
            have HFM := Lib.hid hfm
            have HFP := Lib.hid hfp
            have HRL := Lib.hid hrl
            have HBW := Lib.hid hbw
            have HME := Lib.hid (meas_lt hlt)
            clear hc hs hfm hfp hrl hbw hb4 hk4
            have hjn : j + 1 ≤ nl := hlt
            have hgw : w.heap.size ≤ g := by rw [HG.out]; exact Nat.le_refl _
            obtain ⟨m', hm'⟩ : ∃ m', m' = foldM (L.take j) m := ⟨_, rfl⟩
            obtain ⟨p', hp'⟩ : ∃ p', p' = foldP (L.take j) p := ⟨_, rfl⟩
            rw [← hm', ← hp'] at hkb
            have HM' := Lib.hid hm'
            have HP' := Lib.hid hp'
            clear hm' hp'
            simp only [tenL, List.mem_cons, List.not_mem_nil, or_false] at hten
            rcases hten with rfl | rfl | rfl | rfl | rfl | rfl | rfl | rfl | rfl | rfl
            · go_wp2_with fail
              refine (erm_number g m' p' wr hkb).mono ?_
              rintro e w3 ⟨rfl, hk5, hg5⟩
              have hb5 := HBW.out.grown hg5 HBW.out.size (fun x hx => by cases hx; exact hgw)
              have hr5 := HRL.out.grown hg5 HGN.out
              have HK5 := Lib.hid hk5
              clear hk5 hg5
              go_wp2
              go_roundw
              case rel => exact ⟨j + 1, hjn, by go_num, by rw [HFM.out, HFP.out, ← HM'.out, ← HP'.out]; exact HK5.out, hr5, hb5⟩
              case measure => exact HME.out
            · go_wp2_with fail
              refine (erm_handle g m' p' wr hkb).mono ?_
              rintro e w3 ⟨rfl, hk5, hg5⟩
              have hb5 := HBW.out.grown hg5 HBW.out.size (fun x hx => by cases hx; exact hgw)
              have hr5 := HRL.out.grown hg5 HGN.out
              have HK5 := Lib.hid hk5
              clear hk5 hg5
              go_wp2
              go_roundw
              case rel => exact ⟨j + 1, hjn, by go_num, by rw [HFM.out, HFP.out, ← HM'.out, ← HP'.out]; exact HK5.out, hr5, hb5⟩
              case measure => exact HME.out
            · go_wp2_with fail
              refine (erm_code g m' p' wr hkb).mono ?_
              rintro e w3 ⟨rfl, hk5, hg5⟩
              have hb5 := HBW.out.grown hg5 HBW.out.size (fun x hx => by cases hx; exact hgw)
              have hr5 := HRL.out.grown hg5 HGN.out
              have HK5 := Lib.hid hk5
              clear hk5 hg5
              go_wp2
              go_roundw
              case rel => exact ⟨j + 1, hjn, by go_num, by rw [HFM.out, HFP.out, ← HM'.out, ← HP'.out]; exact HK5.out, hr5, hb5⟩
              case measure => exact HME.out
            · go_wp2_with fail
              refine (erm_schema g m' p' wr hkb).mono ?_
              rintro e w3 ⟨rfl, hk5, hg5⟩
              have hb5 := HBW.out.grown hg5 HBW.out.size (fun x hx => by cases hx; exact hgw)
              have hr5 := HRL.out.grown hg5 HGN.out
              have HK5 := Lib.hid hk5
              clear hk5 hg5
              go_wp2
              go_roundw
              case rel => exact ⟨j + 1, hjn, by go_num, by rw [HFM.out, HFP.out, ← HM'.out, ← HP'.out]; exact HK5.out, hr5, hb5⟩
              case measure => exact HME.out
            · go_wp2_with fail
              refine (erm_query g m' p' wr hkb).mono ?_
              rintro e w3 ⟨rfl, hk5, hg5⟩
              have hb5 := HBW.out.grown hg5 HBW.out.size (fun x hx => by cases hx; exact hgw)
              have hr5 := HRL.out.grown hg5 HGN.out
              have HK5 := Lib.hid hk5
              clear hk5 hg5
              go_wp2
              go_roundw
              case rel => exact ⟨j + 1, hjn, by go_num, by rw [HFM.out, HFP.out, ← HM'.out, ← HP'.out]; exact HK5.out, hr5, hb5⟩
              case measure => exact HME.out
            · go_wp2_with fail
              refine (erm_image g m' p' wr hkb).mono ?_
              rintro e w3 ⟨rfl, hk5, hg5⟩
              have hb5 := HBW.out.grown hg5 HBW.out.size (fun x hx => by cases hx; exact hgw)
              have hr5 := HRL.out.grown hg5 HGN.out
              have HK5 := Lib.hid hk5
              clear hk5 hg5
              go_wp2
              go_roundw
              case rel => exact ⟨j + 1, hjn, by go_num, by rw [HFM.out, HFP.out, ← HM'.out, ← HP'.out]; exact HK5.out, hr5, hb5⟩
              case measure => exact HME.out
            · go_wp2_with fail
              refine (erm_event g m' p' wr hkb).mono ?_
              rintro e w3 ⟨rfl, hk5, hg5⟩
              have hb5 := HBW.out.grown hg5 HBW.out.size (fun x hx => by cases hx; exact hgw)
              have hr5 := HRL.out.grown hg5 HGN.out
              have HK5 := Lib.hid hk5
              clear hk5 hg5
              go_wp2
              go_roundw
              case rel => exact ⟨j + 1, hjn, by go_num, by rw [HFM.out, HFP.out, ← HM'.out, ← HP'.out]; exact HK5.out, hr5, hb5⟩
              case measure => exact HME.out
            · go_wp2_with fail
              refine (erm_match g m' p' wr hkb).mono ?_
              rintro e w3 ⟨rfl, hk5, hg5⟩
              have hb5 := HBW.out.grown hg5 HBW.out.size (fun x hx => by cases hx; exact hgw)
              have hr5 := HRL.out.grown hg5 HGN.out
              have HK5 := Lib.hid hk5
              clear hk5 hg5
              go_wp2
              go_roundw
              case rel => exact ⟨j + 1, hjn, by go_num, by rw [HFM.out, HFP.out, ← HM'.out, ← HP'.out]; exact HK5.out, hr5, hb5⟩
              case measure => exact HME.out
            · go_wp2_with fail
              refine (erm_sizes g m' p' wr hkb).mono ?_
              rintro e w3 ⟨rfl, hk5, hg5⟩
              have hb5 := HBW.out.grown hg5 HBW.out.size (fun x hx => by cases hx; exact hgw)
              have hr5 := HRL.out.grown hg5 HGN.out
              have HK5 := Lib.hid hk5
              clear hk5 hg5
              go_wp2
              go_roundw
              case rel => exact ⟨j + 1, hjn, by go_num, by rw [HFM.out, HFP.out, ← HM'.out, ← HP'.out]; exact HK5.out, hr5, hb5⟩
              case measure => exact HME.out
            · go_wp2_with fail
              refine (erm_fault g m' p' wr hkb).mono ?_
              rintro e w3 ⟨rfl, hk5, hg5⟩
              have hb5 := HBW.out.grown hg5 HBW.out.size (fun x hx => by cases hx; exact hgw)
              have hr5 := HRL.out.grown hg5 HGN.out
              have HK5 := Lib.hid hk5
              clear hk5 hg5
              go_wp2
              go_roundw
              case rel => exact ⟨j + 1, hjn, by go_num, by rw [HFM.out, HFP.out, ← HM'.out, ← HP'.out]; exact HK5.out, hr5, hb5⟩
              case measure => exact HME.out
          · have hje : j = nl := by omega
            have hlt' : ¬ (j : Int) < nl := by omega
            have e : L.take j = L := List.take_of_length_le (by rw [← HNL.out]; omega)
            rw [e] at hkb
            have HKB := Lib.hid hkb
            have HBW := Lib.hid hbw
            have hz : wr.heap.size = wr.heap.size := rfl
            clear hkb hbw e hje hlt hj
            have hrg := HKB.out.whole
            obtain ⟨mm, hmm⟩ : ∃ mm, mm = foldM L m := ⟨_, rfl⟩
            obtain ⟨pp, hpp⟩ : ∃ pp, pp = foldP L p := ⟨_, rfl⟩
            rw [← hmm, ← hpp] at hrg
            have HMM := Lib.hid hmm
            clear hmm hpp
            by_cases hnil : L = []
            · have hal := hn1 hnil
              rw [hal]
              have HNIL := Lib.hid hnil
              clear hnil hn1 hn2
              go_wp2_with fail
              go_ret
              refine ⟨false, ret_val rfl, ⟨fun h => (Bool.false_ne_true h).elim, fun h => (h.2.2.1 (by rw [← HL.out, HNIL.out])).elim⟩, HBW.out⟩
            · have hal := hn2 hnil
              have HNIL := Lib.hid hnil
              obtain ⟨ad, had⟩ : ∃ ad, al = some ad := by cases al with
                | none => exact (hal rfl).elim
                | some ad => exact ⟨ad, rfl⟩
              rw [had]
              clear hnil hn1 hn2 hal
              go_wp2_with (first | ((with_reducible refine at_dst 46 ?_); refine wpList_load_midg rfl 50 _ rfl g 0 rfl (cellsM mm pp) _ hrg Try.underlying50 rfl (by kernel_rfl) ?_) | fail)
              refine (blank_m mm pp wr).mono ?_
              rintro e w3 ⟨bl, rfl, hbl, hb3⟩
              go_wp2
              go_ret
              refine ⟨bl, ret_val rfl, ?_, HBW.out.trans (hb3.mono HBW.out.size)⟩
              rw [hbl]
              unfold properM
              rw [← HL.out]
              have e1 : mm = L.foldl (fun m s => eraseM s m) m := HMM.out
              rw [e1]
              exact ⟨fun h => ⟨h0, HCL.out, HNIL.out, h⟩, fun h => h.2.2.2⟩
end Go.Proofs.Ytaipnbpefdcejaa
/- The walks of named and has. -/
set_option linter.unusedVariables false
namespace Go.Proofs.Ytaipnbpefdcejaa
open Go.RowKit
/-- A kind's letters. -/
def namedL (k : Int) : List UInt8 :=
  if k = 1 then [78] else if k = 2 then [83, 81, 78] else if k = 3 then [72, 69] else if k = 4 then [72, 78] else if k = 5 ∨ k = 6 ∨ k = 7 ∨ k = 9 ∨ k = 18 then [72] else if k = 8 then [73] else if k = 16 then [67] else if k = 17 then [70] else
  if k = 19 then [72, 77] else if k = 20 then [72, 90] else if k = 21 then [72, 73] else []
theorem namedL_none {k : Int} (hk : ¬ (k = 1 ∨ k = 2 ∨ k = 3 ∨ k = 4 ∨ k = 5 ∨ k = 6 ∨ k = 7 ∨ k = 8 ∨ k = 9 ∨ k = 16 ∨ k = 17 ∨ k = 18 ∨ k = 19 ∨ k = 20 ∨ k = 21)) : namedL k = [] := by
  unfold namedL
  simp only [not_or] at hk
  obtain ⟨h1, h2, h3, h4, h5, h6, h7, h8, h9, h16, h17, h18, h19, h20, h21⟩ := hk
  simp [h1, h2, h3, h4, h5, h6, h7, h8, h9, h16, h17, h18, h19, h20, h21]
def strB (l : List UInt8) : Value := .string ⟨l.toArray⟩
theorem named_any (k : Int) (w : World) : Calls Try.prog 48 #[.int .i64 k] w fun e w' => e = .returned (strB (namedL k)) ∧ w = w' := by
  by_cases hk : k = 1 ∨ k = 2 ∨ k = 3 ∨ k = 4 ∨ k = 5 ∨ k = 6 ∨ k = 7 ∨ k = 8 ∨ k = 9 ∨ k = 16 ∨ k = 17 ∨ k = 18 ∨ k = 19 ∨ k = 20 ∨ k = 21
  · rcases hk with rfl | rfl | rfl | rfl | rfl | rfl | rfl | rfl | rfl | rfl | rfl | rfl | rfl | rfl | rfl
    all_goals
      go_enter Try.func48, Try.ntmps48
      go_wp2
      go_ret
      exact ⟨rfl, rfl⟩
  · rw [namedL_none hk]
    simp only [not_or] at hk
    obtain ⟨h1, h2, h3, h4, h5, h6, h7, h8, h9, h16, h17, h18, h19, h20, h21⟩ := hk
    go_enter Try.func48, Try.ntmps48
    go_wp2
    all_goals go_ret
    all_goals exact ⟨rfl, rfl⟩
def hasB (k : Int) (c : UInt8) : Bool := (namedL k).contains c
theorem has_any (k : Int) (c : UInt8) (w : World) : Calls Try.prog 49 #[.int .i64 k, .int .u8 (c.toNat : Int)] w fun e w' => e = .returned (.bool (hasB k c)) ∧ w = w' := by
  go_enter Try.func49, Try.ntmps49
  go_wp2_with fail
  refine (named_any k w).mono ?_
  rintro e w1 ⟨rfl, rfl⟩
  obtain ⟨L, hL⟩ : ∃ L, L = namedL k := ⟨_, rfl⟩
  have hhas : hasB k c = L.contains c := by rw [hL]; rfl
  rw [← hL]
  obtain ⟨n, hn⟩ : ∃ n, n = L.length := ⟨_, rfl⟩
  have hsz : (⟨L.toArray⟩ : ByteArray).size = n := by rw [hn]; rfl
  have hn3 : n ≤ 100 := by
    rw [hn, hL]
    unfold namedL
    repeat' split
    all_goals simp
  obtain ⟨S, hS⟩ : ∃ S : ByteArray, S = ⟨L.toArray⟩ := ⟨_, rfl⟩
  have hget : ∀ j, j < n → ∃ h2 : j < S.size, L[j]? = some S[j] := by
    intro j h
    subst hS
    refine ⟨by rw [hsz]; exact h, ?_⟩
    rw [List.getElem?_eq_getElem (by omega)]
    rfl
  unfold strB
  rw [← hS] at hsz ⊢
  have HH := Lib.hid hhas
  have HN := Lib.hid hn
  have HG := Lib.hid hget
  clear hhas hL hn hS hget
  go_wp2_with fail
  go_loop [6] (fun i => ∃ j : Nat, j ≤ n ∧ i = .int .i64 (j : Int) ∧ ¬ c ∈ L.take j) (fun i => n - (intOf i).toNat)
  case atStart => exact ⟨0, Nat.zero_le _, rfl, by simp⟩
  case round =>
    obtain ⟨j, hj, rfl, hnot⟩ := hrel
    by_cases hlt : j < n
    · obtain ⟨h2, hg⟩ := HG.out j hlt
      have hlt' : (j : Int) < n := by omega
      have hL2 : j < L.length := by rw [← HN.out]; exact hlt
      rw [List.getElem?_eq_getElem hL2] at hg
      have hg2 : S[j] = L[j] := (Option.some.inj hg).symm
      have HU := Lib.hid hg2
      have HNOT := Lib.hid hnot
      clear hg hg2 hnot
      have hst : L.take (j + 1) = L.take j ++ [S[j]] := by rw [List.take_succ_eq_append_getElem hL2, HU.out]
      by_cases hc : S[j] = c
      · have hyy : (((S[j]).toNat : Int) == (c.toNat : Int)) = true := by rw [hc]; simp
        have HC := Lib.hid hc
        clear hc hst
        go_wp2
        go_ret
        refine ⟨ret_val ?_, rfl⟩
        have hm : L.contains c = true := by
          rw [List.contains_iff_mem, ← HC.out, HU.out]
          exact List.getElem_mem hL2
        rw [HH.out, hm]
        rfl
      · have hyy : (((S[j]).toNat : Int) == (c.toNat : Int)) = false := by
          simp only [beq_eq_false_iff_ne, ne_eq]
          exact fun h => hc (UInt8.toNat_inj.1 (by omega))
        have hnot2 : ¬ c ∈ L.take (j + 1) := by
          rw [hst, List.mem_append, List.mem_singleton]
          rintro (h | h)
          · exact HNOT.out h
          · exact hc h.symm
        have HN2 := Lib.hid hnot2
        have HM := Lib.hid (meas_lt hlt)
        clear hc hst hnot2
        go_wp2
        go_round
        case rel => exact ⟨j + 1, by omega, by go_num, HN2.out⟩
        case measure => exact HM.out
    · have hje : j = n := by omega
      have hlt' : ¬ (j : Int) < n := by omega
      have e : L.take j = L := List.take_of_length_le (by rw [← HN.out]; omega)
      rw [e] at hnot
      have HNOT := Lib.hid hnot
      clear e hje hnot
      go_wp2
      go_ret
      refine ⟨ret_val ?_, rfl⟩
      have hm : L.contains c = false := by
        rw [Bool.eq_false_iff, ne_eq, List.contains_iff_mem]
        exact HNOT.out
      rw [HH.out, hm]
      rfl
end Go.Proofs.Ytaipnbpefdcejaa
/- Structs of numbers compared with the zero ones. -/
set_option linter.unusedVariables false
set_option linter.unusedSimpArgs false
namespace Go.Proofs.Ytaipnbpefdcejaa
open Go.RowKit
theorem ev_eq (ts id typ a0 a1 a2 a3 a4 a5 a6 a7 : Int) (W : World) :
    (Op.equalIn 10000 39 (.agg #[.int .i64 ts, .int .u64 id, .int .i64 typ, .int .i64 a0, .int .i64 a1, .int .i64 a2, .int .i64 a3, .int .i64 a4, .int .i64 a5, .int .i64 a6, .int .i64 a7]) (.agg #[.int .i64 0, .int .u64 0, .int .i64 0, .int .i64 0, .int .i64 0, .int .i64 0, .int .i64 0, .int .i64 0, .int .i64 0, .int .i64 0, .int .i64 0])).run Try.prog W =
      .ok (ts == 0 && (id == 0 && (typ == 0 && (a0 == 0 && (a1 == 0 && (a2 == 0 && (a3 == 0 && (a4 == 0 && (a5 == 0 && (a6 == 0 && a7 == 0)))))))))) W := by
  have hp : Try.prog.stoodInHeld 39 = false := by kernel_rfl
  have ht : Try.prog.underlying 39 = some (.struct (Try.prog.fieldsOf 39)) := by kernel_rfl
  rw [show (10000 : Nat) = 9999 + 1 from rfl, run_equalIn_struct W 9999 39 _ _ ht hp]
  have heq8 := eq8
  simp [Program.fieldsOf, Try.underlying39, Op.eqFields, go_sem]
  rw [heq8]
  simp only [Result.andThen_ok]
  generalize (a0 == 0 && (a1 == 0 && (a2 == 0 && (a3 == 0 && (a4 == 0 && (a5 == 0 && (a6 == 0 && a7 == 0))))))) = c
  by_cases h1 : ts = 0 <;> by_cases h2 : id = 0 <;> by_cases h3 : typ = 0 <;> cases c <;> simp [h1, h2, h3]
theorem ft_eq (x y z : Int) (W : World) :
    (Op.equalIn 10000 48 (.agg #[.int .i64 x, .int .i64 y, .int .i64 z]) (.agg #[.int .i64 0, .int .i64 0, .int .i64 0])).run Try.prog W = .ok (x == 0 && (y == 0 && z == 0)) W := by
  have hp : Try.prog.stoodInHeld 48 = false := by kernel_rfl
  have ht : Try.prog.underlying 48 = some (.struct (Try.prog.fieldsOf 48)) := by kernel_rfl
  rw [show (10000 : Nat) = 9999 + 1 from rfl, run_equalIn_struct W 9999 48 _ _ ht hp]
  simp [Program.fieldsOf, Try.underlying48, Op.eqFields, go_sem]
  by_cases h1 : x = 0 <;> by_cases h2 : y = 0 <;> by_cases h3 : z = 0 <;> simp [h1, h2, h3]
theorem sz_eq (x : Int) (b : Bool) (y z u v : Int) (W : World) :
    (Op.equalIn 10000 46 (.agg #[.int .i64 x, .bool b, .int .i64 y, .int .i64 z, .int .i64 u, .int .i64 v]) (.agg #[.int .i64 0, .bool false, .int .i64 0, .int .i64 0, .int .i64 0, .int .i64 0])).run Try.prog W =
      .ok (x == 0 && (!b && (y == 0 && (z == 0 && (u == 0 && v == 0))))) W := by
  have hp : Try.prog.stoodInHeld 46 = false := by kernel_rfl
  have ht : Try.prog.underlying 46 = some (.struct (Try.prog.fieldsOf 46)) := by kernel_rfl
  rw [show (10000 : Nat) = 9999 + 1 from rfl, run_equalIn_struct W 9999 46 _ _ ht hp]
  simp [Program.fieldsOf, Try.underlying46, Op.eqFields, go_sem]
  by_cases h1 : x = 0 <;> cases b <;> by_cases h3 : y = 0 <;> by_cases h4 : z = 0 <;> by_cases h5 : u = 0 <;> by_cases h6 : v = 0 <;> simp [h1, h3, h4, h5, h6]
/-- A comparison's outcome, as one Boolean. -/
theorem ev_one (ts id typ a0 a1 a2 a3 a4 a5 a6 a7 : Int) : ∃ b : Bool, (∀ W, (Op.equalIn 10000 39 (.agg #[.int .i64 ts, .int .u64 id, .int .i64 typ, .int .i64 a0, .int .i64 a1, .int .i64 a2, .int .i64 a3, .int .i64 a4, .int .i64 a5, .int .i64 a6, .int .i64 a7]) (.agg #[.int .i64 0, .int .u64 0, .int .i64 0, .int .i64 0, .int .i64 0, .int .i64 0, .int .i64 0, .int .i64 0, .int .i64 0, .int .i64 0, .int .i64 0])).run Try.prog W = .ok b W) ∧
    (b = true ↔ (ts = 0 ∧ id = 0 ∧ typ = 0 ∧ a0 = 0 ∧ a1 = 0 ∧ a2 = 0 ∧ a3 = 0 ∧ a4 = 0 ∧ a5 = 0 ∧ a6 = 0 ∧ a7 = 0)) := ⟨_, ev_eq ts id typ a0 a1 a2 a3 a4 a5 a6 a7, by simp⟩
theorem ft_one (x y z : Int) : ∃ b : Bool, (∀ W, (Op.equalIn 10000 48 (.agg #[.int .i64 x, .int .i64 y, .int .i64 z]) (.agg #[.int .i64 0, .int .i64 0, .int .i64 0])).run Try.prog W = .ok b W) ∧ (b = true ↔ (x = 0 ∧ y = 0 ∧ z = 0)) := ⟨_, ft_eq x y z, by simp⟩
theorem sz_one (x : Int) (b0 : Bool) (y z u v : Int) : ∃ b : Bool, (∀ W, (Op.equalIn 10000 46 (.agg #[.int .i64 x, .bool b0, .int .i64 y, .int .i64 z, .int .i64 u, .int .i64 v]) (.agg #[.int .i64 0, .bool false, .int .i64 0, .int .i64 0, .int .i64 0, .int .i64 0])).run Try.prog W = .ok b W) ∧
    (b = true ↔ (x = 0 ∧ b0 = false ∧ y = 0 ∧ z = 0 ∧ u = 0 ∧ v = 0)) := ⟨_, sz_eq x b0 y z u v, by simp⟩
end Go.Proofs.Ytaipnbpefdcejaa
/- Structs of numbers compared with one another. -/
set_option linter.unusedVariables false
set_option linter.unusedSimpArgs false
namespace Go.Proofs.Ytaipnbpefdcejaa
open Go.RowKit
theorem ev_eq2 (ts id typ a0 a1 a2 a3 a4 a5 a6 a7 ts' id' typ' b0 b1 b2 b3 b4 b5 b6 b7 : Int) (W : World) :
    (Op.equalIn 10000 39 (.agg #[.int .i64 ts, .int .u64 id, .int .i64 typ, .int .i64 a0, .int .i64 a1, .int .i64 a2, .int .i64 a3, .int .i64 a4, .int .i64 a5, .int .i64 a6, .int .i64 a7]) (.agg #[.int .i64 ts', .int .u64 id', .int .i64 typ', .int .i64 b0, .int .i64 b1, .int .i64 b2, .int .i64 b3, .int .i64 b4, .int .i64 b5, .int .i64 b6, .int .i64 b7])).run Try.prog W =
      .ok (ts == ts' && (id == id' && (typ == typ' && (a0 == b0 && (a1 == b1 && (a2 == b2 && (a3 == b3 && (a4 == b4 && (a5 == b5 && (a6 == b6 && a7 == b7)))))))))) W := by
  have hp : Try.prog.stoodInHeld 39 = false := by kernel_rfl
  have ht : Try.prog.underlying 39 = some (.struct (Try.prog.fieldsOf 39)) := by kernel_rfl
  rw [show (10000 : Nat) = 9999 + 1 from rfl, run_equalIn_struct W 9999 39 _ _ ht hp]
  have heq8 := eq8_d 9997
  unfold arr8 at heq8
  simp [Program.fieldsOf, Try.underlying39, Op.eqFields, go_sem]
  rw [heq8]
  simp only [Result.andThen_ok]
  generalize (a0 == b0 && (a1 == b1 && (a2 == b2 && (a3 == b3 && (a4 == b4 && (a5 == b5 && (a6 == b6 && a7 == b7))))))) = c
  by_cases h1 : ts = ts' <;> by_cases h2 : id = id' <;> by_cases h3 : typ = typ' <;> cases c <;> simp [h1, h2, h3]
theorem ft_eq2 (x y z x' y' z' : Int) (W : World) :
    (Op.equalIn 10000 48 (.agg #[.int .i64 x, .int .i64 y, .int .i64 z]) (.agg #[.int .i64 x', .int .i64 y', .int .i64 z'])).run Try.prog W = .ok (x == x' && (y == y' && z == z')) W := by
  have hp : Try.prog.stoodInHeld 48 = false := by kernel_rfl
  have ht : Try.prog.underlying 48 = some (.struct (Try.prog.fieldsOf 48)) := by kernel_rfl
  rw [show (10000 : Nat) = 9999 + 1 from rfl, run_equalIn_struct W 9999 48 _ _ ht hp]
  simp [Program.fieldsOf, Try.underlying48, Op.eqFields, go_sem]
  by_cases h1 : x = x' <;> by_cases h2 : y = y' <;> by_cases h3 : z = z' <;> simp [h1, h2, h3]
theorem nm_eq2 (x y x' y' : Int) (W : World) :
    (Op.equalIn 10000 89 (.agg #[.int .i64 x, .int .u64 y]) (.agg #[.int .i64 x', .int .u64 y'])).run Try.prog W = .ok (x == x' && y == y') W := by
  have hp : Try.prog.stoodInHeld 89 = false := by kernel_rfl
  have ht : Try.prog.underlying 89 = some (.struct (Try.prog.fieldsOf 89)) := by kernel_rfl
  rw [show (10000 : Nat) = 9999 + 1 from rfl, run_equalIn_struct W 9999 89 _ _ ht hp]
  simp [Program.fieldsOf, Try.underlying89, Op.eqFields, go_sem]
  by_cases h1 : x = x' <;> by_cases h2 : y = y' <;> simp [h1, h2]
theorem vl_eq2 (x : Bool) (y : Int) (x' : Bool) (y' : Int) (W : World) :
    (Op.equalIn 10000 74 (.agg #[.bool x, .int .i64 y]) (.agg #[.bool x', .int .i64 y'])).run Try.prog W = .ok (x == x' && y == y') W := by
  have hp : Try.prog.stoodInHeld 74 = false := by kernel_rfl
  have ht : Try.prog.underlying 74 = some (.struct (Try.prog.fieldsOf 74)) := by kernel_rfl
  rw [show (10000 : Nat) = 9999 + 1 from rfl, run_equalIn_struct W 9999 74 _ _ ht hp]
  simp [Program.fieldsOf, Try.underlying74, Op.eqFields, go_sem]
  by_cases h2 : y = y' <;> cases x <;> cases x' <;> simp [h2]
theorem sz_eq2 (x : Int) (b : Bool) (y z u v x' : Int) (b' : Bool) (y' z' u' v' : Int) (W : World) :
    (Op.equalIn 10000 46 (.agg #[.int .i64 x, .bool b, .int .i64 y, .int .i64 z, .int .i64 u, .int .i64 v]) (.agg #[.int .i64 x', .bool b', .int .i64 y', .int .i64 z', .int .i64 u', .int .i64 v'])).run Try.prog W =
      .ok (x == x' && (b == b' && (y == y' && (z == z' && (u == u' && v == v'))))) W := by
  have hp : Try.prog.stoodInHeld 46 = false := by kernel_rfl
  have ht : Try.prog.underlying 46 = some (.struct (Try.prog.fieldsOf 46)) := by kernel_rfl
  rw [show (10000 : Nat) = 9999 + 1 from rfl, run_equalIn_struct W 9999 46 _ _ ht hp]
  simp [Program.fieldsOf, Try.underlying46, Op.eqFields, go_sem]
  by_cases h1 : x = x' <;> cases b <;> cases b' <;> by_cases h3 : y = y' <;> by_cases h4 : z = z' <;> by_cases h5 : u = u' <;> by_cases h6 : v = v' <;> simp [h1, h3, h4, h5, h6]
/-- A comparison's outcome, as one Boolean. -/
theorem ev_two (ts id typ a0 a1 a2 a3 a4 a5 a6 a7 ts' id' typ' b0 b1 b2 b3 b4 b5 b6 b7 : Int) : ∃ b : Bool, (∀ W, (Op.equalIn 10000 39 (.agg #[.int .i64 ts, .int .u64 id, .int .i64 typ, .int .i64 a0, .int .i64 a1, .int .i64 a2, .int .i64 a3, .int .i64 a4, .int .i64 a5, .int .i64 a6, .int .i64 a7]) (.agg #[.int .i64 ts', .int .u64 id', .int .i64 typ', .int .i64 b0, .int .i64 b1, .int .i64 b2, .int .i64 b3, .int .i64 b4, .int .i64 b5, .int .i64 b6, .int .i64 b7])).run Try.prog W = .ok b W) ∧
    (b = true ↔ (ts = ts' ∧ id = id' ∧ typ = typ' ∧ a0 = b0 ∧ a1 = b1 ∧ a2 = b2 ∧ a3 = b3 ∧ a4 = b4 ∧ a5 = b5 ∧ a6 = b6 ∧ a7 = b7)) := ⟨_, ev_eq2 ts id typ a0 a1 a2 a3 a4 a5 a6 a7 ts' id' typ' b0 b1 b2 b3 b4 b5 b6 b7, by simp⟩
theorem ft_two (x y z x' y' z' : Int) : ∃ b : Bool, (∀ W, (Op.equalIn 10000 48 (.agg #[.int .i64 x, .int .i64 y, .int .i64 z]) (.agg #[.int .i64 x', .int .i64 y', .int .i64 z'])).run Try.prog W = .ok b W) ∧ (b = true ↔ (x = x' ∧ y = y' ∧ z = z')) := ⟨_, ft_eq2 x y z x' y' z', by simp⟩
theorem nm_two (x y x' y' : Int) : ∃ b : Bool, (∀ W, (Op.equalIn 10000 89 (.agg #[.int .i64 x, .int .u64 y]) (.agg #[.int .i64 x', .int .u64 y'])).run Try.prog W = .ok b W) ∧ (b = true ↔ (x = x' ∧ y = y')) := ⟨_, nm_eq2 x y x' y', by simp⟩
theorem vl_two (x : Bool) (y : Int) (x' : Bool) (y' : Int) : ∃ b : Bool, (∀ W, (Op.equalIn 10000 74 (.agg #[.bool x, .int .i64 y]) (.agg #[.bool x', .int .i64 y'])).run Try.prog W = .ok b W) ∧ (b = true ↔ (x = x' ∧ y = y')) := ⟨_, vl_eq2 x y x' y', by simp⟩
theorem sz_two (x : Int) (b0 : Bool) (y z u v x' : Int) (b0' : Bool) (y' z' u' v' : Int) : ∃ b : Bool, (∀ W, (Op.equalIn 10000 46 (.agg #[.int .i64 x, .bool b0, .int .i64 y, .int .i64 z, .int .i64 u, .int .i64 v]) (.agg #[.int .i64 x', .bool b0', .int .i64 y', .int .i64 z', .int .i64 u', .int .i64 v'])).run Try.prog W = .ok b W) ∧
    (b = true ↔ (x = x' ∧ b0 = b0' ∧ y = y' ∧ z = z' ∧ u = u' ∧ v = v')) := ⟨_, sz_eq2 x b0 y z u v x' b0' y' z' u' v', by simp⟩
end Go.Proofs.Ytaipnbpefdcejaa
/- A message's bytes as plain data. No program in sight. -/
set_option linter.unusedVariables false
namespace Go.Proofs.Ytaipnbpefdcejaa
open Go.RowKit
def I64 (x : Int) : Prop := -9223372036854775808 ≤ x ∧ x ≤ 9223372036854775807
def U64 (x : Int) : Prop := 0 ≤ x ∧ x < 18446744073709551616
/-- A message that a program can hold. -/
structure WfM (m : M) : Prop where
  kind : I64 m.kind
  handle : I64 m.handle
  num : I64 m.num
  ts : I64 m.ts
  id : U64 m.id
  typ : I64 m.typ
  a0 : I64 m.a0
  a1 : I64 m.a1
  a2 : I64 m.a2
  a3 : I64 m.a3
  a4 : I64 m.a4
  a5 : I64 m.a5
  a6 : I64 m.a6
  a7 : I64 m.a7
  dec : I64 m.dec
  names : ∀ v ∈ m.names, I64 v.1 ∧ U64 v.2
  lens : ∀ v ∈ m.lens, I64 v
  vals : ∀ v ∈ m.vals, I64 v.2
  mark : I64 m.mark
  held : I64 m.held
  kept : I64 m.kept
  waiting : I64 m.waiting
  parts : I64 m.parts
  fwhere : I64 m.fwhere
  fcode : I64 m.fcode
  fat : I64 m.fat
  code : I64 m.code
  nl : m.names.length ≤ 1073741824
  ll : m.lens.length ≤ 1073741824
  vl : m.vals.length ≤ 1073741824
  sl : m.schema.size ≤ 1073741824
  ql : m.query.size ≤ 1073741824
  il : m.image.length ≤ 1073741824
def bytesI (i : Int) : List UInt8 := bytesU (zig i)
def byT (b : Bool) : List UInt8 := [if b then 1 else 0]
def encText (s : ByteArray) : List UInt8 := bytesU s.size ++ s.data.toList
def encName (v : Int × Int) : List UInt8 := bytesI v.1 ++ bytesU v.2.toNat
def encVal (v : Bool × Int) : List UInt8 := byT v.1 ++ (if v.1 then bytesI v.2 else [])
def encNames (l : List (Int × Int)) : List UInt8 := bytesU l.length ++ l.flatMap encName
def encLens (l : List Int) : List UInt8 := bytesU l.length ++ l.flatMap bytesI
def encVals (l : List (Bool × Int)) : List UInt8 := bytesU l.length ++ l.flatMap encVal
def encMatch (m : M) : List UInt8 := bytesI m.dec ++ (encNames m.names ++ (encLens m.lens ++ encVals m.vals))
def attrs (m : M) : List Int := [m.a0, m.a1, m.a2, m.a3, m.a4, m.a5, m.a6, m.a7]
def encEvent (m : M) : List UInt8 := bytesI m.ts ++ (bytesU m.id.toNat ++ (bytesI m.typ ++ (attrs m).flatMap bytesI))
def encSizes (m : M) : List UInt8 := bytesI m.mark ++ (byT m.closed ++ [m.held, m.kept, m.waiting, m.parts].flatMap bytesI)
def encFault (m : M) : List UInt8 := bytesI m.fwhere ++ (bytesI m.fcode ++ bytesI m.fat)
/-- A field's bytes. -/
def encF (s : String) (m : M) : List UInt8 :=
  if s = "sluice/wire.number" then bytesI m.num else
  if s = "sluice/wire.handle" then bytesU m.handle.toNat else
  if s = "sluice/wire.code" then bytesI m.code else
  if s = "sluice/wire.schema" then encText m.schema else
  if s = "sluice/wire.query" then encText m.query else
  if s = "sluice/wire.image" then bytesU m.image.length ++ m.image else
  if s = "sluice/wire.event" then encEvent m else
  if s = "sluice/wire.match" then encMatch m else
  if s = "sluice/wire.sizes" then encSizes m else
  if s = "sluice/wire.fault" then encFault m else []
/-- A field's letter. -/
def letter (s : String) : UInt8 :=
  if s = "sluice/wire.number" then 78 else
  if s = "sluice/wire.handle" then 72 else
  if s = "sluice/wire.code" then 67 else
  if s = "sluice/wire.schema" then 83 else
  if s = "sluice/wire.query" then 81 else
  if s = "sluice/wire.image" then 73 else
  if s = "sluice/wire.event" then 69 else
  if s = "sluice/wire.match" then 77 else
  if s = "sluice/wire.sizes" then 90 else
  if s = "sluice/wire.fault" then 70 else 0
theorem named_ord (k : Int) : namedL k = (ordL k).map letter := by
  unfold namedL ordL
  repeat' split
  all_goals first | rfl | simp_all [letter]
/-- What stands in a frame behind the number. -/
def inM (m : M) : List UInt8 := UInt8.ofNat m.kind.toNat :: (ordL m.kind).flatMap fun s => encF s m
theorem bytesU_le (n : Nat) (h : n < 18446744073709551616) : (bytesU n).length ≤ 10 := bytesU_len10 n h
theorem bytesI_le (i : Int) (h : I64 i) : (bytesI i).length ≤ 10 := bytesU_len10 _ (zig_lt i h)
theorem flat_le {α : Type} (f : α → List UInt8) (c : Nat) : ∀ l : List α, (∀ v ∈ l, (f v).length ≤ c) → (l.flatMap f).length ≤ l.length * c := by
  intro l
  induction l with
  | nil => intro _; simp
  | cons v l ih =>
    intro h
    have h1 := h v (by simp)
    have h2 := ih fun u hu => h u (by simp [hu])
    rw [List.flatMap_cons, List.length_append, List.length_cons, Nat.add_mul]
    omega
theorem byT_len (b : Bool) : (byT b).length = 1 := rfl
theorem encText_le {s : ByteArray} (h : s.size ≤ 1073741824) : (encText s).length ≤ 1073741834 := by
  have h1 := bytesU_le s.size (by omega)
  have h2 : s.data.toList.length = s.size := by rw [Array.length_toList]; rfl
  rw [encText, List.length_append, h2]
  omega
theorem encNames_le {m : M} (h : WfM m) : (encNames m.names).length ≤ 21474836490 := by
  have h1 := bytesU_le m.names.length (by have := h.nl; omega)
  have h2 := flat_le encName 20 m.names fun v hv => by
    have := bytesI_le v.1 (h.names v hv).1
    have hu := (h.names v hv).2
    have := bytesU_le v.2.toNat (by unfold U64 at hu; omega)
    rw [encName, List.length_append]
    omega
  have := h.nl
  rw [encNames, List.length_append]
  omega
theorem encLens_le {m : M} (h : WfM m) : (encLens m.lens).length ≤ 10737418250 := by
  have h1 := bytesU_le m.lens.length (by have := h.ll; omega)
  have h2 := flat_le bytesI 10 m.lens fun v hv => bytesI_le v (h.lens v hv)
  have := h.ll
  rw [encLens, List.length_append]
  omega
theorem encVal_le {v : Bool × Int} (h : I64 v.2) : (encVal v).length ≤ 11 := by
  have := bytesI_le v.2 h
  rw [encVal, List.length_append, byT_len]
  split
  · omega
  · simp
theorem encVals_le {m : M} (h : WfM m) : (encVals m.vals).length ≤ 11811160074 := by
  have h1 := bytesU_le m.vals.length (by have := h.vl; omega)
  have h2 := flat_le encVal 11 m.vals fun v hv => encVal_le (h.vals v hv)
  have := h.vl
  rw [encVals, List.length_append]
  omega
theorem encF_le {m : M} (h : WfM m) (hh : 0 ≤ m.handle) (s : String) : (encF s m).length ≤ 100000000000 := by
  have c1 := bytesI_le _ h.num
  have c2 := bytesU_le m.handle.toNat (by have := h.handle; unfold I64 at this; omega)
  have c3 := bytesI_le _ h.code
  have c4 := encText_le h.sl
  have c5 := encText_le h.ql
  have c6 := bytesU_le m.image.length (by have := h.il; omega)
  have c7 := h.il
  have c8 : (encEvent m).length ≤ 1000 := by
    have d1 := bytesI_le _ h.ts
    have d2 := bytesU_le m.id.toNat (by have := h.id; unfold U64 at this; omega)
    have d3 := bytesI_le _ h.typ
    have d4 := flat_le bytesI 10 (attrs m) fun v hv => by
      simp only [attrs, List.mem_cons, List.not_mem_nil, or_false] at hv
      rcases hv with rfl | rfl | rfl | rfl | rfl | rfl | rfl | rfl
      · exact bytesI_le _ h.a0
      · exact bytesI_le _ h.a1
      · exact bytesI_le _ h.a2
      · exact bytesI_le _ h.a3
      · exact bytesI_le _ h.a4
      · exact bytesI_le _ h.a5
      · exact bytesI_le _ h.a6
      · exact bytesI_le _ h.a7
    have d5 : (attrs m).length = 8 := rfl
    simp only [encEvent, List.length_append]
    omega
  have c9 : (encMatch m).length ≤ 99999999999 := by
    have d1 := bytesI_le _ h.dec
    have d2 := encNames_le h
    have d3 := encLens_le h
    have d4 := encVals_le h
    simp only [encMatch, List.length_append]
    omega
  have c10 : (encSizes m).length ≤ 1000 := by
    have d1 := bytesI_le _ h.mark
    have d2 := byT_len m.closed
    have d4 := flat_le bytesI 10 [m.held, m.kept, m.waiting, m.parts] fun v hv => by
      simp only [List.mem_cons, List.not_mem_nil, or_false] at hv
      rcases hv with rfl | rfl | rfl | rfl
      · exact bytesI_le _ h.held
      · exact bytesI_le _ h.kept
      · exact bytesI_le _ h.waiting
      · exact bytesI_le _ h.parts
    simp only [List.length_cons, List.length_nil] at d4
    simp only [encSizes, List.length_append]
    omega
  have c11 : (encFault m).length ≤ 1000 := by
    have d1 := bytesI_le _ h.fwhere
    have d2 := bytesI_le _ h.fcode
    have d3 := bytesI_le _ h.fat
    simp only [encFault, List.length_append]
    omega
  unfold encF
  repeat' split
  all_goals (try rw [List.length_append])
  all_goals (try simp only [List.length_nil])
  all_goals omega
end Go.Proofs.Ytaipnbpefdcejaa
