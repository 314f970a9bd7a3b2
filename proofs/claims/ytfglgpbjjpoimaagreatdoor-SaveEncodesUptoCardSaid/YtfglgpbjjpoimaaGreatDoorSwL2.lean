/- SaveEncodes returns true for every input of bulk at most 1048576, where the listed package-level variables start as the program's text lays them; each argument reads behind the call as it read before. The card of the second form. The frame round the walk 'law_any'. -/
import Derived.Test.YtfglgpbjjpoimaaGreatDoorCards
import Derived.Test.YtfglgpbjjpoimaaGreatDoorTie
import Derived.Test.YtfglgpbjjpoimaaGreatDoorSwJ1
import Derived.Test.YtfglgpbjjpoimaaGreatDoorSwHD
import Derived.OpenShut
import Derived.ShutString
import Derived.ChangeOld
import Derived.SizedLaws
import Derived.JoinedCond
import Derived.Deep.DeepHandedRow
import Derived.LaidHandle
namespace Go.Proofs.YtfglgpbjjpoimaaGreatDoor.lSaveEncodesUpto
open Go.ChangeShapes Go.WideShapes Go.ChangeAt Go.RowKit
set_option linter.unusedVariables false

theorem own : ownKnob Tryz.prog.godebug = none := by kernel_rfl
theorem laidOut : laidOutB Tryz.prog = true := by kernel_rfl

set_option maxRecDepth 100000 in
theorem contract (H : Type) (enc : TypeId × Value → H) (W : World) (base : Nat) (args : Array Value) (ds gs : List (DataW H)) (before : List MemPlace)
  (hval0 : ∀ (j : Nat) t v, Tryz.f3.params[j]? = some t → args[j]? = some v → Value.okWide Tryz.prog W .any base t v)
  (hW : DataW.Whole enc Tryz.prog Tryz.f3.params.toList Rows.saveEncodesSpec.vars false W args.toList ds gs before) (hk : Rows.uptoSmall H (ds ++ gs) = true) (hL : laidMetH Tryz.prog Rows.saveEncodesUptoRow.laid W) :
  Calls Tryz.prog 3 args W fun e W' => ∃ v, e = .returned v ∧ Rows.saveEncodesSpec.post enc Tryz.prog Tryz.f3 false true false false W args v W' := by
 have hval : ∀ (j : Nat) t v, Tryz.f3.params[j]? = some t → args[j]? = some v → Value.okWide Tryz.prog W .any base t v := hval0
 have hW' := hW
 obtain ⟨p, q, hA0, hV, rfl, hfz, hnd⟩ := hW
 have hA : DataW.TrodAll enc Tryz.prog W 0 (fun _ => true) true Tryz.f3.params.toList args.toList ds p := hA0
 rw [Tryz.params3] at hA hval
 obtain ⟨v0, vs0, d0, ds0, p0, q0, hargs, rfl, rfl, h0, r0⟩ := trodAll_cons hA
 obtain ⟨rfl, rfl, rfl⟩ := trodAll_nil r0
 obtain rfl : args = #[v0] := by cases args; simp_all
 obtain ⟨rfl, rfl⟩ := trodVars_none hV
 have hbulk : Rows.uptoBulkAll [d0] ≤ 1048576 := of_decide_eq_true (by simpa [Rows.uptoSmall] using hk)
 simp only [Rows.uptoBulkAll] at hbulk
 have k0 := h0
 have lt0 : ∀ x ∈ p0, x.block < W.heap.size := by obtain ⟨m, hm⟩ := k0; exact DataW.trod_lt m _ _ _ hm
 have o0 := hval 0 36 v0 rfl rfl
 clear hA0 hval0
 obtain ⟨x, rfl, hr, hb, hat⟩ := open_state (.inr (by obtain ⟨cs, h, _⟩ := WideShapes.okWide_struct Tryz.underlying36 o0; exact ⟨cs, h⟩)) k0 (by omega)
 refine (law_any x W (ld_laid hL) (et_laid hL) hr hb hat).mono fun e W' ⟨he, bel⟩ => ?_
 subst he
 exact ⟨_, rfl, _, _, _, [], _, [], hW', trodAll_mk1 (shut_bool Tryz.underlying4 _), (trodAll_cons_mk (Below.trod laidOut (by kernel_rfl) (of_decide_eq_true (by kernel_rfl)) k0 bel lt0) trodAll_mk0), rfl, bel.frame _, fun h => by cases h⟩

/-- The values of an array's datum. -/
def partsV : DataW Unit → Array Value
 | .agg ds => (ds.map valOf).toArray
 | _ => #[]
/-- A world for the witness: the settled one, each listed variable holding what its initialiser lays. -/
def tabs : List (Nat × Array Value) := [(11, partsV Rows.laid_math_bits_deBruijn32tab),
 (12, partsV Rows.laid_math_bits_deBruijn64tab),
 (9, partsV Rows.laid_internal_strconv_uint64pow10),
 (3, partsV Rows.laid_sluice_api_Keywords),
 (8, partsV Rows.laid_sluice_lex_spellings),
 (6, partsV Rows.laid_sluice_sluiceref5_signs),
 (5, partsV Rows.laid_sluice_sluiceref5_calls),
 (0, partsV Rows.laid_sluice_sluiceref17_first),
 (7, partsV Rows.laid_sluice_show_levels),
 (4, partsV Rows.laid_sluice_show_signs),
 (1, partsV Rows.laid_sluice_show_afters),
 (2, #[.iface 189 (.agg #[.pointer (some ⟨13, 44, none⟩)])])]
def lay (h : Array Obj) (x : Nat × Array Value) : Array Obj := h.modify x.1 fun
 | .cells _ t frozen => .cells x.2 t frozen
 | o => o
noncomputable def laidWorld (os : Os) : World :=
 { World.holding Tryz.prog os ⟨#[], #[], []⟩ with heap := tabs.foldl lay (World.holding Tryz.prog os ⟨#[], #[], []⟩).heap }
def zeroArgs : Array Value := #[.agg #[.slice none 0 0, .slice none 0 0, .int .i64 0, .int .i64 0, .slice none 0 0, .int .i64 0, .string ByteArray.empty, .slice none 0 0, .int .i64 0, .int .i64 0, .bool false, .slice none 0 0, .slice none 0 0, .slice none 0 0, .slice none 0 0]]
theorem laid_met (os : Os) : laidMetH Tryz.prog Rows.saveEncodesUptoRow.laid ((laidWorld os).forCall (fun _ _ => 0) ⟨#[], zeroArgs, []⟩).memory :=
 laidMetH_of_parts (laidMet_of_run' 8 (by kernel_rfl) (by kernel_rfl)) (by kernel_rfl)
theorem reads (os : Os) {H : Type} (enc : TypeId × Value → H) : ∃ places, DataW.whole enc Tryz.prog ((laidWorld os).forCall (fun _ _ => 0) ⟨#[], zeroArgs, []⟩).memory Tryz.f3.params.toList Rows.saveEncodesSpec.vars false zeroArgs.toList 8 = some ([.agg [.agg [.nil], .agg [.nil, .lit (.int .i64 0), .lit (.int .i64 0), .nil, .lit (.int .i64 0), .lit (.string []), .nil], .lit (.int .i64 0), .lit (.int .i64 0), .lit (.bool false), .nil, .nil, .nil, .nil]], [], places) :=
 ⟨[], by kernel_rfl⟩

set_option maxRecDepth 100000 in
theorem liftedUpto (os : Os) (started : os.Started) (H : Type) (enc : TypeId × Value → H) (F : Stop.Interp) :
  ReturnsInHanded {} Tryz.checked os 3 .any ((Rows.OpenSpec.upto Rows.saveEncodesSpec).preRow enc Tryz.prog Tryz.f3 Rows.saveEncodesUptoRow.domain false Rows.saveEncodesUptoRow.laid) (((Rows.OpenSpec.upto Rows.saveEncodesSpec).at F).post enc Tryz.prog Tryz.f3 false true false false) := by
 obtain ⟨places, hx⟩ := reads os enc
 refine returnsInHanded_of_row (C := Tryz.checked) (s := Rows.OpenSpec.upto Rows.saveEncodesSpec) own started (by kernel_rfl) Tryz.func3
  (witness_row_at (enc := enc) (C := Tryz.checked) false (laidWorld os) zeroArgs rfl (by kernel_rfl) (by kernel_rfl) (by kernel_rfl)
   (OpenSpec.preRow_of_cond 8 hx (by kernel_rfl) (fun k hk => by cases hk; kernel_rfl) (by kernel_rfl) (laid_met os))) ?_
 intro W base args ds gs before hval hW _ hcond _ hL _ _
 exact contract H enc W base args ds gs before hval hW (hcond _ rfl) hL

theorem saidUpto : Rows.SaveEncodesUptoSaid :=
 OpenClaim.holds_of_cond 3 Tryz.f3 rfl rfl rfl rfl rfl rfl rfl ⟨rfl, rfl, rfl, rfl, rfl⟩ rfl rfl rfl rfl rfl (by kernel_rfl) Tryz.func3 (by kernel_rfl)
  (of_decide_eq_true (by kernel_rfl)) (by unfold Func.isWrapper; first | (rw [if_pos (by decide +kernel)]; kernel_rfl) | (rw [if_neg (by decide +kernel)]; exact ⟨rfl, rfl⟩))
  (fun os started H enc _ F => by rw [OpenClaim.pre_eq_preRow]; exact liftedUpto os started H enc F)

/-- No parameter wants a stand-in; the program's own looks are off. -/
theorem plain (f : FuncId) (fn : Func) (hf : Tryz.pinned.checked.prog.funcNamed "sluice/sluicelaw17.SaveEncodes" = some f) (hfn : Tryz.pinned.checked.prog.funcs[f]? = some fn) :
  true = Tryz.pinned.checked.prog.looks [] ∧ ∀ (j : Nat) t, fn.params[j]? = some t → Tryz.pinned.checked.prog.wantsStandIn t = false := by
 obtain rfl : f = 3 := Option.some.inj ((show Tryz.prog.funcNamed "sluice/sluicelaw17.SaveEncodes" = some 3 by kernel_rfl).symm.trans hf) |>.symm
 obtain rfl : fn = Tryz.f3 := (Option.some.inj (Tryz.func3.symm.trans hfn)).symm
 refine ⟨by kernel_rfl, fun j t ht => ?_⟩
 rw [Tryz.params3] at ht
 obtain rfl : t = 36 := by simpa using Array.mem_of_getElem? ht
 exact (show Tryz.prog.wantsStandIn 36 = false by kernel_rfl)

/-- The second form's card. -/
theorem cardUpto : Rows.SaveEncodesUptoCardSaid :=
 Claim7.holds_tied_plain_at .later [] _ _ _ _ saidUpto (fun _ h => by cases h) (by kernel_rfl) (fun _ h => by cases h) saveEncodesUpto_row_tie rfl ⟨rfl, rfl⟩ (by kernel_rfl) rfl plain (by kernel_rfl)
#print axioms cardUpto
end Go.Proofs.YtfglgpbjjpoimaaGreatDoor.lSaveEncodesUpto
