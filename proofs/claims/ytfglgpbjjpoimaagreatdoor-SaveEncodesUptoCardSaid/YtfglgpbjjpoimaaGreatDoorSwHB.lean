/- SaveEncodes: the law's sameTexts, sameBytes, sameTree, sameNames, sameEvents: equal lists. -/
import Derived.Test.YtfglgpbjjpoimaaGreatDoorSwGQ
import Derived.Test.YtfglgpbjjpoimaaGreatDoorSwYA
set_option linter.unusedVariables false
namespace Go.Proofs.YtfglgpbjjpoimaaGreatDoor
open Go.RowKit Sv
theorem RdB.at {w : World} {a : Option Addr} {l : List UInt8} (h : Rd w a (l.map B)) (i : Nat) (hi : i < l.length) :
  ∃ b off, a = some ⟨b, off, none⟩ ∧ w.cell? ⟨b, off + i, none⟩ = some (.int .u8 (l[i].toNat : Int)) := by
 have g1 : (l.map B)[i]? = some (B l[i]) := by simp [hi]
 rcases h with h | ⟨b, off, rfl, hc⟩
 ·rw [h] at g1; cases g1
 ·exact ⟨b, off, rfl, hc _ _ g1⟩
def arr8 (x0 x1 x2 x3 x4 x5 x6 x7 : Int) : Value := .agg #[.int .i64 x0, .int .i64 x1, .int .i64 x2, .int .i64 x3, .int .i64 x4, .int .i64 x5, .int .i64 x6, .int .i64 x7]
theorem forIn_all {P : Program} (f : Nat → Bool) (g : Nat → Option Bool × Unit → Sem (ForInStep (Option Bool × Unit))) (w : World) : ∀ (l : List Nat), (∀ i ∈ l, (g i (none, ())).run P w = .ok (if f i then .yield (none, ()) else .done (some false, ())) w) →
  (forIn l ((none, ()) : Option Bool × Unit) g).run P w = .ok (if l.all f then (none, ()) else (some false, ())) w := by
 intro l
 induction l with
 | nil => intro _; simp
 | cons i l ih =>
  intro h
  rw [List.forIn_cons, Sem.run_bind, h i (by simp)]
  simp only [Result.andThen_ok, List.all_cons]
  by_cases hb : f i = true
  ·simp only [hb, Bool.true_and, if_true]
   exact ih fun j hj => h j (List.mem_cons_of_mem _ hj)
  ·simp [hb]
theorem eq8_d (d : Nat) (x0 x1 x2 x3 x4 x5 x6 x7 y0 y1 y2 y3 y4 y5 y6 y7 : Int) (w : World) :
    (Op.equalIn (d + 2) 106 (arr8 x0 x1 x2 x3 x4 x5 x6 x7) (arr8 y0 y1 y2 y3 y4 y5 y6 y7)).run Tryz.prog w =
      .ok (x0 == y0 && (x1 == y1 && (x2 == y2 && (x3 == y3 && (x4 == y4 && (x5 == y5 && (x6 == y6 && x7 == y7))))))) w := by
  have hu := Tryz.underlying106
  have h2 := Tryz.underlying2
  obtain ⟨i0, hi, hz0, hz1, hz2⟩ := info_parts (show (Tryz.prog.info? 2).map (fun i => (i.zero, i.size, i.bytes)) = some (some (.int .i64 0), 1, 8) by kernel_rfl)
  have hp : ∀ (w : World) (cs : Array Value) (k : Nat) (v : Value), cs[k]? = some v → (part 2 cs k).run Tryz.prog w = .ok v w := by
    intro w cs k v hv
    simp [part, Sem.run_bind, hv]
  have he : ∀ (w : World) (a b : Int), (Op.equalIn (d + 1) 2 (.int .i64 a) (.int .i64 b)).run Tryz.prog w = .ok (a == b) w := fun w a b => run_equalIn_int w d 2 .i64 .i64 a b h2
  have hs : ∀ w : World, (sizeOf 2).run Tryz.prog w = .ok 1 w := by
    intro w
    simp [sizeOf, typeInfo, hi, hz1]
  unfold arr8
  rw [Op.equalIn]
  simp only [Sem.run_bind, run_underlying hu, Result.andThen_ok, hs]
  generalize Op.equalIn (d + 1) = E at he ⊢
  simp only [Std.Legacy.Range.forIn_eq_forIn_range', Std.Legacy.Range.size]
  rw [show List.range' 0 ((8 - 0 + 1 - 1) / 1) = [0, 1, 2, 3, 4, 5, 6, 7] by decide]
  have hx := forIn_all (P := Tryz.prog) (fun i => match i with | 0 => x0 == y0 | 1 => x1 == y1 | 2 => x2 == y2 | 3 => x3 == y3 | 4 => x4 == y4 | 5 => x5 == y5 | 6 => x6 == y6 | _ => x7 == y7) (fun i __s => do
            let __do_lift ← part 2 #[Value.int IntKind.i64 x0, Value.int IntKind.i64 x1, Value.int IntKind.i64 x2, Value.int IntKind.i64 x3, Value.int IntKind.i64 x4, Value.int IntKind.i64 x5, Value.int IntKind.i64 x6, Value.int IntKind.i64 x7] (i * 1)
            let __do_lift_1 ← part 2 #[Value.int IntKind.i64 y0, Value.int IntKind.i64 y1, Value.int IntKind.i64 y2, Value.int IntKind.i64 y3, Value.int IntKind.i64 y4, Value.int IntKind.i64 y5, Value.int IntKind.i64 y6, Value.int IntKind.i64 y7] (i * 1)
            let __do_lift ← E 2 __do_lift __do_lift_1
            if (!__do_lift) = true then pure (ForInStep.done (some false, ())) else pure (ForInStep.yield (none, ()))) w [0, 1, 2, 3, 4, 5, 6, 7] (by
    have key : ∀ (k : Nat) (x y : Int), #[Value.int IntKind.i64 x0, Value.int IntKind.i64 x1, Value.int IntKind.i64 x2, Value.int IntKind.i64 x3, Value.int IntKind.i64 x4, Value.int IntKind.i64 x5, Value.int IntKind.i64 x6, Value.int IntKind.i64 x7][k]? = some (.int .i64 x) →
        #[Value.int IntKind.i64 y0, Value.int IntKind.i64 y1, Value.int IntKind.i64 y2, Value.int IntKind.i64 y3, Value.int IntKind.i64 y4, Value.int IntKind.i64 y5, Value.int IntKind.i64 y6, Value.int IntKind.i64 y7][k]? = some (.int .i64 y) →
        (do
            let __do_lift ← part 2 #[Value.int IntKind.i64 x0, Value.int IntKind.i64 x1, Value.int IntKind.i64 x2, Value.int IntKind.i64 x3, Value.int IntKind.i64 x4, Value.int IntKind.i64 x5, Value.int IntKind.i64 x6, Value.int IntKind.i64 x7] (k * 1)
            let __do_lift_1 ← part 2 #[Value.int IntKind.i64 y0, Value.int IntKind.i64 y1, Value.int IntKind.i64 y2, Value.int IntKind.i64 y3, Value.int IntKind.i64 y4, Value.int IntKind.i64 y5, Value.int IntKind.i64 y6, Value.int IntKind.i64 y7] (k * 1)
            let __do_lift ← E 2 __do_lift __do_lift_1
            if (!__do_lift) = true then pure (ForInStep.done (some false, ())) else pure (ForInStep.yield ((none, ()) : Option Bool × Unit)) : Sem (ForInStep (Option Bool × Unit))).run Tryz.prog w = .ok (if x == y then .yield (none, ()) else .done (some false, ())) w := by
      intro k x y h1 h2
      simp only [Sem.run_bind, Nat.mul_one, hp w _ k _ h1, hp w _ k _ h2, Result.andThen_ok, he]
      cases x == y <;> simp
    intro i hi
    simp only [List.mem_cons, List.not_mem_nil, or_false] at hi
    rcases hi with rfl | rfl | rfl | rfl | rfl | rfl | rfl | rfl
    · exact key 0 x0 y0 rfl rfl
    · exact key 1 x1 y1 rfl rfl
    · exact key 2 x2 y2 rfl rfl
    · exact key 3 x3 y3 rfl rfl
    · exact key 4 x4 y4 rfl rfl
    · exact key 5 x5 y5 rfl rfl
    · exact key 6 x6 y6 rfl rfl
    · exact key 7 x7 y7 rfl rfl)
  rw [hx]
  simp only [Result.andThen_ok, List.all_cons, List.all_nil, Bool.and_true]
  generalize (x0 == y0 && (x1 == y1 && (x2 == y2 && (x3 == y3 && (x4 == y4 && (x5 == y5 && (x6 == y6 && x7 == y7))))))) = c
  cases c <;> simp
set_option maxHeartbeats 1000000 in
set_option maxRecDepth 20000 in
theorem sameTexts_any (a b : Option Addr) (ca cb n : Nat) (l : List Str) (w : World) (hn : l.length = n) (hN : n ≤ 140737488355328) (ha : RdS w a l) (hb : RdS w b l) :
  Calls Tryz.prog 80 #[.slice a n ca, .slice b n cb] w fun e w' => e = .returned (.bool true) ∧ Below w.heap.size w w' := by
 have HA := Lib.hid ha
 have HB := Lib.hid hb
 have HN := Lib.hid hn
 clear ha hb hn
 go_enter Tryz.func80, Tryz.ntmps80
 go_wp2_with fail
 go_loopw [5] (fun i wr => ∃ k : Nat, k ≤ n ∧ i = .int .i64 (k : Int) ∧ Below w.heap.size w wr) (fun i _ => n - (intOf i).toNat)
 case atStart => exact ⟨0, Nat.zero_le _, rfl, Below.refl _ _⟩
 case round =>
  obtain ⟨k, hkn, rfl, hbw⟩ := hrel
  have HBW := Lib.hid hbw
  by_cases hlt : k < n
  ·have hlt' : (k : Int) < n := by omega
   have hk0 : (0 : Int) ≤ k := by omega
   have hjl : k < l.length := by rw [HN.out]; exact hlt
   have HME := Lib.hid (meas_lt hlt)
   obtain ⟨b1, o1, rfl, e0⟩ := RdS.at (HA.out.below hbw) k hjl
   obtain ⟨b2, o2, rfl, f0⟩ := RdS.at (HB.out.below hbw) k hjl
   obtain ⟨u, hu⟩ : ∃ u, u = l[k] := ⟨_, rfl⟩
   rw [← hu] at e0 f0
   clear hu
   try simp only [T] at e0 f0
   clear hbw
   go_wp2_with fail
   go_quiet (fail)
   go_wp2_with fail
   go_roundw
   case rel => exact ⟨k + 1, hlt, by go_num, HBW.out.trans ((below_draws _).mono HBW.out.size)⟩
   case measure => exact HME.out
  ·have hk' : ¬ (k : Int) < n := by omega
   clear hbw
   go_wp2_with fail
   go_ret
   exact ⟨rfl, HBW.out⟩
set_option maxHeartbeats 1000000 in
set_option maxRecDepth 20000 in
theorem sameBytes_any (a b : Option Addr) (ca cb n : Nat) (l : List UInt8) (w : World) (hn : l.length = n) (hN : n ≤ 140737488355328) (ha : Rd w a (l.map B)) (hb : Rd w b (l.map B)) :
  Calls Tryz.prog 9 #[.slice a n ca, .slice b n cb] w fun e w' => e = .returned (.bool true) ∧ Below w.heap.size w w' := by
 have HA := Lib.hid ha
 have HB := Lib.hid hb
 have HN := Lib.hid hn
 clear ha hb hn
 go_enter Tryz.func9, Tryz.ntmps9
 go_wp2_with fail
 go_loopw [5] (fun i wr => ∃ k : Nat, k ≤ n ∧ i = .int .i64 (k : Int) ∧ Below w.heap.size w wr) (fun i _ => n - (intOf i).toNat)
 case atStart => exact ⟨0, Nat.zero_le _, rfl, Below.refl _ _⟩
 case round =>
  obtain ⟨k, hkn, rfl, hbw⟩ := hrel
  have HBW := Lib.hid hbw
  by_cases hlt : k < n
  ·have hlt' : (k : Int) < n := by omega
   have hk0 : (0 : Int) ≤ k := by omega
   have hjl : k < l.length := by rw [HN.out]; exact hlt
   have HME := Lib.hid (meas_lt hlt)
   obtain ⟨b1, o1, rfl, e0⟩ := RdB.at (HA.out.below hbw) k hjl
   obtain ⟨b2, o2, rfl, f0⟩ := RdB.at (HB.out.below hbw) k hjl
   obtain ⟨u, hu⟩ : ∃ u, u = l[k] := ⟨_, rfl⟩
   rw [← hu] at e0 f0
   clear hu
   try simp only [T] at e0 f0
   clear hbw
   go_wp2_with fail
   go_quiet (fail)
   go_wp2_with fail
   go_roundw
   case rel => exact ⟨k + 1, hlt, by go_num, HBW.out.trans ((below_draws _).mono HBW.out.size)⟩
   case measure => exact HME.out
  ·have hk' : ¬ (k : Int) < n := by omega
   clear hbw
   go_wp2_with fail
   go_ret
   exact ⟨rfl, HBW.out⟩
set_option maxHeartbeats 1000000 in
set_option maxRecDepth 20000 in
theorem sameTree_any (a b : Option Addr) (ca cb n : Nat) (l : List Nd) (w : World) (hn : l.length = n) (hN : n ≤ 140737488355328) (ha : RdN w a l) (hb : RdN w b l) :
  Calls Tryz.prog 81 #[.slice a n ca, .slice b n cb] w fun e w' => e = .returned (.bool true) ∧ Below w.heap.size w w' := by
 have HA := Lib.hid ha
 have HB := Lib.hid hb
 have HN := Lib.hid hn
 clear ha hb hn
 go_enter Tryz.func81, Tryz.ntmps81
 go_wp2_with fail
 go_loopw [5] (fun i wr => ∃ k : Nat, k ≤ n ∧ i = .int .i64 (k : Int) ∧ Below w.heap.size w wr) (fun i _ => n - (intOf i).toNat)
 case atStart => exact ⟨0, Nat.zero_le _, rfl, Below.refl _ _⟩
 case round =>
  obtain ⟨k, hkn, rfl, hbw⟩ := hrel
  have HBW := Lib.hid hbw
  by_cases hlt : k < n
  ·have hlt' : (k : Int) < n := by omega
   have hk0 : (0 : Int) ≤ k := by omega
   have hjl : k < l.length := by rw [HN.out]; exact hlt
   have HME := Lib.hid (meas_lt hlt)
   obtain ⟨b1, o1, rfl, e0, e1, e2, e3, e4, e5⟩ := RdN.at (HA.out.below hbw) k hjl
   obtain ⟨b2, o2, rfl, f0, f1, f2, f3, f4, f5⟩ := RdN.at (HB.out.below hbw) k hjl
   obtain ⟨u, hu⟩ : ∃ u, u = l[k] := ⟨_, rfl⟩
   rw [← hu] at e0 e1 e2 e3 e4 e5 f0 f1 f2 f3 f4 f5
   clear hu
   try simp only [T] at e0 f0
   obtain ⟨u0, u1, u2, u3, u4, u5⟩ := u
   simp only [T] at e0 e1 e2 e3 e4 e5 f0 f1 f2 f3 f4 f5
   clear hbw
   go_wp2_with fail
   go_quiet (fail)
   go_wp2_with fail
   go_roundw
   case rel => exact ⟨k + 1, hlt, by go_num, HBW.out.trans ((below_draws _).mono HBW.out.size)⟩
   case measure => exact HME.out
  ·have hk' : ¬ (k : Int) < n := by omega
   clear hbw
   go_wp2_with fail
   go_ret
   exact ⟨rfl, HBW.out⟩
set_option maxHeartbeats 1000000 in
set_option maxRecDepth 20000 in
theorem sameNames_any (a b : Option Addr) (ca cb n : Nat) (l : List Nm) (w : World) (hn : l.length = n) (hN : n ≤ 140737488355328) (ha : RdNm w a l) (hb : RdNm w b l) :
  Calls Tryz.prog 38 #[.slice a n ca, .slice b n cb] w fun e w' => e = .returned (.bool true) ∧ Below w.heap.size w w' := by
 have HA := Lib.hid ha
 have HB := Lib.hid hb
 have HN := Lib.hid hn
 clear ha hb hn
 go_enter Tryz.func38, Tryz.ntmps38
 go_wp2_with fail
 go_loopw [5] (fun i wr => ∃ k : Nat, k ≤ n ∧ i = .int .i64 (k : Int) ∧ Below w.heap.size w wr) (fun i _ => n - (intOf i).toNat)
 case atStart => exact ⟨0, Nat.zero_le _, rfl, Below.refl _ _⟩
 case round =>
  obtain ⟨k, hkn, rfl, hbw⟩ := hrel
  have HBW := Lib.hid hbw
  by_cases hlt : k < n
  ·have hlt' : (k : Int) < n := by omega
   have hk0 : (0 : Int) ≤ k := by omega
   have hjl : k < l.length := by rw [HN.out]; exact hlt
   have HME := Lib.hid (meas_lt hlt)
   obtain ⟨b1, o1, rfl, e0, e1⟩ := RdNm.at (HA.out.below hbw) k hjl
   obtain ⟨b2, o2, rfl, f0, f1⟩ := RdNm.at (HB.out.below hbw) k hjl
   obtain ⟨u, hu⟩ : ∃ u, u = l[k] := ⟨_, rfl⟩
   rw [← hu] at e0 e1 f0 f1
   clear hu
   try simp only [T] at e0 f0
   obtain ⟨u0, u1⟩ := u
   dsimp only at e0 e1 f0 f1
   clear hbw
   go_wp2_with fail
   go_quiet (fail)
   go_wp2_with fail
   go_roundw
   case rel => exact ⟨k + 1, hlt, by go_num, HBW.out.trans ((below_draws _).mono HBW.out.size)⟩
   case measure => exact HME.out
  ·have hk' : ¬ (k : Int) < n := by omega
   clear hbw
   go_wp2_with fail
   go_ret
   exact ⟨rfl, HBW.out⟩
set_option maxHeartbeats 1000000 in
set_option maxRecDepth 20000 in
theorem sameEvents_any (a b : Option Addr) (ca cb n : Nat) (l : List Ev) (w : World) (hn : l.length = n) (hN : n ≤ 140737488355328) (ha : RdE w a l) (hb : RdE w b l) :
  Calls Tryz.prog 36 #[.slice a n ca, .slice b n cb] w fun e w' => e = .returned (.bool true) ∧ Below w.heap.size w w' := by
 have HA := Lib.hid ha
 have HB := Lib.hid hb
 have HN := Lib.hid hn
 clear ha hb hn
 go_enter Tryz.func36, Tryz.ntmps36
 go_wp2_with fail
 go_loopw [5] (fun i wr => ∃ k : Nat, k ≤ n ∧ i = .int .i64 (k : Int) ∧ Below w.heap.size w wr) (fun i _ => n - (intOf i).toNat)
 case atStart => exact ⟨0, Nat.zero_le _, rfl, Below.refl _ _⟩
 case round =>
  obtain ⟨k, hkn, rfl, hbw⟩ := hrel
  have HBW := Lib.hid hbw
  by_cases hlt : k < n
  ·have hlt' : (k : Int) < n := by omega
   have hk0 : (0 : Int) ≤ k := by omega
   have hjl : k < l.length := by rw [HN.out]; exact hlt
   have HME := Lib.hid (meas_lt hlt)
   obtain ⟨a0, a1, a2, a3, a4, a5, a6, a7, hat⟩ := at8 ((HA.out).2 _ (List.getElem_mem hjl))
   obtain ⟨ts, id, typ, at_, hev⟩ : ∃ ts id typ at_, l[k] = ⟨ts, id, typ, at_⟩ := ⟨_, _, _, _, rfl⟩
   rw [hev] at hat
   dsimp only at hat
   subst hat
   obtain ⟨b1, o1, hb1⟩ := (HA.out.below hbw).some k hjl
   obtain ⟨b2, o2, hb2⟩ := (HB.out.below hbw).some k hjl
   obtain ⟨e0, e1, e2, e3, e4, e5, e6, e7, e8, e9, e10⟩ := (HA.out.below hbw).cells k hjl ts id typ a0 a1 a2 a3 a4 a5 a6 a7 hev b1 o1 hb1
   obtain ⟨f0, f1, f2, f3, f4, f5, f6, f7, f8, f9, f10⟩ := (HB.out.below hbw).cells k hjl ts id typ a0 a1 a2 a3 a4 a5 a6 a7 hev b2 o2 hb2
   subst hb1 hb2
   clear hev
   have heq8 := eq8_d 9997
   unfold arr8 at heq8
   clear hbw
   go_wp2_with fail
   go_quiet (fail)
   go_wp2_with fail
   go_roundw
   case rel => exact ⟨k + 1, hlt, by go_num, HBW.out.trans ((below_draws _).mono HBW.out.size)⟩
   case measure => exact HME.out
  ·have hk' : ¬ (k : Int) < n := by omega
   clear hbw
   go_wp2_with fail
   go_ret
   exact ⟨rfl, HBW.out⟩
end Go.Proofs.YtfglgpbjjpoimaaGreatDoor
/- SaveEncodes: the law's sameSchema, at equal schemas. -/
set_option linter.unusedVariables false
namespace Go.Proofs.YtfglgpbjjpoimaaGreatDoor
open Go.RowKit Sv
theorem tysEq_at {l1 l2 : List Tp} (h : tys l1 = tys l2) (k : Nat) (h1 : k < l1.length) (h2 : k < l2.length) : l1[k].name = l2[k].name ∧ l1[k].attrs = l2[k].attrs := by
 have h3 : (tys l1)[k]? = (tys l2)[k]? := by rw [h]
 simp only [tys, List.getElem?_map, List.getElem?_eq_getElem h1, List.getElem?_eq_getElem h2, Option.map_some, Option.some.injEq, Tp.ty, Ty.mk.injEq] at h3
 exact h3
set_option maxHeartbeats 1000000 in
set_option maxRecDepth 20000 in
theorem sameSchema_any (a b : Option Addr) (ca cb n : Nat) (l1 l2 : List Tp) (w : World) (h1 : l1.length = n) (h2 : l2.length = n) (hN : n ≤ 140737488355328) (ht : tys l1 = tys l2) (hat : ∀ t ∈ l1, t.attrs.length ≤ 140737488355328) (ha : RdT w a l1) (hb : RdT w b l2) :
  Calls Tryz.prog 34 #[.agg #[.slice a n ca], .agg #[.slice b n cb]] w fun e w' => e = .returned (.bool true) ∧ Below w.heap.size w w' := by
 obtain ⟨w0, hw0⟩ : ∃ w0, w0 = (w.alloc (.cells #[.slice a n ca] 24)).alloc (.cells #[.slice b n cb] 24) := ⟨_, rfl⟩
 have HB0 := Lib.hid (show Below w.heap.size w w0 by rw [hw0]; exact bal (bal (Below.refl _ _) (Nat.le_refl _) _) (Nat.le_refl _) _)
 have hE1 : Blk w0 w.heap.size 24 [.slice a n ca] := by rw [hw0]; exact (Blk.new w _ 24).below (bal (Below.refl _ _) (Nat.le_refl _) _)
 have hE2 : Blk w0 (w.heap.size + 1) 24 [.slice b n cb] := by
  have h := Blk.new (w.alloc (.cells #[.slice a n ca] 24)) [.slice b n cb] 24
  rw [World.size_alloc] at h
  rw [hw0]; exact h
 have HA := Lib.hid (ha.below HB0.out)
 have HB := Lib.hid (hb.below HB0.out)
 have HE1 := Lib.hid hE1
 have HE2 := Lib.hid hE2
 have HN1 := Lib.hid h1
 have HN2 := Lib.hid h2
 have HT := Lib.hid ht
 have HAT := Lib.hid hat
 have c0 := hE1.ci 0 rfl
 have d0 := hE2.ci 0 rfl
 clear ha hb hE1 hE2 h1 h2 ht hat
 go_enter Tryz.func34, Tryz.ntmps34
 go_upto_region 1 with fail
 rw [← hw0]
 clear hw0
 go_wp2_with fail
 clear c0 d0
 go_loopw [5] (fun i wr => ∃ k : Nat, k ≤ n ∧ i = .int .i64 (k : Int) ∧ Below w0.heap.size w0 wr) (fun i _ => n - (intOf i).toNat)
 case atStart => exact ⟨0, Nat.zero_le _, rfl, Below.refl _ _⟩
 case round =>
  obtain ⟨k, hkn, rfl, hbw⟩ := hrel
  have HBW := Lib.hid hbw
  have c0 := (HE1.out.below hbw).ci 0 rfl
  by_cases hlt : k < n
  ·have hlt' : (k : Int) < n := by omega
   have hk0 : (0 : Int) ≤ k := by omega
   have hj1 : k < l1.length := by rw [HN1.out]; exact hlt
   have hj2 : k < l2.length := by rw [HN2.out]; exact hlt
   have HME := Lib.hid (meas_lt hlt)
   obtain ⟨hnm, hats⟩ := tysEq_at HT.out k hj1 hj2
   obtain ⟨y1, hy1⟩ : ∃ y, y = l1[k] := ⟨_, rfl⟩
   obtain ⟨y2, hy2⟩ : ∃ y, y = l2[k] := ⟨_, rfl⟩
   obtain ⟨b1, o1, ha1, _⟩ := (HA.out.below hbw).at k hj1
   obtain ⟨b2, o2, ha2, _⟩ := (HB.out.below hbw).at k hj2
   have HC := Lib.hid (fun W (hW : Below w0.heap.size w0 W) => show W.cell? ⟨b1, o1 + k * 2, none⟩ = some (T y1.name) ∧ W.cell? ⟨b1, o1 + k * 2 + 1, none⟩ = some (.slice y1.a y1.attrs.length y1.c) by
    obtain ⟨b', o', h1, h2⟩ := (HA.out.below hW).at k hj1
    rw [ha1] at h1; cases h1; rw [hy1]; exact h2)
   have HD := Lib.hid (fun W (hW : Below w0.heap.size w0 W) => show W.cell? ⟨b2, o2 + k * 2, none⟩ = some (T y2.name) ∧ W.cell? ⟨b2, o2 + k * 2 + 1, none⟩ = some (.slice y2.a y2.attrs.length y2.c) by
    obtain ⟨b', o', h1, h2⟩ := (HB.out.below hW).at k hj2
    rw [ha2] at h1; cases h1; rw [hy2]; exact h2)
   have HTX := Lib.hid (fun W (hW : Below w0.heap.size w0 W) => sameTexts_any y1.a y2.a y1.c y2.c y1.attrs.length y1.attrs W rfl (by rw [hy1]; exact HAT.out _ (List.getElem_mem hj1)) (by rw [hy1]; exact (HA.out.below hW).2 _ (List.getElem_mem hj1)) (by rw [hy1, hats, hy2]; exact (HB.out.below hW).2 _ (List.getElem_mem hj2)))
   rw [← hy1, ← hy2] at hnm hats
   obtain ⟨nm, ats, aa, ac⟩ := y1
   obtain ⟨nm2, ats2, ba, bc⟩ := y2
   dsimp only at hnm hats
   subst hnm hats
   dsimp only at HC HD HTX
   simp only [T] at HC HD
   obtain ⟨na, hna⟩ : ∃ n, n = ats.length := ⟨_, rfl⟩
   rw [← hna] at HC HD HTX
   have HA1 := Lib.hid ha1
   have HA2 := Lib.hid ha2
   subst ha1 ha2
   have c0w := c0
   clear hbw hy1 hy2 hna c0
   have HBQ := Lib.hid (show Below wr.heap.size wr wr.drew from (Below.refl _ _).drew)
   have c0 := (HE1.out.below (HBW.out.trans (HBQ.out.mono HBW.out.size))).ci 0 rfl
   have d0 := (HE2.out.below (HBW.out.trans (HBQ.out.mono HBW.out.size))).ci 0 rfl
   obtain ⟨e0, e1⟩ := HC.out _ (HBW.out.trans (HBQ.out.mono HBW.out.size))
   obtain ⟨f0, f1⟩ := HD.out _ (HBW.out.trans (HBQ.out.mono HBW.out.size))
   go_wp2_with fail
   go_region_held3 (fun W => W.cell? ⟨w.heap.size, 0, none⟩ = some (.slice (some ⟨b1, o1, none⟩) n ca) ∧ W.cell? ⟨w.heap.size + 1, 0, none⟩ = some (.slice (some ⟨b2, o2, none⟩) n cb) ∧ W.cell? ⟨b1, o1 + k * 2, none⟩ = some (.string ⟨nm.toArray⟩) ∧ W.cell? ⟨b1, o1 + k * 2 + 1, none⟩ = some (.slice aa na ac) ∧ W.cell? ⟨b2, o2 + k * 2, none⟩ = some (.string ⟨nm.toArray⟩) ∧ W.cell? ⟨b2, o2 + k * 2 + 1, none⟩ = some (.slice ba na bc))
    (first | exact ⟨c0, d0, e0, e1, f0, f1⟩ | (refine ⟨?_, ?_, ?_, ?_, ?_, ?_⟩ <;> assumption)) (first
    | (go_at_call 80; refine (HTX.out _ (HBW.out.trans (HBQ.out.mono HBW.out.size))).mono ?_; rintro e wD ⟨rfl, hbD⟩; (have HBQ := Lib.hid (HBQ.out.trans (hbD.mono HBQ.out.size))); (have c0 := (HE1.out.below (HBW.out.trans (HBQ.out.mono HBW.out.size))).ci 0 rfl); (have d0 := (HE2.out.below (HBW.out.trans (HBQ.out.mono HBW.out.size))).ci 0 rfl); (obtain ⟨e0, e1⟩ := HC.out _ (HBW.out.trans (HBQ.out.mono HBW.out.size))); (obtain ⟨f0, f1⟩ := HD.out _ (HBW.out.trans (HBQ.out.mono HBW.out.size))); clear hbD))
   clear c0w c0 d0 e0 e1 f0 f1
   go_wp2_with fail
   go_roundw
   case rel => exact ⟨k + 1, hlt, by go_num, HBW.out.trans (HBQ.out.mono HBW.out.size)⟩
   case measure => exact HME.out
  ·have hk' : ¬ (k : Int) < n := by omega
   clear hbw
   go_wp2_with fail
   go_ret
   exact ⟨rfl, HB0.out.trans (HBW.out.mono HB0.out.size)⟩
end Go.Proofs.YtfglgpbjjpoimaaGreatDoor
/- SaveEncodes: the law's sameMatch, sameMatches, at equal matches. -/
set_option linter.unusedVariables false
namespace Go.Proofs.YtfglgpbjjpoimaaGreatDoor
open Go.RowKit Sv
set_option maxHeartbeats 2000000 in
set_option maxRecDepth 20000 in
theorem sameMatch_any (x y : Mm) (w : World) (hm : x.m = y.m) (h1 : x.m.names.length ≤ 140737488355328) (h2 : x.m.lens.length ≤ 140737488355328) (h3 : x.m.vals.length ≤ 140737488355328) (hx : RdMl w x) (hy : RdMl w y) :
  Calls Tryz.prog 82 #[.agg (mmc x).toArray, .agg (mmc y).toArray] w fun e w' => e = .returned (.bool true) ∧ Below w.heap.size w w' := by
 obtain ⟨⟨d, ns, ls, vs⟩, na1, nc1, la1, lc1, va1, vc1⟩ := x
 obtain ⟨m2, na2, nc2, la2, lc2, va2, vc2⟩ := y
 dsimp only at hm h1 h2 h3
 subst hm
 obtain ⟨n1, hn1⟩ : ∃ n, n = ns.length := ⟨_, rfl⟩
 obtain ⟨n2, hn2⟩ : ∃ n, n = ls.length := ⟨_, rfl⟩
 obtain ⟨n3, hn3⟩ : ∃ n, n = vs.length := ⟨_, rfl⟩
 obtain ⟨w0, hw0⟩ : ∃ w0, w0 = (w.alloc (.cells #[.int .i64 d, .slice na1 n1 nc1, .slice la1 n2 lc1, .slice va1 n3 vc1] 62)).alloc (.cells #[.int .i64 d, .slice na2 n1 nc2, .slice la2 n2 lc2, .slice va2 n3 vc2] 62) := ⟨_, rfl⟩
 have HB0 := Lib.hid (show Below w.heap.size w w0 by rw [hw0]; exact bal (bal (Below.refl _ _) (Nat.le_refl _) _) (Nat.le_refl _) _)
 have HE1 := Lib.hid (show Blk w0 w.heap.size 62 [.int .i64 d, .slice na1 n1 nc1, .slice la1 n2 lc1, .slice va1 n3 vc1] by rw [hw0]; exact (Blk.new w _ 62).below (bal (Below.refl _ _) (Nat.le_refl _) _))
 have HE2 := Lib.hid (show Blk w0 (w.heap.size + 1) 62 [.int .i64 d, .slice na2 n1 nc2, .slice la2 n2 lc2, .slice va2 n3 vc2] by
  have h := Blk.new (w.alloc (.cells #[.int .i64 d, .slice na1 n1 nc1, .slice la1 n2 lc1, .slice va1 n3 vc1] 62)) [.int .i64 d, .slice na2 n1 nc2, .slice la2 n2 lc2, .slice va2 n3 vc2] 62
  rw [World.size_alloc] at h
  rw [hw0]; exact h)
 have HX := Lib.hid (hx.below HB0.out)
 have HY := Lib.hid (hy.below HB0.out)
 have HSN := Lib.hid (fun W (hW : Below w0.heap.size w0 W) => sameNames_any na1 na2 nc1 nc2 n1 ns W hn1.symm (by rw [hn1]; exact h1) (HX.out.below hW).1 (HY.out.below hW).1)
 simp only [mmc, ← hn1, ← hn2, ← hn3]
 rw [← hn2] at h2
 rw [← hn3] at h3
 have HN2 := Lib.hid hn2
 have HN3 := Lib.hid hn3
 clear hx hy hn1 hn2 hn3 h1
 have c0 := HE1.out.ci 0 rfl
 have c1 := HE1.out.ci 1 rfl
 have d0 := HE2.out.ci 0 rfl
 have d1 := HE2.out.ci 1 rfl
 go_enter Tryz.func82, Tryz.ntmps82
 go_upto_region 1 with fail
 rw [← hw0]
 clear hw0
 go_wp2_with fail
 refine (HSN.out w0 (Below.refl _ _)).mono ?_
 rintro e w1 ⟨rfl, hb1⟩
 have c2 := (HE1.out.below hb1).ci 2 rfl
 have d2 := (HE2.out.below hb1).ci 2 rfl
 have c3 := (HE1.out.below hb1).ci 3 rfl
 have d3 := (HE2.out.below hb1).ci 3 rfl
 have HB1 := Lib.hid hb1
 clear c0 c1 d0 d1 hb1
 go_wp2_with fail
 clear c2 d2 c3 d3
 go_loopw [5] (fun i wr => ∃ k : Nat, k ≤ n2 ∧ i = .int .i64 (k : Int) ∧ Below w0.heap.size w0 wr) (fun i _ => n2 - (intOf i).toNat)
 case atStart => exact ⟨0, Nat.zero_le _, rfl, HB1.out⟩
 case round =>
  obtain ⟨k, hkn, rfl, hbw⟩ := hrel
  have HBW := Lib.hid hbw
  have c2 := (HE1.out.below hbw).ci 2 rfl
  have d2 := (HE2.out.below hbw).ci 2 rfl
  by_cases hlt : k < n2
  ·have hlt' : (k : Int) < n2 := by omega
   have hk0 : (0 : Int) ≤ k := by omega
   have hjl : k < ls.length := by rw [← HN2.out]; exact hlt
   have HME := Lib.hid (meas_lt hlt)
   obtain ⟨b1, o1, rfl, e0⟩ := (HX.out.below hbw).2.1.at k hjl
   obtain ⟨b2, o2, rfl, f0⟩ := (HY.out.below hbw).2.1.at k hjl
   obtain ⟨u, hu⟩ : ∃ u, u = ls[k] := ⟨_, rfl⟩
   dsimp only at e0 f0
   rw [← hu] at e0 f0
   clear hu hbw
   go_wp2_with fail
   go_quiet (fail)
   go_wp2_with fail
   go_roundw
   case rel => exact ⟨k + 1, hlt, by go_num, HBW.out.trans ((below_draws _).mono HBW.out.size)⟩
   case measure => exact HME.out
  ·have hk' : ¬ (k : Int) < n2 := by omega
   obtain ⟨wv, rfl⟩ : ∃ v, v = wr := ⟨_, rfl⟩
   have c3 := (HE1.out.below hbw).ci 3 rfl
   have HB1 := Lib.hid hbw
   clear hbw
   go_wp2_with fail
   clear c2 d2 c3
   go_loopw [6] (fun i wr => ∃ k : Nat, k ≤ n3 ∧ i = .int .i64 (k : Int) ∧ Below w0.heap.size w0 wr) (fun i _ => n3 - (intOf i).toNat)
   case atStart => exact ⟨0, Nat.zero_le _, rfl, HB1.out⟩
   case round =>
    obtain ⟨k, hkn, rfl, hbw⟩ := hrel
    have HBW := Lib.hid hbw
    have c3 := (HE1.out.below hbw).ci 3 rfl
    have d3 := (HE2.out.below hbw).ci 3 rfl
    by_cases hlt : k < n3
    ·have hlt' : (k : Int) < n3 := by omega
     have hk0 : (0 : Int) ≤ k := by omega
     have hjl : k < vs.length := by rw [← HN3.out]; exact hlt
     have HME := Lib.hid (meas_lt hlt)
     obtain ⟨b1, o1, rfl, e0, e1⟩ := (HX.out.below hbw).2.2.at k hjl
     obtain ⟨b2, o2, rfl, f0, f1⟩ := (HY.out.below hbw).2.2.at k hjl
     obtain ⟨u, hu⟩ : ∃ u, u = vs[k] := ⟨_, rfl⟩
     dsimp only at e0 e1 f0 f1
     rw [← hu] at e0 e1 f0 f1
     clear hu hbw
     go_wp2_with fail
     go_quiet (fail)
     go_wp2_with fail
     go_roundw
     case rel => exact ⟨k + 1, hlt, by go_num, HBW.out.trans ((below_draws _).mono HBW.out.size)⟩
     case measure => exact HME.out
    ·have hk' : ¬ (k : Int) < n3 := by omega
     clear hbw
     go_wp2_with fail
     go_ret
     exact ⟨rfl, HB0.out.trans (HBW.out.mono HB0.out.size)⟩

set_option maxHeartbeats 1000000 in
set_option maxRecDepth 20000 in
theorem sameMatches_any (a b : Option Addr) (ca cb n : Nat) (l1 l2 : List Mm) (w : World) (h1 : l1.length = n) (h2 : l2.length = n) (hN : n ≤ 140737488355328) (hm : l1.map (·.m) = l2.map (·.m)) (hbd : ∀ m ∈ l1, MtB m.m) (ha : RdM w a l1) (hb : RdM w b l2) :
  Calls Tryz.prog 37 #[.slice a n ca, .slice b n cb] w fun e w' => e = .returned (.bool true) ∧ Below w.heap.size w w' := by
 have HA := Lib.hid ha
 have HB := Lib.hid hb
 have HN1 := Lib.hid h1
 have HN2 := Lib.hid h2
 have HM := Lib.hid hm
 have HBD := Lib.hid hbd
 clear ha hb h1 h2 hm hbd
 go_enter Tryz.func37, Tryz.ntmps37
 go_wp2_with fail
 go_loopw [5] (fun i wr => ∃ k : Nat, k ≤ n ∧ i = .int .i64 (k : Int) ∧ Below w.heap.size w wr) (fun i _ => n - (intOf i).toNat)
 case atStart => exact ⟨0, Nat.zero_le _, rfl, Below.refl _ _⟩
 case round =>
  obtain ⟨k, hkn, rfl, hbw⟩ := hrel
  have HBW := Lib.hid hbw
  by_cases hlt : k < n
  ·have hlt' : (k : Int) < n := by omega
   have hk0 : (0 : Int) ≤ k := by omega
   have hj1 : k < l1.length := by rw [HN1.out]; exact hlt
   have hj2 : k < l2.length := by rw [HN2.out]; exact hlt
   have HME := Lib.hid (meas_lt hlt)
   have hme : l1[k].m = l2[k].m := by
    have h3 : (l1.map (·.m))[k]? = (l2.map (·.m))[k]? := by rw [HM.out]
    simpa [List.getElem?_map, List.getElem?_eq_getElem hj1, List.getElem?_eq_getElem hj2] using h3
   have hmb := HBD.out _ (List.getElem_mem (l := l1) hj1)
   obtain ⟨b1, o1, ha1, _⟩ := (HA.out.below hbw).at k hj1
   obtain ⟨b2, o2, ha2, _⟩ := (HB.out.below hbw).at k hj2
   obtain ⟨y1, hy1⟩ : ∃ y, y = l1[k] := ⟨_, rfl⟩
   obtain ⟨y2, hy2⟩ : ∃ y, y = l2[k] := ⟨_, rfl⟩
   have HC := Lib.hid (fun W (hW : Below w.heap.size w W) => RdM.cells (HA.out.below hW) k hj1 b1 o1 ha1 y1 hy1)
   have HD := Lib.hid (fun W (hW : Below w.heap.size w W) => RdM.cells (HB.out.below hW) k hj2 b2 o2 ha2 y2 hy2)
   have HSM := Lib.hid (fun W (hW : Below w.heap.size w W) => sameMatch_any y1 y2 W (by rw [hy1, hy2]; exact hme) (by rw [hy1]; have := hmb.names; omega) (by rw [hy1]; have := hmb.lens; omega) (by rw [hy1]; have := hmb.vals; omega) (by rw [hy1]; exact (HA.out.below hW).2 _ (List.getElem_mem hj1)) (by rw [hy2]; exact (HB.out.below hW).2 _ (List.getElem_mem hj2)))
   obtain ⟨⟨d, ns, ls, vs⟩, na1, nc1, la1, lc1, va1, vc1⟩ := y1
   obtain ⟨⟨d2, ns2, ls2, vs2⟩, na2, nc2, la2, lc2, va2, vc2⟩ := y2
   obtain ⟨n1, hn1⟩ : ∃ n, n = ns.length := ⟨_, rfl⟩
   obtain ⟨n2, hn2⟩ : ∃ n, n = ls.length := ⟨_, rfl⟩
   obtain ⟨n3, hn3⟩ : ∃ n, n = vs.length := ⟨_, rfl⟩
   obtain ⟨n4, hn4⟩ : ∃ n, n = ns2.length := ⟨_, rfl⟩
   obtain ⟨n5, hn5⟩ : ∃ n, n = ls2.length := ⟨_, rfl⟩
   obtain ⟨n6, hn6⟩ : ∃ n, n = vs2.length := ⟨_, rfl⟩
   simp only [mmc, ← hn1, ← hn2, ← hn3, ← hn4, ← hn5, ← hn6] at HC HD HSM
   subst ha1 ha2
   clear hbw hy1 hy2 hn1 hn2 hn3 hn4 hn5 hn6 hme hmb
   have HBQ := Lib.hid (show Below wr.heap.size wr wr.drew from (Below.refl _ _).drew)
   obtain ⟨e0, e1, e2, e3⟩ := HC.out _ (HBW.out.trans (HBQ.out.mono HBW.out.size))
   obtain ⟨f0, f1, f2, f3⟩ := HD.out _ (HBW.out.trans (HBQ.out.mono HBW.out.size))
   go_wp2_with fail
   go_region_held3 (fun W => W.cell? ⟨b1, o1 + k * 4, none⟩ = some (.int .i64 d) ∧ W.cell? ⟨b1, o1 + k * 4 + 1, none⟩ = some (.slice na1 n1 nc1) ∧ W.cell? ⟨b1, o1 + k * 4 + 2, none⟩ = some (.slice la1 n2 lc1) ∧ W.cell? ⟨b1, o1 + k * 4 + 3, none⟩ = some (.slice va1 n3 vc1) ∧ W.cell? ⟨b2, o2 + k * 4, none⟩ = some (.int .i64 d2) ∧ W.cell? ⟨b2, o2 + k * 4 + 1, none⟩ = some (.slice na2 n4 nc2) ∧ W.cell? ⟨b2, o2 + k * 4 + 2, none⟩ = some (.slice la2 n5 lc2) ∧ W.cell? ⟨b2, o2 + k * 4 + 3, none⟩ = some (.slice va2 n6 vc2))
    (first | exact ⟨e0, e1, e2, e3, f0, f1, f2, f3⟩ | (refine ⟨?_, ?_, ?_, ?_, ?_, ?_, ?_, ?_⟩ <;> assumption)) (first
    | (go_at_call 82; refine (HSM.out _ (HBW.out.trans (HBQ.out.mono HBW.out.size))).mono ?_; rintro e wD ⟨rfl, hbD⟩; (have HBQ := Lib.hid (HBQ.out.trans (hbD.mono HBQ.out.size))); (obtain ⟨e0, e1, e2, e3⟩ := HC.out _ (HBW.out.trans (HBQ.out.mono HBW.out.size))); (obtain ⟨f0, f1, f2, f3⟩ := HD.out _ (HBW.out.trans (HBQ.out.mono HBW.out.size))); clear hbD))
   clear e0 e1 e2 e3 f0 f1 f2 f3
   go_wp2_with fail
   go_roundw
   case rel => exact ⟨k + 1, hlt, by go_num, HBW.out.trans (HBQ.out.mono HBW.out.size)⟩
   case measure => exact HME.out
  ·have hk' : ¬ (k : Int) < n := by omega
   clear hbw
   go_wp2_with fail
   go_ret
   exact ⟨rfl, HBW.out⟩
end Go.Proofs.YtfglgpbjjpoimaaGreatDoor
/- SaveEncodes: the law's sameQuery, at equal queries. -/
set_option linter.unusedVariables false
namespace Go.Proofs.YtfglgpbjjpoimaaGreatDoor
open Go.RowKit Sv
theorem mapEq_at {α β : Type} {f : α → β} {l1 l2 : List α} (h : l1.map f = l2.map f) (k : Nat) (h1 : k < l1.length) (h2 : k < l2.length) : f l1[k] = f l2[k] := by
 have h3 : (l1.map f)[k]? = (l2.map f)[k]? := by rw [h]
 simpa [List.getElem?_map, List.getElem?_eq_getElem h1, List.getElem?_eq_getElem h2] using h3
set_option maxHeartbeats 4000000 in
set_option maxRecDepth 20000 in
theorem sameQuery_any (x y : Qm) (w : World) (hq : x.q = y.q) (hb : QB x) (hx : RdQ w x) (hy : RdQ w y) :
  Calls Tryz.prog 35 #[.agg (qmc x).toArray, .agg (qmc y).toArray] w fun e w' => e = .returned (.bool true) ∧ Below w.heap.size w w' := by
 obtain ⟨items, ia, ic, mode, after, wher, wwa, wcap, within, by_, ret, ra, rc⟩ := x
 obtain ⟨items2, ia2, ic2, mode2, after2, wher2, wwa2, wcap2, within2, by2, ret2, ra2, rc2⟩ := y
 simp only [Qm.q, Qy.mk.injEq] at hq
 obtain ⟨hit, rfl, rfl, rfl, rfl, rfl, hrt⟩ := hq
 obtain ⟨ni, hni⟩ : ∃ n, n = items.length := ⟨_, rfl⟩
 obtain ⟨nwh, hnwh⟩ : ∃ n, n = wher.length := ⟨_, rfl⟩
 obtain ⟨nr, hnr⟩ : ∃ n, n = ret.length := ⟨_, rfl⟩
 have hni2 : ni = items2.length := by rw [hni]; have h := congrArg List.length hit; simpa using h
 have hnr2 : nr = ret2.length := by rw [hnr]; have h := congrArg List.length hrt; simpa using h
 obtain ⟨w0, hw0⟩ : ∃ w0, w0 = (w.alloc (.cells #[.slice ia ni ic, .int .i64 mode, .int .i64 after, .slice wwa nwh wcap, .int .i64 within, .string ⟨by_.toArray⟩, .slice ra nr rc] 31)).alloc (.cells #[.slice ia2 ni ic2, .int .i64 mode, .int .i64 after, .slice wwa2 nwh wcap2, .int .i64 within, .string ⟨by_.toArray⟩, .slice ra2 nr rc2] 31) := ⟨_, rfl⟩
 have HB0 := Lib.hid (show Below w.heap.size w w0 by rw [hw0]; exact bal (bal (Below.refl _ _) (Nat.le_refl _) _) (Nat.le_refl _) _)
 have HE1 := Lib.hid (show Blk w0 w.heap.size 31 [.slice ia ni ic, .int .i64 mode, .int .i64 after, .slice wwa nwh wcap, .int .i64 within, .string ⟨by_.toArray⟩, .slice ra nr rc] by rw [hw0]; exact (Blk.new w _ 31).below (bal (Below.refl _ _) (Nat.le_refl _) _))
 have HE2 := Lib.hid (show Blk w0 (w.heap.size + 1) 31 [.slice ia2 ni ic2, .int .i64 mode, .int .i64 after, .slice wwa2 nwh wcap2, .int .i64 within, .string ⟨by_.toArray⟩, .slice ra2 nr rc2] by
  have h := Blk.new (w.alloc (.cells #[.slice ia ni ic, .int .i64 mode, .int .i64 after, .slice wwa nwh wcap, .int .i64 within, .string ⟨by_.toArray⟩, .slice ra nr rc] 31)) [.slice ia2 ni ic2, .int .i64 mode, .int .i64 after, .slice wwa2 nwh wcap2, .int .i64 within, .string ⟨by_.toArray⟩, .slice ra2 nr rc2] 31
  rw [World.size_alloc] at h
  rw [hw0]; exact h)
 have HX := Lib.hid (hx.below HB0.out)
 have HY := Lib.hid (hy.below HB0.out)
 have HQB := Lib.hid hb
 have HST := Lib.hid (fun W (hW : Below w0.heap.size w0 W) => sameTree_any wwa wwa2 wcap wcap2 nwh wher W hnwh.symm (by rw [hnwh]; exact Nat.le_trans hb.wher (by omega)) (HX.out.below hW).2.1 (HY.out.below hW).2.1)
 simp only [qmc, T, ← hni, ← hnwh, ← hnr, ← hni2, ← hnr2]
 have HNI := Lib.hid hni
 have HNR := Lib.hid hnr
 have HNI2 := Lib.hid hni2
 have HNR2 := Lib.hid hnr2
 have HIT := Lib.hid hit
 have HRT := Lib.hid hrt
 have hni48 : ni ≤ 1048576 := by rw [hni]; exact hb.items
 have hnr48 : nr ≤ 1048576 := by rw [hnr]; exact hb.ret
 clear hx hy hni hnwh hnr hni2 hnr2 hit hrt hb
 have c0 := HE1.out.ci 0 rfl
 have c1 := HE1.out.ci 1 rfl
 have c2 := HE1.out.ci 2 rfl
 have c3 := HE1.out.ci 3 rfl
 have c4 := HE1.out.ci 4 rfl
 have c5 := HE1.out.ci 5 rfl
 have c6 := HE1.out.ci 6 rfl
 have d0 := HE2.out.ci 0 rfl
 have d1 := HE2.out.ci 1 rfl
 have d2 := HE2.out.ci 2 rfl
 have d3 := HE2.out.ci 3 rfl
 have d4 := HE2.out.ci 4 rfl
 have d5 := HE2.out.ci 5 rfl
 have d6 := HE2.out.ci 6 rfl
 go_enter Tryz.func35, Tryz.ntmps35
 go_upto_region 1 with fail
 rw [← hw0]
 clear hw0
 go_wp2_with fail
 refine (HST.out w0 (Below.refl _ _)).mono ?_
 rintro e w1 ⟨rfl, hb1⟩
 have HB1 := Lib.hid hb1
 clear c0 c1 c2 c3 c4 c5 c6 d0 d1 d2 d3 d4 d5 d6
 have c0 := (HE1.out.below hb1).ci 0 rfl
 clear hb1
 go_wp2_with fail
 clear c0
 go_loopw [5] (fun i wr => ∃ k : Nat, k ≤ ni ∧ i = .int .i64 (k : Int) ∧ Below w0.heap.size w0 wr) (fun i _ => ni - (intOf i).toNat)
 case atStart => exact ⟨0, Nat.zero_le _, rfl, HB1.out⟩
 case round =>
  obtain ⟨k, hkn, rfl, hbw⟩ := hrel
  have HBW := Lib.hid hbw
  have c0 := (HE1.out.below hbw).ci 0 rfl
  have d0 := (HE2.out.below hbw).ci 0 rfl
  by_cases hlt : k < ni
  ·have hlt' : (k : Int) < ni := by omega
   have hk0 : (0 : Int) ≤ k := by omega
   have hj1 : k < items.length := by rw [← HNI.out]; exact hlt
   have hj2 : k < items2.length := by rw [← HNI2.out]; exact hlt
   have HME := Lib.hid (meas_lt hlt)
   have hie := mapEq_at HIT.out k hj1 hj2
   obtain ⟨b1, o1, ha1, e0, e1, e2, e3, e4⟩ := RdI.at (HX.out.below hbw).1 k hj1
   obtain ⟨b2, o2, ha2, f0, f1, f2, f3, f4⟩ := RdI.at (HY.out.below hbw).1 k hj2
   obtain ⟨y1, hy1⟩ : ∃ y, y = items[k] := ⟨_, rfl⟩
   obtain ⟨y2, hy2⟩ : ∃ y, y = items2[k] := ⟨_, rfl⟩
   have hty := HQB.out.types _ (List.getElem_mem (l := items) hj1)
   dsimp only at ha1 ha2 e0 e1 e2 e3 e4 f0 f1 f2 f3 f4
   have HTX := Lib.hid (fun W (hW : Below w0.heap.size w0 W) => sameTexts_any y1.a y2.a y1.c y2.c y1.i.types.length y1.i.types W rfl (by rw [hy1]; omega) (by
     have h : RdI W _ items := (HX.out.below hW).1
     rw [hy1]; exact h.2 _ (List.getElem_mem hj1)) (by
     have h : RdI W _ items2 := (HY.out.below hW).1
     rw [hy1, hie, hy2]; exact h.2 _ (List.getElem_mem hj2)))
   rw [← hy1] at e0 e1 e2 e3 e4
   rw [← hy2] at f0 f1 f2 f3 f4
   rw [← hy1, ← hy2] at hie
   obtain ⟨⟨neg, tys, var, lo, hi⟩, ta, tc⟩ := y1
   obtain ⟨i2, ta2, tc2⟩ := y2
   dsimp only at hie
   subst hie
   simp only [T] at e0 e1 e2 e3 e4 f0 f1 f2 f3 f4
   dsimp only at HTX
   obtain ⟨nt, hnt⟩ : ∃ n, n = tys.length := ⟨_, rfl⟩
   rw [← hnt] at HTX e1 f1
   subst ha1 ha2
   obtain ⟨wi, hwi⟩ : ∃ wb, wb = wr.alloc (.cells #[.bool neg, .slice ta nt tc, .string ⟨var.toArray⟩, .int .i64 lo, .int .i64 hi] 105) := ⟨_, rfl⟩
   obtain ⟨gi, hgi⟩ : ∃ gb, gb = wr.heap.size := ⟨_, rfl⟩
   have hbi : Below wr.heap.size wr wi := by rw [hwi]; exact bal (Below.refl _ _) (Nat.le_refl _) _
   have hFi : Blk wi gi 105 [.bool neg, .slice ta nt tc, .string ⟨var.toArray⟩, .int .i64 lo, .int .i64 hi] := by rw [hwi, hgi]; exact Blk.new wr _ 105
   have HBI := Lib.hid (hbw.trans (hbi.mono hbw.size))
   have HFI := Lib.hid hFi
   have d0 := (HE2.out.below HBI.out).ci 0 rfl
   have f0 := hbi.cell (World.block_lt_of_cell? _ _ f0) ▸ f0
   have f1 := hbi.cell (World.block_lt_of_cell? _ _ f1) ▸ f1
   have f2 := hbi.cell (World.block_lt_of_cell? _ _ f2) ▸ f2
   have f3 := hbi.cell (World.block_lt_of_cell? _ _ f3) ▸ f3
   have f4 := hbi.cell (World.block_lt_of_cell? _ _ f4) ▸ f4
   clear hbw hy1 hy2 hnt hty hbi hFi
   go_upto_region 7 with fail
   rw [← hwi, ← hgi]
   clear hwi hgi e0 e1 e2 e3 e4 c0
   obtain ⟨wj, hwj⟩ : ∃ wb, wb = wi.alloc (.cells #[.bool neg, .slice ta2 nt tc2, .string ⟨var.toArray⟩, .int .i64 lo, .int .i64 hi] 105) := ⟨_, rfl⟩
   obtain ⟨gj, hgj⟩ : ∃ gb, gb = wi.heap.size := ⟨_, rfl⟩
   have hbj : Below wi.heap.size wi wj := by rw [hwj]; exact bal (Below.refl _ _) (Nat.le_refl _) _
   have hFj : Blk wj gj 105 [.bool neg, .slice ta2 nt tc2, .string ⟨var.toArray⟩, .int .i64 lo, .int .i64 hi] := by rw [hwj, hgj]; exact Blk.new wi _ 105
   have HBJ := Lib.hid (HBI.out.trans (hbj.mono HBI.out.size))
   have HFIJ := Lib.hid (HFI.out.below hbj)
   have HFJ := Lib.hid hFj
   go_upto_region 8 with fail
   rw [← hwj, ← hgj]
   clear hwj hgj hbj hFj d0 f0 f1 f2 f3 f4
   have i0 := HFIJ.out.ci 0 rfl
   have i1 := HFIJ.out.ci 1 rfl
   have i2 := HFIJ.out.ci 2 rfl
   have i3 := HFIJ.out.ci 3 rfl
   have i4 := HFIJ.out.ci 4 rfl
   have j0 := HFJ.out.ci 0 rfl
   have j1 := HFJ.out.ci 1 rfl
   have j2 := HFJ.out.ci 2 rfl
   have j3 := HFJ.out.ci 3 rfl
   have j4 := HFJ.out.ci 4 rfl
   go_wp2_with fail
   refine (HTX.out wj HBJ.out).mono ?_
   rintro e wk ⟨rfl, hbk⟩
   have HBK := Lib.hid (HBJ.out.trans (hbk.mono HBJ.out.size))
   clear i0 i1 i2 i3 i4 j0 j1 j2 j3 j4 hbk
   go_wp2_with fail
   go_roundw
   case rel => exact ⟨k + 1, hlt, by go_num, HBK.out⟩
   case measure => exact HME.out
  ·have hk' : ¬ (k : Int) < ni := by omega
   have c6 := (HE1.out.below hbw).ci 6 rfl
   clear hbw
   obtain ⟨wv, rfl⟩ : ∃ v, v = wr := ⟨_, rfl⟩
   have HB1 := Lib.hid HBW.out
   go_wp2_with fail
   clear c0 d0 c6
   go_loopw [8] (fun i wr => ∃ k : Nat, k ≤ nr ∧ i = .int .i64 (k : Int) ∧ Below w0.heap.size w0 wr) (fun i _ => nr - (intOf i).toNat)
   case atStart => exact ⟨0, Nat.zero_le _, rfl, HB1.out⟩
   case round =>
    obtain ⟨j, hjn, rfl, hbw⟩ := hrel
    have HBW := Lib.hid hbw
    have c6 := (HE1.out.below hbw).ci 6 rfl
    by_cases hlt : j < nr
    ·have hlt' : (j : Int) < nr := by omega
     have hk0 : (0 : Int) ≤ j := by omega
     have hj1 : j < ret.length := by rw [← HNR.out]; exact hlt
     have hj2 : j < ret2.length := by rw [← HNR2.out]; exact hlt
     have HME := Lib.hid (meas_lt hlt)
     have hie := mapEq_at HRT.out j hj1 hj2
     obtain ⟨b1, o1, ha1, _⟩ := RdR.at (HX.out.below hbw).2.2 j hj1
     obtain ⟨b2, o2, ha2, _⟩ := RdR.at (HY.out.below hbw).2.2 j hj2
     dsimp only at ha1 ha2
     obtain ⟨y1, hy1⟩ : ∃ y, y = ret[j] := ⟨_, rfl⟩
     obtain ⟨y2, hy2⟩ : ∃ y, y = ret2[j] := ⟨_, rfl⟩
     have hty := HQB.out.trees _ (List.getElem_mem (l := ret) hj1)
     have HC := Lib.hid (fun W (hW : Below w0.heap.size w0 W) => show W.cell? ⟨b1, o1 + j, none⟩ = some (.slice y1.a y1.t.length y1.c) by
      obtain ⟨b', o', h1, h2⟩ := RdR.at (HX.out.below hW).2.2 j hj1
      dsimp only at h1
      rw [ha1] at h1; cases h1; rw [hy1]; exact h2)
     have HD := Lib.hid (fun W (hW : Below w0.heap.size w0 W) => show W.cell? ⟨b2, o2 + j, none⟩ = some (.slice y2.a y2.t.length y2.c) by
      obtain ⟨b', o', h1, h2⟩ := RdR.at (HY.out.below hW).2.2 j hj2
      dsimp only at h1
      rw [ha2] at h1; cases h1; rw [hy2]; exact h2)
     have HTX := Lib.hid (fun W (hW : Below w0.heap.size w0 W) => sameTree_any y1.a y2.a y1.c y2.c y1.t.length y1.t W rfl (by rw [hy1]; omega) (by
       have h : RdR W _ ret := (HX.out.below hW).2.2
       rw [hy1]; exact h.2 _ (List.getElem_mem hj1)) (by
       have h : RdR W _ ret2 := (HY.out.below hW).2.2
       rw [hy1, hie, hy2]; exact h.2 _ (List.getElem_mem hj2)))
     rw [← hy1, ← hy2] at hie
     obtain ⟨t1, ta, tc⟩ := y1
     obtain ⟨t2, ta2, tc2⟩ := y2
     dsimp only at hie HTX HC HD
     subst hie
     obtain ⟨nt, hnt⟩ : ∃ n, n = t1.length := ⟨_, rfl⟩
     rw [← hnt] at HTX HC HD
     subst ha1 ha2
     have c6w := c6
     clear hbw hy1 hy2 hnt hty c6
     have HBQ := Lib.hid (show Below wr.heap.size wr wr.drew from (Below.refl _ _).drew)
     have c6 := (HE1.out.below (HBW.out.trans (HBQ.out.mono HBW.out.size))).ci 6 rfl
     have d6 := (HE2.out.below (HBW.out.trans (HBQ.out.mono HBW.out.size))).ci 6 rfl
     have e0 := HC.out _ (HBW.out.trans (HBQ.out.mono HBW.out.size))
     have f0 := HD.out _ (HBW.out.trans (HBQ.out.mono HBW.out.size))
     go_wp2_with fail
     go_region_held3 (fun W => W.cell? ⟨w.heap.size, 6, none⟩ = some (.slice (some ⟨b1, o1, none⟩) nr rc) ∧ W.cell? ⟨w.heap.size + 1, 6, none⟩ = some (.slice (some ⟨b2, o2, none⟩) nr rc2) ∧ W.cell? ⟨b1, o1 + j, none⟩ = some (.slice ta nt tc) ∧ W.cell? ⟨b2, o2 + j, none⟩ = some (.slice ta2 nt tc2))
      (first | exact ⟨c6, d6, e0, f0⟩ | (refine ⟨?_, ?_, ?_, ?_⟩ <;> assumption)) (first
      | (go_at_call 81; refine (HTX.out _ (HBW.out.trans (HBQ.out.mono HBW.out.size))).mono ?_; rintro e wD ⟨rfl, hbD⟩; (have HBQ := Lib.hid (HBQ.out.trans (hbD.mono HBQ.out.size))); (have c6 := (HE1.out.below (HBW.out.trans (HBQ.out.mono HBW.out.size))).ci 6 rfl); (have d6 := (HE2.out.below (HBW.out.trans (HBQ.out.mono HBW.out.size))).ci 6 rfl); (have e0 := HC.out _ (HBW.out.trans (HBQ.out.mono HBW.out.size))); (have f0 := HD.out _ (HBW.out.trans (HBQ.out.mono HBW.out.size))); clear hbD))
     clear c6w c6 d6 e0 f0
     go_wp2_with fail
     go_roundw
     case rel => exact ⟨j + 1, hlt, by go_num, HBW.out.trans (HBQ.out.mono HBW.out.size)⟩
     case measure => exact HME.out
    ·have hk' : ¬ (j : Int) < nr := by omega
     clear hbw
     go_wp2_with fail
     go_ret
     exact ⟨rfl, HB0.out.trans (HBW.out.mono HB0.out.size)⟩
end Go.Proofs.YtfglgpbjjpoimaaGreatDoor
/- SaveEncodes: the law's sameState, at states of the same contents. -/
set_option linter.unusedVariables false
namespace Go.Proofs.YtfglgpbjjpoimaaGreatDoor
open Go.RowKit Sv
/-- The same contents. -/
structure SameSt (x y : Stm) : Prop where
 types : tys x.types = tys y.types
 q : x.q.q = y.q.q
 cap : x.cap = y.cap
 mark : x.mark = y.mark
 closed : x.closed = y.closed
 held : x.held = y.held
 kept : x.kept = y.kept
 waiting : x.waiting.map (·.m) = y.waiting.map (·.m)
 used : x.used = y.used
set_option maxHeartbeats 4000000 in
set_option maxRecDepth 20000 in
theorem sameState_any (x y : Stm) (w : World) (hs : SameSt x y) (hb : StB x) (hat : ∀ t ∈ x.types, t.attrs.length ≤ 1048576) (hx : RdSt w x) (hy : RdSt w y) :
  Calls Tryz.prog 10 #[.agg (stc x).toArray, .agg (stc y).toArray] w fun e w' => e = .returned (.bool true) ∧ Below w.heap.size w w' := by
 obtain ⟨w0, hw0⟩ : ∃ w0, w0 = (w.alloc (.cells (stc x).toArray 36)).alloc (.cells (stc y).toArray 36) := ⟨_, rfl⟩
 have HB0 := Lib.hid (show Below w.heap.size w w0 by rw [hw0]; exact bal (bal (Below.refl _ _) (Nat.le_refl _) _) (Nat.le_refl _) _)
 have hE1 : Blk w0 w.heap.size 36 (stc x) := by rw [hw0]; exact (Blk.new w _ 36).below (bal (Below.refl _ _) (Nat.le_refl _) _)
 have hE2 : Blk w0 (w.heap.size + 1) 36 (stc y) := by
  have h := Blk.new (w.alloc (.cells (stc x).toArray 36)) (stc y) 36
  rw [World.size_alloc] at h
  rw [hw0]; exact h
 have HX := Lib.hid (hx.below HB0.out)
 have HY := Lib.hid (hy.below HB0.out)
 have lt : x.types.length = y.types.length := by have h := congrArg List.length hs.types; simpa [tys] using h
 have lw : x.waiting.length = y.waiting.length := by have h := congrArg List.length hs.waiting; simpa using h
 have lh : x.held.length = y.held.length := by rw [hs.held]
 have lk : x.kept.length = y.kept.length := by rw [hs.kept]
 have lu : x.used.length = y.used.length := by rw [hs.used]
 have li : x.q.items.length = y.q.items.length := by have h := congrArg (fun q : Qy => q.items.length) hs.q; simpa [Qm.q] using h
 have lr : x.q.ret.length = y.q.ret.length := by have h := congrArg (fun q : Qy => q.ret.length) hs.q; simpa [Qm.q] using h
 have lwh : x.q.wher.length = y.q.wher.length := by have h := congrArg (fun q : Qy => q.wher.length) hs.q; simpa [Qm.q] using h
 have HS1 := Lib.hid (fun W (hW : Below w0.heap.size w0 W) => sameSchema_any x.ta y.ta x.tc y.tc x.types.length x.types y.types W rfl lt.symm (Nat.le_trans hb.tl (by omega)) hs.types (fun t ht => Nat.le_trans (hat t ht) (by omega)) (HX.out.below hW).types (HY.out.below hW).types)
 have HS2 := Lib.hid (fun W (hW : Below w0.heap.size w0 W) => sameQuery_any x.q y.q W hs.q hb.qb (HX.out.below hW).q (HY.out.below hW).q)
 have HS3 := Lib.hid (fun W (hW : Below w0.heap.size w0 W) => sameEvents_any x.ha y.ha x.hc y.hc x.held.length x.held W rfl (Nat.le_trans hb.hl (by omega)) (HX.out.below hW).held (by rw [hs.held]; exact (HY.out.below hW).held))
 have HS4 := Lib.hid (fun W (hW : Below w0.heap.size w0 W) => sameEvents_any x.ka y.ka x.kc y.kc x.kept.length x.kept W rfl (Nat.le_trans hb.kl (by omega)) (HX.out.below hW).kept (by rw [hs.kept]; exact (HY.out.below hW).kept))
 have HS5 := Lib.hid (fun W (hW : Below w0.heap.size w0 W) => sameMatches_any x.wa y.wa x.wc y.wc x.waiting.length x.waiting y.waiting W rfl lw.symm (Nat.le_trans hb.wl (by omega)) hs.waiting hb.wb (HX.out.below hW).waiting (HY.out.below hW).waiting)
 have HS6 := Lib.hid (fun W (hW : Below w0.heap.size w0 W) => sameNames_any x.ua y.ua x.uc y.uc x.used.length x.used W rfl (Nat.le_trans hb.ul (by omega)) (HX.out.below hW).used (by rw [hs.used]; exact (HY.out.below hW).used))
 have q1 := hs.cap
 have q2 := hs.mark
 have q3 := hs.closed
 have q4 : x.q.mode = y.q.mode := congrArg (fun q : Qy => q.mode) hs.q
 have q5 : x.q.after = y.q.after := congrArg (fun q : Qy => q.after) hs.q
 have q6 : x.q.within = y.q.within := congrArg (fun q : Qy => q.within) hs.q
 have q7 : x.q.by_ = y.q.by_ := congrArg (fun q : Qy => q.by_) hs.q
 clear hs hb hat hx hy HX HY
 obtain ⟨types, ta, tc, ⟨items, ia, ic, mode, after, wher, wwa, wcap, within, by_, ret, ra, rc⟩, cap, mark, closed, held, ha, hc, kept, ka, kc, waiting, wa, wc', used, ua, uc⟩ := x
 obtain ⟨types2, ta2, tc2, ⟨items2, ia2, ic2, mode2, after2, wher2, wwa2, wcap2, within2, by2, ret2, ra2, rc2⟩, cap2, mark2, closed2, held2, ha2, hc2, kept2, ka2, kc2, waiting2, wa2, wc2, used2, ua2, uc2⟩ := y
 dsimp only at lt lw lh lk lu li lr lwh q1 q2 q3 q4 q5 q6 q7 HS1 HS2 HS3 HS4 HS5 HS6
 subst q1 q2 q3 q4 q5 q6 q7
 simp only [stc, qmc, T, ← lt, ← lw, ← lh, ← lk, ← lu, ← li, ← lr, ← lwh] at hE1 hE2 hw0 HS1 HS2 HS3 HS4 HS5 HS6 ⊢
 clear lt lw lh lk lu li lr lwh
 obtain ⟨nt, hnt⟩ : ∃ n, n = types.length := ⟨_, rfl⟩
 obtain ⟨ni, hni⟩ : ∃ n, n = items.length := ⟨_, rfl⟩
 obtain ⟨nwh, hnwh⟩ : ∃ n, n = wher.length := ⟨_, rfl⟩
 obtain ⟨nr, hnr⟩ : ∃ n, n = ret.length := ⟨_, rfl⟩
 obtain ⟨nh, hnh⟩ : ∃ n, n = held.length := ⟨_, rfl⟩
 obtain ⟨nk, hnk⟩ : ∃ n, n = kept.length := ⟨_, rfl⟩
 obtain ⟨nw, hnw⟩ : ∃ n, n = waiting.length := ⟨_, rfl⟩
 obtain ⟨nu, hnu⟩ : ∃ n, n = used.length := ⟨_, rfl⟩
 simp only [← hnt, ← hni, ← hnwh, ← hnr, ← hnh, ← hnk, ← hnw, ← hnu] at hE1 hE2 hw0 HS1 HS2 HS3 HS4 HS5 HS6 ⊢
 clear hnt hni hnwh hnr hnh hnk hnw hnu
 have HE1 := Lib.hid (show Blk w0 w.heap.size 36 [.slice ta nt tc, .slice ia ni ic, .int .i64 mode, .int .i64 after, .slice wwa nwh wcap, .int .i64 within, .string ⟨by_.toArray⟩, .slice ra nr rc, .int .i64 cap, .int .i64 mark, .bool closed, .slice ha nh hc, .slice ka nk kc, .slice wa nw wc', .slice ua nu uc] from hE1)
 have HE2 := Lib.hid (show Blk w0 (w.heap.size + 1) 36 [.slice ta2 nt tc2, .slice ia2 ni ic2, .int .i64 mode, .int .i64 after, .slice wwa2 nwh wcap2, .int .i64 within, .string ⟨by_.toArray⟩, .slice ra2 nr rc2, .int .i64 cap, .int .i64 mark, .bool closed, .slice ha2 nh hc2, .slice ka2 nk kc2, .slice wa2 nw wc2, .slice ua2 nu uc2] from hE2)
 clear hE1 hE2
 have c0 := (HE1.out.below (Below.refl w0.heap.size w0)).ci 0 rfl
 have d0 := (HE2.out.below (Below.refl w0.heap.size w0)).ci 0 rfl
 have c8 := (HE1.out.below (Below.refl w0.heap.size w0)).ci 8 rfl
 have d8 := (HE2.out.below (Below.refl w0.heap.size w0)).ci 8 rfl
 have c9 := (HE1.out.below (Below.refl w0.heap.size w0)).ci 9 rfl
 have d9 := (HE2.out.below (Below.refl w0.heap.size w0)).ci 9 rfl
 have c10 := (HE1.out.below (Below.refl w0.heap.size w0)).ci 10 rfl
 have d10 := (HE2.out.below (Below.refl w0.heap.size w0)).ci 10 rfl
 go_enter Tryz.func10, Tryz.ntmps10
 go_upto_region 1 with fail
 rw [← hw0]
 clear hw0
 go_wp2_with fail
 refine (HS1.out _ (Below.refl w0.heap.size w0)).mono ?_
 rintro e w1 ⟨rfl, hb1⟩
 have HB1 := Lib.hid ((Below.refl w0.heap.size w0).trans (hb1.mono ((Below.refl w0.heap.size w0)).size))
 clear hb1
 clear c0 d0 c8 d8 c9 d9 c10 d10
 have c1 := (HE1.out.below HB1.out).ci 1 rfl
 have d1 := (HE2.out.below HB1.out).ci 1 rfl
 have c2 := (HE1.out.below HB1.out).ci 2 rfl
 have d2 := (HE2.out.below HB1.out).ci 2 rfl
 have c3 := (HE1.out.below HB1.out).ci 3 rfl
 have d3 := (HE2.out.below HB1.out).ci 3 rfl
 have c4 := (HE1.out.below HB1.out).ci 4 rfl
 have d4 := (HE2.out.below HB1.out).ci 4 rfl
 have c5 := (HE1.out.below HB1.out).ci 5 rfl
 have d5 := (HE2.out.below HB1.out).ci 5 rfl
 have c6 := (HE1.out.below HB1.out).ci 6 rfl
 have d6 := (HE2.out.below HB1.out).ci 6 rfl
 have c7 := (HE1.out.below HB1.out).ci 7 rfl
 have d7 := (HE2.out.below HB1.out).ci 7 rfl
 go_wp2_with fail
 refine (HS2.out _ HB1.out).mono ?_
 rintro e w2 ⟨rfl, hb2⟩
 have HB2 := Lib.hid (HB1.out.trans (hb2.mono (HB1.out).size))
 clear hb2
 clear c1 d1 c2 d2 c3 d3 c4 d4 c5 d5 c6 d6 c7 d7
 have c11 := (HE1.out.below HB2.out).ci 11 rfl
 have d11 := (HE2.out.below HB2.out).ci 11 rfl
 go_wp2_with fail
 refine (HS3.out _ HB2.out).mono ?_
 rintro e w3 ⟨rfl, hb3⟩
 have HB3 := Lib.hid (HB2.out.trans (hb3.mono (HB2.out).size))
 clear hb3
 clear c11 d11
 have c12 := (HE1.out.below HB3.out).ci 12 rfl
 have d12 := (HE2.out.below HB3.out).ci 12 rfl
 go_wp2_with fail
 refine (HS4.out _ HB3.out).mono ?_
 rintro e w4 ⟨rfl, hb4⟩
 have HB4 := Lib.hid (HB3.out.trans (hb4.mono (HB3.out).size))
 clear hb4
 clear c12 d12
 have c13 := (HE1.out.below HB4.out).ci 13 rfl
 have d13 := (HE2.out.below HB4.out).ci 13 rfl
 go_wp2_with fail
 refine (HS5.out _ HB4.out).mono ?_
 rintro e w5 ⟨rfl, hb5⟩
 have HB5 := Lib.hid (HB4.out.trans (hb5.mono (HB4.out).size))
 clear hb5
 clear c13 d13
 have c14 := (HE1.out.below HB5.out).ci 14 rfl
 have d14 := (HE2.out.below HB5.out).ci 14 rfl
 go_wp2_with fail
 refine (HS6.out _ HB5.out).mono ?_
 rintro e w6 ⟨rfl, hb6⟩
 have HB6 := Lib.hid (HB5.out.trans (hb6.mono (HB5.out).size))
 clear hb6
 clear c14 d14
 go_wp2_with fail
 go_ret
 exact ⟨rfl, HB0.out.trans (HB6.out.mono HB0.out.size)⟩
end Go.Proofs.YtfglgpbjjpoimaaGreatDoor
