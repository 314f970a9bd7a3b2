/- SaveEncodes: events in memory; the reference's event, events. -/
import Derived.Test.YtfglgpbjjpoimaaGreatDoorSwGP
import Derived.Test.YtfglgpbjjpoimaaGreatDoorSwGD
set_option linter.unusedVariables false
namespace Go.Proofs.YtfglgpbjjpoimaaGreatDoor
open Go.RowKit Sv
structure EvB (e : Ev) : Prop where
 ts : I64' e.ts
 id : 0 ≤ e.id ∧ e.id < 18446744073709551616
 typ : I64' e.typ
 len : e.at_.length = 8
 at_ : ∀ x ∈ e.at_, I64' x
def RdE (w : World) (a : Option Addr) (l : List Ev) : Prop := Rd w a (l.flatMap evc) ∧ ∀ e ∈ l, e.at_.length = 8
theorem RdE.below {w w' : World} {a : Option Addr} {l : List Ev} (h : RdE w a l) (hb : Below w.heap.size w w') : RdE w' a l := ⟨Rd.below h.1 hb, h.2⟩
theorem evc_len {e : Ev} (h : e.at_.length = 8) : (evc e).length = 11 := by simp [evc, h]
theorem flat_get' {α : Type} (f : α → List Value) (n : Nat) : ∀ (l : List α) (hf : ∀ x ∈ l, (f x).length = n) (i j : Nat) (hi : i < l.length) (hj : j < n), (l.flatMap f)[i * n + j]? = (f l[i])[j]? := by
 intro l
 induction l with
 | nil => intro _ i j hi; simp at hi
 | cons v l ih =>
  intro hf i j hi hj
  have h0 := hf v List.mem_cons_self
  cases i with
  | zero => simp [List.getElem?_append_left, h0, hj]
  | succ i =>
   have h := ih (fun x hx => hf x (List.mem_cons_of_mem _ hx)) i j (by simpa using hi) hj
   rw [List.flatMap_cons, List.getElem?_append_right (by rw [h0, Nat.succ_mul]; omega), h0, show (i + 1) * n + j - n = i * n + j by rw [Nat.succ_mul]; omega, h]
   simp
theorem RdE.at {w : World} {a : Option Addr} {l : List Ev} (h : RdE w a l) (i : Nat) (hi : i < l.length) :
  ∃ b off, a = some ⟨b, off, none⟩ ∧ ∀ j u, (evc l[i])[j]? = some u → w.cell? ⟨b, off + i * 11 + j, none⟩ = some u := by
 have hl : ∀ x ∈ l, (evc x).length = 11 := fun x hx => evc_len (h.2 x hx)
 have hli := hl _ (List.getElem_mem hi)
 have g1 : ∀ j u, (evc l[i])[j]? = some u → (l.flatMap evc)[i * 11 + j]? = some u := fun j u hu => by
  have hj : j < 11 := by
   rcases Nat.lt_or_ge j 11 with h | h
   ·exact h
   ·rw [List.getElem?_eq_none (by omega)] at hu; cases hu
  rw [flat_get' evc 11 l hl i j hi hj]
  exact hu
 rcases h.1 with h1 | ⟨b, off, rfl, hc⟩
 ·have := g1 0 (.int .i64 l[i].ts) rfl
  rw [h1] at this; cases this
 ·exact ⟨b, off, rfl, fun j u hu => by rw [Nat.add_assoc]; exact hc _ _ (g1 j u hu)⟩
theorem at8 {e : Ev} (h : e.at_.length = 8) : ∃ a0 a1 a2 a3 a4 a5 a6 a7, e.at_ = [a0, a1, a2, a3, a4, a5, a6, a7] := by
 match e.at_, h with
 | [a0, a1, a2, a3, a4, a5, a6, a7], _ => exact ⟨_, _, _, _, _, _, _, _, rfl⟩
theorem byEv_le {L : List Ty} {e : Ev} (h : EvB e) : (byEv L e).length ≤ 110 := by
 have h1 := bytesI_le e.ts h.ts
 have h2 := bytesU_len10 e.id.toNat (by have := h.id; omega)
 have h3 := bytesU_len10 e.typ.toNat (by have := h.typ.2; omega)
 have h4 := flat_le bytesI 10 (e.at_.take (L.getD e.typ.toNat ⟨[], []⟩).attrs.length) (fun v hv => bytesI_le v (h.at_ v (List.mem_of_mem_take hv)))
 have h5 : (e.at_.take (L.getD e.typ.toNat ⟨[], []⟩).attrs.length).length ≤ 8 := by rw [List.length_take, h.len]; omega
 unfold byEv
 simp only [List.length_append]
 omega
theorem tys_at {l : List Tp} {k : Nat} (hk : k < l.length) : (tys l).getD k ⟨[], []⟩ = l[k].ty := by
 rw [List.getD_eq_getElem?_getD, List.getElem?_eq_getElem (by rw [tys_len]; exact hk), tys_get l k hk]; rfl
theorem ok_ats {l : List Tp} {e : Ev} (h : EvOK (tys l) e) : ∃ k : Nat, e.typ = k ∧ ∃ hk : k < l.length, l[k].attrs.length ≤ 8 := by
 obtain ⟨h1, ⟨h2, h3⟩, _⟩ := h
 rw [tys_len] at h3
 refine ⟨e.typ.toNat, by omega, h3, ?_⟩
 exact ((((schema_iff l).1 h1).2 e.typ.toNat h3).2.2).1
set_option maxHeartbeats 4000000 in
set_option maxRecDepth 20000 in
theorem revent_any (a : Option Addr) (c n : Nat) (l : List Tp) (e : Ev) (w : World) (hn : l.length = n) (h : RdT w a l) (hok : EvOK (tys l) e) (hb : EvB e) :
  Calls Tryz.prog 91 #[.agg #[.slice a n c], .agg (evc e).toArray] w (By (byEv (tys l) e) w) := by
 obtain ⟨k, hk, hkl, hk8⟩ := ok_ats hok
 have hbe : byEv (tys l) e = bytesI e.ts ++ bytesU e.id.toNat ++ bytesU k ++ (e.at_.take l[k].attrs.length).flatMap bytesI := by
  unfold byEv
  rw [hk, Int.toNat_natCast, tys_at hkl]; rfl
 rw [hbe]
 obtain ⟨h1, h2, h3, h4, h5⟩ := hb
 obtain ⟨ts, id, typ, at_⟩ := e
 dsimp only at h1 h2 h3 h4 h5 hk
 obtain ⟨id, rfl⟩ : ∃ j : Nat, id = j := ⟨id.toNat, by omega⟩
 have hid : id < 18446744073709551616 := by omega
 subst hk
 obtain ⟨a0, a1, a2, a3, a4, a5, a6, a7, hat⟩ := at8 (e := ⟨ts, (id : Int), (k : Int), at_⟩) h4
 dsimp only at hat
 have HAT := Lib.hid h5
 have HL8 := Lib.hid h4
 have hkb : k < 18446744073709551616 := by have := h3.2; omega
 obtain ⟨na, hna⟩ : ∃ na, na = l[k].attrs.length := ⟨_, rfl⟩
 obtain ⟨w0, hw0⟩ : ∃ w0, w0 = (w.alloc (.cells #[.slice a n c] 24)).alloc (.cells #[.int .i64 ts, .int .u64 (id : Int), .int .i64 (k : Int), .int .i64 a0, .int .i64 a1, .int .i64 a2, .int .i64 a3, .int .i64 a4, .int .i64 a5, .int .i64 a6, .int .i64 a7] 108) := ⟨_, rfl⟩
 have hS : Blk w0 w.heap.size 24 [.slice a n c] := by rw [hw0]; exact (Blk.new w _ 24).below (bal (Below.refl _ _) (Nat.le_refl _) _)
 have hE : Blk w0 (w.heap.size + 1) 108 (evc ⟨ts, (id : Int), (k : Int), at_⟩) := by
  rw [hw0, hat]
  have h := Blk.new (w.alloc (.cells #[.slice a n c] 24)) [.int .i64 ts, .int .u64 (id : Int), .int .i64 (k : Int), .int .i64 a0, .int .i64 a1, .int .i64 a2, .int .i64 a3, .int .i64 a4, .int .i64 a5, .int .i64 a6, .int .i64 a7] 108
  rw [show (w.alloc (.cells #[.slice a n c] 24)).heap.size = w.heap.size + 1 by show Array.size (Array.push _ _) = _; simp] at h
  exact h
 have HB0 := Lib.hid (show Below w.heap.size w w0 by rw [hw0]; exact bal (bal (Below.refl _ _) (Nat.le_refl _) _) (Nat.le_refl _) _)
 have HS := Lib.hid hS
 have HE := Lib.hid hE
 have HR := Lib.hid (h.below HB0.out)
 have HU1 := Lib.hid (bytesI_le ts h1)
 have HU2 := Lib.hid (bytesU_len10 id hid)
 have HU3 := Lib.hid (bytesU_len10 k hkb)
 have HNA := Lib.hid hna
 have HN := Lib.hid hn
 have HKL := Lib.hid hkl
 have HBW := Lib.hid (show Below w0.heap.size w0 w0.drew from (Below.refl _ _).drew)
 have c0 : w0.drew.cell? ⟨w.heap.size + 1, 0, none⟩ = some (.int .i64 ts) := hE.ci 0 rfl
 have c1 : w0.drew.cell? ⟨w.heap.size + 1, 1, none⟩ = some (.int .u64 (id : Int)) := hE.ci 1 rfl
 rw [← hna] at hk8 ⊢
 have HHEAD := Lib.hid (show (bytesI ts ++ bytesU id ++ bytesU k).length ≤ 30 by have := HU1.out; have := HU2.out; have := HU3.out; simp only [List.length_append]; omega)
 obtain ⟨hd, hhd⟩ : ∃ hd, hd = bytesI ts ++ bytesU ((id : Int)).toNat ++ bytesU k := ⟨_, rfl⟩
 rw [← hhd]
 rw [Int.toNat_natCast] at hhd
 have HHD := Lib.hid hhd
 obtain ⟨RES, hRES⟩ : ∃ RES, RES = hd ++ (at_.take na).flatMap bytesI := ⟨_, rfl⟩
 rw [← hRES]
 have HRES := Lib.hid hRES
 clear hRES
 simp only [evc, hat, List.map_cons, List.map_nil, Z, List.cons_append, List.nil_append]
 have hki : (k : Int) < n := by omega
 clear hS hE h hok hbe h4 h5 hna hn hhd h2
 go_enter Tryz.func91, Tryz.ntmps91
 go_wp2_with fail
 rw [← hw0]
 clear hw0
 go_region_held3 (fun W => W.cell? ⟨w.heap.size + 1, 0, none⟩ = some (.int .i64 ts) ∧ W.cell? ⟨w.heap.size + 1, 1, none⟩ = some (.int .u64 (id : Int))) (first | exact ⟨c0, c1⟩ | (refine ⟨?_, ?_⟩ <;> assumption)) (first
  | (go_at_call 52; refine (rnumber_any ts _ h1).mono ?_; rintro e wA ⟨p1, k1, n1, hn1, rfl, ho1, hbA⟩; (have HBW := Lib.hid (HBW.out.trans (hbA.mono HBW.out.size))); (have c0 := (HE.out.below HBW.out).ci 0 rfl); (have c1 := (HE.out.below HBW.out).ci 1 rfl); (have HR1 := Lib.hid (rd_len ho1)); (have HN1 := Lib.hid hn1); clear ho1 hbA hn1)
  | (go_at_call 51; refine (rcount_any id _ hid).mono ?_; rintro e wB ⟨p2, k2, n2, hn2, rfl, ho2, hbB⟩; (have HBW := Lib.hid (HBW.out.trans (hbB.mono HBW.out.size))); (have c0 := (HE.out.below HBW.out).ci 0 rfl); (have c1 := (HE.out.below HBW.out).ci 1 rfl); (have HR1 := Lib.hid (HR1.out.below hbB)); (have HR2 := Lib.hid (rd_len ho2)); (have HN2 := Lib.hid hn2); clear ho2 hbB hn2)
  | (go_at_call 46; refine (rjoin_any p1 p2 k1 k2 n1 n2 _ _ _ HN1.out HN2.out (by have := HN1.out; have := HN2.out; have := HU1.out; have := HU2.out; unfold bytesI at *; omega) HR1.out HR2.out).mono ?_; rintro e wC ⟨p3, k3, n3, hn3, rfl, ho3, hbC⟩; (have HR3 := Lib.hid (rd_len ho3)); (have HBW := Lib.hid (HBW.out.trans (hbC.mono HBW.out.size))); (have c0 := (HE.out.below HBW.out).ci 0 rfl); (have c1 := (HE.out.below HBW.out).ci 1 rfl); (have HN3 := Lib.hid hn3); clear ho3 hbC hn3))
 have c2 := (HE.out.below HBW.out).ci 2 rfl
 clear c0 c1
 go_wp2_with fail
 refine (rcount_any k wC hkb).mono ?_
 rintro e wD ⟨p4, k4, n4, hn4, rfl, ho4, hbD⟩
 have HJ := Lib.hid (rjoin_any p3 p4 k3 k4 n3 n4 _ _ wD HN3.out hn4 (by have h9 := HN3.out; rw [List.length_append] at h9; have h8 := hn4; have := HU1.out; have := HU2.out; have := HU3.out; unfold bytesI at *; omega) (HR3.out.below hbD) (rd_len ho4))
 have HBW := Lib.hid (HBW.out.trans (hbD.mono HBW.out.size))
 clear ho4 hbD hn4
 go_wp2_with fail
 refine (HJ.out).mono ?_
 rintro e wE ⟨p5, k5, n5, hn5, rfl, ho5, hbE⟩
 have HO5 := Lib.hid (ownsRow_base ho5 (Nat.le_trans HB0.out.size HBW.out.size))
 have HBW := Lib.hid (HBW.out.trans (hbE.mono HBW.out.size))
 have HN5 := Lib.hid hn5
 clear ho5 hbE hn5 c2
 go_wp2_with fail
 go_loopw [5, 6] (fun v i wr => ∃ (j : Nat) (a' : Option Addr) (c' n' : Nat), j ≤ na ∧ i = .int .i64 (j : Int) ∧ v = .slice a' n' c' ∧ (hd ++ (at_.take j).flatMap bytesI).length = n' ∧ wr.ownsRow w.heap.size 5 1 v n' ((hd ++ (at_.take j).flatMap bytesI).map B) ∧ Below w0.heap.size w0 wr) (fun _ i _ => na - (intOf i).toNat)
 case atStart => exact ⟨0, p5, k5, n5, Nat.zero_le _, rfl, rfl, by rw [HHD.out]; simpa [bytesI] using HN5.out, by rw [HHD.out]; simpa [bytesI] using HO5.out, HBW.out⟩
 case round =>
  obtain ⟨j, a', c', n', hjn, rfl, rfl, hln, hown, hbw⟩ := hrel
  have HLN := Lib.hid hln
  have HOWN := Lib.hid hown
  have HBR := Lib.hid hbw
  have q0 := (HS.out.below hbw).ci 0 rfl
  have q2 := (HE.out.below hbw).ci 2 rfl
  obtain ⟨b, off, rfl, _, e1⟩ := (HR.out.below hbw).at k HKL.out
  rw [← HNA.out] at e1
  have hk0 : (0 : Int) ≤ k := by omega
  clear hln hown
  by_cases hlt : j < na
  ·have hjl : j < at_.length := by rw [HL8.out]; omega
   have q3 := (HE.out.below hbw).ci (3 + j) (evc_at ⟨ts, (id : Int), (k : Int), at_⟩ j hjl)
   have hg : at_.getD j 0 = at_[j] := by rw [List.getD_eq_getElem?_getD, List.getElem?_eq_getElem hjl]; rfl
   dsimp only at q3
   rw [hg] at q3
   have hin := HAT.out _ (List.getElem_mem hjl)
   have htk : (at_.take (j + 1)).flatMap bytesI = (at_.take j).flatMap bytesI ++ bytesI at_[j] := by
    rw [take_snoc at_ j hjl, List.flatMap_append]; simp
   obtain ⟨u, hu⟩ : ∃ u, u = at_[j] := ⟨_, rfl⟩
   rw [← hu] at q3 hin htk
   have HTK := Lib.hid htk
   have HME := Lib.hid (meas_lt hlt)
   have hlt' : (j : Int) < na := by omega
   have hj0 : (0 : Int) ≤ j := by omega
   have hj8 : (j : Int) < 8 := by omega
   have HUI := Lib.hid (bytesI_le u hin)
   have hfl := flat_le bytesI 10 (at_.take j) (fun v hv => bytesI_le v (HAT.out v (List.mem_of_mem_take hv)))
   have hll : (at_.take j).length ≤ 8 := by rw [List.length_take, HL8.out]; omega
   have HNB := Lib.hid (show n' ≤ 200 by
    have h1 := HLN.out
    have h2 := HHEAD.out
    rw [← HHD.out] at h2
    rw [List.length_append] at h1
    omega)
   have HNUM := Lib.hid (rnumber_any u wr hin)
   clear hbw hg htk hu hfl hll hin
   go_wp2_with fail
   refine (HNUM.out).mono ?_
   rintro e wF ⟨p6, k6, n6, hn6, rfl, ho6, hbF⟩
   have HJ2 := Lib.hid (rjoin_any a' p6 c' k6 n' n6 _ _ wF HLN.out hn6 (by have := HNB.out; have := HUI.out; unfold bytesI at this; omega) ((rd_len HOWN.out).below hbF) (rd_len ho6))
   have HBF := Lib.hid (HBR.out.trans (hbF.mono HBR.out.size))
   clear ho6 hbF hn6 q0 q2 q3 e1
   go_wp2_with fail
   refine (HJ2.out).mono ?_
   rintro e wG ⟨p7, k7, n7, hn7, rfl, ho7, hbG⟩
   have HO7 := Lib.hid (ownsRow_base ho7 (Nat.le_trans HB0.out.size HBF.out.size))
   have HBG := Lib.hid (HBF.out.trans (hbG.mono HBF.out.size))
   have HN7 := Lib.hid hn7
   clear ho7 hbG hn7
   go_wp2_with fail
   go_roundw
   case rel => exact ⟨j + 1, p7, k7, n7, hlt, by go_num, rfl, by rw [HTK.out, ← List.append_assoc]; exact HN7.out, by rw [HTK.out, ← List.append_assoc]; exact HO7.out, HBG.out⟩
   case measure => exact HME.out
  ·have hk' : ¬ (j : Int) < na := by omega
   have hje : j = na := by omega
   subst hje
   clear hbw
   go_wp2_with fail
   go_ret
   exact ⟨a', c', n', by rw [HRES.out]; exact HLN.out, rfl, by rw [HRES.out]; exact HOWN.out, HB0.out.trans (HBR.out.mono HB0.out.size)⟩
end Go.Proofs.YtfglgpbjjpoimaaGreatDoor
/- SaveEncodes: the reference's events. -/
set_option linter.unusedVariables false
namespace Go.Proofs.YtfglgpbjjpoimaaGreatDoor
open Go.RowKit Sv
/-- An event's eleven cells. -/
theorem RdE.cells {w : World} {a : Option Addr} {l : List Ev} (h : RdE w a l) (i : Nat) (hi : i < l.length) (ts id typ a0 a1 a2 a3 a4 a5 a6 a7 : Int) (he : l[i] = ⟨ts, id, typ, [a0, a1, a2, a3, a4, a5, a6, a7]⟩) (b off : Nat) (ha : a = some ⟨b, off, none⟩) :
  w.cell? ⟨b, off + i * 11, none⟩ = some (.int .i64 ts) ∧ w.cell? ⟨b, off + i * 11 + 1, none⟩ = some (.int .u64 id) ∧ w.cell? ⟨b, off + i * 11 + 2, none⟩ = some (.int .i64 typ) ∧ w.cell? ⟨b, off + i * 11 + 3, none⟩ = some (.int .i64 a0) ∧
  w.cell? ⟨b, off + i * 11 + 4, none⟩ = some (.int .i64 a1) ∧ w.cell? ⟨b, off + i * 11 + 5, none⟩ = some (.int .i64 a2) ∧ w.cell? ⟨b, off + i * 11 + 6, none⟩ = some (.int .i64 a3) ∧ w.cell? ⟨b, off + i * 11 + 7, none⟩ = some (.int .i64 a4) ∧
  w.cell? ⟨b, off + i * 11 + 8, none⟩ = some (.int .i64 a5) ∧ w.cell? ⟨b, off + i * 11 + 9, none⟩ = some (.int .i64 a6) ∧ w.cell? ⟨b, off + i * 11 + 10, none⟩ = some (.int .i64 a7) := by
 obtain ⟨b', off', h1, h2⟩ := h.at i hi
 rw [ha] at h1
 cases h1
 rw [he] at h2
 exact ⟨h2 0 _ rfl, h2 1 _ rfl, h2 2 _ rfl, h2 3 _ rfl, h2 4 _ rfl, h2 5 _ rfl, h2 6 _ rfl, h2 7 _ rfl, h2 8 _ rfl, h2 9 _ rfl, h2 10 _ rfl⟩
theorem RdE.some {w : World} {a : Option Addr} {l : List Ev} (h : RdE w a l) (i : Nat) (hi : i < l.length) : ∃ b off, a = some ⟨b, off, none⟩ := by
 obtain ⟨b, off, h1, _⟩ := h.at i hi
 exact ⟨b, off, h1⟩
set_option maxHeartbeats 4000000 in
set_option maxRecDepth 20000 in
theorem revents_any (a : Option Addr) (c n : Nat) (l : List Tp) (ea : Option Addr) (ec m : Nat) (evs : List Ev) (w : World) (hn : l.length = n) (hm : evs.length = m) (hM : m ≤ 1048576) (h : RdT w a l) (he : RdE w ea evs) (hok : ∀ e ∈ evs, EvOK (tys l) e) (hb : ∀ e ∈ evs, EvB e) :
  Calls Tryz.prog 53 #[.agg #[.slice a n c], .slice ea m ec] w (By (byEvs (tys l) evs) w) := by
 obtain ⟨w0, hw0⟩ : ∃ w0, w0 = w.alloc (.cells #[.slice a n c] 24) := ⟨_, rfl⟩
 have hS : Blk w0 w.heap.size 24 [.slice a n c] := by rw [hw0]; exact Blk.new w _ 24
 have HB0 := Lib.hid (show Below w.heap.size w w0 by rw [hw0]; exact bal (Below.refl _ _) (Nat.le_refl _) _)
 have HS := Lib.hid hS
 have HR := Lib.hid (h.below HB0.out)
 have HEV := Lib.hid (he.below HB0.out)
 have HCALL := Lib.hid (show ∀ (e : Ev) (he : e ∈ evs) W, Below w0.heap.size w0 W → Calls Tryz.prog 91 #[.agg #[.slice a n c], .agg (evc e).toArray] W (By (byEv (tys l) e) W) from fun e he W hbW => revent_any a c n l e W hn (HR.out.below hbW) (hok e he) (hb e he))
 have HEL := Lib.hid (show ∀ e ∈ evs, (byEv (tys l) e).length ≤ 110 from fun e he => byEv_le (hb e he))
 have HM := Lib.hid hm
 have HE8 := Lib.hid he.2
 have HC := Lib.hid (rcount_any m w0 (by omega))
 have HU := Lib.hid (bytesU_len10 m (by omega))
 obtain ⟨RES, hRES⟩ : ∃ RES, RES = byEvs (tys l) evs := ⟨_, rfl⟩
 rw [← hRES]
 have HRES := Lib.hid (show RES = bytesU m ++ evs.flatMap (byEv (tys l)) by rw [hRES, ← hm]; rfl)
 clear hS h he hok hb hn hm hRES
 go_enter Tryz.func53, Tryz.ntmps53
 go_wp2_with fail
 rw [← hw0]
 clear hw0
 refine (HC.out).mono ?_
 rintro e w1 ⟨p1, k1, n1, hn1, rfl, ho1, hb1⟩
 have HO1 := Lib.hid (ownsRow_base ho1 HB0.out.size)
 have HN1 := Lib.hid hn1
 have HB1 := Lib.hid hb1
 clear ho1 hn1 hb1
 go_wp2_with fail
 go_loopw [5, 6] (fun v i wr => ∃ (j : Nat) (a' : Option Addr) (c' n' : Nat), j ≤ m ∧ i = .int .i64 (j : Int) ∧ v = .slice a' n' c' ∧ (bytesU m ++ (evs.take j).flatMap (byEv (tys l))).length = n' ∧ wr.ownsRow w.heap.size 5 1 v n' ((bytesU m ++ (evs.take j).flatMap (byEv (tys l))).map B) ∧ Below w0.heap.size w0 wr) (fun _ i _ => m - (intOf i).toNat)
 case atStart => exact ⟨0, p1, k1, n1, Nat.zero_le _, rfl, rfl, by simpa using HN1.out, by simpa using HO1.out, HB1.out⟩
 case round =>
  obtain ⟨j, a', c', n', hjn, rfl, rfl, hln, hown, hbw⟩ := hrel
  have HLN := Lib.hid hln
  have HOWN := Lib.hid hown
  have HBR := Lib.hid hbw
  clear hln hown
  by_cases hlt : j < m
  ·have hjl : j < evs.length := by rw [HM.out]; exact hlt
   obtain ⟨b, off, hea⟩ := HEV.out.some j hjl
   have hmem : evs[j] ∈ evs := List.getElem_mem hjl
   obtain ⟨a0, a1, a2, a3, a4, a5, a6, a7, hat⟩ := at8 (HE8.out _ hmem)
   have htk : (evs.take (j + 1)).flatMap (byEv (tys l)) = (evs.take j).flatMap (byEv (tys l)) ++ byEv (tys l) evs[j] := by
    rw [take_snoc evs j hjl, List.flatMap_append]; simp
   have hel := HEL.out _ hmem
   have hcall := HCALL.out _ hmem
   obtain ⟨ts, id, typ, at_, hev⟩ : ∃ ts id typ at_, evs[j] = ⟨ts, id, typ, at_⟩ := ⟨_, _, _, _, rfl⟩
   rw [hev] at hat hcall
   dsimp only at hat
   subst hat
   simp only [evc, List.map_cons, List.map_nil, Z, List.cons_append, List.nil_append] at hcall
   have HCELLS := Lib.hid (fun W (hb : Below w0.heap.size w0 W) => (HEV.out.below hb).cells j hjl ts id typ a0 a1 a2 a3 a4 a5 a6 a7 hev b off hea)
   rw [← hev] at hcall
   obtain ⟨YB, hYB⟩ : ∃ Y, Y = byEv (tys l) evs[j] := ⟨_, rfl⟩
   rw [← hYB] at hcall hel htk
   have HCL := Lib.hid hcall
   have HTK := Lib.hid htk
   have HEL1 := Lib.hid hel
   have HME := Lib.hid (meas_lt hlt)
   have hlt' : (j : Int) < m := by omega
   have hj0 : (0 : Int) ≤ j := by omega
   have hfl := flat_le (byEv (tys l)) 110 (evs.take j) (fun v hv => HEL.out v (List.mem_of_mem_take hv))
   have hll : (evs.take j).length ≤ j := List.length_take_le _ _
   have HNB := Lib.hid (show n' ≤ 200000000 by
    have h1 := HLN.out
    have h2 := HU.out
    rw [List.length_append] at h1
    omega)
   have HBW := Lib.hid (show Below wr.heap.size wr wr.drew from (Below.refl _ _).drew)
   have HR1 := Lib.hid (rd_len HOWN.out)
   have q0 : wr.drew.cell? ⟨w.heap.size, 0, none⟩ = some (.slice a n c) := (HS.out.below hbw).ci 0 rfl
   obtain ⟨e0, e1, e2, e3, e4, e5, e6, e7, e8, e9, e10⟩ := HCELLS.out wr.drew (HBR.out.trans (HBW.out.mono HBR.out.size))
   subst hea
   clear hbw htk hel hcall hfl hll hYB hmem hjl hev
   go_wp2_with fail
   go_region_held3 (fun W => W.cell? ⟨w.heap.size, 0, none⟩ = some (.slice a n c) ∧ W.cell? ⟨b, off + j * 11, none⟩ = some (.int .i64 ts) ∧ W.cell? ⟨b, off + j * 11 + 1, none⟩ = some (.int .u64 id) ∧ W.cell? ⟨b, off + j * 11 + 2, none⟩ = some (.int .i64 typ) ∧ W.cell? ⟨b, off + j * 11 + 3, none⟩ = some (.int .i64 a0) ∧
     W.cell? ⟨b, off + j * 11 + 4, none⟩ = some (.int .i64 a1) ∧ W.cell? ⟨b, off + j * 11 + 5, none⟩ = some (.int .i64 a2) ∧ W.cell? ⟨b, off + j * 11 + 6, none⟩ = some (.int .i64 a3) ∧ W.cell? ⟨b, off + j * 11 + 7, none⟩ = some (.int .i64 a4) ∧ W.cell? ⟨b, off + j * 11 + 8, none⟩ = some (.int .i64 a5) ∧ W.cell? ⟨b, off + j * 11 + 9, none⟩ = some (.int .i64 a6) ∧ W.cell? ⟨b, off + j * 11 + 10, none⟩ = some (.int .i64 a7))
    (first | exact ⟨q0, e0, e1, e2, e3, e4, e5, e6, e7, e8, e9, e10⟩ | (refine ⟨?_, ?_, ?_, ?_, ?_, ?_, ?_, ?_, ?_, ?_, ?_, ?_⟩ <;> assumption)) (first
    | (go_at_call 91; refine (HCL.out _ (HBR.out.trans (HBW.out.mono HBR.out.size))).mono ?_; rintro e wB ⟨p2, k2, n2, hn2, rfl, ho2, hbB⟩; (have HBW := Lib.hid (HBW.out.trans (hbB.mono HBW.out.size))); (have q0 := (HS.out.below (HBR.out.trans (HBW.out.mono HBR.out.size))).ci 0 rfl); (obtain ⟨e0, e1, e2, e3, e4, e5, e6, e7, e8, e9, e10⟩ := HCELLS.out _ (HBR.out.trans (HBW.out.mono HBR.out.size))); (have HR1 := Lib.hid (HR1.out.below HBW.out)); (have HR2 := Lib.hid (rd_len ho2)); (have HN2 := Lib.hid hn2); clear ho2 hbB hn2)
    | (go_at_call 46; refine (rjoin_any a' p2 c' k2 n' n2 _ _ _ HLN.out HN2.out (by have := HNB.out; have := HEL1.out; have := HN2.out; omega) HR1.out HR2.out).mono ?_; rintro e wC ⟨p3, k3, n3, hn3, rfl, ho3, hbC⟩; (have HO3 := Lib.hid (ownsRow_base ho3 (Nat.le_trans HB0.out.size (Nat.le_trans HBR.out.size HBW.out.size)))); (have HBW := Lib.hid (HBW.out.trans (hbC.mono HBW.out.size))); (have q0 := (HS.out.below (HBR.out.trans (HBW.out.mono HBR.out.size))).ci 0 rfl); (obtain ⟨e0, e1, e2, e3, e4, e5, e6, e7, e8, e9, e10⟩ := HCELLS.out _ (HBR.out.trans (HBW.out.mono HBR.out.size))); (have HN3 := Lib.hid hn3); clear ho3 hbC hn3))
   go_wp2_with fail
   go_roundw
   case rel => exact ⟨j + 1, p3, k3, n3, hlt, by go_num, rfl, by rw [HTK.out, ← List.append_assoc]; exact HN3.out, by rw [HTK.out, ← List.append_assoc]; exact HO3.out, HBR.out.trans (HBW.out.mono HBR.out.size)⟩
   case measure => exact HME.out
  ·have hk' : ¬ (j : Int) < m := by omega
   have hje : j = m := by omega
   have HTT := Lib.hid (show evs.take j = evs by rw [List.take_of_length_le]; rw [HM.out]; omega)
   clear hbw hje
   go_wp2_with fail
   go_ret
   exact ⟨a', c', n', by rw [HRES.out, ← HLN.out, HTT.out], rfl, by have h := HOWN.out; rw [HTT.out, ← HRES.out] at h; exact h, HB0.out.trans (HBR.out.mono HB0.out.size)⟩
end Go.Proofs.YtfglgpbjjpoimaaGreatDoor
