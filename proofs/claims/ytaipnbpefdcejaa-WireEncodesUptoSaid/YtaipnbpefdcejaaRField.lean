/- The walks of the reference's putField, letter by letter. -/
import Derived.Test.YtaipnbpefdcejaaRMatch
import Derived.Test.YtaipnbpefdcejaaWr2
set_option linter.unusedVariables false
namespace Go.Proofs.Ytaipnbpefdcejaa
open Go.RowKit
theorem below_of {w0 w1 w2 : World} (h1 : Below w0.heap.size w0 w1) (h2 : Below w0.heap.size w0 w2) (hs : w1.heap.size ≤ w2.heap.size) : Below w0.heap.size w1 w2 :=
  ⟨h2.os.trans h1.os.symm, h2.tape.trans h1.tape.symm, h2.output.trans h1.output.symm, hs, fun k hk => (h2.block k hk).trans (h1.block k hk).symm⟩
set_option maxHeartbeats 2000000 in
set_option maxRecDepth 20000 in
theorem rf_number (w0 : World) (l : List UInt8) (m : M) (p : Ps) (a : Option Addr) (n c : Nat) (w : World) (hwf : WfM m) (hh : 0 ≤ m.handle) (hl : l.length ≤ 100000000000000) (hn : l.length = n) (hown : w.ownsRow w0.heap.size 5 1 (.slice a n c) n (l.map B)) (hb : Below w0.heap.size w0 w) (hr : MRd w0 m p) :
    Calls Try.prog 56 #[.slice a n c, valM m p, .int .u8 78] w (PRF w0 w (.slice a n c) (l ++ encF "sluice/wire.number" m)) := by
  have hst := St.start 50 (cellsM m p) hn hown hb
  obtain ⟨w1, hw1⟩ : ∃ w1, w1 = w.alloc (.cells (cellsM m p).toArray 50) := ⟨_, rfl⟩
  rw [← hw1] at hst
  unfold cellsM at hw1
  obtain ⟨gm, hgm⟩ : ∃ g, g = w.heap.size := ⟨_, rfl⟩
  rw [← hgm] at hst
  obtain ⟨v0, hv0⟩ : ∃ v, v = valM m p := ⟨_, rfl⟩
  unfold valM cellsM at hv0
  obtain ⟨vI, hvI⟩ : ∃ v, v = Value.slice a n c := ⟨_, rfl⟩
  have HVI := Lib.hid hvI
  rw [← hvI] at hst
  unfold valM
  unfold cellsM
  clear hvI
  clear hown hn
  go_enter Try.func56, Try.ntmps56
  go_wp2_with fail
  rw [← hw1, ← hgm, ← hv0]
  clear hw1 hgm hv0
  refine (hst.int m.num hwf.num (by omega)).mono ?_
  rintro e w2 ⟨a2, n2, k2, rfl, hst2⟩
  go_wp2
  go_ret
  have hf := hst2.fin
  rw [HVI.out] at hf
  exact hf
set_option maxHeartbeats 2000000 in
set_option maxRecDepth 20000 in
theorem rf_code (w0 : World) (l : List UInt8) (m : M) (p : Ps) (a : Option Addr) (n c : Nat) (w : World) (hwf : WfM m) (hh : 0 ≤ m.handle) (hl : l.length ≤ 100000000000000) (hn : l.length = n) (hown : w.ownsRow w0.heap.size 5 1 (.slice a n c) n (l.map B)) (hb : Below w0.heap.size w0 w) (hr : MRd w0 m p) :
    Calls Try.prog 56 #[.slice a n c, valM m p, .int .u8 67] w (PRF w0 w (.slice a n c) (l ++ encF "sluice/wire.code" m)) := by
  have hst := St.start 50 (cellsM m p) hn hown hb
  obtain ⟨w1, hw1⟩ : ∃ w1, w1 = w.alloc (.cells (cellsM m p).toArray 50) := ⟨_, rfl⟩
  rw [← hw1] at hst
  unfold cellsM at hw1
  obtain ⟨gm, hgm⟩ : ∃ g, g = w.heap.size := ⟨_, rfl⟩
  rw [← hgm] at hst
  obtain ⟨v0, hv0⟩ : ∃ v, v = valM m p := ⟨_, rfl⟩
  unfold valM cellsM at hv0
  obtain ⟨vI, hvI⟩ : ∃ v, v = Value.slice a n c := ⟨_, rfl⟩
  have HVI := Lib.hid hvI
  rw [← hvI] at hst
  unfold valM
  unfold cellsM
  clear hvI
  clear hown hn
  go_enter Try.func56, Try.ntmps56
  go_wp2_with fail
  rw [← hw1, ← hgm, ← hv0]
  clear hw1 hgm hv0
  refine (hst.int m.code hwf.code (by omega)).mono ?_
  rintro e w2 ⟨a2, n2, k2, rfl, hst2⟩
  go_wp2
  go_ret
  have hf := hst2.fin
  rw [HVI.out] at hf
  exact hf
set_option maxHeartbeats 2000000 in
set_option maxRecDepth 20000 in
theorem rf_handle (w0 : World) (l : List UInt8) (m : M) (p : Ps) (a : Option Addr) (n c : Nat) (w : World) (hwf : WfM m) (hh : 0 ≤ m.handle) (hl : l.length ≤ 100000000000000) (hn : l.length = n) (hown : w.ownsRow w0.heap.size 5 1 (.slice a n c) n (l.map B)) (hb : Below w0.heap.size w0 w) (hr : MRd w0 m p) :
    Calls Try.prog 56 #[.slice a n c, valM m p, .int .u8 72] w (PRF w0 w (.slice a n c) (l ++ encF "sluice/wire.handle" m)) := by
  have hst := St.start 50 (cellsM m p) hn hown hb
  obtain ⟨w1, hw1⟩ : ∃ w1, w1 = w.alloc (.cells (cellsM m p).toArray 50) := ⟨_, rfl⟩
  rw [← hw1] at hst
  unfold cellsM at hw1
  obtain ⟨gm, hgm⟩ : ∃ g, g = w.heap.size := ⟨_, rfl⟩
  rw [← hgm] at hst
  obtain ⟨v0, hv0⟩ : ∃ v, v = valM m p := ⟨_, rfl⟩
  unfold valM cellsM at hv0
  obtain ⟨vI, hvI⟩ : ∃ v, v = Value.slice a n c := ⟨_, rfl⟩
  have HVI := Lib.hid hvI
  rw [← hvI] at hst
  unfold valM
  unfold cellsM
  clear hvI
  clear hown hn
  go_enter Try.func56, Try.ntmps56
  go_wp2_with fail
  rw [← hw1, ← hgm, ← hv0]
  clear hw1 hgm hv0
  refine (hst.uint _ m.handle.toNat (by first | (rw [IntKind.wrap_u64]; have := hwf.handle; unfold I64 at this; omega) | omega) (by have := hwf.handle; unfold I64 at this; omega) (by omega)).mono ?_
  rintro e w2 ⟨a2, n2, k2, rfl, hst2⟩
  go_wp2
  go_ret
  have hf := hst2.fin
  rw [HVI.out] at hf
  exact hf
set_option maxHeartbeats 2000000 in
set_option maxRecDepth 20000 in
theorem rf_fault (w0 : World) (l : List UInt8) (m : M) (p : Ps) (a : Option Addr) (n c : Nat) (w : World) (hwf : WfM m) (hh : 0 ≤ m.handle) (hl : l.length ≤ 100000000000000) (hn : l.length = n) (hown : w.ownsRow w0.heap.size 5 1 (.slice a n c) n (l.map B)) (hb : Below w0.heap.size w0 w) (hr : MRd w0 m p) :
    Calls Try.prog 56 #[.slice a n c, valM m p, .int .u8 70] w (PRF w0 w (.slice a n c) (l ++ encF "sluice/wire.fault" m)) := by
  have hst := St.start 50 (cellsM m p) hn hown hb
  obtain ⟨w1, hw1⟩ : ∃ w1, w1 = w.alloc (.cells (cellsM m p).toArray 50) := ⟨_, rfl⟩
  rw [← hw1] at hst
  unfold cellsM at hw1
  obtain ⟨gm, hgm⟩ : ∃ g, g = w.heap.size := ⟨_, rfl⟩
  rw [← hgm] at hst
  obtain ⟨v0, hv0⟩ : ∃ v, v = valM m p := ⟨_, rfl⟩
  unfold valM cellsM at hv0
  obtain ⟨vI, hvI⟩ : ∃ v, v = Value.slice a n c := ⟨_, rfl⟩
  have HVI := Lib.hid hvI
  rw [← hvI] at hst
  unfold valM
  unfold cellsM
  clear hvI
  have q1 := bytesI_le _ hwf.fwhere
  have q2 := bytesI_le _ hwf.fcode
  clear hown hn
  go_enter Try.func56, Try.ntmps56
  go_wp2_with fail
  rw [← hw1, ← hgm, ← hv0]
  clear hw1 hgm hv0
  refine (hst.int m.fwhere hwf.fwhere (by omega)).mono ?_
  rintro e w2 ⟨a2, n2, k2, rfl, hst2⟩
  have d25 : w2.cell? ⟨gm, 25, none⟩ = some (.int .i64 m.fcode) := hst2.cell 25 (by rw [cellsM_len]; omega)
  clear hst
  go_wp2_with fail
  refine (hst2.int m.fcode hwf.fcode (by rw [List.length_append]; omega)).mono ?_
  rintro e w3 ⟨a3, n3, k3, rfl, hst3⟩
  have e26 : w3.cell? ⟨gm, 26, none⟩ = some (.int .i64 m.fat) := hst3.cell 26 (by rw [cellsM_len]; omega)
  clear hst2
  go_wp2_with fail
  refine (hst3.int m.fat hwf.fat (by simp only [List.length_append]; omega)).mono ?_
  rintro e w4 ⟨a4, n4, k4, rfl, hst4⟩
  go_wp2
  go_ret
  have hf := hst4.fin
  rw [HVI.out] at hf
  rw [List.append_assoc, List.append_assoc] at hf
  exact hf
set_option maxHeartbeats 2000000 in
set_option maxRecDepth 20000 in
theorem rf_schema (w0 : World) (l : List UInt8) (m : M) (p : Ps) (a : Option Addr) (n c : Nat) (w : World) (hwf : WfM m) (hh : 0 ≤ m.handle) (hl : l.length ≤ 100000000000000) (hn : l.length = n) (hown : w.ownsRow w0.heap.size 5 1 (.slice a n c) n (l.map B)) (hb : Below w0.heap.size w0 w) (hr : MRd w0 m p) :
    Calls Try.prog 56 #[.slice a n c, valM m p, .int .u8 83] w (PRF w0 w (.slice a n c) (l ++ encF "sluice/wire.schema" m)) := by
  have hst := St.start 50 (cellsM m p) hn hown hb
  obtain ⟨w1, hw1⟩ : ∃ w1, w1 = w.alloc (.cells (cellsM m p).toArray 50) := ⟨_, rfl⟩
  rw [← hw1] at hst
  unfold cellsM at hw1
  obtain ⟨gm, hgm⟩ : ∃ g, g = w.heap.size := ⟨_, rfl⟩
  rw [← hgm] at hst
  obtain ⟨v0, hv0⟩ : ∃ v, v = valM m p := ⟨_, rfl⟩
  unfold valM cellsM at hv0
  obtain ⟨vI, hvI⟩ : ∃ v, v = Value.slice a n c := ⟨_, rfl⟩
  have HVI := Lib.hid hvI
  rw [← hvI] at hst
  unfold valM
  unfold cellsM
  clear hvI
  have q1 := bytesU_le m.schema.size (by have := hwf.sl; omega)
  have q2 := hwf.sl
  clear hown hn
  go_enter Try.func56, Try.ntmps56
  go_wp2_with fail
  rw [← hw1, ← hgm, ← hv0]
  clear hw1 hgm hv0
  refine (hst.uint _ m.schema.size rfl (by omega) (by omega)).mono ?_
  rintro e w2 ⟨a2, n2, k2, rfl, hst2⟩
  have d28 : w2.cell? ⟨gm, 28, none⟩ = some (.string m.schema) := hst2.cell 28 (by rw [cellsM_len]; omega)
  clear hst
  have hown2 := hst2.2.1
  have hs2 := hst2.2.2.1.size
  have hn2 : n2 ≤ 100000000000010 := by rw [← hst2.1, List.length_append]; omega
  have HST := Lib.hid hst2
  clear hst2
  go_wp2_with (first | (at_builtin; refine app_s w2 rfl _ _ rfl w0.heap.size a2 n2 k2 _ rfl hown2 m.schema rfl (by omega) hs2 ?_; intro a3 c3 w3 hown3 hb3 hm3) | fail)
  have hst3 := HST.out.moved (by rw [List.length_append, HST.out.1, Array.length_toList]; rfl) hown3 hb3 hm3
  go_ret
  have hf := hst3.fin
  rw [HVI.out] at hf
  rw [List.append_assoc] at hf
  exact hf
set_option maxHeartbeats 2000000 in
set_option maxRecDepth 20000 in
theorem rf_query (w0 : World) (l : List UInt8) (m : M) (p : Ps) (a : Option Addr) (n c : Nat) (w : World) (hwf : WfM m) (hh : 0 ≤ m.handle) (hl : l.length ≤ 100000000000000) (hn : l.length = n) (hown : w.ownsRow w0.heap.size 5 1 (.slice a n c) n (l.map B)) (hb : Below w0.heap.size w0 w) (hr : MRd w0 m p) :
    Calls Try.prog 56 #[.slice a n c, valM m p, .int .u8 81] w (PRF w0 w (.slice a n c) (l ++ encF "sluice/wire.query" m)) := by
  have hst := St.start 50 (cellsM m p) hn hown hb
  obtain ⟨w1, hw1⟩ : ∃ w1, w1 = w.alloc (.cells (cellsM m p).toArray 50) := ⟨_, rfl⟩
  rw [← hw1] at hst
  unfold cellsM at hw1
  obtain ⟨gm, hgm⟩ : ∃ g, g = w.heap.size := ⟨_, rfl⟩
  rw [← hgm] at hst
  obtain ⟨v0, hv0⟩ : ∃ v, v = valM m p := ⟨_, rfl⟩
  unfold valM cellsM at hv0
  obtain ⟨vI, hvI⟩ : ∃ v, v = Value.slice a n c := ⟨_, rfl⟩
  have HVI := Lib.hid hvI
  rw [← hvI] at hst
  unfold valM
  unfold cellsM
  clear hvI
  have q1 := bytesU_le m.query.size (by have := hwf.ql; omega)
  have q2 := hwf.ql
  clear hown hn
  go_enter Try.func56, Try.ntmps56
  go_wp2_with fail
  rw [← hw1, ← hgm, ← hv0]
  clear hw1 hgm hv0
  refine (hst.uint _ m.query.size rfl (by omega) (by omega)).mono ?_
  rintro e w2 ⟨a2, n2, k2, rfl, hst2⟩
  have d29 : w2.cell? ⟨gm, 29, none⟩ = some (.string m.query) := hst2.cell 29 (by rw [cellsM_len]; omega)
  clear hst
  have hown2 := hst2.2.1
  have hs2 := hst2.2.2.1.size
  have hn2 : n2 ≤ 100000000000010 := by rw [← hst2.1, List.length_append]; omega
  have HST := Lib.hid hst2
  clear hst2
  go_wp2_with (first | (at_builtin; refine app_s w2 rfl _ _ rfl w0.heap.size a2 n2 k2 _ rfl hown2 m.query rfl (by omega) hs2 ?_; intro a3 c3 w3 hown3 hb3 hm3) | fail)
  have hst3 := HST.out.moved (by rw [List.length_append, HST.out.1, Array.length_toList]; rfl) hown3 hb3 hm3
  go_ret
  have hf := hst3.fin
  rw [HVI.out] at hf
  rw [List.append_assoc] at hf
  exact hf
set_option maxHeartbeats 2000000 in
set_option maxRecDepth 20000 in
theorem rf_image (w0 : World) (l : List UInt8) (m : M) (p : Ps) (a : Option Addr) (n c : Nat) (w : World) (hwf : WfM m) (hh : 0 ≤ m.handle) (hl : l.length ≤ 100000000000000) (hn : l.length = n) (hown : w.ownsRow w0.heap.size 5 1 (.slice a n c) n (l.map B)) (hb : Below w0.heap.size w0 w) (hr : MRd w0 m p) :
    Calls Try.prog 56 #[.slice a n c, valM m p, .int .u8 73] w (PRF w0 w (.slice a n c) (l ++ encF "sluice/wire.image" m)) := by
  have hst := St.start 50 (cellsM m p) hn hown hb
  obtain ⟨w1, hw1⟩ : ∃ w1, w1 = w.alloc (.cells (cellsM m p).toArray 50) := ⟨_, rfl⟩
  rw [← hw1] at hst
  unfold cellsM at hw1
  obtain ⟨gm, hgm⟩ : ∃ g, g = w.heap.size := ⟨_, rfl⟩
  rw [← hgm] at hst
  obtain ⟨v0, hv0⟩ : ∃ v, v = valM m p := ⟨_, rfl⟩
  unfold valM cellsM at hv0
  obtain ⟨vI, hvI⟩ : ∃ v, v = Value.slice a n c := ⟨_, rfl⟩
  have HVI := Lib.hid hvI
  rw [← hvI] at hst
  unfold valM
  unfold cellsM
  clear hvI
  obtain ⟨ni, hni⟩ : ∃ n, n = m.image.length := ⟨_, rfl⟩
  have q2 := hwf.il
  rw [← hni] at q2
  have q1 := bytesU_le ni (by omega)
  have HNI := Lib.hid hni
  clear hown hn
  go_enter Try.func56, Try.ntmps56
  go_wp2_with fail
  rw [← hw1, ← hgm, ← hv0]
  clear hw1 hgm hv0
  rw [← hni]
  clear hni
  refine (hst.uint _ ni rfl (by omega) (by omega)).mono ?_
  rintro e w2 ⟨a2, n2, k2, rfl, hst2⟩
  have d30 : w2.cell? ⟨gm, 30, none⟩ = some (.slice p.ai ni p.ci) := by rw [HNI.out]; exact hst2.cell 30 (by rw [cellsM_len]; omega)
  clear hst
  have hown2 := hst2.2.1
  have hs2 := hst2.2.2.1.size
  have hri : Rd w2 p.ai (m.image.map B) := hr.2.2.2.below hst2.2.2.1
  have hn2 : n2 ≤ 100000000000010 := by rw [← hst2.1, List.length_append]; omega
  have HST := Lib.hid hst2
  clear hst2
  go_wp2_with (first | (at_builtin; refine app_b w2 rfl _ _ rfl w0.heap.size (.slice a2 n2 k2) n2 _ rfl hown2 p.ai ni p.ci m.image rfl HNI.out.symm hri (by omega) hs2 ?_; intro a3 c3 w3 hown3 hb3 hm3) | fail)
  have hst3 := HST.out.moved (by rw [List.length_append, HST.out.1, HNI.out]) hown3 hb3 hm3.mv
  go_ret
  have hf := hst3.fin
  rw [HVI.out] at hf
  have hfin : l ++ (bytesU ni ++ m.image) = l ++ encF "sluice/wire.image" m := by rw [HNI.out]; rfl
  rw [List.append_assoc, hfin] at hf
  exact hf
set_option maxHeartbeats 2000000 in
set_option maxRecDepth 20000 in
theorem rf_match (w0 : World) (l : List UInt8) (m : M) (p : Ps) (a : Option Addr) (n c : Nat) (w : World) (hwf : WfM m) (hh : 0 ≤ m.handle) (hl : l.length ≤ 100000000000000) (hn : l.length = n) (hown : w.ownsRow w0.heap.size 5 1 (.slice a n c) n (l.map B)) (hb : Below w0.heap.size w0 w) (hr : MRd w0 m p) :
    Calls Try.prog 56 #[.slice a n c, valM m p, .int .u8 77] w (PRF w0 w (.slice a n c) (l ++ encF "sluice/wire.match" m)) := by
  have hst := St.start 50 (cellsM m p) hn hown hb
  obtain ⟨w1, hw1⟩ : ∃ w1, w1 = w.alloc (.cells (cellsM m p).toArray 50) := ⟨_, rfl⟩
  rw [← hw1] at hst
  unfold cellsM at hw1
  obtain ⟨gm, hgm⟩ : ∃ g, g = w.heap.size := ⟨_, rfl⟩
  rw [← hgm] at hst
  obtain ⟨v0, hv0⟩ : ∃ v, v = valM m p := ⟨_, rfl⟩
  unfold valM cellsM at hv0
  obtain ⟨vI, hvI⟩ : ∃ v, v = Value.slice a n c := ⟨_, rfl⟩
  have HVI := Lib.hid hvI
  rw [← hvI] at hst
  unfold valM
  unfold cellsM
  clear hvI
  have hrg : w1.rangeAt gm 14 (cellsK m p) := by have := hst.2.2.2.1.range 14 4 (by rw [cellsM_len]; omega); exact this
  rw [hw1, hgm] at hrg
  unfold cellsK at hrg
  have hnn := hn
  clear hown hn
  go_enter Try.func56, Try.ntmps56
  go_wp2_with (first | ((with_reducible refine at_dst 42 ?_); refine wpList_load_midg rfl _ _ rfl _ _ rfl _ _ hrg Try.underlying44 rfl (by kernel_rfl) ?_) | fail)
  rw [← hw1, ← hgm, ← hv0]
  clear hw1 hgm hv0
  clear hrg
  have hownI := hst.2.1
  rw [show Value.agg #[.int .i64 m.dec, .slice p.an m.names.length p.cn, .slice p.al m.lens.length p.cl, .slice p.av m.vals.length p.cv] = .agg (cellsK m p).toArray from rfl]
  refine (rmatch_any w0 l m p a n c w1 hwf hl hst.1 hst.2.1 hst.2.2.1 hr).mono ?_
  rintro e w2 ⟨a2, n2, k2, rfl, hn2, hown2, hb2, hm2⟩
  have hst2 := hst.moved hn2 hown2 (below_of hst.2.2.1 hb2 hm2.1.size) hm2
  go_wp2
  go_ret
  have hf := hst2.fin
  rw [HVI.out] at hf
  exact hf
set_option maxHeartbeats 2000000 in
set_option maxRecDepth 20000 in
theorem rf_event (w0 : World) (l : List UInt8) (m : M) (p : Ps) (a : Option Addr) (n c : Nat) (w : World) (hwf : WfM m) (hh : 0 ≤ m.handle) (hl : l.length ≤ 100000000000000) (hn : l.length = n) (hown : w.ownsRow w0.heap.size 5 1 (.slice a n c) n (l.map B)) (hb : Below w0.heap.size w0 w) (hr : MRd w0 m p) :
    Calls Try.prog 56 #[.slice a n c, valM m p, .int .u8 69] w (PRF w0 w (.slice a n c) (l ++ encF "sluice/wire.event" m)) := by
  have hst := St.start 50 (cellsM m p) hn hown hb
  obtain ⟨w1, hw1⟩ : ∃ w1, w1 = w.alloc (.cells (cellsM m p).toArray 50) := ⟨_, rfl⟩
  rw [← hw1] at hst
  unfold cellsM at hw1
  obtain ⟨gm, hgm⟩ : ∃ g, g = w.heap.size := ⟨_, rfl⟩
  rw [← hgm] at hst
  obtain ⟨v0, hv0⟩ : ∃ v, v = valM m p := ⟨_, rfl⟩
  unfold valM cellsM at hv0
  obtain ⟨vI, hvI⟩ : ∃ v, v = Value.slice a n c := ⟨_, rfl⟩
  have HVI := Lib.hid hvI
  rw [← hvI] at hst
  unfold valM
  unfold cellsM
  clear hvI
  have q1 := bytesI_le _ hwf.ts
  have q2 := bytesU_le m.id.toNat (by have := hwf.id; unfold U64 at this; omega)
  have q3 := bytesI_le _ hwf.typ
  clear hown hn
  go_enter Try.func56, Try.ntmps56
  go_wp2_with fail
  rw [← hw1, ← hgm, ← hv0]
  clear hw1 hgm hv0
  refine (hst.int m.ts hwf.ts (by omega)).mono ?_
  rintro e w2 ⟨a2, n2, k2, rfl, hst2⟩
  have d4 : w2.cell? ⟨gm, 4, none⟩ = some (.int .u64 m.id) := hst2.cell 4 (by rw [cellsM_len]; omega)
  clear hst
  go_wp2_with fail
  refine (hst2.uint m.id m.id.toNat (by have := hwf.id; unfold U64 at this; omega) (by have := hwf.id; unfold U64 at this; omega) (by rw [List.length_append]; omega)).mono ?_
  rintro e w3 ⟨a3, n3, k3, rfl, hst3⟩
  have e5 : w3.cell? ⟨gm, 5, none⟩ = some (.int .i64 m.typ) := hst3.cell 5 (by rw [cellsM_len]; omega)
  clear hst2
  go_wp2_with fail
  refine (hst3.int m.typ hwf.typ (by simp only [List.length_append]; omega)).mono ?_
  rintro e w4 ⟨a4, n4, k4, rfl, hst4⟩
  clear hst3
  obtain ⟨lb, hlb⟩ : ∃ lb, lb = l ++ bytesI m.ts ++ bytesU m.id.toNat ++ bytesI m.typ := ⟨_, rfl⟩
  have hlbl : lb.length ≤ 100000000000100 := by rw [hlb]; simp only [List.length_append]; omega
  have hfin : l ++ encF "sluice/wire.event" m = lb ++ (attrs m).flatMap bytesI := by rw [hlb]; simp only [List.append_assoc]; rfl
  rw [← hlb] at hst4
  have HF := Lib.hid hfin
  clear hlb hfin q1 q2 q3 d4 e5 hh
  go_wp2_with fail
  go_loopw [0, 7] (fun v i wr => ∃ (k : Nat) (a : Option Addr) (n c : Nat), k ≤ 8 ∧ v = .slice a n c ∧ i = .int .i64 (k : Int) ∧ St w0 w vI gm 50 (cellsM m p) (lb ++ ((attrs m).take k).flatMap bytesI) wr a n c) (fun _ i _ => 8 - (intOf i).toNat)
  case atStart => exact ⟨0, _, _, _, by omega, rfl, rfl, by simpa using hst4⟩
  case round =>
    clear hst4
    obtain ⟨k, a5, n5, k5, hk, rfl, rfl, hst⟩ := hrel
    have hlen := flat_le bytesI 10 ((attrs m).take k) fun v hv => by
      have hv := List.mem_of_mem_take hv
      simp only [attrs, List.mem_cons, List.not_mem_nil, or_false] at hv
      rcases hv with rfl | rfl | rfl | rfl | rfl | rfl | rfl | rfl
      · exact bytesI_le _ hwf.a0
      · exact bytesI_le _ hwf.a1
      · exact bytesI_le _ hwf.a2
      · exact bytesI_le _ hwf.a3
      · exact bytesI_le _ hwf.a4
      · exact bytesI_le _ hwf.a5
      · exact bytesI_le _ hwf.a6
      · exact bytesI_le _ hwf.a7
    have hll : (lb ++ ((attrs m).take k).flatMap bytesI).length ≤ 100000000001000 := by
      have : ((attrs m).take k).length ≤ 8 := by rw [List.length_take]; show min k 8 ≤ 8; omega
      rw [List.length_append]
      omega
    clear hlen
    obtain ⟨z, hz⟩ : ∃ z : Int, z = (k : Int) := ⟨_, rfl⟩
    rw [← hz]
    have hcases : k = 0 ∨ k = 1 ∨ k = 2 ∨ k = 3 ∨ k = 4 ∨ k = 5 ∨ k = 6 ∨ k = 7 ∨ k = 8 := by omega
    rcases hcases with rfl | rfl | rfl | rfl | rfl | rfl | rfl | rfl | rfl
    · obtain rfl : z = 0 := by omega
      clear hz
      have d6 : wr.cell? ⟨gm, 6, none⟩ = some (.int .i64 m.a0) := hst.cell 6 (by rw [cellsM_len]; omega)
      go_wp2_with fail
      refine (hst.int m.a0 hwf.a0 (by omega)).mono ?_
      rintro e w6 ⟨a6, n6, k6, rfl, hst6⟩
      clear d6 hst
      go_wp2
      go_roundw
      case rel => exact ⟨1, _, _, _, by omega, rfl, by go_num, by simpa [attrs, List.append_assoc] using hst6⟩
      case measure => simp [intOf]
    · obtain rfl : z = 1 := by omega
      clear hz
      have d7 : wr.cell? ⟨gm, 7, none⟩ = some (.int .i64 m.a1) := hst.cell 7 (by rw [cellsM_len]; omega)
      go_wp2_with fail
      refine (hst.int m.a1 hwf.a1 (by omega)).mono ?_
      rintro e w6 ⟨a6, n6, k6, rfl, hst6⟩
      clear d7 hst
      go_wp2
      go_roundw
      case rel => exact ⟨2, _, _, _, by omega, rfl, by go_num, by simpa [attrs, List.append_assoc] using hst6⟩
      case measure => simp [intOf]
    · obtain rfl : z = 2 := by omega
      clear hz
      have d8 : wr.cell? ⟨gm, 8, none⟩ = some (.int .i64 m.a2) := hst.cell 8 (by rw [cellsM_len]; omega)
      go_wp2_with fail
      refine (hst.int m.a2 hwf.a2 (by omega)).mono ?_
      rintro e w6 ⟨a6, n6, k6, rfl, hst6⟩
      clear d8 hst
      go_wp2
      go_roundw
      case rel => exact ⟨3, _, _, _, by omega, rfl, by go_num, by simpa [attrs, List.append_assoc] using hst6⟩
      case measure => simp [intOf]
    · obtain rfl : z = 3 := by omega
      clear hz
      have d9 : wr.cell? ⟨gm, 9, none⟩ = some (.int .i64 m.a3) := hst.cell 9 (by rw [cellsM_len]; omega)
      go_wp2_with fail
      refine (hst.int m.a3 hwf.a3 (by omega)).mono ?_
      rintro e w6 ⟨a6, n6, k6, rfl, hst6⟩
      clear d9 hst
      go_wp2
      go_roundw
      case rel => exact ⟨4, _, _, _, by omega, rfl, by go_num, by simpa [attrs, List.append_assoc] using hst6⟩
      case measure => simp [intOf]
    · obtain rfl : z = 4 := by omega
      clear hz
      have d10 : wr.cell? ⟨gm, 10, none⟩ = some (.int .i64 m.a4) := hst.cell 10 (by rw [cellsM_len]; omega)
      go_wp2_with fail
      refine (hst.int m.a4 hwf.a4 (by omega)).mono ?_
      rintro e w6 ⟨a6, n6, k6, rfl, hst6⟩
      clear d10 hst
      go_wp2
      go_roundw
      case rel => exact ⟨5, _, _, _, by omega, rfl, by go_num, by simpa [attrs, List.append_assoc] using hst6⟩
      case measure => simp [intOf]
    · obtain rfl : z = 5 := by omega
      clear hz
      have d11 : wr.cell? ⟨gm, 11, none⟩ = some (.int .i64 m.a5) := hst.cell 11 (by rw [cellsM_len]; omega)
      go_wp2_with fail
      refine (hst.int m.a5 hwf.a5 (by omega)).mono ?_
      rintro e w6 ⟨a6, n6, k6, rfl, hst6⟩
      clear d11 hst
      go_wp2
      go_roundw
      case rel => exact ⟨6, _, _, _, by omega, rfl, by go_num, by simpa [attrs, List.append_assoc] using hst6⟩
      case measure => simp [intOf]
    · obtain rfl : z = 6 := by omega
      clear hz
      have d12 : wr.cell? ⟨gm, 12, none⟩ = some (.int .i64 m.a6) := hst.cell 12 (by rw [cellsM_len]; omega)
      go_wp2_with fail
      refine (hst.int m.a6 hwf.a6 (by omega)).mono ?_
      rintro e w6 ⟨a6, n6, k6, rfl, hst6⟩
      clear d12 hst
      go_wp2
      go_roundw
      case rel => exact ⟨7, _, _, _, by omega, rfl, by go_num, by simpa [attrs, List.append_assoc] using hst6⟩
      case measure => simp [intOf]
    · obtain rfl : z = 7 := by omega
      clear hz
      have d13 : wr.cell? ⟨gm, 13, none⟩ = some (.int .i64 m.a7) := hst.cell 13 (by rw [cellsM_len]; omega)
      go_wp2_with fail
      refine (hst.int m.a7 hwf.a7 (by omega)).mono ?_
      rintro e w6 ⟨a6, n6, k6, rfl, hst6⟩
      clear d13 hst
      go_wp2
      go_roundw
      case rel => exact ⟨8, _, _, _, by omega, rfl, by go_num, by simpa [attrs, List.append_assoc] using hst6⟩
      case measure => simp [intOf]
    · obtain rfl : z = 8 := by omega
      clear hz
      go_wp2
      go_ret
      have hf := hst.fin
      rw [HVI.out] at hf
      rw [HF.out]
      exact hf
set_option maxHeartbeats 2000000 in
set_option maxRecDepth 20000 in
theorem rf_sizes (w0 : World) (l : List UInt8) (m : M) (p : Ps) (a : Option Addr) (n c : Nat) (w : World) (hwf : WfM m) (hh : 0 ≤ m.handle) (hl : l.length ≤ 100000000000000) (hn : l.length = n) (hown : w.ownsRow w0.heap.size 5 1 (.slice a n c) n (l.map B)) (hb : Below w0.heap.size w0 w) (hr : MRd w0 m p) :
    Calls Try.prog 56 #[.slice a n c, valM m p, .int .u8 90] w (PRF w0 w (.slice a n c) (l ++ encF "sluice/wire.sizes" m)) := by
  have hst := St.start 50 (cellsM m p) hn hown hb
  obtain ⟨w1, hw1⟩ : ∃ w1, w1 = w.alloc (.cells (cellsM m p).toArray 50) := ⟨_, rfl⟩
  rw [← hw1] at hst
  unfold cellsM at hw1
  obtain ⟨gm, hgm⟩ : ∃ g, g = w.heap.size := ⟨_, rfl⟩
  rw [← hgm] at hst
  obtain ⟨v0, hv0⟩ : ∃ v, v = valM m p := ⟨_, rfl⟩
  unfold valM cellsM at hv0
  obtain ⟨vI, hvI⟩ : ∃ v, v = Value.slice a n c := ⟨_, rfl⟩
  have HVI := Lib.hid hvI
  rw [← hvI] at hst
  unfold valM
  unfold cellsM
  clear hvI
  have q1 := bytesI_le _ hwf.mark
  have q2 := byT_len m.closed
  have q3 := bytesI_le _ hwf.held
  have q4 := bytesI_le _ hwf.kept
  have q5 := bytesI_le _ hwf.waiting
  clear hown hn
  go_enter Try.func56, Try.ntmps56
  go_wp2_with fail
  rw [← hw1, ← hgm, ← hv0]
  clear hw1 hgm hv0
  refine (hst.int m.mark hwf.mark (by omega)).mono ?_
  rintro e w2 ⟨a2, n2, k2, rfl, hst2⟩
  have d19 : w2.cell? ⟨gm, 19, none⟩ = some (.bool m.closed) := hst2.cell 19 (by rw [cellsM_len]; omega)
  clear hst
  go_wp2_with fail
  refine (rtruth_any m.closed w2).mono ?_
  rintro e _ ⟨rfl, rfl⟩
  have hown2 := hst2.2.1
  have hs2 := hst2.2.2.1.size
  have hn2 : n2 ≤ 100000000000010 := by rw [← hst2.1, List.length_append]; omega
  have HST := Lib.hid hst2
  obtain ⟨y, hy⟩ : ∃ y : Int, y = if m.closed then 1 else 0 := ⟨_, rfl⟩
  obtain ⟨u, hu⟩ : ∃ u : UInt8, u = if m.closed then 1 else 0 := ⟨_, rfl⟩
  have hyu : Value.int .u8 y = B u := by rw [hy, hu]; cases m.closed <;> rfl
  have hbu : byT m.closed = [u] := by rw [hu]; rfl
  rw [← hy]
  clear hst2 d19 hy hu
  have HYU := Lib.hid hyu
  have HBU := Lib.hid hbu
  clear hyu hbu
  go_wp2_with (first | (at_builtin; refine app_b1 w2 rfl _ _ rfl w0.heap.size (.slice a2 n2 k2) n2 _ rfl hown2 _ u HYU.out rfl (by omega) hs2 ?_; intro a3 c3 w3 hown3 hb3 hm3; (have hst3 := HST.out.moved (by rw [List.length_append, HST.out.1]; rfl) hown3 hb3 hm3.mv.alloc); rw [← HBU.out] at hst3; (have d20 : w3.cell? ⟨gm, 20, none⟩ = some (.int .i64 m.held) := hst3.cell 20 (by rw [cellsM_len]; omega)); clear hown2 hown3 hb3 hm3) | fail)
  refine (hst3.int m.held hwf.held (by simp only [List.length_append]; omega)).mono ?_
  rintro e w4 ⟨a4, n4, k4, rfl, hst4⟩
  have d21 : w4.cell? ⟨gm, 21, none⟩ = some (.int .i64 m.kept) := hst4.cell 21 (by rw [cellsM_len]; omega)
  clear hst3 d20
  go_wp2_with fail
  refine (hst4.int m.kept hwf.kept (by simp only [List.length_append]; omega)).mono ?_
  rintro e w5 ⟨a5, n5, k5, rfl, hst5⟩
  have d22 : w5.cell? ⟨gm, 22, none⟩ = some (.int .i64 m.waiting) := hst5.cell 22 (by rw [cellsM_len]; omega)
  clear hst4 d21
  go_wp2_with fail
  refine (hst5.int m.waiting hwf.waiting (by simp only [List.length_append]; omega)).mono ?_
  rintro e w6 ⟨a6, n6, k6, rfl, hst6⟩
  have d23 : w6.cell? ⟨gm, 23, none⟩ = some (.int .i64 m.parts) := hst6.cell 23 (by rw [cellsM_len]; omega)
  clear hst5 d22
  go_wp2_with fail
  refine (hst6.int m.parts hwf.parts (by simp only [List.length_append]; omega)).mono ?_
  rintro e w7 ⟨a7, n7, k7, rfl, hst7⟩
  go_wp2
  go_ret
  have hf := hst7.fin
  rw [HVI.out] at hf
  have hfin : l ++ bytesI m.mark ++ byT m.closed ++ bytesI m.held ++ bytesI m.kept ++ bytesI m.waiting ++ bytesI m.parts = l ++ encF "sluice/wire.sizes" m := by
    rw [show encF "sluice/wire.sizes" m = encSizes m from rfl, encSizes]
    simp [List.append_assoc]
  rw [hfin] at hf
  exact hf
/-- The reference's putField, for each of the ten. -/
theorem rfield_any (s : String) (hs : s ∈ tenL) (x : Int) (hx : x = ((letter s).toNat : Int)) (w0 : World) (l : List UInt8) (m : M) (p : Ps) (a : Option Addr) (n c : Nat) (w : World) (hwf : WfM m) (hh : 0 ≤ m.handle) (hl : l.length ≤ 100000000000000) (hn : l.length = n) (hown : w.ownsRow w0.heap.size 5 1 (.slice a n c) n (l.map B)) (hb : Below w0.heap.size w0 w) (hr : MRd w0 m p) :
    Calls Try.prog 56 #[.slice a n c, valM m p, .int .u8 x] w (PRF w0 w (.slice a n c) (l ++ encF s m)) := by
  subst hx
  simp only [tenL, List.mem_cons, List.not_mem_nil, or_false] at hs
  rcases hs with rfl | rfl | rfl | rfl | rfl | rfl | rfl | rfl | rfl | rfl
  · exact rf_number w0 l m p a n c w hwf hh hl hn hown hb hr
  · exact rf_handle w0 l m p a n c w hwf hh hl hn hown hb hr
  · exact rf_code w0 l m p a n c w hwf hh hl hn hown hb hr
  · exact rf_schema w0 l m p a n c w hwf hh hl hn hown hb hr
  · exact rf_query w0 l m p a n c w hwf hh hl hn hown hb hr
  · exact rf_image w0 l m p a n c w hwf hh hl hn hown hb hr
  · exact rf_event w0 l m p a n c w hwf hh hl hn hown hb hr
  · exact rf_match w0 l m p a n c w hwf hh hl hn hown hb hr
  · exact rf_sizes w0 l m p a n c w hwf hh hl hn hown hb hr
  · exact rf_fault w0 l m p a n c w hwf hh hl hn hown hb hr
#print axioms rfield_any
end Go.Proofs.Ytaipnbpefdcejaa
