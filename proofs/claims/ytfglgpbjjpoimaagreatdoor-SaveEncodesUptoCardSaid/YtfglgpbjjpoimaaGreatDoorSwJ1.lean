/- SaveEncodes: the walk of the law: it answers true. -/
import Derived.Test.YtfglgpbjjpoimaaGreatDoorSwGZ
import Derived.Test.YtfglgpbjjpoimaaGreatDoorSwM5
import Derived.Test.YtfglgpbjjpoimaaGreatDoorSwMB
import Derived.Test.YtfglgpbjjpoimaaGreatDoorSwHC
import Derived.Test.YtfglgpbjjpoimaaGreatDoorSwGU
set_option linter.unusedVariables false
namespace Go.Proofs.YtfglgpbjjpoimaaGreatDoor
open Go.RowKit Sv
theorem MOk_map {l1 l2 : List Mm} (h : l1.map (·.m) = l2.map (·.m)) (hm : MOk l1 l1.length) : MOk l2 l2.length := by
 have hl : l1.length = l2.length := by have h1 := congrArg List.length h; simpa using h1
 refine ⟨fun i hi _ => ?_, fun i hi _ => ?_⟩
 ·rw [← mapEq_at h i (by omega) hi]
  exact hm.1 i (by omega) (by omega)
 ·rw [← mapEq_at h i (by omega) (by omega), ← mapEq_at h (i + 1) (by omega) hi]
  exact hm.2 i (by omega) (by omega)
theorem SameSt.ok {x y : Stm} (h : SameSt x y) : StOK x ↔ StOK y := by
 constructor
 ·intro hs
  refine ⟨h.types ▸ hs.schema, h.q ▸ hs.query, h.cap ▸ hs.cap, h.mark ▸ hs.mark, MOk_map h.waiting hs.waiting, h.used ▸ hs.used, ?_, ?_⟩
  ·rw [← h.types, ← h.held]; exact hs.held
  ·rw [← h.types, ← h.kept]; exact hs.kept
 ·intro hs
  refine ⟨h.types.symm ▸ hs.schema, h.q.symm ▸ hs.query, h.cap.symm ▸ hs.cap, h.mark.symm ▸ hs.mark, MOk_map h.waiting.symm hs.waiting, h.used.symm ▸ hs.used, ?_, ?_⟩
  ·rw [h.types, h.held]; exact hs.held
  ·rw [h.types, h.kept]; exact hs.kept
theorem SameSt.body {x y : Stm} (h : SameSt x y) (tx : Str) : bodyL x tx = bodyL y tx := by
 have hw : byMts x.waiting = byMts y.waiting := by
  have hl : x.waiting.length = y.waiting.length := by have h1 := congrArg List.length h.waiting; simpa using h1
  have h2 : (x.waiting.flatMap fun z => byMt z.m) = y.waiting.flatMap fun z => byMt z.m := by
   have h3 : (x.waiting.map (·.m)).flatMap byMt = (y.waiting.map (·.m)).flatMap byMt := by rw [h.waiting]
   simpa [List.flatMap_map] using h3
  unfold byMts
  rw [hl, h2]
 unfold bodyL
 rw [h.types, h.cap, h.mark, h.closed, h.held, h.kept, hw, h.used]
theorem image_le {y : Stm} {tx : Str} (hb : StB y) (hok : StOK y) (ht : ansR fmtI y.q.q = some tx) : (imageL (bodyL y tx)).length ≤ 140737488355328 := by
 have h1 := schema_len hok.schema
 have h2 := ans_len hok.query.1 hb.qi ht
 have h3 : ∀ l : List Ev, (∀ e ∈ l, EvB e) → l.length ≤ 1048576 → (byEvs (tys y.types) l).length ≤ 115343400 := fun l h1 h2 => by
  have h3 := flat_le (byEv (tys y.types)) 110 l (fun v hv => byEv_le (h1 v hv))
  have h4 := bytesU_len10 l.length (by omega)
  unfold byEvs
  rw [List.length_append]; omega
 have h4 := h3 y.held hb.hb hb.hl
 have h5 := h3 y.kept hb.kb hb.kl
 have h6 := byNames_le hb.ul hb.ub
 have h7 := flat_le (fun z : Mm => byMt z.m) 43000100 y.waiting (fun v hv => byMt_le (hb.wb v hv))
 have h8 := hb.wl
 have h9 : y.waiting.length * 43000100 ≤ 1048576 * 43000100 := Nat.mul_le_mul_right _ h8
 have h10 := bytesU_len10 y.waiting.length (by omega)
 have h11 := bytesI_len10 y.mark hb.mark
 have h12 := hok.cap
 have h13 := bytesU_len10 y.cap.toNat (by omega)
 have h14 := bytesU_len10 (schemaT (tys y.types)).length (by omega)
 have h15 := bytesU_len10 tx.length (by omega)
 unfold imageL headL bodyL byText byMts closedB
 simp only [List.length_append, hiB_len, List.length_cons, List.length_nil]
 have h16 : magicB.length = 8 := rfl
 omega
set_option maxHeartbeats 4000000 in
set_option maxRecDepth 20000 in
theorem law_any (x : Stm) (w : World) (hl : Ld w) (he : EtOK w) (h : RdSt w x) (hb : StB x) (hat : ∀ t ∈ x.types, t.attrs.length ≤ 1048576) :
  Calls Tryz.prog 3 #[.agg (stc x).toArray] w fun e w' => e = .returned (.bool true) ∧ Below w.heap.size w w' := by
 obtain ⟨w0, hw0⟩ : ∃ w0, w0 = w.alloc (.cells (stc x).toArray 36) := ⟨_, rfl⟩
 have hE : Blk w0 w.heap.size 36 (stc x) := by rw [hw0]; exact Blk.new w _ 36
 have HB0 := Lib.hid (show Below w.heap.size w w0 by rw [hw0]; exact bal (Below.refl _ _) (Nat.le_refl _) _)
 have HL := Lib.hid (hl.below HB0.out)
 have HET := Lib.hid (he.below HB0.out)
 have HR := Lib.hid (h.below HB0.out)
 have HSTB := Lib.hid hb
 have HAT := Lib.hid hat
 have HQB := Lib.hid (queryBeyond_any x.q w0 HR.out.q hb.qb)
 have HTW := Lib.hid (fun W (hW : Below w0.heap.size w0 W) => twin_any x W (HR.out.below hW) hb hat)
 have HEN := Lib.hid (fun W (hW : Below w0.heap.size w0 W) => pencode_any x W (HL.out.below hW) (HR.out.below hW) hb)
 have c1 : w0.cell? ⟨w.heap.size, 1, none⟩ = some (.slice x.q.ia x.q.items.length x.q.ic) := hE.ci 1 rfl
 have c2 : w0.cell? ⟨w.heap.size, 2, none⟩ = some (.int .i64 x.q.mode) := hE.ci 2 rfl
 have c3 : w0.cell? ⟨w.heap.size, 3, none⟩ = some (.int .i64 x.q.after) := hE.ci 3 rfl
 have c4 : w0.cell? ⟨w.heap.size, 4, none⟩ = some (.slice x.q.wa x.q.wher.length x.q.wc) := hE.ci 4 rfl
 have c5 : w0.cell? ⟨w.heap.size, 5, none⟩ = some (.int .i64 x.q.within) := hE.ci 5 rfl
 have c6 : w0.cell? ⟨w.heap.size, 6, none⟩ = some (.string ⟨x.q.by_.toArray⟩) := hE.ci 6 rfl
 have c7 : w0.cell? ⟨w.heap.size, 7, none⟩ = some (.slice x.q.ra x.q.ret.length x.q.rc) := hE.ci 7 rfl
 simp only [qmc, T] at HQB
 obtain ⟨CX, hCX⟩ : ∃ CX, CX = stc x := ⟨_, rfl⟩
 have hszX : (Tryz.prog.info? 36).map (·.size) = some CX.length := by rw [hCX]; kernel_rfl
 rw [← hCX] at hw0 hE HTW HEN ⊢
 have HCX := Lib.hid hCX
 have HEX := Lib.hid (fun W (hW : Below w0.heap.size w0 W) => hE.below hW)
 clear hE hCX hl he h hb hat
 go_enter Tryz.func3, Tryz.ntmps3
 go_upto_region 1 with fail
 rw [← hw0]
 clear hw0
 go_wp2_with fail
 refine (HQB.out).mono ?_
 rintro e w1 ⟨bq, rfl, hb1⟩
 have HB1 := Lib.hid hb1
 clear c1 c2 c3 c4 c5 c6 c7 hb1
 cases bq with
 | true =>
  go_wp2_with fail
  go_ret
  exact ⟨rfl, HB0.out.trans (HB1.out.mono HB0.out.size)⟩
 | false =>
  have hrx := (HEX.out w1 HB1.out).whole
  go_wp2_with (first | ((with_reducible refine at_dst 13 ?_); refine wpList_load_midg rfl 36 _ rfl w.heap.size 0 rfl CX _ hrx Tryz.underlying36 rfl hszX ?_) | fail)
  refine (HTW.out w1 HB1.out).mono ?_
  rintro e w2 ⟨y, rfl, hry, hsame, hby, hb2⟩
  have HB2 := Lib.hid (HB1.out.trans (hb2.mono HB1.out.size))
  have HSAME := Lib.hid hsame
  obtain ⟨CY, hCY⟩ : ∃ CY, CY = stc y := ⟨_, rfl⟩
  have hszY : (Tryz.prog.info? 36).map (·.size) = some CY.length := by rw [hCY]; kernel_rfl
  have hszY2 : (Tryz.prog.info? 36).map (·.size) = some CY.toArray.size := by rw [hCY]; kernel_rfl
  have hallY : CY.toArray.all (·.oneCell') = true := by rw [hCY]; kernel_rfl
  rw [← hCY]
  have hk := Blk.new w2 [.slice none 0 0, .slice none 0 0, .int .i64 0, .int .i64 0, .slice none 0 0, .int .i64 0, .string ⟨#[]⟩, .slice none 0 0, .int .i64 0, .int .i64 0, .bool false, .slice none 0 0, .slice none 0 0, .slice none 0 0, .slice none 0 0] 36
  have hth : (w2.alloc (.cells #[.slice none 0 0, .slice none 0 0, .int .i64 0, .int .i64 0, .slice none 0 0, .int .i64 0, .string ⟨#[]⟩, .slice none 0 0, .int .i64 0, .int .i64 0, .bool false, .slice none 0 0, .slice none 0 0, .slice none 0 0, .slice none 0 0] 36)).there w2.heap.size 0 CY.toArray.size := by rw [hCY]; exact hk.there 0 15 (Nat.le_refl _)
  have hst := blk_over hk CY (by rw [hCY]; rfl)
  have HCY := Lib.hid hCY
  clear hrx hCY hk hsame
  go_upto_region 4 with (first | ((with_reducible refine at_store ?_); refine wpList_store_mid rfl 36 _ _ rfl w2.heap.size 0 CY.toArray rfl rfl hth hszY2 hallY ?_) | fail)
  obtain ⟨w3, hw3⟩ : ∃ w3, w3 = (w2.alloc (.cells #[.slice none 0 0, .slice none 0 0, .int .i64 0, .int .i64 0, .slice none 0 0, .int .i64 0, .string ⟨#[]⟩, .slice none 0 0, .int .i64 0, .int .i64 0, .bool false, .slice none 0 0, .slice none 0 0, .slice none 0 0, .slice none 0 0] 36)).setCells w2.heap.size 0 CY := ⟨_, rfl⟩
  obtain ⟨gy, hgy⟩ : ∃ g, g = w2.heap.size := ⟨_, rfl⟩
  have hb3 : Below w2.heap.size w2 w3 := by rw [hw3]; exact hst.below (bal (Below.refl _ _) (Nat.le_refl _) _) (Nat.le_refl _) (Nat.le_refl _)
  have hk3 : Blk w3 gy 36 CY := by rw [hw3, hgy]; exact hst.blk
  rw [← hw3, ← hgy]
  have HRY := Lib.hid (hry.below hb3)
  have HB3 := Lib.hid (HB2.out.trans (hb3.mono HB2.out.size))
  have HEY := Lib.hid (fun W (hW : Below w3.heap.size w3 W) => hk3.below hW)
  have HRE := Lib.hid (rencode_any y w3 (HL.out.below HB3.out) HRY.out hby)
  rw [← HCY.out] at HRE
  have HIML := Lib.hid (fun tx (h1 : StOK y) (h2 : ansR fmtI y.q.q = some tx) => image_le hby h1 h2)
  have hrg := hk3.whole
  clear hth hst hw3 hgy hb3 hk3 hry hby hb2
  go_wp2_with (first | ((with_reducible refine at_dst 16 ?_); refine wpList_load_midg rfl 36 _ rfl gy 0 rfl CY _ hrg Tryz.underlying36 rfl hszY ?_) | fail)
  refine (HRE.out).mono ?_
  rintro e w4 ⟨hr, hb4⟩
  have HB4 := Lib.hid (HB3.out.trans (hb4.mono HB3.out.size))
  have HBY4 := Lib.hid hb4
  clear hrg hb4
  rcases hr with ⟨hno, rfl⟩ | ⟨tx, a, c, n, hok, hans, hn, rfl, hrd⟩
  ·have HNO := Lib.hid hno
   have hrx := (HEX.out w4 HB4.out).whole
   clear hno
   go_wp2_with (first | ((with_reducible refine at_dst 21 ?_); refine wpList_load_midg rfl 36 _ rfl w.heap.size 0 rfl CX _ hrx Tryz.underlying36 rfl hszX ?_) | fail)
   refine (HEN.out w4 HB4.out).mono ?_
   rintro e w5 ⟨hr, hb5⟩
   have HB5 := Lib.hid (HB4.out.trans (hb5.mono HB4.out.size))
   have HBY5 := Lib.hid (HBY4.out.trans (hb5.mono HBY4.out.size))
   clear hrx hb5
   rcases hr with ⟨_, g, rfl, _, hblk⟩ | ⟨tx, a, c, n, hok, _⟩
   rotate_left
   ·exact absurd (HSAME.out.ok.1 hok) HNO.out
   have HTD := Lib.hid (told_any g 160 0 w5 hblk (HET.out.below HB5.out))
   have HSB := Lib.hid (fun W (_ : True) => sameBytes_any none none 0 0 0 [] W rfl (Nat.zero_le _) (Rd.nil _ _) (Rd.nil _ _))
   clear hblk
   have hrx := (HEX.out w5 HB5.out).whole
   go_wp2_with fail
   refine (HTD.out).mono ?_
   rintro e w6 ⟨rfl, hb6⟩
   have HBY6 := Lib.hid (HBY5.out.trans (hb6.mono HBY5.out.size))
   have hbs6 : True := trivial
   have HB6 := Lib.hid (HB5.out.trans (hb6.mono HB5.out.size))
   clear hrx hb6
   go_wp2_with fail
   refine (HSB.out w6 hbs6).mono ?_
   rintro e w7 ⟨rfl, hb7⟩
   have HB7 := Lib.hid (HB6.out.trans (hb7.mono HB6.out.size))
   have hrx := (HEX.out w7 HB7.out).whole
   have hry := (HEY.out w7 (HBY6.out.trans (hb7.mono HBY6.out.size))).whole
   have HSS := Lib.hid (sameState_any x y w7 HSAME.out HSTB.out HAT.out (HR.out.below HB7.out) (HRY.out.below (HBY6.out.trans (hb7.mono HBY6.out.size))))
   rw [← HCX.out, ← HCY.out] at HSS
   clear hb7 hbs6
   go_wp2_with (first | ((with_reducible refine at_dst 43 ?_); refine wpList_load_midg rfl 36 _ rfl w.heap.size 0 rfl CX _ hrx Tryz.underlying36 rfl hszX ?_) | ((with_reducible refine at_dst 44 ?_); refine wpList_load_midg rfl 36 _ rfl gy 0 rfl CY _ hry Tryz.underlying36 rfl hszY ?_) | fail)
   refine (HSS.out).mono ?_
   rintro e w8 ⟨rfl, hb8⟩
   have HB8 := Lib.hid (HB7.out.trans (hb8.mono HB7.out.size))
   clear hrx hry hb8
   go_wp2_with fail
   go_ret
   exact ⟨rfl, HB0.out.trans (HB8.out.mono HB0.out.size)⟩
  ·have HOK := Lib.hid hok
   have HN := Lib.hid hn
   have HRD := Lib.hid hrd
   have HANS := Lib.hid hans
   have hrx := (HEX.out w4 HB4.out).whole
   clear hok hn hrd hans
   go_wp2_with (first | ((with_reducible refine at_dst 21 ?_); refine wpList_load_midg rfl 36 _ rfl w.heap.size 0 rfl CX _ hrx Tryz.underlying36 rfl hszX ?_) | fail)
   refine (HEN.out w4 HB4.out).mono ?_
   rintro e w5 ⟨hr, hb5⟩
   have HB5 := Lib.hid (HB4.out.trans (hb5.mono HB4.out.size))
   have HBY5 := Lib.hid (HBY4.out.trans (hb5.mono HBY4.out.size))
   have HRD5 := Lib.hid (HRD.out.below hb5)
   clear hrx hb5
   rcases hr with ⟨hno, _⟩ | ⟨tx2, a2, c2, n2, hok2, hans2, hn2, rfl, hrd2⟩
   ·exact absurd (HSAME.out.ok.2 HOK.out) hno
   obtain rfl : tx2 = tx := by
    have h1 := HANS.out
    rw [← HSAME.out.q, hans2] at h1
    exact Option.some.inj h1
   rw [HSAME.out.body] at hn2 hrd2
   obtain rfl : n2 = n := hn2.symm.trans HN.out
   obtain ⟨IM, hIM⟩ : ∃ IM, IM = imageL (bodyL y tx2) := ⟨_, rfl⟩
   have hIL : IM.length = n2 := by rw [hIM]; exact hn2
   have hI48 : n2 ≤ 140737488355328 := by
    rw [← hn2]
    have h1 := HIML.out tx2 HOK.out HANS.out
    exact h1
   rw [← hIM] at hrd2 HRD5
   have HTD := Lib.hid (told_nil w5)
   have HSB := Lib.hid (fun W (hW : Below w5.heap.size w5 W) => sameBytes_any a2 a c2 c n2 IM W hIL hI48 (hrd2.below hW) (HRD5.out.below hW))
   clear hn2 hrd2 hok2 hans2 hIM hIL hI48 HRD5 HRD HN
   have hrx := (HEX.out w5 HB5.out).whole
   go_wp2_with fail
   refine (HTD.out).mono ?_
   rintro e w5 ⟨rfl, rfl⟩
   have hb6 : Below w5.heap.size w5 w5 := Below.refl _ _
   have HBY6 := Lib.hid HBY5.out
   have hbs6 : Below w5.heap.size w5 w5 := Below.refl _ _

   have HB6 := Lib.hid (HB5.out.trans (hb6.mono HB5.out.size))
   clear hrx hb6
   go_wp2_with fail
   refine (HSB.out w5 hbs6).mono ?_
   rintro e w7 ⟨rfl, hb7⟩
   have HB7 := Lib.hid (HB6.out.trans (hb7.mono HB6.out.size))
   have hrx := (HEX.out w7 HB7.out).whole
   have hry := (HEY.out w7 (HBY6.out.trans (hb7.mono HBY6.out.size))).whole
   have HSS := Lib.hid (sameState_any x y w7 HSAME.out HSTB.out HAT.out (HR.out.below HB7.out) (HRY.out.below (HBY6.out.trans (hb7.mono HBY6.out.size))))
   rw [← HCX.out, ← HCY.out] at HSS
   clear hb7 hbs6
   go_wp2_with (first | ((with_reducible refine at_dst 43 ?_); refine wpList_load_midg rfl 36 _ rfl w.heap.size 0 rfl CX _ hrx Tryz.underlying36 rfl hszX ?_) | ((with_reducible refine at_dst 44 ?_); refine wpList_load_midg rfl 36 _ rfl gy 0 rfl CY _ hry Tryz.underlying36 rfl hszY ?_) | fail)
   refine (HSS.out).mono ?_
   rintro e w8 ⟨rfl, hb8⟩
   have HB8 := Lib.hid (HB7.out.trans (hb8.mono HB7.out.size))
   clear hrx hry hb8
   go_wp2_with fail
   go_ret
   exact ⟨rfl, HB0.out.trans (HB8.out.mono HB0.out.size)⟩
end Go.Proofs.YtfglgpbjjpoimaaGreatDoor
