/- The walk of the law WireStream. -/
import Derived.Test.YtaipnbpefdcejaaStrP
import Derived.Test.YtaipnbpefdcejaaAlk
set_option linter.unusedVariables false
namespace Go.Proofs.Ytaipnbpefdcejaa
open Go.RowKit
/-- 'append(s, x)' of one int. -/
theorem app_int (w : World) {ops : Array Oper} {rest : List Oper} {o : Oper} {a : Act} {Q : Exit → Act → World → Prop} (hgd : o.guard = none) (s x : Operand)
    (ho : o.op = .call { callee := .builtin .append, args := #[s, x], argTypes := #[41, 41] }) (base : Nat) (v : Value) (n : Nat) (l1 : List Int) (hs : a.eval s = v) (hown : w.ownsRow base 3 1 v n (zcells l1))
    (y : Int) (hx : a.eval x = .slice (some ⟨w.heap.size, 0, none⟩) 1 1) (hb : n + 1 ≤ 1099511627776) (hbase : base ≤ w.heap.size)
    (h : ∀ a' c' w', w'.ownsRow base 3 1 (.slice a' (n + 1) c') (n + 1) (zcells (l1 ++ [y])) → Below base w w' → Moved (w.alloc (.cells #[.int .i64 y] 3)) w' v (.slice a' (n + 1) c') →
      wpList Try.prog ops Q rest (a.put o.dst (.slice a' (n + 1) c')) w') : wpList Try.prog ops Q (o :: rest) a (w.alloc (.cells #[.int .i64 y] 3)) := by
  obtain ⟨i0, hi, hz0, hz1, hz2⟩ := info_parts info3
  refine wpList_append_one w hgd s x 41 ho base 3 i0 (.int .i64 0) 1 8 Try.underlying41 hi hz0 hz1 hz2 rfl (by decide) v n _ _ hs hown hx rfl (by intro z hz; simp at hz; subst hz; rfl) (by unfold maxLen; omega) (by omega) hbase ?_
  intro a' c' w' h1 h2 h3
  exact h a' c' w' (by simpa [zcells] using h1) h2 h3
theorem mlist_len (S : List (M × Ps)) : (S.map (·.1)).length = S.length := List.length_map _
/-- The first loop under way. -/
structure SS (w : World) (ls : List (M × Ps)) (j : Nat) (S : List (M × Ps)) (aA : Option Addr) (nA cA : Nat) (aS : Option Addr) (cS : Nat) (aE : Option Addr) (cE : Nat) (wr : World) : Prop where
  sent : S = sentL (ls.take j)
  len : nA = (flatF (S.map (·.1))).length
  ownA : wr.ownsRow w.heap.size 5 1 (.slice aA nA cA) nA ((flatF (S.map (·.1))).map B)
  ownS : wr.ownsRow w.heap.size 50 31 (.slice aS S.length cS) S.length (mcells S)
  ownE : wr.ownsRow w.heap.size 3 1 (.slice aE S.length cE) S.length (zcells (endsL (S.map (·.1))))
  empty : S = [] → aA = none ∧ cA = 0 ∧ aS = none ∧ cS = 0 ∧ aE = none ∧ cE = 0
  bel : Below w.heap.size w wr
theorem SS.start (w : World) (ls : List (M × Ps)) : SS w ls 0 [] none 0 0 none 0 none 0 w :=
  ⟨by simp [sentL], rfl, World.ownsRow_nil _ _ _ _, World.ownsRow_nil _ _ _ _, World.ownsRow_nil _ _ _ _, fun _ => ⟨rfl, rfl, rfl, rfl, rfl, rfl⟩, Below.refl _ _⟩
theorem SS.skip {w wr w' : World} {ls : List (M × Ps)} {j : Nat} {S : List (M × Ps)} {aA aS aE : Option Addr} {nA cA cS cE : Nat} (h : SS w ls j S aA nA cA aS cS aE cE wr) (hj : j < ls.length) (hno : ¬ okM ls[j].1) (hb : Below wr.heap.size wr w') :
    SS w ls (j + 1) S aA nA cA aS cS aE cE w' :=
  ⟨by rw [sent_snoc ls j hj, if_neg hno, List.append_nil]; exact h.sent, h.len, own_below h.ownA hb, own_below h.ownS hb, own_below h.ownE hb, h.empty, h.bel.trans (hb.mono h.bel.size)⟩
theorem sent_len (L : List (M × Ps)) : (flatF ((sentL L).map (·.1))).length ≤ 2 * sumRoom L := by
  induction L with
  | nil => simp [sentL, flatF, sumRoom]
  | cons x L ih =>
    have h1 : sumRoom (x :: L) = roomM x.1 + sumRoom L := by simp [sumRoom]
    by_cases hk : okM x.1
    · have h2 : sentL (x :: L) = x :: sentL L := by unfold sentL; rw [List.filter_cons_of_pos (by simpa using hk)]
      have h3 := frame_room hk.1.1 hk.2.1 hk.2.2
      rw [h2, h1, List.map_cons]
      show (frameM x.1 ++ flatF ((sentL L).map (·.1))).length ≤ _
      rw [List.length_append]
      omega
    · have h2 : sentL (x :: L) = sentL L := by unfold sentL; rw [List.filter_cons_of_neg (by simpa using hk)]
      rw [h2, h1]
      omega
theorem sum_take (L : List (M × Ps)) (j : Nat) : sumRoom (L.take j) ≤ sumRoom L := by
  conv => rhs; rw [← List.take_append_drop j L]
  unfold sumRoom
  rw [List.map_append, List.sum_append]
  omega
theorem SS.bound {w wr : World} {ls : List (M × Ps)} {j : Nat} {S : List (M × Ps)} {aA aS aE : Option Addr} {nA cA cS cE : Nat} (h : SS w ls j S aA nA cA aS cS aE cE wr) : nA ≤ 2 * sumRoom ls ∧ S.length ≤ ls.length := by
  constructor
  · have h1 := sent_len (ls.take j)
    have h2 := sum_take ls j
    rw [h.len, h.sent]
    omega
  · rw [h.sent]
    unfold sentL
    refine Nat.le_trans (List.length_filter_le _ _) ?_
    rw [List.length_take]
    omega
theorem own_form {w : World} {base n c : Nat} {e : TypeId} {size : Nat} {a : Option Addr} {xs : List Value} (h : w.ownsRow base e size (.slice a n c) n xs) (hn : 0 < n) : ∃ g, a = some ⟨g, 0, none⟩ := by
  rcases h.2 with ⟨h1, h2⟩ | ⟨g, cap, cur, h1, _⟩
  · omega
  · cases h1; exact ⟨g, rfl⟩
theorem rdL_take {w : World} {a : Option Addr} {ms : List (M × Ps)} (h : RdL w a ms) (k : Nat) : RdL w a (ms.take k) := by
  refine ⟨?_, fun x hx => h.2 x (List.mem_of_mem_take hx)⟩
  have h2 : mcells (ms.take k) = (mcells ms).take (k * 31) := by
    by_cases hk : k ≤ ms.length
    · conv => rhs; rw [← List.take_append_drop k ms, mcells_app]
      rw [List.take_left' (by rw [mcells_len, List.length_take]; omega)]
    · rw [List.take_of_length_le (by omega), List.take_of_length_le (by rw [mcells_len]; omega)]
  rcases h.1 with h0 | ⟨b, off, h1, hc⟩
  · exact .inl (by rw [h2, h0]; simp)
  · refine .inr ⟨b, off, h1, fun i u hu => hc i u ?_⟩
    rw [h2, List.getElem?_take] at hu
    split at hu
    · exact hu
    · cases hu
theorem rdL_drop {w : World} {g off : Nat} {ms : List (M × Ps)} (h : RdL w (some ⟨g, off, none⟩) ms) (k : Nat) (hk : k ≤ ms.length) : RdL w (some ⟨g, off + k * 31, none⟩) (ms.drop k) := by
  refine ⟨?_, fun x hx => h.2 x (List.mem_of_mem_drop hx)⟩
  have h2 : mcells (ms.drop k) = (mcells ms).drop (k * 31) := by
    conv => rhs; rw [← List.take_append_drop k ms, mcells_app]
    rw [List.drop_left' (by rw [mcells_len, List.length_take]; omega)]
  rcases h.1 with h0 | ⟨b, o, h1, hc⟩
  · exact .inl (by rw [h2, h0]; simp)
  · cases h1
    refine .inr ⟨g, off + k * 31, rfl, fun i u hu => ?_⟩
    rw [h2, List.getElem?_drop] at hu
    rw [Nat.add_assoc]
    exact hc _ u hu
theorem rd_drop {w : World} {g off : Nat} {l : List UInt8} (h : Rd w (some ⟨g, off, none⟩) (l.map B)) (k : Nat) : Rd w (some ⟨g, off + k, none⟩) ((l.drop k).map B) := by
  rcases h with h0 | ⟨b, o, h1, hc⟩
  · refine .inl ?_
    have : l = [] := by simpa using h0
    simp [this]
  · cases h1
    refine .inr ⟨g, off + k, rfl, fun i u hu => ?_⟩
    rw [List.map_drop, List.getElem?_drop] at hu
    rw [Nat.add_assoc]
    exact hc _ u hu
theorem SS.grow {w wr w2 w3 w4 w5 : World} {ls : List (M × Ps)} {j : Nat} {S : List (M × Ps)} {aA aS aE aA' aS' aE' : Option Addr} {nA cA cS cE cA' cS' cE' n2 : Nat} {y : Int} {x : M × Ps} {cs50 cs3 : Array Value} (h : SS w ls j S aA nA cA aS cS aE cE wr) (hj : j < ls.length) (hx : x = ls[j]) (hok : okM x.1)
    (hn2 : n2 = (frameM x.1).length) (h3 : w3.ownsRow w.heap.size 5 1 (.slice aA' (nA + n2) cA') (nA + n2) ((flatF (S.map (·.1)) ++ frameM x.1).map B)) (hb2 : Below wr.heap.size wr w2) (b3 : Below w.heap.size w2 w3)
    (h4 : w4.ownsRow w.heap.size 50 31 (.slice aS' (S.length + 1) cS') (S.length + 1) (mcells (S ++ [x]))) (b4 : Below w.heap.size w3 w4) (m4 : Moved (w3.alloc (.cells cs50 50)) w4 (.slice aS S.length cS) (.slice aS' (S.length + 1) cS')) (h4o : w3.ownsRow w.heap.size 50 31 (.slice aS S.length cS) S.length (mcells S))
    (h5 : w5.ownsRow w.heap.size 3 1 (.slice aE' (S.length + 1) cE') (S.length + 1) (zcells (endsL (S.map (·.1)) ++ [y]))) (hy : y = ((nA + n2 : Nat) : Int)) (b5 : Below w.heap.size w4 w5) (m5 : Moved (w4.alloc (.cells cs3 3)) w5 (.slice aE S.length cE) (.slice aE' (S.length + 1) cE')) (h5o : w4.ownsRow w.heap.size 3 1 (.slice aE S.length cE) S.length (zcells (endsL (S.map (·.1))))) :
    SS w ls (j + 1) (S ++ [x]) aA' (nA + n2) cA' aS' cS' aE' cE' w5 := by
  have hmap : (S ++ [x]).map (·.1) = S.map (·.1) ++ [x.1] := by simp
  have hone : flatF [x.1] = frameM x.1 := by simp [flatF]
  have hlen : nA + n2 = (flatF ((S ++ [x]).map (·.1))).length := by rw [hmap, flatF_app, hone, List.length_append, h.len, hn2]
  refine ⟨?_, hlen, ?_, ?_, ?_, ?_, ?_⟩
  · rw [sent_snoc ls j hj, ← hx, if_pos hok, h.sent]
  · rw [hmap, flatF_app, hone]
    have h6 := m4.kept (h3.alloc _) (own_apart h3 h4o (by decide))
    exact m5.kept (h6.alloc _) (own_apart h6 h5o (by decide))
  · rw [List.length_append]
    exact m5.kept (h4.alloc _) (own_apart h4 h5o (by decide))
  · rw [List.length_append, hmap, ends_snoc, ← hmap, ← hlen, ← hy]
    exact h5
  · intro h6
    simp at h6
  · exact h.bel.trans (((hb2.mono h.bel.size).trans b3).trans (b4.trans b5))
theorem SS.s3 {w wr w2 w3 : World} {ls : List (M × Ps)} {j : Nat} {S : List (M × Ps)} {aA aS aE : Option Addr} {nA cA cS cE : Nat} {v' : Value} (h : SS w ls j S aA nA cA aS cS aE cE wr) (hb2 : Below wr.heap.size wr w2) (m3 : Moved w2 w3 (.slice aA nA cA) v') :
    w3.ownsRow w.heap.size 50 31 (.slice aS S.length cS) S.length (mcells S) ∧ w3.ownsRow w.heap.size 3 1 (.slice aE S.length cE) S.length (zcells (endsL (S.map (·.1)))) :=
  ⟨m3.kept (own_below h.ownS hb2) (own_apart (own_below h.ownS hb2) (own_below h.ownA hb2) (by decide)), m3.kept (own_below h.ownE hb2) (own_apart (own_below h.ownE hb2) (own_below h.ownA hb2) (by decide))⟩
set_option maxHeartbeats 4000000 in
set_option maxRecDepth 20000 in
theorem stream_walk (a : Option Addr) (c n : Nat) (ls : List (M × Ps)) (cut : Int) (w : World) (hn : ls.length = n) (hmax : n ≤ 1073741824) (hcut : -9223372036854775808 ≤ cut ∧ cut ≤ 9223372036854775807) (hwf : ∀ x ∈ ls, WfM x.1) (hr : RdL w a ls) :
    Calls Try.prog 12 #[.slice a n c, .int .i64 cut] w fun e w' => e = .returned (.bool true) ∧ Below w.heap.size w w' := by
  have HN := Lib.hid hn
  have HR := Lib.hid hr
  clear hn hr
  go_enter Try.func12, Try.ntmps12
  go_wp2_with fail
  refine (alive_any w).mono ?_
  rintro e w1 ⟨rfl, hb1⟩
  have HB1 := Lib.hid hb1
  clear hb1
  go_wp2_with fail
  refine (beyond_any a c n ls w1 HN.out (by omega) hwf (HR.out.below HB1.out)).mono ?_
  rintro e w2 ⟨bb, rfl, hbb, hb2⟩
  have HB2 : Hid (Below w.heap.size w w2) := Lib.hid (HB1.out.trans (hb2.mono HB1.out.size))
  clear hb2 HB1
  cases bb with
  | true =>
    go_wp2_with fail
    go_ret
    exact ⟨rfl, HB2.out⟩
  | false =>
    have hsr := hbb rfl
    clear hbb
    go_wp2_with fail
    have HR2 := Lib.hid (HR.out.below HB2.out)
    have HS2 := Lib.hid (SS.start w2 ls)
    obtain ⟨W2, hW2⟩ : ∃ W2, W2 = w2 := ⟨_, rfl⟩
    have HSW : Hid (SS w2 ls 0 [] none 0 0 none 0 none 0 W2) := Lib.hid (by rw [hW2]; exact HS2.out)
    rw [← hW2]
    clear hW2 HS2
    go_loopw [5, 6, 7, 8] (fun x y z i wr => ∃ (j : Nat) (S : List (M × Ps)) (aA : Option Addr) (nA cA : Nat) (aS : Option Addr) (cS : Nat) (aE : Option Addr) (cE : Nat), x = .slice aA nA cA ∧ y = .slice aS S.length cS ∧ z = .slice aE S.length cE ∧ i = .int .i64 (j : Int) ∧ j ≤ n ∧ SS w2 ls j S aA nA cA aS cS aE cE wr) (fun _ _ _ i _ => n - (intOf i).toNat)
    case atStart => exact ⟨0, [], none, 0, 0, none, 0, none, 0, rfl, rfl, rfl, rfl, Nat.zero_le _, HSW.out⟩
    case round =>
      obtain ⟨j, S, aA, nA, cA, aS, cS, aE, cE, rfl, rfl, rfl, rfl, hj, hss⟩ := hrel
      have HSS := Lib.hid hss
      have hbd := hss.bound
      rw [HN.out] at hbd
      clear hss
      by_cases hlt : j < n
      · have hlt' : (j : Int) < n := by omega
        have hja : j < ls.length := by rw [HN.out]; exact hlt
        obtain ⟨b1, o1, rfl, hg1⟩ := (HR2.out.below HSS.out.bel).at j hja
        have hm1 := (HR2.out.below HSS.out.bel).2 ls[j] (List.getElem_mem hja)
        have hw1 := hwf ls[j] (List.getElem_mem hja)
        obtain ⟨x, hx⟩ : ∃ x, x = ls[j] := ⟨_, rfl⟩
        rw [← hx] at hg1 hm1 hw1
        have HX := Lib.hid hx
        obtain ⟨m, p⟩ := x
        dsimp only at hg1 hm1 hw1
        have HME := Lib.hid (meas_lt hlt)
        have hjn : j + 1 ≤ n := hlt
        clear hx
        go_upto_region 11 with fail
        go_wp2_with (first | ((with_reducible refine at_dst 35 ?_); refine wpList_load_midg rfl 50 (.tmp 34) rfl b1 (o1 + j * 31) rfl (cellsM m p) _ hg1 Try.underlying50 rfl (by kernel_rfl) ?_) | fail)
        refine (encoded_any m p wr hw1 hm1).mono ?_
        rintro e w3 ⟨a2, c2, rfl, hown2, hb3⟩
        have HB3 := Lib.hid hb3
        rcases enc_okM hw1 with ⟨hok, h2, h3⟩ | ⟨hno, h2⟩
        · rw [h2] at hown2 ⊢
          dsimp only at hown2 ⊢
          have hl2 := encA_len m
          rw [h2] at hl2
          dsimp only at hl2
          obtain ⟨n2, hn2⟩ : ∃ n, n = (frameM m).length := ⟨_, rfl⟩
          rw [← hn2] at hown2 h3 hl2 ⊢
          have HN2 := Lib.hid hn2
          have HOK := Lib.hid hok
          have hrd2 := ownsRow_rd hown2
          have hA := own_below HSS.out.ownA hb3
          have hbase : w2.heap.size ≤ w3.heap.size := Nat.le_trans HSS.out.bel.size hb3.size
          have hg2 := range_below hg1 hb3
          have hbs := hsr
          clear hown2 h2 hb3 hok hn2 hm1 hg1
          have hgt : (n2 : Int) > 0 := by omega
          go_upto_region 16 with (first | (at_builtin; refine app_b w3 rfl _ _ rfl w2.heap.size (.slice aA nA cA) nA _ rfl hA a2 n2 c2 (frameM m) rfl HN2.out.symm hrd2 (by omega) hbase ?_; intro aA' cA' w4 hA4 hb4 hm4) | fail)
          have hS4 := HSS.out.s3 HB3.out hm4
          have hg4 : w4.rangeAt b1 (o1 + j * 31) (cellsM m p) := by
            have h6 := ((HR2.out.below (HSS.out.bel.trans ((HB3.out.mono HSS.out.bel.size).trans hb4))).at j hja)
            obtain ⟨b6, o6, h7, h8⟩ := h6
            cases h7
            rw [← HX.out] at h8
            exact h8
          have hbase4 : w2.heap.size ≤ w4.heap.size := Nat.le_trans hbase hb4.size
          have HA4 := Lib.hid hA4
          have HB4 := Lib.hid hb4
          have HM4 := Lib.hid hm4
          have HE4 := Lib.hid hS4.2
          have hS4s := hS4.1
          clear hA4 hb4 hm4 hS4 hg2 hA hrd2
          have hbdS := hbd.2
          go_upto_region 17 with (first | ((with_reducible refine at_dst 51 ?_); refine wpList_load_midg rfl 50 (.tmp 50) rfl b1 (o1 + j * 31) rfl (cellsM m p) _ hg4 Try.underlying50 rfl (by kernel_rfl) ?_) | ((with_reducible refine at_dst 52 ?_); refine wpList_buildSlice_one w4 rfl 62 50 (.tmp 51) rfl 31 Try.underlying62 zero50 (by decide) (by decide) (cellsM m p).toArray rfl rfl ?_) | (at_builtin; refine app_msg w4 rfl _ _ rfl w2.heap.size (.slice aS S.length cS) S S.length rfl rfl hS4s m p rfl (by omega) hbase4 ?_; intro aS' cS' w5 hS5 hb5 hm5) | fail)
          have hE5 := hm5.kept (HE4.out.alloc _) (own_apart HE4.out hS4s (by decide))
          have hbase5 : w2.heap.size ≤ w5.heap.size := Nat.le_trans hbase4 hb5.size
          have HS5 := Lib.hid hS5
          have HB5 := Lib.hid hb5
          have HM5 := Lib.hid hm5
          have HS4 := Lib.hid hS4s
          clear hS5 hb5 hm5 hS4s hg4
          go_wp2_with (first | (at_builtin; refine app_int w5 rfl _ _ rfl w2.heap.size (.slice aE S.length cE) S.length _ rfl hE5 _ rfl (by omega) hbase5 ?_; intro aE' cE' w6 hE6 hb6 hm6) | fail)
          have hgrow := HSS.out.grow hja HX.out HOK.out HN2.out HA4.out HB3.out HB4.out HS5.out HB5.out HM5.out HS4.out hE6 (by first | rfl | (push_cast; rfl)) hb6 hm6 hE5
          have HREL : Hid (∃ (j' : Nat) (S' : List (M × Ps)) (aA2 : Option Addr) (nA2 cA2 : Nat) (aS2 : Option Addr) (cS2 : Nat) (aE2 : Option Addr) (cE2 : Nat), Value.slice aA' (nA + n2) cA' = .slice aA2 nA2 cA2 ∧ Value.slice aS' (S.length + 1) cS' = .slice aS2 S'.length cS2 ∧ Value.slice aE' (S.length + 1) cE' = .slice aE2 S'.length cE2 ∧ Value.int .i64 ((j : Int) + 1) = .int .i64 (j' : Int) ∧ j' ≤ n ∧ SS w2 ls j' S' aA2 nA2 cA2 aS2 cS2 aE2 cE2 w6) :=
            Lib.hid ⟨j + 1, S ++ [(m, p)], aA', nA + n2, cA', aS', cS', aE', cE', rfl, by rw [List.length_append]; rfl, by rw [List.length_append]; rfl, rfl, hjn, hgrow⟩
          clear hgrow hE6 hb6 hm6 hE5 hbase hbase4 hbase5
          go_wp2
          go_roundw
          case rel => exact HREL.out
          case measure => exact HME.out
        · rw [h2] at hown2 ⊢
          dsimp only [List.length_nil] at hown2 ⊢
          have HNX := Lib.hid (HSS.out.skip hja (by rw [← HX.out]; exact hno) hb3)
          clear hown2 h2 hb3 hno
          have HREL : Hid (∃ (j' : Nat) (S' : List (M × Ps)) (aA' : Option Addr) (nA' cA' : Nat) (aS' : Option Addr) (cS' : Nat) (aE' : Option Addr) (cE' : Nat), Value.slice aA nA cA = .slice aA' nA' cA' ∧ Value.slice aS S.length cS = .slice aS' S'.length cS' ∧ Value.slice aE S.length cE = .slice aE' S'.length cE' ∧ Value.int .i64 ((j : Int) + 1) = .int .i64 (j' : Int) ∧ j' ≤ n ∧ SS w2 ls j' S' aA' nA' cA' aS' cS' aE' cE' w3) :=
            Lib.hid ⟨j + 1, S, aA, nA, cA, aS, cS, aE, cE, rfl, rfl, rfl, rfl, hjn, HNX.out⟩
          go_wp2
          go_roundw
          case rel => exact HREL.out
          case measure => exact HME.out
      · have hlt' : ¬ (j : Int) < n := by omega
        obtain ⟨wo, hwo⟩ : ∃ x, x = wr := ⟨_, rfl⟩
        subst hwo
        have hS : S = sentL ls := by
          have := HSS.out.sent
          rw [List.take_of_length_le (by rw [HN.out]; omega)] at this
          exact this
        obtain ⟨T, hT⟩ : ∃ T, T = S.map (·.1) := ⟨_, rfl⟩
        have HOK : Hid (∀ m ∈ T, okM m) := Lib.hid (by
          rw [hT]
          intro m hm
          obtain ⟨x, hx, rfl⟩ := List.mem_map.1 hm
          rw [hS] at hx
          exact sent_ok ls x hx)
        have HSW2 : Hid (∀ x ∈ S, WfM x.1) := Lib.hid (fun x hx => by rw [hS] at hx; exact (sent_ok ls x hx).1.1)
        have HRS : Hid (RdL wo aS S) := Lib.hid ⟨ownsRow_rd HSS.out.ownS, fun x hx => by
          rw [hS] at hx
          exact (HR2.out.below HSS.out.bel).2 x (sent_mem ls x hx)⟩
        have hlen := HSS.out.len
        have hoA := HSS.out.ownA
        have hoE := HSS.out.ownE
        rw [← hT] at hlen hoA hoE
        have hTl : T.length = S.length := by rw [hT, List.length_map]
        obtain ⟨k, hk⟩ : ∃ k, k = S.length := ⟨_, rfl⟩
        rw [← hk] at hTl hoE ⊢
        have hkb : k ≤ n := by rw [hk]; exact hbd.2
        have hcA := own_cap hoA
        have hcS : k ≤ cS := by rw [hk]; exact own_cap HSS.out.ownS
        have HLEN := Lib.hid hlen
        have HOA := Lib.hid (ownsRow_rd hoA)
        have HOE := Lib.hid (ownsRow_rd hoE)
        have HTL := Lib.hid hTl
        have HT := Lib.hid hT
        have HK := Lib.hid hk
        have hnA : nA ≤ 4294967296 := by have := hbd.1; omega
        have HBEL : Hid (Below w.heap.size w wo) := Lib.hid (HB2.out.trans (HSS.out.bel.mono HB2.out.size))
        clear hS hT hlen hoA hoE hTl hk hbd
        have hthree : cut < 0 ∨ (¬ cut < 0 ∧ cut > (nA : Int)) ∨ ∃ C : Nat, cut = (C : Int) ∧ C ≤ nA := by
          by_cases h1 : cut < 0
          · exact .inl h1
          · by_cases h2 : cut > (nA : Int)
            · exact .inr (.inl ⟨h1, h2⟩)
            · exact .inr (.inr ⟨cut.toNat, by omega, by omega⟩)
        rcases hthree with h1 | ⟨h1, h2⟩ | ⟨C, rfl, h1⟩
        · have h5 : (0 : Int) ≤ nA := by omega
          have hCA : nA ≤ nA := Nat.le_refl _
          go_wp2_with fail
          have HSTART : Hid (∃ (i W Bt : Nat), Value.int .i64 0 = .int .i64 (W : Int) ∧ Value.int .i64 0 = .int .i64 (Bt : Int) ∧ Value.int .i64 0 = .int .i64 (i : Int) ∧ i ≤ k ∧ W ≤ i ∧ Bt = (flatF (T.take W)).length ∧ Bt ≤ nA ∧ (W = i ∨ nA < (flatF (T.take (W + 1))).length) ∧ Below wo.heap.size wo wo) :=
            Lib.hid ⟨0, 0, 0, rfl, rfl, rfl, Nat.zero_le _, Nat.le_refl _, by simp [flatF], Nat.zero_le _, .inl rfl, Below.refl _ _⟩
          obtain ⟨W5, hW5⟩ : ∃ W5, W5 = wo := ⟨_, rfl⟩
          rw [← hW5]
          have HSTART2 : Hid (∃ (i W Bt : Nat), Value.int .i64 0 = .int .i64 (W : Int) ∧ Value.int .i64 0 = .int .i64 (Bt : Int) ∧ Value.int .i64 0 = .int .i64 (i : Int) ∧ i ≤ k ∧ W ≤ i ∧ Bt = (flatF (T.take W)).length ∧ Bt ≤ nA ∧ (W = i ∨ nA < (flatF (T.take (W + 1))).length) ∧ Below wo.heap.size wo W5) := Lib.hid (by rw [hW5]; exact HSTART.out)
          clear HSTART hW5
          go_loopw [11, 12, 13] (fun x y z wr => ∃ (i W Bt : Nat), x = .int .i64 (W : Int) ∧ y = .int .i64 (Bt : Int) ∧ z = .int .i64 (i : Int) ∧ i ≤ k ∧ W ≤ i ∧ Bt = (flatF (T.take W)).length ∧ Bt ≤ nA ∧ (W = i ∨ nA < (flatF (T.take (W + 1))).length) ∧ Below wo.heap.size wo wr) (fun _ _ z _ => k - (intOf z).toNat)
          case atStart => exact HSTART2.out
          case round =>
            obtain ⟨i, W, Bt, rfl, rfl, rfl, hi, hW, hBt, hBC, hor, hbq⟩ := hrel
            have HBQ := Lib.hid hbq
            have HBT := Lib.hid hBt
            have HOR := Lib.hid hor
            clear hbq hBt hor
            by_cases hlt2 : i < k
            · have hlt2' : (i : Int) < k := by omega
              have hiT : i < T.length := by rw [HTL.out]; exact hlt2
              obtain ⟨bE, oE, rfl, hcE⟩ := (HOE.out.below HBQ.out).cells (by intro h0; have h9 := congrArg List.length h0; simp only [zcells, List.length_map, ends_len, List.length_nil] at h9; omega)
              have hce := hcE i (by simp only [zcells, List.length_map, ends_len]; exact hiT)
              simp only [zcells, List.getElem_map] at hce
              rw [ends_get T i hiT] at hce
              obtain ⟨En, hEn⟩ : ∃ E, E = (flatF (T.take (i + 1))).length := ⟨_, rfl⟩
              rw [← hEn] at hce
              have HEN := Lib.hid hEn
              have HME := Lib.hid (meas_lt hlt2)
              have hin : i + 1 ≤ k := hlt2
              clear hcE hEn
              by_cases hle : En ≤ nA
              · have hle' : (En : Int) ≤ nA := by omega
                have HREL : Hid (∃ (i' W' Bt' : Nat), Value.int .i64 ((i : Int) + 1) = .int .i64 (W' : Int) ∧ Value.int .i64 (En : Int) = .int .i64 (Bt' : Int) ∧ Value.int .i64 ((i : Int) + 1) = .int .i64 (i' : Int) ∧ i' ≤ k ∧ W' ≤ i' ∧ Bt' = (flatF (T.take W')).length ∧ Bt' ≤ nA ∧ (W' = i' ∨ nA < (flatF (T.take (W' + 1))).length) ∧ Below wo.heap.size wo wr) :=
                  Lib.hid ⟨i + 1, i + 1, En, rfl, rfl, rfl, hin, Nat.le_refl _, HEN.out, hle, .inl rfl, HBQ.out⟩
                go_wp2
                go_roundw
                case rel => exact HREL.out
                case measure => exact HME.out
              · have hle' : ¬ (En : Int) ≤ nA := by omega
                have HREL : Hid (∃ (i' W' Bt' : Nat), Value.int .i64 (W : Int) = .int .i64 (W' : Int) ∧ Value.int .i64 (Bt : Int) = .int .i64 (Bt' : Int) ∧ Value.int .i64 ((i : Int) + 1) = .int .i64 (i' : Int) ∧ i' ≤ k ∧ W' ≤ i' ∧ Bt' = (flatF (T.take W')).length ∧ Bt' ≤ nA ∧ (W' = i' ∨ nA < (flatF (T.take (W' + 1))).length) ∧ Below wo.heap.size wo wr) :=
                  Lib.hid ⟨i + 1, W, Bt, rfl, rfl, rfl, hin, by omega, HBT.out, hBC, by
                    rcases HOR.out with h9 | h9
                    · right; rw [h9, ← HEN.out]; omega
                    · exact .inr h9, HBQ.out⟩
                go_wp2
                go_roundw
                case rel => exact HREL.out
                case measure => exact HME.out
            · have hlt2' : ¬ (i : Int) < k := by omega
              have hik : k = i := by omega
              subst hik
              have hflat : (flatF T).length = nA := HLEN.out.symm
              obtain ⟨r, hr1, hr2, hr3⟩ := cut_form T W nA HOK.out (by rw [HTL.out]; exact hW) (by rw [← HBT.out]; exact hBC) (by rw [hflat]; exact hCA) (by rw [HTL.out]; exact HOR.out)
              rw [← HBT.out] at hr3
              have HR1 := Lib.hid hr1
              have HR2x := Lib.hid hr2
              have HR3 := Lib.hid hr3
              have HLC : Hid (((flatF T).take nA).length = nA) := Lib.hid (by rw [List.length_take, hflat]; omega)
              have hrdA := rd_take (HOA.out.below HBQ.out) nA
              have i1 : (nA : Int) ≤ cA := by omega
              have i2 : nA ≤ cA := by omega
              clear hr1 hr2 hr3 hflat
              go_wp2_with fail
              refine (all_any aA nA cA ((flatF T).take nA) wr HLC.out (by omega) i2 hrdA).mono ?_
              rintro e w7 ⟨ms, a3, c3, n3, er3, rfl, hR3, hO3, hb7⟩
              rw [HR1.out] at hR3
              obtain ⟨g1, g2, g3⟩ := all_cut _ _ _ _ _ (fun m hm => HOK.out m (List.mem_of_mem_take hm)) HR2x.out hR3
              rw [← HBT.out] at g2
              subst n3
              have hmsl : ms.length = W := by
                have h9 := congrArg List.length g1
                rw [List.length_map, List.length_take, HTL.out] at h9
                omega
              have HMS := Lib.hid g1
              have HMSL := Lib.hid hmsl
              have HG3 := Lib.hid g3
              have HW7 : Hid (Below wo.heap.size wo w7) := Lib.hid (HBQ.out.trans (hb7.mono HBQ.out.size))
              have HO3 := Lib.hid hO3
              clear g1 g3 hmsl hb7 hO3 hR3 hrdA
              have j1 : (W : Int) ≤ cS := by omega
              have j2 : W ≤ cS := by omega
              go_wp2_with fail
              refine (alikeall_any a3 aS c3 cS ms.length W ms (S.take W) w7 rfl (by rw [List.length_take, ← HK.out]; omega) (by rw [HMSL.out]; omega) (fun x hx => (HOK.out x.1 (List.mem_of_mem_take (by rw [← HMS.out]; exact List.mem_map_of_mem hx))).1.1) (fun x hx => HSW2.out x (List.mem_of_mem_take hx)) HO3.out.rd (rdL_take (HRS.out.below HW7.out) W)).mono ?_
              rintro e w8 ⟨b8, rfl, hb8, hbe8⟩
              obtain rfl : b8 = true := hb8.2 (by rw [HMS.out, HT.out, List.map_take])
              have HW8 : Hid (Below wo.heap.size wo w8) := Lib.hid (HW7.out.trans (hbe8.mono HW7.out.size))
              clear hb8 hbe8 HW7 HO3
              have hne0 : ((Bt : Int) != Bt) = false := by simp
              have hboth : (er3 = 0 ∧ ((Bt : Int) == nA) = true) ∨ (er3 = 210 ∧ ((Bt : Int) == nA) = false) := by
                rcases HG3.out with ⟨g4, g5⟩ | ⟨g4, g5⟩
                · left
                  have h9 := HR3.out
                  rw [g4, List.length_nil] at h9
                  exact ⟨g5, eql_of (by omega)⟩
                · right
                  have h9 := HR3.out
                  have h10 : 0 < r.length := List.length_pos_iff.2 g4
                  exact ⟨g5, eql_of' (by omega)⟩
              have hnil0 := HSS.out.empty
              have hformA : 0 < nA → _ := fun h => own_form HSS.out.ownA h
              have hformS : 0 < S.length → _ := fun h => own_form HSS.out.ownS h
              have HFA := Lib.hid hformA
              have HFS := Lib.hid hformS
              have HNIL := Lib.hid hnil0
              clear hnil0 hformA hformS
              have hBtA : Bt ≤ nA := by omega
              have hdrop : (flatF T).drop Bt = flatF (T.drop W) ++ [] := by
                rw [List.append_nil, flat_split T W, HBT.out, List.drop_left]
              have hdl : ((flatF T).drop Bt).length = nA - Bt := by rw [List.length_drop, ← HLEN.out]
              have HDR := Lib.hid hdrop
              have HDL := Lib.hid hdl
              have hsub : IntKind.i64.wrap ((nA : Int) - Bt) = ((nA - Bt : Nat) : Int) := by rw [IntKind.wrap_i64]; omega
              clear hdrop hdl
              by_cases hk0 : k = 0
              · obtain ⟨e1, e2, e3, e4, e5, e6⟩ := HNIL.out (List.eq_nil_of_length_eq_zero (by rw [← HK.out]; exact hk0))
                subst e1 e2 e3 e4
                obtain rfl : W = 0 := by omega
                obtain rfl : nA = 0 := by omega
                obtain rfl : Bt = 0 := by omega
                subst hk0
                have HT0 : Hid (T = []) := Lib.hid (List.eq_nil_of_length_eq_zero HTL.out)
                have HS0 : Hid (S = []) := Lib.hid (List.eq_nil_of_length_eq_zero HK.out.symm)
                rcases hboth with ⟨rfl, heq⟩ | ⟨rfl, heq⟩
                · go_wp2_with fail
                  refine (all_any none 0 0 [] w8 rfl (by omega) (by omega) (.inl rfl)).mono ?_
                  rintro e w9 ⟨ms2, a5, c5, n5, er5, rfl, hR5, hO5, hb9⟩
                  obtain ⟨g6, g7, g8⟩ := all_cut [] [] _ _ _ (fun m hm => by simp at hm) (.inl rfl) hR5
                  obtain rfl : er5 = 0 := by
                    rcases g8 with ⟨_, g⟩ | ⟨g, _⟩
                    · exact g
                    · exact (g rfl).elim
                  obtain rfl : n5 = 0 := by simpa [flatF] using g7
                  obtain rfl : ms2 = [] := by simpa using g6
                  have HW9 : Hid (Below wo.heap.size wo w9) := Lib.hid (HW8.out.trans (hb9.mono HW8.out.size))
                  clear hb9 hO5 g6 g7 g8 hR5
                  go_wp2_with fail
                  refine (alikeall_any a5 none c5 0 0 0 [] [] w9 rfl rfl (by omega) (fun x hx => by simp at hx) (fun x hx => by simp at hx) ⟨.inl rfl, fun x hx => by simp at hx⟩ ⟨.inl rfl, fun x hx => by simp at hx⟩).mono ?_
                  rintro e w10 ⟨b10, rfl, hb10, hbe10⟩
                  obtain rfl : b10 = true := hb10.2 rfl
                  have hfin : Below w.heap.size w w10 := HBEL.out.trans ((HW9.out.trans (hbe10.mono HW9.out.size)).mono HBEL.out.size)
                  clear hb10 hbe10
                  go_wp2
                  go_ret
                  exact ⟨rfl, hfin⟩
                · exfalso
                  first
                    | (simp at heq; omega)
                    | (simp at heq; done)
                    | (simp [beq_eq_false_iff_ne] at heq; omega)
              · obtain ⟨gS, rfl⟩ := HFS.out (by rw [← HK.out]; omega)
                obtain ⟨gA, rfl⟩ := HFA.out (by
                  have h9 := flatF_len T
                  rw [HTL.out, ← HLEN.out] at h9
                  omega)
                have hrdD := rd_drop (HOA.out.below HW8.out) Bt
                rw [Nat.zero_add] at hrdD
                have hrdS := rdL_drop (HRS.out.below HW8.out) W (by rw [← HK.out]; exact hW)
                rw [Nat.zero_add] at hrdS
                have HRDD := Lib.hid hrdD
                have HRDS := Lib.hid hrdS
                have hwk : (W : Int) ≤ k := by omega
                clear hrdD hrdS
                by_cases hz : cA = Bt
                · have HEMP : Hid (((flatF T).drop Bt).map B = []) := Lib.hid (by rw [List.map_eq_nil_iff]; exact List.eq_nil_of_length_eq_zero (by rw [HDL.out]; omega))
                  have hz' : Bt = cA := hz.symm
                  subst hz'
                  have hz0 : nA - Bt = 0 := by omega
                  rw [hz0] at hsub HDL
                  by_cases hz3 : cS = W
                  · have HEMS : Hid (S.drop W = []) := Lib.hid (List.eq_nil_of_length_eq_zero (by rw [List.length_drop, ← HK.out]; omega))
                    have hz3' : W = cS := hz3.symm
                    subst hz3'
                    rcases hboth with ⟨rfl, heq⟩ | ⟨rfl, heq⟩
                    · go_wp2_with fail
                      refine (all_any (some ⟨gA, 0, none⟩) 0 0 ((flatF T).drop Bt) w8 HDL.out (by omega) (by omega) (.inl HEMP.out)).mono ?_
                      rintro e w9 ⟨ms2, a5, c5, n5, er5, rfl, hR5, hO5, hb9⟩
                      rw [HDR.out] at hR5
                      obtain ⟨g6, g7, g8⟩ := all_cut _ _ _ _ _ (fun m hm => HOK.out m (List.mem_of_mem_drop hm)) (.inl rfl) hR5
                      obtain rfl : er5 = 0 := by
                        rcases g8 with ⟨_, g⟩ | ⟨g, _⟩
                        · exact g
                        · exact (g rfl).elim
                      obtain rfl : n5 = 0 := by
                        have h9 := HDL.out
                        rw [HDR.out, List.append_nil] at h9
                        rw [g7, h9]
                      have hl2 : ms2.length = k - W := by
                        have h9 := congrArg List.length g6
                        rw [List.length_map, List.length_drop, HTL.out] at h9
                        exact h9
                      have HW9 : Hid (Below wo.heap.size wo w9) := Lib.hid (HW8.out.trans (hb9.mono HW8.out.size))
                      have HB9 := Lib.hid hb9
                      have HO5 := Lib.hid hO5
                      have HG6 := Lib.hid g6
                      have HL2 := Lib.hid hl2
                      clear hb9 hO5 g6 g7 g8 hl2 hR5
                      go_wp2_with fail
                      refine (alikeall_any a5 (some ⟨gS, 0, none⟩) c5 0 ms2.length 0 ms2 (S.drop W) w9 rfl (by rw [HEMS.out]; rfl) (by rw [HL2.out]; omega) (fun x hx => (HOK.out x.1 (List.mem_of_mem_drop (by rw [← HG6.out]; exact List.mem_map_of_mem hx))).1.1) (fun x hx => HSW2.out x (List.mem_of_mem_drop hx)) HO5.out.rd (by rw [HEMS.out]; exact ⟨.inl rfl, fun x hx => by simp at hx⟩)).mono ?_
                      rintro e w10 ⟨b10, rfl, hb10, hbe10⟩
                      obtain rfl : b10 = true := hb10.2 (by rw [HG6.out, HT.out, List.map_drop])
                      have hfin : Below w.heap.size w w10 := HBEL.out.trans ((HW9.out.trans (hbe10.mono HW9.out.size)).mono HBEL.out.size)
                      clear hb10 hbe10
                      go_wp2
                      go_ret
                      exact ⟨rfl, hfin⟩
                    · go_wp2_with fail
                      refine (all_any (some ⟨gA, 0, none⟩) 0 0 ((flatF T).drop Bt) w8 HDL.out (by omega) (by omega) (.inl HEMP.out)).mono ?_
                      rintro e w9 ⟨ms2, a5, c5, n5, er5, rfl, hR5, hO5, hb9⟩
                      rw [HDR.out] at hR5
                      obtain ⟨g6, g7, g8⟩ := all_cut _ _ _ _ _ (fun m hm => HOK.out m (List.mem_of_mem_drop hm)) (.inl rfl) hR5
                      obtain rfl : er5 = 0 := by
                        rcases g8 with ⟨_, g⟩ | ⟨g, _⟩
                        · exact g
                        · exact (g rfl).elim
                      obtain rfl : n5 = 0 := by
                        have h9 := HDL.out
                        rw [HDR.out, List.append_nil] at h9
                        rw [g7, h9]
                      have hl2 : ms2.length = k - W := by
                        have h9 := congrArg List.length g6
                        rw [List.length_map, List.length_drop, HTL.out] at h9
                        exact h9
                      have HW9 : Hid (Below wo.heap.size wo w9) := Lib.hid (HW8.out.trans (hb9.mono HW8.out.size))
                      have HB9 := Lib.hid hb9
                      have HO5 := Lib.hid hO5
                      have HG6 := Lib.hid g6
                      have HL2 := Lib.hid hl2
                      clear hb9 hO5 g6 g7 g8 hl2 hR5
                      go_wp2_with fail
                      refine (alikeall_any a5 (some ⟨gS, 0, none⟩) c5 0 ms2.length 0 ms2 (S.drop W) w9 rfl (by rw [HEMS.out]; rfl) (by rw [HL2.out]; omega) (fun x hx => (HOK.out x.1 (List.mem_of_mem_drop (by rw [← HG6.out]; exact List.mem_map_of_mem hx))).1.1) (fun x hx => HSW2.out x (List.mem_of_mem_drop hx)) HO5.out.rd (by rw [HEMS.out]; exact ⟨.inl rfl, fun x hx => by simp at hx⟩)).mono ?_
                      rintro e w10 ⟨b10, rfl, hb10, hbe10⟩
                      obtain rfl : b10 = true := hb10.2 (by rw [HG6.out, HT.out, List.map_drop])
                      have hfin : Below w.heap.size w w10 := HBEL.out.trans ((HW9.out.trans (hbe10.mono HW9.out.size)).mono HBEL.out.size)
                      clear hb10 hbe10
                      go_wp2
                      go_ret
                      exact ⟨rfl, hfin⟩
                  · have hz4 : W < cS := by omega
                    rcases hboth with ⟨rfl, heq⟩ | ⟨rfl, heq⟩
                    · go_wp2_with fail
                      refine (all_any (some ⟨gA, 0, none⟩) 0 0 ((flatF T).drop Bt) w8 HDL.out (by omega) (by omega) (.inl HEMP.out)).mono ?_
                      rintro e w9 ⟨ms2, a5, c5, n5, er5, rfl, hR5, hO5, hb9⟩
                      rw [HDR.out] at hR5
                      obtain ⟨g6, g7, g8⟩ := all_cut _ _ _ _ _ (fun m hm => HOK.out m (List.mem_of_mem_drop hm)) (.inl rfl) hR5
                      obtain rfl : er5 = 0 := by
                        rcases g8 with ⟨_, g⟩ | ⟨g, _⟩
                        · exact g
                        · exact (g rfl).elim
                      obtain rfl : n5 = 0 := by
                        have h9 := HDL.out
                        rw [HDR.out, List.append_nil] at h9
                        rw [g7, h9]
                      have hl2 : ms2.length = k - W := by
                        have h9 := congrArg List.length g6
                        rw [List.length_map, List.length_drop, HTL.out] at h9
                        exact h9
                      have HW9 : Hid (Below wo.heap.size wo w9) := Lib.hid (HW8.out.trans (hb9.mono HW8.out.size))
                      have HB9 := Lib.hid hb9
                      have HO5 := Lib.hid hO5
                      have HG6 := Lib.hid g6
                      have HL2 := Lib.hid hl2
                      clear hb9 hO5 g6 g7 g8 hl2 hR5
                      go_wp2_with fail
                      refine (alikeall_any a5 (some ⟨gS, W * 31, none⟩) c5 (cS - W) ms2.length (k - W) ms2 (S.drop W) w9 rfl (by rw [List.length_drop, ← HK.out]) (by rw [HL2.out]; omega) (fun x hx => (HOK.out x.1 (List.mem_of_mem_drop (by rw [← HG6.out]; exact List.mem_map_of_mem hx))).1.1) (fun x hx => HSW2.out x (List.mem_of_mem_drop hx)) HO5.out.rd (HRDS.out.below HB9.out)).mono ?_
                      rintro e w10 ⟨b10, rfl, hb10, hbe10⟩
                      obtain rfl : b10 = true := hb10.2 (by rw [HG6.out, HT.out, List.map_drop])
                      have hfin : Below w.heap.size w w10 := HBEL.out.trans ((HW9.out.trans (hbe10.mono HW9.out.size)).mono HBEL.out.size)
                      clear hb10 hbe10
                      go_wp2
                      go_ret
                      exact ⟨rfl, hfin⟩
                    · go_wp2_with fail
                      refine (all_any (some ⟨gA, 0, none⟩) 0 0 ((flatF T).drop Bt) w8 HDL.out (by omega) (by omega) (.inl HEMP.out)).mono ?_
                      rintro e w9 ⟨ms2, a5, c5, n5, er5, rfl, hR5, hO5, hb9⟩
                      rw [HDR.out] at hR5
                      obtain ⟨g6, g7, g8⟩ := all_cut _ _ _ _ _ (fun m hm => HOK.out m (List.mem_of_mem_drop hm)) (.inl rfl) hR5
                      obtain rfl : er5 = 0 := by
                        rcases g8 with ⟨_, g⟩ | ⟨g, _⟩
                        · exact g
                        · exact (g rfl).elim
                      obtain rfl : n5 = 0 := by
                        have h9 := HDL.out
                        rw [HDR.out, List.append_nil] at h9
                        rw [g7, h9]
                      have hl2 : ms2.length = k - W := by
                        have h9 := congrArg List.length g6
                        rw [List.length_map, List.length_drop, HTL.out] at h9
                        exact h9
                      have HW9 : Hid (Below wo.heap.size wo w9) := Lib.hid (HW8.out.trans (hb9.mono HW8.out.size))
                      have HB9 := Lib.hid hb9
                      have HO5 := Lib.hid hO5
                      have HG6 := Lib.hid g6
                      have HL2 := Lib.hid hl2
                      clear hb9 hO5 g6 g7 g8 hl2 hR5
                      go_wp2_with fail
                      refine (alikeall_any a5 (some ⟨gS, W * 31, none⟩) c5 (cS - W) ms2.length (k - W) ms2 (S.drop W) w9 rfl (by rw [List.length_drop, ← HK.out]) (by rw [HL2.out]; omega) (fun x hx => (HOK.out x.1 (List.mem_of_mem_drop (by rw [← HG6.out]; exact List.mem_map_of_mem hx))).1.1) (fun x hx => HSW2.out x (List.mem_of_mem_drop hx)) HO5.out.rd (HRDS.out.below HB9.out)).mono ?_
                      rintro e w10 ⟨b10, rfl, hb10, hbe10⟩
                      obtain rfl : b10 = true := hb10.2 (by rw [HG6.out, HT.out, List.map_drop])
                      have hfin : Below w.heap.size w w10 := HBEL.out.trans ((HW9.out.trans (hbe10.mono HW9.out.size)).mono HBEL.out.size)
                      clear hb10 hbe10
                      go_wp2
                      go_ret
                      exact ⟨rfl, hfin⟩
                · have hz2 : Bt < cA := by omega
                  by_cases hz3 : cS = W
                  · have HEMS : Hid (S.drop W = []) := Lib.hid (List.eq_nil_of_length_eq_zero (by rw [List.length_drop, ← HK.out]; omega))
                    have hz3' : W = cS := hz3.symm
                    subst hz3'
                    rcases hboth with ⟨rfl, heq⟩ | ⟨rfl, heq⟩
                    · go_wp2_with fail
                      refine (all_any (some ⟨gA, Bt, none⟩) (nA - Bt) (cA - Bt) ((flatF T).drop Bt) w8 HDL.out (by omega) (by omega) HRDD.out).mono ?_
                      rintro e w9 ⟨ms2, a5, c5, n5, er5, rfl, hR5, hO5, hb9⟩
                      rw [HDR.out] at hR5
                      obtain ⟨g6, g7, g8⟩ := all_cut _ _ _ _ _ (fun m hm => HOK.out m (List.mem_of_mem_drop hm)) (.inl rfl) hR5
                      obtain rfl : er5 = 0 := by
                        rcases g8 with ⟨_, g⟩ | ⟨g, _⟩
                        · exact g
                        · exact (g rfl).elim
                      obtain rfl : n5 = (nA - Bt) := by
                        have h9 := HDL.out
                        rw [HDR.out, List.append_nil] at h9
                        rw [g7, h9]
                      have hl2 : ms2.length = k - W := by
                        have h9 := congrArg List.length g6
                        rw [List.length_map, List.length_drop, HTL.out] at h9
                        exact h9
                      have HW9 : Hid (Below wo.heap.size wo w9) := Lib.hid (HW8.out.trans (hb9.mono HW8.out.size))
                      have HB9 := Lib.hid hb9
                      have HO5 := Lib.hid hO5
                      have HG6 := Lib.hid g6
                      have HL2 := Lib.hid hl2
                      clear hb9 hO5 g6 g7 g8 hl2 hR5
                      go_wp2_with fail
                      refine (alikeall_any a5 (some ⟨gS, 0, none⟩) c5 0 ms2.length 0 ms2 (S.drop W) w9 rfl (by rw [HEMS.out]; rfl) (by rw [HL2.out]; omega) (fun x hx => (HOK.out x.1 (List.mem_of_mem_drop (by rw [← HG6.out]; exact List.mem_map_of_mem hx))).1.1) (fun x hx => HSW2.out x (List.mem_of_mem_drop hx)) HO5.out.rd (by rw [HEMS.out]; exact ⟨.inl rfl, fun x hx => by simp at hx⟩)).mono ?_
                      rintro e w10 ⟨b10, rfl, hb10, hbe10⟩
                      obtain rfl : b10 = true := hb10.2 (by rw [HG6.out, HT.out, List.map_drop])
                      have hfin : Below w.heap.size w w10 := HBEL.out.trans ((HW9.out.trans (hbe10.mono HW9.out.size)).mono HBEL.out.size)
                      clear hb10 hbe10
                      go_wp2
                      go_ret
                      exact ⟨rfl, hfin⟩
                    · go_wp2_with fail
                      refine (all_any (some ⟨gA, Bt, none⟩) (nA - Bt) (cA - Bt) ((flatF T).drop Bt) w8 HDL.out (by omega) (by omega) HRDD.out).mono ?_
                      rintro e w9 ⟨ms2, a5, c5, n5, er5, rfl, hR5, hO5, hb9⟩
                      rw [HDR.out] at hR5
                      obtain ⟨g6, g7, g8⟩ := all_cut _ _ _ _ _ (fun m hm => HOK.out m (List.mem_of_mem_drop hm)) (.inl rfl) hR5
                      obtain rfl : er5 = 0 := by
                        rcases g8 with ⟨_, g⟩ | ⟨g, _⟩
                        · exact g
                        · exact (g rfl).elim
                      obtain rfl : n5 = (nA - Bt) := by
                        have h9 := HDL.out
                        rw [HDR.out, List.append_nil] at h9
                        rw [g7, h9]
                      have hl2 : ms2.length = k - W := by
                        have h9 := congrArg List.length g6
                        rw [List.length_map, List.length_drop, HTL.out] at h9
                        exact h9
                      have HW9 : Hid (Below wo.heap.size wo w9) := Lib.hid (HW8.out.trans (hb9.mono HW8.out.size))
                      have HB9 := Lib.hid hb9
                      have HO5 := Lib.hid hO5
                      have HG6 := Lib.hid g6
                      have HL2 := Lib.hid hl2
                      clear hb9 hO5 g6 g7 g8 hl2 hR5
                      go_wp2_with fail
                      refine (alikeall_any a5 (some ⟨gS, 0, none⟩) c5 0 ms2.length 0 ms2 (S.drop W) w9 rfl (by rw [HEMS.out]; rfl) (by rw [HL2.out]; omega) (fun x hx => (HOK.out x.1 (List.mem_of_mem_drop (by rw [← HG6.out]; exact List.mem_map_of_mem hx))).1.1) (fun x hx => HSW2.out x (List.mem_of_mem_drop hx)) HO5.out.rd (by rw [HEMS.out]; exact ⟨.inl rfl, fun x hx => by simp at hx⟩)).mono ?_
                      rintro e w10 ⟨b10, rfl, hb10, hbe10⟩
                      obtain rfl : b10 = true := hb10.2 (by rw [HG6.out, HT.out, List.map_drop])
                      have hfin : Below w.heap.size w w10 := HBEL.out.trans ((HW9.out.trans (hbe10.mono HW9.out.size)).mono HBEL.out.size)
                      clear hb10 hbe10
                      go_wp2
                      go_ret
                      exact ⟨rfl, hfin⟩
                  · have hz4 : W < cS := by omega
                    rcases hboth with ⟨rfl, heq⟩ | ⟨rfl, heq⟩
                    · go_wp2_with fail
                      refine (all_any (some ⟨gA, Bt, none⟩) (nA - Bt) (cA - Bt) ((flatF T).drop Bt) w8 HDL.out (by omega) (by omega) HRDD.out).mono ?_
                      rintro e w9 ⟨ms2, a5, c5, n5, er5, rfl, hR5, hO5, hb9⟩
                      rw [HDR.out] at hR5
                      obtain ⟨g6, g7, g8⟩ := all_cut _ _ _ _ _ (fun m hm => HOK.out m (List.mem_of_mem_drop hm)) (.inl rfl) hR5
                      obtain rfl : er5 = 0 := by
                        rcases g8 with ⟨_, g⟩ | ⟨g, _⟩
                        · exact g
                        · exact (g rfl).elim
                      obtain rfl : n5 = (nA - Bt) := by
                        have h9 := HDL.out
                        rw [HDR.out, List.append_nil] at h9
                        rw [g7, h9]
                      have hl2 : ms2.length = k - W := by
                        have h9 := congrArg List.length g6
                        rw [List.length_map, List.length_drop, HTL.out] at h9
                        exact h9
                      have HW9 : Hid (Below wo.heap.size wo w9) := Lib.hid (HW8.out.trans (hb9.mono HW8.out.size))
                      have HB9 := Lib.hid hb9
                      have HO5 := Lib.hid hO5
                      have HG6 := Lib.hid g6
                      have HL2 := Lib.hid hl2
                      clear hb9 hO5 g6 g7 g8 hl2 hR5
                      go_wp2_with fail
                      refine (alikeall_any a5 (some ⟨gS, W * 31, none⟩) c5 (cS - W) ms2.length (k - W) ms2 (S.drop W) w9 rfl (by rw [List.length_drop, ← HK.out]) (by rw [HL2.out]; omega) (fun x hx => (HOK.out x.1 (List.mem_of_mem_drop (by rw [← HG6.out]; exact List.mem_map_of_mem hx))).1.1) (fun x hx => HSW2.out x (List.mem_of_mem_drop hx)) HO5.out.rd (HRDS.out.below HB9.out)).mono ?_
                      rintro e w10 ⟨b10, rfl, hb10, hbe10⟩
                      obtain rfl : b10 = true := hb10.2 (by rw [HG6.out, HT.out, List.map_drop])
                      have hfin : Below w.heap.size w w10 := HBEL.out.trans ((HW9.out.trans (hbe10.mono HW9.out.size)).mono HBEL.out.size)
                      clear hb10 hbe10
                      go_wp2
                      go_ret
                      exact ⟨rfl, hfin⟩
                    · go_wp2_with fail
                      refine (all_any (some ⟨gA, Bt, none⟩) (nA - Bt) (cA - Bt) ((flatF T).drop Bt) w8 HDL.out (by omega) (by omega) HRDD.out).mono ?_
                      rintro e w9 ⟨ms2, a5, c5, n5, er5, rfl, hR5, hO5, hb9⟩
                      rw [HDR.out] at hR5
                      obtain ⟨g6, g7, g8⟩ := all_cut _ _ _ _ _ (fun m hm => HOK.out m (List.mem_of_mem_drop hm)) (.inl rfl) hR5
                      obtain rfl : er5 = 0 := by
                        rcases g8 with ⟨_, g⟩ | ⟨g, _⟩
                        · exact g
                        · exact (g rfl).elim
                      obtain rfl : n5 = (nA - Bt) := by
                        have h9 := HDL.out
                        rw [HDR.out, List.append_nil] at h9
                        rw [g7, h9]
                      have hl2 : ms2.length = k - W := by
                        have h9 := congrArg List.length g6
                        rw [List.length_map, List.length_drop, HTL.out] at h9
                        exact h9
                      have HW9 : Hid (Below wo.heap.size wo w9) := Lib.hid (HW8.out.trans (hb9.mono HW8.out.size))
                      have HB9 := Lib.hid hb9
                      have HO5 := Lib.hid hO5
                      have HG6 := Lib.hid g6
                      have HL2 := Lib.hid hl2
                      clear hb9 hO5 g6 g7 g8 hl2 hR5
                      go_wp2_with fail
                      refine (alikeall_any a5 (some ⟨gS, W * 31, none⟩) c5 (cS - W) ms2.length (k - W) ms2 (S.drop W) w9 rfl (by rw [List.length_drop, ← HK.out]) (by rw [HL2.out]; omega) (fun x hx => (HOK.out x.1 (List.mem_of_mem_drop (by rw [← HG6.out]; exact List.mem_map_of_mem hx))).1.1) (fun x hx => HSW2.out x (List.mem_of_mem_drop hx)) HO5.out.rd (HRDS.out.below HB9.out)).mono ?_
                      rintro e w10 ⟨b10, rfl, hb10, hbe10⟩
                      obtain rfl : b10 = true := hb10.2 (by rw [HG6.out, HT.out, List.map_drop])
                      have hfin : Below w.heap.size w w10 := HBEL.out.trans ((HW9.out.trans (hbe10.mono HW9.out.size)).mono HBEL.out.size)
                      clear hb10 hbe10
                      go_wp2
                      go_ret
                      exact ⟨rfl, hfin⟩
        · have h3 : (nA : Int) < cut := by omega
          have h5 : (0 : Int) ≤ nA := by omega
          have hCA : nA ≤ nA := Nat.le_refl _
          go_wp2_with fail
          have HSTART : Hid (∃ (i W Bt : Nat), Value.int .i64 0 = .int .i64 (W : Int) ∧ Value.int .i64 0 = .int .i64 (Bt : Int) ∧ Value.int .i64 0 = .int .i64 (i : Int) ∧ i ≤ k ∧ W ≤ i ∧ Bt = (flatF (T.take W)).length ∧ Bt ≤ nA ∧ (W = i ∨ nA < (flatF (T.take (W + 1))).length) ∧ Below wo.heap.size wo wo) :=
            Lib.hid ⟨0, 0, 0, rfl, rfl, rfl, Nat.zero_le _, Nat.le_refl _, by simp [flatF], Nat.zero_le _, .inl rfl, Below.refl _ _⟩
          obtain ⟨W5, hW5⟩ : ∃ W5, W5 = wo := ⟨_, rfl⟩
          rw [← hW5]
          have HSTART2 : Hid (∃ (i W Bt : Nat), Value.int .i64 0 = .int .i64 (W : Int) ∧ Value.int .i64 0 = .int .i64 (Bt : Int) ∧ Value.int .i64 0 = .int .i64 (i : Int) ∧ i ≤ k ∧ W ≤ i ∧ Bt = (flatF (T.take W)).length ∧ Bt ≤ nA ∧ (W = i ∨ nA < (flatF (T.take (W + 1))).length) ∧ Below wo.heap.size wo W5) := Lib.hid (by rw [hW5]; exact HSTART.out)
          clear HSTART hW5
          go_loopw [11, 12, 13] (fun x y z wr => ∃ (i W Bt : Nat), x = .int .i64 (W : Int) ∧ y = .int .i64 (Bt : Int) ∧ z = .int .i64 (i : Int) ∧ i ≤ k ∧ W ≤ i ∧ Bt = (flatF (T.take W)).length ∧ Bt ≤ nA ∧ (W = i ∨ nA < (flatF (T.take (W + 1))).length) ∧ Below wo.heap.size wo wr) (fun _ _ z _ => k - (intOf z).toNat)
          case atStart => exact HSTART2.out
          case round =>
            obtain ⟨i, W, Bt, rfl, rfl, rfl, hi, hW, hBt, hBC, hor, hbq⟩ := hrel
            have HBQ := Lib.hid hbq
            have HBT := Lib.hid hBt
            have HOR := Lib.hid hor
            clear hbq hBt hor
            by_cases hlt2 : i < k
            · have hlt2' : (i : Int) < k := by omega
              have hiT : i < T.length := by rw [HTL.out]; exact hlt2
              obtain ⟨bE, oE, rfl, hcE⟩ := (HOE.out.below HBQ.out).cells (by intro h0; have h9 := congrArg List.length h0; simp only [zcells, List.length_map, ends_len, List.length_nil] at h9; omega)
              have hce := hcE i (by simp only [zcells, List.length_map, ends_len]; exact hiT)
              simp only [zcells, List.getElem_map] at hce
              rw [ends_get T i hiT] at hce
              obtain ⟨En, hEn⟩ : ∃ E, E = (flatF (T.take (i + 1))).length := ⟨_, rfl⟩
              rw [← hEn] at hce
              have HEN := Lib.hid hEn
              have HME := Lib.hid (meas_lt hlt2)
              have hin : i + 1 ≤ k := hlt2
              clear hcE hEn
              by_cases hle : En ≤ nA
              · have hle' : (En : Int) ≤ nA := by omega
                have HREL : Hid (∃ (i' W' Bt' : Nat), Value.int .i64 ((i : Int) + 1) = .int .i64 (W' : Int) ∧ Value.int .i64 (En : Int) = .int .i64 (Bt' : Int) ∧ Value.int .i64 ((i : Int) + 1) = .int .i64 (i' : Int) ∧ i' ≤ k ∧ W' ≤ i' ∧ Bt' = (flatF (T.take W')).length ∧ Bt' ≤ nA ∧ (W' = i' ∨ nA < (flatF (T.take (W' + 1))).length) ∧ Below wo.heap.size wo wr) :=
                  Lib.hid ⟨i + 1, i + 1, En, rfl, rfl, rfl, hin, Nat.le_refl _, HEN.out, hle, .inl rfl, HBQ.out⟩
                go_wp2
                go_roundw
                case rel => exact HREL.out
                case measure => exact HME.out
              · have hle' : ¬ (En : Int) ≤ nA := by omega
                have HREL : Hid (∃ (i' W' Bt' : Nat), Value.int .i64 (W : Int) = .int .i64 (W' : Int) ∧ Value.int .i64 (Bt : Int) = .int .i64 (Bt' : Int) ∧ Value.int .i64 ((i : Int) + 1) = .int .i64 (i' : Int) ∧ i' ≤ k ∧ W' ≤ i' ∧ Bt' = (flatF (T.take W')).length ∧ Bt' ≤ nA ∧ (W' = i' ∨ nA < (flatF (T.take (W' + 1))).length) ∧ Below wo.heap.size wo wr) :=
                  Lib.hid ⟨i + 1, W, Bt, rfl, rfl, rfl, hin, by omega, HBT.out, hBC, by
                    rcases HOR.out with h9 | h9
                    · right; rw [h9, ← HEN.out]; omega
                    · exact .inr h9, HBQ.out⟩
                go_wp2
                go_roundw
                case rel => exact HREL.out
                case measure => exact HME.out
            · have hlt2' : ¬ (i : Int) < k := by omega
              have hik : k = i := by omega
              subst hik
              have hflat : (flatF T).length = nA := HLEN.out.symm
              obtain ⟨r, hr1, hr2, hr3⟩ := cut_form T W nA HOK.out (by rw [HTL.out]; exact hW) (by rw [← HBT.out]; exact hBC) (by rw [hflat]; exact hCA) (by rw [HTL.out]; exact HOR.out)
              rw [← HBT.out] at hr3
              have HR1 := Lib.hid hr1
              have HR2x := Lib.hid hr2
              have HR3 := Lib.hid hr3
              have HLC : Hid (((flatF T).take nA).length = nA) := Lib.hid (by rw [List.length_take, hflat]; omega)
              have hrdA := rd_take (HOA.out.below HBQ.out) nA
              have i1 : (nA : Int) ≤ cA := by omega
              have i2 : nA ≤ cA := by omega
              clear hr1 hr2 hr3 hflat
              go_wp2_with fail
              refine (all_any aA nA cA ((flatF T).take nA) wr HLC.out (by omega) i2 hrdA).mono ?_
              rintro e w7 ⟨ms, a3, c3, n3, er3, rfl, hR3, hO3, hb7⟩
              rw [HR1.out] at hR3
              obtain ⟨g1, g2, g3⟩ := all_cut _ _ _ _ _ (fun m hm => HOK.out m (List.mem_of_mem_take hm)) HR2x.out hR3
              rw [← HBT.out] at g2
              subst n3
              have hmsl : ms.length = W := by
                have h9 := congrArg List.length g1
                rw [List.length_map, List.length_take, HTL.out] at h9
                omega
              have HMS := Lib.hid g1
              have HMSL := Lib.hid hmsl
              have HG3 := Lib.hid g3
              have HW7 : Hid (Below wo.heap.size wo w7) := Lib.hid (HBQ.out.trans (hb7.mono HBQ.out.size))
              have HO3 := Lib.hid hO3
              clear g1 g3 hmsl hb7 hO3 hR3 hrdA
              have j1 : (W : Int) ≤ cS := by omega
              have j2 : W ≤ cS := by omega
              go_wp2_with fail
              refine (alikeall_any a3 aS c3 cS ms.length W ms (S.take W) w7 rfl (by rw [List.length_take, ← HK.out]; omega) (by rw [HMSL.out]; omega) (fun x hx => (HOK.out x.1 (List.mem_of_mem_take (by rw [← HMS.out]; exact List.mem_map_of_mem hx))).1.1) (fun x hx => HSW2.out x (List.mem_of_mem_take hx)) HO3.out.rd (rdL_take (HRS.out.below HW7.out) W)).mono ?_
              rintro e w8 ⟨b8, rfl, hb8, hbe8⟩
              obtain rfl : b8 = true := hb8.2 (by rw [HMS.out, HT.out, List.map_take])
              have HW8 : Hid (Below wo.heap.size wo w8) := Lib.hid (HW7.out.trans (hbe8.mono HW7.out.size))
              clear hb8 hbe8 HW7 HO3
              have hne0 : ((Bt : Int) != Bt) = false := by simp
              have hboth : (er3 = 0 ∧ ((Bt : Int) == nA) = true) ∨ (er3 = 210 ∧ ((Bt : Int) == nA) = false) := by
                rcases HG3.out with ⟨g4, g5⟩ | ⟨g4, g5⟩
                · left
                  have h9 := HR3.out
                  rw [g4, List.length_nil] at h9
                  exact ⟨g5, eql_of (by omega)⟩
                · right
                  have h9 := HR3.out
                  have h10 : 0 < r.length := List.length_pos_iff.2 g4
                  exact ⟨g5, eql_of' (by omega)⟩
              have hnil0 := HSS.out.empty
              have hformA : 0 < nA → _ := fun h => own_form HSS.out.ownA h
              have hformS : 0 < S.length → _ := fun h => own_form HSS.out.ownS h
              have HFA := Lib.hid hformA
              have HFS := Lib.hid hformS
              have HNIL := Lib.hid hnil0
              clear hnil0 hformA hformS
              have hBtA : Bt ≤ nA := by omega
              have hdrop : (flatF T).drop Bt = flatF (T.drop W) ++ [] := by
                rw [List.append_nil, flat_split T W, HBT.out, List.drop_left]
              have hdl : ((flatF T).drop Bt).length = nA - Bt := by rw [List.length_drop, ← HLEN.out]
              have HDR := Lib.hid hdrop
              have HDL := Lib.hid hdl
              have hsub : IntKind.i64.wrap ((nA : Int) - Bt) = ((nA - Bt : Nat) : Int) := by rw [IntKind.wrap_i64]; omega
              clear hdrop hdl
              by_cases hk0 : k = 0
              · obtain ⟨e1, e2, e3, e4, e5, e6⟩ := HNIL.out (List.eq_nil_of_length_eq_zero (by rw [← HK.out]; exact hk0))
                subst e1 e2 e3 e4
                obtain rfl : W = 0 := by omega
                obtain rfl : nA = 0 := by omega
                obtain rfl : Bt = 0 := by omega
                subst hk0
                have HT0 : Hid (T = []) := Lib.hid (List.eq_nil_of_length_eq_zero HTL.out)
                have HS0 : Hid (S = []) := Lib.hid (List.eq_nil_of_length_eq_zero HK.out.symm)
                rcases hboth with ⟨rfl, heq⟩ | ⟨rfl, heq⟩
                · go_wp2_with fail
                  refine (all_any none 0 0 [] w8 rfl (by omega) (by omega) (.inl rfl)).mono ?_
                  rintro e w9 ⟨ms2, a5, c5, n5, er5, rfl, hR5, hO5, hb9⟩
                  obtain ⟨g6, g7, g8⟩ := all_cut [] [] _ _ _ (fun m hm => by simp at hm) (.inl rfl) hR5
                  obtain rfl : er5 = 0 := by
                    rcases g8 with ⟨_, g⟩ | ⟨g, _⟩
                    · exact g
                    · exact (g rfl).elim
                  obtain rfl : n5 = 0 := by simpa [flatF] using g7
                  obtain rfl : ms2 = [] := by simpa using g6
                  have HW9 : Hid (Below wo.heap.size wo w9) := Lib.hid (HW8.out.trans (hb9.mono HW8.out.size))
                  clear hb9 hO5 g6 g7 g8 hR5
                  go_wp2_with fail
                  refine (alikeall_any a5 none c5 0 0 0 [] [] w9 rfl rfl (by omega) (fun x hx => by simp at hx) (fun x hx => by simp at hx) ⟨.inl rfl, fun x hx => by simp at hx⟩ ⟨.inl rfl, fun x hx => by simp at hx⟩).mono ?_
                  rintro e w10 ⟨b10, rfl, hb10, hbe10⟩
                  obtain rfl : b10 = true := hb10.2 rfl
                  have hfin : Below w.heap.size w w10 := HBEL.out.trans ((HW9.out.trans (hbe10.mono HW9.out.size)).mono HBEL.out.size)
                  clear hb10 hbe10
                  go_wp2
                  go_ret
                  exact ⟨rfl, hfin⟩
                · exfalso
                  first
                    | (simp at heq; omega)
                    | (simp at heq; done)
                    | (simp [beq_eq_false_iff_ne] at heq; omega)
              · obtain ⟨gS, rfl⟩ := HFS.out (by rw [← HK.out]; omega)
                obtain ⟨gA, rfl⟩ := HFA.out (by
                  have h9 := flatF_len T
                  rw [HTL.out, ← HLEN.out] at h9
                  omega)
                have hrdD := rd_drop (HOA.out.below HW8.out) Bt
                rw [Nat.zero_add] at hrdD
                have hrdS := rdL_drop (HRS.out.below HW8.out) W (by rw [← HK.out]; exact hW)
                rw [Nat.zero_add] at hrdS
                have HRDD := Lib.hid hrdD
                have HRDS := Lib.hid hrdS
                have hwk : (W : Int) ≤ k := by omega
                clear hrdD hrdS
                by_cases hz : cA = Bt
                · have HEMP : Hid (((flatF T).drop Bt).map B = []) := Lib.hid (by rw [List.map_eq_nil_iff]; exact List.eq_nil_of_length_eq_zero (by rw [HDL.out]; omega))
                  have hz' : Bt = cA := hz.symm
                  subst hz'
                  have hz0 : nA - Bt = 0 := by omega
                  rw [hz0] at hsub HDL
                  by_cases hz3 : cS = W
                  · have HEMS : Hid (S.drop W = []) := Lib.hid (List.eq_nil_of_length_eq_zero (by rw [List.length_drop, ← HK.out]; omega))
                    have hz3' : W = cS := hz3.symm
                    subst hz3'
                    rcases hboth with ⟨rfl, heq⟩ | ⟨rfl, heq⟩
                    · go_wp2_with fail
                      refine (all_any (some ⟨gA, 0, none⟩) 0 0 ((flatF T).drop Bt) w8 HDL.out (by omega) (by omega) (.inl HEMP.out)).mono ?_
                      rintro e w9 ⟨ms2, a5, c5, n5, er5, rfl, hR5, hO5, hb9⟩
                      rw [HDR.out] at hR5
                      obtain ⟨g6, g7, g8⟩ := all_cut _ _ _ _ _ (fun m hm => HOK.out m (List.mem_of_mem_drop hm)) (.inl rfl) hR5
                      obtain rfl : er5 = 0 := by
                        rcases g8 with ⟨_, g⟩ | ⟨g, _⟩
                        · exact g
                        · exact (g rfl).elim
                      obtain rfl : n5 = 0 := by
                        have h9 := HDL.out
                        rw [HDR.out, List.append_nil] at h9
                        rw [g7, h9]
                      have hl2 : ms2.length = k - W := by
                        have h9 := congrArg List.length g6
                        rw [List.length_map, List.length_drop, HTL.out] at h9
                        exact h9
                      have HW9 : Hid (Below wo.heap.size wo w9) := Lib.hid (HW8.out.trans (hb9.mono HW8.out.size))
                      have HB9 := Lib.hid hb9
                      have HO5 := Lib.hid hO5
                      have HG6 := Lib.hid g6
                      have HL2 := Lib.hid hl2
                      clear hb9 hO5 g6 g7 g8 hl2 hR5
                      go_wp2_with fail
                      refine (alikeall_any a5 (some ⟨gS, 0, none⟩) c5 0 ms2.length 0 ms2 (S.drop W) w9 rfl (by rw [HEMS.out]; rfl) (by rw [HL2.out]; omega) (fun x hx => (HOK.out x.1 (List.mem_of_mem_drop (by rw [← HG6.out]; exact List.mem_map_of_mem hx))).1.1) (fun x hx => HSW2.out x (List.mem_of_mem_drop hx)) HO5.out.rd (by rw [HEMS.out]; exact ⟨.inl rfl, fun x hx => by simp at hx⟩)).mono ?_
                      rintro e w10 ⟨b10, rfl, hb10, hbe10⟩
                      obtain rfl : b10 = true := hb10.2 (by rw [HG6.out, HT.out, List.map_drop])
                      have hfin : Below w.heap.size w w10 := HBEL.out.trans ((HW9.out.trans (hbe10.mono HW9.out.size)).mono HBEL.out.size)
                      clear hb10 hbe10
                      go_wp2
                      go_ret
                      exact ⟨rfl, hfin⟩
                    · go_wp2_with fail
                      refine (all_any (some ⟨gA, 0, none⟩) 0 0 ((flatF T).drop Bt) w8 HDL.out (by omega) (by omega) (.inl HEMP.out)).mono ?_
                      rintro e w9 ⟨ms2, a5, c5, n5, er5, rfl, hR5, hO5, hb9⟩
                      rw [HDR.out] at hR5
                      obtain ⟨g6, g7, g8⟩ := all_cut _ _ _ _ _ (fun m hm => HOK.out m (List.mem_of_mem_drop hm)) (.inl rfl) hR5
                      obtain rfl : er5 = 0 := by
                        rcases g8 with ⟨_, g⟩ | ⟨g, _⟩
                        · exact g
                        · exact (g rfl).elim
                      obtain rfl : n5 = 0 := by
                        have h9 := HDL.out
                        rw [HDR.out, List.append_nil] at h9
                        rw [g7, h9]
                      have hl2 : ms2.length = k - W := by
                        have h9 := congrArg List.length g6
                        rw [List.length_map, List.length_drop, HTL.out] at h9
                        exact h9
                      have HW9 : Hid (Below wo.heap.size wo w9) := Lib.hid (HW8.out.trans (hb9.mono HW8.out.size))
                      have HB9 := Lib.hid hb9
                      have HO5 := Lib.hid hO5
                      have HG6 := Lib.hid g6
                      have HL2 := Lib.hid hl2
                      clear hb9 hO5 g6 g7 g8 hl2 hR5
                      go_wp2_with fail
                      refine (alikeall_any a5 (some ⟨gS, 0, none⟩) c5 0 ms2.length 0 ms2 (S.drop W) w9 rfl (by rw [HEMS.out]; rfl) (by rw [HL2.out]; omega) (fun x hx => (HOK.out x.1 (List.mem_of_mem_drop (by rw [← HG6.out]; exact List.mem_map_of_mem hx))).1.1) (fun x hx => HSW2.out x (List.mem_of_mem_drop hx)) HO5.out.rd (by rw [HEMS.out]; exact ⟨.inl rfl, fun x hx => by simp at hx⟩)).mono ?_
                      rintro e w10 ⟨b10, rfl, hb10, hbe10⟩
                      obtain rfl : b10 = true := hb10.2 (by rw [HG6.out, HT.out, List.map_drop])
                      have hfin : Below w.heap.size w w10 := HBEL.out.trans ((HW9.out.trans (hbe10.mono HW9.out.size)).mono HBEL.out.size)
                      clear hb10 hbe10
                      go_wp2
                      go_ret
                      exact ⟨rfl, hfin⟩
                  · have hz4 : W < cS := by omega
                    rcases hboth with ⟨rfl, heq⟩ | ⟨rfl, heq⟩
                    · go_wp2_with fail
                      refine (all_any (some ⟨gA, 0, none⟩) 0 0 ((flatF T).drop Bt) w8 HDL.out (by omega) (by omega) (.inl HEMP.out)).mono ?_
                      rintro e w9 ⟨ms2, a5, c5, n5, er5, rfl, hR5, hO5, hb9⟩
                      rw [HDR.out] at hR5
                      obtain ⟨g6, g7, g8⟩ := all_cut _ _ _ _ _ (fun m hm => HOK.out m (List.mem_of_mem_drop hm)) (.inl rfl) hR5
                      obtain rfl : er5 = 0 := by
                        rcases g8 with ⟨_, g⟩ | ⟨g, _⟩
                        · exact g
                        · exact (g rfl).elim
                      obtain rfl : n5 = 0 := by
                        have h9 := HDL.out
                        rw [HDR.out, List.append_nil] at h9
                        rw [g7, h9]
                      have hl2 : ms2.length = k - W := by
                        have h9 := congrArg List.length g6
                        rw [List.length_map, List.length_drop, HTL.out] at h9
                        exact h9
                      have HW9 : Hid (Below wo.heap.size wo w9) := Lib.hid (HW8.out.trans (hb9.mono HW8.out.size))
                      have HB9 := Lib.hid hb9
                      have HO5 := Lib.hid hO5
                      have HG6 := Lib.hid g6
                      have HL2 := Lib.hid hl2
                      clear hb9 hO5 g6 g7 g8 hl2 hR5
                      go_wp2_with fail
                      refine (alikeall_any a5 (some ⟨gS, W * 31, none⟩) c5 (cS - W) ms2.length (k - W) ms2 (S.drop W) w9 rfl (by rw [List.length_drop, ← HK.out]) (by rw [HL2.out]; omega) (fun x hx => (HOK.out x.1 (List.mem_of_mem_drop (by rw [← HG6.out]; exact List.mem_map_of_mem hx))).1.1) (fun x hx => HSW2.out x (List.mem_of_mem_drop hx)) HO5.out.rd (HRDS.out.below HB9.out)).mono ?_
                      rintro e w10 ⟨b10, rfl, hb10, hbe10⟩
                      obtain rfl : b10 = true := hb10.2 (by rw [HG6.out, HT.out, List.map_drop])
                      have hfin : Below w.heap.size w w10 := HBEL.out.trans ((HW9.out.trans (hbe10.mono HW9.out.size)).mono HBEL.out.size)
                      clear hb10 hbe10
                      go_wp2
                      go_ret
                      exact ⟨rfl, hfin⟩
                    · go_wp2_with fail
                      refine (all_any (some ⟨gA, 0, none⟩) 0 0 ((flatF T).drop Bt) w8 HDL.out (by omega) (by omega) (.inl HEMP.out)).mono ?_
                      rintro e w9 ⟨ms2, a5, c5, n5, er5, rfl, hR5, hO5, hb9⟩
                      rw [HDR.out] at hR5
                      obtain ⟨g6, g7, g8⟩ := all_cut _ _ _ _ _ (fun m hm => HOK.out m (List.mem_of_mem_drop hm)) (.inl rfl) hR5
                      obtain rfl : er5 = 0 := by
                        rcases g8 with ⟨_, g⟩ | ⟨g, _⟩
                        · exact g
                        · exact (g rfl).elim
                      obtain rfl : n5 = 0 := by
                        have h9 := HDL.out
                        rw [HDR.out, List.append_nil] at h9
                        rw [g7, h9]
                      have hl2 : ms2.length = k - W := by
                        have h9 := congrArg List.length g6
                        rw [List.length_map, List.length_drop, HTL.out] at h9
                        exact h9
                      have HW9 : Hid (Below wo.heap.size wo w9) := Lib.hid (HW8.out.trans (hb9.mono HW8.out.size))
                      have HB9 := Lib.hid hb9
                      have HO5 := Lib.hid hO5
                      have HG6 := Lib.hid g6
                      have HL2 := Lib.hid hl2
                      clear hb9 hO5 g6 g7 g8 hl2 hR5
                      go_wp2_with fail
                      refine (alikeall_any a5 (some ⟨gS, W * 31, none⟩) c5 (cS - W) ms2.length (k - W) ms2 (S.drop W) w9 rfl (by rw [List.length_drop, ← HK.out]) (by rw [HL2.out]; omega) (fun x hx => (HOK.out x.1 (List.mem_of_mem_drop (by rw [← HG6.out]; exact List.mem_map_of_mem hx))).1.1) (fun x hx => HSW2.out x (List.mem_of_mem_drop hx)) HO5.out.rd (HRDS.out.below HB9.out)).mono ?_
                      rintro e w10 ⟨b10, rfl, hb10, hbe10⟩
                      obtain rfl : b10 = true := hb10.2 (by rw [HG6.out, HT.out, List.map_drop])
                      have hfin : Below w.heap.size w w10 := HBEL.out.trans ((HW9.out.trans (hbe10.mono HW9.out.size)).mono HBEL.out.size)
                      clear hb10 hbe10
                      go_wp2
                      go_ret
                      exact ⟨rfl, hfin⟩
                · have hz2 : Bt < cA := by omega
                  by_cases hz3 : cS = W
                  · have HEMS : Hid (S.drop W = []) := Lib.hid (List.eq_nil_of_length_eq_zero (by rw [List.length_drop, ← HK.out]; omega))
                    have hz3' : W = cS := hz3.symm
                    subst hz3'
                    rcases hboth with ⟨rfl, heq⟩ | ⟨rfl, heq⟩
                    · go_wp2_with fail
                      refine (all_any (some ⟨gA, Bt, none⟩) (nA - Bt) (cA - Bt) ((flatF T).drop Bt) w8 HDL.out (by omega) (by omega) HRDD.out).mono ?_
                      rintro e w9 ⟨ms2, a5, c5, n5, er5, rfl, hR5, hO5, hb9⟩
                      rw [HDR.out] at hR5
                      obtain ⟨g6, g7, g8⟩ := all_cut _ _ _ _ _ (fun m hm => HOK.out m (List.mem_of_mem_drop hm)) (.inl rfl) hR5
                      obtain rfl : er5 = 0 := by
                        rcases g8 with ⟨_, g⟩ | ⟨g, _⟩
                        · exact g
                        · exact (g rfl).elim
                      obtain rfl : n5 = (nA - Bt) := by
                        have h9 := HDL.out
                        rw [HDR.out, List.append_nil] at h9
                        rw [g7, h9]
                      have hl2 : ms2.length = k - W := by
                        have h9 := congrArg List.length g6
                        rw [List.length_map, List.length_drop, HTL.out] at h9
                        exact h9
                      have HW9 : Hid (Below wo.heap.size wo w9) := Lib.hid (HW8.out.trans (hb9.mono HW8.out.size))
                      have HB9 := Lib.hid hb9
                      have HO5 := Lib.hid hO5
                      have HG6 := Lib.hid g6
                      have HL2 := Lib.hid hl2
                      clear hb9 hO5 g6 g7 g8 hl2 hR5
                      go_wp2_with fail
                      refine (alikeall_any a5 (some ⟨gS, 0, none⟩) c5 0 ms2.length 0 ms2 (S.drop W) w9 rfl (by rw [HEMS.out]; rfl) (by rw [HL2.out]; omega) (fun x hx => (HOK.out x.1 (List.mem_of_mem_drop (by rw [← HG6.out]; exact List.mem_map_of_mem hx))).1.1) (fun x hx => HSW2.out x (List.mem_of_mem_drop hx)) HO5.out.rd (by rw [HEMS.out]; exact ⟨.inl rfl, fun x hx => by simp at hx⟩)).mono ?_
                      rintro e w10 ⟨b10, rfl, hb10, hbe10⟩
                      obtain rfl : b10 = true := hb10.2 (by rw [HG6.out, HT.out, List.map_drop])
                      have hfin : Below w.heap.size w w10 := HBEL.out.trans ((HW9.out.trans (hbe10.mono HW9.out.size)).mono HBEL.out.size)
                      clear hb10 hbe10
                      go_wp2
                      go_ret
                      exact ⟨rfl, hfin⟩
                    · go_wp2_with fail
                      refine (all_any (some ⟨gA, Bt, none⟩) (nA - Bt) (cA - Bt) ((flatF T).drop Bt) w8 HDL.out (by omega) (by omega) HRDD.out).mono ?_
                      rintro e w9 ⟨ms2, a5, c5, n5, er5, rfl, hR5, hO5, hb9⟩
                      rw [HDR.out] at hR5
                      obtain ⟨g6, g7, g8⟩ := all_cut _ _ _ _ _ (fun m hm => HOK.out m (List.mem_of_mem_drop hm)) (.inl rfl) hR5
                      obtain rfl : er5 = 0 := by
                        rcases g8 with ⟨_, g⟩ | ⟨g, _⟩
                        · exact g
                        · exact (g rfl).elim
                      obtain rfl : n5 = (nA - Bt) := by
                        have h9 := HDL.out
                        rw [HDR.out, List.append_nil] at h9
                        rw [g7, h9]
                      have hl2 : ms2.length = k - W := by
                        have h9 := congrArg List.length g6
                        rw [List.length_map, List.length_drop, HTL.out] at h9
                        exact h9
                      have HW9 : Hid (Below wo.heap.size wo w9) := Lib.hid (HW8.out.trans (hb9.mono HW8.out.size))
                      have HB9 := Lib.hid hb9
                      have HO5 := Lib.hid hO5
                      have HG6 := Lib.hid g6
                      have HL2 := Lib.hid hl2
                      clear hb9 hO5 g6 g7 g8 hl2 hR5
                      go_wp2_with fail
                      refine (alikeall_any a5 (some ⟨gS, 0, none⟩) c5 0 ms2.length 0 ms2 (S.drop W) w9 rfl (by rw [HEMS.out]; rfl) (by rw [HL2.out]; omega) (fun x hx => (HOK.out x.1 (List.mem_of_mem_drop (by rw [← HG6.out]; exact List.mem_map_of_mem hx))).1.1) (fun x hx => HSW2.out x (List.mem_of_mem_drop hx)) HO5.out.rd (by rw [HEMS.out]; exact ⟨.inl rfl, fun x hx => by simp at hx⟩)).mono ?_
                      rintro e w10 ⟨b10, rfl, hb10, hbe10⟩
                      obtain rfl : b10 = true := hb10.2 (by rw [HG6.out, HT.out, List.map_drop])
                      have hfin : Below w.heap.size w w10 := HBEL.out.trans ((HW9.out.trans (hbe10.mono HW9.out.size)).mono HBEL.out.size)
                      clear hb10 hbe10
                      go_wp2
                      go_ret
                      exact ⟨rfl, hfin⟩
                  · have hz4 : W < cS := by omega
                    rcases hboth with ⟨rfl, heq⟩ | ⟨rfl, heq⟩
                    · go_wp2_with fail
                      refine (all_any (some ⟨gA, Bt, none⟩) (nA - Bt) (cA - Bt) ((flatF T).drop Bt) w8 HDL.out (by omega) (by omega) HRDD.out).mono ?_
                      rintro e w9 ⟨ms2, a5, c5, n5, er5, rfl, hR5, hO5, hb9⟩
                      rw [HDR.out] at hR5
                      obtain ⟨g6, g7, g8⟩ := all_cut _ _ _ _ _ (fun m hm => HOK.out m (List.mem_of_mem_drop hm)) (.inl rfl) hR5
                      obtain rfl : er5 = 0 := by
                        rcases g8 with ⟨_, g⟩ | ⟨g, _⟩
                        · exact g
                        · exact (g rfl).elim
                      obtain rfl : n5 = (nA - Bt) := by
                        have h9 := HDL.out
                        rw [HDR.out, List.append_nil] at h9
                        rw [g7, h9]
                      have hl2 : ms2.length = k - W := by
                        have h9 := congrArg List.length g6
                        rw [List.length_map, List.length_drop, HTL.out] at h9
                        exact h9
                      have HW9 : Hid (Below wo.heap.size wo w9) := Lib.hid (HW8.out.trans (hb9.mono HW8.out.size))
                      have HB9 := Lib.hid hb9
                      have HO5 := Lib.hid hO5
                      have HG6 := Lib.hid g6
                      have HL2 := Lib.hid hl2
                      clear hb9 hO5 g6 g7 g8 hl2 hR5
                      go_wp2_with fail
                      refine (alikeall_any a5 (some ⟨gS, W * 31, none⟩) c5 (cS - W) ms2.length (k - W) ms2 (S.drop W) w9 rfl (by rw [List.length_drop, ← HK.out]) (by rw [HL2.out]; omega) (fun x hx => (HOK.out x.1 (List.mem_of_mem_drop (by rw [← HG6.out]; exact List.mem_map_of_mem hx))).1.1) (fun x hx => HSW2.out x (List.mem_of_mem_drop hx)) HO5.out.rd (HRDS.out.below HB9.out)).mono ?_
                      rintro e w10 ⟨b10, rfl, hb10, hbe10⟩
                      obtain rfl : b10 = true := hb10.2 (by rw [HG6.out, HT.out, List.map_drop])
                      have hfin : Below w.heap.size w w10 := HBEL.out.trans ((HW9.out.trans (hbe10.mono HW9.out.size)).mono HBEL.out.size)
                      clear hb10 hbe10
                      go_wp2
                      go_ret
                      exact ⟨rfl, hfin⟩
                    · go_wp2_with fail
                      refine (all_any (some ⟨gA, Bt, none⟩) (nA - Bt) (cA - Bt) ((flatF T).drop Bt) w8 HDL.out (by omega) (by omega) HRDD.out).mono ?_
                      rintro e w9 ⟨ms2, a5, c5, n5, er5, rfl, hR5, hO5, hb9⟩
                      rw [HDR.out] at hR5
                      obtain ⟨g6, g7, g8⟩ := all_cut _ _ _ _ _ (fun m hm => HOK.out m (List.mem_of_mem_drop hm)) (.inl rfl) hR5
                      obtain rfl : er5 = 0 := by
                        rcases g8 with ⟨_, g⟩ | ⟨g, _⟩
                        · exact g
                        · exact (g rfl).elim
                      obtain rfl : n5 = (nA - Bt) := by
                        have h9 := HDL.out
                        rw [HDR.out, List.append_nil] at h9
                        rw [g7, h9]
                      have hl2 : ms2.length = k - W := by
                        have h9 := congrArg List.length g6
                        rw [List.length_map, List.length_drop, HTL.out] at h9
                        exact h9
                      have HW9 : Hid (Below wo.heap.size wo w9) := Lib.hid (HW8.out.trans (hb9.mono HW8.out.size))
                      have HB9 := Lib.hid hb9
                      have HO5 := Lib.hid hO5
                      have HG6 := Lib.hid g6
                      have HL2 := Lib.hid hl2
                      clear hb9 hO5 g6 g7 g8 hl2 hR5
                      go_wp2_with fail
                      refine (alikeall_any a5 (some ⟨gS, W * 31, none⟩) c5 (cS - W) ms2.length (k - W) ms2 (S.drop W) w9 rfl (by rw [List.length_drop, ← HK.out]) (by rw [HL2.out]; omega) (fun x hx => (HOK.out x.1 (List.mem_of_mem_drop (by rw [← HG6.out]; exact List.mem_map_of_mem hx))).1.1) (fun x hx => HSW2.out x (List.mem_of_mem_drop hx)) HO5.out.rd (HRDS.out.below HB9.out)).mono ?_
                      rintro e w10 ⟨b10, rfl, hb10, hbe10⟩
                      obtain rfl : b10 = true := hb10.2 (by rw [HG6.out, HT.out, List.map_drop])
                      have hfin : Below w.heap.size w w10 := HBEL.out.trans ((HW9.out.trans (hbe10.mono HW9.out.size)).mono HBEL.out.size)
                      clear hb10 hbe10
                      go_wp2
                      go_ret
                      exact ⟨rfl, hfin⟩
        · have h2 : ¬ (C : Int) < 0 := by omega
          have h3 : ¬ (C : Int) > nA := by omega
          have h4 : ¬ (nA : Int) < C := by omega
          have h5 : (0 : Int) ≤ C := by omega
          have hCA : C ≤ nA := h1
          go_wp2_with fail
          have HSTART : Hid (∃ (i W Bt : Nat), Value.int .i64 0 = .int .i64 (W : Int) ∧ Value.int .i64 0 = .int .i64 (Bt : Int) ∧ Value.int .i64 0 = .int .i64 (i : Int) ∧ i ≤ k ∧ W ≤ i ∧ Bt = (flatF (T.take W)).length ∧ Bt ≤ C ∧ (W = i ∨ C < (flatF (T.take (W + 1))).length) ∧ Below wo.heap.size wo wo) :=
            Lib.hid ⟨0, 0, 0, rfl, rfl, rfl, Nat.zero_le _, Nat.le_refl _, by simp [flatF], Nat.zero_le _, .inl rfl, Below.refl _ _⟩
          obtain ⟨W5, hW5⟩ : ∃ W5, W5 = wo := ⟨_, rfl⟩
          rw [← hW5]
          have HSTART2 : Hid (∃ (i W Bt : Nat), Value.int .i64 0 = .int .i64 (W : Int) ∧ Value.int .i64 0 = .int .i64 (Bt : Int) ∧ Value.int .i64 0 = .int .i64 (i : Int) ∧ i ≤ k ∧ W ≤ i ∧ Bt = (flatF (T.take W)).length ∧ Bt ≤ C ∧ (W = i ∨ C < (flatF (T.take (W + 1))).length) ∧ Below wo.heap.size wo W5) := Lib.hid (by rw [hW5]; exact HSTART.out)
          clear HSTART hW5
          go_loopw [11, 12, 13] (fun x y z wr => ∃ (i W Bt : Nat), x = .int .i64 (W : Int) ∧ y = .int .i64 (Bt : Int) ∧ z = .int .i64 (i : Int) ∧ i ≤ k ∧ W ≤ i ∧ Bt = (flatF (T.take W)).length ∧ Bt ≤ C ∧ (W = i ∨ C < (flatF (T.take (W + 1))).length) ∧ Below wo.heap.size wo wr) (fun _ _ z _ => k - (intOf z).toNat)
          case atStart => exact HSTART2.out
          case round =>
            obtain ⟨i, W, Bt, rfl, rfl, rfl, hi, hW, hBt, hBC, hor, hbq⟩ := hrel
            have HBQ := Lib.hid hbq
            have HBT := Lib.hid hBt
            have HOR := Lib.hid hor
            clear hbq hBt hor
            by_cases hlt2 : i < k
            · have hlt2' : (i : Int) < k := by omega
              have hiT : i < T.length := by rw [HTL.out]; exact hlt2
              obtain ⟨bE, oE, rfl, hcE⟩ := (HOE.out.below HBQ.out).cells (by intro h0; have h9 := congrArg List.length h0; simp only [zcells, List.length_map, ends_len, List.length_nil] at h9; omega)
              have hce := hcE i (by simp only [zcells, List.length_map, ends_len]; exact hiT)
              simp only [zcells, List.getElem_map] at hce
              rw [ends_get T i hiT] at hce
              obtain ⟨En, hEn⟩ : ∃ E, E = (flatF (T.take (i + 1))).length := ⟨_, rfl⟩
              rw [← hEn] at hce
              have HEN := Lib.hid hEn
              have HME := Lib.hid (meas_lt hlt2)
              have hin : i + 1 ≤ k := hlt2
              clear hcE hEn
              by_cases hle : En ≤ C
              · have hle' : (En : Int) ≤ C := by omega
                have HREL : Hid (∃ (i' W' Bt' : Nat), Value.int .i64 ((i : Int) + 1) = .int .i64 (W' : Int) ∧ Value.int .i64 (En : Int) = .int .i64 (Bt' : Int) ∧ Value.int .i64 ((i : Int) + 1) = .int .i64 (i' : Int) ∧ i' ≤ k ∧ W' ≤ i' ∧ Bt' = (flatF (T.take W')).length ∧ Bt' ≤ C ∧ (W' = i' ∨ C < (flatF (T.take (W' + 1))).length) ∧ Below wo.heap.size wo wr) :=
                  Lib.hid ⟨i + 1, i + 1, En, rfl, rfl, rfl, hin, Nat.le_refl _, HEN.out, hle, .inl rfl, HBQ.out⟩
                go_wp2
                go_roundw
                case rel => exact HREL.out
                case measure => exact HME.out
              · have hle' : ¬ (En : Int) ≤ C := by omega
                have HREL : Hid (∃ (i' W' Bt' : Nat), Value.int .i64 (W : Int) = .int .i64 (W' : Int) ∧ Value.int .i64 (Bt : Int) = .int .i64 (Bt' : Int) ∧ Value.int .i64 ((i : Int) + 1) = .int .i64 (i' : Int) ∧ i' ≤ k ∧ W' ≤ i' ∧ Bt' = (flatF (T.take W')).length ∧ Bt' ≤ C ∧ (W' = i' ∨ C < (flatF (T.take (W' + 1))).length) ∧ Below wo.heap.size wo wr) :=
                  Lib.hid ⟨i + 1, W, Bt, rfl, rfl, rfl, hin, by omega, HBT.out, hBC, by
                    rcases HOR.out with h9 | h9
                    · right; rw [h9, ← HEN.out]; omega
                    · exact .inr h9, HBQ.out⟩
                go_wp2
                go_roundw
                case rel => exact HREL.out
                case measure => exact HME.out
            · have hlt2' : ¬ (i : Int) < k := by omega
              have hik : k = i := by omega
              subst hik
              have hflat : (flatF T).length = nA := HLEN.out.symm
              obtain ⟨r, hr1, hr2, hr3⟩ := cut_form T W C HOK.out (by rw [HTL.out]; exact hW) (by rw [← HBT.out]; exact hBC) (by rw [hflat]; exact hCA) (by rw [HTL.out]; exact HOR.out)
              rw [← HBT.out] at hr3
              have HR1 := Lib.hid hr1
              have HR2x := Lib.hid hr2
              have HR3 := Lib.hid hr3
              have HLC : Hid (((flatF T).take C).length = C) := Lib.hid (by rw [List.length_take, hflat]; omega)
              have hrdA := rd_take (HOA.out.below HBQ.out) C
              have i1 : (C : Int) ≤ cA := by omega
              have i2 : C ≤ cA := by omega
              clear hr1 hr2 hr3 hflat
              go_wp2_with fail
              refine (all_any aA C cA ((flatF T).take C) wr HLC.out (by omega) i2 hrdA).mono ?_
              rintro e w7 ⟨ms, a3, c3, n3, er3, rfl, hR3, hO3, hb7⟩
              rw [HR1.out] at hR3
              obtain ⟨g1, g2, g3⟩ := all_cut _ _ _ _ _ (fun m hm => HOK.out m (List.mem_of_mem_take hm)) HR2x.out hR3
              rw [← HBT.out] at g2
              subst n3
              have hmsl : ms.length = W := by
                have h9 := congrArg List.length g1
                rw [List.length_map, List.length_take, HTL.out] at h9
                omega
              have HMS := Lib.hid g1
              have HMSL := Lib.hid hmsl
              have HG3 := Lib.hid g3
              have HW7 : Hid (Below wo.heap.size wo w7) := Lib.hid (HBQ.out.trans (hb7.mono HBQ.out.size))
              have HO3 := Lib.hid hO3
              clear g1 g3 hmsl hb7 hO3 hR3 hrdA
              have j1 : (W : Int) ≤ cS := by omega
              have j2 : W ≤ cS := by omega
              go_wp2_with fail
              refine (alikeall_any a3 aS c3 cS ms.length W ms (S.take W) w7 rfl (by rw [List.length_take, ← HK.out]; omega) (by rw [HMSL.out]; omega) (fun x hx => (HOK.out x.1 (List.mem_of_mem_take (by rw [← HMS.out]; exact List.mem_map_of_mem hx))).1.1) (fun x hx => HSW2.out x (List.mem_of_mem_take hx)) HO3.out.rd (rdL_take (HRS.out.below HW7.out) W)).mono ?_
              rintro e w8 ⟨b8, rfl, hb8, hbe8⟩
              obtain rfl : b8 = true := hb8.2 (by rw [HMS.out, HT.out, List.map_take])
              have HW8 : Hid (Below wo.heap.size wo w8) := Lib.hid (HW7.out.trans (hbe8.mono HW7.out.size))
              clear hb8 hbe8 HW7 HO3
              have hne0 : ((Bt : Int) != Bt) = false := by simp
              have hboth : (er3 = 0 ∧ ((Bt : Int) == C) = true) ∨ (er3 = 210 ∧ ((Bt : Int) == C) = false) := by
                rcases HG3.out with ⟨g4, g5⟩ | ⟨g4, g5⟩
                · left
                  have h9 := HR3.out
                  rw [g4, List.length_nil] at h9
                  exact ⟨g5, eql_of (by omega)⟩
                · right
                  have h9 := HR3.out
                  have h10 : 0 < r.length := List.length_pos_iff.2 g4
                  exact ⟨g5, eql_of' (by omega)⟩
              have hnil0 := HSS.out.empty
              have hformA : 0 < nA → _ := fun h => own_form HSS.out.ownA h
              have hformS : 0 < S.length → _ := fun h => own_form HSS.out.ownS h
              have HFA := Lib.hid hformA
              have HFS := Lib.hid hformS
              have HNIL := Lib.hid hnil0
              clear hnil0 hformA hformS
              have hBtA : Bt ≤ nA := by omega
              have hdrop : (flatF T).drop Bt = flatF (T.drop W) ++ [] := by
                rw [List.append_nil, flat_split T W, HBT.out, List.drop_left]
              have hdl : ((flatF T).drop Bt).length = nA - Bt := by rw [List.length_drop, ← HLEN.out]
              have HDR := Lib.hid hdrop
              have HDL := Lib.hid hdl
              have hsub : IntKind.i64.wrap ((nA : Int) - Bt) = ((nA - Bt : Nat) : Int) := by rw [IntKind.wrap_i64]; omega
              clear hdrop hdl
              by_cases hk0 : k = 0
              · obtain ⟨e1, e2, e3, e4, e5, e6⟩ := HNIL.out (List.eq_nil_of_length_eq_zero (by rw [← HK.out]; exact hk0))
                subst e1 e2 e3 e4
                obtain rfl : W = 0 := by omega
                obtain rfl : nA = 0 := by omega
                obtain rfl : Bt = 0 := by omega
                subst hk0
                have HT0 : Hid (T = []) := Lib.hid (List.eq_nil_of_length_eq_zero HTL.out)
                have HS0 : Hid (S = []) := Lib.hid (List.eq_nil_of_length_eq_zero HK.out.symm)
                rcases hboth with ⟨rfl, heq⟩ | ⟨rfl, heq⟩
                · go_wp2_with fail
                  refine (all_any none 0 0 [] w8 rfl (by omega) (by omega) (.inl rfl)).mono ?_
                  rintro e w9 ⟨ms2, a5, c5, n5, er5, rfl, hR5, hO5, hb9⟩
                  obtain ⟨g6, g7, g8⟩ := all_cut [] [] _ _ _ (fun m hm => by simp at hm) (.inl rfl) hR5
                  obtain rfl : er5 = 0 := by
                    rcases g8 with ⟨_, g⟩ | ⟨g, _⟩
                    · exact g
                    · exact (g rfl).elim
                  obtain rfl : n5 = 0 := by simpa [flatF] using g7
                  obtain rfl : ms2 = [] := by simpa using g6
                  have HW9 : Hid (Below wo.heap.size wo w9) := Lib.hid (HW8.out.trans (hb9.mono HW8.out.size))
                  clear hb9 hO5 g6 g7 g8 hR5
                  go_wp2_with fail
                  refine (alikeall_any a5 none c5 0 0 0 [] [] w9 rfl rfl (by omega) (fun x hx => by simp at hx) (fun x hx => by simp at hx) ⟨.inl rfl, fun x hx => by simp at hx⟩ ⟨.inl rfl, fun x hx => by simp at hx⟩).mono ?_
                  rintro e w10 ⟨b10, rfl, hb10, hbe10⟩
                  obtain rfl : b10 = true := hb10.2 rfl
                  have hfin : Below w.heap.size w w10 := HBEL.out.trans ((HW9.out.trans (hbe10.mono HW9.out.size)).mono HBEL.out.size)
                  clear hb10 hbe10
                  go_wp2
                  go_ret
                  exact ⟨rfl, hfin⟩
                · exfalso
                  first
                    | (simp at heq; omega)
                    | (simp at heq; done)
                    | (simp [beq_eq_false_iff_ne] at heq; omega)
              · obtain ⟨gS, rfl⟩ := HFS.out (by rw [← HK.out]; omega)
                obtain ⟨gA, rfl⟩ := HFA.out (by
                  have h9 := flatF_len T
                  rw [HTL.out, ← HLEN.out] at h9
                  omega)
                have hrdD := rd_drop (HOA.out.below HW8.out) Bt
                rw [Nat.zero_add] at hrdD
                have hrdS := rdL_drop (HRS.out.below HW8.out) W (by rw [← HK.out]; exact hW)
                rw [Nat.zero_add] at hrdS
                have HRDD := Lib.hid hrdD
                have HRDS := Lib.hid hrdS
                have hwk : (W : Int) ≤ k := by omega
                clear hrdD hrdS
                by_cases hz : cA = Bt
                · have HEMP : Hid (((flatF T).drop Bt).map B = []) := Lib.hid (by rw [List.map_eq_nil_iff]; exact List.eq_nil_of_length_eq_zero (by rw [HDL.out]; omega))
                  have hz' : Bt = cA := hz.symm
                  subst hz'
                  have hz0 : nA - Bt = 0 := by omega
                  rw [hz0] at hsub HDL
                  by_cases hz3 : cS = W
                  · have HEMS : Hid (S.drop W = []) := Lib.hid (List.eq_nil_of_length_eq_zero (by rw [List.length_drop, ← HK.out]; omega))
                    have hz3' : W = cS := hz3.symm
                    subst hz3'
                    rcases hboth with ⟨rfl, heq⟩ | ⟨rfl, heq⟩
                    · go_wp2_with fail
                      refine (all_any (some ⟨gA, 0, none⟩) 0 0 ((flatF T).drop Bt) w8 HDL.out (by omega) (by omega) (.inl HEMP.out)).mono ?_
                      rintro e w9 ⟨ms2, a5, c5, n5, er5, rfl, hR5, hO5, hb9⟩
                      rw [HDR.out] at hR5
                      obtain ⟨g6, g7, g8⟩ := all_cut _ _ _ _ _ (fun m hm => HOK.out m (List.mem_of_mem_drop hm)) (.inl rfl) hR5
                      obtain rfl : er5 = 0 := by
                        rcases g8 with ⟨_, g⟩ | ⟨g, _⟩
                        · exact g
                        · exact (g rfl).elim
                      obtain rfl : n5 = 0 := by
                        have h9 := HDL.out
                        rw [HDR.out, List.append_nil] at h9
                        rw [g7, h9]
                      have hl2 : ms2.length = k - W := by
                        have h9 := congrArg List.length g6
                        rw [List.length_map, List.length_drop, HTL.out] at h9
                        exact h9
                      have HW9 : Hid (Below wo.heap.size wo w9) := Lib.hid (HW8.out.trans (hb9.mono HW8.out.size))
                      have HB9 := Lib.hid hb9
                      have HO5 := Lib.hid hO5
                      have HG6 := Lib.hid g6
                      have HL2 := Lib.hid hl2
                      clear hb9 hO5 g6 g7 g8 hl2 hR5
                      go_wp2_with fail
                      refine (alikeall_any a5 (some ⟨gS, 0, none⟩) c5 0 ms2.length 0 ms2 (S.drop W) w9 rfl (by rw [HEMS.out]; rfl) (by rw [HL2.out]; omega) (fun x hx => (HOK.out x.1 (List.mem_of_mem_drop (by rw [← HG6.out]; exact List.mem_map_of_mem hx))).1.1) (fun x hx => HSW2.out x (List.mem_of_mem_drop hx)) HO5.out.rd (by rw [HEMS.out]; exact ⟨.inl rfl, fun x hx => by simp at hx⟩)).mono ?_
                      rintro e w10 ⟨b10, rfl, hb10, hbe10⟩
                      obtain rfl : b10 = true := hb10.2 (by rw [HG6.out, HT.out, List.map_drop])
                      have hfin : Below w.heap.size w w10 := HBEL.out.trans ((HW9.out.trans (hbe10.mono HW9.out.size)).mono HBEL.out.size)
                      clear hb10 hbe10
                      go_wp2
                      go_ret
                      exact ⟨rfl, hfin⟩
                    · go_wp2_with fail
                      refine (all_any (some ⟨gA, 0, none⟩) 0 0 ((flatF T).drop Bt) w8 HDL.out (by omega) (by omega) (.inl HEMP.out)).mono ?_
                      rintro e w9 ⟨ms2, a5, c5, n5, er5, rfl, hR5, hO5, hb9⟩
                      rw [HDR.out] at hR5
                      obtain ⟨g6, g7, g8⟩ := all_cut _ _ _ _ _ (fun m hm => HOK.out m (List.mem_of_mem_drop hm)) (.inl rfl) hR5
                      obtain rfl : er5 = 0 := by
                        rcases g8 with ⟨_, g⟩ | ⟨g, _⟩
                        · exact g
                        · exact (g rfl).elim
                      obtain rfl : n5 = 0 := by
                        have h9 := HDL.out
                        rw [HDR.out, List.append_nil] at h9
                        rw [g7, h9]
                      have hl2 : ms2.length = k - W := by
                        have h9 := congrArg List.length g6
                        rw [List.length_map, List.length_drop, HTL.out] at h9
                        exact h9
                      have HW9 : Hid (Below wo.heap.size wo w9) := Lib.hid (HW8.out.trans (hb9.mono HW8.out.size))
                      have HB9 := Lib.hid hb9
                      have HO5 := Lib.hid hO5
                      have HG6 := Lib.hid g6
                      have HL2 := Lib.hid hl2
                      clear hb9 hO5 g6 g7 g8 hl2 hR5
                      go_wp2_with fail
                      refine (alikeall_any a5 (some ⟨gS, 0, none⟩) c5 0 ms2.length 0 ms2 (S.drop W) w9 rfl (by rw [HEMS.out]; rfl) (by rw [HL2.out]; omega) (fun x hx => (HOK.out x.1 (List.mem_of_mem_drop (by rw [← HG6.out]; exact List.mem_map_of_mem hx))).1.1) (fun x hx => HSW2.out x (List.mem_of_mem_drop hx)) HO5.out.rd (by rw [HEMS.out]; exact ⟨.inl rfl, fun x hx => by simp at hx⟩)).mono ?_
                      rintro e w10 ⟨b10, rfl, hb10, hbe10⟩
                      obtain rfl : b10 = true := hb10.2 (by rw [HG6.out, HT.out, List.map_drop])
                      have hfin : Below w.heap.size w w10 := HBEL.out.trans ((HW9.out.trans (hbe10.mono HW9.out.size)).mono HBEL.out.size)
                      clear hb10 hbe10
                      go_wp2
                      go_ret
                      exact ⟨rfl, hfin⟩
                  · have hz4 : W < cS := by omega
                    rcases hboth with ⟨rfl, heq⟩ | ⟨rfl, heq⟩
                    · go_wp2_with fail
                      refine (all_any (some ⟨gA, 0, none⟩) 0 0 ((flatF T).drop Bt) w8 HDL.out (by omega) (by omega) (.inl HEMP.out)).mono ?_
                      rintro e w9 ⟨ms2, a5, c5, n5, er5, rfl, hR5, hO5, hb9⟩
                      rw [HDR.out] at hR5
                      obtain ⟨g6, g7, g8⟩ := all_cut _ _ _ _ _ (fun m hm => HOK.out m (List.mem_of_mem_drop hm)) (.inl rfl) hR5
                      obtain rfl : er5 = 0 := by
                        rcases g8 with ⟨_, g⟩ | ⟨g, _⟩
                        · exact g
                        · exact (g rfl).elim
                      obtain rfl : n5 = 0 := by
                        have h9 := HDL.out
                        rw [HDR.out, List.append_nil] at h9
                        rw [g7, h9]
                      have hl2 : ms2.length = k - W := by
                        have h9 := congrArg List.length g6
                        rw [List.length_map, List.length_drop, HTL.out] at h9
                        exact h9
                      have HW9 : Hid (Below wo.heap.size wo w9) := Lib.hid (HW8.out.trans (hb9.mono HW8.out.size))
                      have HB9 := Lib.hid hb9
                      have HO5 := Lib.hid hO5
                      have HG6 := Lib.hid g6
                      have HL2 := Lib.hid hl2
                      clear hb9 hO5 g6 g7 g8 hl2 hR5
                      go_wp2_with fail
                      refine (alikeall_any a5 (some ⟨gS, W * 31, none⟩) c5 (cS - W) ms2.length (k - W) ms2 (S.drop W) w9 rfl (by rw [List.length_drop, ← HK.out]) (by rw [HL2.out]; omega) (fun x hx => (HOK.out x.1 (List.mem_of_mem_drop (by rw [← HG6.out]; exact List.mem_map_of_mem hx))).1.1) (fun x hx => HSW2.out x (List.mem_of_mem_drop hx)) HO5.out.rd (HRDS.out.below HB9.out)).mono ?_
                      rintro e w10 ⟨b10, rfl, hb10, hbe10⟩
                      obtain rfl : b10 = true := hb10.2 (by rw [HG6.out, HT.out, List.map_drop])
                      have hfin : Below w.heap.size w w10 := HBEL.out.trans ((HW9.out.trans (hbe10.mono HW9.out.size)).mono HBEL.out.size)
                      clear hb10 hbe10
                      go_wp2
                      go_ret
                      exact ⟨rfl, hfin⟩
                    · go_wp2_with fail
                      refine (all_any (some ⟨gA, 0, none⟩) 0 0 ((flatF T).drop Bt) w8 HDL.out (by omega) (by omega) (.inl HEMP.out)).mono ?_
                      rintro e w9 ⟨ms2, a5, c5, n5, er5, rfl, hR5, hO5, hb9⟩
                      rw [HDR.out] at hR5
                      obtain ⟨g6, g7, g8⟩ := all_cut _ _ _ _ _ (fun m hm => HOK.out m (List.mem_of_mem_drop hm)) (.inl rfl) hR5
                      obtain rfl : er5 = 0 := by
                        rcases g8 with ⟨_, g⟩ | ⟨g, _⟩
                        · exact g
                        · exact (g rfl).elim
                      obtain rfl : n5 = 0 := by
                        have h9 := HDL.out
                        rw [HDR.out, List.append_nil] at h9
                        rw [g7, h9]
                      have hl2 : ms2.length = k - W := by
                        have h9 := congrArg List.length g6
                        rw [List.length_map, List.length_drop, HTL.out] at h9
                        exact h9
                      have HW9 : Hid (Below wo.heap.size wo w9) := Lib.hid (HW8.out.trans (hb9.mono HW8.out.size))
                      have HB9 := Lib.hid hb9
                      have HO5 := Lib.hid hO5
                      have HG6 := Lib.hid g6
                      have HL2 := Lib.hid hl2
                      clear hb9 hO5 g6 g7 g8 hl2 hR5
                      go_wp2_with fail
                      refine (alikeall_any a5 (some ⟨gS, W * 31, none⟩) c5 (cS - W) ms2.length (k - W) ms2 (S.drop W) w9 rfl (by rw [List.length_drop, ← HK.out]) (by rw [HL2.out]; omega) (fun x hx => (HOK.out x.1 (List.mem_of_mem_drop (by rw [← HG6.out]; exact List.mem_map_of_mem hx))).1.1) (fun x hx => HSW2.out x (List.mem_of_mem_drop hx)) HO5.out.rd (HRDS.out.below HB9.out)).mono ?_
                      rintro e w10 ⟨b10, rfl, hb10, hbe10⟩
                      obtain rfl : b10 = true := hb10.2 (by rw [HG6.out, HT.out, List.map_drop])
                      have hfin : Below w.heap.size w w10 := HBEL.out.trans ((HW9.out.trans (hbe10.mono HW9.out.size)).mono HBEL.out.size)
                      clear hb10 hbe10
                      go_wp2
                      go_ret
                      exact ⟨rfl, hfin⟩
                · have hz2 : Bt < cA := by omega
                  by_cases hz3 : cS = W
                  · have HEMS : Hid (S.drop W = []) := Lib.hid (List.eq_nil_of_length_eq_zero (by rw [List.length_drop, ← HK.out]; omega))
                    have hz3' : W = cS := hz3.symm
                    subst hz3'
                    rcases hboth with ⟨rfl, heq⟩ | ⟨rfl, heq⟩
                    · go_wp2_with fail
                      refine (all_any (some ⟨gA, Bt, none⟩) (nA - Bt) (cA - Bt) ((flatF T).drop Bt) w8 HDL.out (by omega) (by omega) HRDD.out).mono ?_
                      rintro e w9 ⟨ms2, a5, c5, n5, er5, rfl, hR5, hO5, hb9⟩
                      rw [HDR.out] at hR5
                      obtain ⟨g6, g7, g8⟩ := all_cut _ _ _ _ _ (fun m hm => HOK.out m (List.mem_of_mem_drop hm)) (.inl rfl) hR5
                      obtain rfl : er5 = 0 := by
                        rcases g8 with ⟨_, g⟩ | ⟨g, _⟩
                        · exact g
                        · exact (g rfl).elim
                      obtain rfl : n5 = (nA - Bt) := by
                        have h9 := HDL.out
                        rw [HDR.out, List.append_nil] at h9
                        rw [g7, h9]
                      have hl2 : ms2.length = k - W := by
                        have h9 := congrArg List.length g6
                        rw [List.length_map, List.length_drop, HTL.out] at h9
                        exact h9
                      have HW9 : Hid (Below wo.heap.size wo w9) := Lib.hid (HW8.out.trans (hb9.mono HW8.out.size))
                      have HB9 := Lib.hid hb9
                      have HO5 := Lib.hid hO5
                      have HG6 := Lib.hid g6
                      have HL2 := Lib.hid hl2
                      clear hb9 hO5 g6 g7 g8 hl2 hR5
                      go_wp2_with fail
                      refine (alikeall_any a5 (some ⟨gS, 0, none⟩) c5 0 ms2.length 0 ms2 (S.drop W) w9 rfl (by rw [HEMS.out]; rfl) (by rw [HL2.out]; omega) (fun x hx => (HOK.out x.1 (List.mem_of_mem_drop (by rw [← HG6.out]; exact List.mem_map_of_mem hx))).1.1) (fun x hx => HSW2.out x (List.mem_of_mem_drop hx)) HO5.out.rd (by rw [HEMS.out]; exact ⟨.inl rfl, fun x hx => by simp at hx⟩)).mono ?_
                      rintro e w10 ⟨b10, rfl, hb10, hbe10⟩
                      obtain rfl : b10 = true := hb10.2 (by rw [HG6.out, HT.out, List.map_drop])
                      have hfin : Below w.heap.size w w10 := HBEL.out.trans ((HW9.out.trans (hbe10.mono HW9.out.size)).mono HBEL.out.size)
                      clear hb10 hbe10
                      go_wp2
                      go_ret
                      exact ⟨rfl, hfin⟩
                    · go_wp2_with fail
                      refine (all_any (some ⟨gA, Bt, none⟩) (nA - Bt) (cA - Bt) ((flatF T).drop Bt) w8 HDL.out (by omega) (by omega) HRDD.out).mono ?_
                      rintro e w9 ⟨ms2, a5, c5, n5, er5, rfl, hR5, hO5, hb9⟩
                      rw [HDR.out] at hR5
                      obtain ⟨g6, g7, g8⟩ := all_cut _ _ _ _ _ (fun m hm => HOK.out m (List.mem_of_mem_drop hm)) (.inl rfl) hR5
                      obtain rfl : er5 = 0 := by
                        rcases g8 with ⟨_, g⟩ | ⟨g, _⟩
                        · exact g
                        · exact (g rfl).elim
                      obtain rfl : n5 = (nA - Bt) := by
                        have h9 := HDL.out
                        rw [HDR.out, List.append_nil] at h9
                        rw [g7, h9]
                      have hl2 : ms2.length = k - W := by
                        have h9 := congrArg List.length g6
                        rw [List.length_map, List.length_drop, HTL.out] at h9
                        exact h9
                      have HW9 : Hid (Below wo.heap.size wo w9) := Lib.hid (HW8.out.trans (hb9.mono HW8.out.size))
                      have HB9 := Lib.hid hb9
                      have HO5 := Lib.hid hO5
                      have HG6 := Lib.hid g6
                      have HL2 := Lib.hid hl2
                      clear hb9 hO5 g6 g7 g8 hl2 hR5
                      go_wp2_with fail
                      refine (alikeall_any a5 (some ⟨gS, 0, none⟩) c5 0 ms2.length 0 ms2 (S.drop W) w9 rfl (by rw [HEMS.out]; rfl) (by rw [HL2.out]; omega) (fun x hx => (HOK.out x.1 (List.mem_of_mem_drop (by rw [← HG6.out]; exact List.mem_map_of_mem hx))).1.1) (fun x hx => HSW2.out x (List.mem_of_mem_drop hx)) HO5.out.rd (by rw [HEMS.out]; exact ⟨.inl rfl, fun x hx => by simp at hx⟩)).mono ?_
                      rintro e w10 ⟨b10, rfl, hb10, hbe10⟩
                      obtain rfl : b10 = true := hb10.2 (by rw [HG6.out, HT.out, List.map_drop])
                      have hfin : Below w.heap.size w w10 := HBEL.out.trans ((HW9.out.trans (hbe10.mono HW9.out.size)).mono HBEL.out.size)
                      clear hb10 hbe10
                      go_wp2
                      go_ret
                      exact ⟨rfl, hfin⟩
                  · have hz4 : W < cS := by omega
                    rcases hboth with ⟨rfl, heq⟩ | ⟨rfl, heq⟩
                    · go_wp2_with fail
                      refine (all_any (some ⟨gA, Bt, none⟩) (nA - Bt) (cA - Bt) ((flatF T).drop Bt) w8 HDL.out (by omega) (by omega) HRDD.out).mono ?_
                      rintro e w9 ⟨ms2, a5, c5, n5, er5, rfl, hR5, hO5, hb9⟩
                      rw [HDR.out] at hR5
                      obtain ⟨g6, g7, g8⟩ := all_cut _ _ _ _ _ (fun m hm => HOK.out m (List.mem_of_mem_drop hm)) (.inl rfl) hR5
                      obtain rfl : er5 = 0 := by
                        rcases g8 with ⟨_, g⟩ | ⟨g, _⟩
                        · exact g
                        · exact (g rfl).elim
                      obtain rfl : n5 = (nA - Bt) := by
                        have h9 := HDL.out
                        rw [HDR.out, List.append_nil] at h9
                        rw [g7, h9]
                      have hl2 : ms2.length = k - W := by
                        have h9 := congrArg List.length g6
                        rw [List.length_map, List.length_drop, HTL.out] at h9
                        exact h9
                      have HW9 : Hid (Below wo.heap.size wo w9) := Lib.hid (HW8.out.trans (hb9.mono HW8.out.size))
                      have HB9 := Lib.hid hb9
                      have HO5 := Lib.hid hO5
                      have HG6 := Lib.hid g6
                      have HL2 := Lib.hid hl2
                      clear hb9 hO5 g6 g7 g8 hl2 hR5
                      go_wp2_with fail
                      refine (alikeall_any a5 (some ⟨gS, W * 31, none⟩) c5 (cS - W) ms2.length (k - W) ms2 (S.drop W) w9 rfl (by rw [List.length_drop, ← HK.out]) (by rw [HL2.out]; omega) (fun x hx => (HOK.out x.1 (List.mem_of_mem_drop (by rw [← HG6.out]; exact List.mem_map_of_mem hx))).1.1) (fun x hx => HSW2.out x (List.mem_of_mem_drop hx)) HO5.out.rd (HRDS.out.below HB9.out)).mono ?_
                      rintro e w10 ⟨b10, rfl, hb10, hbe10⟩
                      obtain rfl : b10 = true := hb10.2 (by rw [HG6.out, HT.out, List.map_drop])
                      have hfin : Below w.heap.size w w10 := HBEL.out.trans ((HW9.out.trans (hbe10.mono HW9.out.size)).mono HBEL.out.size)
                      clear hb10 hbe10
                      go_wp2
                      go_ret
                      exact ⟨rfl, hfin⟩
                    · go_wp2_with fail
                      refine (all_any (some ⟨gA, Bt, none⟩) (nA - Bt) (cA - Bt) ((flatF T).drop Bt) w8 HDL.out (by omega) (by omega) HRDD.out).mono ?_
                      rintro e w9 ⟨ms2, a5, c5, n5, er5, rfl, hR5, hO5, hb9⟩
                      rw [HDR.out] at hR5
                      obtain ⟨g6, g7, g8⟩ := all_cut _ _ _ _ _ (fun m hm => HOK.out m (List.mem_of_mem_drop hm)) (.inl rfl) hR5
                      obtain rfl : er5 = 0 := by
                        rcases g8 with ⟨_, g⟩ | ⟨g, _⟩
                        · exact g
                        · exact (g rfl).elim
                      obtain rfl : n5 = (nA - Bt) := by
                        have h9 := HDL.out
                        rw [HDR.out, List.append_nil] at h9
                        rw [g7, h9]
                      have hl2 : ms2.length = k - W := by
                        have h9 := congrArg List.length g6
                        rw [List.length_map, List.length_drop, HTL.out] at h9
                        exact h9
                      have HW9 : Hid (Below wo.heap.size wo w9) := Lib.hid (HW8.out.trans (hb9.mono HW8.out.size))
                      have HB9 := Lib.hid hb9
                      have HO5 := Lib.hid hO5
                      have HG6 := Lib.hid g6
                      have HL2 := Lib.hid hl2
                      clear hb9 hO5 g6 g7 g8 hl2 hR5
                      go_wp2_with fail
                      refine (alikeall_any a5 (some ⟨gS, W * 31, none⟩) c5 (cS - W) ms2.length (k - W) ms2 (S.drop W) w9 rfl (by rw [List.length_drop, ← HK.out]) (by rw [HL2.out]; omega) (fun x hx => (HOK.out x.1 (List.mem_of_mem_drop (by rw [← HG6.out]; exact List.mem_map_of_mem hx))).1.1) (fun x hx => HSW2.out x (List.mem_of_mem_drop hx)) HO5.out.rd (HRDS.out.below HB9.out)).mono ?_
                      rintro e w10 ⟨b10, rfl, hb10, hbe10⟩
                      obtain rfl : b10 = true := hb10.2 (by rw [HG6.out, HT.out, List.map_drop])
                      have hfin : Below w.heap.size w w10 := HBEL.out.trans ((HW9.out.trans (hbe10.mono HW9.out.size)).mono HBEL.out.size)
                      clear hb10 hbe10
                      go_wp2
                      go_ret
                      exact ⟨rfl, hfin⟩
#print axioms stream_walk
end Go.Proofs.Ytaipnbpefdcejaa
