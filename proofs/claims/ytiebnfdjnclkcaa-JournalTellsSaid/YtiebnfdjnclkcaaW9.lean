/- The walk of written. -/
import Derived.Test.YtiebnfdjnclkcaaW8
set_option linter.unusedVariables false
namespace Go.Proofs.Ytiebnfdjnclkcaa
open Go.RowKit

theorem results_tmp4 {fn : Func} {t u v z : Tmp} (h : fn.results = #[.tmp t, .tmp u, .tmp v, .tmp z]) (tmps : Array Value) (P : Program) (w : World) :
    (results fn tmps).run P w = .ok (.tuple #[tmps.getD t undef, tmps.getD u undef, tmps.getD v undef, tmps.getD z undef]) w := by
  simp [results, h]
/-- 'append(s, x)' of one int. -/
theorem app_i1 (w : World) {ops : Array Oper} {rest : List Oper} {o : Oper} {a : Act} {Q : Exit → Act → World → Prop} (hgd : o.guard = none) (s x : Operand)
    (ho : o.op = .call { callee := .builtin .append, args := #[s, x], argTypes := #[38, 38] }) (base : Nat) (v : Value) (n : Nat) (es : List Nat) (hs : a.eval s = v) (hown : w.ownsRow base 3 1 v n (es.map I))
    (y : Value) (k : Nat) (hy : y = I k) (hx : a.eval x = .slice (some ⟨w.heap.size, 0, none⟩) 1 1) (hb : (n + 1) * 8 ≤ 140737488355328) (hbase : base ≤ w.heap.size)
    (h : ∀ a' c' w', w'.ownsRow base 3 1 (.slice a' (n + 1) c') (n + 1) ((es ++ [k]).map I) → Below base w w' → Moved (w.alloc (.cells #[y] 3)) w' v (.slice a' (n + 1) c') →
      wpList Try.prog ops Q rest (a.put o.dst (.slice a' (n + 1) c')) w') : wpList Try.prog ops Q (o :: rest) a (w.alloc (.cells #[y] 3)) := by
  subst hy
  obtain ⟨i0, hi, hz0, hz1, hz2⟩ := info_parts info3
  refine wpList_append_one w hgd s x 38 ho base 3 i0 (.int .i64 0) 1 8 Try.underlying38 hi hz0 hz1 hz2 rfl (by decide) v n _ _ hs hown hx rfl (by intro z hz; simp at hz; subst hz; rfl) (by unfold maxLen; omega) (by omega) hbase ?_
  intro a' c' w' h1 h2 h3
  exact h a' c' w' (by simpa using h1) h2 h3

/-- The slices that read as the records, wherever these lie. -/
def KeptAt (w : World) (vs : List Value) (ks : List (List UInt8)) : Prop :=
  vs.length = ks.length ∧ ∀ (i : Nat) (h : i < ks.length), ∃ b c, vs[i]? = some (.slice b ks[i].length c) ∧ Rd w b (ks[i].map B)
theorem KeptAt.nil (w : World) : KeptAt w [] [] := ⟨rfl, fun i h => by simp at h⟩
theorem KeptAt.below {w w' : World} {vs : List Value} {ks : List (List UInt8)} (h : KeptAt w vs ks) (hb : Below w.heap.size w w') : KeptAt w' vs ks :=
  ⟨h.1, fun i hi => by obtain ⟨a, c, h1, h2⟩ := h.2 i hi; exact ⟨a, c, h1, h2.below hb⟩⟩
theorem KeptAt.snoc {w : World} {vs : List Value} {rs : List (List UInt8)} (h : KeptAt w vs rs) {a : Option Addr} {c : Nat} {r : List UInt8} (hr : Rd w a (r.map B)) :
    KeptAt w (vs ++ [.slice a r.length c]) (rs ++ [r]) := by
  refine ⟨by simp [h.1], fun i hi => ?_⟩
  by_cases hlt : i < rs.length
  · obtain ⟨a', c', h1, h2⟩ := h.2 i hlt
    refine ⟨a', c', ?_, ?_⟩
    · rw [List.getElem?_append_left (by rw [h.1]; exact hlt)]
      simpa [List.getElem_append_left hlt] using h1
    · simpa [List.getElem_append_left hlt] using h2
  · have hi' : i = rs.length := by simp at hi; omega
    subst hi'
    refine ⟨a, c, ?_, ?_⟩
    · rw [List.getElem?_append_right (by rw [h.1]; exact Nat.le_refl _), h.1]
      simp
    · simpa using hr
theorem KeptAt.rdR {w : World} {vs : List Value} {rs : List (List UInt8)} {a : Option Addr} {c base : Nat} (h : KeptAt w vs rs) (ho : w.ownsRow base 22 1 (.slice a rs.length c) rs.length vs) : RdR w a rs :=
  ⟨vs, h.1, ownsRow_rd ho, fun i hi => by obtain ⟨b, c, h1, h2⟩ := h.2 i hi; exact ⟨b, c, h1, h2⟩⟩

theorem own_capn {w : World} {base e size n m : Nat} {a : Option Addr} {c : Nat} {xs : List Value} (h : w.ownsRow base e size (.slice a n c) m xs) : n ≤ c := by
  rcases h.2 with ⟨h1, _⟩ | ⟨g, cap, cur, h1, _, _, hle, _⟩
  · cases h1; exact Nat.le_refl _
  · cases h1; exact hle

/-- What written answers. -/
def WritPost (rs : List (List UInt8)) (w : World) (e : Ending) (w' : World) : Prop :=
  ∃ (a1 : Option Addr) (c1 : Nat) (vs : List Value) (a2 : Option Addr) (c2 : Nat) (a3 : Option Addr) (c3 : Nat),
    e = .returned (.tuple #[.slice a1 (keep rs).length c1, .slice a2 (logOf (keep rs)).length c2, .slice a3 (keep rs).length c3, .bool true]) ∧
    w'.ownsRow w.heap.size 22 1 (.slice a1 (keep rs).length c1) (keep rs).length vs ∧ KeptAt w' vs (keep rs) ∧
    w'.ownsRow w.heap.size 5 1 (.slice a2 (logOf (keep rs)).length c2) (logOf (keep rs)).length ((logOf (keep rs)).map B) ∧
    w'.ownsRow w.heap.size 3 1 (.slice a3 (keep rs).length c3) (keep rs).length ((endsOf (keep rs)).map I) ∧ Below w.heap.size w w'

set_option maxHeartbeats 1000000 in
theorem written_any (a : Option Addr) (cap n : Nat) (rs : List (List UInt8)) (w : World) (hn : rs.length = n) (hB : logBound rs ≤ 2147483647) (h : RdR w a rs) :
    Calls Try.prog 24 #[.slice a n cap] w (WritPost rs w) := by
  have HN := Lib.hid hn
  have HB := Lib.hid hB
  have hnB : n ≤ 2147483647 := by have := logBound_len rs; omega
  clear hn hB
  go_enter Try.func24, Try.ntmps24
  go_wp2
  go_loopw [6, 7, 8, 9] (fun v1 v2 v3 i wr => ∃ (k : Nat) (ks : List (List UInt8)) (a1 : Option Addr) (c1 : Nat) (vs : List Value) (a2 : Option Addr) (c2 : Nat) (a3 : Option Addr) (c3 : Nat), k ≤ n ∧ ks = keep (rs.take k) ∧
    v1 = .slice a1 ks.length c1 ∧ v2 = .slice a2 (logOf ks).length c2 ∧ v3 = .slice a3 ks.length c3 ∧ i = .int .i64 (k : Int) ∧
    wr.ownsRow w.heap.size 22 1 v1 ks.length vs ∧ KeptAt w vs ks ∧ wr.ownsRow w.heap.size 5 1 v2 (logOf ks).length ((logOf ks).map B) ∧ wr.ownsRow w.heap.size 3 1 v3 ks.length ((endsOf ks).map I) ∧ Below w.heap.size w wr)
    (fun _ _ _ i _ => n - (intOf i).toNat)
  case atStart => exact ⟨0, [], none, 0, [], none, 0, none, 0, Nat.zero_le _, rfl, rfl, rfl, rfl, rfl, World.ownsRow_nil _ _ _ _, KeptAt.nil _, World.ownsRow_nil _ _ _ _, World.ownsRow_nil _ _ _ _, Below.refl _ _⟩
  case round =>
    obtain ⟨k, ks, a1, c1, vs, a2, c2, a3, c3, hk, hks, rfl, rfl, rfl, rfl, hown1, hkept, hown2, hown3, hbel⟩ := hrel
    by_cases hlt : k < n
    · have hkl : k < rs.length := by rw [HN.out]; exact hlt
      obtain ⟨bb, off, b1, cc1, rfl, hc1w, hr0⟩ := h.at k hkl
      have hc1 := (hbel.cell (p := ⟨bb, off + k, none⟩) (World.block_lt_of_cell? w _ hc1w)).trans hc1w
      have hr1 := hr0.below hbel
      have hlt' : (k : Int) < n := by omega
      have htk : rs.take (k + 1) = rs.take k ++ [rs[k]] := take_snoc rs k hkl
      have hbd : logBound (rs.take (k + 1)) ≤ 2147483647 := Nat.le_trans (logBound_take rs (k + 1)) HB.out
      have hbk : (logOf ks).length ≤ logBound (rs.take k) := by rw [hks]; exact logBound_keep _
      have hbM : 25 * ks.length ≤ logBound (rs.take k) := by
        rw [hks]; exact Nat.le_trans (Nat.mul_le_mul_left 25 (keep_len _)) (logBound_len _)
      rw [htk, logBound_snoc] at hbd
      obtain ⟨r, hr⟩ : ∃ r, r = rs[k] := ⟨_, rfl⟩
      rw [← hr] at hc1w hc1 hr1 htk hbd hr0
      have HRD := Lib.hid hr0
      obtain ⟨L, hL⟩ : ∃ L, L = (logOf ks).length := ⟨_, rfl⟩
      obtain ⟨M, hM⟩ : ∃ M, M = ks.length := ⟨_, rfl⟩
      have hsz : L + r.length ≤ 2147483647 ∧ M ≤ 2147483647 := by omega
      rw [← hL] at hown2 ⊢
      rw [← hM] at hown1 hown3 ⊢
      have HL := Lib.hid hL
      have HM := Lib.hid hM
      have HT := Lib.hid htk
      have HK := Lib.hid hks
      have hs := hbel.size
      clear hL hM htk hks hbd hbk hbM hr hkl hr0 hc1w
      have hb1 := World.block_lt_of_cell? wr _ hc1
      by_cases hr0 : r = []
      · subst hr0
        have hT : keep (rs.take (k + 1)) = ks := by rw [HT.out, keep_snoc_nil]; exact HK.out.symm
        have HT2 := Lib.hid hT
        clear hT
        rw [show ([] : List UInt8).length = 0 from rfl] at hc1
        go_wp2_with fail
        refine (append_none a2 b1 c2 cc1 L wr (by omega)).mono ?_
        rintro e w1 ⟨rfl, rfl⟩
        go_wp2
        go_roundw
        case rel => exact ⟨k + 1, ks, a1, c1, vs, a2, c2, a3, c3, by omega, HT2.out.symm, by rw [HM.out], by rw [HL.out], by rw [HM.out], by go_num, by rw [← HM.out]; exact hown1, hkept, by rw [← HL.out]; exact hown2, by rw [← HM.out]; exact hown3, hbel⟩
        case measure => simp [intOf]; omega
      · have hT : keep (rs.take (k + 1)) = ks ++ [r] := by rw [HT.out, keep_snoc _ _ hr0, HK.out]
        have HT2 := Lib.hid hT
        have hpos := len_pos hr0
        clear hT
        obtain ⟨x, hx⟩ : ∃ x, r.length = x := ⟨_, rfl⟩
        rw [hx] at hc1 hsz hpos
        have HX := Lib.hid hx
        have HR0 := Lib.hid hr0
        have hxz : ((x : Int) == 0) = false := eql_of' (by omega)
        have hxn : ((((L + 25 + x : Nat) : Int)) != ((L : Int) + 25 + x)) = false := neq_of (by omega)
        have hrl := ownsRow_rd hown2
        clear hx hr0
        go_wp2_with fail
        refine (append_some a2 b1 c2 cc1 L x (logOf ks) r wr HL.out.symm HX.out (by omega) (by omega) hpos hrl hr1).mono ?_
        rintro e w1 ⟨a4, c4, rfl, hown4, hb4⟩
        have hc14 := (hb4.cell (p := ⟨bb, off + k, none⟩) hb1).trans hc1
        have hr14 := hr1.below hb4
        have hs1 := hb4.size
        have hbel4 := hbel.trans (hb4.mono hs)
        have hown14 := ownsRow_below hown1 hb4
        have hown24 := ownsRow_below hown2 hb4
        have hown34 := ownsRow_below hown3 hb4
        clear hc1 hr1 hown1 hown2 hown3 hrl
        have hcl := own_capn hown4
        have hsl := slice_to a4 (L + 25 + x) c4 L (by omega)
        have hrl4 := ownsRow_rd hown24
        have hrt4 : Rd w1 a4 ((logOf ks).map B) := by
          have := (ownsRow_rd hown4).take L
          rw [← List.map_take, appB, HL.out, List.take_left] at this
          exact this
        go_wp2_with fail
        refine (same_n a4 a2 c4 c2 L L (logOf ks) (logOf ks) w1 HL.out.symm HL.out.symm (by omega) hrt4 hrl4).mono ?_
        rintro e w2 ⟨rfl, hb2⟩
        have hb1' : bb < w1.heap.size := by omega
        have hc2 := (hb2.cell (p := ⟨bb, off + k, none⟩) hb1').trans hc14
        have hr2 := hr14.below hb2
        have hs2 := hb2.size
        have hbel2 := hbel4.trans (hb2.mono (Nat.le_trans hs hs1))
        have hown12 := ownsRow_below hown14 hb2
        have hown22 := ownsRow_base (ownsRow_below hown4 hb2) hs
        have hown32 := ownsRow_below hown34 hb2
        clear hc14 hr14 hown14 hown4 hown24 hown34 hrl4 hrt4 hsl hcl
        rw [show (logOf ks == logOf ks) = true from by simp]
        go_wp2_with (first | (at_builtin; refine app_s1 w2 rfl _ _ rfl w.heap.size (.slice a1 M c1) M vs rfl hown12 b1 x cc1 rfl (by omega) (by omega) ?_; intro a5 c5 w3 hown13 hbel13 hmv13; have hown33 := hmv13.kept (hown32.alloc _) (own_ne hown32 hown12 (by decide))) |
          (at_builtin; refine app_i1 w3 rfl (.tmp 73) (.tmp 76) rfl w.heap.size (.slice a3 M c3) M (endsOf ks) rfl hown33 (.int .i64 ((L : Int) + 25 + x)) (L + 25 + x) (by unfold I; go_num) rfl (by omega) (by have := hbel13.size; omega) ?_; intro a6 c6 w4 hown34 hbel34 hmv34) | fail)
        have hL2 : (logOf (ks ++ [r])).length = L + 25 + x := by rw [logOf_snoc, List.length_append, recB_len, HX.out, HL.out]; omega
        have hAp : appB (logOf ks) r = logOf (ks ++ [r]) := by rw [logOf_snoc]; rfl
        have hEn : endsOf ks ++ [L + 25 + x] = endsOf (ks ++ [r]) := by rw [endsOf_snoc, hL2]
        rw [hAp] at hown22
        rw [hEn] at hown34
        have hM2 : (ks ++ [r]).length = M + 1 := by rw [List.length_append, HM.out]; rfl
        have hkept5 : KeptAt w (vs ++ [.slice b1 x cc1]) (ks ++ [r]) := by
          have := hkept.snoc (c := cc1) HRD.out
          rw [HX.out] at this
          exact this
        have hown14 := hmv34.kept (hown13.alloc _) (own_ne hown13 hown33 (by decide))
        have hown23 := hmv13.kept (hown22.alloc _) (own_ne hown22 hown12 (by decide))
        have hown24 := hmv34.kept (hown23.alloc _) (own_ne hown23 hown33 (by decide))
        have hbel5 : Below w.heap.size w w4 := hbel2.trans (hbel13.trans hbel34)
        have HO1 := Lib.hid hown14
        have HO2 := Lib.hid hown24
        have HO3 := Lib.hid hown34
        have HB5 := Lib.hid hbel5
        have HK5 := Lib.hid hkept5
        have HLL := Lib.hid hL2
        have HMM := Lib.hid hM2
        clear hown14 hown24 hown34 hown13 hown23 hown22 hown33 hown12 hown32 hmv13 hmv34 hbel13 hbel34 hbel5 hkept5 hL2 hM2 hAp hEn hkept
        go_wp2
        go_roundw
        case rel =>
          refine ⟨k + 1, ks ++ [r], a5, c5, vs ++ [.slice b1 x cc1], a4, c4, a6, c6, by omega, HT2.out.symm, by rw [HMM.out], by rw [HLL.out], by rw [HMM.out], by go_num, ?_, HK5.out, ?_, ?_, HB5.out⟩
          · rw [HMM.out]; exact HO1.out
          · rw [HLL.out]; exact HO2.out
          · rw [HMM.out]; exact HO3.out
        case measure => simp [intOf]; omega
    · have hge : ¬ (k : Int) < n := by omega
      have hke : ks = keep rs := by rw [hks, List.take_of_length_le (by rw [HN.out]; omega)]
      subst hke
      clear hks
      go_wp2
      try simp only [Exit.inBlock, Exit.then]
      refine bodyPost_ret (results_tmp4 rfl _ _ _) rfl ?_
      exact ⟨a1, c1, vs, a2, c2, a3, c3, rfl, hown1, hkept.below hbel, hown2, hown3, hbel⟩
end Go.Proofs.Ytiebnfdjnclkcaa
