/- The walks of Scan and of the reference's Scan. -/
import Derived.Test.YtiebnfdjnclkcaaW5
set_option linter.unusedVariables false
namespace Go.Proofs.Ytiebnfdjnclkcaa
open Go.RowKit
theorem info22 : (Try.prog.info? 22).map (fun i => (i.zero, i.size, i.bytes)) = some (some (.slice none 0 0), 1, 24) := by kernel_rfl
theorem size5 : (sizeOf (Try.prog.elem 22) : Sem Nat) = sizeOf 5 := rfl

/-- 's[at:]' of a slice of bytes. -/
theorem slice_from (a : Option Addr) (n cap k : Nat) (hk : k ≤ n) (hcap : n ≤ cap) :
    ∃ a2, (∀ W, (Instr.slice 22 (.slice a n cap) (some (.int .i64 (k : Int))) none none).run Try.prog W = .ok (.slice a2 (n - k) (cap - k)) W) ∧
      (∀ (W : World) (vs : List Value), vs.length = n → Rd W a vs → Rd W a2 (vs.drop k)) := by
  obtain ⟨i0, hi, hz0, hz1, hz2⟩ := info_parts info5
  refine ⟨if cap = k then a else a.map (·.add (k * 1)), fun W => ?_, fun W vs hv hr => ?_⟩
  · rw [run_slice_l (P := Try.prog) W 22 a n cap Try.underlying22 .i64 k (by omega) (by omega)]
    have : (sizeOf (Try.prog.elem 22)).run Try.prog W = .ok 1 W := by
      show (sizeOf 5).run Try.prog W = _
      simp [sizeOf, typeInfo, hi, hz1]
    simp [this, Result.andThen, sliced]
  · by_cases hlt : k < n
    · have h1 := hr.sub k n (by omega) (if cap = k then a else a.map (·.add (k * 1))) (fun _ => by rw [if_neg (by omega)])
      rw [List.take_of_length_le (by omega)] at h1
      exact h1
    · rw [List.drop_eq_nil_of_le (by omega)]
      exact Rd.nil _ _

/-- 's[:k]' of a slice of bytes. -/
theorem slice_to (a : Option Addr) (n cap k : Nat) (hk : k ≤ cap) :
    (∀ W, (Instr.slice 22 (.slice a n cap) none (some (.int .i64 (k : Int))) none).run Try.prog W = .ok (.slice a k cap) W) := by
  obtain ⟨i0, hi, hz0, hz1, hz2⟩ := info_parts info5
  intro W
  rw [run_slice_h (P := Try.prog) W 22 a n cap Try.underlying22 .i64 k (by omega) (by omega)]
  have : (sizeOf (Try.prog.elem 22)).run Try.prog W = .ok 1 W := by
    show (sizeOf 5).run Try.prog W = _
    simp [sizeOf, typeInfo, hi, hz1]
  have e : ∀ x : Option Addr, x.map (·.add (0 * 1)) = x := by
    intro x; cases x <;> simp [Addr.add]
  simp [this, Result.andThen, sliced]
  intro _
  cases a <;> simp [Addr.add]

/-- The records that lie behind the slices 'vs', each in a row of the call's own. -/
def RecsAt (w : World) (base : Nat) (vs : List Value) (rs : List (List UInt8)) : Prop :=
  vs.length = rs.length ∧ ∀ (i : Nat) (h : i < rs.length), ∃ a c, vs[i]? = some (.slice a rs[i].length c) ∧ w.ownsRow base 5 1 (.slice a rs[i].length c) rs[i].length (rs[i].map B)
/-- No two share a block. -/
def Distinct (vs : List Value) : Prop := vs.Pairwise (fun u v => u.ownBlock ≠ v.ownBlock)

theorem RecsAt.nil (w : World) (base : Nat) : RecsAt w base [] [] := ⟨rfl, fun i h => by simp at h⟩
theorem RecsAt.below {w w' : World} {base : Nat} {vs : List Value} {rs : List (List UInt8)} (h : RecsAt w base vs rs) (hb : Below w.heap.size w w') : RecsAt w' base vs rs :=
  ⟨h.1, fun i hi => by obtain ⟨a, c, h1, h2⟩ := h.2 i hi; exact ⟨a, c, h1, ownsRow_below h2 hb⟩⟩
theorem RecsAt.alloc {w : World} {base : Nat} {vs : List Value} {rs : List (List UInt8)} (h : RecsAt w base vs rs) (o : Obj) : RecsAt (w.alloc o) base vs rs :=
  ⟨h.1, fun i hi => by obtain ⟨a, c, h1, h2⟩ := h.2 i hi; exact ⟨a, c, h1, h2.alloc o⟩⟩

theorem own_ne {w : World} {b1 b2 e1 e2 s1 s2 n1 n2 : Nat} {u v : Value} {xs ys : List Value} (h1 : w.ownsRow b1 e1 s1 u n1 xs) (h2 : w.ownsRow b2 e2 s2 v n2 ys) (hne : e1 ≠ e2) : u.ownBlock = none ∨ u.ownBlock ≠ v.ownBlock := by
  rcases h1.2 with ⟨rfl, _⟩ | ⟨g, cap, cur, rfl, _, hg, _⟩
  · exact .inl rfl
  · right
    rcases h2.2 with ⟨rfl, _⟩ | ⟨g2, cap2, cur2, rfl, _, hg2, _⟩
    · simp [Value.ownBlock]
    · simp only [Value.ownBlock, ne_eq, Option.some.injEq]
      intro h
      subst h
      rw [hg] at hg2
      simp at hg2
      exact hne hg2.2

theorem RecsAt.moved {w w' : World} {base b2 s2 n2 : Nat} {v v' : Value} {xs : List Value} {vs : List Value} {rs : List (List UInt8)} (h : RecsAt w base vs rs) (hv : w.ownsRow b2 22 s2 v n2 xs) (hm : Moved w w' v v') : RecsAt w' base vs rs :=
  ⟨h.1, fun i hi => by obtain ⟨a, c, h1, h2⟩ := h.2 i hi; exact ⟨a, c, h1, hm.kept h2 (own_ne h2 hv (by decide))⟩⟩

theorem RecsAt.snoc {w : World} {base : Nat} {vs : List Value} {rs : List (List UInt8)} (h : RecsAt w base vs rs) {a : Option Addr} {c : Nat} {r : List UInt8} (hr : w.ownsRow base 5 1 (.slice a r.length c) r.length (r.map B)) :
    RecsAt w base (vs ++ [.slice a r.length c]) (rs ++ [r]) := by
  refine ⟨by simp [h.1], fun i hi => ?_⟩
  by_cases hlt : i < rs.length
  · obtain ⟨a', c', h1, h2⟩ := h.2 i hlt
    refine ⟨a', c', ?_, ?_⟩
    · rw [List.getElem?_append_left (by rw [h.1]; exact hlt)]
      simpa [List.getElem_append_left hlt] using h1
    · simpa [List.getElem_append_left hlt] using h2
  · have hi' : i = rs.length := by simp at hi; omega
    subst hi'
    refine ⟨a, c, ?_, ?_⟩
    · rw [List.getElem?_append_right (by rw [h.1]; exact Nat.le_refl _), h.1]
      simp
    · simpa using hr

theorem RecsAt.lt {w : World} {base : Nat} {vs : List Value} {rs : List (List UInt8)} (h : RecsAt w base vs rs) {u : Value} (hu : u ∈ vs) : ∀ k, u.ownBlock = some k → base ≤ k ∧ k < w.heap.size := by
  obtain ⟨i, hi, rfl⟩ := List.mem_iff_getElem.1 hu
  have hi' : i < rs.length := by rw [← h.1]; exact hi
  obtain ⟨a, c, h1, h2⟩ := h.2 i hi'
  rw [List.getElem?_eq_getElem hi] at h1
  have h3 := Option.some.inj h1
  intro k hk
  rw [h3] at hk
  exact h2.lt k hk

/-- The answer of a Scan. -/
def ScanPost (l : List UInt8) (w : World) (e : Ending) (w' : World) : Prop :=
  ∃ (a : Option Addr) (c : Nat) (vs : List Value) (rs : List (List UInt8)) (k : Nat), e = .returned (.tuple #[.slice a rs.length c, .int .i64 (k : Int)]) ∧ w'.ownsRow w.heap.size 22 1 (.slice a rs.length c) rs.length vs ∧ RecsAt w' w.heap.size vs rs ∧ Distinct vs ∧
    ScanIs l rs k ∧ Below w.heap.size w w'

theorem distinct_snoc {w : World} {base : Nat} {vs : List Value} {rs : List (List UInt8)} (h : Distinct vs) (hr : RecsAt w base vs rs) {v : Value} {B : Nat} (hB : w.heap.size ≤ B) (hv : v.ownBlock ≠ none) (hk : ∀ k, v.ownBlock = some k → B ≤ k) : Distinct (vs ++ [v]) := by
  refine List.pairwise_append.2 ⟨h, by simp, fun u hu x hx => ?_⟩
  simp only [List.mem_singleton] at hx
  subst hx
  intro he
  cases hb : x.ownBlock with
  | none => exact hv hb
  | some k =>
    have h1 := hk k hb
    have h2 := (hr.lt hu k (he.trans hb)).2
    omega

/-- 'append(s, x)' of one slice of bytes. -/
theorem app_s1 (w : World) {ops : Array Oper} {rest : List Oper} {o : Oper} {a : Act} {Q : Exit → Act → World → Prop} (hgd : o.guard = none) (s x : Operand)
    (ho : o.op = .call { callee := .builtin .append, args := #[s, x], argTypes := #[32, 32] }) (base : Nat) (v : Value) (n : Nat) (vs : List Value) (hs : a.eval s = v) (hown : w.ownsRow base 22 1 v n vs)
    (b : Option Addr) (k c : Nat) (hx : a.eval x = .slice (some ⟨w.heap.size, 0, none⟩) 1 1) (hb : (n + 1) * 24 ≤ 140737488355328) (hbase : base ≤ w.heap.size)
    (h : ∀ a' c' w', w'.ownsRow base 22 1 (.slice a' (n + 1) c') (n + 1) (vs ++ [.slice b k c]) → Below base w w' → Moved (w.alloc (.cells #[.slice b k c] 22)) w' v (.slice a' (n + 1) c') →
      wpList Try.prog ops Q rest (a.put o.dst (.slice a' (n + 1) c')) w') : wpList Try.prog ops Q (o :: rest) a (w.alloc (.cells #[.slice b k c] 22)) := by
  obtain ⟨i0, hi, hz0, hz1, hz2⟩ := info_parts info22
  refine wpList_append_one w hgd s x 32 ho base 22 i0 (.slice none 0 0) 1 24 Try.underlying32 hi hz0 hz1 hz2 rfl (by decide) v n _ _ hs hown hx rfl (by intro z hz; simp at hz; subst hz; rfl) (by unfold maxLen; omega) hb hbase ?_
  intro a' c' w' h1 h2 h3
  exact h a' c' w' h1 h2 h3

/-- The answer of next. -/
def NextPost (l : List UInt8) (w : World) (e : Ending) (w' : World) : Prop :=
  ∃ (ra : Option Addr) (rn rc : Nat), e = .returned (.tuple #[.slice ra rn rc, .bool (standB l).isSome]) ∧ (∀ r, standB l = some r → rn = r.length ∧ Rd w' ra (r.map B)) ∧ Below w.heap.size w w'
theorem next_any (a : Option Addr) (cap n : Nat) (l : List UInt8) (w : World) (hn : l.length = n) (hcap : n ≤ cap) (hmax : n ≤ 140737488355328) (h : Rd w a (l.map B)) :
    Calls Try.prog 32 #[.slice a n cap] w (NextPost l w) := by
  by_cases h25 : n ≤ 25
  · have hs := standB_short l (by omega)
    refine (next_short a cap n l w hn h25).mono fun e w' ⟨he, hw⟩ => ?_
    subst he; subst hw
    exact ⟨none, 0, 0, by rw [hs]; rfl, (fun r hr => by rw [hs] at hr; cases hr), Below.refl _ _⟩
  · exact (next_long a cap n l w hn (by omega) hcap hmax h).mono fun e w' ⟨ra, rn, rc, h1, h2, h3⟩ => ⟨ra, rn, rc, h1, fun r hr => ⟨(h2 r hr).1, (h2 r hr).2.2⟩, h3⟩

set_option maxHeartbeats 1000000 in
theorem scan_any (a : Option Addr) (cap n : Nat) (l : List UInt8) (w : World) (hn : l.length = n) (hcap : n ≤ cap) (hmax : n ≤ 140737488355328) (h : Rd w a (l.map B)) :
    Calls Try.prog 17 #[.slice a n cap] w (ScanPost l w) := by
  have HN := Lib.hid hn
  obtain ⟨j0, hj, hjz0, hjz1, hjz2⟩ := info_parts info22
  clear hn
  go_enter Try.func17, Try.ntmps17
  go_wp2
  go_loopw [4, 5, 6, 7] (fun v i _x _y wr => ∃ (a' : Option Addr) (c : Nat) (vs : List Value) (rs : List (List UInt8)) (rest : List UInt8), v = .slice a' rs.length c ∧ i = .int .i64 ((logOf rs).length : Int) ∧ wr.ownsRow w.heap.size 22 1 v rs.length vs ∧ RecsAt wr w.heap.size vs rs ∧
    Distinct vs ∧ l = logOf rs ++ rest ∧ (∀ r ∈ rs, r ≠ []) ∧ Below w.heap.size w wr) (fun _ i _ _ _ => n - (intOf i).toNat)
  case atStart => exact ⟨none, 0, [], [], l, rfl, rfl, World.ownsRow_nil _ _ _ _, RecsAt.nil _ _, List.Pairwise.nil, rfl, (fun r hr => by cases hr), Below.refl _ _⟩
  case round =>
    obtain ⟨a', c, vs, rs, rest, rfl, rfl, hown, hrecs, hdis, hl, hne, hbel⟩ := hrel
    obtain ⟨k, hk⟩ : ∃ k, k = (logOf rs).length := ⟨_, rfl⟩
    have hkn : k + rest.length = n := by have := HN.out; rw [hl, List.length_append] at this; omega
    obtain ⟨a2, hsl, hsr⟩ := slice_from a n cap k (by omega) hcap
    have hrest : l.drop k = rest := by rw [hl, hk, List.drop_left]
    have hrd : Rd wr a2 (rest.map B) := by
      have := hsr wr (l.map B) (by rw [List.length_map, HN.out]) (h.below hbel)
      rw [← List.map_drop, hrest] at this
      exact this
    rw [← hk]
    have HK := Lib.hid hk
    have HKN := Lib.hid hkn
    have HL := Lib.hid hl
    have HOWN := Lib.hid hown
    have HRECS := Lib.hid hrecs
    have HNE := Lib.hid hne
    have hs := hbel.size
    clear hk hl hown hrecs hne hrest hsr
    have hkle : (k : Int) ≤ n := by omega
    go_wp2_with fail
    refine (next_any a2 (cap - k) (n - k) rest wr (by omega) (by omega) (by omega) hrd).mono ?_
    rintro e w1 ⟨ra, rn, rc, rfl, hr, hb1⟩
    have hbel1 := hbel.trans (hb1.mono hs)
    have hs1 := hbel1.size
    have hown1 := ownsRow_below HOWN.out hb1
    have hrecs1 := HRECS.out.below hb1
    clear hsl hrd hbel
    cases hst : standB rest with
    | none =>
      have HST := Lib.hid hst
      rw [hst] at hr
      clear hst hr
      rw [Option.isSome_none]
      go_wp2
      go_ret2
      exact ⟨a', c, vs, rs, k, rfl, hown1, hrecs1, hdis, ⟨HK.out, rest, HL.out, HNE.out, HST.out⟩, hbel1⟩
    | some r =>
      obtain ⟨rfl, hrd⟩ := hr r hst
      obtain ⟨hr0, rest', hrest⟩ := standB_some hst
      have hrl := len_pos hr0
      have hkr : k + 25 + r.length ≤ n := by
        have h3 := congrArg List.length hrest
        rw [List.length_append, recB_len] at h3
        omega
      have hnum : 26 * (rs.length + 1) ≤ n := by
        have h3 := logOf_len rs HNE.out
        rw [← HK.out] at h3
        omega
      have HR := Lib.hid hrest
      have HR0 := Lib.hid hr0
      rw [Option.isSome_some]
      clear hst hr hrest hr0
      go_wp2_with (first | (at_builtin; refine app_b w1 rfl _ (.tmp 20) rfl w1.heap.size (.slice none 0 0) 0 [] rfl (World.ownsRow_nil _ _ _ _) ra r.length rc r rfl rfl hrd (by omega) (Nat.le_refl _) ?_; intro a3 c3 w3 hown3 hbel3 hmv3; simp only [Nat.zero_add, List.nil_append] at hown3 hmv3 ⊢) |
        (at_builtin; refine app_s1 w3 rfl (.tmp 19) (.tmp 22) rfl w.heap.size (.slice a' rs.length c) rs.length vs rfl (ownsRow_below hown1 hbel3) a3 r.length c3 rfl (by omega) (Nat.le_trans hs1 hbel3.size) ?_; intro a4 c4 w4 hown4 hbel4 hmv4) | fail)
      obtain ⟨g3, rfl, hg3, hg3'⟩ := own_some hown3 (by omega)
      have hownv := ownsRow_below hown1 hbel3
      have hrecs3 := hrecs1.below hbel3
      have hrecs3' := (hrecs3.snoc (ownsRow_base hown3 hs1)).alloc (.cells #[.slice (some ⟨g3, 0, none⟩) r.length c3] 22)
      have hrecs4 := hrecs3'.moved (hownv.alloc _) hmv4
      have hdis4 : Distinct (vs ++ [.slice (some ⟨g3, 0, none⟩) r.length c3]) := distinct_snoc hdis hrecs1 (Nat.le_refl w1.heap.size) (by simp [Value.ownBlock]) (by intro k hk; simp [Value.ownBlock] at hk; omega)
      have hbel5 : Below w.heap.size w w4 := (hbel1.trans (hbel3.mono hs1)).trans hbel4
      have HO4 := Lib.hid hown4
      have HR4 := Lib.hid hrecs4
      have HD4 := Lib.hid hdis4
      have HB5 := Lib.hid hbel5
      clear hown4 hrecs4 hdis4 hbel5 hownv hrecs3 hrecs3' hmv4 hmv3 hown3 hbel3 hbel4 hrd hown1 hrecs1 hdis hb1 hbel1
      have hll : (logOf (rs ++ [r])).length = k + (25 + r.length) := by rw [logOf_snoc, List.length_append, recB_len, ← HK.out]
      have HLL := Lib.hid hll
      clear hll
      go_wp2
      go_roundw
      case rel =>
        refine ⟨a4, c4, vs ++ [.slice (some ⟨g3, 0, none⟩) r.length c3], rs ++ [r], rest', by simp, ?_, by simpa using HO4.out, HR4.out, HD4.out, ?_, ?_, HB5.out⟩
        · rw [HLL.out]; go_num
        · rw [logOf_snoc, List.append_assoc, ← HR.out]; exact HL.out
        · intro x hx
          rcases List.mem_append.1 hx with h1 | h1
          · exact HNE.out x h1
          · simp at h1; subst h1; exact HR0.out
      case measure => simp [intOf]; omega
set_option maxHeartbeats 1000000 in
theorem rscan_any (a : Option Addr) (cap n : Nat) (l : List UInt8) (w : World) (hn : l.length = n) (hcap : n ≤ cap) (hmax : n ≤ 140737488355328) (h : Rd w a (l.map B)) :
    Calls Try.prog 19 #[.slice a n cap] w (ScanPost l w) := by
  have HN := Lib.hid hn
  clear hn
  go_enter Try.func19, Try.ntmps19
  go_wp2
  go_loopw [4, 5, 6] (fun v i _x wr => ∃ (a' : Option Addr) (c : Nat) (vs : List Value) (rs : List (List UInt8)) (rest : List UInt8), v = .slice a' rs.length c ∧ i = .int .i64 ((logOf rs).length : Int) ∧ wr.ownsRow w.heap.size 22 1 v rs.length vs ∧ RecsAt wr w.heap.size vs rs ∧
    Distinct vs ∧ l = logOf rs ++ rest ∧ (∀ r ∈ rs, r ≠ []) ∧ Below w.heap.size w wr) (fun _ i _ _ => n - (intOf i).toNat)
  case atStart => exact ⟨none, 0, [], [], l, rfl, rfl, World.ownsRow_nil _ _ _ _, RecsAt.nil _ _, List.Pairwise.nil, rfl, (fun r hr => by cases hr), Below.refl _ _⟩
  case round =>
    obtain ⟨a', c, vs, rs, rest, rfl, rfl, hown, hrecs, hdis, hl, hne, hbel⟩ := hrel
    obtain ⟨k, hk⟩ : ∃ k, k = (logOf rs).length := ⟨_, rfl⟩
    have hkn : k + rest.length = n := by have := HN.out; rw [hl, List.length_append] at this; omega
    obtain ⟨a2, hsl, hsr⟩ := slice_from a n cap k (by omega) hcap
    have hrest : l.drop k = rest := by rw [hl, hk, List.drop_left]
    have hrd : Rd wr a2 (rest.map B) := by
      have := hsr wr (l.map B) (by rw [List.length_map, HN.out]) (h.below hbel)
      rw [← List.map_drop, hrest] at this
      exact this
    rw [← hk]
    have HK := Lib.hid hk
    have HKN := Lib.hid hkn
    have HL := Lib.hid hl
    have HOWN := Lib.hid hown
    have HRECS := Lib.hid hrecs
    have HNE := Lib.hid hne
    have hs := hbel.size
    clear hk hl hown hrecs hne hrest hsr
    have hkle : (k : Int) ≤ n := by omega
    by_cases hlt : k < n
    · have hlt' : (k : Int) < n := by omega
      go_wp2_with fail
      refine (standing_any a2 (cap - k) (n - k) rest wr (by omega) (by omega) (by omega) hrd).mono ?_
      rintro e w1 ⟨ra, rn, rc, rfl, hrn, hrd, hb1⟩
      have hbel1 := hbel.trans (hb1.mono hs)
      have hs1 := hbel1.size
      have hown1 := ownsRow_below HOWN.out hb1
      have hrecs1 := HRECS.out.below hb1
      clear hsl hbel
      cases hst : standB rest with
      | none =>
        have HST := Lib.hid hst
        have hrn0 : rn = 0 := by rw [hrn, standR, hst]; rfl
        clear hst hrd hrn
        subst hrn0
        go_wp2
        go_ret2
        exact ⟨a', c, vs, rs, k, rfl, hown1, hrecs1, hdis, ⟨HK.out, rest, HL.out, HNE.out, HST.out⟩, hbel1⟩
      | some r =>
        have hsr : standR rest = r := by rw [standR, hst]; rfl
        rw [hsr] at hrd hrn
        subst hrn
        obtain ⟨hr0, rest', hrest⟩ := standB_some hst
        have hrl := len_pos hr0
        have hkr : k + 25 + r.length ≤ n := by
          have h3 := congrArg List.length hrest
          rw [List.length_append, recB_len] at h3
          omega
        have hnum : 26 * (rs.length + 1) ≤ n := by
          have h3 := logOf_len rs HNE.out
          rw [← HK.out] at h3
          omega
        have HR := Lib.hid hrest
        have HR0 := Lib.hid hr0
        have hrz : ((r.length : Int) == 0) = false := eql_of' (by omega)
        have hrdA := hrd.below ((Below.refl w1.heap.size w1).alloc (Nat.le_refl _) (.cells #[] 5))
        have hownA := World.ownsRow_made (base := w1.heap.size) (e := 5) (size := 1) w1 #[] 0 (Nat.le_refl _) (by decide) rfl
        clear hst hrest hr0 hsr
        go_wp2_with (first | (at_builtin; refine app_b (w1.alloc (.cells #[] 5)) rfl (.tmp 21) (.tmp 22) rfl w1.heap.size (.slice (some ⟨w1.heap.size, 0, none⟩) 0 0) 0 [] rfl hownA ra r.length rc r rfl rfl hrdA (by omega) (by simp) ?_; intro a3 c3 w3 hown3 hbel3 hmv3; simp only [Nat.zero_add, List.nil_append] at hown3 hmv3 ⊢) |
          (at_builtin; refine app_s1 w3 rfl (.tmp 20) (.tmp 24) rfl w.heap.size (.slice a' rs.length c) rs.length vs rfl (ownsRow_below hown1 (((Below.refl _ _).alloc (Nat.le_refl _) _).trans hbel3)) a3 r.length c3 rfl (by omega) (Nat.le_trans hs1 (((Below.refl w1.heap.size w1).alloc (Nat.le_refl _) _).trans hbel3).size) ?_; intro a4 c4 w4 hown4 hbel4 hmv4) | fail)
        have hbel3' : Below w1.heap.size w1 w3 := ((Below.refl _ _).alloc (Nat.le_refl _) _).trans hbel3
        obtain ⟨g3, rfl, hg3, hg3'⟩ := own_some hown3 (by omega)
        have hownv := ownsRow_below hown1 hbel3'
        have hrecs3 := hrecs1.below hbel3'
        have hrecs3' := (hrecs3.snoc (ownsRow_base hown3 hs1)).alloc (.cells #[.slice (some ⟨g3, 0, none⟩) r.length c3] 22)
        have hrecs4 := hrecs3'.moved (hownv.alloc _) hmv4
        have hdis4 : Distinct (vs ++ [.slice (some ⟨g3, 0, none⟩) r.length c3]) := distinct_snoc hdis hrecs1 (Nat.le_refl w1.heap.size) (by simp [Value.ownBlock]) (by intro k hk; simp [Value.ownBlock] at hk; omega)
        have hbel5 : Below w.heap.size w w4 := (hbel1.trans (hbel3'.mono hs1)).trans hbel4
        have HO4 := Lib.hid hown4
        have HR4 := Lib.hid hrecs4
        have HD4 := Lib.hid hdis4
        have HB5 := Lib.hid hbel5
        clear hown4 hrecs4 hdis4 hbel5 hownv hrecs3 hrecs3' hmv4 hmv3 hown3 hbel3 hbel3' hbel4 hrd hown1 hrecs1 hdis hb1 hbel1 hrdA hownA
        have hll : (logOf (rs ++ [r])).length = k + 25 + r.length := by rw [logOf_snoc, List.length_append, recB_len, ← HK.out]; omega
        have HLL := Lib.hid hll
        clear hll
        go_wp2
        go_roundw
        case rel =>
          refine ⟨a4, c4, vs ++ [.slice (some ⟨g3, 0, none⟩) r.length c3], rs ++ [r], rest', by simp, ?_, by simpa using HO4.out, HR4.out, HD4.out, ?_, ?_, HB5.out⟩
          · rw [HLL.out]; go_num
          · rw [logOf_snoc, List.append_assoc, ← HR.out]; exact HL.out
          · intro x hx
            rcases List.mem_append.1 hx with h1 | h1
            · exact HNE.out x h1
            · simp at h1; subst h1; exact HR0.out
        case measure => simp [intOf]; omega
    · have hge : ¬ (k : Int) < n := by omega
      have hr0 : rest = [] := List.eq_nil_of_length_eq_zero (by omega)
      have HST : Hid (standB rest = none) := by show _ = _; rw [hr0]; exact standB_short [] (by simp)
      clear hr0 hsl
      go_wp2
      go_ret2
      exact ⟨a', c, vs, rs, k, rfl, HOWN.out, HRECS.out, hdis, ⟨HK.out, rest, HL.out, HNE.out, HST.out⟩, hbel⟩
#print axioms scan_any
#print axioms rscan_any
end Go.Proofs.Ytiebnfdjnclkcaa
