/- What JournalSpares keeps: worlds that differ in one range of blocks alone; items and their longer ones, with their bytes. -/
import Derived.Test.YtiebnfdjnclkcaaW14b
set_option linter.unusedVariables false
namespace Go.Proofs.Ytiebnfdjnclkcaa
open Go.RowKit

/-- Of the blocks that were there, those from lo to hi alone may be other ones. -/
structure Only (lo hi : Nat) (w w' : World) : Prop where
  os : w'.os = w.os
  tape : w'.tape = w.tape
  output : w'.output = w.output
  size : w.heap.size ≤ w'.heap.size
  block : ∀ k, k < w.heap.size → (k < lo ∨ hi ≤ k) → w'.heap[k]? = w.heap[k]?
theorem Only.refl (lo hi : Nat) (w : World) : Only lo hi w w := ⟨rfl, rfl, rfl, Nat.le_refl _, fun _ _ _ => rfl⟩
theorem Only.trans {lo hi : Nat} {a b c : World} (h : Only lo hi a b) (g : Only lo hi b c) : Only lo hi a c :=
  ⟨g.os.trans h.os, g.tape.trans h.tape, g.output.trans h.output, Nat.le_trans h.size g.size, fun k hk hn => (g.block k (Nat.lt_of_lt_of_le hk h.size) hn).trans (h.block k hk hn)⟩
theorem Only.below {lo hi : Nat} {w w' : World} (h : Only lo hi w w') (hl : lo ≤ w.heap.size) : Below lo w w' :=
  ⟨h.os, h.tape, h.output, h.size, fun k hk => h.block k (by omega) (.inl hk)⟩
theorem Only.of_below {lo hi : Nat} {w w' : World} (h : Below w.heap.size w w') : Only lo hi w w' :=
  ⟨h.os, h.tape, h.output, h.size, fun k hk _ => h.block k hk⟩
theorem Only.grown {lo hi : Nat} {a w w' : World} {r : Option Nat} (h : Only lo hi a w) (hg : w.grownBy w' r) (hr : ∀ g, r = some g → (lo ≤ g ∧ g < hi) ∨ a.heap.size ≤ g) : Only lo hi a w' := by
  refine ⟨hg.os.trans h.os, hg.tape.trans h.tape, hg.output.trans h.output, Nat.le_trans h.size hg.size, fun k hk hn => ?_⟩
  rw [hg.block k (Nat.lt_of_lt_of_le hk h.size) ?_, h.block k hk hn]
  intro e
  rcases hr k e.symm with ⟨h1, h2⟩ | h1 <;> omega
theorem Only.below2 {lo hi : Nat} {a w w' : World} (h : Only lo hi a w) (hb : Below w.heap.size w w') : Only lo hi a w' := h.trans (.of_below hb)
theorem ownsRow_only {lo hi : Nat} {w w' : World} {base e size n : Nat} {v : Value} {xs : List Value} (h : w.ownsRow base e size v n xs) (ho : Only lo hi w w') (hb : hi ≤ base) : w'.ownsRow base e size v n xs := by
  refine ⟨h.1, ?_⟩
  rcases h.2 with hn | ⟨g, cap, cur, rfl, hbg, hg, rest⟩
  · exact .inl hn
  · refine .inr ⟨g, cap, cur, rfl, hbg, ?_, rest⟩
    rw [ho.block g (Array.getElem?_eq_some_iff.1 hg).1 (.inr (by omega))]
    exact hg
theorem RecsAt.only {lo hi : Nat} {w w' : World} {base : Nat} {vs : List Value} {rs : List (List UInt8)} (h : RecsAt w base vs rs) (ho : Only lo hi w w') (hb : hi ≤ base) : RecsAt w' base vs rs :=
  ⟨h.1, fun i hi => by obtain ⟨a, c, h1, h2⟩ := h.2 i hi; exact ⟨a, c, h1, ownsRow_only h2 ho hb⟩⟩

/-- Items between lo and hi, no two in one block. -/
def Within (w : World) (lo hi : Nat) (ts : List It) : Prop := (∀ t ∈ ts, t.Own w lo ∧ ∀ g, blk t.a = some g → lo ≤ g ∧ g < hi) ∧ ts.Pairwise (fun s t => Off s.a t.a)
theorem It.Own.lt {w : World} {base : Nat} {t : It} (h : t.Own w base) : ∀ g, blk t.a = some g → base ≤ g ∧ g < w.heap.size := by
  obtain ⟨xs, hx⟩ := h.ownA
  exact hx.lt
theorem It.Own.base {w : World} {b b' : Nat} {t : It} (h : t.Own w b) (hb : b' ≤ b) : t.Own w b' := by
  obtain ⟨l, h1, h2⟩ := h
  exact ⟨l, h1, ownsRow_base h2 hb⟩
theorem It.Own.below {w w' : World} {base : Nat} {t : It} (h : t.Own w base) (hb : Below w.heap.size w w') : t.Own w' base := by
  obtain ⟨l, h1, h2⟩ := h
  exact ⟨l, h1, ownsRow_below h2 hb⟩
theorem RecsAt.within {w : World} {base : Nat} {vs : List Value} {rs : List (List UInt8)} (h : RecsAt w base vs rs) (hd : Distinct vs) :
    ∃ ts : List It, vs = ts.map It.val ∧ ts.length = rs.length ∧ Within w base w.heap.size ts ∧ (∀ t ∈ ts, ∃ r ∈ rs, t.n = r.length) := by
  obtain ⟨hl, h⟩ := h
  induction vs generalizing rs with
  | nil =>
    have : rs = [] := List.eq_nil_of_length_eq_zero hl.symm
    subst this
    exact ⟨[], rfl, rfl, ⟨by simp, List.Pairwise.nil⟩, by simp⟩
  | cons v vs ih =>
    cases rs with
    | nil => cases hl
    | cons r rs =>
      obtain ⟨hd1, hd2⟩ := List.pairwise_cons.1 hd
      obtain ⟨ts, e1, e2, ⟨e3, e4⟩, e5⟩ := ih hd2 (rs := rs) (by simpa using hl) (fun i hi => by
        have := h (i + 1) (by simpa using hi)
        simpa using this)
      obtain ⟨a, c, h1, h2⟩ := h 0 (by simp)
      simp at h1
      subst h1
      have ho : It.Own w base ⟨a, r.length, c⟩ := ⟨r, rfl, h2⟩
      refine ⟨⟨a, r.length, c⟩ :: ts, by rw [e1]; rfl, by simp [e2], ⟨fun t ht => ?_, List.pairwise_cons.2 ⟨fun t ht => ?_, e4⟩⟩, fun t ht => ?_⟩
      · rcases List.mem_cons.1 ht with rfl | ht
        · exact ⟨ho, ho.lt⟩
        · exact e3 t ht
      · have h3 := hd1 t.val (by rw [e1]; exact List.mem_map_of_mem ht)
        obtain ⟨l, _, h4⟩ := (e3 t ht).1
        rw [It.val, own_blk h4] at h3
        have h5 := own_blk h2
        rw [show (Value.slice a r.length c).ownBlock = blk a from h5] at h3
        exact .inr h3
      · rcases List.mem_cons.1 ht with rfl | ht
        · exact ⟨r, by simp, rfl⟩
        · obtain ⟨x, hx, hx2⟩ := e5 t ht
          exact ⟨x, List.mem_cons_of_mem _ hx, hx2⟩
theorem off_range {a b : Option Addr} {l1 h1 l2 h2 : Nat} (ha : ∀ g, blk a = some g → l1 ≤ g ∧ g < h1) (hb : ∀ g, blk b = some g → l2 ≤ g ∧ g < h2) (h : h1 ≤ l2 ∨ h2 ≤ l1) : Off a b := by
  cases hk : blk a with
  | none => exact .inl hk
  | some g =>
    right
    intro e
    have := ha g hk
    have := hb g (e ▸ hk)
    omega
theorem Within.below {w w' : World} {lo hi : Nat} {ts : List It} (h : Within w lo hi ts) (hb : Below w.heap.size w w') : Within w' lo hi ts :=
  ⟨fun t ht => ⟨(h.1 t ht).1.below hb, (h.1 t ht).2⟩, h.2⟩
/-- Items of two ranges that lie apart, one list behind the other. -/
theorem Within.append {w : World} {lo hi l1 h1 l2 h2 : Nat} {ts us : List It} (h : Within w l1 h1 ts) (g : Within w l2 h2 us) (hd : h1 ≤ l2 ∨ h2 ≤ l1) (e1 : lo ≤ l1) (e2 : lo ≤ l2) (e3 : h1 ≤ hi) (e4 : h2 ≤ hi) : Within w lo hi (ts ++ us) := by
  refine ⟨fun t ht => ?_, List.pairwise_append.2 ⟨h.2, g.2, fun s hs t ht => off_range (h.1 s hs).2 (g.1 t ht).2 hd⟩⟩
  rcases List.mem_append.1 ht with ht | ht
  · exact ⟨(h.1 t ht).1.base e1, fun k hk => by have := (h.1 t ht).2 k hk; omega⟩
  · exact ⟨(g.1 t ht).1.base e2, fun k hk => by have := (g.1 t ht).2 k hk; omega⟩
theorem Within.offs {w : World} {lo hi : Nat} {ts : List It} (h : Within w lo hi ts) : ∀ i j (hi : i < ts.length) (hj : j < ts.length), i ≠ j → Off ts[i].a ts[j].a := by
  intro i j h1 h2 hne
  have := List.pairwise_iff_getElem.1 h.2
  rcases Nat.lt_or_gt_of_ne hne with h3 | h3
  · exact this i j h1 h2 h3
  · exact (this j i h2 h1 h3).symm
theorem Within.one {w : World} {base n c : Nat} {a : Option Addr} {l : List UInt8} (h : w.ownsRow base 5 1 (.slice a n c) n (l.map B)) (hl : l.length = n) : Within w base w.heap.size [⟨a, n, c⟩] := by
  have ho : It.Own w base ⟨a, n, c⟩ := ⟨l, hl, h⟩
  refine ⟨fun t ht => ?_, List.pairwise_singleton _ _⟩
  simp at ht
  subst ht
  exact ⟨ho, ho.lt⟩

/-- What the i-th record is overwritten with, and what its longer one has behind it. -/
def Xs (i n : Nat) : List Value := (List.replicate n (UInt8.ofNat (i + 1))).map B
def Ys (i : Nat) : List Value := (List.replicate 99 (UInt8.ofNat (i + 101))).map B
/-- The first k items are full of their marks. -/
def Marked (w : World) (base k : Nat) (ts : List It) : Prop :=
  (∀ t ∈ ts, t.Own w base) ∧ ∀ i (h : i < ts.length), i < k → w.ownsRow base 5 1 (.slice ts[i].a ts[i].n ts[i].c) ts[i].n (Xs i ts[i].n)
theorem Marked.step {w w' : World} {base k : Nat} {ts : List It} (h : Marked w base k ts) (hoff : ∀ i j (hi : i < ts.length) (hj : j < ts.length), i ≠ j → Off ts[i].a ts[j].a) (hk : k < ts.length)
    (hg : w.grownBy w' (blk ts[k].a)) (ho : w'.ownsRow base 5 1 (.slice ts[k].a ts[k].n ts[k].c) ts[k].n (Xs k ts[k].n)) : Marked w' base (k + 1) ts := by
  refine ⟨fun t ht => ?_, fun i hi hik => ?_⟩
  · obtain ⟨i, hi, rfl⟩ := List.mem_iff_getElem.1 ht
    by_cases e : i = k
    · subst e
      exact ⟨_, by simp, ho⟩
    · exact (h.1 _ ht).kept hg (hoff i k hi hk e)
  · by_cases e : i = k
    · subst e; exact ho
    · have h1 := h.2 i hi (by omega)
      exact h1.kept hg (by rw [own_blk h1]; exact hoff i k hi hk e)
/-- The first k items have their longer ones. -/
def More (w : World) (base k : Nat) (ts : List It) (T : Nat → Two) : Prop :=
  (∀ i (h : i < ts.length), i < k → OwnA w base (T i).a (T i).n (Xs i ts[i].n) ∧ OwnA w base (T i).b (T i).m (Xs i ts[i].n ++ Ys i) ∧ (T i).m = ts[i].n + 99) ∧
    ∀ i (h : i < ts.length), k ≤ i → w.ownsRow base 5 1 (.slice ts[i].a ts[i].n ts[i].c) ts[i].n (Xs i ts[i].n)
theorem More.start {w : World} {base : Nat} {ts : List It} (h : Marked w base ts.length ts) : More w base 0 ts (T0 ts) := ⟨fun i h hk => by omega, fun i hi _ => h.2 i hi hi⟩
theorem More.step {w w2 : World} {base N k c1 : Nat} {ts : List It} {T : Nat → Two} {b : Option Addr} (hk : k < ts.length) (h : More w base k ts T) (ht : TwoOk w base N k ts T) (hl : Lng base ts[k].a ts[k].n (Xs k ts[k].n) w w2 b (ts[k].n + 99) c1 (Ys k)) :
    More w2 base (k + 1) ts (upd T k ⟨ts[k].a, ts[k].n, b, ts[k].n + 99⟩) := by
  obtain ⟨t1, t2, t3, t4⟩ := ht
  obtain ⟨l1, l2, l3, l4⟩ := hl
  have hTa := (t1 k hk).1
  refine ⟨fun i hi hik => ?_, fun i hi hik => ?_⟩
  · by_cases e : i = k
    · subst e
      rw [upd_same]
      exact ⟨l2, ⟨_, l1⟩, rfl⟩
    · rw [upd_other _ _ e]
      obtain ⟨a1, a2, a3⟩ := h.1 i hi (by omega)
      have ho := t3 i k hi hk e
      have ho1 := ho.1
      have ho3 := ho.2.2.1
      rw [hTa] at ho1 ho3
      exact ⟨a1.kept l3 ho1, a2.kept l3 ho3, a3⟩
  · have h1 := h.2 i hi (by omega)
    have ho := (t3 i k hi hk (by omega)).1
    rw [(t1 i hi).1, hTa] at ho
    exact h1.kept l3 (by rw [own_blk h1]; exact ho)
theorem More.kept {w w' : World} {base k : Nat} {ts : List It} {T : Nat → Two} {r : Option Nat} (h : More w base k ts T) (hg : w.grownBy w' r) (hr : ∀ p n xs, OwnA w base p n xs → blk p = none ∨ blk p ≠ r) : More w' base k ts T := by
  refine ⟨fun i hi hik => ?_, fun i hi hik => ?_⟩
  · obtain ⟨a1, a2, a3⟩ := h.1 i hi hik
    exact ⟨a1.kept hg (hr _ _ _ a1), a2.kept hg (hr _ _ _ a2), a3⟩
  · have h1 := h.2 i hi hik
    exact h1.kept hg (by rw [own_blk h1]; exact hr _ _ _ ⟨_, h1⟩)
theorem Within.kept22 {w w' : World} {lo hi b2 n : Nat} {ts : List It} {v : Value} {xs : List Value} (h : Within w lo hi ts) (hv : w.ownsRow b2 22 1 v n xs) (hg : w.grownBy w' v.ownBlock) : Within w' lo hi ts :=
  ⟨fun t ht => ⟨(h.1 t ht).1.kept hg (by obtain ⟨x, hx⟩ := (h.1 t ht).1.ownA; exact own22_off hv _ _ _ hx), (h.1 t ht).2⟩, h.2⟩
/-- 'append(s, x...)' of slices of bytes. -/
theorem app_s (w : World) {ops : Array Oper} {rest : List Oper} {o : Oper} {a : Act} {Q : Exit → Act → World → Prop} (hgd : o.guard = none) (s x : Operand)
    (ho : o.op = .call { callee := .builtin .append, args := #[s, x], argTypes := #[32, 32] }) (base : Nat) (v : Value) (n : Nat) (vs : List Value) (hs : a.eval s = v) (hown : w.ownsRow base 22 1 v n vs)
    (ao : Option Addr) (m c : Nat) (ts : List It) (hx : a.eval x = .slice ao m c) (hl : ts.length = m) (hrd : Rd w ao (ts.map It.val)) (hb : (n + m) * 24 ≤ 140737488355328) (hbase : base ≤ w.heap.size)
    (h : ∀ a' c' w', w'.ownsRow base 22 1 (.slice a' (n + m) c') (n + m) (vs ++ ts.map It.val) → Below base w w' → Moved w w' v (.slice a' (n + m) c') →
      wpList Try.prog ops Q rest (a.put o.dst (.slice a' (n + m) c')) w') : wpList Try.prog ops Q (o :: rest) a w := by
  obtain ⟨i0, hi, hz0, hz1, hz2⟩ := info_parts info22
  refine wpList_append_rd w hgd s x 32 ho base 22 i0 (.slice none 0 0) 1 24 Try.underlying32 hi hz0 hz1 hz2 rfl (by decide) v n _ hs hown ao m c _ hx (by simp [hl]) hrd (by
    intro u hu
    obtain ⟨t, _, rfl⟩ := List.mem_map.1 hu
    rfl) (by unfold maxLen; omega) (by omega) hbase ?_
  intro a' c' w' h1 h2 h3
  exact h a' c' w' h1 h2 h3
/-- All lists behind one another, as JournalSpares lays them. -/
def allOf (b4 b5 : Option Addr) (n d4 d5 : Nat) (tu tv tw : List It) : List It := [⟨b4, n, d4⟩, ⟨b5, n, d5⟩] ++ tu ++ tv ++ tw
theorem allOf_map (b4 b5 : Option Addr) (n d4 d5 : Nat) (tu tv tw : List It) :
    (#[.slice b4 n d4, .slice b5 n d5] : Array Value).toList ++ tu.map It.val ++ tv.map It.val ++ tw.map It.val = (allOf b4 b5 n d4 d5 tu tv tw).map It.val := by
  simp [allOf, It.val]
theorem allOf_len (b4 b5 : Option Addr) (n d4 d5 : Nat) {tu tv tw : List It} {p nv q : Nat} (h1 : tu.length = p) (h2 : tv.length = nv) (h3 : tw.length = q) : (allOf b4 b5 n d4 d5 tu tv tw).length = 2 + p + nv + q := by
  simp [allOf, h1, h2, h3]
  omega
theorem allOf_le {b4 b5 : Option Addr} {n d4 d5 M : Nat} {tu tv tw : List It} (h0 : n ≤ M) (h1 : ∀ t ∈ tu, t.n ≤ M) (h2 : ∀ t ∈ tv, t.n ≤ M) (h3 : ∀ t ∈ tw, t.n ≤ M) : ∀ t ∈ allOf b4 b5 n d4 d5 tu tv tw, t.n ≤ M := by
  intro t ht
  simp only [allOf, List.mem_append, List.mem_cons, List.not_mem_nil, or_false] at ht
  rcases ht with (((rfl | rfl) | ht) | ht) | ht
  · exact h0
  · exact h0
  · exact h1 t ht
  · exact h2 t ht
  · exact h3 t ht
theorem allOf_within {x : World} {v x1 x2 x3 x5 : Nat} {b4 b5 : Option Addr} {n d4 d5 : Nat} {tu tv tw : List It} (h1 : Within x x3 x5 ([⟨b4, n, d4⟩] ++ [⟨b5, n, d5⟩])) (h2 : Within x v x1 tu) (h3 : Within x x1 x2 tv) (h4 : Within x x2 x3 tw)
    (e1 : v ≤ x1) (e2 : x1 ≤ x2) (e3 : x2 ≤ x3) (e4 : x3 ≤ x5) : Within x v x5 (allOf b4 b5 n d4 d5 tu tv tw) := by
  have e34 : Within x x1 x3 (tv ++ tw) := h3.append h4 (.inl (Nat.le_refl _)) (by omega) (by omega) (by omega) (by omega)
  have e234 : Within x v x3 (tu ++ (tv ++ tw)) := h2.append e34 (.inl (Nat.le_refl _)) (by omega) (by omega) (by omega) (by omega)
  have e1234 : Within x v x5 (([⟨b4, n, d4⟩] ++ [⟨b5, n, d5⟩]) ++ (tu ++ (tv ++ tw))) := h1.append e234 (.inr (Nat.le_refl _)) (by omega) (by omega) (by omega) (by omega)
  simpa [allOf, List.append_assoc] using e1234
/-- One byte of a list is overwritten: what stands behind the list's end in its longer one stays. -/
theorem ends_step {w : World} {base g n c m ce q : Nat} {ae : Option Addr} {xs Z Y : List Value} (hr : w.ownsRow base 5 1 (.slice (some ⟨g, 0, none⟩) n c) n xs) (he : w.ownsRow base 5 1 (.slice ae m ce) m (Z ++ Y)) (hZ : Z.length = n) (hq : q < n) (u : Value) :
    ∃ Z' : List Value, Z'.length = n ∧ (w.setCell ⟨g, q, none⟩ u).ownsRow base 5 1 (.slice ae m ce) m (Z' ++ Y) := by
  by_cases hb : blk ae = some g
  · have e := own_addr he
    rw [hb] at e
    subst e
    have h := (he.stored q u).1
    rw [List.set_append_left _ _ (by omega)] at h
    exact ⟨Z.set q u, by simp [hZ], h⟩
  · exact ⟨Z, hZ, he.kept (hr.stored q u).2 (by rw [own_blk he]; exact .inr hb)⟩
theorem zeros_get {n q : Nat} (l : List Value) (hl : l.length = n) (hq : q < n) {u : UInt8} : ((List.replicate q u).map B ++ l.drop q)[q]? = some (l[q]'(by rw [hl]; exact hq)) := by
  have hlk : ((List.replicate q u).map B).length = q := by simp
  rw [List.getElem?_append_right (by omega), hlk, Nat.sub_self, List.getElem?_drop, Nat.add_zero, List.getElem?_eq_getElem (by omega)]
theorem zeros_set {n q : Nat} (l : List Value) (hl : l.length = n) (hq : q < n) {u : UInt8} : ((List.replicate q u).map B ++ l.drop q).set q (B u) = (List.replicate (q + 1) u).map B ++ l.drop (q + 1) := by
  have hlk : ((List.replicate q u).map B).length = q := by simp
  have hqx : q < l.length := by omega
  rw [List.set_append_right _ _ (by omega), hlk, Nat.sub_self, List.drop_eq_getElem_cons hqx, List.set_cons_zero, List.replicate_succ', List.map_append]
  simp
#print axioms More.step
end Go.Proofs.Ytiebnfdjnclkcaa
