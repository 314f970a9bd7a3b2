/- The reference's Cursor: match 60 (printed by gen_cu4.py). -/
import Derived.Test.YtaipnbpefdcejaaCu3
set_option linter.unusedVariables false
namespace Go.Proofs.Ytaipnbpefdcejaa
open Go.RowKit
/-- Three lists and where they lie. -/
structure LS where
  ns : List (Int × Int)
  an : Option Addr
  cn : Nat
  ls : List Int
  al : Option Addr
  cl : Nat
  vs : List (Bool × Int)
  av : Option Addr
  cv : Nat
def ls0 : LS := ⟨[], none, 0, [], none, 0, [], none, 0⟩
def mt (d : Int) (L : LS) : List Value := [.int .i64 d, .slice L.an L.ns.length L.cn, .slice L.al L.ls.length L.cl, .slice L.av L.vs.length L.cv]
structure MZ (w0 : World) (g r : Nat) (body : List UInt8) (ab : Option Addr) (nb cb : Nat) (w : World) (at_ : Nat) (d : Int) (L : LS) (W : World) : Prop where
  cs : CS w0 g body ab nb cb at_ W
  blk : Blk W (r + 1) 44 (mt d L)
  res : Blk W r 44 (mt 0 ls0)
  oN : W.ownsRow (r + 2) 89 2 (.slice L.an L.ns.length L.cn) L.ns.length (ncells L.ns)
  oL : W.ownsRow (r + 2) 3 1 (.slice L.al L.ls.length L.cl) L.ls.length (zcells L.ls)
  oV : W.ownsRow (r + 2) 74 2 (.slice L.av L.vs.length L.cv) L.vs.length (vcells L.vs)
  grown : w.grownBy W (some g)
  sz : r + 2 ≤ W.heap.size
structure MK (w0 : World) (g r : Nat) (body : List UInt8) (ab : Option Addr) (nb cb : Nat) (w : World) : Prop where
  rc : RC w0 g body ab nb cb
  lt : g < r
  r : r = w.heap.size
  nb : nb ≤ 1073741824
theorem own_ne_of_lt {w : World} {base e size n g : Nat} {u : Value} {xs : List Value} (h : w.ownsRow base e size u n xs) (hg : g < base ∨ w.heap.size ≤ g) : u.ownBlock = none ∨ u.ownBlock ≠ some g := by
  right
  intro he
  have := h.lt g he
  omega
section
variable {w0 : World} {g r : Nat} {body : List UInt8} {ab : Option Addr} {nb cb : Nat} {w : World} {at_ : Nat} {d : Int} {L : LS} {W W' : World}
theorem MZ.cur {a2 : Nat} (h : MZ w0 g r body ab nb cb w at_ d L W) (hk : MK w0 g r body ab nb cb w) (hcs : CS w0 g body ab nb cb a2 W') (hg : W.grownBy W' (some g)) : MZ w0 g r body ab nb cb w a2 d L W' := by
  have hl := hk.lt
  exact ⟨hcs, blk_g (by omega) h.blk hg, blk_g (by omega) h.res hg, h.oN.kept hg (own_ne_of_lt h.oN (.inl (by omega))), h.oL.kept hg (own_ne_of_lt h.oL (.inl (by omega))), h.oV.kept hg (own_ne_of_lt h.oV (.inl (by omega))), grown_trans2 h.grown hg, Nat.le_trans h.sz hg.size⟩
theorem MZ.below (h : MZ w0 g r body ab nb cb w at_ d L W) (hb : Below W.heap.size W W') : MZ w0 g r body ab nb cb w at_ d L W' :=
  ⟨h.cs.below hb, h.blk.below hb, h.res.below hb, own_below h.oN hb, own_below h.oL hb, own_below h.oV hb, grown_trans2 h.grown (grown_below hb), Nat.le_trans h.sz hb.size⟩
/-- A block that is newer than the lists is written. -/
theorem MZ.fresh {t : Nat} {V : World} {a0 : Nat} (h : MZ w0 g r body ab nb cb w at_ d L W) (hk : MK w0 g r body ab nb cb w) (hV : MZ w0 g r body ab nb cb w a0 d L V) (ht : V.heap.size ≤ t) (hg : W.grownBy W' (some t)) : MZ w0 g r body ab nb cb w at_ d L W' := by
  have h1 := hV.sz
  have hl := hk.lt
  have hr := hk.r
  have h0 := hk.rc.base
  exact ⟨h.cs.other hg (by omega) (by omega), blk_g (by omega) h.blk hg, blk_g (by omega) h.res hg, h.oN.kept hg (own_ne_of_lt hV.oN (.inr ht)), h.oL.kept hg (own_ne_of_lt hV.oL (.inr ht)), h.oV.kept hg (own_ne_of_lt hV.oV (.inr ht)), grown_mix h.grown hg (by omega), Nat.le_trans h.sz hg.size⟩
theorem MZ.setD (h : MZ w0 g r body ab nb cb w at_ d L W) (hk : MK w0 g r body ab nb cb w) (v : Int) : MZ w0 g r body ab nb cb w at_ v L (W.setCell ⟨r + 1, 0, none⟩ (.int .i64 v)) := by
  have h1 := h.blk.setCell 0 (.int .i64 v)
  have hl := hk.lt
  have hr := hk.r
  have h0 := hk.rc.base
  exact ⟨h.cs.other h1.2 (by omega) (by omega), h1.1, blk_g (by omega) h.res h1.2, h.oN.kept h1.2 (own_ne_of_lt h.oN (.inl (by omega))), h.oL.kept h1.2 (own_ne_of_lt h.oL (.inl (by omega))), h.oV.kept h1.2 (own_ne_of_lt h.oV (.inl (by omega))), grown_mix h.grown h1.2 (by omega), Nat.le_trans h.sz h1.2.size⟩
theorem moved_blk {v v' : Value} {t b : Nat} {cs : List Value} {base e size n : Nat} {xs : List Value} (hm : Moved W W' v v') (hk : Blk W b t cs) (ho : W.ownsRow base e size v n xs) (hb : b < base) : Blk W' b t cs :=
  hk.kept hm.grown (by
    intro h1
    have := (ho.lt b h1.symm).1
    omega)
theorem MZ.appN {a' : Option Addr} {c' : Nat} {o : Obj} {xs : List Value} (h : MZ w0 g r body ab nb cb w at_ d L W) (hk : MK w0 g r body ab nb cb w) (hm : Moved (W.alloc o) W' (.slice L.an L.ns.length L.cn) (.slice a' (L.ns.length + 1) c'))
    (ho : W'.ownsRow (r + 2) 89 2 (.slice a' (L.ns.length + 1) c') (L.ns.length + 1) xs) (x : _) (hx : xs = ncells (L.ns ++ [x])) :
    (W'.cell? ⟨r + 1, 1, none⟩ = some (.slice L.an L.ns.length L.cn) ∧ W'.frozen? ⟨r + 1, 1, none⟩ = false) ∧
    MZ w0 g r body ab nb cb w at_ d { L with ns := L.ns ++ [x], an := a', cn := c' } (W'.setCell ⟨r + 1, 1, none⟩ (.slice a' (L.ns.length + 1) c')) := by
  have hl := hk.lt
  have hr := hk.r
  have h0 := hk.rc.base
  have hb : Below W.heap.size W (W.alloc o) := (Below.refl _ _).alloc (Nat.le_refl _) _
  have h1 := h.below hb
  have b1 := moved_blk hm h1.blk h1.oN (by omega)
  have b0 := moved_blk hm h1.res h1.oN (by omega)
  have hcs : CS w0 g body ab nb cb at_ W' := ⟨moved_blk hm h1.cs.1 h1.oN (by omega), h1.cs.2.1, h1.cs.2.2.grown hm.grown h1.cs.2.2.size (fun k hk2 => by have := (h1.oN.lt k hk2).1; omega)⟩
  have hgw : w.grownBy W' (some g) := by
    have h2 := hm.grown
    refine ⟨h2.os.trans h1.grown.os, h2.tape.trans h1.grown.tape, h2.output.trans h1.grown.output, Nat.le_trans h1.grown.size h2.size, fun k hk2 hne => (h2.block k (Nat.lt_of_lt_of_le hk2 h1.grown.size) (by intro e; have := (h1.oN.lt k e.symm).1; omega)).trans (h1.grown.block k hk2 hne)⟩
  have hs := b1.setCell 1 (.slice a' (L.ns.length + 1) c')
  subst hx
  refine ⟨⟨b1.cell 1 (by simp [mt]), b1.frozen 1⟩, hcs.other hs.2 (by omega) (by omega), ?_, blk_g (by omega) b0 hs.2, ?_, ?_, ?_, grown_mix hgw hs.2 (by omega), Nat.le_trans (Nat.le_trans h1.sz hm.grown.size) hs.2.size⟩
  · have h5 := hs.1
    simp only [mt, List.length_append, List.length_singleton, List.set] at h5 ⊢
    exact h5
  · rw [List.length_append]
    exact ho.kept hs.2 (own_ne_of_lt ho (.inl (by omega)))
  · exact (hm.kept h1.oL (own_apart h1.oL h1.oN (by decide))).kept hs.2 (own_ne_of_lt (hm.kept h1.oL (own_apart h1.oL h1.oN (by decide))) (.inl (by omega)))
  · exact (hm.kept h1.oV (own_apart h1.oV h1.oN (by decide))).kept hs.2 (own_ne_of_lt (hm.kept h1.oV (own_apart h1.oV h1.oN (by decide))) (.inl (by omega)))
theorem MZ.appL {a' : Option Addr} {c' : Nat} {o : Obj} {xs : List Value} (h : MZ w0 g r body ab nb cb w at_ d L W) (hk : MK w0 g r body ab nb cb w) (hm : Moved (W.alloc o) W' (.slice L.al L.ls.length L.cl) (.slice a' (L.ls.length + 1) c'))
    (ho : W'.ownsRow (r + 2) 3 1 (.slice a' (L.ls.length + 1) c') (L.ls.length + 1) xs) (x : _) (hx : xs = zcells (L.ls ++ [x])) :
    (W'.cell? ⟨r + 1, 2, none⟩ = some (.slice L.al L.ls.length L.cl) ∧ W'.frozen? ⟨r + 1, 2, none⟩ = false) ∧
    MZ w0 g r body ab nb cb w at_ d { L with ls := L.ls ++ [x], al := a', cl := c' } (W'.setCell ⟨r + 1, 2, none⟩ (.slice a' (L.ls.length + 1) c')) := by
  have hl := hk.lt
  have hr := hk.r
  have h0 := hk.rc.base
  have hb : Below W.heap.size W (W.alloc o) := (Below.refl _ _).alloc (Nat.le_refl _) _
  have h1 := h.below hb
  have b1 := moved_blk hm h1.blk h1.oL (by omega)
  have b0 := moved_blk hm h1.res h1.oL (by omega)
  have hcs : CS w0 g body ab nb cb at_ W' := ⟨moved_blk hm h1.cs.1 h1.oL (by omega), h1.cs.2.1, h1.cs.2.2.grown hm.grown h1.cs.2.2.size (fun k hk2 => by have := (h1.oL.lt k hk2).1; omega)⟩
  have hgw : w.grownBy W' (some g) := by
    have h2 := hm.grown
    refine ⟨h2.os.trans h1.grown.os, h2.tape.trans h1.grown.tape, h2.output.trans h1.grown.output, Nat.le_trans h1.grown.size h2.size, fun k hk2 hne => (h2.block k (Nat.lt_of_lt_of_le hk2 h1.grown.size) (by intro e; have := (h1.oL.lt k e.symm).1; omega)).trans (h1.grown.block k hk2 hne)⟩
  have hs := b1.setCell 2 (.slice a' (L.ls.length + 1) c')
  subst hx
  refine ⟨⟨b1.cell 2 (by simp [mt]), b1.frozen 2⟩, hcs.other hs.2 (by omega) (by omega), ?_, blk_g (by omega) b0 hs.2, ?_, ?_, ?_, grown_mix hgw hs.2 (by omega), Nat.le_trans (Nat.le_trans h1.sz hm.grown.size) hs.2.size⟩
  · have h5 := hs.1
    simp only [mt, List.length_append, List.length_singleton, List.set] at h5 ⊢
    exact h5
  · exact (hm.kept h1.oN (own_apart h1.oN h1.oL (by decide))).kept hs.2 (own_ne_of_lt (hm.kept h1.oN (own_apart h1.oN h1.oL (by decide))) (.inl (by omega)))
  · rw [List.length_append]
    exact ho.kept hs.2 (own_ne_of_lt ho (.inl (by omega)))
  · exact (hm.kept h1.oV (own_apart h1.oV h1.oL (by decide))).kept hs.2 (own_ne_of_lt (hm.kept h1.oV (own_apart h1.oV h1.oL (by decide))) (.inl (by omega)))
theorem MZ.appV {a' : Option Addr} {c' : Nat} {o : Obj} {xs : List Value} (h : MZ w0 g r body ab nb cb w at_ d L W) (hk : MK w0 g r body ab nb cb w) (hm : Moved (W.alloc o) W' (.slice L.av L.vs.length L.cv) (.slice a' (L.vs.length + 1) c'))
    (ho : W'.ownsRow (r + 2) 74 2 (.slice a' (L.vs.length + 1) c') (L.vs.length + 1) xs) (x : _) (hx : xs = vcells (L.vs ++ [x])) :
    (W'.cell? ⟨r + 1, 3, none⟩ = some (.slice L.av L.vs.length L.cv) ∧ W'.frozen? ⟨r + 1, 3, none⟩ = false) ∧
    MZ w0 g r body ab nb cb w at_ d { L with vs := L.vs ++ [x], av := a', cv := c' } (W'.setCell ⟨r + 1, 3, none⟩ (.slice a' (L.vs.length + 1) c')) := by
  have hl := hk.lt
  have hr := hk.r
  have h0 := hk.rc.base
  have hb : Below W.heap.size W (W.alloc o) := (Below.refl _ _).alloc (Nat.le_refl _) _
  have h1 := h.below hb
  have b1 := moved_blk hm h1.blk h1.oV (by omega)
  have b0 := moved_blk hm h1.res h1.oV (by omega)
  have hcs : CS w0 g body ab nb cb at_ W' := ⟨moved_blk hm h1.cs.1 h1.oV (by omega), h1.cs.2.1, h1.cs.2.2.grown hm.grown h1.cs.2.2.size (fun k hk2 => by have := (h1.oV.lt k hk2).1; omega)⟩
  have hgw : w.grownBy W' (some g) := by
    have h2 := hm.grown
    refine ⟨h2.os.trans h1.grown.os, h2.tape.trans h1.grown.tape, h2.output.trans h1.grown.output, Nat.le_trans h1.grown.size h2.size, fun k hk2 hne => (h2.block k (Nat.lt_of_lt_of_le hk2 h1.grown.size) (by intro e; have := (h1.oV.lt k e.symm).1; omega)).trans (h1.grown.block k hk2 hne)⟩
  have hs := b1.setCell 3 (.slice a' (L.vs.length + 1) c')
  subst hx
  refine ⟨⟨b1.cell 3 (by simp [mt]), b1.frozen 3⟩, hcs.other hs.2 (by omega) (by omega), ?_, blk_g (by omega) b0 hs.2, ?_, ?_, ?_, grown_mix hgw hs.2 (by omega), Nat.le_trans (Nat.le_trans h1.sz hm.grown.size) hs.2.size⟩
  · have h5 := hs.1
    simp only [mt, List.length_append, List.length_singleton, List.set] at h5 ⊢
    exact h5
  · exact (hm.kept h1.oN (own_apart h1.oN h1.oV (by decide))).kept hs.2 (own_ne_of_lt (hm.kept h1.oN (own_apart h1.oN h1.oV (by decide))) (.inl (by omega)))
  · exact (hm.kept h1.oL (own_apart h1.oL h1.oV (by decide))).kept hs.2 (own_ne_of_lt (hm.kept h1.oL (own_apart h1.oL h1.oV (by decide))) (.inl (by omega)))
  · rw [List.length_append]
    exact ho.kept hs.2 (own_ne_of_lt ho (.inl (by omega)))
end
/-- A list under way: what has been read of it. -/
def GotL {α : Type} (body : List UInt8) (a0 ai n i : Nat) (e : α → List UInt8) (V : α → Prop) (acc : List α) : Prop :=
  ∀ (xs : List α) (r : List UInt8), (∀ v ∈ xs, V v) → xs.length = n → body.drop a0 = xs.flatMap e ++ r → acc = xs.take i ∧ body.drop ai = (xs.drop i).flatMap e ++ r
theorem GotL.start {α : Type} {body : List UInt8} {a0 n : Nat} {e : α → List UInt8} {V : α → Prop} : GotL body a0 a0 n 0 e V [] := fun xs r _ _ h => ⟨rfl, h⟩
theorem GotL.next {α : Type} {body : List UInt8} {a0 ai a2 n i : Nat} {e : α → List UInt8} {V : α → Prop} {acc : List α} {v : α} (h : GotL body a0 ai n i e V acc) (hi : i < n) (hg : Got body ai a2 e (fun v _ => V v) v) : GotL body a0 a2 n (i + 1) e V (acc ++ [v]) := by
  intro xs r hV hn h9
  obtain ⟨k1, k2⟩ := h xs r hV hn h9
  have hjx : i < xs.length := by omega
  rw [List.drop_eq_getElem_cons hjx, List.flatMap_cons, List.append_assoc] at k2
  obtain ⟨k3, k4⟩ := hg xs[i] _ (hV _ (List.getElem_mem hjx)) k2
  exact ⟨by rw [k1, k3, take_snoc xs i hjx], k4⟩
theorem GotL.done {α : Type} {body : List UInt8} {a0 ai n : Nat} {e : α → List UInt8} {V : α → Prop} {acc : List α} (h : GotL body a0 ai n n e V acc) (xs : List α) (r : List UInt8) (hV : ∀ v ∈ xs, V v) (hn : xs.length = n) (h9 : body.drop a0 = xs.flatMap e ++ r) : acc = xs ∧ body.drop ai = r := by
  obtain ⟨k1, k2⟩ := h xs r hV hn h9
  rw [List.take_of_length_le (by omega)] at k1
  rw [List.drop_of_length_le (l := xs) (by omega)] at k2
  exact ⟨k1, by simpa using k2⟩
theorem got_pair {body : List UInt8} {a0 a1 a2 : Nat} {v : Int} {u : Nat} (h1 : Got body a0 a1 bytesI (fun i _ => I64 i) v) (h2 : Got body a1 a2 bytesU (fun n _ => n < 18446744073709551616) u) :
    Got body a0 a2 encName (fun x _ => I64 x.1 ∧ U64 x.2) (v, (u : Int)) := by
  intro x r hx h9
  unfold encName at h9
  rw [List.append_assoc] at h9
  have h64 := hx.2
  unfold U64 at h64
  obtain ⟨k1, k2⟩ := h1 x.1 _ hx.1 h9
  obtain ⟨k3, k4⟩ := h2 x.2.toNat _ (by show x.2.toNat < _; omega) k2
  refine ⟨?_, k4⟩
  apply Prod.ext
  · exact k1
  · show (u : Int) = x.2
    rw [k3]; omega
theorem got_known {body : List UInt8} {a0 a1 a2 : Nat} {v : Int} (h1 : Got body a0 a1 byT (fun _ _ => True) true) (h2 : Got body a1 a2 bytesI (fun i _ => I64 i) v) : Got body a0 a2 encVal (fun x _ => I64 x.2 ∧ (x.1 = false → x.2 = 0)) (true, v) := by
  intro x r hx h9
  unfold encVal at h9
  rw [List.append_assoc] at h9
  obtain ⟨k1, k2⟩ := h1 x.1 _ trivial h9
  rw [← k1, if_pos rfl] at k2
  obtain ⟨k3, k4⟩ := h2 x.2 _ hx.1 k2
  exact ⟨Prod.ext k1 k3, k4⟩
theorem got_unknown {body : List UInt8} {a0 a1 : Nat} (h1 : Got body a0 a1 byT (fun _ _ => True) false) : Got body a0 a1 encVal (fun x _ => I64 x.2 ∧ (x.1 = false → x.2 = 0)) (false, 0) := by
  intro x r hx h9
  unfold encVal at h9
  rw [List.append_assoc] at h9
  obtain ⟨k1, k2⟩ := h1 x.1 _ trivial h9
  rw [← k1, if_neg Bool.false_ne_true, List.nil_append] at k2
  exact ⟨Prod.ext k1 (hx.2 k1.symm).symm, k2⟩
theorem flat_ge {α : Type} (e : α → List UInt8) (h : ∀ v, 1 ≤ (e v).length) (l : List α) : l.length ≤ (l.flatMap e).length := by
  induction l with
  | nil => simp
  | cons v l ih => have := h v; rw [List.flatMap_cons, List.length_append, List.length_cons]; omega
theorem encName_pos (v : Int × Int) : 1 ≤ (encName v).length := by unfold encName bytesI; rw [List.length_append]; have := bytesU_pos (zig v.1); omega
theorem encVal_pos (v : Bool × Int) : 1 ≤ (encVal v).length := by unfold encVal; rw [List.length_append, byT_len]; omega
theorem ncells_snoc (l : List (Int × Int)) (x : Int × Int) : ncells (l ++ [x]) = ncells l ++ [.int .i64 x.1, .int .u64 x.2] := by unfold ncells; rw [List.flatMap_append]; rfl
theorem vcells_snoc (l : List (Bool × Int)) (x : Bool × Int) : vcells (l ++ [x]) = vcells l ++ [.bool x.1, .int .i64 x.2] := by unfold vcells; rw [List.flatMap_append]; rfl
theorem zcells_snoc (l : List Int) (x : Int) : zcells (l ++ [x]) = zcells l ++ [.int .i64 x] := by unfold zcells; rw [List.map_append]; rfl
/-- What match answers. -/
def CuMatch (w0 : World) (g : Nat) (body : List UInt8) (ab : Option Addr) (nb cb at_ : Nat) (w : World) (en : Ending) (w' : World) : Prop :=
  ∃ (d : Int) (L : LS) (a2 : Nat), en = .returned (.agg (mt d L).toArray) ∧ I64 d ∧ (∀ v ∈ L.ns, I64 v.1 ∧ U64 v.2) ∧ (∀ v ∈ L.ls, I64 v) ∧ (∀ v ∈ L.vs, I64 v.2) ∧ L.ns.length ≤ nb ∧ L.ls.length ≤ nb ∧ L.vs.length ≤ nb ∧
    CS w0 g body ab nb cb a2 w' ∧ w.grownBy w' (some g) ∧ w'.ownsRow w.heap.size 89 2 (.slice L.an L.ns.length L.cn) L.ns.length (ncells L.ns) ∧ w'.ownsRow w.heap.size 3 1 (.slice L.al L.ls.length L.cl) L.ls.length (zcells L.ls) ∧ w'.ownsRow w.heap.size 74 2 (.slice L.av L.vs.length L.cv) L.vs.length (vcells L.vs) ∧
    (∀ x r, VX x → body.drop at_ = encMatch x ++ r → d = x.dec ∧ L.ns = x.names ∧ L.ls = x.lens ∧ L.vs = x.vals ∧ body.drop a2 = r)
set_option maxHeartbeats 4000000 in
set_option maxRecDepth 20000 in
theorem cu_match {w0 : World} {g : Nat} {body : List UInt8} {ab : Option Addr} {nb cb at_ : Nat} {w : World} (hc : RC w0 g body ab nb cb) (h : CS w0 g body ab nb cb at_ w) (hgw : g < w.heap.size) (hnb : nb ≤ 1073741824) :
    Calls Try.prog 60 #[.pointer (some ⟨g, 0, none⟩)] w (CuMatch w0 g body ab nb cb at_ w) := by
  obtain ⟨wa, hwa⟩ : ∃ wa, wa = (w.alloc (.cells #[.int .i64 0, .slice none 0 0, .slice none 0 0, .slice none 0 0] 44)).alloc (.cells #[.int .i64 0, .slice none 0 0, .slice none 0 0, .slice none 0 0] 44) := ⟨_, rfl⟩
  have hba : Below w.heap.size w wa := by rw [hwa]; exact ((Below.refl _ _).alloc (Nat.le_refl _) _).alloc (by simp) _
  have hka : Blk wa w.heap.size 44 (mt 0 ls0) := by rw [hwa]; exact (Blk.new w _ 44).alloc _
  have hsz : wa.heap.size = w.heap.size + 2 := by rw [hwa]; simp
  have hra : Blk wa (w.heap.size + 1) 44 (mt 0 ls0) := by
    have := Blk.new (w.alloc (.cells #[.int .i64 0, .slice none 0 0, .slice none 0 0, .slice none 0 0] 44)) (mt 0 ls0) 44
    rw [World.size_alloc] at this
    rw [hwa]
    exact this
  go_enter Try.func60, Try.ntmps60
  go_upto_region 2 with fail
  rw [← hwa]
  obtain ⟨r, hr⟩ : ∃ x, x = w.heap.size := ⟨_, rfl⟩
  rw [← hr] at hka hra hsz ⊢
  have HK : Hid (MK w0 g r body ab nb cb w) := Lib.hid ⟨hc, by omega, hr, hnb⟩
  have HZ0 : Hid (MZ w0 g r body ab nb cb w at_ 0 ls0 wa) := Lib.hid ⟨h.below hba, hra, hka, World.ownsRow_nil _ _ _ _, World.ownsRow_nil _ _ _ _, World.ownsRow_nil _ _ _ _, grown_below hba, by omega⟩
  have HR := Lib.hid hr
  clear hwa hba hka hra hsz hc h hgw hr
  go_wp2_with fail
  refine (cu_int HK.out.rc HZ0.out.cs).mono ?_
  rintro e w1 ⟨dd, a1, rfl, hdd, hcs, hg, hgot⟩
  have HZ1 := Lib.hid (HZ0.out.cur HK.out hcs hg)
  have HD := Lib.hid hdd
  have HGD := Lib.hid hgot
  clear hdd hcs hg hgot
  have c0 := HZ1.out.blk.cell 0 (by simp [mt])
  have f0 := HZ1.out.blk.frozen 0
  have hset := HZ1.out.setD HK.out dd
  obtain ⟨w2, hw2⟩ : ∃ x, x = w1.setCell ⟨r + 1, 0, none⟩ (.int .i64 dd) := ⟨_, rfl⟩
  rw [← hw2] at hset
  have HZ2 := Lib.hid hset
  have HWW := Lib.hid hw2
  clear hset hw2
  go_upto_region 3 with fail
  rw [← HWW.out]
  clear HWW c0 f0
  go_wp2_with fail
  refine (cu_count HK.out.rc HZ2.out.cs).mono ?_
  rintro e w3 ⟨n1, a3, rfl, hn1, hcs, hg, hgot⟩
  have HZ3 := Lib.hid (HZ2.out.cur HK.out hcs hg)
  have HC1 := Lib.hid hgot
  have HN1 := Lib.hid hn1
  clear hcs hg hgot hn1
  go_wp2_with fail
  obtain ⟨W3, hW3⟩ : ∃ x, x = w3 := ⟨_, rfl⟩
  rw [← hW3] at HZ3 ⊢
  clear hW3
  go_loopw [5] (fun i wr => ∃ (j : Nat) (ns : List (Int × Int)) (an : Option Addr) (cn aj : Nat), i = .int .i64 (j : Int) ∧ j ≤ n1 ∧ ns.length = j ∧ (∀ v ∈ ns, I64 v.1 ∧ U64 v.2) ∧ MZ w0 g r body ab nb cb w aj dd { ls0 with ns := ns, an := an, cn := cn } wr ∧ GotL body a3 aj n1 j encName (fun x => I64 x.1 ∧ U64 x.2) ns) (fun i _ => n1 - (intOf i).toNat)
  case atStart => exact ⟨0, [], none, 0, a3, rfl, Nat.zero_le _, rfl, fun v hv => by simp at hv, HZ3.out, GotL.start⟩
  case round =>
    obtain ⟨j, ns, an, cn, aj, rfl, hj, hlj, hI, hz, hgl⟩ := hrel
    have HZ := Lib.hid hz
    have HGL := Lib.hid hgl
    have HI := Lib.hid hI
    have HLJ := Lib.hid hlj
    clear hz hgl hI hlj
    by_cases hlt : j < n1
    · have hlt' : (j : Int) < n1 := by omega
      have HME := Lib.hid (meas_lt hlt)
      have hjn : j + 1 ≤ n1 := hlt
      have hnb1 : n1 ≤ 1073741824 := by have := HN1.out; have := HK.out.nb; omega
      obtain ⟨W1, hW1⟩ : ∃ x, x = wr.alloc (.cells #[.int .i64 0, .int .u64 0] 89) := ⟨_, rfl⟩
      have hb1 : Below wr.heap.size wr W1 := by rw [hW1]; exact (Below.refl _ _).alloc (Nat.le_refl _) _
      have hbt1 : Blk W1 wr.heap.size 89 [.int .i64 0, .int .u64 0] := by rw [hW1]; exact Blk.new wr [.int .i64 0, .int .u64 0] 89
      have HWW := Lib.hid hW1
      clear hW1
      go_upto_region 8 with fail
      rw [← HWW.out]
      clear HWW
      have hz1 := HZ.out.below hb1
      obtain ⟨t, ht⟩ : ∃ x, x = wr.heap.size := ⟨_, rfl⟩
      rw [← ht] at hbt1 ⊢
      have htg : t ≠ g := by have h1 := HZ.out.sz; have h2 := HK.out.lt; omega
      have htr : t ≠ r + 1 := by have h1 := HZ.out.sz; omega
      have HT : Hid (wr.heap.size ≤ t) := Lib.hid (Nat.le_of_eq ht.symm)
      have HZA := Lib.hid hz1
      have HBT1 := Lib.hid hbt1
      clear ht hb1 hz1 hbt1
      go_wp2_with fail
      refine (cu_int HK.out.rc HZA.out.cs).mono ?_
      rintro e W2 ⟨v, a2, rfl, hv, hcs, hg, hgot⟩
      have HZB := Lib.hid (HZA.out.cur HK.out hcs hg)
      have hbt2 := blk_g htg HBT1.out hg
      have HV := Lib.hid hv
      have HG1 := Lib.hid hgot
      clear hcs hg hgot hv
      have ct := hbt2.cell 0 (by simp)
      have ft := hbt2.frozen 0
      have hs := hbt2.setCell 0 (.int .i64 v)
      obtain ⟨W3', hW3'⟩ : ∃ x, x = W2.setCell ⟨t, 0, none⟩ (.int .i64 v) := ⟨_, rfl⟩
      rw [← hW3'] at hs
      have HZC := Lib.hid (HZB.out.fresh HK.out HZ.out HT.out hs.2)
      have HBT3 := Lib.hid hs.1
      have HWW := Lib.hid hW3'
      clear hs hbt2 hW3'
      go_upto_region 9 with fail
      rw [← HWW.out]
      clear HWW ct ft
      go_wp2_with fail
      refine (cu_uint HK.out.rc HZC.out.cs).mono ?_
      rintro e W4 ⟨u, a4, rfl, hu, hcs, hg, hgot⟩
      have HZD := Lib.hid (HZC.out.cur HK.out hcs hg)
      have hbt4 := blk_g htg HBT3.out hg
      have HU := Lib.hid hu
      have HG2 := Lib.hid hgot
      clear hcs hg hgot hu
      have ct := hbt4.cell 1 (by simp)
      have ft := hbt4.frozen 1
      have hs := hbt4.setCell 1 (.int .u64 (u : Int))
      obtain ⟨W5, hW5⟩ : ∃ x, x = W4.setCell ⟨t, 1, none⟩ (.int .u64 (u : Int)) := ⟨_, rfl⟩
      rw [← hW5] at hs
      have HZE := Lib.hid (HZD.out.fresh HK.out HZ.out HT.out hs.2)
      have hbt5 := hs.1
      have HWW := Lib.hid hW5
      clear hs hbt4 hW5
      go_upto_region 10 with fail
      rw [← HWW.out]
      clear HWW ct ft
      have t0 : W5.cell? ⟨t, 0, none⟩ = some (.int .i64 v) := hbt5.cell 0 (by simp)
      have t1 : W5.cell? ⟨t, 1, none⟩ = some (.int .u64 (u : Int)) := hbt5.cell 1 (by simp)
      have cx : W5.cell? ⟨r + 1, 1, none⟩ = some (.slice an ns.length cn) := HZE.out.blk.cell 1 (by simp [mt])
      have hoN := HZE.out.oN
      dsimp only [ls0] at hoN
      have hbase : r + 2 ≤ W5.heap.size := HZE.out.sz
      have hnn : ns.length ≤ 1073741824 := by rw [HLJ.out]; have := HN1.out; have := HK.out.nb; omega
      obtain ⟨i0, hi, hz0, hz1, hz2⟩ := info_parts info89
      have HPAIR : Hid (GotL body a3 a4 n1 (j + 1) encName (fun x => I64 x.1 ∧ U64 x.2) (ns ++ [(v, (u : Int))])) := Lib.hid (HGL.out.next hlt (got_pair HG1.out HG2.out))
      clear hbt5
      go_wp2_with (first | (at_builtin; refine wpList_append_one W5 rfl _ _ 40 rfl (r + 2) 89 i0 _ 2 16 Try.underlying40 hi hz0 hz1 hz2 rfl (by decide) (.slice an ns.length cn) ns.length (ncells ns) #[.int .i64 v, .int .u64 (u : Int)] rfl hoN rfl rfl (by intro z hz; simp at hz; rcases hz with rfl | rfl <;> rfl) (by unfold maxLen; omega) (by omega) hbase ?_; intro a' c' W7 ho hb hm; (have happ := HZE.out.appN HK.out hm ho (v, (u : Int)) (by rw [ncells_snoc]); obtain ⟨⟨cx7, fx7⟩, hz7⟩ := happ)) | fail)
      have HNX : Hid (∃ (j' : Nat) (ns' : List (Int × Int)) (an' : Option Addr) (cn' aj' : Nat), Value.int .i64 ((j : Int) + 1) = .int .i64 (j' : Int) ∧ j' ≤ n1 ∧ ns'.length = j' ∧ (∀ v ∈ ns', I64 v.1 ∧ U64 v.2) ∧ MZ w0 g r body ab nb cb w aj' dd { ls0 with ns := ns', an := an', cn := cn' } (W7.setCell ⟨r + 1, 1, none⟩ (.slice a' (ns.length + 1) c')) ∧ GotL body a3 aj' n1 j' encName (fun x => I64 x.1 ∧ U64 x.2) ns') :=
        Lib.hid ⟨j + 1, ns ++ [(v, (u : Int))], a', c', a4, rfl, hjn, by rw [List.length_append, HLJ.out]; rfl, fun z hz => by
          rcases List.mem_append.1 hz with hz | hz
          · exact HI.out z hz
          · rw [List.mem_singleton.1 hz]; exact ⟨HV.out, by have := HU.out; unfold U64; simp only; omega⟩, hz7, HPAIR.out⟩
      clear hz7 ho hb hm hoN t0 t1 cx
      go_wp2
      go_roundw
      case rel => exact HNX.out
      case measure => exact HME.out
    · have hlt' : ¬ (j : Int) < n1 := by omega
      obtain rfl : j = n1 := by omega
      obtain ⟨wo, hwo⟩ : ∃ x, x = wr := ⟨_, rfl⟩
      subst hwo
      obtain ⟨L1, hL1⟩ : ∃ x : LS, x = { ls0 with ns := ns, an := an, cn := cn } := ⟨_, rfl⟩
      have HL1 := Lib.hid hL1
      have HZX : Hid (MZ w0 g r body ab nb cb w aj dd L1 wo) := Lib.hid (by rw [hL1]; exact HZ.out)
      have HGN := Lib.hid HGL.out
      have HIN := Lib.hid HI.out
      have HLN := Lib.hid HLJ.out
      clear hL1 HZ HGL HI HLJ
      go_wp2_with fail
      refine (cu_count HK.out.rc HZX.out.cs).mono ?_
      rintro e w4 ⟨n2, a4, rfl, hn2, hcs, hg, hgot⟩
      have HZ4 := Lib.hid (HZX.out.cur HK.out hcs hg)
      have HC2 := Lib.hid hgot
      have HN2 := Lib.hid hn2
      clear hcs hg hgot hn2 HZX
      go_wp2_with fail
      obtain ⟨W4, hW4⟩ : ∃ x, x = w4 := ⟨_, rfl⟩
      rw [← hW4] at HZ4 ⊢
      clear hW4
      go_loopw [7] (fun i wr => ∃ (j : Nat) (ls : List Int) (al : Option Addr) (cl aj : Nat), i = .int .i64 (j : Int) ∧ j ≤ n2 ∧ ls.length = j ∧ (∀ v ∈ ls, I64 v) ∧ MZ w0 g r body ab nb cb w aj dd { L1 with ls := ls, al := al, cl := cl } wr ∧ GotL body a4 aj n2 j bytesI I64 ls) (fun i _ => n2 - (intOf i).toNat)
      case atStart => exact ⟨0, [], none, 0, a4, rfl, Nat.zero_le _, rfl, fun v hv => by simp at hv, by have h9 := HZ4.out; rw [HL1.out] at h9 ⊢; exact h9, GotL.start⟩
      case round =>
        obtain ⟨k, ls, al, cl, ak, rfl, hk, hlk, hI, hz, hgl⟩ := hrel
        have HZ := Lib.hid hz
        have HGL := Lib.hid hgl
        have HI := Lib.hid hI
        have HLK := Lib.hid hlk
        clear hz hgl hI hlk
        by_cases hlt2 : k < n2
        · have hlt2' : (k : Int) < n2 := by omega
          have HME := Lib.hid (meas_lt hlt2)
          have hkn : k + 1 ≤ n2 := hlt2
          have hnb2 : n2 ≤ 1073741824 := by have := HN2.out; have := HK.out.nb; omega
          go_wp2_with fail
          refine (cu_int HK.out.rc HZ.out.cs).mono ?_
          rintro e W2 ⟨v, a2, rfl, hv, hcs, hg, hgot⟩
          have HZB := Lib.hid (HZ.out.cur HK.out hcs hg)
          have HV := Lib.hid hv
          have HG1 := Lib.hid hgot
          clear hcs hg hgot hv
          have cx : W2.cell? ⟨r + 1, 2, none⟩ = some (.slice al ls.length cl) := HZB.out.blk.cell 2 (by simp [mt])
          have hoL := HZB.out.oL
          dsimp only at hoL
          have hbase : r + 2 ≤ W2.heap.size := HZB.out.sz
          have hnn : ls.length ≤ 1073741824 := by rw [HLK.out]; have := HN2.out; have := HK.out.nb; omega
          obtain ⟨i0, hi, hz0, hz1, hz2⟩ := info_parts info3
          have HPAIR : Hid (GotL body a4 a2 n2 (k + 1) bytesI I64 (ls ++ [v])) := Lib.hid (HGL.out.next hlt2 HG1.out)
          go_wp2_with (first | (at_builtin; refine wpList_append_one W2 rfl _ _ 41 rfl (r + 2) 3 i0 _ 1 8 Try.underlying41 hi hz0 hz1 hz2 rfl (by decide) (.slice al ls.length cl) ls.length (zcells ls) #[.int .i64 v] rfl hoL rfl rfl (by intro z hz; simp at hz; subst hz; rfl) (by unfold maxLen; omega) (by omega) hbase ?_; intro a' c' W7 ho hb hm; (have happ := HZB.out.appL HK.out hm ho v (by rw [zcells_snoc]); obtain ⟨⟨cx7, fx7⟩, hz7⟩ := happ)) | fail)
          have HNX : Hid (∃ (k' : Nat) (ls' : List Int) (al' : Option Addr) (cl' ak' : Nat), Value.int .i64 ((k : Int) + 1) = .int .i64 (k' : Int) ∧ k' ≤ n2 ∧ ls'.length = k' ∧ (∀ v ∈ ls', I64 v) ∧ MZ w0 g r body ab nb cb w ak' dd { L1 with ls := ls', al := al', cl := cl' } (W7.setCell ⟨r + 1, 2, none⟩ (.slice a' (ls.length + 1) c')) ∧ GotL body a4 ak' n2 k' bytesI I64 ls') :=
            Lib.hid ⟨k + 1, ls ++ [v], a', c', a2, rfl, hkn, by rw [List.length_append, HLK.out]; rfl, fun z hz => by
              rcases List.mem_append.1 hz with hz | hz
              · exact HI.out z hz
              · rw [List.mem_singleton.1 hz]; exact HV.out, hz7, HPAIR.out⟩
          clear hz7 ho hb hm hoL cx
          go_wp2
          go_roundw
          case rel => exact HNX.out
          case measure => exact HME.out
        · have hlt2' : ¬ (k : Int) < n2 := by omega
          obtain rfl : k = n2 := by omega
          obtain ⟨wp, hwp⟩ : ∃ x, x = wr := ⟨_, rfl⟩
          subst hwp
          obtain ⟨L2, hL2⟩ : ∃ x : LS, x = { L1 with ls := ls, al := al, cl := cl } := ⟨_, rfl⟩
          have HL2 := Lib.hid hL2
          have HZX : Hid (MZ w0 g r body ab nb cb w ak dd L2 wp) := Lib.hid (by rw [hL2]; exact HZ.out)
          have HGLL := Lib.hid HGL.out
          have HILL := Lib.hid HI.out
          have HLLL := Lib.hid HLK.out
          clear hL2 HZ HGL HI HLK
          go_wp2_with fail
          refine (cu_count HK.out.rc HZX.out.cs).mono ?_
          rintro e w5 ⟨n3, a5, rfl, hn3, hcs, hg, hgot⟩
          have HZ5 := Lib.hid (HZX.out.cur HK.out hcs hg)
          have HC3 := Lib.hid hgot
          have HN3 := Lib.hid hn3
          clear hcs hg hgot hn3 HZX
          go_wp2_with fail
          obtain ⟨W5, hW5⟩ : ∃ x, x = w5 := ⟨_, rfl⟩
          rw [← hW5] at HZ5 ⊢
          clear hW5
          go_loopw [9] (fun i wr => ∃ (j : Nat) (vs : List (Bool × Int)) (av : Option Addr) (cv aj : Nat), i = .int .i64 (j : Int) ∧ j ≤ n3 ∧ vs.length = j ∧ (∀ v ∈ vs, I64 v.2) ∧ MZ w0 g r body ab nb cb w aj dd { L2 with vs := vs, av := av, cv := cv } wr ∧ GotL body a5 aj n3 j encVal (fun x => I64 x.2 ∧ (x.1 = false → x.2 = 0)) vs) (fun i _ => n3 - (intOf i).toNat)
          case atStart => exact ⟨0, [], none, 0, a5, rfl, Nat.zero_le _, rfl, fun v hv => by simp at hv, by have h9 := HZ5.out; rw [HL2.out, HL1.out] at h9 ⊢; exact h9, GotL.start⟩
          case round =>
            obtain ⟨p, vs, av, cv, ap, rfl, hp, hlp, hI, hz, hgl⟩ := hrel
            have HZ := Lib.hid hz
            have HGL := Lib.hid hgl
            have HI := Lib.hid hI
            have HLP := Lib.hid hlp
            clear hz hgl hI hlp
            by_cases hlt3 : p < n3
            · have hlt3' : (p : Int) < n3 := by omega
              have HME := Lib.hid (meas_lt hlt3)
              have hpn : p + 1 ≤ n3 := hlt3
              have hnb3 : n3 ≤ 1073741824 := by have := HN3.out; have := HK.out.nb; omega
              obtain ⟨W1, hW1⟩ : ∃ x, x = wr.alloc (.cells #[.bool false, .int .i64 0] 74) := ⟨_, rfl⟩
              have hb1 : Below wr.heap.size wr W1 := by rw [hW1]; exact (Below.refl _ _).alloc (Nat.le_refl _) _
              have hbt1 : Blk W1 wr.heap.size 74 [.bool false, .int .i64 0] := by rw [hW1]; exact Blk.new wr [.bool false, .int .i64 0] 74
              have HWW := Lib.hid hW1
              clear hW1
              go_upto_region 22 with fail
              rw [← HWW.out]
              clear HWW
              have hz1 := HZ.out.below hb1
              obtain ⟨t, ht⟩ : ∃ x, x = wr.heap.size := ⟨_, rfl⟩
              rw [← ht] at hbt1 ⊢
              have htg : t ≠ g := by have h1 := HZ.out.sz; have h2 := HK.out.lt; omega
              have HT : Hid (wr.heap.size ≤ t) := Lib.hid (Nat.le_of_eq ht.symm)
              have HZA := Lib.hid hz1
              have HBT1 := Lib.hid hbt1
              clear ht hb1 hz1 hbt1
              go_wp2_with fail
              refine (cu_truth HK.out.rc HZA.out.cs).mono ?_
              rintro e W2 ⟨kb, a2, rfl, _, hcs, hg, hgot⟩
              have HZB := Lib.hid (HZA.out.cur HK.out hcs hg)
              have hbt2 := blk_g htg HBT1.out hg
              have HG1 := Lib.hid hgot
              clear hcs hg hgot
              have ct := hbt2.cell 0 (by simp)
              have ft := hbt2.frozen 0
              have hs := hbt2.setCell 0 (.bool kb)
              obtain ⟨W3', hW3'⟩ : ∃ x, x = W2.setCell ⟨t, 0, none⟩ (.bool kb) := ⟨_, rfl⟩
              rw [← hW3'] at hs
              have HZC := Lib.hid (HZB.out.fresh HK.out HZ.out HT.out hs.2)
              have hbt3 := hs.1
              have HWW := Lib.hid hW3'
              clear hs hbt2 hW3'
              go_upto_region 23 with fail
              rw [← HWW.out]
              clear HWW ct ft
              have u0 : W3'.cell? ⟨t, 0, none⟩ = some (.bool kb) := hbt3.cell 0 (by simp)
              have u1 : W3'.cell? ⟨t, 1, none⟩ = some (.int .i64 0) := hbt3.cell 1 (by simp)
              have HBT3 := Lib.hid hbt3
              clear hbt3
              obtain ⟨i0, hi, hz0, hz1, hz2⟩ := info_parts info74
              have hnn : vs.length ≤ 1073741824 := by rw [HLP.out]; have := HN3.out; have := HK.out.nb; omega
              cases kb with
              | true =>
                go_wp2_with fail
                refine (cu_int HK.out.rc HZC.out.cs).mono ?_
                rintro e W4 ⟨v, a4', rfl, hv, hcs, hg, hgot⟩
                have HZD := Lib.hid (HZC.out.cur HK.out hcs hg)
                have hbt4 := blk_g htg HBT3.out hg
                have HV := Lib.hid hv
                have HPAIR : Hid (GotL body a5 a4' n3 (p + 1) encVal (fun x => I64 x.2 ∧ (x.1 = false → x.2 = 0)) (vs ++ [(true, v)])) := Lib.hid (HGL.out.next hlt3 (got_known HG1.out hgot))
                clear hcs hg hgot hv u0 u1
                have ct := hbt4.cell 1 (by simp)
                have ft := hbt4.frozen 1
                have hs := hbt4.setCell 1 (.int .i64 v)
                obtain ⟨W5', hW5'⟩ : ∃ x, x = W4.setCell ⟨t, 1, none⟩ (.int .i64 v) := ⟨_, rfl⟩
                rw [← hW5'] at hs
                have HZE := Lib.hid (HZD.out.fresh HK.out HZ.out HT.out hs.2)
                have hbt5 := hs.1
                have HWW := Lib.hid hW5'
                clear hs hbt4 hW5'
                go_upto_region 25 with fail
                rw [← HWW.out]
                clear HWW ct ft
                have t0 : W5'.cell? ⟨t, 0, none⟩ = some (.bool true) := hbt5.cell 0 (by simp)
                have t1 : W5'.cell? ⟨t, 1, none⟩ = some (.int .i64 v) := hbt5.cell 1 (by simp)
                clear hbt5
                have cx : W5'.cell? ⟨r + 1, 3, none⟩ = some (.slice av vs.length cv) := HZE.out.blk.cell 3 (by simp [mt])
                have hoV := HZE.out.oV
                dsimp only at hoV
                have hbase : r + 2 ≤ W5'.heap.size := HZE.out.sz
                go_wp2_with (first | (at_builtin; refine wpList_append_one W5' rfl _ _ 42 rfl (r + 2) 74 i0 _ 2 16 Try.underlying42 hi hz0 hz1 hz2 rfl (by decide) (.slice av vs.length cv) vs.length (vcells vs) #[.bool true, .int .i64 v] rfl hoV rfl rfl (by intro z hz; simp at hz; rcases hz with rfl | rfl <;> rfl) (by unfold maxLen; omega) (by omega) hbase ?_; intro a' c' W7 ho hb hm; (have happ := HZE.out.appV HK.out hm ho (true, v) (by rw [vcells_snoc]); obtain ⟨⟨cx7, fx7⟩, hz7⟩ := happ)) | fail)
                have HNX : Hid (∃ (p' : Nat) (vs' : List (Bool × Int)) (av' : Option Addr) (cv' ap' : Nat), Value.int .i64 ((p : Int) + 1) = .int .i64 (p' : Int) ∧ p' ≤ n3 ∧ vs'.length = p' ∧ (∀ v ∈ vs', I64 v.2) ∧ MZ w0 g r body ab nb cb w ap' dd { L2 with vs := vs', av := av', cv := cv' } (W7.setCell ⟨r + 1, 3, none⟩ (.slice a' (vs.length + 1) c')) ∧ GotL body a5 ap' n3 p' encVal (fun x => I64 x.2 ∧ (x.1 = false → x.2 = 0)) vs') :=
                  Lib.hid ⟨p + 1, vs ++ [(true, v)], a', c', a4', rfl, hpn, by rw [List.length_append, HLP.out]; rfl, fun z hz => by
                    rcases List.mem_append.1 hz with hz | hz
                    · exact HI.out z hz
                    · rw [List.mem_singleton.1 hz]; exact HV.out, hz7, HPAIR.out⟩
                clear hz7 ho hb hm hoV cx
                go_wp2
                go_roundw
                case rel => exact HNX.out
                case measure => exact HME.out
              | false =>
                have HPAIR : Hid (GotL body a5 a2 n3 (p + 1) encVal (fun x => I64 x.2 ∧ (x.1 = false → x.2 = 0)) (vs ++ [(false, 0)])) := Lib.hid (HGL.out.next hlt3 (got_unknown HG1.out))
                go_upto_region 25 with fail
                have cx : W3'.cell? ⟨r + 1, 3, none⟩ = some (.slice av vs.length cv) := HZC.out.blk.cell 3 (by simp [mt])
                have hoV := HZC.out.oV
                dsimp only at hoV
                have hbase : r + 2 ≤ W3'.heap.size := HZC.out.sz
                go_wp2_with (first | (at_builtin; refine wpList_append_one W3' rfl _ _ 42 rfl (r + 2) 74 i0 _ 2 16 Try.underlying42 hi hz0 hz1 hz2 rfl (by decide) (.slice av vs.length cv) vs.length (vcells vs) #[.bool false, .int .i64 0] rfl hoV rfl rfl (by intro z hz; simp at hz; rcases hz with rfl | rfl <;> rfl) (by unfold maxLen; omega) (by omega) hbase ?_; intro a' c' W7 ho hb hm; (have happ := HZC.out.appV HK.out hm ho (false, 0) (by rw [vcells_snoc]); obtain ⟨⟨cx7, fx7⟩, hz7⟩ := happ)) | fail)
                have HNX : Hid (∃ (p' : Nat) (vs' : List (Bool × Int)) (av' : Option Addr) (cv' ap' : Nat), Value.int .i64 ((p : Int) + 1) = .int .i64 (p' : Int) ∧ p' ≤ n3 ∧ vs'.length = p' ∧ (∀ v ∈ vs', I64 v.2) ∧ MZ w0 g r body ab nb cb w ap' dd { L2 with vs := vs', av := av', cv := cv' } (W7.setCell ⟨r + 1, 3, none⟩ (.slice a' (vs.length + 1) c')) ∧ GotL body a5 ap' n3 p' encVal (fun x => I64 x.2 ∧ (x.1 = false → x.2 = 0)) vs') :=
                  Lib.hid ⟨p + 1, vs ++ [(false, 0)], a', c', a2, rfl, hpn, by rw [List.length_append, HLP.out]; rfl, fun z hz => by
                    rcases List.mem_append.1 hz with hz | hz
                    · exact HI.out z hz
                    · rw [List.mem_singleton.1 hz]; exact (by unfold I64; decide), hz7, HPAIR.out⟩
                clear hz7 ho hb hm hoV cx
                go_wp2
                go_roundw
                case rel => exact HNX.out
                case measure => exact HME.out
            · have hlt3' : ¬ (p : Int) < n3 := by omega
              obtain rfl : p = n3 := by omega
              obtain ⟨L3, hL3⟩ : ∃ x : LS, x = { L2 with vs := vs, av := av, cv := cv } := ⟨_, rfl⟩
              have hz := HZ.out
              rw [← hL3] at hz
              have HL3 := Lib.hid hL3
              have hrg : wr.rangeAt (r + 1) 0 (mt dd L3) := by
                have h9 := hz.blk.range 0 4 (by simp [mt])
                simpa [mt] using h9
              have hth : wr.there r 0 4 := hz.res.there 0 4 (by simp [mt])
              have hset := Blk.setCells (mt dd L3) 0 _ _ hz.res (by simp [mt])
              rw [spl_all (show (mt dd L3).length = (mt 0 ls0).length from rfl)] at hset
              have hl := HK.out.lt
              have hrr := HK.out.r
              have h00 := HK.out.rc.base
              have hcs : CS w0 g body ab nb cb ap (wr.setCells r 0 (mt dd L3)) := hz.cs.other hset.2 (by omega) (by omega)
              have hgw : w.grownBy (wr.setCells r 0 (mt dd L3)) (some g) := grown_mix hz.grown hset.2 (by omega)
              have hoN := hz.oN.kept hset.2 (own_ne_of_lt hz.oN (.inl (by omega)))
              have hoL := hz.oL.kept hset.2 (own_ne_of_lt hz.oL (.inl (by omega)))
              have hoV := hz.oV.kept hset.2 (own_ne_of_lt hz.oV (.inl (by omega)))
              have hrf : (wr.setCells r 0 (mt dd L3)).rangeAt r 0 (mt dd L3) := by
                have h9 := hset.1.range 0 4 (by simp [mt])
                simpa [mt] using h9
              have HEND : Hid (CuMatch w0 g body ab nb cb at_ w (.returned (.agg (mt dd L3).toArray)) (wr.setCells r 0 (mt dd L3))) := by
                have e1 : L3.ns = ns := by rw [hL3, HL2.out, HL1.out]
                have e2 : L3.ls = ls := by rw [hL3, HL2.out]
                have e3 : L3.vs = vs := by rw [hL3]
                have q1 := HN1.out
                have q2 := HN2.out
                have q3 := HN3.out
                refine Lib.hid ⟨dd, L3, ap, rfl, HD.out, by rw [e1]; exact HIN.out, by rw [e2]; exact HILL.out, by rw [e3]; exact HI.out, by rw [e1, HLN.out]; omega, by rw [e2, HLLL.out]; omega, by rw [e3, HLP.out]; omega, hcs, hgw, own_low hoN (by omega), own_low hoL (by omega), own_low hoV (by omega), fun x s hx h9 => ?_⟩
                unfold encMatch encNames encLens encVals at h9
                simp only [List.append_assoc] at h9
                have x1 := hx.1.nl
                have x2 := hx.1.ll
                have x3 := hx.1.vl
                obtain ⟨k1, k2⟩ := HGD.out x.dec _ hx.1.dec h9
                obtain ⟨k3, k4⟩ := HC1.out x.names.length _ ⟨by have := flat_ge encName encName_pos x.names; simp only [List.length_append]; omega, by omega⟩ k2
                obtain ⟨k5, k6⟩ := HGN.out.done x.names _ hx.1.names k3.symm k4
                obtain ⟨k7, k8⟩ := HC2.out x.lens.length _ ⟨by have := flat_ge bytesI bytesI_pos x.lens; simp only [List.length_append]; omega, by omega⟩ k6
                obtain ⟨m1, m2⟩ := HGLL.out.done x.lens _ hx.1.lens k7.symm k8
                obtain ⟨m3, m4⟩ := HC3.out x.vals.length _ ⟨by have := flat_ge encVal encVal_pos x.vals; simp only [List.length_append]; omega, by omega⟩ m2
                obtain ⟨m5, m6⟩ := HGL.out.done x.vals _ (fun v hv => ⟨hx.1.vals v hv, hx.2.2 v hv⟩) m3.symm m4
                exact ⟨k1, by rw [e1, k5], by rw [e2, m1], by rw [e3, m5], m6⟩
              have HRF := Lib.hid hrf
              clear hz hset hcs hgw hoN hoL hoV hl hrr h00 hL3 hrf
              go_wp2_with (first | ((with_reducible refine at_dst 69 ?_); refine wpList_load_midg rfl _ _ rfl _ _ rfl _ _ hrg Try.underlying44 rfl (by kernel_rfl) ?_) | ((with_reducible refine at_store ?_); refine wpList_store_mid rfl 44 _ _ rfl r 0 (mt dd L3).toArray rfl rfl hth (by kernel_rfl) (by kernel_rfl) ?_) | fail)
              refine bodyPost_ret (results_cell rfl _ _ _ r 0 (.agg (mt dd L3).toArray) rfl (run_loadVar_mid _ r 0 44 (mt dd L3) _ HRF.out Try.underlying44 rfl (by kernel_rfl))) rfl ?_
              exact HEND.out


end Go.Proofs.Ytaipnbpefdcejaa
