/- SaveEncodes, plain part A: names and trees: what the program's Tree asks is what the reference's asks (no program in sight). -/
import Derived.KernelRfl
set_option linter.unusedVariables false
namespace Go.Proofs.YtfglgpbjjpoimaaGreatDoor.Sv

abbrev Str := List UInt8
def isUp (c : UInt8) : Bool := 65 ≤ c && c ≤ 90
def isLo (c : UInt8) : Bool := 97 ≤ c && c ≤ 122
def isDg (c : UInt8) : Bool := 48 ≤ c && c ≤ 57
def wordB (c : UInt8) : Bool := isUp c || isLo c || isDg c || c == 95
def upB (c : UInt8) : UInt8 := if isLo c then c - 97 + 65 else c
/-- Is it a name? 'kws': the keywords. -/
def nameB (kws : List Str) (s : Str) : Bool := decide (1 ≤ s.length) && decide (s.length ≤ 16) && !(isDg (s.headD 0)) && s.all wordB && !(kws.contains (s.map upB))

/-! Nodes and trees. -/
structure Nd where
 op : Int
 n : Int
 var : Str
 attr : Str
 a : Int
 b : Int
deriving DecidableEq

def opsP (o : Int) : Int := if 1 ≤ o ∧ o ≤ 11 then 0 else if o = 12 ∨ o = 13 then 1 else if 14 ≤ o ∧ o ≤ 26 then 2 else -1
def fieldsP (nm : Str → Bool) (x : Nd) : Bool :=
 (if x.op = 1 then decide (0 ≤ x.n) else decide (x.n = 0)) &&
 (if 4 ≤ x.op ∧ x.op ≤ 11 then nm x.var else x.var.isEmpty) &&
 (if 4 ≤ x.op ∧ x.op ≤ 11 ∧ x.op ≠ 5 then nm x.attr else x.attr.isEmpty)
/-- One node, the roots of the trees so far behind it (the last first). -/
def stepP (nm : Str → Bool) (i : Nat) (st : List Nat) (x : Nd) : Option (List Nat) :=
 if fieldsP nm x = true then
  if opsP x.op = 0 then (if x.a = -1 ∧ x.b = -1 then some (i :: st) else none)
  else if opsP x.op = 1 then (match st with | p :: r => if x.a = (p : Int) ∧ x.b = -1 then some (i :: r) else none | [] => none)
  else if opsP x.op = 2 then (match st with | q :: p :: r => if x.a = (p : Int) ∧ x.b = (q : Int) then some (i :: r) else none | _ => none)
  else none
 else none
def runP (nm : Str → Bool) : List Nd → Nat → List Nat → Option (List Nat)
 | [], _, st => some st
 | x :: t, i, st => (stepP nm i st x).bind (runP nm t (i + 1))
def treeB (nm : Str → Bool) (t : List Nd) : Bool := match runP nm t 0 [] with | some [_] => true | _ => false
theorem runP_append (nm : Str → Bool) (t u : List Nd) (i : Nat) (st : List Nat) : runP nm (t ++ u) i st = (runP nm t i st).bind (runP nm u (i + t.length)) := by
 induction t generalizing i st with
 | nil => simp [runP]
 | cons x t ih =>
  simp only [List.cons_append, runP, List.length_cons]
  cases stepP nm i st x with
  | none => rfl
  | some s =>
   simp only [Option.bind_some]
   rw [ih]
   congr 2
   omega

/-! The reference's: where each node's tree begins. -/
def leafR (nm : Str → Bool) (x : Nd) : Bool :=
  decide (x.a = -1) && decide (x.b = -1) &&
  (if x.op = 1 then decide (0 ≤ x.n) && x.var.isEmpty && x.attr.isEmpty
   else if x.op = 2 ∨ x.op = 3 then decide (x.n = 0) && x.var.isEmpty && x.attr.isEmpty
   else if x.op = 5 then decide (x.n = 0) && nm x.var && x.attr.isEmpty
   else if x.op = 4 ∨ (6 ≤ x.op ∧ x.op ≤ 11) then decide (x.n = 0) && nm x.var && nm x.attr else false)
def bareR (x : Nd) : Bool := decide (x.n = 0) && x.var.isEmpty && x.attr.isEmpty
/-- The next entry, given the entries so far. -/
def stepR (nm : Str → Bool) (l : List Nat) (x : Nd) : Option Nat :=
 if leafR nm x = true then some l.length
 else if x.op = 12 ∨ x.op = 13 then (if bareR x = true ∧ 1 ≤ l.length ∧ x.a = (l.length : Int) - 1 ∧ x.b = -1 then l[l.length - 1]? else none)
 else if 14 ≤ x.op ∧ x.op ≤ 26 then (if bareR x = true ∧ 1 ≤ l.length ∧ x.b = (l.length : Int) - 1 ∧ 1 ≤ l.getD (l.length - 1) 0 ∧ x.a = (l.getD (l.length - 1) 0 : Int) - 1 then l[l.getD (l.length - 1) 0 - 1]? else none)
 else none
def runR (nm : Str → Bool) : List Nd → List Nat → Option (List Nat)
 | [], l => some l
 | x :: t, l => (stepR nm l x).bind fun v => runR nm t (l ++ [v])
theorem runR_append (nm : Str → Bool) (t u : List Nd) (l : List Nat) : runR nm (t ++ u) l = (runR nm t l).bind (runR nm u) := by
 induction t generalizing l with
 | nil => simp [runR]
 | cons x t ih =>
  simp only [List.cons_append, runR]
  cases stepR nm l x with
  | none => rfl
  | some v => simp only [Option.bind_some]; rw [ih]

/-- The roots behind one another: the last is the end; each lies just ahead of where the next begins. -/
inductive Rel (l : List Nat) : Nat → List Nat → Prop where
 | nil : Rel l 0 []
 | cons {i r : Nat} {st : List Nat} (h : l[i]? = some r) (hr : r ≤ i) (t : Rel l r st) : Rel l (i + 1) (i :: st)
theorem Rel.snoc {l : List Nat} {k : Nat} {st : List Nat} (h : Rel l k st) (v : Nat) (hk : k ≤ l.length) : Rel (l ++ [v]) k st := by
 induction h with
 | nil => exact .nil
 | cons h hr t ih =>
  refine .cons ?_ hr (ih (by omega))
  rw [List.getElem?_append_left (by omega)]
  exact h
theorem leaf_iff (nm : Str → Bool) (x : Nd) : leafR nm x = true ↔ fieldsP nm x = true ∧ opsP x.op = 0 ∧ x.a = -1 ∧ x.b = -1 := by
 unfold leafR fieldsP opsP
 by_cases h1 : x.op = 1
 ·simp [h1]; constructor <;> (intro h; simp_all)
 ·by_cases h2 : x.op = 2 ∨ x.op = 3
  ·rcases h2 with h2 | h2 <;> (simp [h2]; constructor <;> (intro h; simp_all))
  ·by_cases h5 : x.op = 5
   ·simp [h5]; constructor <;> (intro h; simp_all)
   ·by_cases h4 : x.op = 4 ∨ (6 ≤ x.op ∧ x.op ≤ 11)
    ·have h6 : 4 ≤ x.op ∧ x.op ≤ 11 := by omega
     have h7 : 1 ≤ x.op ∧ x.op ≤ 11 := by omega
     simp [h1, h2, h5, h6, h7]
     constructor <;> (intro h; simp_all)
    ·have h7 : ¬ (1 ≤ x.op ∧ x.op ≤ 11) := by omega
     simp [h1, h2, h5, h4, h7]
     intro _
     split
     ·omega
     ·split <;> omega
theorem bare_iff (nm : Str → Bool) (x : Nd) (h : 12 ≤ x.op) : bareR x = true ↔ fieldsP nm x = true := by
 unfold bareR fieldsP
 have h1 : ¬ x.op = 1 := by omega
 have h2 : ¬ (4 ≤ x.op ∧ x.op ≤ 11) := by omega
 have h3 : ¬ (4 ≤ x.op ∧ x.op ≤ 11 ∧ x.op ≠ 5) := by omega
 simp [h1, h2, h3]
theorem stepP_0 (nm : Str → Bool) (i : Nat) (st : List Nat) (x : Nd) (hf : fieldsP nm x = true) (ho : opsP x.op = 0) : stepP nm i st x = if x.a = -1 ∧ x.b = -1 then some (i :: st) else none := by
 unfold stepP; rw [if_pos hf, if_pos ho]
theorem stepP_1 (nm : Str → Bool) (i : Nat) (st : List Nat) (x : Nd) (hf : fieldsP nm x = true) (ho : opsP x.op = 1) :
  stepP nm i st x = match st with | p :: r => if x.a = (p : Int) ∧ x.b = -1 then some (i :: r) else none | [] => none := by
 unfold stepP; rw [if_pos hf, if_neg (by rw [ho]; decide), if_pos ho]
theorem stepP_2 (nm : Str → Bool) (i : Nat) (st : List Nat) (x : Nd) (hf : fieldsP nm x = true) (ho : opsP x.op = 2) :
  stepP nm i st x = match st with | q :: p :: r => if x.a = (p : Int) ∧ x.b = (q : Int) then some (i :: r) else none | _ => none := by
 unfold stepP; rw [if_pos hf, if_neg (by rw [ho]; decide), if_neg (by rw [ho]; decide), if_pos ho]
theorem stepP_no (nm : Str → Bool) (i : Nat) (st : List Nat) (x : Nd) (h : fieldsP nm x = true → opsP x.op = -1) : stepP nm i st x = none := by
 unfold stepP
 by_cases hf : fieldsP nm x = true
 ·have := h hf
  rw [if_pos hf, this]
  simp
 ·rw [if_neg hf]
theorem stepR_0 (nm : Str → Bool) (l : List Nat) (x : Nd) (h : leafR nm x = true) : stepR nm l x = some l.length := by unfold stepR; rw [if_pos h]
theorem stepR_1 (nm : Str → Bool) (l : List Nat) (x : Nd) (h : ¬ leafR nm x = true) (ho : x.op = 12 ∨ x.op = 13) :
  stepR nm l x = if bareR x = true ∧ 1 ≤ l.length ∧ x.a = (l.length : Int) - 1 ∧ x.b = -1 then l[l.length - 1]? else none := by unfold stepR; rw [if_neg h, if_pos ho]
theorem stepR_2 (nm : Str → Bool) (l : List Nat) (x : Nd) (h : ¬ leafR nm x = true) (ho : 14 ≤ x.op ∧ x.op ≤ 26) :
  stepR nm l x = if bareR x = true ∧ 1 ≤ l.length ∧ x.b = (l.length : Int) - 1 ∧ 1 ≤ l.getD (l.length - 1) 0 ∧ x.a = (l.getD (l.length - 1) 0 : Int) - 1 then l[l.getD (l.length - 1) 0 - 1]? else none := by
 unfold stepR; rw [if_neg h, if_neg (by omega), if_pos ho]
theorem stepR_no (nm : Str → Bool) (l : List Nat) (x : Nd) (h : ¬ leafR nm x = true) (h1 : ¬ (x.op = 12 ∨ x.op = 13)) (h2 : ¬ (14 ≤ x.op ∧ x.op ≤ 26)) : stepR nm l x = none := by
 unfold stepR; rw [if_neg h, if_neg h1, if_neg h2]
/-- One step: both go on, or neither. -/
theorem step_same (nm : Str → Bool) (l st : List Nat) (x : Nd) (h : Rel l l.length st) :
  (∃ v, stepR nm l x = some v ∧ v ≤ l.length ∧ ∃ st', stepP nm l.length st x = some st' ∧ Rel (l ++ [v]) (l.length + 1) st') ∨ (stepR nm l x = none ∧ stepP nm l.length st x = none) := by
 by_cases hl : leafR nm x = true
 ·obtain ⟨h1, h2, h3, h4⟩ := (leaf_iff nm x).1 hl
  left
  rw [stepR_0 nm l x hl, stepP_0 nm l.length st x h1 h2, if_pos ⟨h3, h4⟩]
  exact ⟨_, rfl, Nat.le_refl _, _, rfl, .cons (by simp) (Nat.le_refl _) (h.snoc _ (Nat.le_refl _))⟩
 ·by_cases h1 : x.op = 12 ∨ x.op = 13
  ·have ho : opsP x.op = 1 := by unfold opsP; rw [if_neg (by omega), if_pos h1]
   rw [stepR_1 nm l x hl h1]
   have hb := bare_iff nm x (by omega)
   by_cases hf : fieldsP nm x = true
   ·rw [stepP_1 nm _ st x hf ho]
    have hbt := hb.2 hf
    generalize hk : l.length = k at h ⊢
    cases h with
    | nil => right; exact ⟨if_neg (by omega), rfl⟩
    | cons hr hle t =>
     rename_i i r st'
     by_cases hc : x.a = (i : Int) ∧ x.b = -1
     ·left
      refine ⟨r, ?_, by omega, (i + 1) :: st', ?_, .cons ?_ (by omega) (t.snoc _ (by omega))⟩
      ·rw [if_pos ⟨hbt, by omega, by omega, hc.2⟩]; exact hr
      ·exact if_pos hc
      ·rw [← hk]; simp
     ·right
      exact ⟨if_neg (by rintro ⟨_, _, h3, h4⟩; exact hc ⟨by omega, h4⟩), if_neg hc⟩
   ·right
    exact ⟨if_neg (by rintro ⟨h3, _⟩; exact hf (hb.1 h3)), stepP_no nm _ st x (fun h => absurd h hf)⟩
  ·by_cases h2 : 14 ≤ x.op ∧ x.op ≤ 26
   ·have ho : opsP x.op = 2 := by unfold opsP; rw [if_neg (by omega), if_neg h1, if_pos h2]
    rw [stepR_2 nm l x hl h2]
    have hb := bare_iff nm x (by omega)
    by_cases hf : fieldsP nm x = true
    ·rw [stepP_2 nm _ st x hf ho]
     have hbt := hb.2 hf
     generalize hk : l.length = k at h ⊢
     cases h with
     | nil => right; exact ⟨if_neg (by omega), rfl⟩
     | cons hr hle t =>
      rename_i i r st'
      have hd : l.getD i 0 = r := by simp [List.getD, hr]
      rw [Nat.add_sub_cancel, hd]
      cases t with
      | nil => right; exact ⟨if_neg (by omega), rfl⟩
      | cons hr2 hle2 t2 =>
       rename_i j r2 st2
       by_cases hc : x.a = (j : Int) ∧ x.b = (i : Int)
       ·left
        refine ⟨r2, ?_, by omega, (i + 1) :: st2, ?_, .cons ?_ (by omega) (t2.snoc _ (by omega))⟩
        ·rw [if_pos ⟨hbt, by omega, by omega, by omega, by omega⟩]; exact hr2
        ·exact if_pos hc
        ·rw [← hk]; simp
       ·right
        exact ⟨if_neg (by rintro ⟨_, _, h3, _, h4⟩; exact hc ⟨by omega, by omega⟩), if_neg hc⟩
    ·right
     exact ⟨if_neg (by rintro ⟨h3, _⟩; exact hf (hb.1 h3)), stepP_no nm _ st x (fun h => absurd h hf)⟩
   ·right
    refine ⟨stepR_no nm l x hl h1 h2, ?_⟩
    by_cases h0 : 1 ≤ x.op ∧ x.op ≤ 11
    ·have ho : opsP x.op = 0 := by unfold opsP; rw [if_pos h0]
     by_cases hf : fieldsP nm x = true
     ·rw [stepP_0 nm _ st x hf ho, if_neg (by rintro ⟨h3, h4⟩; exact hl ((leaf_iff nm x).2 ⟨hf, ho, h3, h4⟩))]
     ·exact stepP_no nm _ st x (fun h => absurd h hf)
    ·exact stepP_no nm _ st x (fun _ => by unfold opsP; rw [if_neg h0, if_neg h1, if_neg h2])
theorem run_same (nm : Str → Bool) : ∀ (t : List Nd) (l st : List Nat), Rel l l.length st →
  (∃ l' st', runR nm t l = some l' ∧ runP nm t l.length st = some st' ∧ l'.length = l.length + t.length ∧ Rel l' l'.length st') ∨ (runR nm t l = none ∧ runP nm t l.length st = none) := by
 intro t
 induction t with
 | nil => intro l st h; exact .inl ⟨l, st, rfl, rfl, rfl, h⟩
 | cons x t ih =>
  intro l st h
  rcases step_same nm l st x h with ⟨v, h1, hv, st', h2, h3⟩ | ⟨h1, h2⟩
  ·have h4 : (l ++ [v]).length = l.length + 1 := by simp
   rcases ih (l ++ [v]) st' (by rw [h4]; exact h3) with ⟨l', st2, k1, k2, k3, k4⟩ | ⟨k1, k2⟩
   ·left
    refine ⟨l', st2, ?_, ?_, by rw [k3, h4]; simp; omega, k4⟩
    ·simp only [runR, h1, Option.bind_some]; exact k1
    ·simp only [runP, h2, Option.bind_some]; rw [h4] at k2; exact k2
   ·right
    constructor
    ·simp only [runR, h1, Option.bind_some]; exact k1
    ·simp only [runP, h2, Option.bind_some]; rw [h4] at k2; exact k2
  ·right
   constructor
   ·simp only [runR, h1]; rfl
   ·simp only [runP, h2]; rfl
def treeR (nm : Str → Bool) (t : List Nd) : Bool := match runR nm t [] with | some l => !t.isEmpty && l.getD (l.length - 1) 0 == 0 | none => false
theorem tree_same (nm : Str → Bool) (t : List Nd) : treeR nm t = treeB nm t := by
 unfold treeR treeB
 rcases run_same nm t [] [] .nil with ⟨l, st, h1, h2, h3, h4⟩ | ⟨h1, h2⟩
 ·rw [h1]
  have h2' : runP nm t 0 [] = some st := h2
  rw [h2']
  simp only
  have h3' : l.length = t.length := by simpa using h3
  generalize hk : l.length = k at h4 h3' ⊢
  cases h4 with
  | nil =>
   have : t = [] := List.eq_nil_of_length_eq_zero h3'.symm
   simp [this]
  | cons hr hle u =>
   rename_i i r st'
   have hd : l.getD i 0 = r := by simp [List.getD, hr]
   have hne : t.isEmpty = false := by cases t with | nil => simp at h3' | cons _ _ => rfl
   simp only [Nat.add_sub_cancel, hd, hne]
   cases u with
   | nil => simp
   | cons hr2 hle2 u2 => simp
 ·have h2' : runP nm t 0 [] = none := h2
  rw [h1, h2']
end Go.Proofs.YtfglgpbjjpoimaaGreatDoor.Sv
/- SaveEncodes, plain part B: the tokens of a query, written with a bound; the reference's texts are the tokens joined (no program in sight). -/
set_option linter.unusedVariables false
namespace Go.Proofs.YtfglgpbjjpoimaaGreatDoor.Sv

structure Tk where
 kind : Int
 text : Str
 n : Int
deriving DecidableEq
def tk (k : Int) : Tk := ⟨k, [], 0⟩
def num (n : Int) : Tk := ⟨2, [], n⟩
def nme (s : Str) : Tk := ⟨1, s, 0⟩

/-- Trees. -/
inductive Ex where
 | leaf (x : Nd)
 | one (x : Nd) (e : Ex)
 | two (x : Nd) (e f : Ex)
def Ex.top : Ex → Nd
 | .leaf x => x
 | .one x _ => x
 | .two x _ _ => x
def Ex.size : Ex → Nat
 | .leaf _ => 1
 | .one _ e => e.size + 1
 | .two _ e f => e.size + f.size + 1
def levelsL : List Int := [7, 3, 5, 5, 6, 6, 6, 4, 4, 4, 4, 4, 4, 2, 1]
def signsL : List Int := [12, 43, 11, 12, 13, 14, 15, 16, 17, 18, 19, 20, 21, 41, 42]
def lev (o : Int) : Int := if o < 12 then 8 else levelsL.getD (o - 12).toNat 0
def sgn (o : Int) : Int := signsL.getD (o - 12).toNat 0
def leftL (o : Int) : Int := if lev o = 4 then 5 else lev o
def fieldT (x : Nd) : List Tk := [nme x.var, tk 8, nme x.attr]
def leafT (x : Nd) : List Tk :=
 if x.op = 1 then [num x.n] else if x.op = 2 then [tk 44] else if x.op = 3 then [tk 45] else if x.op = 5 then [tk 46, tk 3, nme x.var, tk 4]
 else if x.op = 4 then fieldT x else [tk (47 + (x.op - 6)), tk 3] ++ fieldT x ++ [tk 4]
def bodyT : Ex → List Tk
 | .leaf x => leafT x
 | .one x e => tk (sgn x.op) :: (if lev e.top.op < lev x.op then tk 3 :: (bodyT e ++ [tk 4]) else bodyT e)
 | .two x e f => (if lev e.top.op < leftL x.op then tk 3 :: (bodyT e ++ [tk 4]) else bodyT e) ++ tk (sgn x.op) :: (if lev f.top.op < lev x.op + 1 then tk 3 :: (bodyT f ++ [tk 4]) else bodyT f)
def toksT (n : Int) (e : Ex) : List Tk := if lev e.top.op < n then tk 3 :: (bodyT e ++ [tk 4]) else bodyT e
def bodyD : Ex → Nat
 | .leaf _ => 0
 | .one x e => 1 + (if lev e.top.op < lev x.op then 1 + bodyD e else bodyD e)
 | .two x e f => max (if lev e.top.op < leftL x.op then 1 + bodyD e else bodyD e) (if lev f.top.op < lev x.op + 1 then 1 + bodyD f else bodyD f)
def toksD (n : Int) (e : Ex) : Nat := if lev e.top.op < n then 1 + bodyD e else bodyD e

/-- The writer. -/
structure S where
 out : List Tk
 op : Nat
 deep : Nat
def S.full (s : S) : Bool := decide (400 < s.out.length)
def S.add (s : S) (l : List Tk) : S := { s with out := s.out ++ l }
def S.enter (s : S) (k : Tk) : S := ⟨s.out ++ [k], s.op + 1, max s.deep (s.op + 1)⟩
def S.leave (s : S) (l : List Tk) : S := ⟨s.out ++ l, s.op - 1, s.deep⟩
def nodeS : Ex → Int → S → S
 | .leaf x, n, s => if s.full = true then s else if lev x.op < n then (let s1 := s.enter (tk 3); (if s1.full = true then s1 else s1.add (leafT x)).leave [tk 4]) else s.add (leafT x)
 | .one x e, n, s => if s.full = true then s else if lev x.op < n then (let s1 := s.enter (tk 3); (if s1.full = true then s1 else (nodeS e (lev x.op) (s1.enter (tk (sgn x.op)))).leave []).leave [tk 4])
  else (nodeS e (lev x.op) (s.enter (tk (sgn x.op)))).leave []
 | .two x e f, n, s => if s.full = true then s else if lev x.op < n then (let s1 := s.enter (tk 3); (if s1.full = true then s1 else nodeS f (lev x.op + 1) ((nodeS e (leftL x.op) s1).add [tk (sgn x.op)])).leave [tk 4])
  else nodeS f (lev x.op + 1) ((nodeS e (leftL x.op) s).add [tk (sgn x.op)])
def bodyS : Ex → S → S
 | .leaf x, s => s.add (leafT x)
 | .one x e, s => (nodeS e (lev x.op) (s.enter (tk (sgn x.op)))).leave []
 | .two x e f, s => nodeS f (lev x.op + 1) ((nodeS e (leftL x.op) s).add [tk (sgn x.op)])
theorem nodeS_eq (e : Ex) (n : Int) (s : S) : nodeS e n s = if s.full = true then s else if lev e.top.op < n then (if (s.enter (tk 3)).full = true then s.enter (tk 3) else bodyS e (s.enter (tk 3))).leave [tk 4] else bodyS e s := by
 cases e <;> simp only [nodeS, bodyS, Ex.top] <;> rfl

/-- A step of the writer: what it lays behind what is there, how deep that goes; where there is no room it is full then. -/
structure W (f : S → S) (T : List Tk) (d : Nat) : Prop where
 mono : ∀ s, s.out.length ≤ (f s).out.length
 fits : ∀ s, s.op ≤ s.deep → s.out.length + T.length ≤ 400 → f s = ⟨s.out ++ T, s.op, max s.deep (s.op + d)⟩
 over : ∀ s, s.op ≤ s.deep → 400 < s.out.length + T.length → 400 < (f s).out.length
theorem W.comp {f g : S → S} {T U : List Tk} {d e : Nat} (h : W f T d) (k : W g U e) : W (fun s => g (f s)) (T ++ U) (max d e) := by
 refine ⟨fun s => Nat.le_trans (h.mono s) (k.mono _), fun s hs hl => ?_, fun s hs hl => ?_⟩
 ·rw [List.length_append] at hl
  rw [h.fits s hs (by omega), k.fits _ (by dsimp only; omega) (by dsimp only; rw [List.length_append]; omega)]
  simp only [List.append_assoc, S.mk.injEq, true_and]
  omega
 ·rw [List.length_append] at hl
  by_cases h1 : s.out.length + T.length ≤ 400
  ·rw [h.fits s hs h1]
   exact k.over _ (by dsimp only; omega) (by dsimp only; rw [List.length_append]; omega)
  ·exact Nat.lt_of_lt_of_le (h.over s hs (by omega)) (k.mono _)
theorem W.id : W (fun s => s) [] 0 := ⟨fun s => Nat.le_refl _, fun s hs _ => by cases s; simp at hs ⊢; omega, fun s _ h => by simpa using h⟩
theorem W.add (l : List Tk) : W (fun s => s.add l) l 0 := ⟨fun s => by simp [S.add], fun s hs _ => by cases s; simp [S.add] at hs ⊢; omega, fun s _ h => by simpa [S.add] using h⟩
theorem W.congr {f g : S → S} {T : List Tk} {d : Nat} (h : W f T d) (e : ∀ s, g s = f s) : W g T d := by
 have : g = f := funext e
 rw [this]; exact h

theorem body_pos (e : Ex) : 0 < (bodyT e).length := by
  cases e with
  | leaf x => unfold bodyT leafT; split; · simp
              split; · simp
              split; · simp
              split; · simp
              split <;> simp [fieldT]
  | one x e => simp [bodyT]
  | two x e f => simp only [bodyT, List.length_append, List.length_cons]; omega
theorem toks_pos (n : Int) (e : Ex) : 0 < (toksT n e).length := by unfold toksT; split; · simp
                                                                   · exact body_pos e
/-- In brackets: one deeper. -/
theorem W.brack {b : S → S} {T : List Tk} {d : Nat} (h : W b T d) : W (fun s => (if (s.enter (tk 3)).full = true then s.enter (tk 3) else b (s.enter (tk 3))).leave [tk 4]) (tk 3 :: (T ++ [tk 4])) (1 + d) := by
 refine ⟨fun s => ?_, fun s hs hl => ?_, fun s hs hl => ?_⟩
 ·split
  ·simp [S.leave, S.enter]
  ·have := h.mono (s.enter (tk 3))
   simp [S.leave, S.enter] at this ⊢
   omega
 ·simp only [List.length_cons, List.length_append, List.length_nil] at hl
  have hf : ¬ (s.enter (tk 3)).full = true := by simp [S.full, S.enter]; omega
  rw [if_neg hf, h.fits _ (by simp [S.enter]; omega) (by simp [S.enter]; omega)]
  simp [S.leave, S.enter]
  omega
 ·simp only [List.length_cons, List.length_append, List.length_nil] at hl
  split
  ·rename_i hf
   simp [S.full, S.enter, S.leave] at hf ⊢
   omega
  ·by_cases h1 : s.out.length + 1 + T.length ≤ 400
   ·rw [h.fits _ (by simp [S.enter]; omega) (by simp [S.enter]; omega)]
    simp [S.leave, S.enter]
    omega
   ·have := h.over (s.enter (tk 3)) (by simp [S.enter]; omega) (by simp [S.enter]; omega)
    simp [S.leave] at this ⊢
    omega
theorem W.node {e : Ex} (hb : W (bodyS e) (bodyT e) (bodyD e)) (n : Int) : W (nodeS e n) (toksT n e) (toksD n e) := by
 have hp := toks_pos n e
 have key : W (fun s => if lev e.top.op < n then (if (s.enter (tk 3)).full = true then s.enter (tk 3) else bodyS e (s.enter (tk 3))).leave [tk 4] else bodyS e s) (toksT n e) (toksD n e) := by
  unfold toksT toksD
  by_cases h : lev e.top.op < n
  ·simp only [if_pos h]; exact hb.brack
  ·simp only [if_neg h]; exact hb
 refine ⟨fun s => ?_, fun s hs hl => ?_, fun s hs hl => ?_⟩
 ·rw [nodeS_eq]
  by_cases hf : s.full = true
  ·rw [if_pos hf]; exact Nat.le_refl _
  ·rw [if_neg hf]; exact key.mono s
 ·rw [nodeS_eq]
  have hf : ¬ s.full = true := by simp [S.full]; omega
  rw [if_neg hf]
  exact key.fits s hs hl
 ·rw [nodeS_eq]
  by_cases hf : s.full = true
  ·rw [if_pos hf]; simpa [S.full] using hf
  ·rw [if_neg hf]
   exact key.over s hs hl
/-- A token that goes one deeper, what is behind it, and out again. -/
theorem W.deeper {b : S → S} {T : List Tk} {d : Nat} (h : W b T d) (k : Tk) : W (fun s => (b (s.enter k)).leave []) (k :: T) (1 + d) := by
 refine ⟨fun s => ?_, fun s hs hl => ?_, fun s hs hl => ?_⟩
 ·have := h.mono (s.enter k)
  simp [S.leave, S.enter] at this ⊢
  omega
 ·simp only [List.length_cons] at hl
  rw [h.fits _ (by simp [S.enter]; omega) (by simp [S.enter]; omega)]
  simp [S.leave, S.enter]
  omega
 ·simp only [List.length_cons] at hl
  have := h.over (s.enter k) (by simp [S.enter]; omega) (by simp [S.enter]; omega)
  simpa [S.leave] using this
theorem body_w (e : Ex) : W (bodyS e) (bodyT e) (bodyD e) := by
 induction e with
 | leaf x => exact (W.add (leafT x))
 | one x e ih => exact ((ih.node (lev x.op)).deeper (tk (sgn x.op)))
 | two x e f ihe ihf =>
  have h := ((ihe.node (leftL x.op)).comp (W.add [tk (sgn x.op)])).comp (ihf.node (lev x.op + 1))
  have e1 : (toksT (leftL x.op) e ++ [tk (sgn x.op)]) ++ toksT (lev x.op + 1) f = bodyT (.two x e f) := by simp [bodyT, toksT]
  have e2 : max (max (toksD (leftL x.op) e) 0) (toksD (lev x.op + 1) f) = bodyD (.two x e f) := by simp [bodyD, toksD]
  rw [e1, e2] at h
  exact h
theorem node_w (e : Ex) (n : Int) : W (nodeS e n) (toksT n e) (toksD n e) := (body_w e).node n
theorem body_size (e : Ex) : e.size ≤ (bodyT e).length := by
 induction e with
 | leaf x => exact body_pos _
 | one x e ih => simp only [bodyT, Ex.size]; split <;> simp <;> omega
 | two x e f ihe ihf => simp only [bodyT, Ex.size]; split <;> split <;> simp <;> omega
theorem toks_size (n : Int) (e : Ex) : e.size ≤ (toksT n e).length := by
 have := body_size e
 unfold toksT
 split
 ·simp; omega
 ·exact this
/-- A tree of a query: a great one only fills. -/
def fillS : Nat → S → S
 | 0, s => s
 | k + 1, s => if s.full = true then s else fillS k (s.add [num 0])
theorem fillS_full : ∀ (k : Nat) (s : S), 400 < s.out.length + k → 400 < (fillS k s).out.length := by
 intro k
 induction k with
 | zero => intro s h; simpa [fillS] using h
 | succ k ih =>
  intro s h
  unfold fillS
  split
  ·rename_i hf; simpa [S.full] using hf
  ·exact ih _ (by simp [S.add]; omega)
theorem fillS_mono : ∀ (k : Nat) (s : S), s.out.length ≤ (fillS k s).out.length := by
 intro k
 induction k with
 | zero => intro s; exact Nat.le_refl _
 | succ k ih =>
  intro s
  unfold fillS
  split
  ·exact Nat.le_refl _
  ·have := ih (s.add [num 0])
   simp [S.add] at this ⊢
   omega
def treeS (e : Ex) (s : S) : S := nodeS e 0 (if 400 < e.size then fillS 401 s else s)
theorem tree_w (e : Ex) : W (treeS e) (toksT 0 e) (toksD 0 e) := by
 have hn := node_w e 0
 have hsz := toks_size 0 e
 refine ⟨fun s => ?_, fun s hs hl => ?_, fun s hs hl => ?_⟩
 ·unfold treeS
  refine Nat.le_trans ?_ (hn.mono _)
  split
  ·exact fillS_mono _ _
  ·exact Nat.le_refl _
 ·unfold treeS
  rw [if_neg (by omega)]
  exact hn.fits s hs hl
 ·unfold treeS
  by_cases h : 400 < e.size
  ·rw [if_pos h]
   exact Nat.lt_of_lt_of_le (fillS_full 401 s (by omega)) (hn.mono _)
  ·rw [if_neg h]
   exact hn.over s hs hl

/-! Texts. -/
def kwsL : List Str := [[80, 65, 84, 84, 69, 82, 78], [83, 69, 81], [85, 83, 73, 78, 71], [65, 78, 89], [78, 69, 88, 84], [83, 84, 82, 73, 67, 84], [87, 72, 69, 82, 69], [87, 73, 84, 72, 73, 78], [80, 65, 82, 84, 73, 84, 73, 79, 78], [66, 89], [82, 69, 84, 85, 82, 78], [65, 78, 68], [79, 82], [78, 79, 84], [84, 82, 85, 69], [70, 65, 76, 83, 69], [67, 79, 85, 78, 84], [83, 85, 77], [77, 73, 78], [77, 65, 88], [70, 73, 82, 83, 84], [76, 65, 83, 84], [80, 82, 69, 86], [65, 70, 84, 69, 82], [65, 76, 76], [80, 65, 83, 84], [79, 78, 67, 69]]
def spellsL : List Str := [[], [], [], [40], [41], [123], [125], [44], [46], [33], [124], [43], [45], [42], [47], [37], [61], [33, 61], [60], [60, 61], [62], [62, 61]]
section
variable (fmt : Int → Str)
def spell (t : Tk) : Str :=
 if t.kind = 1 then t.text else if t.kind = 2 then fmt t.n else if 3 ≤ t.kind ∧ t.kind ≤ 21 then spellsL.getD t.kind.toNat [] else if 30 ≤ t.kind ∧ t.kind - 30 < 27 then kwsL.getD (t.kind - 30).toNat [] else []
def joinT : List Tk → Str
 | [] => []
 | [t] => spell fmt t
 | t :: u :: l => spell fmt t ++ 32 :: joinT (u :: l)
theorem joinT_append : ∀ (a b : List Tk), a ≠ [] → b ≠ [] → joinT fmt (a ++ b) = joinT fmt a ++ 32 :: joinT fmt b := by
 intro a
 induction a with
 | nil => intro b h; exact absurd rfl h
 | cons t a ih =>
  intro b _ hb
  cases a with
  | nil =>
   cases b with
   | nil => exact absurd rfl hb
   | cons u b => simp [joinT]
  | cons u a =>
   have := ih b (by simp) hb
   simp only [List.cons_append, joinT] at this ⊢
   rw [this]
   simp
/-- What the reference tells of a node. -/
structure Tl where
 text : Str
 toks : Nat
 deep : Nat
def tlOf (l : List Tk) (d : Nat) : Tl := ⟨joinT fmt l, l.length, d⟩
/-- An operand, in brackets if its level is below. -/
def operandR (x : Tl) (o n : Int) : Tl := if n ≤ lev o then x else ⟨[40, 32] ++ x.text ++ [32, 41], x.toks + 2, x.deep + 1⟩
def signsR : List Str := [[43], [45], [42], [47], [37], [61], [33, 61], [60], [60, 61], [62], [62, 61], [65, 78, 68], [79, 82]]
def callsR : List Str := [[67, 79, 85, 78, 84], [83, 85, 77], [77, 73, 78], [77, 65, 88], [70, 73, 82, 83, 84], [76, 65, 83, 84], [80, 82, 69, 86]]
def toldR (x : Nd) (a : Tl) (o : Int) (b : Tl) (p : Int) : Tl :=
 if x.op = 1 then ⟨fmt x.n, 1, 0⟩ else if x.op = 2 then ⟨[84, 82, 85, 69], 1, 0⟩ else if x.op = 3 then ⟨[70, 65, 76, 83, 69], 1, 0⟩
 else if x.op = 4 then ⟨x.var ++ [32, 46, 32] ++ x.attr, 3, 0⟩ else if x.op = 5 then ⟨[67, 79, 85, 78, 84, 32, 40, 32] ++ x.var ++ [32, 41], 4, 0⟩
 else if x.op = 12 then ⟨[45, 32] ++ (operandR a o 7).text, (operandR a o 7).toks + 1, (operandR a o 7).deep + 1⟩
 else if x.op = 13 then ⟨[78, 79, 84, 32] ++ (operandR a o 3).text, (operandR a o 3).toks + 1, (operandR a o 3).deep + 1⟩
 else if x.op < 14 then ⟨callsR.getD (x.op - 5).toNat [] ++ [32, 40, 32] ++ x.var ++ [32, 46, 32] ++ x.attr ++ [32, 41], 6, 0⟩
 else ⟨(operandR a o (leftL x.op)).text ++ [32] ++ signsR.getD (x.op - 14).toNat [] ++ [32] ++ (operandR b p (lev x.op + 1)).text, (operandR a o (leftL x.op)).toks + 1 + (operandR b p (lev x.op + 1)).toks,
  max (operandR a o (leftL x.op)).deep (operandR b p (lev x.op + 1)).deep⟩
theorem operand_same (e : Ex) (n : Int) : operandR (tlOf fmt (bodyT e) (bodyD e)) e.top.op n = tlOf fmt (toksT n e) (toksD n e) := by
 have hp := body_pos e
 have hne : bodyT e ≠ [] := by intro h; rw [h] at hp; simp at hp
 unfold operandR toksT toksD
 by_cases h : lev e.top.op < n
 ·rw [if_neg (by omega), if_pos h, if_pos h]
  unfold tlOf
  have h1 : joinT fmt (tk 3 :: (bodyT e ++ [tk 4])) = [40, 32] ++ joinT fmt (bodyT e) ++ [32, 41] := by
   have := joinT_append fmt [tk 3] (bodyT e ++ [tk 4]) (by simp) (by simp)
   rw [List.singleton_append] at this
   rw [this, joinT_append fmt (bodyT e) [tk 4] hne (by simp)]
   simp [joinT, spell, tk, spellsL]
  rw [h1]
  simp
  omega
 ·rw [if_pos (by omega), if_neg h, if_neg h]
def Ex.ok : Ex → Prop
 | .leaf x => 1 ≤ x.op ∧ x.op ≤ 11
 | .one x e => (x.op = 12 ∨ x.op = 13) ∧ e.ok
 | .two x e f => (14 ≤ x.op ∧ x.op ≤ 26) ∧ e.ok ∧ f.ok
theorem sign_same (o : Int) (h1 : 14 ≤ o) (h2 : o ≤ 26) : spell fmt (tk (sgn o)) = signsR.getD (o - 14).toNat [] := by
 have : o = 14 ∨ o = 15 ∨ o = 16 ∨ o = 17 ∨ o = 18 ∨ o = 19 ∨ o = 20 ∨ o = 21 ∨ o = 22 ∨ o = 23 ∨ o = 24 ∨ o = 25 ∨ o = 26 := by omega
 rcases this with rfl | rfl | rfl | rfl | rfl | rfl | rfl | rfl | rfl | rfl | rfl | rfl | rfl <;> rfl
theorem call_same (o : Int) (h1 : 6 ≤ o) (h2 : o ≤ 11) : spell fmt (tk (47 + (o - 6))) = callsR.getD (o - 5).toNat [] := by
 have : o = 6 ∨ o = 7 ∨ o = 8 ∨ o = 9 ∨ o = 10 ∨ o = 11 := by omega
 rcases this with rfl | rfl | rfl | rfl | rfl | rfl <;> rfl
/-- What the reference tells of a tree is what its tokens are. -/
def tellE : Ex → Tl
 | .leaf x => toldR fmt x ⟨[], 0, 0⟩ 1 ⟨[], 0, 0⟩ 1
 | .one x e => toldR fmt x (tellE e) e.top.op ⟨[], 0, 0⟩ 1
 | .two x e f => toldR fmt x (tellE e) e.top.op (tellE f) f.top.op
theorem tell_same (e : Ex) (h : e.ok) : tellE fmt e = tlOf fmt (bodyT e) (bodyD e) := by
 induction e with
 | leaf x =>
  obtain ⟨h1, h2⟩ := h
  unfold tellE toldR tlOf bodyT bodyD leafT
  by_cases c1 : x.op = 1
  ·simp [c1, joinT, spell, num]
  by_cases c2 : x.op = 2
  ·simp [c2, joinT, spell, tk, kwsL]
  by_cases c3 : x.op = 3
  ·simp [c3, joinT, spell, tk, kwsL]
  by_cases c4 : x.op = 4
  ·simp [c4, joinT, spell, tk, nme, fieldT, spellsL]
  by_cases c5 : x.op = 5
  ·simp [c5, joinT, spell, tk, nme, spellsL, kwsL]
  have hc := call_same fmt x.op (by omega) h2
  have h3 : ¬ x.op = 12 := by omega
  have h4 : ¬ x.op = 13 := by omega
  have h5 : x.op < 14 := by omega
  rw [if_neg c1, if_neg c2, if_neg c3, if_neg c4, if_neg c5, if_neg h3, if_neg h4, if_pos h5, if_neg c1, if_neg c2, if_neg c3, if_neg c5, if_neg c4]
  have h6 : ∀ k l, joinT fmt (tk k :: l) = joinT fmt ([tk k] ++ l) := fun _ _ => rfl
  simp only [fieldT, List.cons_append, List.nil_append, joinT, hc]
  simp [spell, tk, nme, spellsL]
 | one x e ih =>
  obtain ⟨hx, he⟩ := h
  have hi := ih he
  have ht := toks_pos (lev x.op) e
  have hne : toksT (lev x.op) e ≠ [] := by intro h; rw [h] at ht; simp at ht
  have hb : bodyT (.one x e) = [tk (sgn x.op)] ++ toksT (lev x.op) e := by simp [bodyT, toksT]
  have hd : bodyD (.one x e) = 1 + toksD (lev x.op) e := by simp [bodyD, toksD]
  unfold tellE
  rw [hi, hb, hd]
  rcases hx with hx | hx
  ·have h1 : lev x.op = 7 := by rw [hx]; rfl
   have hop := operand_same fmt e 7
   rw [h1] at hne ⊢
   unfold toldR
   rw [if_neg (by omega), if_neg (by omega), if_neg (by omega), if_neg (by omega), if_neg (by omega), if_pos hx, hop]
   unfold tlOf
   rw [joinT_append fmt _ _ (by simp) hne]
   simp [joinT, spell, tk, hx, sgn, signsL, spellsL]
   omega
  ·have h1 : lev x.op = 3 := by rw [hx]; rfl
   have hop := operand_same fmt e 3
   rw [h1] at hne ⊢
   unfold toldR
   rw [if_neg (by omega), if_neg (by omega), if_neg (by omega), if_neg (by omega), if_neg (by omega), if_neg (by omega), if_pos hx, hop]
   unfold tlOf
   rw [joinT_append fmt _ _ (by simp) hne]
   simp [joinT, spell, tk, hx, sgn, signsL, kwsL]
   omega
 | two x e f ihe ihf =>
  obtain ⟨⟨h1, h2⟩, he, hf⟩ := h
  have hs := sign_same fmt x.op h1 h2
  have hte := toks_pos (leftL x.op) e
  have htf := toks_pos (lev x.op + 1) f
  have hne : toksT (leftL x.op) e ≠ [] := by intro h; rw [h] at hte; simp at hte
  have hnf : toksT (lev x.op + 1) f ≠ [] := by intro h; rw [h] at htf; simp at htf
  have hb : bodyT (.two x e f) = toksT (leftL x.op) e ++ ([tk (sgn x.op)] ++ toksT (lev x.op + 1) f) := by simp [bodyT, toksT]
  have hd : bodyD (.two x e f) = max (toksD (leftL x.op) e) (toksD (lev x.op + 1) f) := by simp [bodyD, toksD]
  unfold tellE
  rw [ihe he, ihf hf, hb, hd]
  unfold toldR
  rw [if_neg (by omega), if_neg (by omega), if_neg (by omega), if_neg (by omega), if_neg (by omega), if_neg (by omega), if_neg (by omega), if_neg (by omega), operand_same, operand_same]
  unfold tlOf
  rw [joinT_append fmt _ _ hne (by simp), joinT_append fmt [tk (sgn x.op)] _ (by simp) hnf]
  simp only [joinT, hs]
  simp
  omega
end
end Go.Proofs.YtfglgpbjjpoimaaGreatDoor.Sv
/- SaveEncodes, plain part C: lists of nodes are trees; the tokens of a query; what the reference tells of it (no program in sight). -/
set_option linter.unusedVariables false
namespace Go.Proofs.YtfglgpbjjpoimaaGreatDoor.Sv

/-! A list of nodes, a tree. -/
inductive Sh (t : List Nd) : Nat → Ex → Prop where
 | leaf {o : Nat} {x : Nd} (h : t[o]? = some x) (hop : opsP x.op = 0) (ha : x.a = -1) (hb : x.b = -1) : Sh t o (.leaf x)
 | one {o : Nat} {x : Nd} {e : Ex} (he : Sh t o e) (h : t[o + e.size]? = some x) (hop : opsP x.op = 1) (ha : x.a = ((o + e.size - 1 : Nat) : Int)) (hb : x.b = -1) : Sh t o (.one x e)
 | two {o : Nat} {x : Nd} {e f : Ex} (he : Sh t o e) (hf : Sh t (o + e.size) f) (h : t[o + e.size + f.size]? = some x) (hop : opsP x.op = 2) (ha : x.a = ((o + e.size - 1 : Nat) : Int)) (hb : x.b = ((o + e.size + f.size - 1 : Nat) : Int)) : Sh t o (.two x e f)
theorem Ex.size_pos (e : Ex) : 0 < e.size := by cases e <;> simp [Ex.size]
theorem Sh.top {t : List Nd} {o : Nat} {e : Ex} (h : Sh t o e) : t[o + e.size - 1]? = some e.top := by
 cases h with
 | leaf h => simpa [Ex.size, Ex.top] using h
 | one he h => simpa [Ex.size, Ex.top] using h
 | two he hf h => simp only [Ex.size, Ex.top]; rw [show ∀ a b c : Nat, a + (b + c + 1) - 1 = a + b + c by omega]; exact h
theorem Sh.ok {t : List Nd} {o : Nat} {e : Ex} (h : Sh t o e) : e.ok := by
 have key : ∀ x : Int, (opsP x = 0 → 1 ≤ x ∧ x ≤ 11) ∧ (opsP x = 1 → x = 12 ∨ x = 13) ∧ (opsP x = 2 → 14 ≤ x ∧ x ≤ 26) := by
  intro x
  unfold opsP
  split
  ·exact ⟨fun _ => by omega, fun h => by omega, fun h => by omega⟩
  ·split
   ·exact ⟨fun h => by omega, fun _ => by omega, fun h => by omega⟩
   ·split
    ·exact ⟨fun h => by omega, fun h => by omega, fun _ => by omega⟩
    ·exact ⟨fun h => by omega, fun h => by omega, fun h => by omega⟩
 induction h with
 | leaf h hop ha hb => exact (key _).1 hop
 | one he h hop ha hb ih => exact ⟨(key _).2.1 hop, ih⟩
 | two he hf h hop ha hb ihe ihf => exact ⟨(key _).2.2 hop, ihe, ihf⟩
/-- Trees one behind the other, and their roots, the last first. -/
inductive Fo (t : List Nd) : Nat → List Nat → Prop where
 | nil : Fo t 0 []
 | cons {o : Nat} {st : List Nat} {e : Ex} (h : Fo t o st) (he : Sh t o e) : Fo t (o + e.size) ((o + e.size - 1) :: st)
theorem stepP_some {nm : Str → Bool} {i : Nat} {st st' : List Nat} {x : Nd} (h : stepP nm i st x = some st') :
  (opsP x.op = 0 ∧ x.a = -1 ∧ x.b = -1 ∧ st' = i :: st) ∨ (∃ p r, st = p :: r ∧ opsP x.op = 1 ∧ x.a = (p : Int) ∧ x.b = -1 ∧ st' = i :: r) ∨ (∃ q p r, st = q :: p :: r ∧ opsP x.op = 2 ∧ x.a = (p : Int) ∧ x.b = (q : Int) ∧ st' = i :: r) := by
 unfold stepP at h
 split at h
 ·split at h
  ·rename_i h0
   split at h
   ·rename_i hc
    cases h
    exact .inl ⟨h0, hc.1, hc.2, rfl⟩
   ·cases h
  ·split at h
   ·rename_i h1
    split at h
    ·rename_i p r
     split at h
     ·rename_i hc
      cases h
      exact .inr (.inl ⟨p, r, rfl, h1, hc.1, hc.2, rfl⟩)
     ·cases h
    ·cases h
   ·split at h
    ·rename_i h2
     split at h
     ·rename_i q p r
      split at h
      ·rename_i hc
       cases h
       exact .inr (.inr ⟨q, p, r, rfl, h2, hc.1, hc.2, rfl⟩)
      ·cases h
     ·cases h
    ·cases h
 ·cases h
theorem Fo.step {nm : Str → Bool} {t : List Nd} {i : Nat} {st st' : List Nat} {x : Nd} (h : Fo t i st) (hx : t[i]? = some x) (hs : stepP nm i st x = some st') : Fo t (i + 1) st' := by
 rcases stepP_some hs with ⟨h0, ha, hb, rfl⟩ | ⟨p, r, rfl, h1, ha, hb, rfl⟩ | ⟨q, p, r, rfl, h2, ha, hb, rfl⟩
 ·exact .cons (e := .leaf x) h (.leaf hx h0 ha hb)
 ·cases h with
  | cons h he => exact .cons (e := .one x _) h (.one he hx h1 ha hb)
 ·cases h with
  | cons h he =>
   rename_i o2 f
   cases h with
   | cons h he2 =>
    rename_i o e
    have := Fo.cons (e := .two x e f) h (.two he2 he hx h2 ha hb)
    simp only [Ex.size] at this
    have e1 : o + (e.size + f.size + 1) = o + e.size + f.size + 1 := by omega
    rw [e1] at this
    exact this
theorem Fo.run {nm : Str → Bool} {t : List Nd} : ∀ (u pre : List Nd) (st st' : List Nat), t = pre ++ u → Fo t pre.length st → runP nm u pre.length st = some st' → Fo t t.length st' := by
 intro u
 induction u with
 | nil =>
  intro pre st st' ht h hr
  simp only [runP, Option.some.injEq] at hr
  subst hr
  rw [ht, List.append_nil] at h ⊢
  exact h
 | cons x u ih =>
  intro pre st st' ht h hr
  simp only [runP] at hr
  obtain ⟨s1, h1, h2⟩ := Option.bind_eq_some_iff.1 hr
  have hx : t[pre.length]? = some x := by rw [ht]; simp
  have := h.step hx h1
  have e : (pre ++ [x]).length = pre.length + 1 := by simp
  exact ih (pre ++ [x]) s1 st' (by rw [ht]; simp) (by rw [e]; exact this) (by rw [e]; exact h2)
theorem tree_shape {nm : Str → Bool} {t : List Nd} (h : treeB nm t = true) : ∃ e, Sh t 0 e ∧ e.size = t.length := by
 unfold treeB at h
 split at h
 ·rename_i r hr
  have := Fo.run (t := t) t [] [] [r] rfl .nil hr
  generalize hk : t.length = k at this
  cases this with
  | cons h0 he =>
   rename_i o e
   cases h0 with
   | nil => exact ⟨e, he, by omega⟩
 ·cases h

section
variable (fmt : Int → Str)
def noT : Tl := ⟨[], 0, 0⟩
/-- What is told of the next node. -/
def stepW (t : List Nd) (l : List Tl) (x : Nd) : Tl :=
 toldR fmt x (if 0 ≤ x.a then l.getD x.a.toNat noT else noT) (if 0 ≤ x.a then (t.getD x.a.toNat ⟨0, 0, [], [], 0, 0⟩).op else 1)
  (if 0 ≤ x.b then l.getD x.b.toNat noT else noT) (if 0 ≤ x.b then (t.getD x.b.toNat ⟨0, 0, [], [], 0, 0⟩).op else 1)
def runW (t : List Nd) : List Nd → List Tl → List Tl
 | [], l => l
 | x :: u, l => runW t u (l ++ [stepW fmt t l x])
theorem runW_snoc (t : List Nd) : ∀ (u : List Nd) (x : Nd) (l : List Tl), runW fmt t (u ++ [x]) l = runW fmt t u l ++ [stepW fmt t (runW fmt t u l) x] := by
 intro u
 induction u with
 | nil => intro x l; rfl
 | cons y u ih => intro x l; simp only [List.cons_append, runW]; rw [ih]
theorem runW_len (t : List Nd) : ∀ (u : List Nd) (l : List Tl), (runW fmt t u l).length = l.length + u.length := by
 intro u
 induction u with
 | nil => intro l; rfl
 | cons y u ih => intro l; simp only [runW]; rw [ih]; simp; omega
theorem runW_tells (t : List Nd) : ∀ (k : Nat), k ≤ t.length → ∀ o e, Sh t o e → o + e.size ≤ k → (runW fmt t (t.take k) [])[o + e.size - 1]? = some (tellE fmt e) := by
 intro k
 induction k with
 | zero => intro _ o e _ h; have := e.size_pos; omega
 | succ k ih =>
  intro hk o e hs hle
  have hlt : k < t.length := by omega
  have hlen : (runW fmt t (t.take k) []).length = k := by rw [runW_len]; simp; omega
  rw [List.take_succ_eq_append_getElem hlt, runW_snoc]
  by_cases h : o + e.size ≤ k
  ·have hp := e.size_pos
   rw [List.getElem?_append_left (by omega)]
   exact ih (by omega) o e hs h
  ·have he : o + e.size - 1 = k := by omega
   rw [he, List.getElem?_append_right (by omega), hlen, Nat.sub_self, List.getElem?_cons_zero]
   have htop := hs.top
   rw [he, List.getElem?_eq_getElem hlt, Option.some.injEq] at htop
   rw [htop]
   congr 1
   cases hs with
   | leaf h hop ha hb =>
    unfold stepW tellE Ex.top
    rw [ha, hb]
    simp [noT]
   | one he' h' hop ha hb =>
    rename_i x e'
    have hp := e'.size_pos
    simp only [Ex.size] at he hle
    have h1 := ih (by omega) o e' he' (by omega)
    have h2 := he'.top
    show stepW fmt t _ x = tellE fmt (.one x e')
    unfold stepW tellE
    rw [ha, hb]
    simp only [Int.natCast_nonneg, if_true, Int.toNat_natCast, List.getD_eq_getElem?_getD, h1, h2, Option.getD_some]
    simp [noT]
   | two he' hf' h' hop ha hb =>
    rename_i x e' f'
    have hp := e'.size_pos
    have hp2 := f'.size_pos
    simp only [Ex.size] at he hle
    have h1 := ih (by omega) o e' he' (by omega)
    have h2 := he'.top
    have h3 := ih (by omega) _ f' hf' (by omega)
    have h4 := hf'.top
    show stepW fmt t _ x = tellE fmt (.two x e' f')
    unfold stepW tellE
    rw [ha, hb]
    simp only [Int.natCast_nonneg, if_true, Int.toNat_natCast, List.getD_eq_getElem?_getD, h1, h2, h3, h4, Option.getD_some]
def wholeR (t : List Nd) : Tl := (runW fmt t t []).getD (t.length - 1) noT
theorem whole_same {t : List Nd} {e : Ex} (h : Sh t 0 e) (hs : e.size = t.length) : wholeR fmt t = tlOf fmt (bodyT e) (bodyD e) := by
 have h1 := runW_tells fmt t t.length (Nat.le_refl _) 0 e h (by omega)
 rw [List.take_length, Nat.zero_add, hs] at h1
 unfold wholeR
 rw [List.getD_eq_getElem?_getD, h1, Option.getD_some, tell_same fmt e h.ok]
theorem toks0 (e : Ex) (h : e.ok) : toksT 0 e = bodyT e ∧ toksD 0 e = bodyD e := by
 have : ¬ lev e.top.op < 0 := by
  have hl : ∀ o : Int, o ≤ 26 → ¬ lev o < 0 := by
   intro o ho
   unfold lev
   split
   ·omega
   ·have : o = 12 ∨ o = 13 ∨ o = 14 ∨ o = 15 ∨ o = 16 ∨ o = 17 ∨ o = 18 ∨ o = 19 ∨ o = 20 ∨ o = 21 ∨ o = 22 ∨ o = 23 ∨ o = 24 ∨ o = 25 ∨ o = 26 := by omega
    rcases this with rfl | rfl | rfl | rfl | rfl | rfl | rfl | rfl | rfl | rfl | rfl | rfl | rfl | rfl | rfl <;> decide
  cases e with
  | leaf x => exact hl _ (by have := h.2; simp only [Ex.top]; omega)
  | one x e => exact hl _ (by have := h.1; simp only [Ex.top]; omega)
  | two x e f => exact hl _ (by have := h.1.2; simp only [Ex.top]; omega)
 exact ⟨by unfold toksT; rw [if_neg this], by unfold toksD; rw [if_neg this]⟩
end
end Go.Proofs.YtfglgpbjjpoimaaGreatDoor.Sv
/- SaveEncodes, plain part D: a query's tokens, the program's writer and the reference's text (no program in sight). -/
set_option linter.unusedVariables false
namespace Go.Proofs.YtfglgpbjjpoimaaGreatDoor.Sv

structure It where
 neg : Bool
 types : List Str
 var : Str
 lo : Int
 hi : Int
structure Qy where
 items : List It
 mode : Int
 after : Int
 wher : List Nd
 within : Int
 by_ : Str
 ret : List (List Nd)
def shapedIt (nm : Str → Bool) (x : It) : Bool := !x.types.isEmpty && x.types.all nm && nm x.var && decide (0 ≤ x.lo) && decide (0 ≤ x.hi) && (!x.neg || (decide (x.lo = 1) && decide (x.hi = 1)))
def shapedQ (nm : Str → Bool) (q : Qy) : Bool :=
 !q.items.isEmpty && decide (0 ≤ q.mode) && decide (q.mode ≤ 2) && decide (0 ≤ q.after) && decide (q.after ≤ 3) && decide (0 ≤ q.within) && q.items.all (shapedIt nm) &&
 (q.wher.isEmpty || treeB nm q.wher) && (q.by_.isEmpty || nm q.by_) && q.ret.all (treeB nm)

/-! The writer's steps. -/
theorem W.iff {f g : S → S} {T U : List Tk} {d : Nat} (b : Bool) (h : b = true → W f T d) (k : b = false → W g U d) : W (fun s => if b = true then f s else g s) (if b = true then T else U) d := by
 cases b with
 | true => simpa using h rfl
 | false => simpa using k rfl
def barT (i : Nat) : List Tk := if 0 < i then [tk 10] else []
def typesT : List Str → Nat → List Tk
 | [], _ => []
 | t :: r, i => barT i ++ nme t :: typesT r (i + 1)
/-- The loop over the types; true: it left the whole item. -/
def typesS : List Str → Nat → S → S × Bool
 | [], _, s => (s, false)
 | t :: r, i, s => if (s.add (barT i)).full = true then (s.add (barT i), true) else typesS r (i + 1) ((s.add (barT i)).add [nme t])
theorem S.add_add (s : S) (a b : List Tk) : (s.add a).add b = s.add (a ++ b) := by simp [S.add]
theorem S.add_nil (s : S) : s.add [] = s := by simp [S.add]
theorem S.add_len (s : S) (a : List Tk) : (s.add a).out.length = s.out.length + a.length := by simp [S.add]
theorem S.full_iff (s : S) : s.full = true ↔ 400 < s.out.length := by simp [S.full]
theorem typesS_mono : ∀ (l : List Str) (i : Nat) (s : S), s.out.length ≤ (typesS l i s).1.out.length := by
 intro l
 induction l with
 | nil => intro i s; exact Nat.le_refl _
 | cons t r ih =>
  intro i s
  rw [typesS]
  split
  ·simp only [S.add_len]; omega
  ·have := ih (i + 1) ((s.add (barT i)).add [nme t])
   simp only [S.add_len] at this
   omega
theorem typesS_fits : ∀ (l : List Str) (i : Nat) (s : S), s.out.length + (typesT l i).length ≤ 400 → typesS l i s = (s.add (typesT l i), false) := by
 intro l
 induction l with
 | nil => intro i s _; simp [typesS, typesT, S.add_nil]
 | cons t r ih =>
  intro i s h
  rw [typesT, List.length_append, List.length_cons] at h
  rw [typesS, if_neg (by rw [S.full_iff, S.add_len]; omega), ih (i + 1) _ (by simp only [S.add_len, List.length_cons, List.length_nil]; omega), typesT]
  simp [S.add_add]
theorem typesS_over : ∀ (l : List Str) (i : Nat) (s : S), 400 < s.out.length + (typesT l i).length → 400 < (typesS l i s).1.out.length := by
 intro l
 induction l with
 | nil => intro i s h; simpa [typesS, typesT] using h
 | cons t r ih =>
  intro i s h
  rw [typesT, List.length_append, List.length_cons] at h
  rw [typesS]
  split
  ·rename_i hf
   exact (S.full_iff _).1 hf
  ·exact ih (i + 1) _ (by simp only [S.add_len, List.length_cons, List.length_nil]; omega)
theorem typesS_true {l : List Str} : ∀ {i : Nat} {s s' : S}, typesS l i s = (s', true) → 400 < s'.out.length := by
 induction l with
 | nil => intro i s s' h; simp [typesS] at h
 | cons t r ih =>
  intro i s s' h
  rw [typesS] at h
  split at h
  ·rename_i hf
   cases h
   exact (S.full_iff _).1 hf
  ·exact ih h
/-- What is behind the types. -/
def tailT (x : It) : List Tk := if x.lo = 1 ∧ x.hi = 1 then [nme x.var] else if x.lo = 1 ∧ x.hi = 4 then [tk 11, nme x.var] else [nme x.var, tk 5, num x.lo, tk 7, num x.hi, tk 6]
def manyT (x : It) (k : Int) : List Tk := if 1 < x.types.length then [tk k] else []
def itemT (x : It) : List Tk := (if x.neg = true then [tk 9] else []) ++ (manyT x 3 ++ (typesT x.types 0 ++ (manyT x 4 ++ tailT x)))
def headS (x : It) (s : S) : S := (if x.neg = true then s.add [tk 9] else s).add (manyT x 3)
def itemS (x : It) (s : S) : S :=
 match typesS x.types 0 (headS x s) with
 | (s', true) => s'
 | (s', false) => (s'.add (manyT x 4)).add (tailT x)
theorem headS_eq (x : It) (s : S) : headS x s = s.add ((if x.neg = true then [tk 9] else []) ++ manyT x 3) := by
 unfold headS
 split <;> simp [S.add]
theorem item_w (x : It) : W (itemS x) (itemT x) 0 := by
 refine ⟨fun s => ?_, fun s hs hl => ?_, fun s hs hl => ?_⟩
 ·unfold itemS
  have h1 := typesS_mono x.types 0 (headS x s)
  rw [headS_eq] at h1 ⊢
  split
  ·rename_i s' he
   rw [he] at h1
   simp only [S.add, List.length_append] at h1
   omega
  ·rename_i s' he
   rw [he] at h1
   simp only [S.add, List.length_append] at h1 ⊢
   omega
 ·unfold itemT at hl
  simp only [List.length_append] at hl
  unfold itemS
  rw [headS_eq, typesS_fits x.types 0 _ (by simp only [S.add, List.length_append]; omega)]
  simp only [S.add_add, itemT, List.append_assoc]
  cases s
  simp [S.add] at hs ⊢
  omega
 ·unfold itemT at hl
  simp only [List.length_append] at hl
  unfold itemS
  rw [headS_eq]
  split
  ·rename_i s' he
   exact typesS_true he
  ·rename_i s' he
   by_cases h1 : s.out.length + (((if x.neg = true then [tk 9] else []) ++ manyT x 3).length + (typesT x.types 0).length) ≤ 400
   ·rw [typesS_fits x.types 0 _ (by simp only [S.add, List.length_append] at h1 ⊢; omega)] at he
    cases he
    simp only [S.add, List.length_append]
    omega
   ·have := typesS_over x.types 0 (s.add ((if x.neg = true then [tk 9] else []) ++ manyT x 3)) (by simp only [S.add, List.length_append] at h1 ⊢; omega)
    rw [he] at this
    simp only [S.add, List.length_append] at this ⊢
    omega
/-- A loop that stops where the writer is full. -/
def loopS {α : Type} (f : α → S → S) (sep : Nat → List Tk) : List α → Nat → S → S
 | [], _, s => s
 | x :: r, i, s => if s.full = true then s else loopS f sep r (i + 1) (f x (s.add (sep i)))
def loopT {α : Type} (T : α → List Tk) (sep : Nat → List Tk) : List α → Nat → List Tk
 | [], _ => []
 | x :: r, i => (sep i ++ T x) ++ loopT T sep r (i + 1)
def loopD {α : Type} (d : α → Nat) : List α → Nat
 | [] => 0
 | x :: r => max (d x) (loopD d r)
theorem loop_w {α : Type} {f : α → S → S} {T : α → List Tk} {d : α → Nat} (sep : Nat → List Tk) : ∀ (l : List α) (i : Nat), (∀ x ∈ l, W (f x) (T x) (d x)) → W (loopS f sep l i) (loopT T sep l i) (loopD d l) := by
  intro l
  induction l with
  | nil => intro i _; exact W.id
  | cons x r ih =>
    intro i h
    have h1 := ((W.add (sep i)).comp (h x (by simp))).comp (ih (i + 1) (fun y hy => h y (by simp [hy])))
    have e : max (max 0 (d x)) (loopD d r) = loopD d (x :: r) := by simp [loopD]
    rw [e] at h1
    refine ⟨fun s => ?_, fun s hs hl => ?_, fun s hs hl => ?_⟩
    · unfold loopS
      split
      · exact Nat.le_refl _
      · exact h1.mono s
    · unfold loopS
      by_cases hf : s.full = true
      · have hz : loopT T sep (x :: r) i = [] := List.eq_nil_of_length_eq_zero (by have : 400 < s.out.length := by simpa [S.full] using hf
                                                                                   omega)
        have : 400 < s.out.length := by simpa [S.full] using hf
        omega
      · rw [if_neg hf]
        exact h1.fits s hs hl
    · unfold loopS
      split
      · rename_i hf; simpa [S.full] using hf
      · exact h1.over s hs hl
def commaT (i : Nat) : List Tk := if 0 < i then [tk 7] else []
def retT (i : Nat) : List Tk := if i = 0 then [tk 40] else [tk 7]
def aftersL : List Int := [54, 34, 55, 56]
def modeT (q : Qy) : List Tk := if q.mode = 0 then [] else [tk 32, tk (33 + q.mode)]
def afterT (q : Qy) : List Tk := if q.after = 0 then [] else [tk 53, tk (aftersL.getD q.after.toNat 0)]
def withinT (q : Qy) : List Tk := [tk 37, num q.within]
def byT (q : Qy) : List Tk := if q.by_.isEmpty = true then [] else [tk 38, tk 39, nme q.by_]
/-- The trees of a query: of the condition, of the results. -/
structure Trees (q : Qy) where
 w : Option Ex
 r : List Ex
def whereT (w : Option Ex) : List Tk := match w with | none => [] | some e => tk 36 :: toksT 0 e
def whereD (w : Option Ex) : Nat := match w with | none => 0 | some e => toksD 0 e
def whereS (w : Option Ex) (s : S) : S := match w with | none => s | some e => treeS e (s.add [tk 36])
theorem where_w (w : Option Ex) : W (whereS w) (whereT w) (whereD w) := by
 cases w with
 | none => exact W.id
 | some e =>
  have h := (W.add [tk 36]).comp (tree_w e)
  have e : max 0 (toksD 0 e) = toksD 0 e := by omega
  rw [e] at h
  exact h
def queryT (q : Qy) (w : Option Ex) (r : List Ex) : List Tk :=
 [tk 30, tk 31, tk 3] ++ (loopT itemT commaT q.items 0 ++ (tk 4 :: (modeT q ++ (afterT q ++ (whereT w ++ (withinT q ++ (byT q ++ loopT (toksT 0) retT r 0)))))))
def queryD (w : Option Ex) (r : List Ex) : Nat := max (whereD w) (loopD (toksD 0) r)
def queryS (q : Qy) (w : Option Ex) (r : List Ex) (s : S) : S :=
 loopS treeS retT r 0 (((whereS w ((((loopS itemS commaT q.items 0 (s.add [tk 30, tk 31, tk 3])).add [tk 4]).add (modeT q)).add (afterT q))).add (withinT q)).add (byT q))
theorem query_w (q : Qy) (w : Option Ex) (r : List Ex) : W (queryS q w r) (queryT q w r) (queryD w r) := by
 have h1 := (W.add [tk 30, tk 31, tk 3]).comp (loop_w (d := fun _ => 0) commaT q.items 0 (fun x _ => item_w x))
 have h2 := ((((h1.comp (W.add [tk 4])).comp (W.add (modeT q))).comp (W.add (afterT q))).comp (where_w w))
 have h3 := ((h2.comp (W.add (withinT q))).comp (W.add (byT q))).comp (loop_w retT r 0 (fun e _ => tree_w e))
 have hz : ∀ l : List It, loopD (fun _ => 0) l = 0 := by
  intro l
  induction l with
  | nil => rfl
  | cons x r ih => simp [loopD, ih]
 have eD : max (max (max (max (max (max (max (max 0 (loopD (fun _ : It => 0) q.items)) 0) 0) 0) (whereD w)) 0) 0) (loopD (toksD 0) r) = queryD w r := by
  rw [hz]; simp [queryD]
 rw [eD] at h3
 have eT : ((((((([tk 30, tk 31, tk 3] ++ loopT itemT commaT q.items 0) ++ [tk 4]) ++ modeT q) ++ afterT q) ++ whereT w) ++ withinT q) ++ byT q) ++ loopT (toksT 0) retT r 0 = queryT q w r := by
  simp [queryT]
 rw [eT] at h3
 exact h3

section
variable (fmt : Int → Str)
/-- The program's answer, once it is well shaped. -/
def textS (s : S) : Option Str := if 400 < s.out.length then none else if 32 < s.deep then none else some (joinT fmt s.out)
def answerT (T : List Tk) (d : Nat) : Option Str := if 400 < T.length then none else if 32 < d then none else some (joinT fmt T)
theorem program_text (q : Qy) (w : Option Ex) (r : List Ex) : textS fmt (queryS q w r ⟨[], 0, 0⟩) = answerT fmt (queryT q w r) (queryD w r) := by
 have h := query_w q w r
 unfold textS answerT
 by_cases hl : (queryT q w r).length ≤ 400
 ·rw [h.fits ⟨[], 0, 0⟩ (Nat.le_refl _) (by simpa using hl)]
  simp
 ·have := h.over ⟨[], 0, 0⟩ (Nat.le_refl _) (by simp; omega)
  rw [if_pos this, if_pos (by omega)]

/-! The reference's. -/
def behindR (x y : Tl) : Tl := ⟨x.text ++ [32] ++ y.text, x.toks + y.toks, max x.deep y.deep⟩
theorem behind_same (a b : List Tk) (d e : Nat) (ha : a ≠ []) (hb : b ≠ []) : behindR (tlOf fmt a d) (tlOf fmt b e) = tlOf fmt (a ++ b) (max d e) := by
 unfold behindR tlOf
 rw [joinT_append fmt a b ha hb]
 simp
def barsR : List Str → Str
 | [] => []
 | t :: r => [32, 124, 32] ++ t ++ barsR r
def typedR (l : List Str) : Tl :=
 if l.length = 1 then ⟨l.headD [], 1, 0⟩ else ⟨[40, 32] ++ l.headD [] ++ barsR l.tail ++ [32, 41], 2 * l.length + 1, 0⟩
theorem typesT_len (l : List Str) : ∀ i, 0 < i → (typesT l i).length = 2 * l.length := by
 induction l with
 | nil => intro i _; rfl
 | cons t r ih =>
  intro i h
  simp only [typesT, barT, if_pos h, List.length_append, List.length_cons, List.length_nil]
  rw [ih (i + 1) (by omega)]
  omega
theorem join_bars (l : List Str) : ∀ (i : Nat) (T : List Tk), 0 < i → T ≠ [] → joinT fmt (T ++ typesT l i) = joinT fmt T ++ barsR l := by
 induction l with
 | nil => intro i T _ _; simp [typesT, barsR]
 | cons t r ih =>
  intro i T h hT
  simp only [typesT, barT, if_pos h, barsR]
  have e : T ++ ([tk 10] ++ nme t :: typesT r (i + 1)) = (T ++ [tk 10, nme t]) ++ typesT r (i + 1) := by simp
  rw [e, ih (i + 1) _ (by omega) (by simp), joinT_append fmt T _ hT (by simp)]
  simp [joinT, spell, tk, nme, spellsL]
theorem typed_same (x : It) (h : x.types ≠ []) : typedR x.types = tlOf fmt (manyT x 3 ++ (typesT x.types 0 ++ manyT x 4)) 0 := by
 unfold typedR tlOf manyT
 cases hl : x.types with
 | nil => exact absurd hl h
 | cons t r =>
  cases r with
  | nil => simp [typesT, barT, joinT, spell, nme]
  | cons u r =>
   have hn : ¬ (t :: u :: r).length = 1 := by simp
   have h1 : 1 < (t :: u :: r).length := by simp
   rw [if_neg hn, if_pos h1, if_pos h1]
   have hlen := typesT_len (u :: r) 1 (by omega)
   have e : [tk 3] ++ (typesT (t :: u :: r) 0 ++ [tk 4]) = (([tk 3, nme t] ++ typesT (u :: r) 1) ++ [tk 4]) := by simp [typesT, barT]
   rw [e, joinT_append fmt _ _ (by simp) (by simp), join_bars fmt (u :: r) 1 [tk 3, nme t] (by omega) (by simp)]
   simp only [List.length_append, List.length_cons, List.length_nil] at hlen ⊢
   rw [hlen]
   simp [joinT, spell, tk, nme, spellsL]
   omega
def itemR (x : It) : Tl :=
 if x.neg = true then ⟨[33, 32] ++ (typedR x.types).text ++ [32] ++ x.var, (typedR x.types).toks + 2, 0⟩
 else if x.lo = 1 ∧ x.hi = 1 then ⟨(typedR x.types).text ++ [32] ++ x.var, (typedR x.types).toks + 1, 0⟩
 else if x.lo = 1 ∧ x.hi = 4 then ⟨(typedR x.types).text ++ [32, 43, 32] ++ x.var, (typedR x.types).toks + 2, 0⟩
 else ⟨(typedR x.types).text ++ [32] ++ x.var ++ [32, 123, 32] ++ fmt x.lo ++ [32, 44, 32] ++ fmt x.hi ++ [32, 125], (typedR x.types).toks + 6, 0⟩
theorem item_pos (x : It) : itemT x ≠ [] := by
 have ht : tailT x ≠ [] := by
  unfold tailT
  split
  ·simp
  ·split <;> simp
 intro h
 unfold itemT at h
 simp only [List.append_eq_nil_iff] at h
 exact ht h.2.2.2.2
theorem item_same (nm : Str → Bool) (x : It) (h : shapedIt nm x = true) : itemR fmt x = tlOf fmt (itemT x) 0 := by
 unfold shapedIt at h
 simp only [Bool.and_eq_true, Bool.or_eq_true, Bool.not_eq_true', decide_eq_true_eq] at h
 obtain ⟨⟨⟨⟨⟨h1, _⟩, _⟩, _⟩, _⟩, h6⟩ := h
 have hne : x.types ≠ [] := by intro h; rw [h] at h1; simp at h1
 have ht := typed_same fmt x hne
 have hmid : manyT x 3 ++ (typesT x.types 0 ++ manyT x 4) ≠ [] := by
  cases hx : x.types with
  | nil => exact absurd hx hne
  | cons t r => simp [typesT]
 have e1 : itemT x = (if x.neg = true then [tk 9] else []) ++ ((manyT x 3 ++ (typesT x.types 0 ++ manyT x 4)) ++ tailT x) := by simp [itemT]
 unfold itemR
 rw [ht, e1]
 generalize manyT x 3 ++ (typesT x.types 0 ++ manyT x 4) = M at hmid
 unfold tlOf tailT
 cases hn : x.neg with
 | true =>
  rw [hn] at h6
  have h7 : x.lo = 1 ∧ x.hi = 1 := by simpa using h6
  rw [if_pos rfl, if_pos rfl, if_pos h7, joinT_append fmt [tk 9] _ (by simp) (by simp), joinT_append fmt M _ hmid (by simp)]
  simp [joinT, spell, tk, nme, spellsL]
 | false =>
  simp only [Bool.false_eq_true, if_false, List.nil_append]
  by_cases c1 : x.lo = 1 ∧ x.hi = 1
  ·rw [if_pos c1, if_pos c1, joinT_append fmt M _ hmid (by simp)]
   simp [joinT, spell, nme]
  ·rw [if_neg c1, if_neg c1]
   by_cases c2 : x.lo = 1 ∧ x.hi = 4
   ·rw [if_pos c2, if_pos c2, joinT_append fmt M _ hmid (by simp)]
    simp [joinT, spell, nme, tk, spellsL]
   ·rw [if_neg c2, if_neg c2, joinT_append fmt M _ hmid (by simp)]
    simp [joinT, spell, nme, tk, num, spellsL]
end
end Go.Proofs.YtfglgpbjjpoimaaGreatDoor.Sv
/- SaveEncodes, plain part E: the reference's text of a query is the program's (no program in sight). -/
set_option linter.unusedVariables false
namespace Go.Proofs.YtfglgpbjjpoimaaGreatDoor.Sv

/-- The trees of a query's lists. -/
structure TreesOf (q : Qy) (w : Option Ex) (r : List Ex) : Prop where
 none_ : q.wher = [] → w = none
 some_ : q.wher ≠ [] → ∃ e, w = some e ∧ Sh q.wher 0 e ∧ e.size = q.wher.length
 len : r.length = q.ret.length
 rets : ∀ i (h : i < q.ret.length) (h2 : i < r.length), Sh q.ret[i] 0 r[i] ∧ r[i].size = q.ret[i].length
theorem trees_of {nm : Str → Bool} {q : Qy} (h : shapedQ nm q = true) : ∃ w r, TreesOf q w r := by
 unfold shapedQ at h
 simp only [Bool.and_eq_true, Bool.or_eq_true, decide_eq_true_eq] at h
 obtain ⟨⟨⟨_, h1⟩, _⟩, h2⟩ := h
 have hr : ∀ l : List (List Nd), l.all (treeB nm) = true → ∃ r : List Ex, r.length = l.length ∧ ∀ i (h : i < l.length) (h2 : i < r.length), Sh l[i] 0 r[i] ∧ r[i].size = l[i].length := by
  intro l
  induction l with
  | nil => intro _; exact ⟨[], rfl, fun i h => by simp at h⟩
  | cons t l ih =>
   intro ha
   simp only [List.all_cons, Bool.and_eq_true] at ha
   obtain ⟨e, he, hs⟩ := tree_shape ha.1
   obtain ⟨r, hl, hg⟩ := ih ha.2
   refine ⟨e :: r, by simp [hl], fun i h1 h2 => ?_⟩
   cases i with
   | zero => exact ⟨he, hs⟩
   | succ i => exact hg i (by simpa using h1) (by simpa using h2)
 obtain ⟨r, hl, hg⟩ := hr q.ret h2
 by_cases hw : q.wher = []
 ·exact ⟨none, r, fun _ => rfl, fun h => absurd hw h, hl, hg⟩
 ·have h3 : treeB nm q.wher = true := by
   rcases h1 with h1 | h1
   ·exact absurd (List.isEmpty_iff.1 h1) hw
   ·exact h1
  obtain ⟨e, he, hs⟩ := tree_shape h3
  exact ⟨some e, r, fun h => absurd h hw, fun _ => ⟨e, rfl, he, hs⟩, hl, hg⟩

section
variable (fmt : Int → Str)
def itemsR : List It → Nat → Tl → Tl
 | [], _, x => x
 | it :: l, i, x => itemsR l (i + 1) (behindR (if 0 < i then behindR x ⟨[44], 1, 0⟩ else x) (itemR fmt it))
def retsR : List (List Nd) → Nat → Tl → Tl
 | [], _, x => x
 | t :: l, i, x => retsR l (i + 1) (behindR (if i = 0 then behindR x ⟨[82, 69, 84, 85, 82, 78], 1, 0⟩ else behindR x ⟨[44], 1, 0⟩) (wholeR fmt t))
def modeR (q : Qy) (x : Tl) : Tl := if q.mode = 1 then behindR x ⟨[85, 83, 73, 78, 71, 32, 78, 69, 88, 84], 2, 0⟩ else if q.mode = 2 then behindR x ⟨[85, 83, 73, 78, 71, 32, 83, 84, 82, 73, 67, 84], 2, 0⟩ else x
def afterR (q : Qy) (x : Tl) : Tl :=
 if q.after = 1 then behindR x ⟨[65, 70, 84, 69, 82, 32, 78, 69, 88, 84], 2, 0⟩ else if q.after = 2 then behindR x ⟨[65, 70, 84, 69, 82, 32, 80, 65, 83, 84], 2, 0⟩ else if q.after = 3 then behindR x ⟨[65, 70, 84, 69, 82, 32, 79, 78, 67, 69], 2, 0⟩ else x
def whereR (q : Qy) (x : Tl) : Tl := if q.wher.isEmpty = true then x else behindR (behindR x ⟨[87, 72, 69, 82, 69], 1, 0⟩) (wholeR fmt q.wher)
def withinR (q : Qy) (x : Tl) : Tl := behindR x ⟨[87, 73, 84, 72, 73, 78, 32] ++ fmt q.within, 2, 0⟩
def byR (q : Qy) (x : Tl) : Tl := if q.by_.isEmpty = true then x else behindR x ⟨[80, 65, 82, 84, 73, 84, 73, 79, 78, 32, 66, 89, 32] ++ q.by_, 3, 0⟩
def startR : Tl := ⟨[80, 65, 84, 84, 69, 82, 78, 32, 83, 69, 81, 32, 40], 3, 0⟩
def queryR (q : Qy) : Tl := retsR fmt q.ret 0 (byR q (withinR fmt q (whereR fmt q (afterR q (modeR q (behindR (itemsR fmt q.items 0 startR) ⟨[41], 1, 0⟩))))))
theorem items_same {nm : Str → Bool} : ∀ (l : List It) (i : Nat) (T : List Tk), l.all (shapedIt nm) = true → T ≠ [] → itemsR fmt l i (tlOf fmt T 0) = tlOf fmt (T ++ loopT itemT commaT l i) 0 := by
 intro l
 induction l with
 | nil => intro i T _ _; simp [itemsR, loopT]
 | cons it l ih =>
  intro i T h hT
  simp only [List.all_cons, Bool.and_eq_true] at h
  rw [itemsR, item_same fmt nm it h.1]
  have e : (if 0 < i then behindR (tlOf fmt T 0) ⟨[44], 1, 0⟩ else tlOf fmt T 0) = tlOf fmt (T ++ commaT i) 0 := by
   unfold commaT
   split
   ·have : (⟨[44], 1, 0⟩ : Tl) = tlOf fmt [tk 7] 0 := rfl
    rw [this, behind_same fmt T [tk 7] 0 0 hT (by simp)]
    rfl
   ·simp
  rw [e, behind_same fmt _ _ 0 0 (by simp [hT]) (item_pos it), Nat.max_self, ih (i + 1) (T ++ commaT i ++ itemT it) h.2 (by simp [hT])]
  simp [loopT]
theorem rets_same : ∀ (l : List (List Nd)) (r : List Ex) (i : Nat) (T : List Tk) (d : Nat), r.length = l.length → (∀ j (h : j < l.length) (h2 : j < r.length), Sh l[j] 0 r[j] ∧ r[j].size = l[j].length) → T ≠ [] →
  retsR fmt l i (tlOf fmt T d) = tlOf fmt (T ++ loopT (toksT 0) retT r i) (max d (loopD (toksD 0) r)) := by
 intro l
 induction l with
 | nil =>
  intro r i T d hl _ _
  have : r = [] := List.eq_nil_of_length_eq_zero hl
  subst this
  simp [retsR, loopT, loopD]
 | cons t l ih =>
  intro r i T d hl h hT
  cases r with
  | nil => simp at hl
  | cons e r =>
   obtain ⟨hs, hz⟩ := h 0 (by simp) (by simp)
   simp only [List.getElem_cons_zero] at hs hz
   have h0 := toks0 e hs.ok
   rw [retsR, whole_same fmt hs hz]
   have e1 : (if i = 0 then behindR (tlOf fmt T d) ⟨[82, 69, 84, 85, 82, 78], 1, 0⟩ else behindR (tlOf fmt T d) ⟨[44], 1, 0⟩) = tlOf fmt (T ++ retT i) d := by
    unfold retT
    split
    ·have : (⟨[82, 69, 84, 85, 82, 78], 1, 0⟩ : Tl) = tlOf fmt [tk 40] 0 := rfl
     rw [this, behind_same fmt T [tk 40] d 0 hT (by simp)]
     simp
    ·have : (⟨[44], 1, 0⟩ : Tl) = tlOf fmt [tk 7] 0 := rfl
     rw [this, behind_same fmt T [tk 7] d 0 hT (by simp)]
     simp
   have hb : bodyT e ≠ [] := by intro h; have := body_pos e; rw [h] at this; simp at this
   rw [e1, behind_same fmt _ _ d _ (by simp [hT]) hb, ih r (i + 1) _ _ (by simpa using hl) (fun j h1 h2 => by
    have := h (j + 1) (by simpa using h1) (by simpa using h2)
    simpa using this) (by simp [hT])]
   rw [loopT, loopD, h0.1, h0.2]
   simp only [List.append_assoc]
   congr 1
   omega
theorem query_same {nm : Str → Bool} {q : Qy} {w : Option Ex} {r : List Ex} (h : shapedQ nm q = true) (ht : TreesOf q w r) : queryR fmt q = tlOf fmt (queryT q w r) (queryD w r) := by
 have hq := h
 unfold shapedQ at h
 simp only [Bool.and_eq_true, Bool.or_eq_true, decide_eq_true_eq] at h
 obtain ⟨⟨⟨⟨⟨⟨⟨⟨⟨_, m0⟩, m2⟩, a0⟩, a3⟩, _⟩, hi⟩, _⟩, _⟩, _⟩ := h
 have es : startR = tlOf fmt [tk 30, tk 31, tk 3] 0 := rfl
 unfold queryR
 rw [es, items_same fmt q.items 0 _ hi (by simp)]
 have ec : (⟨[41], 1, 0⟩ : Tl) = tlOf fmt [tk 4] 0 := rfl
 rw [ec, behind_same fmt _ [tk 4] 0 0 (by simp) (by simp)]
 generalize hT : ([tk 30, tk 31, tk 3] ++ loopT itemT commaT q.items 0) ++ [tk 4] = T1
 have n1 : T1 ≠ [] := by rw [← hT]; simp
 have em : ∀ T, T ≠ [] → modeR q (tlOf fmt T 0) = tlOf fmt (T ++ modeT q) 0 := by
  intro T hT
  unfold modeR modeT
  by_cases c1 : q.mode = 1
  ·rw [if_pos c1, if_neg (by omega), c1]
   have : (⟨[85, 83, 73, 78, 71, 32, 78, 69, 88, 84], 2, 0⟩ : Tl) = tlOf fmt [tk 32, tk (33 + 1)] 0 := rfl
   rw [this, behind_same fmt T _ 0 0 hT (by simp)]
   rfl
  ·by_cases c2 : q.mode = 2
   ·rw [if_neg c1, if_pos c2, if_neg (by omega), c2]
    have : (⟨[85, 83, 73, 78, 71, 32, 83, 84, 82, 73, 67, 84], 2, 0⟩ : Tl) = tlOf fmt [tk 32, tk (33 + 2)] 0 := rfl
    rw [this, behind_same fmt T _ 0 0 hT (by simp)]
    rfl
   ·rw [if_neg c1, if_neg c2, if_pos (by omega)]
    simp
 have ea : ∀ T, T ≠ [] → afterR q (tlOf fmt T 0) = tlOf fmt (T ++ afterT q) 0 := by
  intro T hT
  unfold afterR afterT
  by_cases c1 : q.after = 1
  ·rw [if_pos c1, if_neg (by omega), c1]
   have : (⟨[65, 70, 84, 69, 82, 32, 78, 69, 88, 84], 2, 0⟩ : Tl) = tlOf fmt [tk 53, tk (aftersL.getD (1 : Int).toNat 0)] 0 := rfl
   rw [this, behind_same fmt T _ 0 0 hT (by simp)]
   rfl
  ·by_cases c2 : q.after = 2
   ·rw [if_neg c1, if_pos c2, if_neg (by omega), c2]
    have : (⟨[65, 70, 84, 69, 82, 32, 80, 65, 83, 84], 2, 0⟩ : Tl) = tlOf fmt [tk 53, tk (aftersL.getD (2 : Int).toNat 0)] 0 := rfl
    rw [this, behind_same fmt T _ 0 0 hT (by simp)]
    rfl
   ·by_cases c3 : q.after = 3
    ·rw [if_neg c1, if_neg c2, if_pos c3, if_neg (by omega), c3]
     have : (⟨[65, 70, 84, 69, 82, 32, 79, 78, 67, 69], 2, 0⟩ : Tl) = tlOf fmt [tk 53, tk (aftersL.getD (3 : Int).toNat 0)] 0 := rfl
     rw [this, behind_same fmt T _ 0 0 hT (by simp)]
     rfl
    ·rw [if_neg c1, if_neg c2, if_neg c3, if_pos (by omega)]
     simp
 have ew : ∀ T, T ≠ [] → whereR fmt q (tlOf fmt T 0) = tlOf fmt (T ++ whereT w) (whereD w) := by
  intro T hT
  unfold whereR
  by_cases hw : q.wher = []
  ·rw [ht.none_ hw, hw]
   simp [whereT, whereD]
  ·obtain ⟨e, he, hs, hz⟩ := ht.some_ hw
   have h0 := toks0 e hs.ok
   have hb : bodyT e ≠ [] := by intro h; have := body_pos e; rw [h] at this; simp at this
   have : (⟨[87, 72, 69, 82, 69], 1, 0⟩ : Tl) = tlOf fmt [tk 36] 0 := rfl
   rw [if_neg (by simpa using hw), he, this, behind_same fmt T [tk 36] 0 0 hT (by simp), whole_same fmt hs hz, behind_same fmt _ _ _ _ (by simp) hb]
   simp only [whereT, whereD, h0.1, h0.2, List.append_assoc, List.singleton_append]
   congr 1
 have ei : ∀ T d, T ≠ [] → withinR fmt q (tlOf fmt T d) = tlOf fmt (T ++ withinT q) d := by
  intro T d hT
  unfold withinR withinT
  have : (⟨[87, 73, 84, 72, 73, 78, 32] ++ fmt q.within, 2, 0⟩ : Tl) = tlOf fmt [tk 37, num q.within] 0 := by simp [tlOf, joinT, spell, tk, num, kwsL]
  rw [this, behind_same fmt T _ d 0 hT (by simp)]
  simp
 have eb : ∀ T d, T ≠ [] → byR q (tlOf fmt T d) = tlOf fmt (T ++ byT q) d := by
  intro T d hT
  unfold byR byT
  split
  ·simp
  ·have : (⟨[80, 65, 82, 84, 73, 84, 73, 79, 78, 32, 66, 89, 32] ++ q.by_, 3, 0⟩ : Tl) = tlOf fmt [tk 38, tk 39, nme q.by_] 0 := by simp [tlOf, joinT, spell, tk, nme, kwsL]
   rw [this, behind_same fmt T _ d 0 hT (by simp)]
   simp
 have z0 : max 0 0 = 0 := rfl
 rw [z0, em T1 n1, ea _ (by simp [n1]), ew _ (by simp [n1]), ei _ _ (by simp [n1]), eb _ _ (by simp [n1]), rets_same fmt q.ret r 0 _ _ ht.len ht.rets (by simp [n1])]
 rw [← hT]
 simp [queryT, queryD]

/-- So many items, types, nodes and results that there are too many tokens. -/
def largeN (q : Qy) : Nat := q.items.length + q.wher.length + q.ret.length + (q.items.map fun x => x.types.length).sum + (q.ret.map List.length).sum
theorem typesT_ge (l : List Str) : ∀ i, l.length ≤ (typesT l i).length := by
 induction l with
 | nil => intro i; simp
 | cons t r ih => intro i; have := ih (i + 1); simp only [typesT, List.length_append, List.length_cons]; omega
theorem item_ge (x : It) : x.types.length + 1 ≤ (itemT x).length := by
  have h1 := typesT_ge x.types 0
  have h2 : 1 ≤ (tailT x).length := by unfold tailT; split; · simp
                                       · split <;> simp
  unfold itemT
  simp only [List.length_append]
  omega
theorem items_ge : ∀ (l : List It) (i : Nat), l.length + (l.map fun x => x.types.length).sum ≤ (loopT itemT commaT l i).length := by
 intro l
 induction l with
 | nil => intro i; simp
 | cons x l ih =>
  intro i
  have h1 := ih (i + 1)
  have h2 := item_ge x
  simp only [loopT, List.length_append, List.length_cons, List.map_cons, List.sum_cons]
  omega
theorem rets_ge : ∀ (l : List (List Nd)) (r : List Ex) (i : Nat), r.length = l.length → (∀ j (h : j < l.length) (h2 : j < r.length), Sh l[j] 0 r[j] ∧ r[j].size = l[j].length) → l.length + (l.map List.length).sum ≤ (loopT (toksT 0) retT r i).length := by
 intro l
 induction l with
 | nil => intro r i _ _; simp
 | cons t l ih =>
  intro r i hl h
  cases r with
  | nil => simp at hl
  | cons e r =>
   obtain ⟨hs, hz⟩ := h 0 (by simp) (by simp)
   simp only [List.getElem_cons_zero] at hs hz
   have h1 := ih r (i + 1) (by simpa using hl) (fun j h1 h2 => by
    have := h (j + 1) (by simpa using h1) (by simpa using h2)
    simpa using this)
   have h2 := toks_size 0 e
   have h3 : 1 ≤ (retT i).length := by unfold retT; split <;> simp
   simp only [loopT, List.length_append, List.length_cons, List.map_cons, List.sum_cons]
   omega
theorem large_over {q : Qy} {w : Option Ex} {r : List Ex} (ht : TreesOf q w r) : largeN q ≤ (queryT q w r).length := by
 have h1 := items_ge q.items 0
 have h2 := rets_ge q.ret r 0 ht.len ht.rets
 have h3 : q.wher.length ≤ (whereT w).length := by
  by_cases hw : q.wher = []
  ·rw [hw]; simp
  ·obtain ⟨e, he, hs, hz⟩ := ht.some_ hw
   rw [he, ← hz]
   have := toks_size 0 e
   simp only [whereT, List.length_cons]
   omega
 unfold largeN queryT
 simp only [List.length_append, List.length_cons]
 omega
/-- What the reference answers of a query that is well shaped. -/
def ansR (q : Qy) : Option Str := if 1200 < largeN q then none else if 400 < (queryR fmt q).toks then none else if 32 < (queryR fmt q).deep then none else some (queryR fmt q).text
/-- THE TWO ANSWERS ARE ONE. -/
theorem print_same {nm : Str → Bool} {q : Qy} {w : Option Ex} {r : List Ex} (h : shapedQ nm q = true) (ht : TreesOf q w r) : ansR fmt q = textS fmt (queryS q w r ⟨[], 0, 0⟩) := by
 rw [program_text]
 unfold ansR answerT
 rw [query_same fmt h ht]
 have hl := large_over ht
 show (if 1200 < largeN q then none else if 400 < (queryT q w r).length then none else if 32 < queryD w r then none else some (joinT fmt (queryT q w r))) = _
 by_cases h1 : 1200 < largeN q
 ·rw [if_pos h1, if_pos (by omega)]
 ·rw [if_neg h1]
end
end Go.Proofs.YtfglgpbjjpoimaaGreatDoor.Sv
