/- A message's bytes as plain data. No program in sight. -/
import Derived.Test.YtaipnbpefdcejaaNamed
set_option linter.unusedVariables false
namespace Go.Proofs.Ytaipnbpefdcejaa
open Go.RowKit
def I64 (x : Int) : Prop := -9223372036854775808 ≤ x ∧ x ≤ 9223372036854775807
def U64 (x : Int) : Prop := 0 ≤ x ∧ x < 18446744073709551616
/-- A message that a program can hold. -/
structure WfM (m : M) : Prop where
  kind : I64 m.kind
  handle : I64 m.handle
  num : I64 m.num
  ts : I64 m.ts
  id : U64 m.id
  typ : I64 m.typ
  a0 : I64 m.a0
  a1 : I64 m.a1
  a2 : I64 m.a2
  a3 : I64 m.a3
  a4 : I64 m.a4
  a5 : I64 m.a5
  a6 : I64 m.a6
  a7 : I64 m.a7
  dec : I64 m.dec
  names : ∀ v ∈ m.names, I64 v.1 ∧ U64 v.2
  lens : ∀ v ∈ m.lens, I64 v
  vals : ∀ v ∈ m.vals, I64 v.2
  mark : I64 m.mark
  held : I64 m.held
  kept : I64 m.kept
  waiting : I64 m.waiting
  parts : I64 m.parts
  fwhere : I64 m.fwhere
  fcode : I64 m.fcode
  fat : I64 m.fat
  code : I64 m.code
  nl : m.names.length ≤ 1073741824
  ll : m.lens.length ≤ 1073741824
  vl : m.vals.length ≤ 1073741824
  sl : m.schema.size ≤ 1073741824
  ql : m.query.size ≤ 1073741824
  il : m.image.length ≤ 1073741824
def bytesI (i : Int) : List UInt8 := bytesU (zig i)
def byT (b : Bool) : List UInt8 := [if b then 1 else 0]
def encText (s : ByteArray) : List UInt8 := bytesU s.size ++ s.data.toList
def encName (v : Int × Int) : List UInt8 := bytesI v.1 ++ bytesU v.2.toNat
def encVal (v : Bool × Int) : List UInt8 := byT v.1 ++ (if v.1 then bytesI v.2 else [])
def encNames (l : List (Int × Int)) : List UInt8 := bytesU l.length ++ l.flatMap encName
def encLens (l : List Int) : List UInt8 := bytesU l.length ++ l.flatMap bytesI
def encVals (l : List (Bool × Int)) : List UInt8 := bytesU l.length ++ l.flatMap encVal
def encMatch (m : M) : List UInt8 := bytesI m.dec ++ (encNames m.names ++ (encLens m.lens ++ encVals m.vals))
def attrs (m : M) : List Int := [m.a0, m.a1, m.a2, m.a3, m.a4, m.a5, m.a6, m.a7]
def encEvent (m : M) : List UInt8 := bytesI m.ts ++ (bytesU m.id.toNat ++ (bytesI m.typ ++ (attrs m).flatMap bytesI))
def encSizes (m : M) : List UInt8 := bytesI m.mark ++ (byT m.closed ++ [m.held, m.kept, m.waiting, m.parts].flatMap bytesI)
def encFault (m : M) : List UInt8 := bytesI m.fwhere ++ (bytesI m.fcode ++ bytesI m.fat)
/-- A field's bytes. -/
def encF (s : String) (m : M) : List UInt8 :=
  if s = "sluice/wire.number" then bytesI m.num else
  if s = "sluice/wire.handle" then bytesU m.handle.toNat else
  if s = "sluice/wire.code" then bytesI m.code else
  if s = "sluice/wire.schema" then encText m.schema else
  if s = "sluice/wire.query" then encText m.query else
  if s = "sluice/wire.image" then bytesU m.image.length ++ m.image else
  if s = "sluice/wire.event" then encEvent m else
  if s = "sluice/wire.match" then encMatch m else
  if s = "sluice/wire.sizes" then encSizes m else
  if s = "sluice/wire.fault" then encFault m else []
/-- A field's letter. -/
def letter (s : String) : UInt8 :=
  if s = "sluice/wire.number" then 78 else
  if s = "sluice/wire.handle" then 72 else
  if s = "sluice/wire.code" then 67 else
  if s = "sluice/wire.schema" then 83 else
  if s = "sluice/wire.query" then 81 else
  if s = "sluice/wire.image" then 73 else
  if s = "sluice/wire.event" then 69 else
  if s = "sluice/wire.match" then 77 else
  if s = "sluice/wire.sizes" then 90 else
  if s = "sluice/wire.fault" then 70 else 0
theorem named_ord (k : Int) : namedL k = (ordL k).map letter := by
  unfold namedL ordL
  repeat' split
  all_goals first | rfl | simp_all [letter]
/-- What stands in a frame behind the number. -/
def inM (m : M) : List UInt8 := UInt8.ofNat m.kind.toNat :: (ordL m.kind).flatMap fun s => encF s m
theorem bytesU_le (n : Nat) (h : n < 18446744073709551616) : (bytesU n).length ≤ 10 := bytesU_len10 n h
theorem bytesI_le (i : Int) (h : I64 i) : (bytesI i).length ≤ 10 := bytesU_len10 _ (zig_lt i h)
theorem flat_le {α : Type} (f : α → List UInt8) (c : Nat) : ∀ l : List α, (∀ v ∈ l, (f v).length ≤ c) → (l.flatMap f).length ≤ l.length * c := by
  intro l
  induction l with
  | nil => intro _; simp
  | cons v l ih =>
    intro h
    have h1 := h v (by simp)
    have h2 := ih fun u hu => h u (by simp [hu])
    rw [List.flatMap_cons, List.length_append, List.length_cons, Nat.add_mul]
    omega
theorem byT_len (b : Bool) : (byT b).length = 1 := rfl
theorem encText_le {s : ByteArray} (h : s.size ≤ 1073741824) : (encText s).length ≤ 1073741834 := by
  have h1 := bytesU_le s.size (by omega)
  have h2 : s.data.toList.length = s.size := by rw [Array.length_toList]; rfl
  rw [encText, List.length_append, h2]
  omega
theorem encNames_le {m : M} (h : WfM m) : (encNames m.names).length ≤ 21474836490 := by
  have h1 := bytesU_le m.names.length (by have := h.nl; omega)
  have h2 := flat_le encName 20 m.names fun v hv => by
    have := bytesI_le v.1 (h.names v hv).1
    have hu := (h.names v hv).2
    have := bytesU_le v.2.toNat (by unfold U64 at hu; omega)
    rw [encName, List.length_append]
    omega
  have := h.nl
  rw [encNames, List.length_append]
  omega
theorem encLens_le {m : M} (h : WfM m) : (encLens m.lens).length ≤ 10737418250 := by
  have h1 := bytesU_le m.lens.length (by have := h.ll; omega)
  have h2 := flat_le bytesI 10 m.lens fun v hv => bytesI_le v (h.lens v hv)
  have := h.ll
  rw [encLens, List.length_append]
  omega
theorem encVal_le {v : Bool × Int} (h : I64 v.2) : (encVal v).length ≤ 11 := by
  have := bytesI_le v.2 h
  rw [encVal, List.length_append, byT_len]
  split
  · omega
  · simp
theorem encVals_le {m : M} (h : WfM m) : (encVals m.vals).length ≤ 11811160074 := by
  have h1 := bytesU_le m.vals.length (by have := h.vl; omega)
  have h2 := flat_le encVal 11 m.vals fun v hv => encVal_le (h.vals v hv)
  have := h.vl
  rw [encVals, List.length_append]
  omega
theorem encF_le {m : M} (h : WfM m) (hh : 0 ≤ m.handle) (s : String) : (encF s m).length ≤ 100000000000 := by
  have c1 := bytesI_le _ h.num
  have c2 := bytesU_le m.handle.toNat (by have := h.handle; unfold I64 at this; omega)
  have c3 := bytesI_le _ h.code
  have c4 := encText_le h.sl
  have c5 := encText_le h.ql
  have c6 := bytesU_le m.image.length (by have := h.il; omega)
  have c7 := h.il
  have c8 : (encEvent m).length ≤ 1000 := by
    have d1 := bytesI_le _ h.ts
    have d2 := bytesU_le m.id.toNat (by have := h.id; unfold U64 at this; omega)
    have d3 := bytesI_le _ h.typ
    have d4 := flat_le bytesI 10 (attrs m) fun v hv => by
      simp only [attrs, List.mem_cons, List.not_mem_nil, or_false] at hv
      rcases hv with rfl | rfl | rfl | rfl | rfl | rfl | rfl | rfl
      · exact bytesI_le _ h.a0
      · exact bytesI_le _ h.a1
      · exact bytesI_le _ h.a2
      · exact bytesI_le _ h.a3
      · exact bytesI_le _ h.a4
      · exact bytesI_le _ h.a5
      · exact bytesI_le _ h.a6
      · exact bytesI_le _ h.a7
    have d5 : (attrs m).length = 8 := rfl
    simp only [encEvent, List.length_append]
    omega
  have c9 : (encMatch m).length ≤ 99999999999 := by
    have d1 := bytesI_le _ h.dec
    have d2 := encNames_le h
    have d3 := encLens_le h
    have d4 := encVals_le h
    simp only [encMatch, List.length_append]
    omega
  have c10 : (encSizes m).length ≤ 1000 := by
    have d1 := bytesI_le _ h.mark
    have d2 := byT_len m.closed
    have d4 := flat_le bytesI 10 [m.held, m.kept, m.waiting, m.parts] fun v hv => by
      simp only [List.mem_cons, List.not_mem_nil, or_false] at hv
      rcases hv with rfl | rfl | rfl | rfl
      · exact bytesI_le _ h.held
      · exact bytesI_le _ h.kept
      · exact bytesI_le _ h.waiting
      · exact bytesI_le _ h.parts
    simp only [List.length_cons, List.length_nil] at d4
    simp only [encSizes, List.length_append]
    omega
  have c11 : (encFault m).length ≤ 1000 := by
    have d1 := bytesI_le _ h.fwhere
    have d2 := bytesI_le _ h.fcode
    have d3 := bytesI_le _ h.fat
    simp only [encFault, List.length_append]
    omega
  unfold encF
  repeat' split
  all_goals (try rw [List.length_append])
  all_goals (try simp only [List.length_nil])
  all_goals omega
#print axioms encF_le
end Go.Proofs.Ytaipnbpefdcejaa
