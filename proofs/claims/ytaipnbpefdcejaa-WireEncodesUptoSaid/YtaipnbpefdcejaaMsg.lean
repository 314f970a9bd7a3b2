/- A message as plain data; its cells; what erasing a field does. -/
import Derived.Test.YtaipnbpefdcejaaOrder
import Derived.Test.YtaipnbpefdcejaaBlank
set_option linter.unusedVariables false
namespace Go.Proofs.Ytaipnbpefdcejaa
open Go.RowKit
/-- A message. -/
structure M where
  kind : Int
  handle : Int
  num : Int
  ts : Int
  id : Int
  typ : Int
  a0 : Int
  a1 : Int
  a2 : Int
  a3 : Int
  a4 : Int
  a5 : Int
  a6 : Int
  a7 : Int
  dec : Int
  names : List (Int × Int)
  lens : List Int
  vals : List (Bool × Int)
  mark : Int
  closed : Bool
  held : Int
  kept : Int
  waiting : Int
  parts : Int
  fwhere : Int
  fcode : Int
  fat : Int
  code : Int
  schema : ByteArray
  query : ByteArray
  image : List UInt8
/-- Where its lists lie. -/
structure Ps where
  an : Option Addr
  cn : Nat
  al : Option Addr
  cl : Nat
  av : Option Addr
  cv : Nat
  ai : Option Addr
  ci : Nat
def cellsM (m : M) (p : Ps) : List Value :=
  [.int .i64 m.kind, .int .i64 m.handle, .int .i64 m.num, .int .i64 m.ts, .int .u64 m.id, .int .i64 m.typ, .int .i64 m.a0, .int .i64 m.a1, .int .i64 m.a2, .int .i64 m.a3, .int .i64 m.a4, .int .i64 m.a5, .int .i64 m.a6, .int .i64 m.a7, .int .i64 m.dec, .slice p.an m.names.length p.cn, .slice p.al m.lens.length p.cl, .slice p.av m.vals.length p.cv, .int .i64 m.mark, .bool m.closed, .int .i64 m.held, .int .i64 m.kept, .int .i64 m.waiting, .int .i64 m.parts, .int .i64 m.fwhere, .int .i64 m.fcode, .int .i64 m.fat, .int .i64 m.code, .string m.schema, .string m.query, .slice p.ai m.image.length p.ci]
def valM (m : M) (p : Ps) : Value := .agg (cellsM m p).toArray
theorem cellsM_len (m : M) (p : Ps) : (cellsM m p).length = 31 := rfl

def eraseM (s : String) (m : M) : M :=
  if s = "sluice/wire.number" then { m with num := 0 } else
  if s = "sluice/wire.handle" then { m with handle := 0 } else
  if s = "sluice/wire.code" then { m with code := 0 } else
  if s = "sluice/wire.schema" then { m with schema := ByteArray.empty } else
  if s = "sluice/wire.query" then { m with query := ByteArray.empty } else
  if s = "sluice/wire.image" then { m with image := [] } else
  if s = "sluice/wire.event" then { m with ts := 0, id := 0, typ := 0, a0 := 0, a1 := 0, a2 := 0, a3 := 0, a4 := 0, a5 := 0, a6 := 0, a7 := 0 } else
  if s = "sluice/wire.match" then { m with dec := 0, names := [], lens := [], vals := [] } else
  if s = "sluice/wire.sizes" then { m with mark := 0, closed := false, held := 0, kept := 0, waiting := 0, parts := 0 } else
  if s = "sluice/wire.fault" then { m with fwhere := 0, fcode := 0, fat := 0 } else m
def eraseP (s : String) (p : Ps) : Ps :=
  if s = "sluice/wire.image" then { p with ai := none, ci := 0 } else
  if s = "sluice/wire.match" then { p with an := none, cn := 0, al := none, cl := 0, av := none, cv := 0 } else p
/-- The block holds the message with the field erased. -/
def ErasedM (s : String) (g : Nat) (m : M) (p : Ps) (w : World) (e : Ending) (w' : World) : Prop := Erased g (cellsM (eraseM s m) (eraseP s p)) w e w'
theorem erm_number (g : Nat) (m : M) (p : Ps) (w : World) (h : Blk w g 50 (cellsM m p)) : Calls Try.prog 89 #[.agg #[], .pointer (some ⟨g, 0, none⟩)] w (ErasedM "sluice/wire.number" g m p w) := er_number g _ w (cellsM_len m p) h
theorem erm_handle (g : Nat) (m : M) (p : Ps) (w : World) (h : Blk w g 50 (cellsM m p)) : Calls Try.prog 86 #[.agg #[], .pointer (some ⟨g, 0, none⟩)] w (ErasedM "sluice/wire.handle" g m p w) := er_handle g _ w (cellsM_len m p) h
theorem erm_code (g : Nat) (m : M) (p : Ps) (w : World) (h : Blk w g 50 (cellsM m p)) : Calls Try.prog 83 #[.agg #[], .pointer (some ⟨g, 0, none⟩)] w (ErasedM "sluice/wire.code" g m p w) := er_code g _ w (cellsM_len m p) h
theorem erm_schema (g : Nat) (m : M) (p : Ps) (w : World) (h : Blk w g 50 (cellsM m p)) : Calls Try.prog 91 #[.agg #[], .pointer (some ⟨g, 0, none⟩)] w (ErasedM "sluice/wire.schema" g m p w) := er_schema g _ w (cellsM_len m p) h
theorem erm_query (g : Nat) (m : M) (p : Ps) (w : World) (h : Blk w g 50 (cellsM m p)) : Calls Try.prog 90 #[.agg #[], .pointer (some ⟨g, 0, none⟩)] w (ErasedM "sluice/wire.query" g m p w) := er_query g _ w (cellsM_len m p) h
theorem erm_image (g : Nat) (m : M) (p : Ps) (w : World) (h : Blk w g 50 (cellsM m p)) : Calls Try.prog 87 #[.agg #[], .pointer (some ⟨g, 0, none⟩)] w (ErasedM "sluice/wire.image" g m p w) := er_image g _ w (cellsM_len m p) h
theorem erm_event (g : Nat) (m : M) (p : Ps) (w : World) (h : Blk w g 50 (cellsM m p)) : Calls Try.prog 84 #[.agg #[], .pointer (some ⟨g, 0, none⟩)] w (ErasedM "sluice/wire.event" g m p w) := er_event g _ w (cellsM_len m p) h
theorem erm_match (g : Nat) (m : M) (p : Ps) (w : World) (h : Blk w g 50 (cellsM m p)) : Calls Try.prog 88 #[.agg #[], .pointer (some ⟨g, 0, none⟩)] w (ErasedM "sluice/wire.match" g m p w) := er_match g _ w (cellsM_len m p) h
theorem erm_sizes (g : Nat) (m : M) (p : Ps) (w : World) (h : Blk w g 50 (cellsM m p)) : Calls Try.prog 92 #[.agg #[], .pointer (some ⟨g, 0, none⟩)] w (ErasedM "sluice/wire.sizes" g m p w) := er_sizes g _ w (cellsM_len m p) h
theorem erm_fault (g : Nat) (m : M) (p : Ps) (w : World) (h : Blk w g 50 (cellsM m p)) : Calls Try.prog 85 #[.agg #[], .pointer (some ⟨g, 0, none⟩)] w (ErasedM "sluice/wire.fault" g m p w) := er_fault g _ w (cellsM_len m p) h
/-- The ten names. -/
def tenL : List String := ["sluice/wire.number", "sluice/wire.handle", "sluice/wire.code", "sluice/wire.schema", "sluice/wire.query", "sluice/wire.image", "sluice/wire.event", "sluice/wire.match", "sluice/wire.sizes", "sluice/wire.fault"]
theorem ordL_ten (k : Int) : ∀ s ∈ ordL k, s ∈ tenL := by
  unfold ordL
  repeat' split
  all_goals (intro s hs; simp at hs; try (rcases hs with rfl | rfl | rfl); try (rcases hs with rfl | rfl); try (subst hs))
  all_goals simp [tenL]
def blankM (m : M) : Prop := blankP m.handle m.num m.ts m.id m.typ m.a0 m.a1 m.a2 m.a3 m.a4 m.a5 m.a6 m.a7 m.dec m.names.length m.lens.length m.vals.length m.mark m.closed m.held m.kept m.waiting m.parts m.fwhere m.fcode m.fat m.code m.schema m.query m.image.length
theorem blank_m (m : M) (p : Ps) (w : World) : Calls Try.prog 47 #[valM m p] w fun e w' => ∃ b : Bool, e = .returned (.bool b) ∧ (b = true ↔ blankM m) ∧ Below w.heap.size w w' :=
  blank_any m.kind m.handle m.num m.ts m.id m.typ m.a0 m.a1 m.a2 m.a3 m.a4 m.a5 m.a6 m.a7 m.dec p.an m.names.length p.cn p.al m.lens.length p.cl p.av m.vals.length p.cv m.mark m.closed m.held m.kept m.waiting m.parts m.fwhere m.fcode m.fat m.code m.schema m.query p.ai m.image.length p.ci w
#print axioms erm_event
end Go.Proofs.Ytaipnbpefdcejaa
