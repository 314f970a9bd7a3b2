/- SaveEncodes: contracts of the library, laid at this program (printed by the kit's layers, in plain words; cut down to what is used). -/
import Derived.Shelf.Strings.Builder1
import Derived.Shelf.Strings.OnBuilder
import Derived.Shelf.LaysM
import Derived.Shelf.Strconv.Itoa3
import Derived.Shelf.Strconv.Itoa4
import Derived.Test.YtfglgpbjjpoimaaGreatDoorProg
import Derived.Test.YtfglgpbjjpoimaaGreatDoorSwGD
namespace Go.Proofs
open Go.Shelf
def Tryz.lays169_ren : Go.Shelf.Ren := ⟨fun | 169 => 59 | n => n, fun | 70 => 124 | 9 => 9 | 0 => 0 | 72 => 126 | 37 => 39 | 127 => 183 | 3 => 3 | 5 => 5 | n => n, fun | n => n⟩
theorem Tryz.lays169 : Go.Proofs.Lays.n169 Tryz.prog Tryz.lays169_ren := {
 mixed := by kernel_rfl
 f169 := Tryz.func59.trans (congrArg some (by kernel_rfl))
 t0 := Tryz.underlying0
 a0 := Tryz.isAgg0
 z0 := Tryz.sizeOf0
 v0 := Tryz.zeroValue0
 t3 := Tryz.underlying3
 a3 := Tryz.isAgg3
 z3 := Tryz.sizeOf3
 v3 := Tryz.zeroValue3
 t9 := Tryz.underlying9
 a9 := Tryz.isAgg9
 z9 := Tryz.sizeOf9
 v9 := Tryz.zeroValue9
 t37 := Tryz.underlying39
 a37 := Tryz.isAgg39
 z37 := Tryz.sizeOf39
 v37 := Tryz.zeroValue39
 t70 := Tryz.underlying124
 a70 := Tryz.isAgg124
 z70 := Tryz.sizeOf124
 v70 := Tryz.zeroValue124
 t72 := Tryz.underlying126
 a72 := Tryz.isAgg126
 z72 := Tryz.sizeOf126
 v72 := Tryz.zeroValue126
 t127 := Tryz.underlying183
 a127 := Tryz.isAgg183
 z127 := Tryz.sizeOf183
 v127 := Tryz.zeroValue183 }
theorem Tryz.Builder_Extra_169 : Builder.Extra Tryz.prog Tryz.lays169_ren := {
 sizeBuilder := by kernel_rfl
 liesBuilder := by kernel_rfl
 t5 := Tryz.underlying5
 a5 := Tryz.isAgg5
 z5 := Tryz.sizeOf5
 v5 := Tryz.zeroValue5
 infoByte := by kernel_rfl
 cellsByte := by kernel_rfl
 sizeByte := by kernel_rfl
 neB5 := by decide }
open Go.RowKit in
theorem Tryz.Builder_String_any (B b : Nat) (l : List UInt8) (w : World) (h : Lib.IsBuilder 126 5 B b (Lib.byteCells l) w) (hBw : B ≤ w.heap.size) :
  Calls Tryz.prog 59 #[.pointer (some ⟨b, 0, none⟩)] w fun e w' => e = .returned (.string ⟨l.toArray⟩) ∧ Below B w w' := Any.Builder_String_any Tryz.lays169 Tryz.Builder_Extra_169 B b l w h hBw
def Tryz.lays156_ren : Go.Shelf.Ren := ⟨fun | 156 => 58 | 165 => 97 | 166 => 57 | 169 => 59 | 240 => 96 | 241 => 115 | 276 => 114 | 277 => 134 | n => n, fun | 31 => 56 | 9 => 9 | 3 => 3 | 4 => 4 | 0 => 0 | 20 => 20 | 72 => 126 | 76 => 127 | 70 => 124 | 37 => 39 | 75 => 44 | 127 => 183 | 164 => 154 | 5 => 5 | 80 => 130 | n => n, fun | n => n⟩
theorem Tryz.lays156 : Go.Proofs.Lays.n156 Tryz.prog Tryz.lays156_ren := {
 mixed := by kernel_rfl
 f156 := Tryz.func58.trans (congrArg some (by kernel_rfl))
 f165 := Tryz.func97.trans (congrArg some (by kernel_rfl))
 f166 := Tryz.func57.trans (congrArg some (by kernel_rfl))
 f169 := Tryz.func59.trans (congrArg some (by kernel_rfl))
 f240 := Tryz.func96.trans (congrArg some (by kernel_rfl))
 f241 := Tryz.func115.trans (congrArg some (by kernel_rfl))
 f276 := Tryz.func114.trans (congrArg some (by kernel_rfl))
 f277 := Tryz.func134.trans (congrArg some (by kernel_rfl))
 t0 := Tryz.underlying0
 a0 := Tryz.isAgg0
 z0 := Tryz.sizeOf0
 v0 := Tryz.zeroValue0
 t3 := Tryz.underlying3
 a3 := Tryz.isAgg3
 z3 := Tryz.sizeOf3
 v3 := Tryz.zeroValue3
 t4 := Tryz.underlying4
 a4 := Tryz.isAgg4
 z4 := Tryz.sizeOf4
 v4 := Tryz.zeroValue4
 t9 := Tryz.underlying9
 a9 := Tryz.isAgg9
 z9 := Tryz.sizeOf9
 v9 := Tryz.zeroValue9
 t20 := Tryz.underlying20
 a20 := Tryz.isAgg20
 z20 := Tryz.sizeOf20
 v20 := Tryz.zeroValue20
 t31 := Tryz.underlying56
 a31 := Tryz.isAgg56
 z31 := Tryz.sizeOf56
 v31 := Tryz.zeroValue56
 t37 := Tryz.underlying39
 a37 := Tryz.isAgg39
 z37 := Tryz.sizeOf39
 v37 := Tryz.zeroValue39
 t70 := Tryz.underlying124
 a70 := Tryz.isAgg124
 z70 := Tryz.sizeOf124
 v70 := Tryz.zeroValue124
 t72 := Tryz.underlying126
 a72 := Tryz.isAgg126
 z72 := Tryz.sizeOf126
 v72 := Tryz.zeroValue126
 t75 := Tryz.underlying44
 a75 := Tryz.isAgg44
 z75 := Tryz.sizeOf44
 v75 := Tryz.zeroValue44
 t76 := Tryz.underlying127
 a76 := Tryz.isAgg127
 z76 := Tryz.sizeOf127
 v76 := Tryz.zeroValue127
 t127 := Tryz.underlying183
 a127 := Tryz.isAgg183
 z127 := Tryz.sizeOf183
 v127 := Tryz.zeroValue183
 t164 := Tryz.underlying154
 a164 := Tryz.isAgg154
 z164 := Tryz.sizeOf154
 v164 := Tryz.zeroValue154 }
theorem Tryz.Builder_Extra_156 : Builder.Extra Tryz.prog Tryz.lays156_ren := {
 sizeBuilder := by kernel_rfl
 liesBuilder := by kernel_rfl
 t5 := Tryz.underlying5
 a5 := Tryz.isAgg5
 z5 := Tryz.sizeOf5
 v5 := Tryz.zeroValue5
 infoByte := by kernel_rfl
 cellsByte := by kernel_rfl
 sizeByte := by kernel_rfl
 neB5 := by decide }
open Go.RowKit in
theorem Tryz.strings_Join_none (a : Option Addr) (c : Nat) (sep : ByteArray) (w : World) :
  Calls Tryz.prog 58 #[.slice a 0 c, .string sep] w fun e w' => e = .returned (.string ⟨#[]⟩) ∧ w' = w := Any.strings_Join_none Tryz.lays156 Tryz.Builder_Extra_156 a c sep w
open Go.RowKit in
theorem Tryz.strings_Join (bk o c : Nat) (xs : List ByteArray) (sep : ByteArray) (w : World) (hcells : ∀ (j : Nat) x, xs[j]? = some x → w.cell? ⟨bk, o + j, none⟩ = some (.string x)) (hbk : bk < w.heap.size) (hN : xs.length ≤ 140737488355328) (hcap : xs.length ≤ c) (hlen : (Lib.join (xs.map (·.data.toList)) sep.data.toList).length ≤ 140737488355328) :
  Calls Tryz.prog 58 #[.slice (some ⟨bk, o, none⟩) xs.length c, .string sep] w fun e w' => e = .returned (.string ⟨(Lib.join (xs.map (·.data.toList)) sep.data.toList).toArray⟩) ∧ Below w.heap.size w w' := Any.strings_Join Tryz.lays156 Tryz.Builder_Extra_156 bk o c xs sep w hcells hbk hN hcap hlen
def Tryz.laysM171_ren : Go.Shelf.Ren := ⟨fun | 171 => 109 | 243 => 127 | 246 => 111 | 283 => 130 | 284 => 131 | 285 => 132 | 286 => 133 | 129 => 142 | 317 => 141 | 318 => 143 | 319 => 144 | 320 => 145 | 337 => 146 | 338 => 147 | n => n, fun | 3 => 3 | 9 => 9 | 2 => 2 | 4 => 4 | 171 => 227 | 0 => 0 | 53 => 76 | 37 => 39 | 5 => 5 | 173 => 230 | 212 => 240 | 51 => 87 | 20 => 20 | 213 => 241 | 46 => 152 | 232 => 246 | 233 => 247 | n => n, fun | 17 => 9 | 18 => 11 | 19 => 12 | n => n⟩
theorem Tryz.laysM171 : Go.Proofs.LaysM.n171 Tryz.prog Tryz.laysM171_ren := {
 mixed := by kernel_rfl
 f129 := Tryz.func142.trans (congrArg some (by kernel_rfl))
 f171 := Tryz.func109.trans (congrArg some (by kernel_rfl))
 f243 := Tryz.func127.trans (congrArg some (by kernel_rfl))
 f246 := Tryz.func111.trans (congrArg some (by kernel_rfl))
 f283 := Tryz.func130.trans (congrArg some (by kernel_rfl))
 f284 := Tryz.func131.trans (congrArg some (by kernel_rfl))
 f285 := Tryz.func132.trans (congrArg some (by kernel_rfl))
 f286 := Tryz.func133.trans (congrArg some (by kernel_rfl))
 f317 := Tryz.func141.trans (congrArg some (by kernel_rfl))
 f318 := Tryz.func143.trans (congrArg some (by kernel_rfl))
 f319 := Tryz.func144.trans (congrArg some (by kernel_rfl))
 f320 := Tryz.func145.trans (congrArg some (by kernel_rfl))
 f337 := Tryz.func146.trans (congrArg some (by kernel_rfl))
 f338 := Tryz.func147.trans (congrArg some (by kernel_rfl))
 t0 := Tryz.underlying0
 a0 := Tryz.isAgg0
 z0 := Tryz.sizeOf0
 v0 := Tryz.zeroValue0
 t2 := Tryz.underlying2
 a2 := Tryz.isAgg2
 z2 := Tryz.sizeOf2
 v2 := Tryz.zeroValue2
 t3 := Tryz.underlying3
 a3 := Tryz.isAgg3
 z3 := Tryz.sizeOf3
 v3 := Tryz.zeroValue3
 t4 := Tryz.underlying4
 a4 := Tryz.isAgg4
 z4 := Tryz.sizeOf4
 v4 := Tryz.zeroValue4
 t5 := Tryz.underlying5
 a5 := Tryz.isAgg5
 z5 := Tryz.sizeOf5
 v5 := Tryz.zeroValue5
 t9 := Tryz.underlying9
 a9 := Tryz.isAgg9
 z9 := Tryz.sizeOf9
 v9 := Tryz.zeroValue9
 t20 := Tryz.underlying20
 a20 := Tryz.isAgg20
 z20 := Tryz.sizeOf20
 v20 := Tryz.zeroValue20
 t37 := Tryz.underlying39
 a37 := Tryz.isAgg39
 z37 := Tryz.sizeOf39
 v37 := Tryz.zeroValue39
 t46 := Tryz.underlying152
 a46 := Tryz.isAgg152
 z46 := Tryz.sizeOf152
 v46 := Tryz.zeroValue152
 t51 := Tryz.underlying87
 a51 := Tryz.isAgg87
 z51 := Tryz.sizeOf87
 v51 := Tryz.zeroValue87
 t53 := Tryz.underlying76
 a53 := Tryz.isAgg76
 z53 := Tryz.sizeOf76
 v53 := Tryz.zeroValue76
 t171 := Tryz.underlying227
 a171 := Tryz.isAgg227
 z171 := Tryz.sizeOf227
 v171 := Tryz.zeroValue227
 t173 := Tryz.underlying230
 a173 := Tryz.isAgg230
 z173 := Tryz.sizeOf230
 v173 := Tryz.zeroValue230
 t212 := Tryz.underlying240
 a212 := Tryz.isAgg240
 z212 := Tryz.sizeOf240
 v212 := Tryz.zeroValue240
 t213 := Tryz.underlying241
 a213 := Tryz.isAgg241
 z213 := Tryz.sizeOf241
 t232 := Tryz.underlying246
 a232 := Tryz.isAgg246
 z232 := Tryz.sizeOf246
 v232 := Tryz.zeroValue246
 t233 := Tryz.underlying247
 a233 := Tryz.isAgg247
 z233 := Tryz.sizeOf247
 v233 := Tryz.zeroValue247
 g17 := by kernel_rfl
 g18 := by kernel_rfl
 g19 := by kernel_rfl
 i0 := by kernel_rfl
 i2 := by kernel_rfl
 i3 := by kernel_rfl
 i4 := by kernel_rfl
 i5 := by kernel_rfl
 i9 := by kernel_rfl
 i20 := by kernel_rfl
 i37 := by kernel_rfl
 i46 := by kernel_rfl
 i51 := by kernel_rfl
 i53 := by kernel_rfl
 i171 := by kernel_rfl
 i173 := by kernel_rfl
 i212 := by kernel_rfl
 i232 := by kernel_rfl
 i233 := by kernel_rfl
 m17 := by kernel_rfl
 m18 := by kernel_rfl
 m19 := by kernel_rfl }
open Go.RowKit Go.Sort Go.Lib in
theorem Tryz.strconv_Itoa (n : Int) (h0 : -9223372036854775808 ≤ n) (h1 : n ≤ 9223372036854775807) (w : World) (htab : Lib.TabIs Tryz.prog w "internal/strconv.uint64pow10" .u64 Lib.pow10Tab) :
  Calls Tryz.prog 109 #[.int .i64 n] w fun e w' => e = .returned (.string ⟨(Lib.itoa n).toArray⟩) ∧ ∃ k os, w' = grow (w.drewN k) os := Any.strconv_Itoa Tryz.laysM171 n h0 h1 w htab
def Tryz.laysM173_ren : Go.Shelf.Ren := ⟨fun | 173 => 89 | 246 => 111 | 283 => 130 | 284 => 131 | 285 => 132 | 286 => 133 | 129 => 142 | 317 => 141 | 318 => 143 | 319 => 144 | 320 => 145 | 337 => 146 | 338 => 147 | n => n, fun | 2 => 2 | 3 => 3 | 9 => 9 | 4 => 4 | 171 => 227 | 0 => 0 | 53 => 76 | 37 => 39 | 5 => 5 | 173 => 230 | 212 => 240 | 51 => 87 | 20 => 20 | 213 => 241 | 46 => 152 | 232 => 246 | 233 => 247 | n => n, fun | 17 => 9 | 18 => 11 | 19 => 12 | n => n⟩
theorem Tryz.laysM173 : Go.Proofs.LaysM.n173 Tryz.prog Tryz.laysM173_ren := {
 mixed := by kernel_rfl
 f129 := Tryz.func142.trans (congrArg some (by kernel_rfl))
 f173 := Tryz.func89.trans (congrArg some (by kernel_rfl))
 f246 := Tryz.func111.trans (congrArg some (by kernel_rfl))
 f283 := Tryz.func130.trans (congrArg some (by kernel_rfl))
 f284 := Tryz.func131.trans (congrArg some (by kernel_rfl))
 f285 := Tryz.func132.trans (congrArg some (by kernel_rfl))
 f286 := Tryz.func133.trans (congrArg some (by kernel_rfl))
 f317 := Tryz.func141.trans (congrArg some (by kernel_rfl))
 f318 := Tryz.func143.trans (congrArg some (by kernel_rfl))
 f319 := Tryz.func144.trans (congrArg some (by kernel_rfl))
 f320 := Tryz.func145.trans (congrArg some (by kernel_rfl))
 f337 := Tryz.func146.trans (congrArg some (by kernel_rfl))
 f338 := Tryz.func147.trans (congrArg some (by kernel_rfl))
 t0 := Tryz.underlying0
 a0 := Tryz.isAgg0
 z0 := Tryz.sizeOf0
 v0 := Tryz.zeroValue0
 t2 := Tryz.underlying2
 a2 := Tryz.isAgg2
 z2 := Tryz.sizeOf2
 v2 := Tryz.zeroValue2
 t3 := Tryz.underlying3
 a3 := Tryz.isAgg3
 z3 := Tryz.sizeOf3
 v3 := Tryz.zeroValue3
 t4 := Tryz.underlying4
 a4 := Tryz.isAgg4
 z4 := Tryz.sizeOf4
 v4 := Tryz.zeroValue4
 t5 := Tryz.underlying5
 a5 := Tryz.isAgg5
 z5 := Tryz.sizeOf5
 v5 := Tryz.zeroValue5
 t9 := Tryz.underlying9
 a9 := Tryz.isAgg9
 z9 := Tryz.sizeOf9
 v9 := Tryz.zeroValue9
 t20 := Tryz.underlying20
 a20 := Tryz.isAgg20
 z20 := Tryz.sizeOf20
 v20 := Tryz.zeroValue20
 t37 := Tryz.underlying39
 a37 := Tryz.isAgg39
 z37 := Tryz.sizeOf39
 v37 := Tryz.zeroValue39
 t46 := Tryz.underlying152
 a46 := Tryz.isAgg152
 z46 := Tryz.sizeOf152
 v46 := Tryz.zeroValue152
 t51 := Tryz.underlying87
 a51 := Tryz.isAgg87
 z51 := Tryz.sizeOf87
 v51 := Tryz.zeroValue87
 t53 := Tryz.underlying76
 a53 := Tryz.isAgg76
 z53 := Tryz.sizeOf76
 v53 := Tryz.zeroValue76
 t171 := Tryz.underlying227
 a171 := Tryz.isAgg227
 z171 := Tryz.sizeOf227
 v171 := Tryz.zeroValue227
 t173 := Tryz.underlying230
 a173 := Tryz.isAgg230
 z173 := Tryz.sizeOf230
 v173 := Tryz.zeroValue230
 t212 := Tryz.underlying240
 a212 := Tryz.isAgg240
 z212 := Tryz.sizeOf240
 v212 := Tryz.zeroValue240
 t213 := Tryz.underlying241
 a213 := Tryz.isAgg241
 z213 := Tryz.sizeOf241
 t232 := Tryz.underlying246
 a232 := Tryz.isAgg246
 z232 := Tryz.sizeOf246
 v232 := Tryz.zeroValue246
 t233 := Tryz.underlying247
 a233 := Tryz.isAgg247
 z233 := Tryz.sizeOf247
 v233 := Tryz.zeroValue247
 g17 := by kernel_rfl
 g18 := by kernel_rfl
 g19 := by kernel_rfl
 i0 := by kernel_rfl
 i2 := by kernel_rfl
 i3 := by kernel_rfl
 i4 := by kernel_rfl
 i5 := by kernel_rfl
 i9 := by kernel_rfl
 i20 := by kernel_rfl
 i37 := by kernel_rfl
 i46 := by kernel_rfl
 i51 := by kernel_rfl
 i53 := by kernel_rfl
 i171 := by kernel_rfl
 i173 := by kernel_rfl
 i212 := by kernel_rfl
 i232 := by kernel_rfl
 i233 := by kernel_rfl
 m17 := by kernel_rfl
 m18 := by kernel_rfl
 m19 := by kernel_rfl }
open Go.RowKit Go.Sort Go.Lib in
theorem Tryz.strconv_FormatInt_10 (n : Int) (h0 : -9223372036854775808 ≤ n) (h1 : n ≤ 9223372036854775807) (w : World) (htab : Lib.TabIs Tryz.prog w "internal/strconv.uint64pow10" .u64 Lib.pow10Tab) :
  Calls Tryz.prog 89 #[.int .i64 n, .int .i64 10] w fun e w' => e = .returned (.string ⟨(Lib.itoa n).toArray⟩) ∧ ∃ k os, w' = grow (w.drewN k) os := Any.strconv_FormatInt_10 Tryz.laysM173 n h0 h1 w htab
open Go.RowKit in
/-- WriteString: out of the laying of Join. -/
theorem Tryz.Builder_WriteString (B b : Nat) (bs : List Value) (s : ByteArray) (w : World) (h : Lib.IsBuilder 126 5 B b bs w) (hlen : bs.length + s.size ≤ 140737488355328) (hBw : B ≤ w.heap.size) :
  Calls Tryz.prog 57 #[.pointer (some ⟨b, 0, none⟩), .string s] w fun e w' => e = .returned (.tuple #[.int .i64 s.size, .nilIface]) ∧ (Lib.BuilderAt 126 5 B b (.pointer (some ⟨b, 0, none⟩)) (bs ++ Lib.strCells s) w' ∧ Below B w w') :=
 Any.Builder_WriteString (P := Tryz.prog) (ρ := Tryz.lays156_ren) { Tryz.lays156 with } Tryz.Builder_Extra_156 B b bs s w h hlen hBw
end Go.Proofs
/- SaveEncodes: the schema's text, plain; the reference's PrintSchema. -/
set_option linter.unusedVariables false
namespace Go.Proofs.YtfglgpbjjpoimaaGreatDoor
open Go.RowKit Sv
def joinC (l : List Str) : Str := Lib.join l [44, 32]
theorem joinC_snoc (l : List Str) (x : Str) : joinC (l ++ [x]) = (if l.length = 0 then x else joinC l ++ [44, 32] ++ x) := by
 unfold joinC
 cases l with
 | nil => simp [Lib.join_one]
 | cons y l =>
  rw [if_neg (by simp), List.cons_append, Lib.join_cons, Lib.join_cons]
  simp [Lib.joinTail]
theorem joinC_len (l : List Str) (N : Nat) (h : ∀ x ∈ l, x.length ≤ N) : (joinC l).length ≤ l.length * (N + 2) := by
 unfold joinC
 cases l with
 | nil => simp [Lib.join_nil]
 | cons y l =>
  rw [Lib.join_cons, List.length_append]
  have h1 : ∀ r : List Str, (∀ x ∈ r, x.length ≤ N) → (Lib.joinTail [44, 32] r).length ≤ r.length * (N + 2) := by
   intro r
   induction r with
   | nil => intro _; simp [Lib.joinTail]
   | cons z r ih =>
    intro hz
    have h2 := ih fun x hx => hz x (List.mem_cons_of_mem _ hx)
    have h3 := hz z (by simp)
    have : Lib.joinTail [44, 32] (z :: r) = [44, 32] ++ z ++ Lib.joinTail [44, 32] r := by simp [Lib.joinTail]
    rw [this, List.length_append, List.length_append, show (z :: r).length = r.length + 1 from rfl, Nat.succ_mul]
    simp only [List.length_cons, List.length_nil]
    omega
  have h2 := h1 l fun x hx => h x (List.mem_cons_of_mem _ hx)
  have h3 := h y (by simp)
  rw [List.length_cons, Nat.succ_mul]
  omega
theorem Teq {a : ByteArray} {l : Str} (h : a.data.toList = l) : Value.string a = T l := by
 subst h
 rfl
theorem joinC_take (l : List Str) (N j : Nat) (h : ∀ x ∈ l, x.length ≤ N) : (joinC (l.take j)).length ≤ l.length * (N + 2) := by
 have h1 := joinC_len (l.take j) N fun x hx => h x (List.mem_of_mem_take hx)
 have h2 : (l.take j).length ≤ l.length := by rw [List.length_take]; omega
 exact Nat.le_trans h1 (Nat.mul_le_mul_right _ h2)
theorem joinC_step (l : List Str) (j : Nat) (h : j < l.length) : joinC (l.take (j + 1)) = (if j = 0 then [] else joinC (l.take j) ++ [44, 32]) ++ l[j] := by
 rw [take_snoc l j h, joinC_snoc]
 have : (l.take j).length = j := by rw [List.length_take]; omega
 rw [this]
 split <;> simp
def lineT (t : Ty) : Str := [116, 121, 112, 101, 32] ++ t.name ++ [40] ++ joinC t.attrs ++ [41, 10]
def schemaT (l : List Ty) : Str := l.flatMap lineT
theorem nameB_len {s : Str} (h : nameB kwsL s = true) : s.length ≤ 16 := by
 unfold nameB at h
 simp only [Bool.and_eq_true, decide_eq_true_eq] at h
 exact h.1.1.1.2
theorem line_len (t : Ty) (h1 : nameB kwsL t.name = true) (h2 : AtsOK t.attrs) : (lineT t).length ≤ 200 := by
 have h3 := nameB_len h1
 have h4 := joinC_len t.attrs 16 fun x hx => by
  obtain ⟨j, hj, rfl⟩ := List.getElem_of_mem hx
  exact nameB_len (h2.2 j hj).1
 have h5 := h2.1
 have h6 : t.attrs.length * 18 ≤ 8 * 18 := Nat.mul_le_mul_right _ h5
 unfold lineT
 simp only [List.length_append, List.length_cons, List.length_nil]
 omega
theorem schemaT_snoc (l : List Ty) (k : Nat) (h : k < l.length) : schemaT (l.take (k + 1)) = schemaT (l.take k) ++ lineT l[k] := by
 unfold schemaT
 rw [take_snoc l k h, List.flatMap_append]
 simp
theorem schemaT_len (l : List Ty) (h : SchemaOK l) (k : Nat) : (schemaT (l.take k)).length ≤ 16 * 200 := by
 have h1 : ∀ r : List Ty, (∀ t ∈ r, (lineT t).length ≤ 200) → (schemaT r).length ≤ r.length * 200 := by
  intro r
  induction r with
  | nil => intro _; simp [schemaT]
  | cons t r ih =>
   intro hr
   have := ih fun x hx => hr x (List.mem_cons_of_mem _ hx)
   have h2 := hr t (by simp)
   have : schemaT (t :: r) = lineT t ++ schemaT r := by simp [schemaT]
   rw [this, List.length_append, List.length_cons, Nat.succ_mul]
   omega
 have h2 := h1 (l.take k) fun t ht => by
  obtain ⟨j, hj, rfl⟩ := List.getElem_of_mem (List.mem_of_mem_take ht)
  exact line_len _ (h.2 j hj).1 (h.2 j hj).2.2
 have h3 : (l.take k).length ≤ 16 := by have := h.1.2; rw [List.length_take]; omega
 omega
set_option maxHeartbeats 1000000 in
theorem rPrintSchema_any (a : Option Addr) (c n : Nat) (l : List Tp) (w : World) (hn : l.length = n) (hk : Kw w) (h : RdT w a l) :
  Calls Tryz.prog 49 #[.agg #[.slice a n c]] w fun e w' => ∃ (r : Int) (s : Str), e = .returned (.tuple #[T s, .int .i64 r]) ∧ (r = 0 ↔ SchemaOK (tys l)) ∧ (SchemaOK (tys l) → s = schemaT (tys l)) ∧ Below w.heap.size w w' := by
 have HN := Lib.hid hn
 have HK := Lib.hid hk
 have HR := Lib.hid h
 obtain ⟨w0, hw0⟩ : ∃ w0, w0 = w.alloc (.cells #[.slice a n c] 24) := ⟨_, rfl⟩
 have hb0 : Below w.heap.size w w0 := by rw [hw0]; exact (Below.refl _ _).alloc (Nat.le_refl _) _
 have hS0 : Blk w0 w.heap.size 24 [.slice a n c] := by rw [hw0]; exact Blk.new w _ 24
 have hk0 := hk.below hb0
 have hr0 := h.below hb0
 have HB0 := Lib.hid hb0
 have HS0 := Lib.hid hS0
 clear hb0 hk h hS0
 go_enter Tryz.func49, Tryz.ntmps49
 go_wp2_with fail
 rw [← hw0]
 clear hw0
 refine (rCheckSchema_any a c n l w0 hn hk0 hr0).mono ?_
 rintro e w1 ⟨r, rfl, hiff, hb1⟩
 have HFB := Lib.hid (HB0.out.trans (hb1.mono HB0.out.size))
 have HS1 := Lib.hid (HS0.out.below hb1)
 clear hb1 hk0 hr0 hn
 by_cases hr : r = 0
 ·subst hr
  have HOK := Lib.hid (hiff.1 rfl)
  have HLEN := Lib.hid (schemaT_len (tys l) HOK.out)
  have hn16 : n ≤ 16 := by have := ((schema_iff l).1 HOK.out).1.2; rw [HN.out] at this; exact this
  clear hiff
  go_wp2_with fail
  go_loopw [6, 5] (fun i v wr => ∃ k : Nat, k ≤ n ∧ i = .int .i64 (k : Int) ∧ v = T (schemaT ((tys l).take k)) ∧ Below w1.heap.size w1 wr) (fun i _ _ => n - (intOf i).toNat)
  case atStart => exact ⟨0, Nat.zero_le _, rfl, rfl, Below.refl _ _⟩
  case round =>
   obtain ⟨k, hk, rfl, rfl, hbw⟩ := hrel
   have hsc := (HS1.out.below hbw).ci 0 rfl
   have hbw0 := HFB.out.trans (hbw.mono HFB.out.size)
   by_cases hlt : k < n
   ·have hkl : k < l.length := by rw [HN.out]; exact hlt
    obtain ⟨b, off, hav, hc, hc2⟩ := (HR.out.below hbw0).at k hkl
    have hts : RdS wr l[k].a l[k].attrs := (HR.out.below hbw0).2 _ (List.getElem_mem hkl)
    have hlt' : (k : Int) < n := by omega
    have hk0 : (0 : Int) ≤ k := by omega
    have hsn := schemaT_snoc (tys l) k (by rw [tys_len]; exact hkl)
    rw [tys_get l k hkl] at hsn
    have hao := (((schema_iff l).1 HOK.out).2 k hkl).2.2.1
    have hll := HLEN.out k
    have hnl := nameB_len (((schema_iff l).1 HOK.out).2 k hkl).1
    have hnl2 : ∀ x ∈ l[k].attrs, x.length ≤ 16 := fun x hx => by
     obtain ⟨j, hj, rfl⟩ := List.getElem_of_mem hx
     exact nameB_len ((((schema_iff l).1 HOK.out).2 k hkl).2.2.2 j hj).1
    obtain ⟨base, hbase⟩ : ∃ v, v = schemaT ((tys l).take k) := ⟨_, rfl⟩
    rw [← hbase] at hsn hll ⊢
    obtain ⟨nm, hnm'⟩ : ∃ v, v = l[k].name := ⟨_, rfl⟩
    obtain ⟨at_, hat'⟩ : ∃ v, v = l[k].attrs := ⟨_, rfl⟩
    obtain ⟨a2, ha2⟩ : ∃ v, v = l[k].a := ⟨_, rfl⟩
    obtain ⟨c2, hc3⟩ : ∃ v, v = l[k].c := ⟨_, rfl⟩
    have hsn2 : schemaT ((tys l).take (k + 1)) = base ++ lineT ⟨nm, at_⟩ := by rw [hnm', hat']; exact hsn
    rw [← hnm'] at hc
    rw [← ha2, ← hat', ← hc3] at hc2
    rw [← ha2, ← hat'] at hts
    rw [← hat'] at hao hnl2
    rw [← hnm'] at hnl
    obtain ⟨n2, hn2⟩ : ∃ v, v = at_.length := ⟨_, rfl⟩
    rw [← hn2] at hc2 hao
    have HSN := Lib.hid hsn2
    have HNL := Lib.hid hnl2
    have HJL := Lib.hid (fun j => Nat.le_trans (joinC_take at_ 16 j hnl2) (show at_.length * 18 ≤ 144 by omega))
    have HN2 := Lib.hid hn2
    have HTS := Lib.hid hts
    have HME := Lib.hid (meas_lt hlt)
    have HKS := Lib.hid (show k + 1 ≤ n from hlt)
    have HBW := Lib.hid hbw
    rw [T] at hc
    rw [T]
    subst hav
    clear hsn hsn2 hnl2 hnm' hat' ha2 hc3 hn2 hts hbw hbw0 hbase hkl
    go_wp2_with fail
    obtain ⟨ga, hga⟩ : ∃ ga, ga = wr.heap.size := ⟨_, rfl⟩
    obtain ⟨wa, hwa⟩ : ∃ wa, wa = wr.alloc (.cells #[.string ⟨nm.toArray⟩, .slice a2 n2 c2] 58) := ⟨_, rfl⟩
    have hka : Blk wa ga 58 [.string ⟨nm.toArray⟩, .slice a2 n2 c2] := by rw [hwa, hga]; exact Blk.new wr _ 58
    have hra : Below wr.heap.size wr wa := by rw [hwa]; exact (Below.refl _ _).alloc (Nat.le_refl _) _
    have HRA := Lib.hid hra
    have HKA := Lib.hid hka
    rw [← hwa, ← hga]
    clear hwa hga hka hra hc hc2 hsc
    go_loop [8, 5] (fun i v => ∃ j : Nat, j ≤ n2 ∧ i = .int .i64 (j : Int) ∧ v = T (base ++ ([116, 121, 112, 101, 32] ++ nm ++ [40] ++ joinC (at_.take j)))) (fun i _ => n2 - (intOf i).toNat)
    case atStart => exact ⟨0, Nat.zero_le _, rfl, Teq (by simp [joinC, Lib.join_nil])⟩
    case round =>
     obtain ⟨j, hj, rfl, rfl⟩ := hrel
     have hk1 := HKA.out.ci 1 rfl
     have hjl := HJL.out j
     obtain ⟨p, hp⟩ : ∃ v, v = base ++ ([116, 121, 112, 101, 32] ++ nm ++ [40] ++ joinC (at_.take j)) := ⟨_, rfl⟩
     have hpl : p.length ≤ 4000 := by rw [hp]; simp only [List.length_append, List.length_cons, List.length_nil]; omega
     have HP := Lib.hid hp
     rw [← hp, T]
     clear hp hjl
     by_cases hlj : j < n2
     ·have hjl : j < at_.length := by rw [← HN2.out]; exact hlj
      obtain ⟨b2, off2, rfl, hd⟩ := (HTS.out.below HRA.out).at j hjl
      have hlj' : (j : Int) < n2 := by omega
      have hst := joinC_step at_ j hjl
      have hxl := HNL.out _ (List.getElem_mem hjl)
      obtain ⟨x, hx⟩ : ∃ v, v = at_[j] := ⟨_, rfl⟩
      rw [← hx] at hd hst hxl
      rw [T] at hd
      have HST := Lib.hid hst
      have HME2 := Lib.hid (meas_lt hlj)
      have HKS2 := Lib.hid (show j + 1 ≤ n2 from hlj)
      clear hst hx hjl
      by_cases hj0 : j = 0
      ·have hjp : ¬ (0 : Int) < j := by omega
       have HJ0 := Lib.hid hj0
       clear hj0
       go_wp2_with fail
       go_round
       case rel => exact ⟨j + 1, HKS2.out, by go_num, Teq (by rw [HST.out, if_pos HJ0.out]; simp [HP.out, HJ0.out, joinC, Lib.join_nil])⟩
       case measure => exact HME2.out
      ·have hjp : (0 : Int) < j := by omega
       have HJ0 := Lib.hid hj0
       clear hj0
       go_wp2_with fail
       go_round
       case rel => exact ⟨j + 1, HKS2.out, by go_num, Teq (by rw [HST.out, if_neg HJ0.out]; simp [HP.out])⟩
       case measure => exact HME2.out
     ·have hje : j = n2 := by omega
      subst hje
      have hlj' : ¬ (j : Int) < j := by omega
      have HTK := Lib.hid (show at_.take j = at_ by rw [List.take_of_length_le]; rw [← HN2.out]; exact Nat.le_refl _)
      have HB2 := Lib.hid (HBW.out.trans (HRA.out.mono HBW.out.size))
      go_wp2_with fail
      go_roundw
      case rel => exact ⟨k + 1, HKS.out, by go_num, Teq (by rw [HSN.out]; simp [HP.out, HTK.out, lineT]), HB2.out⟩
      case measure => exact HME.out
   ·have hke : k = n := by omega
    subst hke
    have hk' : ¬ (k : Int) < k := by omega
    have HTK := Lib.hid (show (tys l).take k = tys l by rw [List.take_of_length_le]; rw [tys_len, HN.out]; exact Nat.le_refl _)
    have HB2 := Lib.hid hbw0
    clear hbw hbw0
    obtain ⟨p, hp⟩ : ∃ v, v = schemaT ((tys l).take k) := ⟨_, rfl⟩
    have HP := Lib.hid hp
    rw [← hp, T]
    clear hp
    go_wp2_with fail
    go_ret2
    exact ⟨0, p, rfl, code_yes HOK.out, fun _ => by rw [HP.out, HTK.out], HB2.out⟩
 ·have HNO := Lib.hid (show ¬ SchemaOK (tys l) from fun hs => hr (hiff.2 hs))
  have hr' : (r == 0) = false := by simpa using hr
  have HR0 := Lib.hid hr
  clear hiff hr
  go_wp2_with fail
  go_ret2
  exact ⟨r, [], rfl, code_no HR0.out HNO.out, fun h => absurd h HNO.out, HFB.out⟩
end Go.Proofs.YtfglgpbjjpoimaaGreatDoor
/- SaveEncodes: the program's PrintSchema. -/
set_option linter.unusedVariables false
namespace Go.Proofs.YtfglgpbjjpoimaaGreatDoor
open Go.RowKit Sv
theorem join_any (a : Option Addr) (c n : Nat) (l : List Str) (w : World) (hn : l.length = n) (hc : n ≤ c) (h : RdS w a l) (hlen : (joinC l).length ≤ 1000000) (hN : n ≤ 1000000) :
  Calls Tryz.prog 58 #[.slice a n c, .string ⟨#[44, 32]⟩] w fun e w' => e = .returned (.string ⟨(joinC l).toArray⟩) ∧ Below w.heap.size w w' := by
 subst hn
 cases hl : l with
 | nil =>
  refine (Tryz.strings_Join_none a c _ w).mono ?_
  rintro e w' ⟨rfl, rfl⟩
  exact ⟨by simp [joinC, Lib.join_nil], Below.refl _ _⟩
 | cons y l' =>
  obtain ⟨b, off, rfl, hc0⟩ := h.at 0 (by rw [hl]; simp)
  have hlt := World.block_lt_of_cell? w _ hc0
  have h1 := Tryz.strings_Join b off c (l.map fun s => ⟨s.toArray⟩) ⟨#[44, 32]⟩ w (fun j x hx => by
   rw [List.getElem?_map] at hx
   obtain ⟨s, hs, rfl⟩ := Option.map_eq_some_iff.1 hx
   obtain ⟨hj, rfl⟩ := List.getElem?_eq_some_iff.1 hs
   obtain ⟨b', off', e, hcj⟩ := h.at j hj
   cases e
   exact hcj) hlt (by rw [List.length_map]; omega) (by rw [List.length_map]; exact hc) (by
    have : (l.map fun s => (⟨s.toArray⟩ : ByteArray)).map (·.data.toList) = l := by simp [Function.comp_def]
    rw [this]
    exact Nat.le_trans hlen (by omega))
  have he : (l.map fun s => (⟨s.toArray⟩ : ByteArray)).map (·.data.toList) = l := by simp [Function.comp_def]
  rw [he, List.length_map] at h1
  rw [← hl]
  exact h1
theorem lit_size (a : Array UInt8) : (ByteArray.mk a).size = a.size := rfl
theorem builderAt_below {t e : TypeId} {B b : Nat} {p : Value} {bs : List Value} {w w' : World} (h : Lib.BuilderAt t e B b p bs w) (hb : Below w.heap.size w w') : Lib.BuilderAt t e B b p bs w' := by
 have hlt := h.lt
 obtain ⟨h1, v, h2, h3, h4⟩ := h
 exact ⟨h1, v, by rw [hb.block b hlt]; exact h2, ownsRow_below h3 hb, h4⟩
theorem builder_below {t e : TypeId} {B b : Nat} {bs : List Value} {w w' : World} (h : Lib.IsBuilder t e B b bs w) (hb : Below w.heap.size w w') : Lib.IsBuilder t e B b bs w' :=
 h.elim (fun x => .inl (builderAt_below x hb)) (fun x => .inr (builderAt_below x hb))
set_option maxHeartbeats 1000000 in
theorem printSchema_any (a : Option Addr) (c n : Nat) (l : List Tp) (w : World) (hn : l.length = n) (hk : Kw w) (h : RdT w a l) (hcap : ∀ t ∈ l, t.attrs.length ≤ t.c) :
  Calls Tryz.prog 18 #[.agg #[.slice a n c]] w fun e w' => ∃ (r : Int) (s : Str), e = .returned (.tuple #[T s, .int .i64 r]) ∧ (r = 0 ↔ SchemaOK (tys l)) ∧ (SchemaOK (tys l) → s = schemaT (tys l)) ∧ Below w.heap.size w w' := by
 have HN := Lib.hid hn
 have HK := Lib.hid hk
 have HR := Lib.hid h
 have HCAP := Lib.hid hcap
 obtain ⟨w0, hw0⟩ : ∃ w0, w0 = w.alloc (.cells #[.slice a n c] 24) := ⟨_, rfl⟩
 have hb0 : Below w.heap.size w w0 := by rw [hw0]; exact (Below.refl _ _).alloc (Nat.le_refl _) _
 have hS0 : Blk w0 w.heap.size 24 [.slice a n c] := by rw [hw0]; exact Blk.new w _ 24
 have hk0 := hk.below hb0
 have hr0 := h.below hb0
 have HB0 := Lib.hid hb0
 have HS0 := Lib.hid hS0
 clear hb0 hk h hS0 hcap
 go_enter Tryz.func18, Tryz.ntmps18
 go_wp2_with fail
 rw [← hw0]
 clear hw0
 refine (checkSchema_any a c n l w0 hn hk0 hr0).mono ?_
 rintro e w1 ⟨r, rfl, hiff, hb1⟩
 have HFB := Lib.hid (HB0.out.trans (hb1.mono HB0.out.size))
 have hs1 := HS0.out.below hb1
 have HS1 := Lib.hid hs1
 clear hb1 hk0 hr0 hn
 by_cases hr : r = 0
 ·subst hr
  have HOK := Lib.hid (hiff.1 rfl)
  have HLEN := Lib.hid (schemaT_len (tys l) HOK.out)
  have hn16 : n ≤ 16 := by have := ((schema_iff l).1 HOK.out).1.2; rw [HN.out] at this; exact this
  have hsc0 := (hs1.alloc (.cells #[.pointer none, .slice none 0 0] 126)).ci 0 rfl
  clear hiff hs1
  go_wp2_with fail
  have hbu := Lib.fresh_isBuilder 126 5 w1
  obtain ⟨w2, hw2⟩ : ∃ w2, w2 = w1.alloc (.cells #[.pointer none, .slice none 0 0] 126) := ⟨_, rfl⟩
  obtain ⟨g, hg⟩ : ∃ g, g = w1.heap.size := ⟨_, rfl⟩
  have hb2 : Below w1.heap.size w1 w2 := by rw [hw2]; exact (Below.refl _ _).alloc (Nat.le_refl _) _
  rw [← hg] at hb2
  rw [← hw2] at hsc0
  rw [← hg, ← hw2] at hbu ⊢
  have HB2 := Lib.hid hb2
  have HG := Lib.hid hg
  clear hw2 hg hsc0 hb2
  go_loopw [16] (fun i wr => ∃ k : Nat, k ≤ n ∧ i = .int .i64 (k : Int) ∧ Lib.IsBuilder 126 5 g g (Lib.byteCells (schemaT ((tys l).take k))) wr ∧ Below g w1 wr ∧ g ≤ wr.heap.size) (fun i _ => n - (intOf i).toNat)
  case atStart => exact ⟨0, Nat.zero_le _, rfl, hbu, HB2.out, by have := HB2.out.size; rw [HG.out]; exact this⟩
  case round =>
   obtain ⟨k, hk, rfl, hbk, hbw, hgs⟩ := hrel
   have hbw1 : Below w1.heap.size w1 wr := by rw [← HG.out]; exact hbw
   have hbw0 := HFB.out.trans (hbw1.mono HFB.out.size)
   have HBK := Lib.hid hbk
   have HBW := Lib.hid hbw
   have HGS := Lib.hid hgs
   by_cases hlt : k < n
   ·have hkl : k < l.length := by rw [HN.out]; exact hlt
    obtain ⟨b, off, hav, hc, hc2⟩ := (HR.out.below hbw0).at k hkl
    have hts : RdS wr l[k].a l[k].attrs := (HR.out.below hbw0).2 _ (List.getElem_mem hkl)
    have hcp := HCAP.out _ (List.getElem_mem hkl)
    have hlt' : (k : Int) < n := by omega
    have hk0 : (0 : Int) ≤ k := by omega
    have hsn := schemaT_snoc (tys l) k (by rw [tys_len]; exact hkl)
    rw [tys_get l k hkl] at hsn
    have hao := (((schema_iff l).1 HOK.out).2 k hkl).2.2.1
    have hll := HLEN.out k
    have hnl := nameB_len (((schema_iff l).1 HOK.out).2 k hkl).1
    have hnl2 : ∀ x ∈ l[k].attrs, x.length ≤ 16 := fun x hx => by
     obtain ⟨j, hj, rfl⟩ := List.getElem_of_mem hx
     exact nameB_len ((((schema_iff l).1 HOK.out).2 k hkl).2.2.2 j hj).1
    obtain ⟨base, hbase⟩ : ∃ v, v = schemaT ((tys l).take k) := ⟨_, rfl⟩
    rw [← hbase] at hsn hll hbk
    obtain ⟨nm, hnm'⟩ : ∃ v, v = l[k].name := ⟨_, rfl⟩
    obtain ⟨at_, hat'⟩ : ∃ v, v = l[k].attrs := ⟨_, rfl⟩
    obtain ⟨a2, ha2⟩ : ∃ v, v = l[k].a := ⟨_, rfl⟩
    obtain ⟨c2, hc3⟩ : ∃ v, v = l[k].c := ⟨_, rfl⟩
    have hsn2 : schemaT ((tys l).take (k + 1)) = base ++ lineT ⟨nm, at_⟩ := by rw [hnm', hat']; exact hsn
    rw [← hnm'] at hc
    rw [← ha2, ← hat', ← hc3] at hc2
    rw [← ha2, ← hat'] at hts
    rw [← hat'] at hao hnl2 hcp
    rw [← hc3] at hcp
    rw [← hnm'] at hnl
    obtain ⟨n2, hn2⟩ : ∃ v, v = at_.length := ⟨_, rfl⟩
    rw [← hn2] at hc2 hao hcp
    have HSN := Lib.hid hsn2
    have HN2 := Lib.hid hn2
    have HCP := Lib.hid hcp
    have HME := Lib.hid (meas_lt hlt)
    have HKS := Lib.hid (show k + 1 ≤ n from hlt)
    have hjl : (joinC at_).length ≤ 144 := by
     have := joinC_len at_ 16 hnl2
     have h2 : at_.length * 18 ≤ 8 * 18 := Nat.mul_le_mul_right _ (by omega)
     omega
    rw [T] at hc
    obtain ⟨ga, hga⟩ : ∃ ga, ga = wr.heap.size := ⟨_, rfl⟩
    obtain ⟨wa, hwa⟩ : ∃ wa, wa = wr.alloc (.cells #[.string ⟨nm.toArray⟩, .slice a2 n2 c2] 58) := ⟨_, rfl⟩
    have hka : Blk wa ga 58 [.string ⟨nm.toArray⟩, .slice a2 n2 c2] := by rw [hwa, hga]; exact Blk.new wr _ 58
    have hra : Below wr.heap.size wr wa := by rw [hwa]; exact (Below.refl _ _).alloc (Nat.le_refl _) _
    have hga1 : Below g w1 wa := by rw [hwa]; exact hbw.alloc hgs _
    have hbuA : Lib.IsBuilder 126 5 g g (Lib.byteCells base) wa := builder_below hbk hra
    have HRA := Lib.hid hra
    have HKA := Lib.hid hka
    have HTS := Lib.hid (hts.below hra)
    have HBU := Lib.hid (show Lib.IsBuilder 126 5 g g (Lib.byteCells base) wa.drew from hbuA)
    have HGS2 := Lib.hid (show g ≤ wa.drew.heap.size from Nat.le_trans hgs hra.size)
    have HKD := Lib.hid (show Blk wa.drew ga 58 [.string ⟨nm.toArray⟩, .slice a2 n2 c2] from hka)
    have HG1 := Lib.hid hga1
    have c0 := hka.ci 0 rfl
    have c1 := hka.ci 1 rfl
    have hA1 : ¬ 9223372036854775807 < 5 + nm.length := by omega
    have hA2 : ¬ 9223372036854775807 < 5 + nm.length + 1 := by omega
    have hA3 : ¬ 9223372036854775807 < 5 + nm.length + 1 + (joinC at_).length := by omega
    have hA4 : ¬ 9223372036854775807 < 5 + nm.length + 1 + (joinC at_).length + 2 := by omega
    subst hav
    clear hsn hsn2 hnl2 hnm' hat' ha2 hc3 hn2 hts hbw hbw0 hbase hkl hbk hbw1 hgs hka hra hga1 hbuA hcp
    go_wp2_with fail
    rw [← hwa, ← hga]
    clear hwa hga
    have d0 : wa.drew.cell? ⟨ga, 0, none⟩ = some (.string ⟨nm.toArray⟩) := c0
    have d1 : wa.drew.cell? ⟨ga, 1, none⟩ = some (.slice a2 n2 c2) := c1
    clear c0 c1
    go_region_law (first
     | (go_simp; go_at_call 58; go_loud (refine (join_any a2 c2 n2 at_ wa.drew HN2.out.symm HCP.out (show RdS wa.drew a2 at_ from HTS.out) (by omega) (by omega)).mono ?_); rintro e wj ⟨rfl, hbj⟩; have d0 := (HKD.out.below hbj).ci 0 rfl; have d1 := (HKD.out.below hbj).ci 1 rfl; have hbu := builder_below HBU.out hbj; have HBJ := Lib.hid (show Below wa.drew.heap.size wa.drew wj from hbj); clear hbj)
     | (go_simp; go_at_call 57; refine (Tryz.Builder_WriteString g g (Lib.byteCells base) _ wj hbu ?_ ?_).mono ?_; (rw [Lib.byteCells_length]; simp [lit_size]; omega); (have := HGS2.out; have := HBJ.out.size; omega); rintro e wz ⟨rfl, hbz, hbzB⟩; have HBZ := Lib.hid hbz; have HBZB := Lib.hid hbzB; clear hbz hbzB))
    all_goals (
     go_wp2_with fail
     go_roundw
     case rel => exact ⟨k + 1, HKS.out, by go_num, .inr (by
      have h1 := HBZ.out
      rw [Lib.strCells_eq, ← Lib.byteCells_append] at h1
      rw [HSN.out]
      simpa [lineT] using h1), ((HG1.out.drew).trans (HBJ.out.mono HGS2.out)).trans HBZB.out, by have h1 := HGS2.out; have h2 := HBJ.out.size; have h3 := HBZB.out.size; omega⟩
     case measure => exact HME.out)
   ·have hke : k = n := by omega
    subst hke
    have hk' : ¬ (k : Int) < k := by omega
    have HTK := Lib.hid (show (tys l).take k = tys l by rw [List.take_of_length_le]; rw [tys_len, HN.out]; exact Nat.le_refl _)
    have HB2 := Lib.hid hbw0
    rw [HTK.out] at hbk
    clear hbw hbw0 hbw1
    go_wp2_with fail
    refine (Tryz.Builder_String_any g g _ wr hbk hgs).mono ?_
    rintro e w3 ⟨rfl, hb3⟩
    have HB3 := Lib.hid hb3
    clear hb3 hbk
    go_wp2_with fail
    go_ret2
    exact ⟨0, schemaT (tys l), rfl, code_yes HOK.out, fun _ => rfl, HFB.out.trans ((by rw [← HG.out]; exact HBW.out.trans HB3.out : Below w1.heap.size w1 w3).mono HFB.out.size)⟩
 ·have HNO := Lib.hid (show ¬ SchemaOK (tys l) from fun hs => hr (hiff.2 hs))
  have hr' : (r == 0) = false := by simpa using hr
  have HR0 := Lib.hid hr
  clear hiff hr hs1
  go_wp2_with fail
  go_ret2
  exact ⟨r, [], rfl, code_no HR0.out HNO.out, fun h => absurd h HNO.out, HFB.out⟩
end Go.Proofs.YtfglgpbjjpoimaaGreatDoor
