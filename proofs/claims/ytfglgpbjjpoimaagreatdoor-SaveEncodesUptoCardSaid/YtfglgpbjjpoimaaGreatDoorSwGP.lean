/- SaveEncodes: a number's bytes; the reference's Count, Number, join. -/
import Derived.Test.YtfglgpbjjpoimaaGreatDoorSwR11
set_option linter.unusedVariables false
namespace Go.Proofs.YtfglgpbjjpoimaaGreatDoor
open Go.RowKit Sv
/-- A number's bytes, seven bits each, the lowest first. -/
def bytesU (n : Nat) : List UInt8 := if h : n < 128 then [UInt8.ofNat n] else UInt8.ofNat (n % 128 + 128) :: bytesU (n / 128)
termination_by n
decreasing_by omega

theorem bytesU_low {n : Nat} (h : n < 128) : bytesU n = [UInt8.ofNat n] := by rw [bytesU, dif_pos h]
theorem bytesU_high {n : Nat} (h : ¬ n < 128) : bytesU n = UInt8.ofNat (n % 128 + 128) :: bytesU (n / 128) := by rw [bytesU, dif_neg h]

theorem bytesU_pos (n : Nat) : 0 < (bytesU n).length := by
 by_cases h : n < 128
 ·rw [bytesU_low h]; simp
 ·rw [bytesU_high h]; simp
theorem bytesU_len (k n : Nat) (h : n < 128 ^ (k + 1)) : (bytesU n).length ≤ k + 1 := by
 induction k generalizing n with
 | zero => rw [bytesU_low (by simpa using h)]; simp
 | succ k ih =>
  by_cases h2 : n < 128
  ·rw [bytesU_low h2]; simp
  ·rw [bytesU_high h2, List.length_cons]
   have := ih (n / 128) (by rw [Nat.pow_succ] at h; omega)
   omega
theorem bytesU_len10 (n : Nat) (h : n < 18446744073709551616) : (bytesU n).length ≤ 10 := by
 have h1 : (128 : Nat) ^ (9 + 1) = 1180591620717411303424 := by decide
 have h2 := bytesU_len 9 n
 rw [h1] at h2
 exact h2 (by omega)
def zig (i : Int) : Nat := if 0 ≤ i then (2 * i).toNat else (-2 * i - 1).toNat
theorem zig_lt (i : Int) (h : -9223372036854775808 ≤ i ∧ i ≤ 9223372036854775807) : zig i < 18446744073709551616 := by
 unfold zig
 split <;> omega
theorem xor_u64 (a : Int) (b : Int) : bits .xor .u64 a b = (((BitVec.ofInt 64 a ^^^ BitVec.ofInt 64 b).toNat : Nat) : Int) := by
 show IntKind.u64.wrap ((BitVec.ofInt 64 a ^^^ BitVec.ofInt 64 b).toNat : Int) = _
 rw [IntKind.wrap_u64]
 have := (BitVec.ofInt 64 a ^^^ BitVec.ofInt 64 b).isLt
 omega
theorem ofInt_nat (n : Nat) (h : n < 18446744073709551616) : (BitVec.ofInt 64 (n : Int)).toNat = n := by
 rw [BitVec.ofInt_natCast, BitVec.toNat_ofNat]; omega
theorem zig_bits (i : Int) (hi : -9223372036854775808 ≤ i ∧ i ≤ 9223372036854775807) :
  bits .xor .u64 (IntKind.u64.wrap (IntKind.u64.wrap i * 2)) (IntKind.u64.wrap (i / 9223372036854775808)) = (zig i : Int) := by
 rw [xor_u64]
 by_cases h : 0 ≤ i
 ·have e1 : IntKind.u64.wrap (IntKind.u64.wrap i * 2) = ((zig i : Nat) : Int) := by rw [IntKind.wrap_u64, IntKind.wrap_u64, zig, if_pos h]; omega
  have e2 : IntKind.u64.wrap (i / 9223372036854775808) = 0 := by rw [IntKind.wrap_u64]; omega
  rw [e1, e2, show BitVec.ofInt 64 0 = 0#64 from rfl, BitVec.xor_zero, ofInt_nat _ (zig_lt i hi)]
 ·obtain ⟨m, hm⟩ : ∃ m : Nat, (m : Int) = 2 * i + 18446744073709551616 := ⟨(2 * i + 18446744073709551616).toNat, by omega⟩
  have e1 : IntKind.u64.wrap (IntKind.u64.wrap i * 2) = (m : Int) := by rw [IntKind.wrap_u64, IntKind.wrap_u64]; omega
  have e2 : IntKind.u64.wrap (i / 9223372036854775808) = 18446744073709551615 := by rw [IntKind.wrap_u64]; omega
  rw [e1, e2, show BitVec.ofInt 64 18446744073709551615 = BitVec.allOnes 64 from by decide, BitVec.xor_allOnes, BitVec.toNat_not, ofInt_nat _ (by omega), zig, if_neg h]
  omega
set_option maxRecDepth 20000 in
theorem or128 : ∀ x : Fin 256, (x.val ||| 128) = x.val % 128 + 128 := by decide
theorem high_byte (N : Nat) : bits .or .u8 (IntKind.u8.wrap (N : Int)) 128 = ((UInt8.ofNat (N % 128 + 128)).toNat : Int) := by
 have h0 : IntKind.u8.wrap (N : Int) = ((N % 256 : Nat) : Int) := by rw [IntKind.wrap_u8]; omega
 have h1 : (BitVec.ofInt 8 ((N % 256 : Nat) : Int)).toNat = N % 256 := by
  rw [BitVec.ofInt_natCast, BitVec.toNat_ofNat]; omega
 have h2 : (BitVec.ofInt 8 (128 : Int)).toNat = 128 := by decide
 rw [h0]
 show IntKind.u8.wrap ((BitVec.ofInt 8 ((N % 256 : Nat) : Int) ||| BitVec.ofInt 8 128).toNat : Int) = _
 rw [BitVec.toNat_or, h1, h2, IntKind.wrap_u8, UInt8.toNat_ofNat']
 have := or128 ⟨N % 256, by omega⟩
 simp only at this
 rw [this]
 omega

theorem rd_add {w : World} {a : Option Addr} {vs : List Value} (h : Rd w a vs) (hp : 0 < vs.length) : ∃ ad, a = some ad ∧ ∀ j u, vs[j]? = some u → w.cell? (ad.add j) = some u := by
 rcases h with rfl | ⟨b, off, rfl, hc⟩
 ·simp at hp
 ·exact ⟨_, rfl, fun j u hu => by rw [Addr.add_lit]; exact hc j u hu⟩

/-- copy(dst, src): dst at place 'off' of a block that is known whole, src whatever slice reads as 'vs'. -/
theorem app_b1 (w : World) {ops : Array Oper} {rest : List Oper} {o : Oper} {a : Act} {Q : Exit → Act → World → Prop} (hgd : o.guard = none) (s x : Operand)
  (ho : o.op = .call { callee := .builtin .append, args := #[s, x], argTypes := #[39, 39] }) (base : Nat) (v : Value) (n : Nat) (l1 : List UInt8) (hs : a.eval s = v) (hown : w.ownsRow base 5 1 v n (l1.map B))
  (y : Value) (u : UInt8) (hy : y = B u) (hx : a.eval x = .slice (some ⟨w.heap.size, 0, none⟩) 1 1) (hb : n + 1 ≤ 140737488355328) (hbase : base ≤ w.heap.size)
  (h : ∀ a' c' w', w'.ownsRow base 5 1 (.slice a' (n + 1) c') (n + 1) ((l1 ++ [u]).map B) → Below base w w' → Moved (w.alloc (.cells #[y] 5)) w' v (.slice a' (n + 1) c') →
   wpList Tryz.prog ops Q rest (a.put o.dst (.slice a' (n + 1) c')) w') : wpList Tryz.prog ops Q (o :: rest) a (w.alloc (.cells #[y] 5)) := by
 subst hy
 obtain ⟨i0, hi, hz0, hz1, hz2⟩ := info_parts info5
 refine wpList_append_one w hgd s x 39 ho base 5 i0 (.int .u8 0) 1 1 Tryz.underlying39 hi hz0 hz1 hz2 rfl (by decide) v n _ _ hs hown hx rfl (by intro z hz; simp at hz; subst hz; rfl) (by unfold maxLen; omega) (by omega) hbase ?_
 intro a' c' w' h1 h2 h3
 exact h a' c' w' (by simpa using h1) h2 h3
/-- A function that makes these bytes. -/
def By (l : List UInt8) (w : World) (e : Ending) (w' : World) : Prop := ∃ a c n, l.length = n ∧ e = .returned (.slice a n c) ∧ w'.ownsRow w.heap.size 5 1 (.slice a n c) n (l.map B) ∧ Below w.heap.size w w'
set_option maxRecDepth 20000 in
theorem rcount_any (n : Nat) (w : World) (hn : n < 18446744073709551616) : Calls Tryz.prog 51 #[.int .u64 (n : Int)] w (By (bytesU n) w) := by
 have hlen := bytesU_len10 n hn
 go_enter Tryz.func51, Tryz.ntmps51
 go_wp2_with fail
 go_loopw [3, 0] (fun v i wr => ∃ (a1 : Option Addr) (c1 m N : Nat) (dn : List UInt8), v = .slice a1 m c1 ∧ i = .int .u64 (N : Int) ∧ N ≤ n ∧ bytesU n = dn ++ bytesU N ∧ m + (bytesU N).length = (bytesU n).length ∧ wr.ownsRow w.heap.size 5 1 v m (dn.map B) ∧ Below w.heap.size w wr) (fun _ i _ => (intOf i).toNat)
 case atStart => exact ⟨none, 0, 0, n, [], rfl, rfl, Nat.le_refl _, rfl, by omega, by simpa using World.ownsRow_nil w w.heap.size 5 1, Below.refl _ _⟩
 case round =>
  obtain ⟨a1, c1, m, N, dn, rfl, rfl, hNn, hbs, hm, hown1, hbel⟩ := hrel
  have hs := hbel.size
  have HBEL := Lib.hid hbel
  clear hbel
  by_cases hlt : N < 128
  ·have hlt' : ¬ (128 : Int) ≤ N := by omega
   have hlow := bytesU_low hlt
   rw [hlow] at hbs hm
   have HBS := Lib.hid hbs
   have HM := Lib.hid hm
   have hmb : m ≤ 140737488355200 := by rw [List.length_singleton] at hm; omega
   have hy : Value.int .u8 (N : Int) = B (UInt8.ofNat N) := by rw [B, UInt8.toNat_ofNat']; congr 1; omega
   have HY := Lib.hid hy
   clear hbs hm hlow hlen hy
   go_wp2_with (first | (at_builtin; refine app_b1 wr rfl _ _ rfl w.heap.size (.slice a1 m c1) m dn rfl hown1 _ (UInt8.ofNat N) HY.out rfl (by omega) (by omega) ?_; intro a2 c2 w2 hown2 hb2 hmv2) | fail)
   go_ret
   rw [show dn ++ [UInt8.ofNat N] = bytesU n from HBS.out.symm] at hown2
   have hM := HM.out
   rw [List.length_singleton] at hM
   exact ⟨a2, c2, m + 1, hM.symm, rfl, by simpa only [List.map_append] using hown2, HBEL.out.trans hb2⟩
  ·have hlt' : (128 : Int) ≤ N := by omega
   have hhigh := bytesU_high hlt
   rw [hhigh] at hbs hm
   have HBS := Lib.hid hbs
   have HM := Lib.hid hm
   have hmb : m ≤ 140737488355200 := by rw [List.length_cons] at hm; omega
   have hN64 : N < 18446744073709551616 := by omega
   have hmod : (N : Int) % 128 = ((N % 128 : Nat) : Int) := by omega
   have hy : Value.int .u8 ((N : Int) % 128 + 128) = B (UInt8.ofNat (N % 128 + 128)) := by rw [B, UInt8.toNat_ofNat']; congr 1; omega
   have HY := Lib.hid hy
   clear hbs hm hhigh hlen hy hmod
   go_wp2_with (first | (at_builtin; refine app_b1 wr rfl _ _ rfl w.heap.size (.slice a1 m c1) m dn rfl hown1 _ (UInt8.ofNat (N % 128 + 128)) HY.out rfl (by omega) (by omega) ?_; intro a2 c2 w2 hown2 hb2 hmv2) | fail)
   go_roundw
   case rel =>
    refine ⟨a2, c2, m + 1, N / 128, dn ++ [UInt8.ofNat (N % 128 + 128)], rfl, by go_num, by omega, by rw [HBS.out]; simp, ?_, hown2, HBEL.out.trans hb2⟩
    have hM := HM.out
    rw [List.length_cons] at hM
    omega
   case measure => simp [intOf]; omega
theorem rnumber_any (i : Int) (w : World) (hi : -9223372036854775808 ≤ i ∧ i ≤ 9223372036854775807) : Calls Tryz.prog 52 #[.int .i64 i] w (By (bytesU (zig i)) w) := by
 have hc := rcount_any (zig i) w (zig_lt i hi)
 by_cases h : 0 ≤ i
 ·have hz : (zig i : Int) = 2 * i := by rw [zig, if_pos h]; omega
  rw [hz] at hc
  have HC := Lib.hid hc
  clear hz hc
  obtain ⟨h1, h2⟩ := hi
  go_enter Tryz.func52, Tryz.ntmps52
  go_wp2_with fail
  refine (HC.out).mono ?_
  rintro e w2 ⟨a2, c2, n2, hn2, rfl, hown2, hb2⟩
  have HN2 := Lib.hid hn2
  clear hn2
  go_wp2
  go_ret
  exact ⟨a2, c2, n2, HN2.out, rfl, hown2, hb2⟩
 ·have hz : (zig i : Int) = 2 * -(i + 1) + 1 := by rw [zig, if_neg h]; omega
  rw [hz] at hc
  have HC := Lib.hid hc
  clear hz hc
  obtain ⟨h1, h2⟩ := hi
  go_enter Tryz.func52, Tryz.ntmps52
  go_wp2_with fail
  refine (HC.out).mono ?_
  rintro e w2 ⟨a2, c2, n2, hn2, rfl, hown2, hb2⟩
  have HN2 := Lib.hid hn2
  clear hn2
  go_wp2
  go_ret
  exact ⟨a2, c2, n2, HN2.out, rfl, hown2, hb2⟩
set_option maxRecDepth 20000 in
theorem rjoin_any (a b : Option Addr) (c d n m : Nat) (l k : List UInt8) (w : World) (hn : l.length = n) (hm : k.length = m) (hl : n + m ≤ 140737488355000) (h : Rd w a (l.map B)) (h' : Rd w b (k.map B)) :
  Calls Tryz.prog 46 #[.slice a n c, .slice b m d] w (By (l ++ k) w) := by
 have HN := Lib.hid hn
 have HM := Lib.hid hm
 have HL := Lib.hid h
 have HK := Lib.hid h'
 clear hn hm h h'
 go_enter Tryz.func46, Tryz.ntmps46
 go_wp2_with fail
 go_loopw [5, 6] (fun v i wr => ∃ (j : Nat) (a1 : Option Addr) (c1 : Nat), j ≤ n ∧ i = .int .i64 (j : Int) ∧ v = .slice a1 j c1 ∧ wr.ownsRow w.heap.size 5 1 v j ((l.take j).map B) ∧ Below w.heap.size w wr) (fun _ i _ => n - (intOf i).toNat)
 case atStart => exact ⟨0, none, 0, Nat.zero_le _, rfl, rfl, by simpa using World.ownsRow_nil w w.heap.size 5 1, Below.refl _ _⟩
 case round =>
  obtain ⟨j, a1, c1, hjn, rfl, rfl, hown, hbw⟩ := hrel
  have hs := hbw.size
  by_cases hlt : j < n
  ·have hjl : j < l.length := by rw [HN.out]; exact hlt
   obtain ⟨ad, rfl, hcell⟩ := rd_add (HL.out.below hbw) (by simp; omega)
   have e0 := hcell j (B l[j]) (by simp [hjl])
   have htk : l.take (j + 1) = l.take j ++ [l[j]] := take_snoc l j hjl
   obtain ⟨u, hu⟩ : ∃ u, u = l[j] := ⟨_, rfl⟩
   rw [← hu] at e0 htk
   have HTK := Lib.hid htk
   have HBW := Lib.hid hbw
   have HME := Lib.hid (meas_lt hlt)
   have hlt' : (j : Int) < n := by omega
   have hj0 : (0 : Int) ≤ j := by omega
   have HY := Lib.hid (show Value.int .u8 (u.toNat : Int) = B u from rfl)
   rw [B] at e0
   clear hcell htk hbw hu
   go_wp2_with (first | (at_builtin; refine app_b1 wr rfl _ _ rfl w.heap.size (.slice a1 j c1) j (l.take j) rfl hown _ u HY.out rfl (by omega) (by omega) ?_; intro a2 c2 w2 hown2 hb2 hmv2) | fail)
   go_roundw
   case rel => exact ⟨j + 1, a2, c2, hlt, by go_num, rfl, by rw [HTK.out]; exact hown2, HBW.out.trans hb2⟩
   case measure => exact HME.out
  ·have hk' : ¬ (j : Int) < n := by omega
   have hje : j = n := by omega
   have hown' : wr.ownsRow w.heap.size 5 1 (.slice a1 n c1) n (l.map B) := by rw [hje] at hown; rwa [List.take_of_length_le (by rw [HN.out]; exact Nat.le_refl _)] at hown
   subst hje
   have HBW := Lib.hid hbw
   clear hown hbw
   go_wp2_with fail
   go_loopw [5, 7] (fun v i wz => ∃ (q : Nat) (a2 : Option Addr) (c2 : Nat), q ≤ m ∧ i = .int .i64 (q : Int) ∧ v = .slice a2 (j + q) c2 ∧ wz.ownsRow w.heap.size 5 1 v (j + q) ((l ++ k.take q).map B) ∧ Below w.heap.size w wz) (fun _ i _ => m - (intOf i).toNat)
   case atStart => exact ⟨0, a1, c1, Nat.zero_le _, rfl, rfl, by simpa using hown', HBW.out⟩
   case round =>
    obtain ⟨q, a2, c2, hqn, rfl, rfl, hown, hbw⟩ := hrel
    have hs2 := hbw.size
    by_cases hlt : q < m
    ·have hjl : q < k.length := by rw [HM.out]; exact hlt
     obtain ⟨ad, rfl, hcell⟩ := rd_add (HK.out.below hbw) (by simp; omega)
     have e0 := hcell q (B k[q]) (by simp [hjl])
     have htk : k.take (q + 1) = k.take q ++ [k[q]] := take_snoc k q hjl
     obtain ⟨u, hu⟩ : ∃ u, u = k[q] := ⟨_, rfl⟩
     rw [← hu] at e0 htk
     have HTK := Lib.hid htk
     have HBZ := Lib.hid hbw
     have HME := Lib.hid (meas_lt hlt)
     have hlt' : (q : Int) < m := by omega
     have hj0 : (0 : Int) ≤ q := by omega
     have HY := Lib.hid (show Value.int .u8 (u.toNat : Int) = B u from rfl)
     rw [B] at e0
     clear hcell htk hbw hu hown'
     go_wp2_with (first | (at_builtin; refine app_b1 _ rfl _ _ rfl w.heap.size (.slice a2 (j + q) c2) (j + q) (l ++ k.take q) rfl hown _ u HY.out rfl (by omega) (by omega) ?_; intro a3 c3 w3 hown3 hb3 hmv3) | fail)
     go_roundw
     case rel => exact ⟨q + 1, a3, c3, hlt, by go_num, rfl, by rw [HTK.out, ← List.append_assoc]; exact hown3, HBZ.out.trans hb3⟩
     case measure => exact HME.out
    ·have hk2 : ¬ (q : Int) < m := by omega
     have hqe : q = m := by omega
     subst hqe
     rw [List.take_of_length_le (by rw [HM.out]; exact Nat.le_refl _)] at hown
     have HBZ := Lib.hid hbw
     have hln : (l ++ k).length = j + q := by rw [List.length_append, HN.out, HM.out]
     have HLN := Lib.hid hln
     clear hbw hown' hln
     go_wp2_with fail
     go_ret
     exact ⟨a2, c2, j + q, HLN.out, rfl, hown, HBZ.out⟩
end Go.Proofs.YtfglgpbjjpoimaaGreatDoor
/- SaveEncodes: the bytes of texts, names, values; names and matches in memory; the reference's text, name, value. -/
set_option linter.unusedVariables false
namespace Go.Proofs.YtfglgpbjjpoimaaGreatDoor
open Go.RowKit Sv
def bytesI (i : Int) : List UInt8 := bytesU (zig i)
theorem bytesI_le (i : Int) (h : I64' i) : (bytesI i).length ≤ 10 := bytesU_len10 _ (zig_lt i h)
structure Nm where
 ts : Int
 id : Nat
def NmB (n : Nm) : Prop := I64' n.ts ∧ n.id < 18446744073709551616
structure Mt where
 dec : Int
 names : List Nm
 lens : List Int
 vals : List (Bool × Int)
def byText (s : Str) : List UInt8 := bytesU s.length ++ s
def byName (n : Nm) : List UInt8 := bytesI n.ts ++ bytesU n.id
def byVal (v : Bool × Int) : List UInt8 := if v.1 then 1 :: bytesI v.2 else [0]
def byNames (l : List Nm) : List UInt8 := bytesU l.length ++ l.flatMap byName
def byMt (m : Mt) : List UInt8 := bytesI m.dec ++ byNames m.names ++ (bytesU m.lens.length ++ m.lens.flatMap bytesI) ++ (bytesU m.vals.length ++ m.vals.flatMap byVal)
def byEv (L : List Ty) (e : Ev) : List UInt8 := bytesI e.ts ++ bytesU e.id.toNat ++ bytesU e.typ.toNat ++ (e.at_.take (L.getD e.typ.toNat ⟨[], []⟩).attrs.length).flatMap bytesI
def byEvs (L : List Ty) (l : List Ev) : List UInt8 := bytesU l.length ++ l.flatMap (byEv L)
theorem flat_le {α : Type} (f : α → List UInt8) (c : Nat) : ∀ l : List α, (∀ v ∈ l, (f v).length ≤ c) → (l.flatMap f).length ≤ l.length * c := by
 intro l
 induction l with
 | nil => intro _; simp
 | cons v l ih =>
  intro h
  rw [List.flatMap_cons, List.length_append, List.length_cons, Nat.succ_mul]
  have h1 := h v List.mem_cons_self
  have h2 := ih (fun u hu => h u (List.mem_cons_of_mem _ hu))
  omega
theorem byName_le {n : Nm} (h : NmB n) : (byName n).length ≤ 20 := by
 have h1 := bytesI_le n.ts h.1
 have h2 := bytesU_len10 n.id h.2
 unfold byName
 rw [List.length_append]; omega
theorem byVal_le {v : Bool × Int} (h : I64' v.2) : (byVal v).length ≤ 11 := by
 have h1 := bytesI_le v.2 h
 unfold byVal
 split
 ·rw [List.length_cons]; omega
 ·simp
def nmc (n : Nm) : List Value := [.int .i64 n.ts, .int .u64 (n.id : Int)]
def vlc (v : Bool × Int) : List Value := [.bool v.1, .int .i64 v.2]
def RdNm (w : World) (a : Option Addr) (l : List Nm) : Prop := Rd w a (l.flatMap nmc)
def RdV (w : World) (a : Option Addr) (l : List (Bool × Int)) : Prop := Rd w a (l.flatMap vlc)
def RdZ (w : World) (a : Option Addr) (l : List Int) : Prop := Rd w a (l.map Z)
theorem RdNm.at {w : World} {a : Option Addr} {l : List Nm} (h : RdNm w a l) (i : Nat) (hi : i < l.length) :
  ∃ b off, a = some ⟨b, off, none⟩ ∧ w.cell? ⟨b, off + i * 2, none⟩ = some (.int .i64 l[i].ts) ∧ w.cell? ⟨b, off + i * 2 + 1, none⟩ = some (.int .u64 (l[i].id : Int)) := by
 obtain ⟨b, off, e, hc⟩ := Rd.piece (f := nmc) (n := 2) (fun _ => rfl) h i hi (by omega)
 exact ⟨b, off, e, hc 0 (by omega), hc 1 (by omega)⟩
theorem RdV.at {w : World} {a : Option Addr} {l : List (Bool × Int)} (h : RdV w a l) (i : Nat) (hi : i < l.length) :
  ∃ b off, a = some ⟨b, off, none⟩ ∧ w.cell? ⟨b, off + i * 2, none⟩ = some (.bool l[i].1) ∧ w.cell? ⟨b, off + i * 2 + 1, none⟩ = some (.int .i64 l[i].2) := by
 obtain ⟨b, off, e, hc⟩ := Rd.piece (f := vlc) (n := 2) (fun _ => rfl) h i hi (by omega)
 exact ⟨b, off, e, hc 0 (by omega), hc 1 (by omega)⟩
theorem RdZ.at {w : World} {a : Option Addr} {l : List Int} (h : RdZ w a l) (i : Nat) (hi : i < l.length) :
  ∃ b off, a = some ⟨b, off, none⟩ ∧ w.cell? ⟨b, off + i, none⟩ = some (.int .i64 l[i]) := by
 have g1 : (l.map Z)[i]? = some (Z l[i]) := by simp [hi]
 rcases h with h | ⟨b, off, rfl, hc⟩
 ·rw [h] at g1; cases g1
 ·exact ⟨b, off, rfl, hc _ _ g1⟩
/-- A match in memory. -/
structure Mm where
 m : Mt
 na : Option Addr
 nc : Nat
 la : Option Addr
 lc : Nat
 va : Option Addr
 vc : Nat
def mmc (x : Mm) : List Value := [.int .i64 x.m.dec, .slice x.na x.m.names.length x.nc, .slice x.la x.m.lens.length x.lc, .slice x.va x.m.vals.length x.vc]
def RdMl (w : World) (x : Mm) : Prop := RdNm w x.na x.m.names ∧ RdZ w x.la x.m.lens ∧ RdV w x.va x.m.vals
def RdM (w : World) (a : Option Addr) (l : List Mm) : Prop := Rd w a (l.flatMap mmc) ∧ ∀ x ∈ l, RdMl w x
theorem RdNm.below {w w' : World} {a : Option Addr} {l : List Nm} (h : RdNm w a l) (hb : Below w.heap.size w w') : RdNm w' a l := Rd.below h hb
theorem RdV.below {w w' : World} {a : Option Addr} {l : List (Bool × Int)} (h : RdV w a l) (hb : Below w.heap.size w w') : RdV w' a l := Rd.below h hb
theorem RdZ.below {w w' : World} {a : Option Addr} {l : List Int} (h : RdZ w a l) (hb : Below w.heap.size w w') : RdZ w' a l := Rd.below h hb
theorem RdMl.below {w w' : World} {x : Mm} (h : RdMl w x) (hb : Below w.heap.size w w') : RdMl w' x := ⟨h.1.below hb, h.2.1.below hb, h.2.2.below hb⟩
theorem RdM.below {w w' : World} {a : Option Addr} {l : List Mm} (h : RdM w a l) (hb : Below w.heap.size w w') : RdM w' a l := ⟨h.1.below hb, fun x hx => (h.2 x hx).below hb⟩
theorem RdM.at {w : World} {a : Option Addr} {l : List Mm} (h : RdM w a l) (i : Nat) (hi : i < l.length) :
  ∃ b off, a = some ⟨b, off, none⟩ ∧ w.cell? ⟨b, off + i * 4, none⟩ = some (.int .i64 l[i].m.dec) ∧ w.cell? ⟨b, off + i * 4 + 1, none⟩ = some (.slice l[i].na l[i].m.names.length l[i].nc) ∧
   w.cell? ⟨b, off + i * 4 + 2, none⟩ = some (.slice l[i].la l[i].m.lens.length l[i].lc) ∧ w.cell? ⟨b, off + i * 4 + 3, none⟩ = some (.slice l[i].va l[i].m.vals.length l[i].vc) := by
 obtain ⟨b, off, e, hc⟩ := Rd.piece (f := mmc) (n := 4) (fun _ => rfl) h.1 i hi (by omega)
 exact ⟨b, off, e, hc 0 (by omega), hc 1 (by omega), hc 2 (by omega), hc 3 (by omega)⟩
structure MtB (m : Mt) : Prop where
 dec : I64' m.dec
 names : m.names.length ≤ 1048576
 lens : m.lens.length ≤ 1048576
 vals : m.vals.length ≤ 1048576
 nb : ∀ n ∈ m.names, NmB n
 lb : ∀ n ∈ m.lens, I64' n
 vb : ∀ v ∈ m.vals, I64' v.2
theorem byNames_le {l : List Nm} (hl : l.length ≤ 1048576) (hb : ∀ n ∈ l, NmB n) : (byNames l).length ≤ 20971530 := by
 have h1 := flat_le byName 20 l (fun v hv => byName_le (hb v hv))
 have h2 := bytesU_len10 l.length (by omega)
 unfold byNames
 rw [List.length_append]; omega
theorem byMt_le {m : Mt} (h : MtB m) : (byMt m).length ≤ 43000100 := by
 have h1 := byNames_le h.names h.nb
 have h2 := flat_le bytesI 10 m.lens (fun v hv => bytesI_le v (h.lb v hv))
 have h3 := flat_le byVal 11 m.vals (fun v hv => byVal_le (h.vb v hv))
 have h4 := bytesI_le m.dec h.dec
 have h5 := bytesU_len10 m.lens.length (by have := h.lens; omega)
 have h6 := bytesU_len10 m.vals.length (by have := h.vals; omega)
 have h7 := h.lens
 have h8 := h.vals
 unfold byMt
 simp only [List.length_append]
 omega
theorem rd_len {w : World} {base : Nat} {a : Option Addr} {c n : Nat} {l : List UInt8} (h : w.ownsRow base 5 1 (.slice a n c) n (l.map B)) : Rd w a (l.map B) := ownsRow_rd h
set_option maxHeartbeats 1000000 in
theorem rtext_any (s : Str) (w : World) (hs : s.length ≤ 1000000000) : Calls Tryz.prog 50 #[.string ⟨s.toArray⟩] w (By (byText s) w) := by
 have hc := rcount_any s.length w (by omega)
 have hu := bytesU_len10 s.length (by omega)
 have HC := Lib.hid hc
 have HU := Lib.hid hu
 clear hc hu
 go_enter Tryz.func50, Tryz.ntmps50
 go_wp2_with fail
 refine (HC.out).mono ?_
 rintro e w1 ⟨a1, c1, n1, hn1, rfl, ho1, hb1⟩
 obtain ⟨c2, w2, hconv, _, _, hb2, N, ex, hbr⟩ := conv_sb w1 ⟨s.toArray⟩ (by show s.toArray.size ≤ _; rw [List.size_toArray]; omega)
 have hR1 : Rd w2 a1 ((bytesU s.length).map B) := (rd_len ho1).below hb2
 have hR2 : Rd w2 (some ⟨w1.heap.size, 0, none⟩) (s.map B) := by
  refine .inr ⟨_, 0, rfl, fun i u hu => ?_⟩
  have hil : i < s.length := by
   rcases Nat.lt_or_ge i s.length with h | h
   ·exact h
   ·rw [List.getElem?_eq_none (by simpa using h)] at hu; cases hu
  have := hbr.cell i (by simp; omega)
  rw [Nat.zero_add, this, ← hu]
  simp [hil]
 have hsz : (⟨s.toArray⟩ : ByteArray).size = s.length := by show s.toArray.size = _; simp
 rw [hsz] at hconv
 have HJ := Lib.hid (rjoin_any a1 (some ⟨w1.heap.size, 0, none⟩) c1 c2 n1 s.length (bytesU s.length) s w2 hn1 rfl (by have := HU.out; omega) hR1 hR2)
 have HB := Lib.hid (hb1.trans (hb2.mono hb1.size))
 clear ho1 hb1 hb2 hbr hR1 hR2 hsz hn1
 go_wp2_with fail
 refine (HJ.out).mono ?_
 rintro e w3 ⟨a3, c3, n3, hn3, rfl, ho3, hb3⟩
 have hb := HB.out.trans (hb3.mono HB.out.size)
 have hs3 := HB.out.size
 have HO := Lib.hid (ownsRow_base ho3 hs3)
 have HB3 := Lib.hid hb
 have HN3 := Lib.hid hn3
 clear ho3 hb hb3 hs3 hn3
 go_wp2_with fail
 go_ret
 exact ⟨a3, c3, n3, HN3.out, rfl, HO.out, HB3.out⟩
end Go.Proofs.YtfglgpbjjpoimaaGreatDoor
/- SaveEncodes: the reference's name, value, event. -/
set_option linter.unusedVariables false
namespace Go.Proofs.YtfglgpbjjpoimaaGreatDoor
open Go.RowKit Sv
theorem own_of_heap2 {w : World} {g : Nat} {xs ys : List Value} {e : Nat} {base n c : Nat} (h : w.heap[g]? = some (.cells xs.toArray e (0, 0))) (hb : base ≤ g) (hc : xs.length = c) (hn : n ≤ c) (hm : c ≤ maxLen) (ht : xs.take n = ys) (hy : ys.length = n) :
  w.ownsRow base e 1 (.slice (some ⟨g, 0, none⟩) n c) n ys :=
 ⟨by simpa using hy, .inr ⟨g, c, xs.toArray, rfl, hb, h, hn, hm, by simpa using hc, by rw [Nat.mul_one]; exact ht⟩⟩
/-- A block that is known whole is a row of the call's own. -/
theorem own_of_heap {w : World} {g : Nat} {xs : List Value} {e : Nat} {base n : Nat} (h : w.heap[g]? = some (.cells xs.toArray e (0, 0))) (hb : base ≤ g) (hn : xs.length = n) (hm : n ≤ maxLen) :
  w.ownsRow base e 1 (.slice (some ⟨g, 0, none⟩) n n) n xs :=
 ⟨by simpa using hn, .inr ⟨g, n, xs.toArray, rfl, hb, h, Nat.le_refl _, hm, by simpa using hn, by
  rw [Nat.mul_one]; exact List.take_of_length_le (by simpa using Nat.le_of_eq hn)⟩⟩

theorem own_new (w : World) (base : Nat) (v : Value) (hb : base ≤ w.heap.size) : (w.alloc (.cells #[v] 5)).ownsRow base 5 1 (.slice (some ⟨w.heap.size, 0, none⟩) 1 1) 1 [v] := by
 refine own_of_heap (g := w.heap.size) (xs := [v]) ?_ hb rfl (by unfold maxLen; omega)
 exact Blk.new w [v] 5
set_option maxHeartbeats 1000000 in
theorem rname_any (n : Nm) (w : World) (hb : NmB n) : Calls Tryz.prog 55 #[.agg (nmc n).toArray] w (By (byName n) w) := by
 obtain ⟨ts, id⟩ := n
 obtain ⟨hts, hid⟩ := hb
 dsimp only at hts hid
 obtain ⟨w0, hw0⟩ : ∃ w0, w0 = w.alloc (.cells #[.int .i64 ts, .int .u64 (id : Int)] 82) := ⟨_, rfl⟩
 have hE : Blk w0 w.heap.size 82 [.int .i64 ts, .int .u64 (id : Int)] := by rw [hw0]; exact Blk.new w _ 82
 have HB0 := Lib.hid (show Below w.heap.size w w0 by rw [hw0]; exact bal (Below.refl _ _) (Nat.le_refl _) _)
 have HE := Lib.hid hE
 have HU1 := Lib.hid (bytesI_le ts hts)
 have HU2 := Lib.hid (bytesU_len10 id hid)
 have HBW := Lib.hid (show Below w0.heap.size w0 w0.drew from (Below.refl _ _).drew)
 have c0 : w0.drew.cell? ⟨w.heap.size, 0, none⟩ = some (.int .i64 ts) := hE.ci 0 rfl
 have c1 : w0.drew.cell? ⟨w.heap.size, 1, none⟩ = some (.int .u64 (id : Int)) := hE.ci 1 rfl
 clear hE
 simp only [nmc]
 go_enter Tryz.func55, Tryz.ntmps55
 go_wp2_with fail
 rw [← hw0]
 clear hw0
 go_region_held3 (fun W => W.cell? ⟨w.heap.size, 0, none⟩ = some (.int .i64 ts) ∧ W.cell? ⟨w.heap.size, 1, none⟩ = some (.int .u64 (id : Int))) (first | exact ⟨c0, c1⟩ | (refine ⟨?_, ?_⟩ <;> assumption)) (first
  | (go_at_call 52; refine (rnumber_any ts _ hts).mono ?_; rintro e wA ⟨a1, k1, n1, hn1, rfl, ho1, hbA⟩; (have HBW := Lib.hid (HBW.out.trans (hbA.mono HBW.out.size))); (have c0 := (HE.out.below HBW.out).ci 0 rfl); (have c1 := (HE.out.below HBW.out).ci 1 rfl); (have HR1 := Lib.hid (rd_len ho1)); (have HN1 := Lib.hid hn1); clear ho1 hbA hn1)
  | (go_at_call 51; refine (rcount_any id _ hid).mono ?_; rintro e wB ⟨a2, k2, n2, hn2, rfl, ho2, hbB⟩; (have HBW := Lib.hid (HBW.out.trans (hbB.mono HBW.out.size))); (have c0 := (HE.out.below HBW.out).ci 0 rfl); (have c1 := (HE.out.below HBW.out).ci 1 rfl); (have HR1 := Lib.hid (HR1.out.below hbB)); (have HR2 := Lib.hid (rd_len ho2)); (have HN2 := Lib.hid hn2); clear ho2 hbB hn2)
  | (go_at_call 46; refine (rjoin_any a1 a2 k1 k2 n1 n2 _ _ _ HN1.out HN2.out (by have := HN1.out; have := HN2.out; have := HU1.out; have := HU2.out; unfold bytesI at *; omega) HR1.out HR2.out).mono ?_; rintro e wC ⟨a3, k3, n3, hn3, rfl, ho3, hbC⟩; (have HO3 := Lib.hid (ownsRow_base ho3 (Nat.le_trans HB0.out.size HBW.out.size))); (have HBW := Lib.hid (HBW.out.trans (hbC.mono HBW.out.size))); (have c0 := (HE.out.below HBW.out).ci 0 rfl); (have c1 := (HE.out.below HBW.out).ci 1 rfl); (have HN3 := Lib.hid hn3); clear ho3 hbC hn3))
 go_wp2_with fail
 go_ret
 exact ⟨a3, k3, n3, HN3.out, rfl, HO3.out, HB0.out.trans (HBW.out.mono HB0.out.size)⟩
set_option maxHeartbeats 1000000 in
theorem rvalue_any (v : Bool × Int) (w : World) (hb : I64' v.2) : Calls Tryz.prog 92 #[.agg (vlc v).toArray] w (By (byVal v) w) := by
 obtain ⟨k, n⟩ := v
 dsimp only at hb
 obtain ⟨w0, hw0⟩ : ∃ w0, w0 = w.alloc (.cells #[.bool k, .int .i64 n] 64) := ⟨_, rfl⟩
 have hE : Blk w0 w.heap.size 64 [.bool k, .int .i64 n] := by rw [hw0]; exact Blk.new w _ 64
 have hb0 : Below w.heap.size w w0 := by rw [hw0]; exact bal (Below.refl _ _) (Nat.le_refl _) _
 simp only [vlc]
 cases k with
 | false =>
  have HO := Lib.hid (own_new w0 w.heap.size (B 0) hb0.size)
  have HB := Lib.hid (show Below w.heap.size w (w0.alloc (.cells #[B 0] 5)) from bal hb0 (Nat.le_refl _) _)
  have HG := Lib.hid (show w0.heap.size = w.heap.size + 1 by rw [hw0]; show Array.size (Array.push _ _) = _; simp)
  clear hE hb0
  go_enter Tryz.func92, Tryz.ntmps92
  go_wp2_with fail
  rw [← hw0]
  go_ret
  exact ⟨some ⟨w.heap.size + 1, 0, none⟩, 1, 1, rfl, rfl, by rw [← HG.out]; exact HO.out, HB.out⟩
 | true =>
  obtain ⟨w1, hw1⟩ : ∃ w1, w1 = w0.alloc (.cells #[B 1] 5) := ⟨_, rfl⟩
  have hb1 : Below w0.heap.size w0 w1 := by rw [hw1]; exact bal (Below.refl _ _) (Nat.le_refl _) _
  have hR1 : Rd w1 (some ⟨w.heap.size + 1, 0, none⟩) ([1].map B) := by
   have h := rd_new w0 #[B 1] 5
   rw [show w0.heap.size = w.heap.size + 1 by rw [hw0]; show Array.size (Array.push _ _) = _; simp] at h
   rw [hw1]; simpa using h
  have hE1 := hE.below hb1
  have d1 := hE1.ci 1 rfl
  have HNU := Lib.hid (rnumber_any n w1 hb)
  have HU1 := Lib.hid (bytesI_le n hb)
  have HR1 := Lib.hid hR1
  have HB1 := Lib.hid (hb0.trans (hb1.mono hb0.size))
  obtain ⟨q1, q2⟩ := hb
  clear hE hE1 hb0 hb1 hR1
  go_enter Tryz.func92, Tryz.ntmps92
  go_wp2_with fail
  rw [← hw0]
  try rw [show (w0.alloc (.cells #[.int .u8 1] 5)) = w1 from hw1.symm]
  clear hw0 hw1
  refine (HNU.out).mono ?_
  rintro e wA ⟨a1, k1, n1, hn1, rfl, ho1, hbA⟩
  have HJ := Lib.hid (rjoin_any (some ⟨w.heap.size + 1, 0, none⟩) a1 1 k1 1 n1 [1] _ wA rfl hn1 (by have := HU1.out; unfold bytesI at this; omega) (HR1.out.below hbA) (rd_len ho1))
  have HB2 := Lib.hid (HB1.out.trans (hbA.mono HB1.out.size))
  clear ho1 hbA hn1 d1
  go_wp2_with fail
  refine (HJ.out).mono ?_
  rintro e wC ⟨a3, k3, n3, hn3, rfl, ho3, hbC⟩
  have HO3 := Lib.hid (ownsRow_base ho3 HB2.out.size)
  have HB3 := Lib.hid (HB2.out.trans (hbC.mono HB2.out.size))
  have HN3 := Lib.hid hn3
  clear ho3 hbC hn3
  go_wp2_with fail
  go_ret
  exact ⟨a3, k3, n3, HN3.out, rfl, HO3.out, HB3.out⟩
end Go.Proofs.YtfglgpbjjpoimaaGreatDoor
