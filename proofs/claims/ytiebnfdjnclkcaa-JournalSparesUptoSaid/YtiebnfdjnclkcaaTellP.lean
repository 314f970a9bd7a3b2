/- Plain facts: a log that is cut, and a log with one bad byte. No program in sight. -/
import Derived.Test.YtiebnfdjnclkcaaWritP
set_option linter.unusedVariables false
namespace Go.Proofs.Ytiebnfdjnclkcaa
open Go.RowKit

theorem inv255_inv (x : UInt8) : inv255 (inv255 x) = x := by
  apply UInt8.toNat_inj.1
  have := x.toNat_lt
  rw [inv255_toNat, inv255_toNat]; omega
theorem map_inv_inj {l m : List UInt8} (h : l.map inv255 = m.map inv255) : l = m := by
  have := congrArg (List.map inv255) h
  simpa [List.map_map, Function.comp_def, inv255_inv] using this
theorem set_ne {l : List UInt8} {j : Nat} {y : UInt8} (hj : j < l.length) (h : l[j] ≠ y) : l.set j y ≠ l := by
  intro he
  apply h
  have h1 : (l.set j y)[j]'(by simpa using hj) = y := by simp
  have h2 : (l.set j y)[j]? = l[j]? := by rw [he]
  rw [List.getElem?_eq_getElem (by simpa using hj), List.getElem?_eq_getElem hj, h1] at h2
  exact (Option.some.inj h2).symm

theorem rec_parts {A L V F R rest r' rest' : List UInt8} (hA : A.length = 1) (hL : L.length = 8) (hV : V.length = 8) (hF : F.length = 8)
    (h : A ++ (L ++ (V ++ (F ++ (R ++ rest)))) = recB r' ++ rest') :
    A = [74] ∧ L = be8 r'.length ∧ V = (be8 r'.length).map inv255 ∧ F = be8 (fnv r').toNat ∧ R ++ rest = r' ++ rest' := by
  have e : recB r' ++ rest' = [74] ++ (be8 r'.length ++ ((be8 r'.length).map inv255 ++ (be8 (fnv r').toNat ++ (r' ++ rest')))) := by simp [recB, headB]
  rw [e] at h
  obtain ⟨h1, h⟩ := List.append_inj h (by rw [hA]; rfl)
  obtain ⟨h2, h⟩ := List.append_inj h (by rw [hL, be8_len])
  obtain ⟨h3, h⟩ := List.append_inj h (by rw [hV, List.length_map, be8_len])
  obtain ⟨h4, h⟩ := List.append_inj h (by rw [hF, be8_len])
  exact ⟨h1, h2, h3, h4, h⟩

/-- One bad byte in a record: it does not stand. -/
theorem standB_bad (r rest : List UInt8) (j : Nat) (y : UInt8) (hr : r.length < big) (hj : j < (recB r).length) (hy : (recB r)[j] ≠ y) (hrest : r.length + rest.length < big) :
    standB ((recB r).set j y ++ rest) = none := by
  cases hs : standB ((recB r).set j y ++ rest) with
  | none => rfl
  | some r' =>
    exfalso
    obtain ⟨h0, rest', he⟩ := standB_some hs
    have hset := set_ne hj hy
    have e : recB r = [74] ++ (be8 r.length ++ ((be8 r.length).map inv255 ++ (be8 (fnv r).toNat ++ r))) := by simp [recB, headB]
    have hlen' : r'.length < big := by
      have h3 := congrArg List.length he
      simp only [List.length_append, List.length_set, recB_len] at h3
      omega
    have hf1 : (fnv r).toNat < 18446744073709551616 := (fnv r).isLt
    have hf2 : (fnv r').toNat < 18446744073709551616 := (fnv r').isLt
    have l1 : (be8 r.length).length = 8 := be8_len _
    have l2 : ((be8 r.length).map inv255).length = 8 := by rw [List.length_map, be8_len]
    have l3 : (be8 (fnv r).toNat).length = 8 := be8_len _
    obtain ⟨N, hN⟩ : ∃ N, N = be8 r.length := ⟨_, rfl⟩
    obtain ⟨V, hV⟩ : ∃ V, V = (be8 r.length).map inv255 := ⟨_, rfl⟩
    obtain ⟨F, hF⟩ : ∃ F, F = be8 (fnv r).toNat := ⟨_, rfl⟩
    rw [← hN] at l1
    rw [← hV] at l2
    rw [← hF] at l3
    have hjl : j < 25 + r.length := by rw [recB_len] at hj; exact hj
    rw [← hV, ← hN, ← hF] at e
    have hsame : ∀ L', L' = be8 r'.length → L' = N → r.length = r'.length := fun L' h1 h2 => be8_inj hr hlen' (by rw [← hN, ← h1, h2])
    by_cases c1 : j < 1
    · have es : (recB r).set j y = [74].set j y ++ (N ++ (V ++ (F ++ r))) := by rw [e, List.set_append_left _ _ (by simpa using c1)]
      rw [es] at he hset
      simp only [List.append_assoc] at he
      obtain ⟨h1, h2, h3, h4, h5⟩ := rec_parts (by simp) l1 l2 l3 he
      exact hset (by rw [h1, e])
    · by_cases c2 : j < 9
      · have es : (recB r).set j y = [74] ++ (N.set (j - 1) y ++ (V ++ (F ++ r))) := by
          rw [e, List.set_append_right _ _ (by simp; omega), List.set_append_left _ _ (by rw [l1]; simp; omega)]; rfl
        rw [es] at he hset
        simp only [List.append_assoc] at he
        obtain ⟨h1, h2, h3, h4, h5⟩ := rec_parts rfl (by simpa using l1) l2 l3 he
        have : N = be8 r'.length := by rw [hN]; exact map_inv_inj (by rw [← hV, h3])
        exact hset (by rw [h2, ← this, e])
      · by_cases c3 : j < 17
        · have es : (recB r).set j y = [74] ++ (N ++ (V.set (j - 1 - 8) y ++ (F ++ r))) := by
            rw [e, List.set_append_right _ _ (by simp; omega), List.set_append_right _ _ (by rw [l1]; simp; omega), List.set_append_left _ _ (by rw [l1, l2]; simp; omega), l1]; rfl
          rw [es] at he hset
          simp only [List.append_assoc] at he
          obtain ⟨h1, h2, h3, h4, h5⟩ := rec_parts rfl l1 (by simpa using l2) l3 he
          exact hset (by rw [h3, ← h2, e, hV, hN])
        · by_cases c4 : j < 25
          · have es : (recB r).set j y = [74] ++ (N ++ (V ++ (F.set (j - 1 - 8 - 8) y ++ r))) := by
              rw [e, List.set_append_right _ _ (by simp; omega), List.set_append_right _ _ (by rw [l1]; simp; omega), List.set_append_right _ _ (by rw [l1, l2]; simp; omega),
                List.set_append_left _ _ (by rw [l1, l2, l3]; simp; omega), l1, l2]; rfl
            rw [es] at he hset
            simp only [List.append_assoc] at he
            obtain ⟨h1, h2, h3, h4, h5⟩ := rec_parts rfl l1 l2 (by simpa using l3) he
            have hm := hsame N h2 rfl
            obtain ⟨h6, _⟩ := List.append_inj h5 hm
            exact hset (by rw [h4, ← h6, e, hF])
          · have es : (recB r).set j y = [74] ++ (N ++ (V ++ (F ++ r.set (j - 25) y))) := by
              rw [e, List.set_append_right _ _ (by simp; omega), List.set_append_right _ _ (by rw [l1]; simp; omega), List.set_append_right _ _ (by rw [l1, l2]; simp; omega),
                List.set_append_right _ _ (by rw [l1, l2, l3]; simp; omega), l1, l2, l3]
              simp only [List.length_cons, List.length_nil, Nat.sub_sub]
            have hgt : (recB r)[j] = r[j - 25]'(by omega) := by
              have : (recB r)[j]? = r[j - 25]? := by
                rw [recB, List.getElem?_append_right (by rw [headB_len]; omega), headB_len]
              rw [List.getElem?_eq_getElem hj, List.getElem?_eq_getElem (by omega)] at this
              exact Option.some.inj this
            rw [es] at he
            simp only [List.append_assoc] at he
            obtain ⟨h1, h2, h3, h4, h5⟩ := rec_parts rfl l1 l2 l3 he
            have hm := hsame N h2 rfl
            obtain ⟨h6, _⟩ := List.append_inj h5 (by rw [List.length_set]; exact hm)
            have h7 : be8 (fnv r).toNat = be8 (fnv r').toNat := by rw [← hF, h4]
            have h8 := be8_inj hf1 hf2 h7
            exact fnv_set r (j - 25) (by omega) y (by rw [← hgt]; exact hy) (by rw [h6]; exact BitVec.eq_of_toNat_eq h8.symm)

/-- A record that is cut does not stand. -/
theorem standB_cut (r p : List UInt8) (h0 : r ≠ []) (hr : r.length < big) (n : Nat) (hn : n < (recB r).length) (hp : p = (recB r).take n) : standB p = none := by
  cases hs : standB p with
  | none => rfl
  | some r' =>
    exfalso
    obtain ⟨h0', rest', he⟩ := standB_some hs
    have e : recB r ++ [] = recB r' ++ (rest' ++ (recB r).drop n) := by
      rw [← List.append_assoc, ← he, hp, List.append_nil, List.take_append_drop]
    have hl := congrArg List.length he
    rw [hp, List.length_take, List.length_append, recB_len] at hl
    have hrl := recB_len r
    have hrl' := recB_len r'
    have hb : r'.length < big := by omega
    have h1 := standB_rec r [] h0 hr
    rw [e, standB_rec r' _ h0' hb] at h1
    have h2 := Option.some.inj h1
    subst h2
    omega

theorem logOf_split (ks : List (List UInt8)) (n : Nat) (h : n < ks.length) : logOf ks = logOf (ks.take n) ++ (recB ks[n] ++ logOf (ks.drop (n + 1))) := by
  conv => lhs; rw [← List.take_append_drop n ks, List.drop_eq_getElem_cons h, logOf_append, logOf_cons]
theorem logOf_upto (ks : List (List UInt8)) (n : Nat) (h : n < ks.length) : (logOf (ks.take (n + 1))).length = (logOf (ks.take n)).length + (recB ks[n]).length := by
  rw [take_snoc ks n h, logOf_snoc, List.length_append]
theorem ends_le {ks : List (List UInt8)} {j : Int} (h0 : 0 ≤ j) : ((logOf (ks.take (wholeN (endsOf ks) j))).length : Int) ≤ j := by
  obtain ⟨h1, _⟩ := wholeN_spec (endsOf ks) j
  have hle := wholeN_le (endsOf ks) j
  rw [endsOf_len] at hle
  by_cases hz : wholeN (endsOf ks) j = 0
  · rw [hz]; simpa [logOf] using h0
  · obtain ⟨m, hm⟩ : ∃ m, wholeN (endsOf ks) j = m + 1 := ⟨wholeN (endsOf ks) j - 1, by omega⟩
    have := h1 m (by rw [endsOf_len]; omega) (by omega)
    rw [endsOf_get ks m (by omega)] at this
    rw [hm]; exact this
theorem ends_gt {ks : List (List UInt8)} {j : Int} (h : wholeN (endsOf ks) j < ks.length) : j < ((logOf (ks.take (wholeN (endsOf ks) j + 1))).length : Int) := by
  obtain ⟨_, h2⟩ := wholeN_spec (endsOf ks) j
  have := h2 (by rw [endsOf_len]; exact h)
  rw [endsOf_get ks _ h] at this
  exact this

/-- What a cut log has. -/
theorem scan_cut (ks : List (List UInt8)) (hne : ∀ r ∈ ks, r ≠ []) (hb : (logOf ks).length < big) (j : Nat) (hj : j ≤ (logOf ks).length) :
    ScanIs ((logOf ks).take j) (ks.take (wholeN (endsOf ks) j)) (upToN ks (wholeN (endsOf ks) j)) := by
  have hle := wholeN_le (endsOf ks) (j : Int)
  rw [endsOf_len] at hle
  have h1 := ends_le (ks := ks) (j := (j : Int)) (by omega)
  obtain ⟨n, hn⟩ : ∃ n, n = wholeN (endsOf ks) (j : Int) := ⟨_, rfl⟩
  have h2 : n < ks.length → (j : Int) < ((logOf (ks.take (n + 1))).length : Int) := fun h => by rw [hn] at h ⊢; exact ends_gt h
  rw [← hn] at h1 hle ⊢
  by_cases hlt : n < ks.length
  · have h3 := h2 hlt
    rw [logOf_upto ks n hlt] at h3
    refine ⟨rfl, (recB ks[n]).take (j - (logOf (ks.take n)).length), ?_, fun r hr => hne r (List.mem_of_mem_take hr), ?_⟩
    · rw [logOf_split ks n hlt, List.take_append, List.take_of_length_le (by omega)]
      congr 1
      rw [List.take_append_of_le_length (by omega)]
    · have hm := logOf_mem_len (List.getElem_mem hlt)
      exact standB_cut ks[n] _ (hne _ (List.getElem_mem hlt)) (by omega) _ (by omega) rfl
  · have e : ks.take n = ks := List.take_of_length_le (by omega)
    rw [e] at h1
    refine ⟨rfl, [], ?_, fun r hr => hne r (List.mem_of_mem_take hr), standB_short [] (by simp)⟩
    rw [e, List.append_nil, List.take_of_length_le (by omega)]

/-- What a log with one bad byte has. -/
theorem scan_bad (ks : List (List UInt8)) (hne : ∀ r ∈ ks, r ≠ []) (hb : (logOf ks).length < big) (j : Nat) (hj : j < (logOf ks).length) (y : UInt8) (hy : (logOf ks)[j] ≠ y) :
    ScanIs ((logOf ks).set j y) (ks.take (wholeN (endsOf ks) j)) (upToN ks (wholeN (endsOf ks) j)) := by
  have hle := wholeN_le (endsOf ks) (j : Int)
  rw [endsOf_len] at hle
  have h1 := ends_le (ks := ks) (j := (j : Int)) (by omega)
  obtain ⟨n, hn⟩ : ∃ n, n = wholeN (endsOf ks) (j : Int) := ⟨_, rfl⟩
  have h2 : n < ks.length → (j : Int) < ((logOf (ks.take (n + 1))).length : Int) := fun h => by rw [hn] at h ⊢; exact ends_gt h
  rw [← hn] at h1 hle ⊢
  by_cases hlt : n < ks.length
  · have h3 := h2 hlt
    rw [logOf_upto ks n hlt] at h3
    have hsp := logOf_split ks n hlt
    have hll := congrArg List.length hsp
    rw [List.length_append, List.length_append] at hll
    have hi : j - (logOf (ks.take n)).length < (recB ks[n]).length := by omega
    have hyy : (recB ks[n])[j - (logOf (ks.take n)).length] ≠ y := by
      have h4 : (logOf ks)[j]? = (recB ks[n])[j - (logOf (ks.take n)).length]? := by
        rw [hsp, List.getElem?_append_right (by omega), List.getElem?_append_left hi]
      rw [List.getElem?_eq_getElem hj, List.getElem?_eq_getElem hi] at h4
      rw [← Option.some.inj h4]; exact hy
    have hrl := recB_len ks[n]
    refine ⟨rfl, (recB ks[n]).set (j - (logOf (ks.take n)).length) y ++ logOf (ks.drop (n + 1)), ?_, fun r hr => hne r (List.mem_of_mem_take hr), standB_bad _ _ _ _ (by omega) hi hyy (by omega)⟩
    conv => lhs; rw [hsp]
    rw [List.set_append_right _ _ (by omega), List.set_append_left _ _ hi]
  · have e : ks.take n = ks := List.take_of_length_le (by omega)
    rw [e] at h1
    omega
#print axioms scan_cut
#print axioms scan_bad
end Go.Proofs.Ytiebnfdjnclkcaa
