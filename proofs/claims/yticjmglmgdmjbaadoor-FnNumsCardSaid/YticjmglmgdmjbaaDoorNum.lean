/- Numerals: no program here. -/
import Derived.Lib.ItoaLen
import Derived.Lib.AtoiAllCases
namespace Go.Proofs.YticjmglmgdmjbaaDoor
open Go.Lib
/-- The digits of u, none of 0. -/
def digs (u : Nat) : List UInt8 := if u = 0 then [] else decDigits u
theorem digs_zero : digs 0 = [] := rfl
theorem digs_pos {u : Nat} (h : u ≠ 0) : digs u = decDigits u := by simp [digs, h]
theorem digs_step {u : Nat} (h : u ≠ 0) : digs u = digs (u / 10) ++ [UInt8.ofNat (48 + u % 10)] := by
  rw [digs_pos h, decDigits]
  split
  · rename_i h10
    have : u / 10 = 0 := by omega
    rw [this, digs_zero, List.nil_append, Nat.mod_eq_of_lt h10]
  · rw [digs_pos (by omega)]
theorem digs_length {u : Nat} (h : u < 18446744073709551616) : (digs u).length ≤ 20 := by
  unfold digs
  split
  · simp
  · rw [decDigits_length]; exact nDigits_le20 u h

/-! ### numbers of up to four digits -/
def isDig (c : UInt8) : Bool := decide (48 ≤ c.toNat) && decide (c.toNat ≤ 57)
def digStep (a : Nat) (c : UInt8) : Nat := a * 10 + (c.toNat - 48)
def valOf (acc : Nat) (l : List UInt8) : Nat := l.foldl digStep acc
def pn (l : List UInt8) : Option Nat :=
  if l.length = 0 ∨ 4 < l.length ∨ (1 < l.length ∧ l.headD 0 = 48) ∨ l.all isDig = false then none else some (valOf 0 l)
theorem valOf_nil (acc : Nat) : valOf acc [] = acc := rfl
theorem valOf_cons (acc : Nat) (c : UInt8) (r : List UInt8) : valOf acc (c :: r) = valOf (acc * 10 + (c.toNat - 48)) r := by unfold valOf; rw [List.foldl_cons]; rfl
theorem valOf_snoc (c : UInt8) (l : List UInt8) (acc : Nat) : valOf acc (l ++ [c]) = valOf acc l * 10 + (c.toNat - 48) := by unfold valOf; rw [List.foldl_append, List.foldl_cons, List.foldl_nil]; rfl
theorem isDig_of {c : UInt8} (h : isDig c = true) : 48 ≤ c.toNat ∧ c.toNat ≤ 57 := by simpa [isDig] using h
theorem dig_back {c : UInt8} (h : isDig c = true) : UInt8.ofNat (48 + (c.toNat - 48)) = c := by
  obtain ⟨h1, h2⟩ := isDig_of h
  rw [show 48 + (c.toNat - 48) = c.toNat from by omega]
  simp
theorem dig_nat {d : Nat} (h : d < 10) : (UInt8.ofNat (48 + d)).toNat = 48 + d := by simp; omega
theorem isDig_mk {d : Nat} (h : d < 10) : isDig (UInt8.ofNat (48 + d)) = true := by unfold isDig; rw [dig_nat h]; simp; omega
theorem dec_facts (u : Nat) : (decDigits u).all isDig = true ∧ valOf 0 (decDigits u) = u ∧ decDigits u ≠ [] ∧ (1 ≤ u → (decDigits u).headD 0 ≠ 48) := by
  induction u using Nat.strongRecOn with
  | _ u ih =>
    rw [decDigits]
    split
    · rename_i h10
      have hd := dig_nat h10
      have hi := isDig_mk h10
      generalize UInt8.ofNat (48 + u) = c at hd hi ⊢
      clear ih
      have e : valOf 0 [c] = 0 * 10 + (c.toNat - 48) := by rw [valOf_cons, valOf_nil]
      have e2 : valOf 0 [c] = u := by rw [e, hd]; omega
      refine ⟨by simp only [List.all_cons, List.all_nil, hi, Bool.and_true], e2, by simp, fun h1 e => ?_⟩
      have e' : c = 48 := e
      have e3 : c.toNat = 48 := by rw [e']; rfl
      omega
    · rename_i h10
      obtain ⟨i1, i2, i3, i4⟩ := ih (u / 10) (by omega)
      have hd : u % 10 < 10 := by omega
      refine ⟨by simp only [List.all_append, i1, List.all_cons, List.all_nil, isDig_mk hd, Bool.and_true], by rw [valOf_snoc, i2, dig_nat hd]; omega, by simp, fun h1 => ?_⟩
      cases hl : decDigits (u / 10) with
      | nil => exact absurd hl i3
      | cons c r =>
        have := i4 (by omega)
        rw [hl] at this
        simpa using this
theorem dec_back (l : List UInt8) : l ≠ [] → l.all isDig = true → (l.length = 1 ∨ l.headD 0 ≠ 48) → decDigits (valOf 0 l) = l ∧ (l.headD 0 ≠ 48 → 1 ≤ valOf 0 l) := by
  induction hn : l.length generalizing l with
  | zero => intro h; exact absurd (List.length_eq_zero_iff.1 hn) h
  | succ n ih =>
    intro hne ha hh
    obtain ⟨l', c, rfl⟩ : ∃ l' c, l = l' ++ [c] := ⟨l.dropLast, l.getLast hne, (List.dropLast_concat_getLast hne).symm⟩
    simp only [List.all_append, List.all_cons, List.all_nil, Bool.and_true, Bool.and_eq_true] at ha
    obtain ⟨hc1, hc2⟩ := isDig_of ha.2
    rw [valOf_snoc]
    by_cases he : l' = []
    · subst he
      rw [valOf_nil, List.nil_append, Nat.zero_mul, Nat.zero_add]
      clear ih
      refine ⟨by rw [decDigits, dif_pos (by omega), dig_back ha.2], fun h => ?_⟩
      simp only [List.headD_cons] at h
      rcases Nat.eq_or_lt_of_le hc1 with e | e
      · exact absurd (UInt8.toNat_inj.1 e.symm) h
      · omega
    · have hn' : l'.length = n := by simpa using hn
      have hhd : (l' ++ [c]).headD 0 = l'.headD 0 := by
        cases l' with
        | nil => exact absurd rfl he
        | cons x y => rfl
      have h48 : l'.headD 0 ≠ 48 := by
        rcases hh with h | h
        · have : l'.length ≠ 0 := fun e => he (List.length_eq_zero_iff.1 e)
          omega
        · rwa [hhd] at h
      obtain ⟨j1, j2⟩ := ih l' hn' he ha.1 (.inr h48)
      have h1 := j2 h48
      refine ⟨?_, fun _ => by omega⟩
      rw [decDigits, dif_neg (by omega), show (valOf 0 l' * 10 + (c.toNat - 48)) / 10 = valOf 0 l' from by omega, show (valOf 0 l' * 10 + (c.toNat - 48)) % 10 = c.toNat - 48 from by omega, j1, dig_back ha.2]
theorem nDigits_le4 {u : Nat} (h : nDigits u ≤ 4) : u ≤ 9999 := by
  have := lt_pow_nDigits u
  have h2 : 10 ^ nDigits u ≤ 10 ^ 4 := Nat.pow_le_pow_right (by omega) h
  omega
theorem nDigits_of4 {u : Nat} (h : u ≤ 9999) : nDigits u ≤ 4 := by
  rcases Nat.lt_or_ge 4 (nDigits u) with h4 | h4
  · rw [nDigits] at h4
    split at h4
    · omega
    · rw [nDigits] at h4
      split at h4
      · omega
      · rw [nDigits] at h4
        split at h4
        · omega
        · rw [nDigits_small (by omega)] at h4
          omega
  · exact h4
/-- What is read is just what is a numeral of 0 .. 9999. -/
theorem pn_iff (l : List UInt8) (v : Nat) : pn l = some v ↔ v ≤ 9999 ∧ decDigits v = l := by
  constructor
  · intro h
    unfold pn at h
    split at h
    · cases h
    · rename_i hc
      simp only [not_or, not_and] at hc
      obtain ⟨h1, h2, h3, h4⟩ := hc
      injection h with h
      obtain ⟨j1, _⟩ := dec_back l (fun e => h1 (by rw [e]; rfl)) (by simpa using h4) (by
        rcases Nat.lt_or_ge 1 l.length with hl | hl
        · exact .inr (h3 hl)
        · exact .inl (by omega))
      rw [h] at j1
      refine ⟨nDigits_le4 ?_, j1⟩
      rw [← decDigits_length, j1]; omega
  · rintro ⟨h1, rfl⟩
    obtain ⟨i1, i2, i3, i4⟩ := dec_facts v
    have hl : (decDigits v).length ≤ 4 := by rw [decDigits_length]; exact nDigits_of4 h1
    unfold pn
    rw [if_neg, i2]
    simp only [not_or, not_and]
    refine ⟨fun e => i3 (List.length_eq_zero_iff.1 e), by omega, fun h => i4 ?_, by simp [i1]⟩
    rcases Nat.eq_zero_or_pos v with rfl | hv
    · rw [decDigits_length, nDigits_small (by omega)] at h; omega
    · exact hv
theorem parse_dec (l : List UInt8) : ∀ (acc : Nat), l.all isDig = true → valOf acc l < 10000 → parseUint10 acc l = .ok (valOf acc l) := by
  induction l with
  | nil => intro acc _ _; rfl
  | cons c r ih =>
    intro acc ha hv
    simp only [List.all_cons, Bool.and_eq_true] at ha
    obtain ⟨h1, h2⟩ := isDig_of ha.1
    have hge : ∀ (l : List UInt8) (a : Nat), a ≤ valOf a l := by
      intro l
      induction l with
      | nil => intro a; exact Nat.le_refl _
      | cons x y ih2 => intro a; rw [valOf_cons]; exact Nat.le_trans (by omega) (ih2 _)
    have := hge r (acc * 10 + (c.toNat - 48))
    rw [valOf_cons] at hv ⊢
    rw [parseUint10, if_pos ⟨h1, h2⟩, if_neg (by omega), if_neg (by omega)]
    exact ih _ ha.2 hv
theorem atoi_dec {v : Nat} (h : v ≤ 9999) : atoiAll (decDigits v) = .ok (v : Int) := by
  obtain ⟨i1, i2, i3, _⟩ := dec_facts v
  cases hl : decDigits v with
  | nil => exact absurd hl i3
  | cons c r =>
    rw [hl] at i1 i2
    have hp := parse_dec (c :: r) 0 i1 (by omega)
    simp only [List.all_cons, Bool.and_eq_true] at i1
    obtain ⟨h1, h2⟩ := isDig_of i1.1
    unfold atoiAll
    simp only
    rw [if_neg (by omega)]
    have hm : parseMag (c :: r) = .ok v := by unfold parseMag; rw [if_neg (by simp), hp, i2]
    rw [hm]
    simp only
    rw [if_neg (by omega), if_neg (by omega), if_neg (by omega)]
theorem pn_atoi_ok {l : List UInt8} {v : Int} (h : atoiAll l = .ok v) : pn l = if 0 ≤ v ∧ v ≤ 9999 ∧ itoa v = l then some v.toNat else none := by
  split
  · rename_i hc
    obtain ⟨h0, h1, h2⟩ := hc
    rw [pn_iff]
    refine ⟨by omega, ?_⟩
    unfold itoa at h2
    rwa [if_neg (by omega)] at h2
  · rename_i hc
    cases hp : pn l with
    | none => rfl
    | some u =>
      obtain ⟨h1, rfl⟩ := (pn_iff l u).1 hp
      rw [atoi_dec h1] at h
      injection h with h
      subst h
      exact absurd ⟨by omega, by omega, by unfold itoa; rw [if_neg (by omega), Int.toNat_natCast]⟩ hc
theorem pn_atoi_no {l : List UInt8} (h : ∀ v, atoiAll l ≠ .ok v) : pn l = none := by
  cases hp : pn l with
  | none => rfl
  | some u =>
    obtain ⟨h1, rfl⟩ := (pn_iff l u).1 hp
    exact absurd (atoi_dec h1) (h _)
/-- A numeral read back. -/
theorem pn_itoa (n : Int) : pn (itoa n) = if 0 ≤ n ∧ n ≤ 9999 then some n.toNat else none := by
  split
  · rename_i h
    rw [pn_iff]
    refine ⟨by omega, ?_⟩
    unfold itoa
    rw [if_neg (by omega)]
  · rename_i h
    cases hp : pn (itoa n) with
    | none => rfl
    | some u =>
      obtain ⟨h1, h2⟩ := (pn_iff _ u).1 hp
      have hv := (dec_facts u).2.1
      by_cases hn : n < 0
      · have hd := (dec_facts u).1
        rw [h2] at hd
        unfold itoa at hd
        rw [if_pos hn] at hd
        simp [isDig] at hd
      · have h3 := (dec_facts n.toNat).2.1
        unfold itoa at h2
        rw [if_neg hn] at h2
        rw [h2, h3] at hv
        omega
theorem valOf_lt (l : List UInt8) : ∀ acc, l.all isDig = true → valOf acc l < (acc + 1) * 10 ^ l.length := by
  induction l with
  | nil => intro acc _; rw [valOf_nil]; simp
  | cons c r ih =>
    intro acc h
    simp only [List.all_cons, Bool.and_eq_true] at h
    obtain ⟨h1, h2⟩ := isDig_of h.1
    rw [valOf_cons, List.length_cons, Nat.pow_succ, Nat.mul_comm (10 ^ r.length), ← Nat.mul_assoc]
    exact Nat.lt_of_lt_of_le (ih _ h.2) (Nat.mul_le_mul_right _ (by omega))
theorem pn_none_dig {l : List UInt8} {c : UInt8} (hc : c ∈ l) (h : isDig c = false) : pn l = none := by
  unfold pn
  rw [if_pos (.inr (.inr (.inr (by rw [List.all_eq_false]; exact ⟨c, hc, by simp [h]⟩))))]
end Go.Proofs.YticjmglmgdmjbaaDoor
