/- Numerals: no program here. A tree's rows, in plain Lean. The reference's NumText. The reference's rows of a node. The program's rowText. -/
import Derived.Lib.ItoaLen
import Derived.Lib.AtoiAllCases
import Derived.Test.YtdggfnpioljcbaaGreatDoorFitA
import Derived.Test.YtdggfnpioljcbaaGreatDoorWrite
import Derived.Laws.BytesArg
namespace Go.Proofs.YtdggfnpioljcbaaGreatDoor
open Go.Lib
/-- The digits of u, none of 0. -/
def digs (u : Nat) : List UInt8 := if u = 0 then [] else decDigits u
theorem digs_zero : digs 0 = [] := rfl
theorem digs_pos {u : Nat} (h : u ≠ 0) : digs u = decDigits u := by simp [digs, h]
theorem digs_step {u : Nat} (h : u ≠ 0) : digs u = digs (u / 10) ++ [UInt8.ofNat (48 + u % 10)] := by
  rw [digs_pos h, decDigits]
  split
  · rename_i h10
    have : u / 10 = 0 := by omega
    rw [this, digs_zero, List.nil_append, Nat.mod_eq_of_lt h10]
  · rw [digs_pos (by omega)]
theorem digs_length {u : Nat} (h : u < 18446744073709551616) : (digs u).length ≤ 20 := by
  unfold digs
  split
  · simp
  · rw [decDigits_length]; exact nDigits_le20 u h

/-! ### numbers of up to four digits -/
def isDig (c : UInt8) : Bool := decide (48 ≤ c.toNat) && decide (c.toNat ≤ 57)
def digStep (a : Nat) (c : UInt8) : Nat := a * 10 + (c.toNat - 48)
def valOf (acc : Nat) (l : List UInt8) : Nat := l.foldl digStep acc
def pn (l : List UInt8) : Option Nat :=
  if l.length = 0 ∨ 4 < l.length ∨ (1 < l.length ∧ l.headD 0 = 48) ∨ l.all isDig = false then none else some (valOf 0 l)
theorem valOf_nil (acc : Nat) : valOf acc [] = acc := rfl
theorem valOf_cons (acc : Nat) (c : UInt8) (r : List UInt8) : valOf acc (c :: r) = valOf (acc * 10 + (c.toNat - 48)) r := by unfold valOf; rw [List.foldl_cons]; rfl
theorem valOf_snoc (c : UInt8) (l : List UInt8) (acc : Nat) : valOf acc (l ++ [c]) = valOf acc l * 10 + (c.toNat - 48) := by unfold valOf; rw [List.foldl_append, List.foldl_cons, List.foldl_nil]; rfl
theorem isDig_of {c : UInt8} (h : isDig c = true) : 48 ≤ c.toNat ∧ c.toNat ≤ 57 := by simpa [isDig] using h
theorem dig_back {c : UInt8} (h : isDig c = true) : UInt8.ofNat (48 + (c.toNat - 48)) = c := by
  obtain ⟨h1, h2⟩ := isDig_of h
  rw [show 48 + (c.toNat - 48) = c.toNat from by omega]
  simp
theorem dig_nat {d : Nat} (h : d < 10) : (UInt8.ofNat (48 + d)).toNat = 48 + d := by simp; omega
theorem isDig_mk {d : Nat} (h : d < 10) : isDig (UInt8.ofNat (48 + d)) = true := by unfold isDig; rw [dig_nat h]; simp; omega
theorem dec_facts (u : Nat) : (decDigits u).all isDig = true ∧ valOf 0 (decDigits u) = u ∧ decDigits u ≠ [] ∧ (1 ≤ u → (decDigits u).headD 0 ≠ 48) := by
  induction u using Nat.strongRecOn with
  | _ u ih =>
    rw [decDigits]
    split
    · rename_i h10
      have hd := dig_nat h10
      have hi := isDig_mk h10
      generalize UInt8.ofNat (48 + u) = c at hd hi ⊢
      clear ih
      have e : valOf 0 [c] = 0 * 10 + (c.toNat - 48) := by rw [valOf_cons, valOf_nil]
      have e2 : valOf 0 [c] = u := by rw [e, hd]; omega
      refine ⟨by simp only [List.all_cons, List.all_nil, hi, Bool.and_true], e2, by simp, fun h1 e => ?_⟩
      have e' : c = 48 := e
      have e3 : c.toNat = 48 := by rw [e']; rfl
      omega
    · rename_i h10
      obtain ⟨i1, i2, i3, i4⟩ := ih (u / 10) (by omega)
      have hd : u % 10 < 10 := by omega
      refine ⟨by simp only [List.all_append, i1, List.all_cons, List.all_nil, isDig_mk hd, Bool.and_true], by rw [valOf_snoc, i2, dig_nat hd]; omega, by simp, fun h1 => ?_⟩
      cases hl : decDigits (u / 10) with
      | nil => exact absurd hl i3
      | cons c r =>
        have := i4 (by omega)
        rw [hl] at this
        simpa using this
theorem dec_back (l : List UInt8) : l ≠ [] → l.all isDig = true → (l.length = 1 ∨ l.headD 0 ≠ 48) → decDigits (valOf 0 l) = l ∧ (l.headD 0 ≠ 48 → 1 ≤ valOf 0 l) := by
  induction hn : l.length generalizing l with
  | zero => intro h; exact absurd (List.length_eq_zero_iff.1 hn) h
  | succ n ih =>
    intro hne ha hh
    obtain ⟨l', c, rfl⟩ : ∃ l' c, l = l' ++ [c] := ⟨l.dropLast, l.getLast hne, (List.dropLast_concat_getLast hne).symm⟩
    simp only [List.all_append, List.all_cons, List.all_nil, Bool.and_true, Bool.and_eq_true] at ha
    obtain ⟨hc1, hc2⟩ := isDig_of ha.2
    rw [valOf_snoc]
    by_cases he : l' = []
    · subst he
      rw [valOf_nil, List.nil_append, Nat.zero_mul, Nat.zero_add]
      clear ih
      refine ⟨by rw [decDigits, dif_pos (by omega), dig_back ha.2], fun h => ?_⟩
      simp only [List.headD_cons] at h
      rcases Nat.eq_or_lt_of_le hc1 with e | e
      · exact absurd (UInt8.toNat_inj.1 e.symm) h
      · omega
    · have hn' : l'.length = n := by simpa using hn
      have hhd : (l' ++ [c]).headD 0 = l'.headD 0 := by
        cases l' with
        | nil => exact absurd rfl he
        | cons x y => rfl
      have h48 : l'.headD 0 ≠ 48 := by
        rcases hh with h | h
        · have : l'.length ≠ 0 := fun e => he (List.length_eq_zero_iff.1 e)
          omega
        · rwa [hhd] at h
      obtain ⟨j1, j2⟩ := ih l' hn' he ha.1 (.inr h48)
      have h1 := j2 h48
      refine ⟨?_, fun _ => by omega⟩
      rw [decDigits, dif_neg (by omega), show (valOf 0 l' * 10 + (c.toNat - 48)) / 10 = valOf 0 l' from by omega, show (valOf 0 l' * 10 + (c.toNat - 48)) % 10 = c.toNat - 48 from by omega, j1, dig_back ha.2]
theorem nDigits_le4 {u : Nat} (h : nDigits u ≤ 4) : u ≤ 9999 := by
  have := lt_pow_nDigits u
  have h2 : 10 ^ nDigits u ≤ 10 ^ 4 := Nat.pow_le_pow_right (by omega) h
  omega
theorem nDigits_of4 {u : Nat} (h : u ≤ 9999) : nDigits u ≤ 4 := by
  rcases Nat.lt_or_ge 4 (nDigits u) with h4 | h4
  · rw [nDigits] at h4
    split at h4
    · omega
    · rw [nDigits] at h4
      split at h4
      · omega
      · rw [nDigits] at h4
        split at h4
        · omega
        · rw [nDigits_small (by omega)] at h4
          omega
  · exact h4
/-- What is read is just what is a numeral of 0 .. 9999. -/
theorem pn_iff (l : List UInt8) (v : Nat) : pn l = some v ↔ v ≤ 9999 ∧ decDigits v = l := by
  constructor
  · intro h
    unfold pn at h
    split at h
    · cases h
    · rename_i hc
      simp only [not_or, not_and] at hc
      obtain ⟨h1, h2, h3, h4⟩ := hc
      injection h with h
      obtain ⟨j1, _⟩ := dec_back l (fun e => h1 (by rw [e]; rfl)) (by simpa using h4) (by
        rcases Nat.lt_or_ge 1 l.length with hl | hl
        · exact .inr (h3 hl)
        · exact .inl (by omega))
      rw [h] at j1
      refine ⟨nDigits_le4 ?_, j1⟩
      rw [← decDigits_length, j1]; omega
  · rintro ⟨h1, rfl⟩
    obtain ⟨i1, i2, i3, i4⟩ := dec_facts v
    have hl : (decDigits v).length ≤ 4 := by rw [decDigits_length]; exact nDigits_of4 h1
    unfold pn
    rw [if_neg, i2]
    simp only [not_or, not_and]
    refine ⟨fun e => i3 (List.length_eq_zero_iff.1 e), by omega, fun h => i4 ?_, by simp [i1]⟩
    rcases Nat.eq_zero_or_pos v with rfl | hv
    · rw [decDigits_length, nDigits_small (by omega)] at h; omega
    · exact hv
theorem parse_dec (l : List UInt8) : ∀ (acc : Nat), l.all isDig = true → valOf acc l < 10000 → parseUint10 acc l = .ok (valOf acc l) := by
  induction l with
  | nil => intro acc _ _; rfl
  | cons c r ih =>
    intro acc ha hv
    simp only [List.all_cons, Bool.and_eq_true] at ha
    obtain ⟨h1, h2⟩ := isDig_of ha.1
    have hge : ∀ (l : List UInt8) (a : Nat), a ≤ valOf a l := by
      intro l
      induction l with
      | nil => intro a; exact Nat.le_refl _
      | cons x y ih2 => intro a; rw [valOf_cons]; exact Nat.le_trans (by omega) (ih2 _)
    have := hge r (acc * 10 + (c.toNat - 48))
    rw [valOf_cons] at hv ⊢
    rw [parseUint10, if_pos ⟨h1, h2⟩, if_neg (by omega), if_neg (by omega)]
    exact ih _ ha.2 hv
theorem atoi_dec {v : Nat} (h : v ≤ 9999) : atoiAll (decDigits v) = .ok (v : Int) := by
  obtain ⟨i1, i2, i3, _⟩ := dec_facts v
  cases hl : decDigits v with
  | nil => exact absurd hl i3
  | cons c r =>
    rw [hl] at i1 i2
    have hp := parse_dec (c :: r) 0 i1 (by omega)
    simp only [List.all_cons, Bool.and_eq_true] at i1
    obtain ⟨h1, h2⟩ := isDig_of i1.1
    unfold atoiAll
    simp only
    rw [if_neg (by omega)]
    have hm : parseMag (c :: r) = .ok v := by unfold parseMag; rw [if_neg (by simp), hp, i2]
    rw [hm]
    simp only
    rw [if_neg (by omega), if_neg (by omega), if_neg (by omega)]
theorem pn_atoi_ok {l : List UInt8} {v : Int} (h : atoiAll l = .ok v) : pn l = if 0 ≤ v ∧ v ≤ 9999 ∧ itoa v = l then some v.toNat else none := by
  split
  · rename_i hc
    obtain ⟨h0, h1, h2⟩ := hc
    rw [pn_iff]
    refine ⟨by omega, ?_⟩
    unfold itoa at h2
    rwa [if_neg (by omega)] at h2
  · rename_i hc
    cases hp : pn l with
    | none => rfl
    | some u =>
      obtain ⟨h1, rfl⟩ := (pn_iff l u).1 hp
      rw [atoi_dec h1] at h
      injection h with h
      subst h
      exact absurd ⟨by omega, by omega, by unfold itoa; rw [if_neg (by omega), Int.toNat_natCast]⟩ hc
theorem pn_atoi_no {l : List UInt8} (h : ∀ v, atoiAll l ≠ .ok v) : pn l = none := by
  cases hp : pn l with
  | none => rfl
  | some u =>
    obtain ⟨h1, rfl⟩ := (pn_iff l u).1 hp
    exact absurd (atoi_dec h1) (h _)
/-- A numeral read back. -/
theorem pn_itoa (n : Int) : pn (itoa n) = if 0 ≤ n ∧ n ≤ 9999 then some n.toNat else none := by
  split
  · rename_i h
    rw [pn_iff]
    refine ⟨by omega, ?_⟩
    unfold itoa
    rw [if_neg (by omega)]
  · rename_i h
    cases hp : pn (itoa n) with
    | none => rfl
    | some u =>
      obtain ⟨h1, h2⟩ := (pn_iff _ u).1 hp
      have hv := (dec_facts u).2.1
      by_cases hn : n < 0
      · have hd := (dec_facts u).1
        rw [h2] at hd
        unfold itoa at hd
        rw [if_pos hn] at hd
        simp [isDig] at hd
      · have h3 := (dec_facts n.toNat).2.1
        unfold itoa at h2
        rw [if_neg hn] at h2
        rw [h2, h3] at hv
        omega
theorem valOf_lt (l : List UInt8) : ∀ acc, l.all isDig = true → valOf acc l < (acc + 1) * 10 ^ l.length := by
  induction l with
  | nil => intro acc _; rw [valOf_nil]; simp
  | cons c r ih =>
    intro acc h
    simp only [List.all_cons, Bool.and_eq_true] at h
    obtain ⟨h1, h2⟩ := isDig_of h.1
    rw [valOf_cons, List.length_cons, Nat.pow_succ, Nat.mul_comm (10 ^ r.length), ← Nat.mul_assoc]
    exact Nat.lt_of_lt_of_le (ih _ h.2) (Nat.mul_le_mul_right _ (by omega))
theorem pn_none_dig {l : List UInt8} {c : UInt8} (hc : c ∈ l) (h : isDig c = false) : pn l = none := by
  unfold pn
  rw [if_pos (.inr (.inr (.inr (by rw [List.all_eq_false]; exact ⟨c, hc, by simp [h]⟩))))]
end Go.Proofs.YtdggfnpioljcbaaGreatDoor
namespace Go.Proofs.YtdggfnpioljcbaaGreatDoor
open Go.RowKit Go.Lib
set_option linter.unusedVariables false
set_option linter.unusedSimpArgs false
def tabbed (x : List UInt8) : List UInt8 := 9 :: x
def rowL (d : Nat) (ws : List (List UInt8)) : List UInt8 := itoa (d : Int) ++ ws.flatMap tabbed ++ [10]
def declRow (d : Nat) (x : Dcl) : List UInt8 := rowL d [[100], x.pre.data.toList, escAt x.uri.data.toList]
def attrRow (d : Nat) (x : Atr) : List UInt8 := rowL d [[97], x.pre.data.toList, x.loc.data.toList, escAt x.uri.data.toList, escAt x.val.data.toList]
mutual
def rowsL : Nd → Nat → List UInt8
  | ⟨kind, pre, loc, uri, decls, attrs, kids, text⟩, d =>
    if kind = 2 then rowL d [[116], escAt text.data.toList]
    else if kind = 3 then rowL d [[110], escAt text.data.toList]
    else if kind = 4 then rowL d [[112], loc.data.toList, escAt text.data.toList]
    else rowL d [[101], pre.data.toList, loc.data.toList, escAt uri.data.toList] ++ decls.flatMap (declRow (d + 1)) ++ attrs.flatMap (attrRow (d + 1)) ++ rowsLs kids (d + 1)
def rowsLs : List Nd → Nat → List UInt8
  | [], _ => []
  | n :: r, d => rowsL n d ++ rowsLs r d
end
theorem rowsLs_append (a b : List Nd) (d : Nat) : rowsLs (a ++ b) d = rowsLs a d ++ rowsLs b d := by
  induction a with
  | nil => simp [rowsLs]
  | cons x a ih => simp [rowsLs, ih]
theorem rowsLs_take (l : List Nd) (d j : Nat) (h : j < l.length) : rowsLs (l.take (j + 1)) d = rowsLs (l.take j) d ++ rowsL (l[j]'h) d := by
  rw [List.take_succ_eq_append_getElem h, rowsLs_append]; simp [rowsLs]
theorem rowsLs_take_le (l : List Nd) (d j : Nat) : (rowsLs (l.take j) d).length ≤ (rowsLs l d).length := by
  have : rowsLs l d = rowsLs (l.take j) d ++ rowsLs (l.drop j) d := by rw [← rowsLs_append, List.take_append_drop]
  rw [this, List.length_append]; omega
theorem itoa_nat (d : Nat) : itoa (d : Int) = decDigits d := by
  unfold itoa
  rw [if_neg (by omega), Int.toNat_natCast]
theorem itoa_le (d : Nat) (h : d < 18446744073709551616) : (itoa (d : Int)).length ≤ 20 := by
  rw [itoa_nat, decDigits_length]; exact nDigits_le20 d h
theorem rowL_le (d : Nat) (ws : List (List UInt8)) (h : d < 18446744073709551616) : (rowL d ws).length ≤ 21 + (ws.map fun x => x.length + 1).sum := by
  have h1 := itoa_le d h
  have h2 : (ws.flatMap tabbed).length = (ws.map fun x => x.length + 1).sum := by rw [List.length_flatMap]; rfl
  rw [rowL, List.length_append, List.length_append, h2, List.length_cons, List.length_nil]
  omega
theorem declRow_le (d : Nat) (x : Dcl) (h : d < 18446744073709551616) : (declRow d x).length ≤ 32 * x.wt + 32 := by
  have h0 := rowL_le d [[100], x.pre.data.toList, escAt x.uri.data.toList] h
  have h1 := escAt_le x.uri.data.toList
  have h2 := str_size x.pre
  have h3 := str_size x.uri
  have e : x.wt = x.pre.size + x.uri.size := rfl
  simp only [List.map_cons, List.map_nil, List.sum_cons, List.sum_nil, List.length_cons, List.length_nil] at h0
  unfold declRow
  omega
theorem attrRow_le (d : Nat) (x : Atr) (h : d < 18446744073709551616) : (attrRow d x).length ≤ 32 * x.wt + 32 := by
  have h0 := rowL_le d [[97], x.pre.data.toList, x.loc.data.toList, escAt x.uri.data.toList, escAt x.val.data.toList] h
  have h1 := escAt_le x.uri.data.toList
  have h2 := escAt_le x.val.data.toList
  have h3 := str_size x.pre
  have h4 := str_size x.uri
  have h5 := str_size x.loc
  have h6 := str_size x.val
  have e : x.wt = x.pre.size + x.loc.size + x.uri.size + x.val.size := rfl
  simp only [List.map_cons, List.map_nil, List.sum_cons, List.sum_nil, List.length_cons, List.length_nil] at h0
  unfold attrRow
  omega
theorem flat_le32 {α : Type} (f : α → List UInt8) (g : α → Nat) (h : ∀ a, (f a).length ≤ 32 * g a + 32) : ∀ l : List α, (l.flatMap f).length ≤ 32 * (l.length + sumOf g l)
  | [] => by simp
  | a :: l => by
    have := flat_le32 f g h l
    have := h a
    simp only [List.flatMap_cons, List.length_append, List.length_cons, sumOf]
    omega
mutual
theorem rowsL_le : ∀ (n : Nd) (d : Nat), d + wt n + 1 < 18446744073709551616 → (rowsL n d).length ≤ 32 * wt n + 32
  | ⟨kind, pre, loc, uri, decls, attrs, kids, text⟩, d, h => by
    have hw : wt ⟨kind, pre, loc, uri, decls, attrs, kids, text⟩ = pre.size + loc.size + uri.size + (decls.length + sumOf Dcl.wt decls) + (attrs.length + sumOf Atr.wt attrs) + (kids.length + wtL kids) + text.size := by rw [wt]
    have h1 := flat_le32 (declRow (d + 1)) Dcl.wt (fun x => declRow_le (d + 1) x (by omega)) decls
    have h2 := flat_le32 (attrRow (d + 1)) Atr.wt (fun x => attrRow_le (d + 1) x (by omega)) attrs
    have h3 := str_size pre
    have h4 := str_size loc
    have h5 := escAt_le uri.data.toList
    have h6 := str_size uri
    have h7 := escAt_le text.data.toList
    have h8 := str_size text
    have a1 := rowL_le d [[116], escAt text.data.toList] (by omega)
    have a2 := rowL_le d [[110], escAt text.data.toList] (by omega)
    have a3 := rowL_le d [[112], loc.data.toList, escAt text.data.toList] (by omega)
    have a4 := rowL_le d [[101], pre.data.toList, loc.data.toList, escAt uri.data.toList] (by omega)
    simp only [List.map_cons, List.map_nil, List.sum_cons, List.sum_nil, List.length_cons, List.length_nil] at a1 a2 a3 a4
    have h0 := rowsLs_le kids (d + 1) (by omega)
    rw [hw, rowsL]
    repeat' split
    all_goals ((try simp only [List.length_append]); omega)
theorem rowsLs_le : ∀ (l : List Nd) (d : Nat), d + (l.length + wtL l) < 18446744073709551616 → (rowsLs l d).length ≤ 32 * (l.length + wtL l)
  | [], d, h => by simp [rowsLs]
  | n :: r, d, h => by
    rw [wtL, List.length_cons] at h
    have h1 := rowsL_le n d (by omega)
    have h2 := rowsLs_le r d (by omega)
    rw [rowsLs, wtL, List.length_append, List.length_cons]
    omega
end
theorem join_tab (x : List UInt8) (r : List (List UInt8)) : Lib.join (x :: r) [9] = x ++ r.flatMap tabbed := by
  rw [Lib.join_cons, Lib.joinTail, List.flatMap_def]; rfl
/-- RowsOf. -/
def rowsOf (n : Nd) : List UInt8 := if treeOk n = true then (if (rowsLs n.kids 0).length ≤ 4000 then rowsLs n.kids 0 else []) else []
theorem rowsOf_le (n : Nd) : (rowsOf n).length ≤ 4000 := by
  unfold rowsOf
  split
  · split
    · assumption
    · simp
  · simp
end Go.Proofs.YtdggfnpioljcbaaGreatDoor
namespace Go.Proofs.YtdggfnpioljcbaaGreatDoor
open Go.RowKit
set_option linter.unusedVariables false
set_option linter.unusedSimpArgs false
set_option maxHeartbeats 4000000
set_option maxRecDepth 20000
theorem num_round {u : Nat} (t : ByteArray) (n : Nat) (hu : u ≠ 0) (h : digs u ++ t.data.toList = digs n) : digs (u / 10) ++ (strOfNums [48 + ((u % 10 : Nat) : Int)] ++ t).data.toList = digs n := by
  rw [← h, digs_step hu, str_append, strOfNums_data, List.append_assoc]
  congr 1

theorem conv_byte (W : World) (u : Int) : (convert 37 9 (.slice (some ⟨W.heap.size, 0, none⟩) 1 1)).run Tryz.prog (W.alloc (.cells #[.int .u8 u] 5)) = .ok (.string (strOfNums [u])) (W.alloc (.cells #[.int .u8 u] 5)) := by
  refine run_convert_bytes_arg (P := Tryz.prog) _ 37 5 Tryz.underlying37 Tryz.underlying5 W.heap.size 0 1 1 [u] rfl ?_ 9 Tryz.underlying9
  intro i hi
  obtain rfl : i = 0 := by omega
  simp
theorem specNumText_calls (n : Int) (w : World) (h0 : -9223372036854775808 ≤ n) (h1 : n ≤ 9223372036854775807) :
    Calls Tryz.prog 180 #[.int .i64 n] w fun e w' => e = .returned (.string ⟨(Lib.itoa n).toArray⟩) ∧ Below w.heap.size w w' := by
  by_cases hz : n = 0
  · subst hz
    go_enter Tryz.func180, Tryz.ntmps180
    go_wp2
    go_ret
    exact ⟨by rw [show Lib.itoa 0 = [48] by decide +kernel]; rfl, Below.refl _ _⟩
  · have hz' : ((n : Int) == 0) = false := by simpa using hz
    go_enter Tryz.func180, Tryz.ntmps180
    go_wp2
    go_loopg [3, 4, 5] n.natAbs (fun k s x _ wr => ∃ (x' : Int) (t : ByteArray), x = .int .i64 x' ∧ s = .string t ∧ x'.natAbs ≤ k ∧ -9223372036854775808 ≤ x' ∧ x' ≤ 9223372036854775807 ∧ Aside (digs x'.natAbs ++ t.data.toList = digs n.natAbs) ∧ Below w.heap.size w wr)
    case atStart => exact ⟨n, _, rfl, rfl, Nat.le_refl _, h0, h1, List.append_nil _, Below.refl _ _⟩
    case round =>
      obtain ⟨x, t, rfl, rfl, hk, hx0, hx1, ha, hb⟩ := hrel
      have hts : t.size ≤ 20 := by
        have e1 := congrArg List.length ha.out
        rw [List.length_append, str_size] at e1
        have := digs_length (u := n.natAbs) (by omega)
        omega
      by_cases hx : x = 0
      · subst hx
        have hfin := Aside0.mk (show t.data.toList = Lib.decDigits n.natAbs by
          have e1 := ha.out
          rwa [Int.natAbs_zero, digs_zero, List.nil_append, digs_pos (by omega)] at e1)
        clear ha
        have hss : ¬ (9223372036854775807 < (⟨#[45]⟩ : ByteArray).size + t.size) := by
          show ¬ (9223372036854775807 < 1 + t.size)
          omega
        by_cases hn : n < 0
        · have hfin2 := Aside0.mk (show (⟨#[45]⟩ : ByteArray) ++ t = ⟨(Lib.itoa n).toArray⟩ by
            apply str_ext; rw [str_append, hfin.out]; simp only [Lib.itoa, if_pos hn]; rfl)
          go_wp2
          go_ret
          exact ⟨by rw [← hfin2.out]; rfl, hb⟩
        · have hfin2 := Aside0.mk (show t = ⟨(Lib.itoa n).toArray⟩ by
            apply str_ext; rw [hfin.out]; simp only [Lib.itoa, if_neg hn]; rw [show n.toNat = n.natAbs from by omega])
          go_wp2
          go_ret
          exact ⟨by rw [← hfin2.out]; rfl, hb⟩
      · have hx' : (x != 0) = true := by simpa using hx
        have hcv := conv_byte wr
        have ha2 := Aside0.mk (num_round t n.natAbs (by omega) ha.out)
        clear ha
        have hss : ∀ u : Int, ¬ (9223372036854775807 < (strOfNums [u]).size + t.size) := fun u => by rw [strOfNums_size]; simp; omega
        by_cases hn : x < 0
        · obtain ⟨u, rfl⟩ : ∃ u : Nat, x = -(u : Int) := ⟨x.natAbs, by omega⟩
          rw [Int.natAbs_neg, Int.natAbs_natCast] at ha2 hk
          have e1 : (-(u : Int)).tmod 10 = -((u % 10 : Nat) : Int) := by rw [Int.neg_tmod, show (10:Int) = ((10:Nat):Int) from rfl, ← Int.ofNat_tmod]
          have e2 : (-(u : Int)).tdiv 10 = -((u / 10 : Nat) : Int) := by rw [Int.neg_tdiv, show (10:Int) = ((10:Nat):Int) from rfl, ← Int.ofNat_tdiv]
          have hb0 : u % 10 < 10 := by omega
          have hb1 : u / 10 < u := by omega
          generalize u % 10 = m at *
          generalize u / 10 = q at *
          by_cases hm : m = 0
          · subst hm
            go_wp2
            go_roundg q
            case measure => omega
            case rel => exact ⟨-(q : Int), _, rfl, rfl, by omega, by omega, by omega, by rw [Int.natAbs_neg, Int.natAbs_natCast]; exact ha2.out, below_alloc hb _⟩
          · go_wp2
            go_roundg q
            case measure => omega
            case rel => exact ⟨-(q : Int), _, rfl, rfl, by omega, by omega, by omega, by rw [Int.natAbs_neg, Int.natAbs_natCast]; exact ha2.out, below_alloc hb _⟩
        · obtain ⟨u, rfl⟩ : ∃ u : Nat, x = (u : Int) := ⟨x.natAbs, by omega⟩
          rw [Int.natAbs_natCast] at ha2 hk
          have e1 : ((u : Int)).tmod 10 = ((u % 10 : Nat) : Int) := by rw [show (10:Int) = ((10:Nat):Int) from rfl, ← Int.ofNat_tmod]
          have e2 : ((u : Int)).tdiv 10 = ((u / 10 : Nat) : Int) := by rw [show (10:Int) = ((10:Nat):Int) from rfl, ← Int.ofNat_tdiv]
          have hb0 : u % 10 < 10 := by omega
          have hb1 : u / 10 < u := by omega
          generalize u % 10 = m at *
          generalize u / 10 = q at *
          go_wp2
          go_roundg q
          case measure => omega
          case rel => exact ⟨(q : Int), _, rfl, rfl, by omega, by omega, by omega, by rw [Int.natAbs_natCast]; exact ha2.out, below_alloc hb _⟩
theorem below_grow (w : World) (k : Nat) (os : Array Obj) : Below w.heap.size w (Sort.grow (w.drewN k) os) :=
  ⟨rfl, rfl, rfl, by rw [Sort.size_grow]; exact Nat.le_add_right _ _, fun j hj => Sort.heap_grow_old (w.drewN k) os hj⟩
end Go.Proofs.YtdggfnpioljcbaaGreatDoor
namespace Go.Proofs.YtdggfnpioljcbaaGreatDoor
open Go.RowKit Go.Lib
set_option linter.unusedVariables false
set_option linter.unusedSimpArgs false
set_option maxHeartbeats 8000000
set_option maxRecDepth 100000
theorem wt_kid1 {n k : Nd} (h : k ∈ n.kids) : wt k + 1 ≤ wt n := by
  have h1 := sumOf_mem wt n.kids k h
  have h2 : 0 < n.kids.length := List.length_pos_iff.2 (List.ne_nil_of_mem h)
  rw [← wtL_eq] at h1
  rw [wt_eq n]
  omega
theorem l25Add_calls : ∀ (N : Nat) (n : Nd) (s : Sh) (d : Nat) (w : World) (ok : Nat → Prop), cnt n ≤ N → wt n ≤ 1048576 → d + wt n ≤ 2097152 → NodeIs w ok n s →
    Calls Tryz.prog 112 #[.agg #[.int .i64 n.kind, .string n.pre, .string n.loc, .string n.uri, .slice s.Ad n.decls.length s.cd, .slice s.Aa n.attrs.length s.ca, .slice s.Ak n.kids.length s.ck, .string n.text], .int .i64 (d : Int)] w fun e w' => e = .returned (.string ⟨(rowsL n d).toArray⟩) ∧ Below w.heap.size w w' := by
  intro N
  induction N with
  | zero => intro n s d w ok h0; rw [cnt_eq] at h0; omega
  | succ N ih =>
  rintro ⟨kind, pre, loc, uri, decls, attrs, kids, text⟩ ⟨Ad, cd, Aa, ca, Ak, ck⟩ d w ok hN hwt hdw hn
  have hkid := Aside0.mk (fun i hi => cnt_kid (n := ⟨kind, pre, loc, uri, decls, attrs, kids, text⟩) (i := i) hi)
  have hk1 := Aside0.mk (fun k hk => wt_kid1 (n := ⟨kind, pre, loc, uri, decls, attrs, kids, text⟩) (k := k) hk)
  obtain ⟨⟨z1, z2, z3, z4⟩, zd, za, zk, l1, l2, l3⟩ := small hwt
  have hwtk : kids.length + wtL kids ≤ 1048576 := by rw [wt] at hwt; omega
  have hwtd : decls.length + sumOf Dcl.wt decls ≤ 1048576 := by rw [wt] at hwt; omega
  have hwta : attrs.length + sumOf Atr.wt attrs ≤ 1048576 := by rw [wt] at hwt; omega
  have hd2 : d ≤ 2097152 := by omega
  have lk := Aside0.mk (fun j => Nat.le_trans (rowsLs_take_le kids (d + 1) j) (rowsLs_le kids (d + 1) (by omega)))
  have ld := Aside0.mk (fun j => Nat.le_trans (flat_take_le (declRow (d + 1)) decls j) (flat_le32 (declRow (d + 1)) Dcl.wt (fun x => declRow_le (d + 1) x (by omega)) decls))
  have la := Aside0.mk (fun j => Nat.le_trans (flat_take_le (attrRow (d + 1)) attrs j) (flat_le32 (attrRow (d + 1)) Atr.wt (fun x => attrRow_le (d + 1) x (by omega)) attrs))
  have hel := escAt_le uri.data.toList
  have het := escAt_le text.data.toList
  rw [str_size] at hel het
  have hB0 := rowL_le d [[101], pre.data.toList, loc.data.toList, escAt uri.data.toList] (by omega)
  simp only [List.map_cons, List.map_nil, List.sum_cons, List.sum_nil, List.length_cons, List.length_nil, str_size] at hB0
  obtain ⟨R, hR⟩ : ∃ R, R = rowsL ⟨kind, pre, loc, uri, decls, attrs, kids, text⟩ d := ⟨_, rfl⟩
  have hv := Aside0.mk (show R = if kind = 2 then rowL d [[116], escAt text.data.toList]
    else if kind = 3 then rowL d [[110], escAt text.data.toList]
    else if kind = 4 then rowL d [[112], loc.data.toList, escAt text.data.toList]
    else rowL d [[101], pre.data.toList, loc.data.toList, escAt uri.data.toList] ++ decls.flatMap (declRow (d + 1)) ++ attrs.flatMap (attrRow (d + 1)) ++ rowsLs kids (d + 1) by rw [hR, rowsL])
  rw [← hR]
  clear hR
  simp only at z1 z2 z3 z4 zd za zk l1 l2 l3 hkid hk1 ⊢
  obtain ⟨W, hW, HB, hsz, HG⟩ := boxed w #[.int .i64 kind, .string pre, .string loc, .string uri, .slice Ad decls.length cd, .slice Aa attrs.length ca, .slice Ak kids.length ck, .string text] 33
  have K := Aside0.mk (fun W1 hb => box_cells (((hb : Below W.heap.size W W1).block _ hsz).trans HG))
  have Hnk := Aside0.mk (hn.kids.below HB)
  have Hnd := Aside0.mk (hn.decls.below HB)
  have Hna := Aside0.mk (hn.attrs.below HB)
  simp only at Hnk Hnd Hna
  have hih := Aside0.mk (fun k hk s W h => ih k s (d + 1) W ok (by obtain ⟨i, hi, rfl⟩ := List.mem_iff_getElem.1 hk; exact Nat.le_of_lt_succ (Nat.lt_of_lt_of_le (hkid.out i hi) hN)) (zk k hk) (by have := hk1.out k hk; omega) h)
  have HW := Aside0.mk hW
  clear hW
  have Zd := Aside0.mk zd
  clear zd
  have Za := Aside0.mk za
  clear za
  have Zk := Aside0.mk zk
  clear zk
  have HN := Aside0.mk hN
  clear hN
  clear HG hn hwt ih hdw
  go_enter Tryz.func112, Tryz.ntmps112
  go_upto_region 1 with fail
  rw [← HW.out]
  obtain ⟨c0, c1, c2, c3, c4, c5, c6, c7⟩ := K.out _ (Below.refl _ _)
  go_wp2_with fail
  refine (specNumText_calls (d : Int) W (by omega) (by omega)).mono ?_
  rintro e w1 ⟨rfl, hb1⟩
  obtain ⟨x, hx⟩ : ∃ x : ByteArray, x = ⟨(itoa (d : Int)).toArray⟩ := ⟨_, rfl⟩
  have hxl := Aside0.mk (show x.data.toList = itoa (d : Int) by rw [hx])
  have hxs : x.size ≤ 20 := by rw [hx]; exact itoa_le d (by omega)
  rw [← hx]
  clear hx c0 c1 c2 c3 c4 c5 c6 c7
  obtain ⟨c0, c1, c2, c3, c4, c5, c6, c7⟩ := K.out _ hb1
  have hsz1 : w.heap.size < w1.heap.size := Nat.lt_of_lt_of_le hsz hb1.size
  obtain ⟨y, hy⟩ : ∃ y : ByteArray, y = ⟨(escAt text.data.toList).toArray⟩ := ⟨_, rfl⟩
  have hyl := Aside0.mk (show y.data.toList = escAt text.data.toList by rw [hy])
  have hys : y.size ≤ 20000000 := by rw [hy]; show (escAt _).length ≤ _; omega
  have HY := Aside0.mk (fun W => specEscAttr_calls text W (by omega))
  rw [← hy] at HY
  clear hy het
  by_cases k2 : kind = 2
  · have hfin := Aside0.mk (show x ++ ⟨#[9]⟩ ++ ⟨#[116, 9]⟩ ++ y ++ ⟨#[10]⟩ = (⟨R.toArray⟩ : ByteArray) by
      apply str_ext; rw [hv.out, if_pos k2, str_append, str_append, str_append, str_append, hxl.out, hyl.out]; simp [rowL, tabbed])
    subst k2
    go_wp2_with fail
    refine (HY.out _).mono ?_
    rintro e w2 ⟨rfl, rfl⟩
    go_wp2
    go_ret
    exact ⟨by rw [← hfin.out]; rfl, below_then HB hb1⟩
  by_cases k3 : kind = 3
  · have hfin := Aside0.mk (show x ++ ⟨#[9]⟩ ++ ⟨#[110, 9]⟩ ++ y ++ ⟨#[10]⟩ = (⟨R.toArray⟩ : ByteArray) by
      apply str_ext; rw [hv.out, if_neg k2, if_pos k3, str_append, str_append, str_append, str_append, hxl.out, hyl.out]; simp [rowL, tabbed])
    subst k3
    go_wp2_with fail
    refine (HY.out _).mono ?_
    rintro e w2 ⟨rfl, rfl⟩
    go_wp2
    go_ret
    exact ⟨by rw [← hfin.out]; rfl, below_then HB hb1⟩
  by_cases k4 : kind = 4
  · have hfin := Aside0.mk (show x ++ ⟨#[9]⟩ ++ ⟨#[112, 9]⟩ ++ loc ++ ⟨#[9]⟩ ++ y ++ ⟨#[10]⟩ = (⟨R.toArray⟩ : ByteArray) by
      apply str_ext; rw [hv.out, if_neg k2, if_neg k3, if_pos k4, str_append, str_append, str_append, str_append, str_append, str_append, hxl.out, hyl.out]; simp [rowL, tabbed])
    subst k4
    have C2 := later_cell c2 hsz1
    have C7 := later_cell c7 hsz1
    go_wp2_with fail
    refine wp_region_later (by kernel_rfl) (by kernel_rfl) ?_
    repeat (go_big_quiet_step ((go_at_call 181; exact later_call ((HY.out _).mono fun _ _ ⟨he, hw⟩ => ⟨he, hw ▸ Below.refl _ _⟩))))
    refine wpQuiet_nil ?_
    rintro _ ⟨⟨W2, hb2⟩, rfl⟩
    go_wp2
    go_ret
    exact ⟨by rw [← hfin.out]; rfl, below_then HB (below_then hb1 hb2)⟩
  have b2 : (kind == 2) = false := by simpa using k2
  have b3 : (kind == 3) = false := by simpa using k3
  have b4 : (kind == 4) = false := by simpa using k4
  clear HY hyl hys
  obtain ⟨B0, hB⟩ : ∃ B0, B0 = rowL d [[101], pre.data.toList, loc.data.toList, escAt uri.data.toList] := ⟨_, rfl⟩
  rw [← hB] at hB0
  have hv := Aside0.mk (show R = B0 ++ decls.flatMap (declRow (d + 1)) ++ attrs.flatMap (attrRow (d + 1)) ++ rowsLs kids (d + 1) by rw [hv.out, if_neg k2, if_neg k3, if_neg k4, hB])
  obtain ⟨u, hu⟩ : ∃ u : ByteArray, u = ⟨(escAt uri.data.toList).toArray⟩ := ⟨_, rfl⟩
  have hul := Aside0.mk (show u.data.toList = escAt uri.data.toList by rw [hu])
  have hus : u.size ≤ 20000000 := by rw [hu]; show (escAt _).length ≤ _; omega
  have HU := Aside0.mk (fun W => specEscAttr_calls uri W (by omega))
  rw [← hu] at HU
  have hq0 := Aside0.mk (show (x ++ ⟨#[9]⟩ ++ ⟨#[101, 9]⟩ ++ pre ++ ⟨#[9]⟩ ++ loc ++ ⟨#[9]⟩ ++ u ++ ⟨#[10]⟩ : ByteArray).data.toList = B0 ++ (decls.take 0).flatMap (declRow (d + 1)) by
    rw [hB, str_append, str_append, str_append, str_append, str_append, str_append, str_append, str_append, hxl.out, hul.out]; simp [rowL, tabbed])
  have hB0 : B0.length ≤ 9000000 := by omega
  have hq0z : (x ++ ⟨#[9]⟩ ++ ⟨#[101, 9]⟩ ++ pre ++ ⟨#[9]⟩ ++ loc ++ ⟨#[9]⟩ ++ u ++ ⟨#[10]⟩ : ByteArray).size ≤ 50000000 := by
    rw [sz_of hq0.out, List.take_zero, List.flatMap_nil, List.append_nil]; omega
  have C1 := later_cell c1 hsz1
  have C2 := later_cell c2 hsz1
  have C3 := later_cell c3 hsz1
  clear hu hB hel k2 k3 k4
  go_wp2_with fail
  refine wp_region_later (by kernel_rfl) (by kernel_rfl) ?_
  repeat (go_big_quiet_step ((go_at_call 181; exact later_call ((HU.out _).mono fun _ _ ⟨he, hw⟩ => ⟨he, hw ▸ Below.refl _ _⟩))))
  refine wpQuiet_nil ?_
  rintro _ ⟨⟨W2, hb2⟩, rfl⟩
  have hb02 := below_then hb1 hb2
  clear C1 C2 C3 c0 c1 c2 c3 c4 c5 c6 c7
  go_wp2_with fail
  refine (specNumText_calls ((d + 1 : Nat) : Int) _ (by omega) (by omega)).mono ?_
  rintro e w3 ⟨rfl, hb3⟩
  have HBW := below_then hb02 hb3
  obtain ⟨x2, hx⟩ : ∃ x : ByteArray, x = ⟨(itoa ((d + 1 : Nat) : Int)).toArray⟩ := ⟨_, rfl⟩
  have hxl2 := Aside0.mk (show x2.data.toList = itoa ((d + 1 : Nat) : Int) by rw [hx])
  have hxs2 : x2.size ≤ 20 := by rw [hx]; exact itoa_le (d + 1) (by omega)
  rw [← hx]
  clear hx hb1 hb2 hb3 hb02
  obtain ⟨c0, c1, c2, c3, c4, c5, c6, c7⟩ := K.out _ HBW
  go_wp2
  go_loopg [6, 8] decls.length (fun k a i wr => ∃ (q : ByteArray) (j : Nat), a = .string q ∧ i = .int .i64 j ∧ j + k = decls.length ∧ q.size ≤ 50000000 ∧ Aside (q.data.toList = B0 ++ (decls.take j).flatMap (declRow (d + 1))) ∧ Below W.heap.size W wr)
  case atStart => exact ⟨_, 0, rfl, rfl, by omega, hq0z, hq0.out, HBW⟩
  case round =>
    obtain ⟨q, j, rfl, rfl, hk, hqz, ha, hb⟩ := hrel
    clear c0 c1 c2 c3 c4 c5 c6 c7 HBW hq0z hsz1
    obtain ⟨c0, c1, c2, c3, c4, c5, c6, c7⟩ := K.out _ hb
    have hszr : w.heap.size < wr.heap.size := Nat.lt_of_lt_of_le hsz hb.size
    by_cases hlt : j < decls.length
    · obtain ⟨b, o, rfl, hbl, e0, e1⟩ := dcl_at (Hnd.out.below hb) j hlt
      obtain ⟨y0, y1⟩ := Zd.out _ (List.getElem_mem hlt)
      have i1 : (j : Int) < (decls.length : Int) := by omega
      have hst := Aside0.mk (flat_take (declRow (d + 1)) decls j hlt)
      have hde := Aside0.mk (show declRow (d + 1) (decls[j]'hlt) = rowL (d + 1) [[100], (decls[j]'hlt).pre.data.toList, escAt (decls[j]'hlt).uri.data.toList] from rfl)
      have hel := escAt_le (decls[j]'hlt).uri.data.toList
      rw [str_size] at hel
      have hldj := ld.out (j + 1)
      obtain ⟨v, hv2⟩ : ∃ v : ByteArray, v = ⟨(escAt (decls[j]'hlt).uri.data.toList).toArray⟩ := ⟨_, rfl⟩
      have hvl := Aside0.mk (show v.data.toList = escAt (decls[j]'hlt).uri.data.toList by rw [hv2])
      have hvs : v.size ≤ 20000000 := by rw [hv2]; show (escAt _).length ≤ _; omega
      have HA := Aside0.mk (fun W => specEscAttr_calls (decls[j]'hlt).uri W (by omega))
      rw [← hv2] at HA
      have hnx := Aside0.mk (show (q ++ (x2 ++ ⟨#[9]⟩) ++ ⟨#[100, 9]⟩ ++ (decls[j]'hlt).pre ++ ⟨#[9]⟩ ++ v ++ ⟨#[10]⟩ : ByteArray).data.toList = B0 ++ (decls.take (j + 1)).flatMap (declRow (d + 1)) by
        rw [str_append, str_append, str_append, str_append, str_append, str_append, str_append, ha.out, hst.out, hde.out, hvl.out, hxl2.out]; simp [rowL, tabbed])
      have hnz : (q ++ (x2 ++ ⟨#[9]⟩) ++ ⟨#[100, 9]⟩ ++ (decls[j]'hlt).pre ++ ⟨#[9]⟩ ++ v ++ ⟨#[10]⟩ : ByteArray).size ≤ 50000000 := by
        rw [sz_of hnx.out, List.length_append]; omega
      have C4 := later_cell c4 hszr
      have E0 := later_cell e0 hbl
      have E1 := later_cell e1 hbl
      clear hv2 ha hel hldj
      go_wp2_with fail
      refine wp_region_later (by kernel_rfl) (by kernel_rfl) ?_
      repeat (go_big_quiet_step ((go_at_call 181; exact later_call ((HA.out _).mono fun _ _ ⟨he, hw⟩ => ⟨he, hw ▸ Below.refl _ _⟩))))
      refine wpQuiet_nil ?_
      rintro _ ⟨⟨W2, hb2⟩, rfl⟩
      go_wp2
      go_roundg (gk - 1)
      case measure => omega
      case rel => exact ⟨_, j + 1, rfl, by go_num, by omega, hnz, hnx.out, below_then hb hb2⟩
    · have hds := Aside0.mk (show q.data.toList = B0 ++ decls.flatMap (declRow (d + 1)) by rw [ha.out, List.take_of_length_le (by omega)])
      clear ha
      go_wp2
      go_loopg [6, 9] attrs.length (fun k a i wr => ∃ (q1 : ByteArray) (j : Nat), a = .string q1 ∧ i = .int .i64 j ∧ j + k = attrs.length ∧ q1.size ≤ 90000000 ∧ Aside (q1.data.toList = q.data.toList ++ (attrs.take j).flatMap (attrRow (d + 1))) ∧ Below W.heap.size W wr)
      case atStart => exact ⟨_, 0, rfl, rfl, by omega, by omega, (by simp : q.data.toList = q.data.toList ++ (attrs.take 0).flatMap (attrRow (d + 1))), hb⟩
      case round =>
        clear hb hk hlt c0 c1 c2 c3 c4 c5 c6 c7 hszr
        obtain ⟨q1, j, rfl, rfl, hk, hqz1, ha, hb⟩ := hrel
        obtain ⟨c0, c1, c2, c3, c4, c5, c6, c7⟩ := K.out _ hb
        by_cases hlt : j < attrs.length
        · obtain ⟨b, o, rfl, hbl, e0, e1, e2, e3⟩ := atr_at (Hna.out.below hb) j hlt
          obtain ⟨y0, y1, y2, y3⟩ := Za.out _ (List.getElem_mem hlt)
          have hst := Aside0.mk (flat_take (attrRow (d + 1)) attrs j hlt)
          have hae := Aside0.mk (show attrRow (d + 1) (attrs[j]'hlt) = rowL (d + 1) [[97], (attrs[j]'hlt).pre.data.toList, (attrs[j]'hlt).loc.data.toList, escAt (attrs[j]'hlt).uri.data.toList, escAt (attrs[j]'hlt).val.data.toList] from rfl)
          have hel := escAt_le (attrs[j]'hlt).uri.data.toList
          have hel2 := escAt_le (attrs[j]'hlt).val.data.toList
          rw [str_size] at hel hel2
          have hlaj := la.out (j + 1)
          obtain ⟨ev, hev⟩ : ∃ ev : ByteArray → ByteArray, ∀ s, ev s = ⟨(escAt s.data.toList).toArray⟩ := ⟨_, fun _ => rfl⟩
          have HA := Aside0.mk (fun s W (hs : s.size ≤ 1048576) => (show Calls Tryz.prog 181 #[.string s] W (fun e w' => e = .returned (.string (ev s)) ∧ Below W.heap.size W w') from (specEscAttr_calls s W hs).mono fun _ _ ⟨he, hw⟩ => ⟨by rw [hev]; exact he, hw ▸ Below.refl _ _⟩))
          have hvl := Aside0.mk (show (ev (attrs[j]'hlt).uri).data.toList = escAt (attrs[j]'hlt).uri.data.toList by rw [hev])
          have hvs : (ev (attrs[j]'hlt).uri).size ≤ 20000000 := by rw [hev]; show (escAt _).length ≤ _; omega
          have hvl3 := Aside0.mk (show (ev (attrs[j]'hlt).val).data.toList = escAt (attrs[j]'hlt).val.data.toList by rw [hev])
          have hvs3 : (ev (attrs[j]'hlt).val).size ≤ 20000000 := by rw [hev]; show (escAt _).length ≤ _; omega
          have hnx := Aside0.mk (show (q1 ++ (x2 ++ ⟨#[9]⟩) ++ ⟨#[97, 9]⟩ ++ (attrs[j]'hlt).pre ++ ⟨#[9]⟩ ++ (attrs[j]'hlt).loc ++ ⟨#[9]⟩ ++ ev (attrs[j]'hlt).uri ++ ⟨#[9]⟩ ++ ev (attrs[j]'hlt).val ++ ⟨#[10]⟩ : ByteArray).data.toList = q.data.toList ++ (attrs.take (j + 1)).flatMap (attrRow (d + 1)) by
            rw [str_append, str_append, str_append, str_append, str_append, str_append, str_append, str_append, str_append, str_append, str_append, ha.out, hst.out, hae.out, hvl.out, hvl3.out, hxl2.out]; simp [rowL, tabbed])
          have hnz : (q1 ++ (x2 ++ ⟨#[9]⟩) ++ ⟨#[97, 9]⟩ ++ (attrs[j]'hlt).pre ++ ⟨#[9]⟩ ++ (attrs[j]'hlt).loc ++ ⟨#[9]⟩ ++ ev (attrs[j]'hlt).uri ++ ⟨#[9]⟩ ++ ev (attrs[j]'hlt).val ++ ⟨#[10]⟩ : ByteArray).size ≤ 90000000 := by
            rw [sz_of hnx.out, List.length_append, str_size]; omega
          obtain ⟨Wb, hWb, HBb, hszb, HGb⟩ := boxed wr #[.string (attrs[j]'hlt).pre, .string (attrs[j]'hlt).loc, .string (attrs[j]'hlt).uri, .string (attrs[j]'hlt).val] 173
          obtain ⟨g0, g1, g2, g3⟩ := box4 HGb
          have G0 := later_cell g0 hszb
          have G1 := later_cell g1 hszb
          have G2 := later_cell g2 hszb
          have G3 := later_cell g3 hszb
          have HWb := Aside0.mk hWb
          clear hev ha hel hel2 hlaj HGb hWb
          go_upto_region 19 with fail
          rw [← HWb.out]
          refine wp_region_later (by kernel_rfl) (by kernel_rfl) ?_
          repeat (go_big_quiet_step ((go_at_call 181; exact later_call (HA.out _ _ (by assumption)))))
          refine wpQuiet_nil ?_
          rintro _ ⟨⟨W2, hb2⟩, rfl⟩
          go_wp2
          go_roundg (gk - 1)
          case measure => omega
          case rel => exact ⟨_, j + 1, rfl, by go_num, by omega, hnz, hnx.out, below_then hb (below_then HBb hb2)⟩
        · have has := Aside0.mk (show q1.data.toList = q.data.toList ++ attrs.flatMap (attrRow (d + 1)) by rw [ha.out, List.take_of_length_le (by omega)])
          clear ha
          go_wp2
          go_loopg [6, 11] kids.length (fun k a i wr => ∃ (q2 : ByteArray) (j : Nat), a = .string q2 ∧ i = .int .i64 j ∧ j + k = kids.length ∧ q2.size ≤ 130000000 ∧ Aside (q2.data.toList = q1.data.toList ++ rowsLs (kids.take j) (d + 1)) ∧ Below W.heap.size W wr)
          case atStart => exact ⟨_, 0, rfl, rfl, by omega, by omega, (by simp [rowsLs] : q1.data.toList = q1.data.toList ++ rowsLs (kids.take 0) (d + 1)), hb⟩
          case round =>
            clear hb hk hlt c0 c1 c2 c3 c4 c5 c6 c7
            obtain ⟨q2, j, rfl, rfl, hk, hqz2, ha, hb⟩ := hrel
            obtain ⟨c0, c1, c2, c3, c4, c5, c6, c7⟩ := K.out _ hb
            by_cases hlt : j < kids.length
            · obtain ⟨b, o, s', rfl, hbl, hs', e0, e1, e2, e3, e4, e5, e6, e7⟩ := node_at (Hnk.out.below hb) j hlt
              have hst := Aside0.mk (rowsLs_take kids (d + 1) j hlt)
              have HI := Aside0.mk (hih.out _ (List.getElem_mem hlt) s' wr hs')
              have hlkj := lk.out (j + 1)
              obtain ⟨v, hv2⟩ : ∃ v : ByteArray, v = ⟨(rowsL (kids[j]'hlt) (d + 1)).toArray⟩ := ⟨_, rfl⟩
              rw [← hv2] at HI
              have hnx := Aside0.mk (show (q2 ++ v : ByteArray).data.toList = q1.data.toList ++ rowsLs (kids.take (j + 1)) (d + 1) by rw [str_append, ha.out, hst.out, hv2, List.append_assoc])
              have hnz : (q2 ++ v : ByteArray).size ≤ 130000000 := by rw [sz_of hnx.out, List.length_append, str_size]; omega
              have hvs : v.size ≤ 130000000 := by rw [ByteArray.size_append] at hnz; omega
              have hzz : ¬ (9223372036854775807 < q2.size + v.size) := by omega
              clear hv2 ha hs' hlkj
              go_wp2_with fail
              refine HI.out.mono ?_
              rintro e w2 ⟨rfl, hb2⟩
              go_wp2
              go_roundg (gk - 1)
              case measure => omega
              case rel => exact ⟨_, j + 1, rfl, by go_num, by omega, hnz, hnx.out, below_then hb hb2⟩
            · have hfin := Aside0.mk (show q2 = (⟨R.toArray⟩ : ByteArray) by
                apply str_ext; rw [ha.out, List.take_of_length_le (by omega), has.out, hds.out, hv.out])
              clear ha
              go_wp2
              go_ret
              exact ⟨by rw [← hfin.out]; rfl, below_then HB hb⟩
end Go.Proofs.YtdggfnpioljcbaaGreatDoor
namespace Go.Proofs.YtdggfnpioljcbaaGreatDoor
open Go.RowKit Go.Lib
set_option linter.unusedVariables false
set_option linter.unusedSimpArgs false
set_option maxHeartbeats 4000000
set_option maxRecDepth 20000
/-- The table of powers of ten. -/
def Tab (w : World) : Prop := Lib.TabIs Tryz.prog w "internal/strconv.uint64pow10" .u64 Lib.pow10Tab
theorem var_stays {P : Program} {w w1 : World} {n : String} {cs : Array Value} (hb : Below w.heap.size w w1) (h : w.var? P n = some cs) : w1.var? P n = some cs := by
  unfold World.var? at h ⊢
  obtain ⟨g, hg, h2⟩ := Option.bind_eq_some_iff.1 h
  rw [hg, Option.bind_some]
  have hlt : g < w.heap.size := by
    rcases Nat.lt_or_ge g w.heap.size with hl | hl
    · exact hl
    · rw [Array.getElem?_eq_none hl] at h2; cases h2
  rw [hb.block g hlt]
  exact h2
theorem Tab.below {w w1 : World} (h : Tab w) (hb : Below w.heap.size w w1) : Tab w1 := var_stays hb h
theorem Tryz.info_string : (Tryz.prog.info? 9).map (fun i => (i.zero, i.size, i.bytes)) = some (some (.string ⟨#[]⟩), 1, 16) := by kernel_rfl
def strC (s : ByteArray) : List Value := [.string s]
theorem strC_one : ∀ s : ByteArray, ∀ u ∈ strC s, u.oneCell' = true := by
  intro s u hu
  obtain rfl := List.mem_singleton.1 hu
  rfl
theorem strC_map (l : List ByteArray) : l.flatMap strC = l.map Value.string := by
  induction l with
  | nil => rfl
  | cons x l ih => rw [List.flatMap_cons, ih]; rfl
theorem strs_cells {w : World} {base : Nat} {e : TypeId} {g c : Nat} {xs : List ByteArray} (h : w.ownsRow base e 1 (.slice (some ⟨g, 0, none⟩) xs.length c) xs.length (xs.flatMap strC)) :
    ∀ (j : Nat) x, xs[j]? = some x → w.cell? ⟨g, 0 + j, none⟩ = some (.string x) := by
  intro j x hj
  obtain ⟨hl, hv⟩ := List.getElem?_eq_some_iff.1 hj
  rw [strC_map] at h
  have hcl := h.cellAt j (by omega)
  rw [Nat.zero_add, hcl, List.getElem?_map, hj]
  rfl
theorem one_own (w : World) (x : ByteArray) (T : TypeId) : (w.alloc (.cells #[.string x] T (0, 0))).ownsRow w.heap.size T 1 (.slice (some ⟨w.heap.size, 0, none⟩) 1 1) [x].length ([x].flatMap strC) :=
  ⟨rfl, .inr ⟨w.heap.size, 1, #[.string x], rfl, Nat.le_refl _, Array.getElem?_push_size, Nat.le_refl _, by simp [maxLen], rfl, rfl⟩⟩
theorem own_some1 {w : World} {base : Nat} {e : TypeId} {sz : Nat} {v : Value} {n : Nat} {cells : List Value} (h : w.ownsRow base e sz v n cells) (h0 : 0 < n) : ∃ g c, v = .slice (some ⟨g, 0, none⟩) n c ∧ base ≤ g ∧ g < w.heap.size := by
  obtain ⟨_, ⟨rfl, hn⟩ | ⟨g, cap, cur, rfl, hb, hh, _⟩⟩ := h
  · omega
  · exact ⟨g, cap, rfl, hb, (Array.getElem?_eq_some_iff.1 hh).1⟩
theorem rowText_calls {ok : Nat → Prop} (d : Nat) (A : Option Addr) (c : Nat) (ws : List ByteArray) (w : World) (hd : d ≤ 4194304) (hr : Row Kd.str w ok A ws) (hl : ws.length ≤ 1000) (hz : (rowL d (ws.map fun x => x.data.toList)).length ≤ 100000000) (hT : Tab w) :
    Calls Tryz.prog 184 #[.int .i64 (d : Int), .slice A ws.length c] w fun e w' => e = .returned (.string ⟨(rowL d (ws.map fun x => x.data.toList)).toArray⟩) ∧ Below w.heap.size w w' := by
  obtain ⟨i, hi, hz0, hz1, hz2⟩ := info_parts Tryz.info_string
  have hzs : ((.string ⟨#[]⟩) : Value).cells.size = 1 := by rfl
  obtain ⟨R, hR⟩ : ∃ R, R = rowL d (ws.map fun x => x.data.toList) := ⟨_, rfl⟩
  rw [← hR] at hz ⊢
  have hj := Aside0.mk (show R = Lib.join (itoa (d : Int) :: ws.map fun x => x.data.toList) [9] ++ [10] by rw [hR, rowL, join_tab])
  clear hR
  have hr' := Aside0.mk (show Row (Kd.flat 1 strC (fun _ => rfl)) w ok A ws from hr)
  have hlen := hr.max
  have Hz2 := Aside0.mk hz2
  clear hz2
  clear hr
  go_enter Tryz.func184, Tryz.ntmps184
  go_wp2_with fail
  refine (Tryz.strconv_Itoa (d : Int) (by omega) (by omega) w hT).mono ?_
  rintro e w1 ⟨rfl, k, os, hw⟩
  have hb1 : Below w.heap.size w w1 := by rw [hw]; exact below_grow w k os
  clear hw
  obtain ⟨x, hx⟩ : ∃ x : ByteArray, x = ⟨(itoa (d : Int)).toArray⟩ := ⟨_, rfl⟩
  have hxl := Aside0.mk (show x.data.toList = itoa (d : Int) by rw [hx])
  rw [← hx]
  clear hx
  have hown := Aside0.mk (one_own w1 x 9)
  have hrow := Aside0.mk ((hr'.out.below hb1).below (below_alloc (Below.refl w1.heap.size w1) (.cells #[.string x] 9 (0, 0))))
  have hbb := below_alloc (Below.refl w1.heap.size w1) (.cells #[.string x] 9 (0, 0))
  have hge := Aside0.mk (own_ge hown.out)
  go_wp2_with (at_builtin; refine wpList_append_rows (enc := strC) (hn := fun _ => rfl) rfl _ _ 109 rfl w1.heap.size 9 i (.string ⟨#[]⟩) _ Tryz.underlying109 hi hz0 hz1 rfl hzs (by decide) strC_one _ rfl [x] hown.out ?q0 A c ws rfl hrow.out ?q1 ?q2 ?q3 ?_)
  case q0 => exact hge.out
  case q1 => simp [maxLen]; omega
  case q2 => rw [Hz2.out, List.length_singleton]; omega
  case q3 => simp
  intro v2 w2 hown2 hb2
  have hown2 : w2.ownsRow w1.heap.size 9 1 v2 (x :: ws).length ((x :: ws).flatMap strC) := by
    rw [List.length_cons, List.flatMap_cons]
    first | exact hown2 | (simpa [Nat.add_comm, strC] using hown2)
  obtain ⟨g, cap, rfl, hbg, hgl⟩ := own_some1 hown2 (by rw [List.length_cons]; omega)
  have hcl := Aside0.mk (strs_cells hown2)
  have hcap : (x :: ws).length ≤ cap := by
    rcases hown2.2 with ⟨he, _⟩ | ⟨_, _, _, he, _, _, hle, _⟩
    · cases he
    · injection he with _ _ he
      subst he
      exact hle
  have hjn : Lib.join ((x :: ws).map (·.data.toList)) (⟨#[9]⟩ : ByteArray).data.toList ++ [10] = R := by rw [hj.out, List.map_cons, hxl.out]
  have hjl : (Lib.join ((x :: ws).map (·.data.toList)) (⟨#[9]⟩ : ByteArray).data.toList).length ≤ 100000000 := by
    have := congrArg List.length hjn
    rw [List.length_append, List.length_cons, List.length_nil] at this
    omega
  have HJ := Aside0.mk (Tryz.strings_Join g 0 cap (x :: ws) ⟨#[9]⟩ w2 hcl.out hgl (by rw [List.length_cons]; omega) hcap (by omega))
  obtain ⟨y, hy⟩ : ∃ y : ByteArray, y = ⟨(Lib.join ((x :: ws).map (·.data.toList)) (⟨#[9]⟩ : ByteArray).data.toList).toArray⟩ := ⟨_, rfl⟩
  have hfin := Aside0.mk (show y ++ ⟨#[10]⟩ = (⟨R.toArray⟩ : ByteArray) by apply str_ext; rw [hy, ← hjn, str_append])
  have hyz : y.size ≤ 100000000 := by rw [hy]; exact hjl
  rw [← hy] at HJ
  have hb12 := below_then hb1 (hbb.trans hb2)
  clear hy hjn hjl hown2 hcap
  go_wp2_with fail
  refine HJ.out.mono ?_
  rintro e w3 ⟨rfl, hb3⟩
  go_wp2
  go_ret
  exact ⟨by rw [← hfin.out]; rfl, below_then hb12 hb3⟩
theorem rowText_at (d : Nat) (ws : List ByteArray) (cells : Array Value) (w : World) (z : ByteArray) (hz : (⟨(rowL d (ws.map fun x => x.data.toList)).toArray⟩ : ByteArray) = z) (hc : cells = (ws.map Value.string).toArray) (hd : d ≤ 4194304) (hl : ws.length ≤ 1000) (hzl : z.size ≤ 100000000) (hT : Tab w) :
    Calls Tryz.prog 184 #[.int .i64 (d : Int), .slice (some ⟨w.heap.size, 0, none⟩) ws.length ws.length] (w.alloc (.cells cells 9 (0, 0))) fun e w' => e = .returned (.string z) ∧ Below w.heap.size w w' := by
  have hb : Below w.heap.size w (w.alloc (.cells cells 9 (0, 0))) := below_alloc (Below.refl _ _) _
  refine (rowText_calls d _ _ ws _ hd (row_one (ok := fun _ => True) (T := 9) ws hc trivial (by simp [maxLen]; omega)) hl (by subst hz; exact hzl) (hT.below hb)).mono ?_
  rintro e w' ⟨rfl, hb'⟩
  exact ⟨by rw [hz], below_then hb hb'⟩
end Go.Proofs.YtdggfnpioljcbaaGreatDoor
