/- What is written for signs that stand for something: plain. -/
import Derived.Test.YtpcklgkpjmmakaaGreatDoorNodeF
import Derived.Lib.Replace
import Derived.Lib.Strings
namespace Go.Proofs.YtpcklgkpjmmakaaGreatDoor
open Go.RowKit Go.Lib
set_option linter.unusedVariables false
def rep1 (c : UInt8) (new : List UInt8) (b : UInt8) : List UInt8 := if b = c then new else [b]
def rep (c : UInt8) (new : List UInt8) (l : List UInt8) : List UInt8 := l.flatMap (rep1 c new)
theorem index_nil (c : UInt8) : index [] [c] = -1 := rfl
theorem index_eq (c : UInt8) (l : List UInt8) : index (c :: l) [c] = 0 := by rw [index]; simp [List.isPrefixOf]
theorem index_ne {b c : UInt8} (l : List UInt8) (h : b ≠ c) : index (b :: l) [c] = if index l [c] == -1 then -1 else index l [c] + 1 := by
  rw [index, if_neg (by simp [List.isPrefixOf]; exact fun e => h e.symm)]
theorem replaceK_rep (c : UInt8) (new : List UInt8) : ∀ (s : List UInt8) (k : Nat), s.count c ≤ k → replaceK [c] new k s = rep c new s
  | [], 0, _ => rfl
  | [], k + 1, _ => by rw [replaceK, if_pos (by rw [index_nil]; rfl)]; rfl
  | b :: l, k, h => by
    by_cases e : b = c
    · subst e
      rw [List.count_cons_self] at h
      obtain ⟨k', rfl⟩ : ∃ k', k = k' + 1 := ⟨k - 1, by omega⟩
      rw [replaceK, if_neg (by rw [index_eq]; decide), index_eq]
      have := replaceK_rep b new l k' (by omega)
      simp only [Int.toNat_zero, List.take_zero, List.nil_append, Nat.zero_add, List.length_cons, List.length_nil, List.drop_succ_cons, List.drop_zero]
      rw [this, rep, rep, List.flatMap_cons, rep1, if_pos rfl]
    · rw [List.count_cons_of_ne (fun x => e x)] at h
      have ih := replaceK_rep c new l k h
      have hr : rep c new (b :: l) = b :: rep c new l := by rw [rep, List.flatMap_cons, rep1, if_neg e]; rfl
      rw [hr]
      cases k with
      | zero => rw [replaceK] at ih ⊢; rw [← ih]
      | succ k =>
        by_cases hm : index l [c] = -1
        · rw [replaceK, if_pos (by rw [hm]; rfl)] at ih
          rw [replaceK, if_pos (by rw [index_ne l e, hm]; rfl), ← ih]
        · have hge := index_ge l [c]
          obtain ⟨i, hi⟩ : ∃ i : Nat, index l [c] = i := ⟨(index l [c]).toNat, by omega⟩
          rw [replaceK_hit [c] new k l i hi] at ih
          rw [replaceK_hit [c] new k (b :: l) (i + 1) (by rw [index_ne l e, if_neg (by rw [hi]; simp), hi]; omega)]
          rw [← ih]
          simp
theorem replaceAll_rep (c : UInt8) (new s : List UInt8) (h : [c] ≠ new) : replaceAll s [c] new = rep c new s := by
  unfold replaceAll replace
  rw [if_neg (by simpa using h), replaceNum, if_pos (.inl (by omega)), count_one]
  exact replaceK_rep c new s _ (Nat.le_refl _)
theorem flatMap_length_le {f : UInt8 → List UInt8} {k : Nat} (h : ∀ b, (f b).length ≤ k) (l : List UInt8) : (l.flatMap f).length ≤ k * l.length := by
  induction l with
  | nil => simp
  | cons b l ih =>
    rw [List.flatMap_cons, List.length_append, List.length_cons, Nat.mul_add]
    have := h b
    omega
theorem rep_length (c : UInt8) (new l : List UInt8) (h : 1 ≤ new.length) : (rep c new l).length ≤ new.length * l.length := by
  refine flatMap_length_le (fun b => ?_) l
  unfold rep1
  split
  · exact Nat.le_refl _
  · simpa using h
def escC (b : UInt8) : List UInt8 := if b = 38 then [38, 97, 109, 112, 59] else if b = 60 then [38, 108, 116, 59] else if b = 62 then [38, 103, 116, 59] else if b = 13 then [38, 35, 49, 51, 59] else [b]
def escA (b : UInt8) : List UInt8 := if b = 34 then [38, 113, 117, 111, 116, 59] else if b = 9 then [38, 35, 57, 59] else if b = 10 then [38, 35, 49, 48, 59] else escC b
def escT (l : List UInt8) : List UInt8 := l.flatMap escC
def escAt (l : List UInt8) : List UInt8 := l.flatMap escA
theorem escT_chain (l : List UInt8) : rep 13 [38, 35, 49, 51, 59] (rep 62 [38, 103, 116, 59] (rep 60 [38, 108, 116, 59] (rep 38 [38, 97, 109, 112, 59] l))) = escT l := by
  unfold rep escT
  simp only [List.flatMap_assoc]
  congr 1
  funext b
  unfold escC rep1
  by_cases h1 : b = 38
  · subst h1; rfl
  by_cases h2 : b = 60
  · subst h2; rfl
  by_cases h3 : b = 62
  · subst h3; rfl
  by_cases h4 : b = 13
  · subst h4; rfl
  simp [h1, h2, h3, h4]
theorem escAt_chain (l : List UInt8) : rep 10 [38, 35, 49, 48, 59] (rep 9 [38, 35, 57, 59] (rep 34 [38, 113, 117, 111, 116, 59] (escT l))) = escAt l := by
  unfold rep escT escAt
  simp only [List.flatMap_assoc]
  congr 1
  funext b
  unfold escA escC rep1
  by_cases h1 : b = 38
  · subst h1; rfl
  by_cases h2 : b = 60
  · subst h2; rfl
  by_cases h3 : b = 62
  · subst h3; rfl
  by_cases h4 : b = 13
  · subst h4; rfl
  by_cases h5 : b = 34
  · subst h5; rfl
  by_cases h6 : b = 9
  · subst h6; rfl
  by_cases h7 : b = 10
  · subst h7; rfl
  simp [h1, h2, h3, h4, h5, h6, h7]
theorem escC_le (b : UInt8) : (escC b).length ≤ 6 := by unfold escC; repeat' split
                                                        all_goals simp
theorem escA_le (b : UInt8) : (escA b).length ≤ 6 := by
  unfold escA
  have := escC_le b
  repeat' split
  all_goals first | exact this | simp
theorem str_size (s : ByteArray) : s.data.toList.length = s.size := by rw [Array.length_toList]; rfl
theorem str_ext {a b : ByteArray} (h : a.data.toList = b.data.toList) : a = b := by
  obtain ⟨⟨l⟩⟩ := a
  obtain ⟨⟨m⟩⟩ := b
  simpa using h
theorem str_append (a b : ByteArray) : (a ++ b).data.toList = a.data.toList ++ b.data.toList := by rw [ByteArray.data_append, Array.toList_append]
theorem str_get (s : ByteArray) (k : Nat) (h : k < s.size) : s.data.toList[k]? = some s[k] := by
  rw [List.getElem?_eq_getElem (by rw [str_size]; exact h)]; rfl
theorem str_take (s : ByteArray) (k : Nat) (h : k < s.size) : s.data.toList.take (k + 1) = s.data.toList.take k ++ [s[k]] := by
  rw [List.take_succ_eq_append_getElem (by rw [str_size]; exact h)]; rfl
end Go.Proofs.YtpcklgkpjmmakaaGreatDoor
