/- Has, in any letters xml: of the spec. -/
import Derived.Test.YtpcklgkpjmmakaaGreatDoorOkPl
import Derived.Lib.IndexLaws
namespace Go.Proofs.YtpcklgkpjmmakaaGreatDoor
open Go.RowKit Go.Lib
set_option linter.unusedVariables false
set_option linter.unusedSimpArgs false
set_option maxHeartbeats 2000000
theorem ext_list (s : ByteArray) (i j : Nat) : (s.extract i j).toList = (s.data.toList.drop i).take (j - i) := by
  rw [ByteArray.toList_eq, Lib.extract_data]
theorem occ_test (s t : ByteArray) (i : Nat) : ((s.extract i (i + t.size)).toList == t.toList) = occAt s.data.toList t.data.toList i := by
  rw [ext_list, ByteArray.toList_eq, Nat.add_sub_cancel_left, occAt, Bool.eq_iff_iff, beq_iff_eq, List.isPrefixOf_iff_prefix, List.prefix_iff_eq_take, str_size]
  exact ⟨fun h => h.symm, fun h => h.symm⟩
theorem l5Has_calls (s t : ByteArray) (w : World) (hs : s.size ≤ 1000000000) (h1 : 1 ≤ t.size) (h2 : t.size ≤ 1000) :
    Calls Tryz.prog 170 #[.string s, .string t] w fun e w' => e = .returned (.bool (hasB s t.data.toList)) ∧ w = w' := by
  go_enter Tryz.func170, Tryz.ntmps170
  go_wp2
  go_loopg [5] (s.size + 1) (fun k i wr => ∃ j : Nat, i = .int .i64 j ∧ j + k = s.size + 1 ∧ Aside (NoOcc s.data.toList t.data.toList j) ∧ wr = w)
  case atStart => exact ⟨0, rfl, by omega, (fun j hj => absurd hj (Nat.not_lt_zero _)), rfl⟩
  case round =>
    obtain ⟨j, rfl, hk, ha, rfl⟩ := hrel
    by_cases hj : j + t.size ≤ s.size
    · have ht := Aside0.mk (occ_test s t j)
      cases hq : occAt s.data.toList t.data.toList j with
      | true =>
        have hfin := Aside0.mk (show hasB s t.data.toList = true by rw [hasB, contains, index_hit ha.out (by rw [str_size]; omega) hq]; simp)
        have hq' := ht.out.trans hq
        clear hq ha
        go_wp2
        go_ret
        exact ⟨by rw [hfin.out]; rfl, rfl⟩
      | false =>
        have hnx := Aside0.mk (show NoOcc s.data.toList t.data.toList (j + 1) from fun i hi => by
          rcases Nat.lt_succ_iff_lt_or_eq.1 hi with h | rfl
          · exact ha.out i h
          · exact hq)
        have hq' := ht.out.trans hq
        clear hq ha
        go_wp2
        go_roundg (gk - 1)
        case measure => omega
        case rel => exact ⟨j + 1, by go_num, by omega, hnx.out, rfl⟩
    · have hfin := Aside0.mk (show hasB s t.data.toList = false by rw [hasB, contains, index_past (by intro e; rw [← List.length_eq_zero_iff, str_size] at e; omega) ha.out (by rw [str_size, str_size]; omega)]; rfl)
      clear ha
      go_wp2
      go_ret
      exact ⟨by rw [hfin.out]; rfl, rfl⟩
theorem at_take {α : Type} (l : List α) (h : l.length = 3) : ∃ a b c, l = [a, b, c] := by
  match l, h with
  | [a, b, c], _ => exact ⟨a, b, c, rfl⟩
theorem xml_len {s : ByteArray} (h : ¬ s.size = 3) : isXml s = false := by
  rw [isXml]
  have hl : ¬ s.data.toList.length = 3 := by rw [str_size]; exact h
  generalize s.data.toList = l at hl
  match l, hl with
  | [], _ => rfl
  | [a], _ => simp [equalFold]
  | [a, b], _ => simp [equalFold]
  | a :: b :: c :: d :: r, _ => simp [equalFold]
def isCh (a : UInt8) (l u : Int) : Bool := (a.toNat : Int) == l || (a.toNat : Int) == u
theorem xml_three {s : ByteArray} (h : s.size = 3) : isXml s = (isCh (s[0]'(by omega)) 120 88 && (isCh (s[1]'(by omega)) 109 77 && isCh (s[2]'(by omega)) 108 76)) := by
  have e0 := str_get s 0 (by omega)
  have e1 := str_get s 1 (by omega)
  have e2 := str_get s 2 (by omega)
  rw [isXml]
  obtain ⟨a, b, c, hl⟩ := at_take s.data.toList (by rw [str_size]; exact h)
  rw [hl] at e0 e1 e2 ⊢
  simp only [List.getElem?_cons_zero, List.getElem?_cons_succ, Option.some.injEq] at e0 e1 e2
  rw [← e0, ← e1, ← e2]
  simp only [equalFold, foldEq, isCh, Bool.and_true]
  have f : ∀ (x : UInt8) (l u : Nat), u + 32 = l → 65 ≤ u → u ≤ 90 → decide (x.toNat = l ∨ (65 ≤ x.toNat ∧ x.toNat ≤ 90 ∧ l = x.toNat + 32) ∨ (65 ≤ l ∧ l ≤ 90 ∧ x.toNat = l + 32)) = ((x.toNat : Int) == (l : Int) || (x.toNat : Int) == (u : Int)) := by
    intro x l u h1 h2 h3
    rw [Bool.eq_iff_iff]
    simp only [Bool.or_eq_true, decide_eq_true_eq, beq_iff_eq]
    omega
  rw [show (120 : UInt8).toNat = 120 from rfl, show (109 : UInt8).toNat = 109 from rfl, show (108 : UInt8).toNat = 108 from rfl, f a 120 88 rfl (by omega) (by omega), f b 109 77 rfl (by omega) (by omega), f c 108 76 rfl (by omega) (by omega)]
  rfl
theorem l5Xml_calls (s : ByteArray) (w : World) : Calls Tryz.prog 171 #[.string s] w fun e w' => e = .returned (.bool (isXml s)) ∧ w = w' := by
  go_enter Tryz.func171, Tryz.ntmps171
  by_cases h : s.size = 3
  · have hv := Aside0.mk (xml_three h)
    obtain ⟨a, ha⟩ : ∃ a, s[0]'(by omega) = a := ⟨_, rfl⟩
    obtain ⟨b, hb⟩ : ∃ a, s[1]'(by omega) = a := ⟨_, rfl⟩
    obtain ⟨c, hc⟩ : ∃ a, s[2]'(by omega) = a := ⟨_, rfl⟩
    rw [ha, hb, hc] at hv
    have i1 : ((s.size : Int) == 3) = true := by simp; omega
    go_wp2
    all_goals (go_ret; exact ⟨by rw [hv.out]; simp [isCh, *], rfl⟩)
  · have hfin := Aside0.mk (xml_len h)
    have h1 : ¬ ((s.size : Int) = 3) := by omega
    clear h
    go_wp2
    go_ret
    exact ⟨by rw [hfin.out]; rfl, rfl⟩
end Go.Proofs.YtpcklgkpjmmakaaGreatDoor
