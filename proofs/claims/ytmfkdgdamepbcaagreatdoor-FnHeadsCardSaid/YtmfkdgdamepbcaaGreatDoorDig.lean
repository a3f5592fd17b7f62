/- The program's isDigits, to 10 and to 16. -/
import Derived.Test.YtmfkdgdamepbcaaGreatDoorScanS
import Derived.Test.YtmfkdgdamepbcaaGreatDoorFitA
namespace Go.Proofs.YtmfkdgdamepbcaaGreatDoor
open Go.RowKit Go.Lib
set_option linter.unusedVariables false
set_option linter.unusedSimpArgs false
set_option maxHeartbeats 4000000
set_option maxRecDepth 100000
def digOk (base : Int) (b : UInt8) : Bool := decide (0 ≤ digVal b.toNat) && decide (digVal b.toNat < base)
def digsOk (s : ByteArray) (base : Int) (most : Nat) : Bool := s.data.toList.all (digOk base) && (decide (1 ≤ s.size) && decide (s.size ≤ most))
theorem digOk_at (base : Int) (x : Nat) (b : UInt8) (h : b.toNat = x) : digOk base b = (decide (0 ≤ digVal x) && decide (digVal x < base)) := by rw [digOk, h]
theorem numGo_some (base : Int) : ∀ (l : List UInt8) (n : Int), (numGo base l n).isSome = l.all (digOk base)
  | [], n => rfl
  | b :: l, n => by
    rw [numGo, List.all_cons]
    split
    · rename_i h
      rw [show digOk base b = false by rw [digOk, Bool.and_eq_false_iff, decide_eq_false_iff_not, decide_eq_false_iff_not]; omega]; rfl
    · rename_i h
      rw [numGo_some base l, show digOk base b = true by rw [digOk, Bool.and_eq_true, decide_eq_true_eq, decide_eq_true_eq]; omega, Bool.true_and]
theorem isDigits10_calls (s : ByteArray) (most : Nat) (w : World) (hs : s.size ≤ 1000000000) (hm : most ≤ 7) :
    Calls Tryz.prog 165 #[.string s, .int .i64 10, .int .i64 (most : Int)] w fun e w' => e = .returned (.bool (digsOk s 10 most)) ∧ w = w' := by
  obtain ⟨R, hR⟩ : ∃ R, R = digsOk s 10 most := ⟨_, rfl⟩
  have HR := Aside0.mk (show R = (s.data.toList.all (digOk 10) && (decide (1 ≤ s.size) && decide (s.size ≤ most))) from hR)
  rw [← hR]
  clear hR
  go_enter Tryz.func165, Tryz.ntmps165
  go_wp2
  go_loopg [11] s.size (fun k i wr => ∃ (j : Nat), i = .int .i64 j ∧ j + k = s.size ∧ Aside (∀ y ∈ s.data.toList.take j, digOk 10 y = true) ∧ w = wr)
  case atStart => exact ⟨0, rfl, by omega, (fun y hy => by simp at hy), rfl⟩
  case round =>
    obtain ⟨j, rfl, hk, ha, rfl⟩ := hrel
    by_cases hlt : j < s.size
    · have h' : j < s.data.toList.length := by rw [str_size]; exact hlt
      have hge : s.data.toList[j]'h' = s[j]'hlt := by
        have e := str_get s j hlt
        rw [List.getElem?_eq_getElem h'] at e
        injection e
      obtain ⟨x, hx⟩ : ∃ x : Nat, (s[j]'hlt).toNat = x := ⟨_, rfl⟩
      have hx256 : x < 256 := by rw [← hx]; exact UInt8.toNat_lt _
      have hdg := Aside0.mk (digOk_at 10 x _ (show (s.data.toList[j]'h').toNat = x by rw [hge, hx]))
      have HX := Aside0.mk (And.intro h' trivial)
      clear hge
      by_cases c1 : 48 ≤ x ∧ x ≤ 57
      · obtain ⟨c2, c3⟩ := c1
        have hnx := Aside0.mk (take_all (P := fun y => digOk 10 y = true) h' ha.out (by rw [hdg.out, Bool.and_eq_true, decide_eq_true_eq, decide_eq_true_eq]; unfold digVal; repeat' split; all_goals omega))
        clear ha hdg HX h'
        go_wp2
        go_roundg (gk - 1)
        case measure => omega
        case rel => exact ⟨j + 1, by go_num, by omega, hnx.out, rfl⟩
      · by_cases c2 : x < 48
        · clear c1
          have hfin := Aside0.mk (show R = false by
            rw [HR.out, all_bad (j := j) h' (by rw [hdg.out, Bool.and_eq_false_iff, decide_eq_false_iff_not, decide_eq_false_iff_not]; unfold digVal; repeat' split; all_goals omega)]; rfl)
          clear ha hdg HX h'
          go_wp2
          go_ret
          exact ⟨by rw [hfin.out]; rfl, rfl⟩
        · have c3 : 57 < x := by omega
          clear c1
          have hfin := Aside0.mk (show R = false by
            rw [HR.out, all_bad (j := j) h' (by rw [hdg.out, Bool.and_eq_false_iff, decide_eq_false_iff_not, decide_eq_false_iff_not]; unfold digVal; repeat' split; all_goals omega)]; rfl)
          clear ha hdg HX h'
          go_wp2
          go_ret
          exact ⟨by rw [hfin.out]; rfl, rfl⟩
    · obtain ⟨v, hv⟩ : ∃ v : Bool, v = (decide ((1 : Int) ≤ (s.size : Int)) && decide ((s.size : Int) ≤ (most : Int))) := ⟨_, rfl⟩
      have HI := Aside0.mk (fun W => in_calls (s.size : Int) 1 (most : Int) W)
      rw [← hv] at HI
      have hfin := Aside0.mk (show R = v by
        have hall := ha.out
        rw [List.take_of_length_le (by rw [str_size]; omega)] at hall
        rw [HR.out, List.all_eq_true.2 hall, Bool.true_and, hv]
        congr 1
        · exact decide_eq_decide.2 (by omega)
        · exact decide_eq_decide.2 (by omega))
      clear ha hv
      go_wp2_with fail
      refine (HI.out _).mono ?_
      rintro e w1 ⟨rfl, rfl⟩
      go_wp2
      go_ret
      exact ⟨by rw [hfin.out]; rfl, rfl⟩
theorem isDigits16_calls (s : ByteArray) (most : Nat) (w : World) (hs : s.size ≤ 1000000000) (hm : most ≤ 7) :
    Calls Tryz.prog 165 #[.string s, .int .i64 16, .int .i64 (most : Int)] w fun e w' => e = .returned (.bool (digsOk s 16 most)) ∧ w = w' := by
  obtain ⟨R, hR⟩ : ∃ R, R = digsOk s 16 most := ⟨_, rfl⟩
  have HR := Aside0.mk (show R = (s.data.toList.all (digOk 16) && (decide (1 ≤ s.size) && decide (s.size ≤ most))) from hR)
  rw [← hR]
  clear hR
  go_enter Tryz.func165, Tryz.ntmps165
  go_wp2
  go_loopg [11] s.size (fun k i wr => ∃ (j : Nat), i = .int .i64 j ∧ j + k = s.size ∧ Aside (∀ y ∈ s.data.toList.take j, digOk 16 y = true) ∧ w = wr)
  case atStart => exact ⟨0, rfl, by omega, (fun y hy => by simp at hy), rfl⟩
  case round =>
    obtain ⟨j, rfl, hk, ha, rfl⟩ := hrel
    by_cases hlt : j < s.size
    · have h' : j < s.data.toList.length := by rw [str_size]; exact hlt
      have hge : s.data.toList[j]'h' = s[j]'hlt := by
        have e := str_get s j hlt
        rw [List.getElem?_eq_getElem h'] at e
        injection e
      obtain ⟨x, hx⟩ : ∃ x : Nat, (s[j]'hlt).toNat = x := ⟨_, rfl⟩
      have hx256 : x < 256 := by rw [← hx]; exact UInt8.toNat_lt _
      have hdg := Aside0.mk (digOk_at 16 x _ (show (s.data.toList[j]'h').toNat = x by rw [hge, hx]))
      have HX := Aside0.mk (And.intro h' trivial)
      clear hge
      by_cases c1 : 48 ≤ x ∧ x ≤ 57
      · obtain ⟨c2, c3⟩ := c1
        have hnx := Aside0.mk (take_all (P := fun y => digOk 16 y = true) h' ha.out (by rw [hdg.out, Bool.and_eq_true, decide_eq_true_eq, decide_eq_true_eq]; unfold digVal; repeat' split; all_goals omega))
        clear ha hdg HX h'
        go_wp2
        go_roundg (gk - 1)
        case measure => omega
        case rel => exact ⟨j + 1, by go_num, by omega, hnx.out, rfl⟩
      by_cases c4 : 97 ≤ x ∧ x ≤ 102
      · obtain ⟨c5, c6⟩ := c4
        clear c1
        have hnx := Aside0.mk (take_all (P := fun y => digOk 16 y = true) h' ha.out (by rw [hdg.out, Bool.and_eq_true, decide_eq_true_eq, decide_eq_true_eq]; unfold digVal; repeat' split; all_goals omega))
        clear ha hdg HX h'
        go_wp2
        go_roundg (gk - 1)
        case measure => omega
        case rel => exact ⟨j + 1, by go_num, by omega, hnx.out, rfl⟩
      by_cases c7 : 65 ≤ x ∧ x ≤ 70
      · obtain ⟨c8, c9⟩ := c7
        clear c1 c4
        have hnx := Aside0.mk (take_all (P := fun y => digOk 16 y = true) h' ha.out (by rw [hdg.out, Bool.and_eq_true, decide_eq_true_eq, decide_eq_true_eq]; unfold digVal; repeat' split; all_goals omega))
        clear ha hdg HX h'
        go_wp2
        go_roundg (gk - 1)
        case measure => omega
        case rel => exact ⟨j + 1, by go_num, by omega, hnx.out, rfl⟩
      by_cases d1 : x < 48
      · clear c1 c4 c7
        have hfin := Aside0.mk (show R = false by
          rw [HR.out, all_bad (j := j) h' (by rw [hdg.out, Bool.and_eq_false_iff, decide_eq_false_iff_not, decide_eq_false_iff_not]; unfold digVal; repeat' split; all_goals omega)]; rfl)
        clear ha hdg HX h'
        go_wp2
        go_ret
        exact ⟨by rw [hfin.out]; rfl, rfl⟩
      by_cases d2 : x < 65
      · have d3 : 57 < x := by omega
        clear c1 c4 c7 d1
        have hfin := Aside0.mk (show R = false by
          rw [HR.out, all_bad (j := j) h' (by rw [hdg.out, Bool.and_eq_false_iff, decide_eq_false_iff_not, decide_eq_false_iff_not]; unfold digVal; repeat' split; all_goals omega)]; rfl)
        clear ha hdg HX h'
        go_wp2
        go_ret
        exact ⟨by rw [hfin.out]; rfl, rfl⟩
      by_cases d4 : x < 97
      · have d5 : 70 < x := by omega
        clear c1 c4 c7 d1 d2
        have hfin := Aside0.mk (show R = false by
          rw [HR.out, all_bad (j := j) h' (by rw [hdg.out, Bool.and_eq_false_iff, decide_eq_false_iff_not, decide_eq_false_iff_not]; unfold digVal; repeat' split; all_goals omega)]; rfl)
        clear ha hdg HX h'
        go_wp2
        go_ret
        exact ⟨by rw [hfin.out]; rfl, rfl⟩
      have d6 : 102 < x := by omega
      clear c1 c4 c7 d1 d2 d4
      have hfin := Aside0.mk (show R = false by
        rw [HR.out, all_bad (j := j) h' (by rw [hdg.out, Bool.and_eq_false_iff, decide_eq_false_iff_not, decide_eq_false_iff_not]; unfold digVal; repeat' split; all_goals omega)]; rfl)
      clear ha hdg HX h'
      go_wp2
      go_ret
      exact ⟨by rw [hfin.out]; rfl, rfl⟩
    · obtain ⟨v, hv⟩ : ∃ v : Bool, v = (decide ((1 : Int) ≤ (s.size : Int)) && decide ((s.size : Int) ≤ (most : Int))) := ⟨_, rfl⟩
      have HI := Aside0.mk (fun W => in_calls (s.size : Int) 1 (most : Int) W)
      rw [← hv] at HI
      have hfin := Aside0.mk (show R = v by
        have hall := ha.out
        rw [List.take_of_length_le (by rw [str_size]; omega)] at hall
        rw [HR.out, List.all_eq_true.2 hall, Bool.true_and, hv]
        congr 1
        · exact decide_eq_decide.2 (by omega)
        · exact decide_eq_decide.2 (by omega))
      clear ha hv
      go_wp2_with fail
      refine (HI.out _).mono ?_
      rintro e w1 ⟨rfl, rfl⟩
      go_wp2
      go_ret
      exact ⟨by rw [hfin.out]; rfl, rfl⟩
end Go.Proofs.YtmfkdgdamepbcaaGreatDoor
