/- SignAt, of both. -/
import Derived.Test.YtpcklgkpjmmakaaGreatDoorSgn
import Derived.Test.YtpcklgkpjmmakaaGreatDoorSign
import Derived.Test.YtpcklgkpjmmakaaGreatDoorShelf
import Derived.Deep.DeepCutAuto
import Derived.Deep.CutBlock
namespace Go.Proofs.YtpcklgkpjmmakaaGreatDoor
open Go.RowKit Go.Lib
set_option linter.unusedVariables false
set_option linter.unusedSimpArgs false
set_option maxRecDepth 20000
set_option maxHeartbeats 0
theorem specSignAt_out (s : ByteArray) (at' : Int) (w : World) (h : at' < 0 ∨ (s.size : Int) ≤ at') :
    Calls Tryz.prog 187 #[.string s, .int .i64 at'] w fun e w' => e = .returned (sgnV none) ∧ w = w' := by
  go_enter Tryz.func187, Tryz.ntmps187
  go_wp2
  all_goals (go_ret3; exact ⟨rfl, rfl⟩)
/-- What the first byte of a sign of many says. -/
def Cls (s : ByteArray) (pos n least v0 : Nat) : Prop :=
  1 ≤ n ∧ n ≤ 3 ∧ v0 < 32 ∧ least ≤ 65536 ∧ sgnAt s pos = if pos + n < s.size ∧ conts s pos n = true ∧ least ≤ vat s pos v0 n ∧ vat s pos v0 n ≤ 1114111 ∧ ¬ (55296 ≤ vat s pos v0 n ∧ vat s pos v0 n ≤ 57343) then some (vat s pos v0 n, pos + 1 + n) else none
theorem specSignAt_in (s : ByteArray) (pos : Nat) (w : World) (h : pos < s.size) (hs : s.size ≤ 1099511627776) (hb : 128 ≤ bt s pos) :
    Calls Tryz.prog 187 #[.string s, .int .i64 pos] w fun e w' => e = .returned (sgnV (sgnAt s pos)) ∧ w = w' := by
  have e0 := bt_get s pos h
  have hb0 := bt_lt s pos
  have hmask := and_mask (bt s pos) hb0
  have hm1 := hmask.1
  have hm2 := hmask.2.1
  have hm3 := hmask.2.2
  clear hmask
  have g0 : (0 : Int) ≤ (pos : Int) := by omega
  have g1 : ¬ s.size ≤ pos := by omega
  have g2 : (128 : Int) ≤ (bt s pos : Int) := by omega
  go_enter Tryz.func187, Tryz.ntmps187
  go_upto_block 0 with fail
  go_cut [8, 9, 10] (fun a b c wx => ∃ n least v0 : Nat, a = .int .i64 n ∧ b = .int .i64 least ∧ c = .int .i64 v0 ∧ Aside (Cls s pos n least v0) ∧ wx = w)
  case first =>
    rcases (show bt s pos < 192 ∨ (192 ≤ bt s pos ∧ bt s pos < 224) ∨ (224 ≤ bt s pos ∧ bt s pos < 240) ∨ (240 ≤ bt s pos ∧ bt s pos < 248) ∨ 248 ≤ bt s pos by omega) with h1 | ⟨h1, h2⟩ | ⟨h1, h2⟩ | ⟨h1, h2⟩ | h1
    · have hfin := Aside0.mk (sgn_bad s pos h hb (.inl h1))
      go_wp2
      go_ret3
      exact ⟨by rw [hfin.out]; rfl, rfl⟩
    · have hfin := Aside0.mk (show Cls s pos 1 128 (bt s pos % 32) from ⟨by omega, by omega, by omega, by omega, sgn_1 s pos h h1 h2⟩)
      go_wp2
      go_meet
      case rel => exact ⟨_, _, _, rfl, rfl, by first | rfl | go_num, hfin.out, rfl⟩
    · have hfin := Aside0.mk (show Cls s pos 2 2048 (bt s pos % 16) from ⟨by omega, by omega, by omega, by omega, sgn_2 s pos h h1 h2⟩)
      go_wp2
      go_meet
      case rel => exact ⟨_, _, _, rfl, rfl, by first | rfl | go_num, hfin.out, rfl⟩
    · have hfin := Aside0.mk (show Cls s pos 3 65536 (bt s pos % 8) from ⟨by omega, by omega, by omega, by omega, sgn_3 s pos h h1 h2⟩)
      go_wp2
      go_meet
      case rel => exact ⟨_, _, _, rfl, rfl, by first | rfl | go_num, hfin.out, rfl⟩
    · have hfin := Aside0.mk (sgn_bad s pos h hb (.inr h1))
      go_wp2
      go_ret3
      exact ⟨by rw [hfin.out]; rfl, rfl⟩
  case rest =>
    obtain ⟨n, least, v0, rfl, rfl, rfl, hcls, rfl⟩ := hcut
    obtain ⟨hn1, hn3, hv0, hle, hsg0⟩ := hcls.out
    have hsg := Aside0.mk hsg0
    clear hsg0
    have hv := Aside0.mk (vat_lt s pos v0 hv0)
    clear hcls hm1 hm2 hm3 e0 hb hb0 g2
    by_cases hn : pos + n < s.size
    · go_wp2
      go_loopg [10, 11] n (fun k a b wr => ∃ i m : Nat, a = .int .i64 (vat s pos v0 i : Nat) ∧ b = .int .i64 m ∧ m = i + 1 ∧ i + k = n ∧ Aside (conts s pos i = true) ∧ wr = wc)
      case atStart => exact ⟨0, 1, by simp [vat], rfl, rfl, by omega, rfl, rfl⟩
      case round =>
        obtain ⟨i, m, rfl, rfl, hm, hik, ha, rfl⟩ := hrel
        have hvi := hv.out i (by omega)
        by_cases hi : i < n
        · have hlt : pos + m < s.size := by omega
          have eb := bt_get s (pos + m) hlt
          have hbm := bt_lt s (pos + m)
          have hstep := Aside0.mk (show vat s pos v0 (i + 1) = vat s pos v0 i * 64 + (bt s (pos + m) - 128) by rw [hm]; rfl)
          have hmn : m ≤ n := by omega
          generalize vat s pos v0 i = V at *
          by_cases hc : isCont (bt s (pos + m)) = true
          · have hcc := Aside0.mk (show conts s pos (i + 1) = true by rw [conts, ha.out, ← hm, hc]; rfl)
            simp only [isCont, Bool.and_eq_true, decide_eq_true_eq] at hc
            have hM := Aside0.mk hm
            clear hm
            go_wp2
            go_roundg (gk - 1)
            case measure => omega
            case rel => exact ⟨i + 1, m + 1, by rw [hstep.out]; go_num, by go_num, by have := hM.out; omega, by omega, hcc.out, rfl⟩
          · have hfin := Aside0.mk (show sgnAt s pos = none by
              rw [hsg.out, if_neg (fun hh => by
                have := conts_stop s pos (i := i) (n := n) (by omega) (by rw [← hm]; simpa using hc)
                rw [this] at hh; exact absurd hh.2.1 (by simp))])
            have hc' : bt s (pos + m) < 128 ∨ 191 < bt s (pos + m) := by simp only [isCont, Bool.and_eq_true, decide_eq_true_eq] at hc; omega
            have hM := Aside0.mk hm
            clear hc hm
            rcases hc' with hc | hc
            all_goals (go_wp2; go_ret3; exact ⟨by rw [hfin.out]; rfl, rfl⟩)
        · obtain rfl : i = n := by omega
          have hcc := ha.out
          clear ha
          generalize hV : vat s pos v0 i = V at *
          have hout : ¬ m ≤ i := by omega
          have hM := Aside0.mk hm
          clear hm
          by_cases hok : least ≤ V ∧ V ≤ 1114111 ∧ ¬ (55296 ≤ V ∧ V ≤ 57343)
          · have hfin := Aside0.mk (show sgnAt s pos = some (V, pos + 1 + i) by rw [hsg.out, if_pos ⟨hn, hcc, hok⟩])
            clear hV hsg hcc
            have d1 : ¬ (V < least) := by omega
            have d2 : ¬ (1114111 < V) := by omega
            have d3 := Aside0.mk (show (decide ((55296 : Int) ≤ (V : Int)) && decide ((V : Int) ≤ 57343)) = false by rw [Bool.and_eq_false_iff]; simp only [decide_eq_false_iff_not]; omega)
            go_wp2_with fail
            refine (l1In_calls _ _ _ _).mono ?_
            rintro e w1 ⟨rfl, rfl⟩
            rw [d3.out]
            go_wp2
            go_ret3
            exact ⟨by rw [hfin.out]; simp [sgnV] <;> omega, rfl⟩
          · have hfin := Aside0.mk (show sgnAt s pos = none by rw [hsg.out, if_neg (fun hh => hok hh.2.2)])
            clear hV hsg hcc
            rcases (show V < least ∨ (least ≤ V ∧ 1114111 < V) ∨ (least ≤ V ∧ V ≤ 1114111 ∧ 55296 ≤ V ∧ V ≤ 57343) by omega) with d1 | ⟨d1, d2⟩ | ⟨d1, d2, d3, d4⟩
            · go_wp2
              go_ret3
              exact ⟨by rw [hfin.out]; rfl, rfl⟩
            · go_wp2
              go_ret3
              exact ⟨by rw [hfin.out]; rfl, rfl⟩
            · have d5 := Aside0.mk (show (decide ((55296 : Int) ≤ (V : Int)) && decide ((V : Int) ≤ 57343)) = true by rw [Bool.and_eq_true]; simp only [decide_eq_true_eq]; omega)
              go_wp2_with fail
              refine (l1In_calls _ _ _ _).mono ?_
              rintro e w1 ⟨rfl, rfl⟩
              rw [d5.out]
              go_wp2
              go_ret3
              exact ⟨by rw [hfin.out]; rfl, rfl⟩
    · have hfin := Aside0.mk (show sgnAt s pos = none by rw [hsg.out, if_neg (fun hh => hn hh.1)])
      go_wp2
      go_ret3
      exact ⟨by rw [hfin.out]; rfl, rfl⟩
theorem specSignAt_calls (s : ByteArray) (at' : Int) (w : World) (hs : s.size ≤ 1099511627776) :
    Calls Tryz.prog 187 #[.string s, .int .i64 at'] w fun e w' => e = .returned (sgnV (sgnI s at')) ∧ w = w' := by
  by_cases h0 : at' < 0
  · refine (specSignAt_out s at' w (.inl h0)).mono ?_
    rintro e w' ⟨rfl, rfl⟩
    exact ⟨by rw [sgnI, if_pos h0], rfl⟩
  · obtain ⟨pos, rfl⟩ : ∃ p : Nat, at' = p := ⟨at'.toNat, by omega⟩
    rw [sgnI, if_neg h0, Int.toNat_natCast]
    by_cases h1 : pos < s.size
    · by_cases h2 : 128 ≤ bt s pos
      · exact specSignAt_in s pos w h1 hs h2
      · have hfin := Aside0.mk (sgn_lit s pos h1 (by omega))
        have e0 := bt_get s pos h1
        have h3 : bt s pos < 128 := by omega
        clear h0 h2
        go_enter Tryz.func187, Tryz.ntmps187
        go_wp2
        go_ret3
        exact ⟨by rw [hfin.out]; simp [sgnV], rfl⟩
    · refine (specSignAt_out s pos w (.inr (by omega))).mono ?_
      rintro e w' ⟨rfl, rfl⟩
      exact ⟨by rw [sgnAt, if_neg h1], rfl⟩
end Go.Proofs.YtpcklgkpjmmakaaGreatDoor
