/- l6Is, l6To, l3Number, l3One of the reference. -/
import Derived.Test.YtmfkdgdamepbcaaGreatDoorScan
namespace Go.Proofs.YtmfkdgdamepbcaaGreatDoor
open Go.RowKit Go.Lib
set_option linter.unusedVariables false
set_option linter.unusedSimpArgs false
set_option maxHeartbeats 4000000
set_option maxRecDepth 20000
/-- t stands in s at a. -/
def isAtB (s t : ByteArray) (a : Int) : Bool := decide (0 ≤ a) && (decide (a + t.size ≤ s.size) && occAt s.data.toList t.data.toList a.toNat)
theorem l6Is_calls (s t : ByteArray) (a : Int) (w : World) (hs : s.size ≤ 1000000000) (ht : t.size ≤ 1000000000) (ha : a ≤ 9223372036854775807) (ha0 : -9223372036854775808 ≤ a) :
    Calls Tryz.prog 86 #[.string s, .int .i64 a, .string t] w fun e w' => e = .returned (.bool (isAtB s t a)) ∧ w = w' := by
  by_cases h0 : 0 ≤ a
  case neg =>
    have hfin := Aside0.mk (show isAtB s t a = false by rw [isAtB, decide_eq_false h0]; rfl)
    go_enter Tryz.func86, Tryz.ntmps86
    go_wp2
    go_ret
    exact ⟨by rw [hfin.out]; rfl, rfl⟩
  obtain ⟨n, rfl⟩ : ∃ n : Nat, a = n := ⟨a.toNat, by omega⟩
  by_cases h1 : n + t.size ≤ s.size
  · have hfin := Aside0.mk (show isAtB s t n = occAt s.data.toList t.data.toList n by rw [isAtB, decide_eq_true h0, decide_eq_true (by omega), Int.toNat_natCast]; rfl)
    have ht := Aside0.mk (occ_test s t n)
    have i1 : (n : Int) ≤ (s.size : Int) - (t.size : Int) := by omega
    clear h0
    cases hq : occAt s.data.toList t.data.toList n with
    | false =>
      have hfin := Aside0.mk (hfin.out.trans hq)
      have hq' := ht.out.trans hq
      clear hq
      go_enter Tryz.func86, Tryz.ntmps86
      go_wp2
      go_ret
      exact ⟨by rw [hfin.out]; rfl, rfl⟩
    | true =>
      have hfin := Aside0.mk (hfin.out.trans hq)
      have hq' := ht.out.trans hq
      clear hq
      go_enter Tryz.func86, Tryz.ntmps86
      go_wp2
      go_ret
      exact ⟨by rw [hfin.out]; rfl, rfl⟩
  · have hfin := Aside0.mk (show isAtB s t n = false by rw [isAtB, decide_eq_false (p := (n : Int) + t.size ≤ s.size) (by omega)]; simp)
    have i1 : ¬ ((n : Int) ≤ (s.size : Int) - (t.size : Int)) := by omega
    clear h0
    go_enter Tryz.func86, Tryz.ntmps86
    go_wp2
    go_ret
    exact ⟨by rw [hfin.out]; rfl, rfl⟩
/-- What stands up to t from a on, and the place behind it. -/
def toV (s t : ByteArray) (a : Nat) : Value :=
  if 0 ≤ index (s.data.toList.drop a) t.data.toList then .tuple #[.string (s.extract a (a + (index (s.data.toList.drop a) t.data.toList).toNat)), .int .i64 ((a + (index (s.data.toList.drop a) t.data.toList).toNat + t.size : Nat) : Int)]
  else .tuple #[.string ⟨#[]⟩, .int .i64 (-1)]
theorem occ_drop (l t : List UInt8) (a j : Nat) : occAt (l.drop a) t j = occAt l t (a + j) := by unfold occAt; rw [List.drop_drop]
theorem l6To_calls (s t : ByteArray) (a : Nat) (w : World) (hs : s.size ≤ 1000000000) (ha : a ≤ s.size) (h1 : 1 ≤ t.size) (h2 : t.size ≤ 1000) :
    Calls Tryz.prog 87 #[.string s, .int .i64 (a : Int), .string t] w fun e w' => e = .returned (toV s t a) ∧ w = w' := by
  go_enter Tryz.func87, Tryz.ntmps87
  go_wp2
  go_loopg [8] (s.size - a + 1) (fun k i wr => ∃ j : Nat, i = .int .i64 ((a + j : Nat) : Int) ∧ j + k = s.size - a + 1 ∧ Aside (NoOcc (s.data.toList.drop a) t.data.toList j) ∧ wr = w)
  case atStart => exact ⟨0, by rw [Nat.add_zero], by omega, (fun j hj => absurd hj (Nat.not_lt_zero _)), rfl⟩
  case round =>
    obtain ⟨j, rfl, hk, hx, rfl⟩ := hrel
    obtain ⟨m, hm⟩ : ∃ m, m = a + j := ⟨_, rfl⟩
    rw [← hm]
    have hl : (s.data.toList.drop a).length = s.size - a := by rw [List.length_drop, str_size]
    by_cases hj : m + t.size ≤ s.size
    · have hot := Aside0.mk (occ_test s t m)
      have hod := Aside0.mk (occ_drop s.data.toList t.data.toList a j)
      have i1 : a ≤ m := by omega
      have i2 : m ≤ s.size := by omega
      have i3 : (a : Int) ≤ (m : Int) := by omega
      have i4 : (m : Int) ≤ (s.size : Int) := by omega
      have i5 : wrap64 ((m : Int) + (t.size : Int)) = (m : Int) + (t.size : Int) := by unfold wrap64; omega
      cases hq : occAt s.data.toList t.data.toList m with
      | true =>
        have hfin := Aside0.mk (show toV s t a = .tuple #[.string (s.extract a m), .int .i64 ((m : Int) + (t.size : Int))] by
          have := index_hit hx.out (by rw [hl]; omega) (by rw [hod.out, ← hm]; exact hq)
          rw [toV, this, if_pos (by omega), Int.toNat_natCast, ← hm, Int.natCast_add])
        have hq' := hot.out.trans hq
        clear hq hx hl hm
        go_wp2
        go_ret2
        exact ⟨by rw [hfin.out]; rfl, rfl⟩
      | false =>
        have hnx := Aside0.mk (show NoOcc (s.data.toList.drop a) t.data.toList (j + 1) from fun i hi => by
          rcases Nat.lt_succ_iff_lt_or_eq.1 hi with h | rfl
          · exact hx.out i h
          · rw [hod.out, ← hm]; exact hq)
        have hq' := hot.out.trans hq
        have HM := Aside0.mk hm
        clear hq hx hl hm
        go_wp2
        go_roundg (gk - 1)
        case measure => have := HM.out; omega
        case rel => exact ⟨j + 1, by have := HM.out; subst this; go_num, by have := HM.out; omega, hnx.out, rfl⟩
    · have hfin := Aside0.mk (show toV s t a = .tuple #[.string ⟨#[]⟩, .int .i64 (-1)] by
        have := index_past (by intro e; rw [← List.length_eq_zero_iff, str_size] at e; omega) hx.out (by rw [hl, str_size]; omega)
        rw [toV, this, if_neg (by omega)])
      have i4 : m ≤ s.size + 1 := by omega
      have i5 : wrap64 ((m : Int) + (t.size : Int)) = (m : Int) + (t.size : Int) := by unfold wrap64; omega
      have i6 : ¬ ((m : Int) + (t.size : Int) ≤ (s.size : Int)) := by omega
      clear hx hl hm
      go_wp2
      go_ret2
      exact ⟨by rw [hfin.out]; rfl, rfl⟩
/-! ### numbers to a base -/
def digVal (x : Nat) : Int := if 48 ≤ x ∧ x ≤ 57 then (x : Int) - 48 else if 97 ≤ x ∧ x ≤ 102 then (x : Int) - 97 + 10 else if 65 ≤ x ∧ x ≤ 70 then (x : Int) - 65 + 10 else -1
/-- On from n, by the digits from here. -/
def numGo (base : Int) : List UInt8 → Int → Option Int
  | [], n => some n
  | b :: r, n => if digVal b.toNat < 0 ∨ base ≤ digVal b.toNat then none else numGo base r (n * base + digVal b.toNat)
def numB (s : ByteArray) (base : Int) (most : Nat) : Int := if 1 ≤ s.size ∧ s.size ≤ most then (numGo base s.data.toList 0).getD (-1) else -1
theorem digVal_le (x : Nat) : -1 ≤ digVal x ∧ digVal x ≤ 15 := by
  unfold digVal
  repeat' split
  all_goals omega
theorem numGo_at (s : ByteArray) (base n : Int) (j : Nat) (h : j < s.size) : numGo base (s.data.toList.drop j) n =
    if digVal (s[j]'h).toNat < 0 ∨ base ≤ digVal (s[j]'h).toNat then none else numGo base (s.data.toList.drop (j + 1)) (n * base + digVal (s[j]'h).toNat) := by
  have h' : j < s.data.toList.length := by rw [str_size]; exact h
  have e := str_get s j h
  rw [List.getElem?_eq_getElem h'] at e
  injection e with e
  rw [List.drop_eq_getElem_cons h', numGo, e]
theorem l3Number_calls (s : ByteArray) (base : Int) (most : Nat) (w : World) (hs : s.size ≤ 1000000000) (h1 : 2 ≤ base) (h2 : base ≤ 16) (h3 : most ≤ 7) :
    Calls Tryz.prog 143 #[.string s, .int .i64 base, .int .i64 (most : Int)] w fun e w' => e = .returned (.int .i64 (numB s base most)) ∧ w = w' := by
  obtain ⟨R, hR⟩ : ∃ R, R = numB s base most := ⟨_, rfl⟩
  rw [← hR]
  by_cases hz : 1 ≤ s.size ∧ s.size ≤ most
  case neg =>
    have hfin := Aside0.mk (show R = -1 by rw [hR, numB, if_neg hz])
    have HI := Aside0.mk (fun W => l1In_calls (s.size : Int) 1 (most : Int) W)
    rw [show (decide ((1 : Int) ≤ (s.size : Int)) && decide ((s.size : Int) ≤ (most : Int))) = false by simp only [Bool.and_eq_false_iff, decide_eq_false_iff_not]; omega] at HI
    clear hR hz
    go_enter Tryz.func143, Tryz.ntmps143
    go_wp2_with fail
    refine (HI.out _).mono ?_
    rintro e w1 ⟨rfl, rfl⟩
    go_wp2
    go_ret
    exact ⟨by rw [hfin.out]; rfl, rfl⟩
  have HR := Aside0.mk (show R = (numGo base (s.data.toList.drop 0) 0).getD (-1) by rw [hR, numB, if_pos hz, List.drop_zero])
  have HI := Aside0.mk (fun W => l1In_calls (s.size : Int) 1 (most : Int) W)
  rw [show (decide ((1 : Int) ≤ (s.size : Int)) && decide ((s.size : Int) ≤ (most : Int))) = true by simp only [Bool.and_eq_true, decide_eq_true_eq]; omega] at HI
  obtain ⟨hz1, hz2⟩ := hz
  clear hR
  go_enter Tryz.func143, Tryz.ntmps143
  go_wp2_with fail
  refine (HI.out _).mono ?_
  rintro e w1 ⟨rfl, rfl⟩
  go_wp2
  go_loopg [7, 8] s.size (fun k a i wr => ∃ (n : Int) (j : Nat), a = .int .i64 n ∧ i = .int .i64 j ∧ j + k = s.size ∧ 0 ≤ n ∧ n < 16 ^ j ∧ Aside (R = (numGo base (s.data.toList.drop j) n).getD (-1)) ∧ w = wr)
  case atStart => exact ⟨0, 0, rfl, rfl, by omega, by omega, by decide, HR.out, rfl⟩
  case round =>
    obtain ⟨n, j, rfl, rfl, hk, hn0, hn1, ha, rfl⟩ := hrel
    by_cases hlt : j < s.size
    · have hst := Aside0.mk (numGo_at s base n j hlt)
      have hdv := digVal_le (s[j]'hlt).toNat
      have hp : (16 : Int) ^ j ≤ 16777216 := by
        have h6 : (16 : Nat) ^ j ≤ 16 ^ 6 := Nat.pow_le_pow_right (by omega) (by omega)
        have e : ((16 ^ j : Nat) : Int) = (16 : Int) ^ j := by rw [Int.natCast_pow]; rfl
        rw [← e]; omega
      have hp2 : (16 : Int) ^ (j + 1) = 16 ^ j * 16 := Int.pow_succ 16 j
      obtain ⟨P, hP⟩ : ∃ P : Int, P = 16 ^ j := ⟨_, rfl⟩
      obtain ⟨P2, hP2⟩ : ∃ P : Int, P = 16 ^ (j + 1) := ⟨_, rfl⟩
      have HP2 := Aside0.mk hP2
      rw [← hP] at hn1 hp hp2
      rw [← hP2] at hp2
      obtain ⟨x, hx⟩ : ∃ x : Nat, (s[j]'hlt).toNat = x := ⟨_, rfl⟩
      have hx256 : x < 256 := by rw [← hx]; exact UInt8.toNat_lt _
      obtain ⟨v, hv⟩ : ∃ v, v = digVal x := ⟨_, rfl⟩
      rw [hx, ← hv] at hst hdv
      have hm := Int.mul_le_mul_of_nonneg_left h2 hn0
      have hm0 : 0 ≤ n * base := Int.mul_nonneg hn0 (by omega)
      obtain ⟨q, hq⟩ : ∃ q, q = n * base := ⟨_, rfl⟩
      rw [← hq] at hm hm0 hst
      have i1 : wrap64 q = q := by unfold wrap64; omega
      have i2 : wrap64 (q + v) = q + v := by unfold wrap64; omega
      have HQ := Aside0.mk hq
      have HVE := Aside0.mk hv
      have h1a := Aside0.mk (fun W => l1In_calls (x : Int) 48 57 W)
      have h2a := Aside0.mk (fun W => l1In_calls (x : Int) 97 102 W)
      have h3a := Aside0.mk (fun W => l1In_calls (x : Int) 65 70 W)
      clear hP hP2 hv hq
      by_cases c1 : 48 ≤ x ∧ x ≤ 57
      · have e : v = (x : Int) - 48 := by rw [HVE.out, digVal, if_pos c1]
        rw [show (decide ((48 : Int) ≤ (x : Int)) && decide ((x : Int) ≤ 57)) = true by simp only [Bool.and_eq_true, decide_eq_true_eq]; omega] at h1a
        clear HVE
        go_wp2_with fail
        refine (h1a.out _).mono ?_
        rintro e w1 ⟨rfl, rfl⟩
        obtain rfl := HQ.out
        subst e
        by_cases hb : base ≤ ((x : Int) - 48)
        · have hfin := Aside0.mk (show R = -1 by rw [ha.out, hst.out, if_pos (.inr hb)]; rfl)
          clear ha hst
          go_wp2
          go_ret
          exact ⟨by rw [hfin.out]; rfl, rfl⟩
        · have hnx := Aside0.mk (show R = (numGo base (s.data.toList.drop (j + 1)) (n * base + ((x : Int) - 48))).getD (-1) by rw [ha.out, hst.out, if_neg (by omega)])
          clear ha hst
          go_wp2
          go_roundg (gk - 1)
          case measure => omega
          case rel => exact ⟨_, j + 1, rfl, by go_num, by omega, by omega, by rw [← HP2.out]; omega, hnx.out, rfl⟩
      rw [show (decide ((48 : Int) ≤ (x : Int)) && decide ((x : Int) ≤ 57)) = false by simp only [Bool.and_eq_false_iff, decide_eq_false_iff_not]; omega] at h1a
      by_cases c2 : 97 ≤ x ∧ x ≤ 102
      · have e : v = (x : Int) - 97 + 10 := by rw [HVE.out, digVal, if_neg c1, if_pos c2]
        rw [show (decide ((97 : Int) ≤ (x : Int)) && decide ((x : Int) ≤ 102)) = true by simp only [Bool.and_eq_true, decide_eq_true_eq]; omega] at h2a
        clear HVE
        go_wp2_with fail
        refine (h1a.out _).mono ?_
        rintro e w1 ⟨rfl, rfl⟩
        go_wp2_with fail
        refine (h2a.out _).mono ?_
        rintro e w1 ⟨rfl, rfl⟩
        obtain rfl := HQ.out
        subst e
        by_cases hb : base ≤ ((x : Int) - 97 + 10)
        · have hfin := Aside0.mk (show R = -1 by rw [ha.out, hst.out, if_pos (.inr hb)]; rfl)
          clear ha hst
          go_wp2
          go_ret
          exact ⟨by rw [hfin.out]; rfl, rfl⟩
        · have hnx := Aside0.mk (show R = (numGo base (s.data.toList.drop (j + 1)) (n * base + ((x : Int) - 97 + 10))).getD (-1) by rw [ha.out, hst.out, if_neg (by omega)])
          clear ha hst
          go_wp2
          go_roundg (gk - 1)
          case measure => omega
          case rel => exact ⟨_, j + 1, rfl, by go_num, by omega, by omega, by rw [← HP2.out]; omega, hnx.out, rfl⟩
      rw [show (decide ((97 : Int) ≤ (x : Int)) && decide ((x : Int) ≤ 102)) = false by simp only [Bool.and_eq_false_iff, decide_eq_false_iff_not]; omega] at h2a
      by_cases c3 : 65 ≤ x ∧ x ≤ 70
      · have e : v = (x : Int) - 65 + 10 := by rw [HVE.out, digVal, if_neg c1, if_neg c2, if_pos c3]
        rw [show (decide ((65 : Int) ≤ (x : Int)) && decide ((x : Int) ≤ 70)) = true by simp only [Bool.and_eq_true, decide_eq_true_eq]; omega] at h3a
        clear HVE
        go_wp2_with fail
        refine (h1a.out _).mono ?_
        rintro e w1 ⟨rfl, rfl⟩
        go_wp2_with fail
        refine (h2a.out _).mono ?_
        rintro e w1 ⟨rfl, rfl⟩
        go_wp2_with fail
        refine (h3a.out _).mono ?_
        rintro e w1 ⟨rfl, rfl⟩
        obtain rfl := HQ.out
        subst e
        by_cases hb : base ≤ ((x : Int) - 65 + 10)
        · have hfin := Aside0.mk (show R = -1 by rw [ha.out, hst.out, if_pos (.inr hb)]; rfl)
          clear ha hst
          go_wp2
          go_ret
          exact ⟨by rw [hfin.out]; rfl, rfl⟩
        · have hnx := Aside0.mk (show R = (numGo base (s.data.toList.drop (j + 1)) (n * base + ((x : Int) - 65 + 10))).getD (-1) by rw [ha.out, hst.out, if_neg (by omega)])
          clear ha hst
          go_wp2
          go_roundg (gk - 1)
          case measure => omega
          case rel => exact ⟨_, j + 1, rfl, by go_num, by omega, by omega, by rw [← HP2.out]; omega, hnx.out, rfl⟩
      rw [show (decide ((65 : Int) ≤ (x : Int)) && decide ((x : Int) ≤ 70)) = false by simp only [Bool.and_eq_false_iff, decide_eq_false_iff_not]; omega] at h3a
      have e : v = -1 := by rw [HVE.out, digVal, if_neg c1, if_neg c2, if_neg c3]
      have hfin := Aside0.mk (show R = -1 by rw [ha.out, hst.out, if_pos (.inl (by omega))]; rfl)
      clear HVE ha hst
      go_wp2_with fail
      refine (h1a.out _).mono ?_
      rintro e w1 ⟨rfl, rfl⟩
      go_wp2_with fail
      refine (h2a.out _).mono ?_
      rintro e w1 ⟨rfl, rfl⟩
      go_wp2_with fail
      refine (h3a.out _).mono ?_
      rintro e w1 ⟨rfl, rfl⟩
      go_wp2
      go_ret
      exact ⟨by rw [hfin.out]; rfl, rfl⟩
    · have hfin := Aside0.mk (show n = R by rw [ha.out, List.drop_eq_nil_of_le (by rw [str_size]; omega)]; rfl)
      clear ha
      go_wp2
      go_ret
      exact ⟨by rw [← hfin.out]; rfl, rfl⟩
end Go.Proofs.YtmfkdgdamepbcaaGreatDoor
