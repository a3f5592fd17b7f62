/- Expand of the reference. -/
import Derived.Test.YtmfkdgdamepbcaaGreatDoorOne3
namespace Go.Proofs.YtmfkdgdamepbcaaGreatDoor
open Go.RowKit Go.Lib
set_option linter.unusedVariables false
set_option linter.unusedSimpArgs false
set_option maxHeartbeats 4000000
set_option maxRecDepth 100000
/-- The place of the next ; from here on, or the end. -/
def semi (s : ByteArray) : Nat → Nat → Nat
  | 0, k => k
  | f + 1, k => if k < s.size ∧ ¬ bt s k = 59 then semi s f (k + 1) else k
def semiN (s : ByteArray) (k : Nat) : Nat := semi s (s.size - k) k
theorem semiN_go {s : ByteArray} {k : Nat} (h : k < s.size) (hb : ¬ bt s k = 59) : semiN s k = semiN s (k + 1) := by
  unfold semiN
  rw [show s.size - k = (s.size - (k + 1)) + 1 by omega, semi, if_pos ⟨h, hb⟩]
theorem semiN_stop {s : ByteArray} {k : Nat} (h : ¬ (k < s.size ∧ ¬ bt s k = 59)) : semiN s k = k := by
  unfold semiN
  cases e : s.size - k with
  | zero => rfl
  | succ f => rw [semi, if_neg h]
theorem semi_le (s : ByteArray) : ∀ f k, k ≤ semi s f k ∧ semi s f k ≤ k + f
  | 0, k => by simp [semi]
  | f + 1, k => by
    have := semi_le s f (k + 1)
    rw [semi]
    split <;> omega
theorem semiN_le (s : ByteArray) (k : Nat) (h : k ≤ s.size) : k ≤ semiN s k ∧ semiN s k ≤ s.size := by
  have := semi_le s (s.size - k) k
  unfold semiN
  omega
def expGo (s : ByteArray) (l : List Dcl) : Nat → Nat → ByteArray → Option ByteArray
  | 0, _, out => some out
  | f + 1, a, out =>
    if a < s.size then
      if bt s a = 38 then
        if semiN s a = s.size then none
        else if (standsV (s.extract (a + 1) (semiN s a)) l).2 = true then expGo s l f (semiN s a + 1) (out ++ (standsV (s.extract (a + 1) (semiN s a)) l).1) else none
      else expGo s l f (a + 1) (out ++ s.extract a (a + 1))
    else some out
def expN (s : ByteArray) (l : List Dcl) (a : Nat) (out : ByteArray) : Option ByteArray := expGo s l (s.size - a) a out
def expandV (s : ByteArray) (l : List Dcl) : Option ByteArray :=
  if (signsB s && decide (s.size ≤ 1500)) = true ∧ entsOk l = true then (expN s l 0 ⟨#[]⟩).bind fun o => if textOk o = true then some o else none else none
def optV (o : Option ByteArray) : Value := match o with | some b => .tuple #[.string b, .bool true] | none => .tuple #[.string ⟨#[]⟩, .bool false]
theorem expGo_fuel (s : ByteArray) (l : List Dcl) : ∀ f f' a out, s.size - a ≤ f → s.size - a ≤ f' → expGo s l f a out = expGo s l f' a out
  | 0, 0, _, _, _, _ => rfl
  | 0, f' + 1, a, out, h, _ => by rw [expGo, expGo, if_neg (by omega)]
  | f + 1, 0, a, out, _, h => by rw [expGo, expGo, if_neg (by omega)]
  | f + 1, f' + 1, a, out, h1, h2 => by
    rw [expGo, expGo]
    split
    · rename_i ha
      have := semiN_le s a (by omega)
      rw [expGo_fuel s l f f' (a + 1) _ (by omega) (by omega), expGo_fuel s l f f' (semiN s a + 1) _ (by omega) (by omega)]
    · rfl
theorem expN_end {s : ByteArray} {l : List Dcl} {a : Nat} {out : ByteArray} (h : ¬ a < s.size) : expN s l a out = some out := by
  rw [expN, show s.size - a = 0 by omega, expGo]
theorem expN_at {s : ByteArray} {l : List Dcl} {a : Nat} {out : ByteArray} (h : a < s.size) : expN s l a out =
    if bt s a = 38 then
        if semiN s a = s.size then none
        else if (standsV (s.extract (a + 1) (semiN s a)) l).2 = true then expN s l (semiN s a + 1) (out ++ (standsV (s.extract (a + 1) (semiN s a)) l).1) else none
      else expN s l (a + 1) (out ++ s.extract a (a + 1)) := by
  have := semiN_le s a (by omega)
  unfold expN
  rw [show s.size - a = (s.size - a - 1) + 1 by omega, expGo, if_pos h, expGo_fuel s l (s.size - a - 1) (s.size - (a + 1)) (a + 1) _ (by omega) (by omega),
    expGo_fuel s l (s.size - a - 1) (s.size - (semiN s a + 1)) (semiN s a + 1) _ (by omega) (by omega)]
theorem enc_size (n : Int) : (signB n).size ≤ 4 := by
  unfold signB
  split
  · rename_i h
    obtain ⟨m, rfl⟩ : ∃ m : Nat, n = m := ⟨n.toNat, by omega⟩
    rw [enc_valid m (by omega) h.2.2]
    repeat' split
    all_goals simp [ByteArray.size]
  · decide
theorem knownV_size (s : ByteArray) : (knownV s).size ≤ 1 := by
  unfold knownV
  repeat' split
  all_goals decide
theorem stands_size {l : List Dcl} (h : entsOk l = true) (s : ByteArray) : (standsV s l).1.size ≤ 1000 := by
  unfold standsV
  split
  · exact Nat.le_trans (enc_size _) (by omega)
  · split
    · exact Nat.le_trans (knownV_size _) (by omega)
    · split
      · rename_i e he
        have hm := List.mem_of_find?_eq_some he
        have ht := ((small_ents h).2 e hm).2
        rw [textOk, Bool.and_eq_true, decide_eq_true_eq] at ht
        exact Nat.le_trans ht.1 (by omega)
      · decide
def okText (o : ByteArray) : Option ByteArray := if textOk o = true then some o else none
theorem specExpand_calls {ok : Nat → Prop} (s : ByteArray) (A : Option Addr) (c : Nat) (l : List Dcl) (w : World) (hr : Row Kd.dcl w ok A l) (hs : s.size ≤ 1000000000) (hz : ∀ d ∈ l, d.pre.size ≤ 1048576 ∧ d.uri.size ≤ 1048576) :
    Calls Tryz.prog 91 #[.string s, .slice A l.length c] w fun e w' => e = .returned (optV (expandV s l)) ∧ Below w.heap.size w w' := by
  obtain ⟨R, hR⟩ : ∃ R, R = expandV s l := ⟨_, rfl⟩
  rw [← hR]
  have HRow := Aside0.mk (fun W1 (hb : Below w.heap.size w W1) => hr.below hb)
  have HS := Aside0.mk (l1Signs_calls s w (by omega))
  have HEn := Aside0.mk (fun W1 (hb : Below w.heap.size w W1) => specEntsOk_calls A c l W1 (hr.below hb) hz)
  clear hr hz
  cases hq : (signsB s && decide (s.size ≤ 1500)) with
  | false =>
    have hfin := Aside0.mk (show optV R = .tuple #[.string ⟨#[]⟩, .bool false] by rw [hR, expandV, if_neg (by rw [hq]; simp)]; rfl)
    rw [hq] at HS
    clear hq hR
    go_enter Tryz.func91, Tryz.ntmps91
    go_wp2_with fail
    refine (HS.out).mono ?_
    rintro e w1 ⟨rfl, hb1⟩
    go_wp2
    go_ret2
    exact ⟨by rw [hfin.out]; rfl, hb1⟩
  | true =>
  cases hq2 : entsOk l with
  | false =>
    have hfin := Aside0.mk (show optV R = .tuple #[.string ⟨#[]⟩, .bool false] by rw [hR, expandV, if_neg (by rw [hq2]; simp)]; rfl)
    rw [hq] at HS
    rw [hq2] at HEn
    clear hq hR hq2
    go_enter Tryz.func91, Tryz.ntmps91
    go_wp2_with fail
    refine (HS.out).mono ?_
    rintro e w1 ⟨rfl, hb1⟩
    go_wp2_with fail
    refine (HEn.out _ hb1).mono ?_
    rintro e w2 ⟨rfl, hb2⟩
    go_wp2
    go_ret2
    exact ⟨by rw [hfin.out]; rfl, below_then hb1 hb2⟩
  | true =>
  have HR := Aside0.mk (show R = (expN s l 0 ⟨#[]⟩).bind okText by rw [hR, expandV, if_pos ⟨hq, hq2⟩]; rfl)
  have hsm : s.size ≤ 1500 := by simp only [Bool.and_eq_true, decide_eq_true_eq] at hq; exact hq.2
  have hst := Aside0.mk (stands_size hq2)
  rw [hq] at HS
  rw [hq2] at HEn
  clear hq hR hq2
  go_enter Tryz.func91, Tryz.ntmps91
  go_wp2_with fail
  refine (HS.out).mono ?_
  rintro e w1 ⟨rfl, hb1⟩
  go_wp2_with fail
  refine (HEn.out _ hb1).mono ?_
  rintro e w2 ⟨rfl, hb2⟩
  have hb02 := below_then hb1 hb2
  clear hb1 hb2
  go_wp2
  go_loopg [6, 7] s.size (fun g u i wr => ∃ (out : ByteArray) (a : Nat), u = .string out ∧ i = .int .i64 a ∧ a + g = s.size ∧ out.size ≤ 1000 * a ∧ Aside (R = (expN s l a out).bind okText) ∧ Below w.heap.size w wr)
  case atStart => exact ⟨_, 0, rfl, rfl, by omega, by decide, HR.out, hb02⟩
  case round =>
    clear hb02
    obtain ⟨out, a, rfl, rfl, hk, hoz, ha, hb⟩ := hrel
    by_cases hlt : a < s.size
    · have hat := Aside0.mk (expN_at (l := l) (out := out) hlt)
      obtain ⟨x, hx⟩ : ∃ x : Nat, (s[a]'hlt).toNat = x := ⟨_, rfl⟩
      have hbx := Aside0.mk (show bt s a = x by rw [← hx, bt_get])
      by_cases h38 : x = 38
      · have hx1 : ((x : Int) != 38) = false := by simp [h38]
        have hat := Aside0.mk (hat.out.trans (if_pos (by rw [hbx.out, h38])))
        have h59 := Aside0.mk (show ¬ bt s a = 59 by rw [hbx.out, h38]; omega)
        clear h38
        go_wp2
        go_loopg [8] (s.size - a) (fun g2 i wz => ∃ k : Nat, i = .int .i64 k ∧ k + g2 = s.size ∧ a ≤ k ∧ Aside (semiN s a = semiN s k) ∧ wr = wz)
        case atStart => exact ⟨a, rfl, by omega, Nat.le_refl _, rfl, rfl⟩
        case round =>
          obtain ⟨k, rfl, hk2, hak, hse, rfl⟩ := hrel
          by_cases hkl : k < s.size
          · obtain ⟨y, hy⟩ : ∃ y : Nat, (s[k]'hkl).toNat = y := ⟨_, rfl⟩
            have hby := Aside0.mk (show bt s k = y by rw [← hy, bt_get])
            by_cases hy59 : y = 59
            · have hy1 : ((y : Int) != 59) = false := by simp [hy59]
              have hks := Aside0.mk (show semiN s a = k by rw [hse.out, semiN_stop (fun h => h.2 (by rw [hby.out, hy59]))])
              have hak1 : a + 1 ≤ k := by
                rcases Nat.eq_or_lt_of_le hak with e | e
                · exact absurd (show bt s a = 59 by rw [e, hby.out, hy59]) h59.out
                · exact e
              have hkn : ((k : Int) == (s.size : Int)) = false := by simp; omega
              have hat := Aside0.mk (hat.out.trans (show _ = (if (standsV (s.extract (a + 1) k) l).2 = true then expN s l (k + 1) (out ++ (standsV (s.extract (a + 1) k) l).1) else none) by rw [hks.out, if_neg (by omega)]))
              have HO := Aside0.mk (l3One_calls (s.extract (a + 1) k) A c l wr (HRow.out _ hb) (by rw [ByteArray.size_extract]; omega))
              have hz1 := hst.out (s.extract (a + 1) k)
              obtain ⟨v, hv⟩ : ∃ v, v = (standsV (s.extract (a + 1) k) l).1 := ⟨_, rfl⟩
              obtain ⟨t, ht⟩ : ∃ t, t = (standsV (s.extract (a + 1) k) l).2 := ⟨_, rfl⟩
              rw [← hv] at HO hat hz1
              rw [← ht] at HO hat
              clear hv ht hy59 hse
              go_wp2_with fail
              refine (HO.out).mono ?_
              rintro e w3 ⟨rfl, hb3⟩
              cases t with
              | false =>
                have hfin := Aside0.mk (show optV R = .tuple #[.string ⟨#[]⟩, .bool false] by rw [ha.out, hat.out]; rfl)
                clear ha
                go_wp2
                go_ret2
                exact ⟨by rw [hfin.out]; rfl, below_then hb hb3⟩
              | true =>
                have hnx := Aside0.mk (show R = (expN s l (k + 1) (out ++ v)).bind okText by rw [ha.out, hat.out, if_pos rfl])
                have hoz2 : (out ++ v).size ≤ 1000 * (k + 1) := by rw [ByteArray.size_append]; omega
                have hzz : ¬ (9223372036854775807 < out.size + v.size) := by omega
                clear ha
                go_wp2
                go_roundg (s.size - (k + 1))
                case measure => omega
                case rel => exact ⟨_, k + 1, rfl, by go_num, by omega, hoz2, hnx.out, below_then hb hb3⟩
            · have hy1 : ((y : Int) != 59) = true := by simp; omega
              have hnx := Aside0.mk (show semiN s a = semiN s (k + 1) by rw [hse.out, semiN_go hkl (by rw [hby.out]; exact hy59)])
              clear hse hy59
              go_wp2
              go_roundg (gk - 1)
              case measure => omega
              case rel => exact ⟨k + 1, by go_num, by omega, by omega, hnx.out, rfl⟩
          · obtain rfl : k = s.size := by omega
            have hfin := Aside0.mk (show optV R = .tuple #[.string ⟨#[]⟩, .bool false] by
              rw [ha.out, hat.out, if_pos (by rw [hse.out, semiN_stop (fun h => hkl h.1)])]; rfl)
            clear ha hse
            go_wp2
            go_ret2
            exact ⟨by rw [hfin.out]; rfl, hb⟩
      · have hx1 : ((x : Int) != 38) = true := by simp; omega
        have hnx := Aside0.mk (show R = (expN s l (a + 1) (out ++ s.extract a (a + 1))).bind okText by rw [ha.out, hat.out, if_neg (by rw [hbx.out]; exact h38)])
        have hez : (s.extract a (a + 1)).size ≤ 1 := by rw [ByteArray.size_extract]; omega
        have hoz2 : (out ++ s.extract a (a + 1)).size ≤ 1000 * (a + 1) := by rw [ByteArray.size_append]; omega
        have hzz : ¬ (9223372036854775807 < out.size + (s.extract a (a + 1)).size) := by omega
        clear ha h38
        go_wp2
        go_roundg (gk - 1)
        case measure => omega
        case rel => exact ⟨_, a + 1, rfl, by go_num, by omega, hoz2, hnx.out, hb⟩
    · have hRe := Aside0.mk (show R = okText out by rw [ha.out, expN_end hlt]; rfl)
      clear ha
      go_wp2_with fail
      refine (specTextOk_calls out wr (by omega)).mono ?_
      rintro e w3 ⟨rfl, hb3⟩
      cases ht : textOk out with
      | false =>
        have hfin := Aside0.mk (show optV R = .tuple #[.string ⟨#[]⟩, .bool false] by rw [hRe.out, okText, ht]; rfl)
        clear ht
        go_wp2
        go_ret2
        exact ⟨by rw [hfin.out]; rfl, below_then hb hb3⟩
      | true =>
        have hfin := Aside0.mk (show optV R = .tuple #[.string out, .bool true] by rw [hRe.out, okText, ht]; rfl)
        clear ht
        go_wp2
        go_ret2
        exact ⟨by rw [hfin.out]; rfl, below_then hb hb3⟩
end Go.Proofs.YtmfkdgdamepbcaaGreatDoor
