/- Joined: CutP, NameAt, MkP, MkZ. -/
import Derived.Test.YtmfkdgdamepbcaaGreatDoorExp
import Derived.Test.YtmfkdgdamepbcaaGreatDoorScan
import Derived.Test.YtmfkdgdamepbcaaGreatDoorScanS
section
/- strings.Cut by places; what Expand does piece by piece, in plain Lean. -/
namespace Go.Proofs.YtmfkdgdamepbcaaGreatDoor
open Go.RowKit Go.Lib
set_option linter.unusedVariables false
set_option linter.unusedSimpArgs false
set_option maxHeartbeats 4000000
theorem first_or (s : ByteArray) (c : Nat) : ∀ (f a : Nat), f = s.size - a → (∃ m, a ≤ m ∧ m < s.size ∧ bt s m = c ∧ ∀ j, a ≤ j → j < m → ¬ bt s j = c) ∨ (∀ j, a ≤ j → j < s.size → ¬ bt s j = c)
  | 0, a, h => .inr (fun j h1 h2 => by omega)
  | f + 1, a, h => by
    by_cases hc : bt s a = c
    · exact .inl ⟨a, Nat.le_refl _, by omega, hc, fun j h1 h2 => by omega⟩
    · rcases first_or s c f (a + 1) (by omega) with ⟨m, h1, h2, h3, h4⟩ | h
      · refine .inl ⟨m, by omega, h2, h3, fun j h5 h6 => ?_⟩
        by_cases e : j = a
        · rw [e]; exact hc
        · exact h4 j (by omega) h6
      · refine .inr (fun j h5 h6 => ?_)
        by_cases e : j = a
        · rw [e]; exact hc
        · exact h j (by omega) h6
theorem tail_list (s : ByteArray) (a : Nat) : (s.extract a s.size).data.toList = s.data.toList.drop a := by
  rw [Lib.extract_data, List.take_of_length_le (by rw [List.length_drop, str_size]; omega)]
theorem tail_byte (s : ByteArray) (c : UInt8) (m : Nat) (h2 : m < s.size) : s.data.toList[m]? = some c ↔ bt s m = c.toNat := by
  rw [str_get s m h2, ← bt_get s m h2]
  constructor
  · intro h; injection h with h; rw [h]
  · intro h; congr 1; exact UInt8.toNat_inj.1 h
theorem tail_mem (s : ByteArray) (c : UInt8) (a k : Nat) (h4 : ∀ j, a ≤ j → j < a + k → j < s.size → ¬ bt s j = c.toNat) : ∀ y ∈ (s.data.toList.drop a).take k, y ≠ c := by
  intro y hy e
  obtain ⟨i, hi, rfl⟩ := List.mem_take_iff_getElem.1 hy
  rw [List.length_drop, str_size] at hi
  rw [List.getElem_drop] at e
  have hka : a + i < s.size := by omega
  refine h4 (a + i) (by omega) (by omega) hka ?_
  rw [← tail_byte s c (a + i) hka, List.getElem?_eq_getElem (by rw [str_size]; exact hka), e]
theorem tail_index (s : ByteArray) (c : UInt8) (a m : Nat) (h1 : a ≤ m) (h2 : m < s.size) (h3 : bt s m = c.toNat) (h4 : ∀ j, a ≤ j → j < m → ¬ bt s j = c.toNat) : index (s.data.toList.drop a) [c] = ((m - a : Nat) : Int) := by
  refine index_first c _ (m - a) (tail_mem s c a (m - a) (fun j h5 h6 _ => h4 j h5 (by omega))) ?_
  rw [List.getElem?_drop, show a + (m - a) = m by omega]
  exact (tail_byte s c m h2).2 h3
theorem tail_noindex (s : ByteArray) (c : UInt8) (a : Nat) (h4 : ∀ j, a ≤ j → j < s.size → ¬ bt s j = c.toNat) : index (s.data.toList.drop a) [c] = -1 := by
  refine index_miss c _ (fun y hy => ?_)
  refine tail_mem s c a (s.data.toList.drop a).length (fun j h5 h6 h7 => h4 j h5 h7) y ?_
  rw [List.take_of_length_le (Nat.le_refl _)]
  exact hy
/-- strings.Cut at what is left of s from a on. -/
theorem cut_tail (s : ByteArray) (t : List UInt8) (a i : Nat) (h : index (s.data.toList.drop a) t = (i : Int)) : Lib.cut (s.extract a s.size).data.toList t = ((s.extract a (a + i)).data.toList, (s.extract (a + i + t.length) s.size).data.toList, true) := by
  rw [tail_list, tail_list, Lib.cut, h, if_pos (by omega), Int.toNat_natCast, List.drop_drop, Lib.extract_data, show a + i - a = i by omega, show a + (i + t.length) = a + i + t.length by omega]
theorem cut_tail_no (s : ByteArray) (t : List UInt8) (a : Nat) (h : index (s.data.toList.drop a) t < 0) : Lib.cut (s.extract a s.size).data.toList t = ((s.extract a s.size).data.toList, [], false) := by
  rw [tail_list, Lib.cut, if_neg (by omega)]
theorem back_str (s : ByteArray) : (⟨s.data.toList.toArray⟩ : ByteArray) = s := str_ext rfl
theorem Cut_calls (s t : ByteArray) (w : World) (hs : s.size ≤ 1000000000) (hE : Env w) (r1 r2 : ByteArray) (b : Bool) (h : Lib.cut s.data.toList t.data.toList = (r1.data.toList, r2.data.toList, b)) :
    Calls Tryz.prog 112 #[.string s, .string t] w fun e w' => e = .returned (.tuple #[.string r1, .string r2, .bool b]) ∧ Drawn w w' := by
  obtain ⟨m, hm⟩ := hE.len
  refine (Tryz.strings_Cut s t m w (by omega) hm).mono ?_
  rintro e w2 ⟨rfl, nd, rfl⟩
  rw [h]
  exact ⟨by rw [back_str, back_str], Drawn.of w nd⟩
theorem ext_app (s : ByteArray) (a b c : Nat) (h1 : a ≤ b) (h2 : b ≤ c) : s.extract a b ++ s.extract b c = s.extract a c := str_ext (by
  rw [str_append, Lib.extract_data, Lib.extract_data, Lib.extract_data]
  rw [show c - a = (b - a) + (c - b) by omega, List.take_add, List.drop_drop, show a + (b - a) = b by omega])
theorem app_assoc (a b c : ByteArray) : a ++ b ++ c = a ++ (b ++ c) := str_ext (by rw [str_append, str_append, str_append, str_append, List.append_assoc])
theorem app_nil (a : ByteArray) : a ++ ⟨#[]⟩ = a := str_ext (by rw [str_append]; simp)
theorem ext_none (s : ByteArray) (a : Nat) : s.extract a a = ⟨#[]⟩ := str_ext (by rw [Lib.extract_data]; simp)
theorem expN_skip (s : ByteArray) (l : List Dcl) : ∀ (f a m : Nat) (out : ByteArray), f = m - a → a ≤ m → m ≤ s.size → (∀ j, a ≤ j → j < m → ¬ bt s j = 38) → expN s l a out = expN s l m (out ++ s.extract a m)
  | 0, a, m, out, h, h1, h2, h3 => by
    obtain rfl : a = m := by omega
    rw [ext_none, app_nil]
  | f + 1, a, m, out, h, h1, h2, h3 => by
    rw [expN_at (show a < s.size by omega), if_neg (h3 a (Nat.le_refl _) (by omega)), expN_skip s l f (a + 1) m _ (by omega) (by omega) h2 (fun j h4 h5 => h3 j (by omega) h5),
      app_assoc, ext_app s a (a + 1) m (by omega) (by omega)]
theorem semi_first (s : ByteArray) : ∀ (f k m : Nat), f = m - k → k ≤ m → m ≤ s.size → (∀ j, k ≤ j → j < m → ¬ bt s j = 59) → semiN s k = semiN s m
  | 0, k, m, h, h1, h2, h3 => by
    obtain rfl : k = m := by omega
    rfl
  | f + 1, k, m, h, h1, h2, h3 => by
    rw [semiN_go (show k < s.size by omega) (h3 k (Nat.le_refl _) (by omega)), semi_first s f (k + 1) m (by omega) (by omega) h2 (fun j h4 h5 => h3 j (by omega) h5)]
/-- No & from a on. -/
theorem exp_no {s : ByteArray} {l : List Dcl} {a : Nat} {out : ByteArray} (ha : a ≤ s.size) (h : ∀ j, a ≤ j → j < s.size → ¬ bt s j = 38) : expN s l a out = some (out ++ s.extract a s.size) := by
  rw [expN_skip s l _ a s.size out rfl ha (Nat.le_refl _) h, expN_end (by omega)]
/-- An & at m, no ; behind it. -/
theorem exp_open {s : ByteArray} {l : List Dcl} {a m : Nat} {out : ByteArray} (h1 : a ≤ m) (h2 : m < s.size) (h3 : bt s m = 38) (h4 : ∀ j, a ≤ j → j < m → ¬ bt s j = 38) (h5 : ∀ j, m + 1 ≤ j → j < s.size → ¬ bt s j = 59) : expN s l a out = none := by
  rw [expN_skip s l _ a m out rfl h1 (by omega) h4, expN_at h2, if_pos h3, if_pos]
  rw [semi_first s _ m s.size rfl (by omega) (Nat.le_refl _) (fun j h6 h7 => by
    by_cases e : j = m
    · rw [e, h3]; omega
    · exact h5 j (by omega) h7), semiN_stop (by omega)]
/-- An & at m, the next ; at k. -/
theorem exp_ref {s : ByteArray} {l : List Dcl} {a m k : Nat} {out : ByteArray} (h1 : a ≤ m) (h2 : m + 1 ≤ k) (h2' : k < s.size) (h3 : bt s m = 38) (h4 : ∀ j, a ≤ j → j < m → ¬ bt s j = 38) (h5 : bt s k = 59) (h6 : ∀ j, m + 1 ≤ j → j < k → ¬ bt s j = 59) :
    expN s l a out = if (standsV (s.extract (m + 1) k) l).2 = true then expN s l (k + 1) (out ++ s.extract a m ++ (standsV (s.extract (m + 1) k) l).1) else none := by
  have hk : semiN s m = k := by
    rw [semi_first s _ m k rfl (by omega) (by omega) (fun j h7 h8 => by
      by_cases e : j = m
      · rw [e, h3]; omega
      · exact h6 j (by omega) h8), semiN_stop (by omega)]
  rw [expN_skip s l _ a m out rfl h1 (by omega) h4, expN_at (by omega), if_pos h3, hk, if_neg (by omega)]
end Go.Proofs.YtmfkdgdamepbcaaGreatDoor
end
section
/- NameAt of both. -/
namespace Go.Proofs.YtmfkdgdamepbcaaGreatDoor
open Go.RowKit Go.Lib
set_option linter.unusedVariables false
set_option linter.unusedSimpArgs false
set_option maxHeartbeats 4000000
set_option maxRecDepth 20000
def nmGo (s : ByteArray) : Nat → Nat → Nat
  | 0, k => k
  | f + 1, k => match sgnAt s k with
    | none => k
    | some (r, nx) => if isPart (r : Int) = true ∨ r = 58 then nmGo s f nx else k
/-- The end of the name at k. -/
def nameEnd (s : ByteArray) (k : Nat) : Nat := nmGo s (s.size - k) k
theorem nmGo_fuel (s : ByteArray) : ∀ f f' k, s.size - k ≤ f → s.size - k ≤ f' → nmGo s f k = nmGo s f' k
  | 0, 0, k, _, _ => rfl
  | 0, f' + 1, k, h, _ => by
    rw [nmGo, nmGo]
    cases e : sgnAt s k with
    | none => rfl
    | some q => obtain ⟨r, nx⟩ := q; have := sgnAt_next e; omega
  | f + 1, 0, k, _, h => by
    rw [nmGo, nmGo]
    cases e : sgnAt s k with
    | none => rfl
    | some q => obtain ⟨r, nx⟩ := q; have := sgnAt_next e; omega
  | f + 1, f' + 1, k, h1, h2 => by
    rw [nmGo, nmGo]
    cases e : sgnAt s k with
    | none => rfl
    | some q =>
      obtain ⟨r, nx⟩ := q
      have := sgnAt_next e
      simp only []
      rw [nmGo_fuel s f f' nx (by omega) (by omega)]
theorem nameEnd_go {s : ByteArray} {k r nx : Nat} (h : sgnAt s k = some (r, nx)) (hp : isPart (r : Int) = true ∨ r = 58) : nameEnd s k = nameEnd s nx := by
  have := sgnAt_next h
  unfold nameEnd
  rw [show s.size - k = (s.size - k - 1) + 1 by omega, nmGo, h]
  simp only []
  rw [if_pos hp, nmGo_fuel s (s.size - k - 1) (s.size - nx) nx (by omega) (by omega)]
theorem nameEnd_bad {s : ByteArray} {k : Nat} (h : sgnAt s k = none) : nameEnd s k = k := by
  unfold nameEnd
  cases e : s.size - k with
  | zero => rfl
  | succ f => rw [nmGo, h]
theorem nameEnd_stop {s : ByteArray} {k r nx : Nat} (h : sgnAt s k = some (r, nx)) (hp : isPart (r : Int) = false) (hc : ¬ r = 58) : nameEnd s k = k := by
  unfold nameEnd
  cases e : s.size - k with
  | zero => rfl
  | succ f =>
    rw [nmGo, h]
    simp only []
    rw [if_neg (by rw [hp]; simp [hc])]
theorem nmGo_le (s : ByteArray) : ∀ f k, k ≤ nmGo s f k ∧ (k ≤ s.size → nmGo s f k ≤ s.size)
  | 0, k => by simp [nmGo]
  | f + 1, k => by
    rw [nmGo]
    cases e : sgnAt s k with
    | none => simp
    | some q =>
      obtain ⟨r, nx⟩ := q
      have := sgnAt_next e
      have h2 := nmGo_le s f nx
      simp only []
      split
      · omega
      · omega
theorem nameEnd_le (s : ByteArray) (k : Nat) : k ≤ nameEnd s k ∧ (k ≤ s.size → nameEnd s k ≤ s.size) := nmGo_le s _ k
theorem specNameAt_calls (s : ByteArray) (a : Nat) (w : World) (hs : s.size ≤ 1000000000) (ha : a ≤ s.size) :
    Calls Tryz.prog 122 #[.string s, .int .i64 (a : Int)] w fun e w' => e = .returned (.tuple #[.string (s.extract a (nameEnd s a)), .int .i64 ((nameEnd s a : Nat) : Int)]) ∧ Below w.heap.size w w' := by
  obtain ⟨R, hR⟩ : ∃ R, R = nameEnd s a := ⟨_, rfl⟩
  rw [← hR]
  have HR := Aside0.mk hR
  clear hR
  have j1 : ¬ ((a : Int) < 0) := by omega
  have j2 : ¬ (s.size < a) := by omega
  have j3 : ¬ ((s.size : Int) < (a : Int)) := by omega
  go_enter Tryz.func122, Tryz.ntmps122
  go_wp2
  go_loopg [6] (s.size - a) (fun g i wr => ∃ k : Nat, i = .int .i64 k ∧ k + g = s.size ∧ a ≤ k ∧ Aside (R = nameEnd s k) ∧ Below w.heap.size w wr)
  case atStart => exact ⟨a, rfl, by omega, Nat.le_refl _, HR.out, Below.refl _ _⟩
  case round =>
    obtain ⟨k, rfl, hk, hak, hR2, hb⟩ := hrel
    have i1 : (a : Int) ≤ (k : Int) := by omega
    have i2 : (k : Int) ≤ (s.size : Int) := by omega
    by_cases hlt : k < s.size
    · have HS := Aside0.mk (specSignAt_calls s k wr (by omega))
      rw [show sgnI s k = sgnAt s k by rw [sgnI, if_neg (by omega), Int.toNat_natCast]] at HS
      go_wp2_with fail
      refine (HS.out).mono ?_
      rintro e w1 ⟨rfl, rfl⟩
      cases hq : sgnAt s k with
      | none =>
        obtain rfl : R = k := hR2.out.trans (nameEnd_bad hq)
        clear hq hR2 HR HS
        simp only [sgnV]
        go_wp2
        go_ret2
        exact ⟨rfl, hb⟩
      | some q =>
        obtain ⟨r, nx⟩ := q
        have hn := sgnAt_next hq
        have HGo := Aside0.mk (fun h => hR2.out.trans (nameEnd_go hq h))
        have HSt := Aside0.mk (fun h h2 => hR2.out.trans (nameEnd_stop hq h h2))
        clear hq hR2 HS
        simp only [sgnV]
        by_cases h58 : r = 58
        · have hr1 : ((r : Int) != 58) = false := by simp [h58]
          have hnx := Aside0.mk (HGo.out (.inr h58))
          clear h58 HGo HSt
          go_wp2
          go_roundg (s.size - nx)
          case measure => omega
          case rel => exact ⟨nx, rfl, by omega, by omega, hnx.out, hb⟩
        · have hr1 : ((r : Int) != 58) = true := by simp; omega
          have h58 := Aside0.mk h58
          go_wp2_with fail
          refine (specIsPart_calls (r : Int) wr).mono ?_
          rintro e w2 ⟨rfl, hb2⟩
          cases hp : isPart (r : Int) with
          | true =>
            have hnx := Aside0.mk (HGo.out (.inl hp))
            clear hp HGo HSt
            go_wp2
            go_roundg (s.size - nx)
            case measure => omega
            case rel => exact ⟨nx, rfl, by omega, by omega, hnx.out, below_then hb hb2⟩
          | false =>
            obtain rfl : R = k := HSt.out hp h58.out
            clear hp HGo HSt HR
            go_wp2
            go_ret2
            exact ⟨rfl, below_then hb hb2⟩
    · obtain rfl : k = s.size := by omega
      obtain rfl : R = s.size := hR2.out.trans (nameEnd_bad (by
        cases e : sgnAt s s.size with
        | none => rfl
        | some q => obtain ⟨r, nx⟩ := q; have := sgnAt_next e; omega))
      clear hR2 HR
      go_wp2
      go_ret2
      exact ⟨rfl, hb⟩
theorem implNameAt_calls (s : ByteArray) (a : Nat) (w : World) (hs : s.size ≤ 1000000000) (ha : a ≤ s.size) (hE : Env w) :
    Calls Tryz.prog 98 #[.string s, .int .i64 (a : Int)] w fun e w' => e = .returned (.tuple #[.string (s.extract a (nameEnd s a)), .int .i64 ((nameEnd s a : Nat) : Int)]) ∧ Below w.heap.size w w' := by
  obtain ⟨R, hR⟩ : ∃ R, R = nameEnd s a := ⟨_, rfl⟩
  rw [← hR]
  have HR := Aside0.mk hR
  have HE := Aside0.mk hE
  clear hR hE
  have j1 : ¬ ((a : Int) < 0) := by omega
  go_enter Tryz.func98, Tryz.ntmps98
  go_wp2
  go_loopg [6] (s.size - a) (fun g i wr => ∃ k : Nat, i = .int .i64 k ∧ k + g = s.size ∧ a ≤ k ∧ Aside (R = nameEnd s k) ∧ Below w.heap.size w wr)
  case atStart => exact ⟨a, rfl, by omega, Nat.le_refl _, HR.out, Below.refl _ _⟩
  case round =>
    obtain ⟨k, rfl, hk, hak, hR2, hb⟩ := hrel
    have i1 : (a : Int) ≤ (k : Int) := by omega
    have i2 : (k : Int) ≤ (s.size : Int) := by omega
    have HS := Aside0.mk (implSignAt_calls s k wr (by omega) (HE.out.below hb))
    rw [show sgnI s k = sgnAt s k by rw [sgnI, if_neg (by omega), Int.toNat_natCast]] at HS
    go_wp2_with fail
    refine (HS.out).mono ?_
    rintro e w1 ⟨rfl, hb1⟩
    cases hq : sgnAt s k with
    | none =>
      obtain rfl : R = k := hR2.out.trans (nameEnd_bad hq)
      clear hq hR2 HR HS
      simp only [sgnV]
      by_cases hea : R = a
      · have hfin := Aside0.mk (show s.extract a R = ⟨#[]⟩ by rw [hea, ext_none])
        have hne : ((R : Int) == (a : Int)) = true := by simp [hea]
        go_wp2
        go_ret2
        exact ⟨by rw [hfin.out, hea]; rfl, (below_then hb hb1)⟩
      · have hne : ((R : Int) == (a : Int)) = false := by simp; omega
        clear hea
        go_wp2
        go_ret2
        exact ⟨rfl, (below_then hb hb1)⟩
    | some q =>
      obtain ⟨r, nx⟩ := q
      have hn := sgnAt_next hq
      have HGo := Aside0.mk (fun h => hR2.out.trans (nameEnd_go hq h))
      have HSt := Aside0.mk (fun h h2 => hR2.out.trans (nameEnd_stop hq h h2))
      clear hq hR2 HS
      simp only [sgnV]
      go_wp2_with fail
      refine (implIsPart_calls (r : Int) w1).mono ?_
      rintro e w2 ⟨rfl, hb2⟩
      cases hp : isPart (r : Int) with
      | true =>
        have hnx := Aside0.mk (HGo.out (.inl hp))
        clear hp HGo HSt
        go_wp2
        go_roundg (s.size - nx)
        case measure => omega
        case rel => exact ⟨nx, rfl, by omega, by omega, hnx.out, below_then (below_then hb hb1) hb2⟩
      | false =>
        by_cases h58 : r = 58
        · have hr1 : ((r : Int) != 58) = false := by simp [h58]
          have hnx := Aside0.mk (HGo.out (.inr h58))
          clear h58 HGo HSt hp
          go_wp2
          go_roundg (s.size - nx)
          case measure => omega
          case rel => exact ⟨nx, rfl, by omega, by omega, hnx.out, below_then (below_then hb hb1) hb2⟩
        · have hr1 : ((r : Int) != 58) = true := by simp; omega
          obtain rfl : R = k := HSt.out hp h58
          clear hp HGo HSt HR h58
          by_cases hea : R = a
          · have hfin := Aside0.mk (show s.extract a R = ⟨#[]⟩ by rw [hea, ext_none])
            have hne : ((R : Int) == (a : Int)) = true := by simp [hea]
            go_wp2
            go_ret2
            exact ⟨by rw [hfin.out, hea]; rfl, (below_then (below_then hb hb1) hb2)⟩
          · have hne : ((R : Int) == (a : Int)) = false := by simp; omega
            clear hea
            go_wp2
            go_ret2
            exact ⟨rfl, (below_then (below_then hb hb1) hb2)⟩
end Go.Proofs.YtmfkdgdamepbcaaGreatDoor
end
section
/- Marks in plain Lean. -/
namespace Go.Proofs.YtmfkdgdamepbcaaGreatDoor
open Go.RowKit Go.Lib
set_option linter.unusedVariables false
set_option linter.unusedSimpArgs false
set_option maxHeartbeats 4000000
structure Mk where
  kind : Int
  name : ByteArray
  raws : List Dcl
  empty : Bool
  text : ByteArray
def toO (s t : ByteArray) (a : Nat) : Option (ByteArray × Nat) :=
  if 0 ≤ index (s.data.toList.drop a) t.data.toList then some (s.extract a (a + (index (s.data.toList.drop a) t.data.toList).toNat), a + (index (s.data.toList.drop a) t.data.toList).toNat + t.size) else none
/-- A text and the place behind it; -1: there is none. -/
def tnV (o : Option (ByteArray × Nat)) : Value := match o with | some (b, k) => .tuple #[.string b, .int .i64 (k : Int)] | none => .tuple #[.string ⟨#[]⟩, .int .i64 (-1)]
theorem toV_is (s t : ByteArray) (a : Nat) : toV s t a = tnV (toO s t a) := by
  unfold toV toO
  split <;> rfl
theorem toO_next {s t : ByteArray} {a k : Nat} {b : ByteArray} (ha : a ≤ s.size) (h : toO s t a = some (b, k)) : a + t.size ≤ k ∧ k ≤ s.size ∧ b.size + t.size = k - a := by
  unfold toO at h
  split at h
  · rename_i hi
    have hr := index_room _ _ hi
    rw [List.length_drop, str_size, str_size] at hr
    injection h with h
    injection h with h1 h2
    subst h1 h2
    rw [ByteArray.size_extract]
    omega
  · cases h
def nameO (s : ByteArray) (a : Nat) : Option (ByteArray × Nat) := if (splitName (s.extract a (nameEnd s a))).isSome = true then some (s.extract a (nameEnd s a), nameEnd s a) else none
theorem split_nil : splitName ⟨#[]⟩ = none := by
  have h : plainOk ⟨#[]⟩ = false := by rw [plainOk, decide_eq_false (by decide)]; rfl
  exact split_no h (by decide)
theorem nameO_next {s : ByteArray} {a k : Nat} {n : ByteArray} (ha : a ≤ s.size) (h : nameO s a = some (n, k)) : a < k ∧ k ≤ s.size ∧ n.size = k - a := by
  have hl := nameEnd_le s a
  unfold nameO at h
  split at h
  · rename_i hi
    injection h with h
    injection h with h1 h2
    by_cases e : nameEnd s a = a
    · rw [e, ext_none, split_nil] at hi
      cases hi
    · subst h1 h2
      rw [ByteArray.size_extract]
      omega
  · cases h
/-- What is told behind <?. -/
def toldO (s : ByteArray) (a : Nat) : Option (Mk × Nat) := (nameO s a).bind fun p =>
  if isAtB s ⟨#[63, 62]⟩ (p.2 : Nat) = true then some (⟨5, p.1, [], false, ⟨#[]⟩⟩, p.2 + 2)
  else if blanksN s p.2 = p.2 then none
  else (toO s ⟨#[63, 62]⟩ (blanksN s p.2)).map fun q => (⟨5, p.1, [], false, q.1⟩, q.2)
def spB (b : UInt8) : UInt8 := if isBlank (b.toNat : Nat) = true then 32 else b
/-- Each blank as byte 32. -/
def spacedB (v : ByteArray) : ByteArray := ⟨(v.data.toList.map spB).toArray⟩
theorem spaced_size (v : ByteArray) : (spacedB v).size = v.size := by rw [← str_size, ← str_size]; simp [spacedB]
def quoO (s : ByteArray) (k : Nat) : Option (ByteArray × Nat) :=
  if isAtB s ⟨#[34]⟩ (k : Nat) = true ∨ isAtB s ⟨#[39]⟩ (k : Nat) = true then (toO s (s.extract k (k + 1)) (k + 1)).bind fun q => if hasB q.1 [60] = true then none else some q else none
def rawO (s : ByteArray) (a : Nat) (l : List Dcl) : Option (Dcl × Nat) := (nameO s a).bind fun p =>
  if isAtB s ⟨#[61]⟩ (blanksN s p.2 : Nat) = true then
    (quoO s (blanksN s (blanksN s p.2 + 1))).bind fun q => (expandV (spacedB q.1) l).map fun x => (⟨p.1, x⟩, q.2)
  else none
theorem isAt_room {s t : ByteArray} {a : Nat} (h : isAtB s t (a : Nat) = true) : a + t.size ≤ s.size := by
  rw [isAtB, Bool.and_eq_true, Bool.and_eq_true, decide_eq_true_eq, decide_eq_true_eq] at h
  omega
theorem quoO_next {s : ByteArray} {k nx : Nat} {b : ByteArray} (h : quoO s k = some (b, nx)) : k + 2 ≤ nx ∧ nx ≤ s.size := by
  unfold quoO at h
  split at h
  · rename_i hq
    have hk : k + 1 ≤ s.size := by
      rcases hq with hq | hq
      · exact isAt_room hq
      · exact isAt_room hq
    cases e : toO s (s.extract k (k + 1)) (k + 1) with
    | none => rw [e] at h; cases h
    | some q =>
      obtain ⟨b2, k2⟩ := q
      have := toO_next (by omega) e
      rw [e] at h
      simp only [Option.bind_some] at h
      split at h
      · cases h
      · injection h with h
        injection h with h1 h2
        rw [ByteArray.size_extract] at this
        omega
  · cases h
theorem rawO_next {s : ByteArray} {a nx : Nat} {l : List Dcl} {x : Dcl} (ha : a ≤ s.size) (h : rawO s a l = some (x, nx)) : a < nx ∧ nx ≤ s.size := by
  unfold rawO at h
  cases e : nameO s a with
  | none => rw [e] at h; cases h
  | some p =>
    obtain ⟨n, k⟩ := p
    have hn := nameO_next ha e
    rw [e] at h
    simp only [Option.bind_some] at h
    split at h
    · have h1 := blanksN_le s k
      have h2 := blanksN_le s (blanksN s k + 1)
      cases e2 : quoO s (blanksN s (blanksN s k + 1)) with
      | none => rw [e2] at h; cases h
      | some q =>
        obtain ⟨b, k2⟩ := q
        have h3 := quoO_next e2
        rw [e2] at h
        simp only [Option.bind_some] at h
        cases e3 : expandV (spacedB b) l with
        | none => rw [e3] at h; cases h
        | some y =>
          rw [e3] at h
          simp only [Option.map_some] at h
          injection h with h
          injection h with h4 h5
          omega
    · cases h
def opGo (s : ByteArray) (l : List Dcl) (n : ByteArray) : Nat → Nat → List Dcl → Option (Mk × Nat)
  | 0, _, _ => none
  | f + 1, k, rs =>
    if isAtB s ⟨#[47, 62]⟩ (blanksN s k : Nat) = true then some (⟨1, n, rs, true, ⟨#[]⟩⟩, blanksN s k + 2)
    else if isAtB s ⟨#[62]⟩ (blanksN s k : Nat) = true then some (⟨1, n, rs, false, ⟨#[]⟩⟩, blanksN s k + 1)
    else if blanksN s k = k then none
    else (rawO s (blanksN s k) l).bind fun q => opGo s l n f q.2 (rs ++ [q.1])
theorem opGo_fuel (s : ByteArray) (l : List Dcl) (n : ByteArray) : ∀ f f' k rs, k ≤ s.size → s.size + 1 - k ≤ f → s.size + 1 - k ≤ f' → opGo s l n f k rs = opGo s l n f' k rs
  | 0, _, k, _, hk, h, _ => by omega
  | _ + 1, 0, k, _, hk, _, h => by omega
  | f + 1, f' + 1, k, rs, hk, h1, h2 => by
    have hb := blanksN_le s k
    rw [opGo, opGo]
    cases e : rawO s (blanksN s k) l with
    | none => rfl
    | some q =>
      obtain ⟨x, nx⟩ := q
      have := rawO_next (by omega) e
      simp only [Option.bind_some]
      rw [opGo_fuel s l n f f' nx (rs ++ [x]) (by omega) (by omega) (by omega)]
def opN (s : ByteArray) (l : List Dcl) (n : ByteArray) (k : Nat) (rs : List Dcl) : Option (Mk × Nat) := opGo s l n (s.size + 1 - k) k rs
theorem opN_at {s : ByteArray} {l : List Dcl} {n : ByteArray} {k : Nat} {rs : List Dcl} (hk : k ≤ s.size) : opN s l n k rs =
    if isAtB s ⟨#[47, 62]⟩ (blanksN s k : Nat) = true then some (⟨1, n, rs, true, ⟨#[]⟩⟩, blanksN s k + 2)
    else if isAtB s ⟨#[62]⟩ (blanksN s k : Nat) = true then some (⟨1, n, rs, false, ⟨#[]⟩⟩, blanksN s k + 1)
    else if blanksN s k = k then none
    else (rawO s (blanksN s k) l).bind fun q => opN s l n q.2 (rs ++ [q.1]) := by
  have hb := blanksN_le s k
  unfold opN
  rw [show s.size + 1 - k = (s.size - k) + 1 by omega, opGo]
  cases e : rawO s (blanksN s k) l with
  | none => rfl
  | some q =>
    obtain ⟨x, nx⟩ := q
    have := rawO_next (by omega) e
    simp only [Option.bind_some]
    rw [opGo_fuel s l n (s.size - k) (s.size + 1 - nx) nx (rs ++ [x]) (by omega) (by omega) (by omega)]
def openO (s : ByteArray) (a : Nat) (l : List Dcl) : Option (Mk × Nat) := (nameO s a).bind fun p => opN s l p.1 p.2 []
/-- The place of the next < from here on, or the end. -/
def ltGo (s : ByteArray) : Nat → Nat → Nat
  | 0, k => k
  | f + 1, k => if k < s.size ∧ ¬ bt s k = 60 then ltGo s f (k + 1) else k
def ltN (s : ByteArray) (k : Nat) : Nat := ltGo s (s.size - k) k
theorem ltN_go {s : ByteArray} {k : Nat} (h : k < s.size) (hb : ¬ bt s k = 60) : ltN s k = ltN s (k + 1) := by
  unfold ltN
  rw [show s.size - k = (s.size - (k + 1)) + 1 by omega, ltGo, if_pos ⟨h, hb⟩]
theorem ltN_stop {s : ByteArray} {k : Nat} (h : ¬ (k < s.size ∧ ¬ bt s k = 60)) : ltN s k = k := by
  unfold ltN
  cases e : s.size - k with
  | zero => rfl
  | succ f => rw [ltGo, if_neg h]
theorem ltGo_le (s : ByteArray) : ∀ f k, k ≤ ltGo s f k ∧ ltGo s f k ≤ k + f
  | 0, k => by simp [ltGo]
  | f + 1, k => by
    have := ltGo_le s f (k + 1)
    rw [ltGo]
    split <;> omega
theorem ltN_le (s : ByteArray) (k : Nat) (h : k ≤ s.size) : k ≤ ltN s k ∧ ltN s k ≤ s.size := by
  have := ltGo_le s (s.size - k) k
  unfold ltN
  omega
theorem lt_first (s : ByteArray) : ∀ (f k m : Nat), f = m - k → k ≤ m → m ≤ s.size → (∀ j, k ≤ j → j < m → ¬ bt s j = 60) → ltN s k = ltN s m
  | 0, k, m, h, h1, h2, h3 => by
    obtain rfl : k = m := by omega
    rfl
  | f + 1, k, m, h, h1, h2, h3 => by
    rw [ltN_go (show k < s.size by omega) (h3 k (Nat.le_refl _) (by omega)), lt_first s f (k + 1) m (by omega) (by omega) h2 (fun j h4 h5 => h3 j (by omega) h5)]
def textO (s : ByteArray) (a : Nat) (l : List Dcl) : Option (Mk × Nat) :=
  if hasB (s.extract a (ltN s a)) [93, 93, 62] = true then none else (expandV (s.extract a (ltN s a)) l).map fun x => (⟨3, ⟨#[]⟩, [], false, x⟩, ltN s a)
def closeO (s : ByteArray) (a : Nat) : Option (Mk × Nat) := (nameO s a).bind fun p => if isAtB s ⟨#[62]⟩ (blanksN s p.2 : Nat) = true then some (⟨2, p.1, [], false, ⟨#[]⟩⟩, blanksN s p.2 + 1) else none
def plainO (k : Int) (s t : ByteArray) (a : Nat) : Option (Mk × Nat) := (toO s t a).map fun q => (⟨k, ⟨#[]⟩, [], false, q.1⟩, q.2)
def mkO (s : ByteArray) (a : Nat) (l : List Dcl) : Option (Mk × Nat) :=
  if isAtB s ⟨#[60, 33, 45, 45]⟩ (a : Nat) = true then plainO 4 s ⟨#[45, 45, 62]⟩ (a + 4)
  else if isAtB s ⟨#[60, 63]⟩ (a : Nat) = true then toldO s (a + 2)
  else if isAtB s ⟨#[60, 47]⟩ (a : Nat) = true then closeO s (a + 2)
  else if isAtB s ⟨#[60, 33, 91, 67, 68, 65, 84, 65, 91]⟩ (a : Nat) = true then plainO 3 s ⟨#[93, 93, 62]⟩ (a + 9)
  else if isAtB s ⟨#[60]⟩ (a : Nat) = true then openO s (a + 1) l
  else textO s a l
def markO (s : ByteArray) (a : Int) (l : List Dcl) : Option (Mk × Nat) :=
  if 0 ≤ a ∧ a < s.size ∧ entsOk l = true then (mkO s a.toNat l).bind fun q => if textOk q.1.text = true then some q else none else none
/-- A mark as a value. -/
def mkV (m : Mk) (r : Value) : Value := .agg #[.int .i64 m.kind, .string m.name, r, .bool m.empty, .string m.text]
end Go.Proofs.YtmfkdgdamepbcaaGreatDoor
end
section
/- A mark's text is no longer than 600 bytes, or what stands there. -/
namespace Go.Proofs.YtmfkdgdamepbcaaGreatDoor
open Go.RowKit Go.Lib
set_option linter.unusedVariables false
theorem expand_text {s t : ByteArray} {l : List Dcl} (h : expandV s l = some t) : textOk t = true := by
  unfold expandV at h
  split at h
  · cases e : expN s l 0 ⟨#[]⟩ with
    | none => rw [e] at h; cases h
    | some o =>
      rw [e] at h
      simp only [Option.bind_some] at h
      split at h
      · rename_i ht
        injection h with h
        rw [← h]; exact ht
      · cases h
  · cases h
theorem text_size {t : ByteArray} (h : textOk t = true) : t.size ≤ 600 := by
  rw [textOk, Bool.and_eq_true, decide_eq_true_eq] at h
  exact h.1
theorem toO_size {s t b : ByteArray} {a k : Nat} (ha : a ≤ s.size) (h : toO s t a = some (b, k)) : b.size ≤ s.size := by
  have := toO_next ha h
  omega
theorem opGo_text (s : ByteArray) (l : List Dcl) (n : ByteArray) : ∀ (f k : Nat) (rs : List Dcl) (m : Mk) (p : Nat), opGo s l n f k rs = some (m, p) → m.text = ⟨#[]⟩
  | 0, _, _, _, _, h => by cases h
  | f + 1, k, rs, m, p, h => by
    rw [opGo] at h
    split at h
    · injection h with h; injection h with h _; rw [← h]
    · split at h
      · injection h with h; injection h with h _; rw [← h]
      · split at h
        · cases h
        · cases e : rawO s (blanksN s k) l with
          | none => rw [e] at h; cases h
          | some q =>
            rw [e] at h
            exact opGo_text s l n f q.2 _ m p h
theorem mk_size {s : ByteArray} {a p : Nat} {l : List Dcl} {m : Mk} (ha : a ≤ s.size) (h : mkO s a l = some (m, p)) : m.text.size ≤ s.size + 600 := by
  have hpl : ∀ k t b, b ≤ s.size → plainO k s t b = some (m, p) → m.text.size ≤ s.size + 600 := by
    intro k t b hb h
    unfold plainO at h
    cases e : toO s t b with
    | none => rw [e] at h; cases h
    | some q =>
      obtain ⟨x, y⟩ := q
      have := toO_size hb e
      rw [e] at h
      simp only [Option.map_some] at h
      injection h with h; injection h with h _
      rw [← h]
      show x.size ≤ _
      omega
  unfold mkO at h
  split at h
  · rename_i hi; exact hpl _ _ _ (isAt_room hi) h
  split at h
  · rename_i hi
    unfold toldO at h
    cases e : nameO s (a + 2) with
    | none => rw [e] at h; cases h
    | some q =>
      obtain ⟨x, y⟩ := q
      have hn := nameO_next (show a + 2 ≤ s.size from isAt_room hi) e
      rw [e] at h
      simp only [Option.bind_some] at h
      split at h
      · injection h with h; injection h with h _; rw [← h]; show (0 : Nat) ≤ _; omega
      split at h
      · cases h
      · cases e2 : toO s ⟨#[63, 62]⟩ (blanksN s y) with
        | none => rw [e2] at h; cases h
        | some q =>
          obtain ⟨x2, y2⟩ := q
          have := toO_size ((blanksN_le s y).2 (by omega)) e2
          rw [e2] at h
          simp only [Option.map_some] at h
          injection h with h; injection h with h _; rw [← h]; show x2.size ≤ _; omega
  split at h
  · unfold closeO at h
    cases e : nameO s (a + 2) with
    | none => rw [e] at h; cases h
    | some q =>
      rw [e] at h
      simp only [Option.bind_some] at h
      split at h
      · injection h with h; injection h with h _; rw [← h]; show (0 : Nat) ≤ _; omega
      · cases h
  split at h
  · rename_i hi; exact hpl _ _ _ (isAt_room hi) h
  split at h
  · unfold openO at h
    cases e : nameO s (a + 1) with
    | none => rw [e] at h; cases h
    | some q =>
      rw [e] at h
      have := opGo_text s l _ _ _ _ m p h
      rw [this]; show (0 : Nat) ≤ _; omega
  · unfold textO at h
    split at h
    · cases h
    · cases e : expandV (s.extract a (ltN s a)) l with
      | none => rw [e] at h; cases h
      | some x =>
        have := text_size (expand_text e)
        rw [e] at h
        simp only [Option.map_some] at h
        injection h with h; injection h with h _; rw [← h]; show x.size ≤ _; omega
theorem opGo_raws (s : ByteArray) (l : List Dcl) (n : ByteArray) : ∀ (f k : Nat) (rs : List Dcl) (m : Mk) (p : Nat), k ≤ s.size → opGo s l n f k rs = some (m, p) → m.raws.length ≤ rs.length + (s.size - k)
  | 0, _, _, _, _, _, h => by cases h
  | f + 1, k, rs, m, p, hk, h => by
    have hb := blanksN_le s k
    rw [opGo] at h
    split at h
    · injection h with h; injection h with h _; rw [← h]; show rs.length ≤ _; omega
    · split at h
      · injection h with h; injection h with h _; rw [← h]; show rs.length ≤ _; omega
      · split at h
        · cases h
        · cases e : rawO s (blanksN s k) l with
          | none => rw [e] at h; cases h
          | some q =>
            obtain ⟨x, nx⟩ := q
            have hn := rawO_next (by omega) e
            rw [e] at h
            have := opGo_raws s l n f nx (rs ++ [x]) m p hn.2 h
            rw [List.length_append, List.length_singleton] at this
            omega
theorem mk_raws {s : ByteArray} {a p : Nat} {l : List Dcl} {m : Mk} (ha : a ≤ s.size) (h : mkO s a l = some (m, p)) : m.raws.length ≤ s.size := by
  have hpl : ∀ k t b, plainO k s t b = some (m, p) → m.raws.length ≤ s.size := by
    intro k t b h
    unfold plainO at h
    cases e : toO s t b with
    | none => rw [e] at h; cases h
    | some q =>
      rw [e] at h
      simp only [Option.map_some] at h
      injection h with h; injection h with h _
      rw [← h]; exact Nat.zero_le _
  unfold mkO at h
  split at h
  · exact hpl _ _ _ h
  split at h
  · rename_i hi
    unfold toldO at h
    cases e : nameO s (a + 2) with
    | none => rw [e] at h; cases h
    | some q =>
      rw [e] at h
      simp only [Option.bind_some] at h
      split at h
      · injection h with h; injection h with h _; rw [← h]; exact Nat.zero_le _
      split at h
      · cases h
      · cases e2 : toO s ⟨#[63, 62]⟩ (blanksN s q.2) with
        | none => rw [e2] at h; cases h
        | some q =>
          rw [e2] at h
          simp only [Option.map_some] at h
          injection h with h; injection h with h _; rw [← h]; exact Nat.zero_le _
  split at h
  · unfold closeO at h
    cases e : nameO s (a + 2) with
    | none => rw [e] at h; cases h
    | some q =>
      rw [e] at h
      simp only [Option.bind_some] at h
      split at h
      · injection h with h; injection h with h _; rw [← h]; exact Nat.zero_le _
      · cases h
  split at h
  · exact hpl _ _ _ h
  split at h
  · rename_i hi
    unfold openO at h
    cases e : nameO s (a + 1) with
    | none => rw [e] at h; cases h
    | some q =>
      obtain ⟨x, y⟩ := q
      have hn := nameO_next (show a + 1 ≤ s.size from isAt_room hi) e
      rw [e] at h
      have := opGo_raws s l _ _ _ _ m p hn.2.1 h
      simp at this
      omega
  · unfold textO at h
    split at h
    · cases h
    · cases e : expandV (s.extract a (ltN s a)) l with
      | none => rw [e] at h; cases h
      | some x =>
        rw [e] at h
        simp only [Option.map_some] at h
        injection h with h; injection h with h _; rw [← h]; exact Nat.zero_le _
theorem mark_raws {s : ByteArray} {a : Int} {l : List Dcl} {q : Mk × Nat} (h : markO s a l = some q) : q.1.raws.length ≤ s.size := by
  unfold markO at h
  split at h
  · rename_i hc
    cases e : mkO s a.toNat l with
    | none => rw [e] at h; cases h
    | some q' =>
      obtain ⟨m, p⟩ := q'
      have := mk_raws (by omega) e
      rw [e] at h
      simp only [Option.bind_some] at h
      split at h
      · injection h with h; rw [← h]; exact this
      · cases h
  · cases h
end Go.Proofs.YtmfkdgdamepbcaaGreatDoor
end
