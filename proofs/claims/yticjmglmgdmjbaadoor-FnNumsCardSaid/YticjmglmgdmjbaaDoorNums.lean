/- FnNums: the draws, the walk of the law. -/
import Derived.Test.YticjmglmgdmjbaaDoorDraw
import Derived.Test.YticjmglmgdmjbaaDoorNumW
import Derived.Lib.ItoaLen
namespace Go.Proofs.YticjmglmgdmjbaaDoor
open Go.RowKit
set_option linter.unusedVariables false
set_option linter.unusedSimpArgs false
theorem drawNumText_calls (A : Option Addr) (c : Nat) (xs : List Int) (w : World) (hl : xs.length ≤ c) (hr : Row (Kd.int .u8) w (fun k => k < w.heap.size) A xs) :
    Calls Tryd.prog 11 #[.slice A xs.length c] w fun e w' => ∃ n, e = .returned (.int .i64 n) ∧ -9223372036854775808 ≤ n ∧ n ≤ 9223372036854775807 ∧ Below w.heap.size w w' := by
  go_enter Tryd.func11, Tryd.ntmps11
  go_wp2_with fail
  refine (l1New_calls A c xs w hl hr).mono ?_
  rintro e w1 ⟨g, rfl, hg, hb, hc⟩
  go_wp2_with fail
  refine (l1Once_calls g 2 w1 (by omega) (by omega) hc).mono ?_
  rintro e w2 ⟨x, rfl, hm, hc2⟩
  cases x
  · go_wp2_with fail
    refine (l1Below_calls g 2000 w2 (by omega) (by omega) hc2).mono ?_
    rintro e w3 ⟨y, rfl, h0, h1, hm3, hc3⟩
    go_wp2
    go_ret
    exact ⟨_, rfl, by omega, by omega, below_moved hb (hm.trans hm3) hg⟩
  · go_wp2_with fail
    refine (l1Odd_calls g w2 hc2).mono ?_
    rintro e w3 ⟨y, rfl, h0, h1, hm3, hc3⟩
    go_wp2
    go_ret
    exact ⟨_, rfl, h0, h1, below_moved hb (hm.trans hm3) hg⟩

theorem drawParseNum_calls (A : Option Addr) (c : Nat) (xs : List Int) (w : World) (hl : xs.length ≤ c) (hr : Row (Kd.int .u8) w (fun k => k < w.heap.size) A xs) :
    Calls Tryd.prog 12 #[.slice A xs.length c] w fun e w' => ∃ s, e = .returned (.string s) ∧ s.size ≤ 1000 ∧ Below w.heap.size w w' := by
  go_enter Tryd.func12, Tryd.ntmps12
  go_wp2_with fail
  refine (l1New_calls A c xs w hl hr).mono ?_
  rintro e w1 ⟨g, rfl, hg, hb, hc⟩
  go_wp2_with fail
  refine (l1Once_calls g 2 w1 (by omega) (by omega) hc).mono ?_
  rintro e w2 ⟨x, rfl, hm, hc2⟩
  cases x
  · go_wp2_with fail
    refine (l1Below_calls g 10001 w2 (by omega) (by omega) hc2).mono ?_
    rintro e w3 ⟨y, rfl, h0, h1, hm3, hc3⟩
    go_wp2_with fail
    refine (specNumText_calls y w3 (by omega) (by omega)).mono ?_
    rintro e w4 ⟨rfl, hb4⟩
    go_wp2
    go_ret
    have := Lib.itoa_length_le y (by omega) (by omega)
    exact ⟨_, rfl, by show (Lib.itoa y).length ≤ 1000; omega, below_moved hb ((hm.trans hm3).then hb4) hg⟩
  · go_wp2_with fail
    have hlt := hc2.lt
    have hall : ∀ x ∈ ([⟨#[]⟩, ⟨#[48]⟩, ⟨#[48, 48]⟩, ⟨#[48, 49]⟩, ⟨#[57, 57, 57, 57]⟩, ⟨#[49, 48, 48, 48, 48]⟩, ⟨#[45, 49]⟩, ⟨#[43, 49]⟩, ⟨#[32, 49]⟩, ⟨#[57, 97]⟩] : List ByteArray), x.size ≤ 1000 := by decide
    refine (l1Str_calls g _ _ [⟨#[]⟩, ⟨#[48]⟩, ⟨#[48, 48]⟩, ⟨#[48, 49]⟩, ⟨#[57, 57, 57, 57]⟩, ⟨#[49, 48, 48, 48, 48]⟩, ⟨#[45, 49]⟩, ⟨#[43, 49]⟩, ⟨#[32, 49]⟩, ⟨#[57, 97]⟩] _ (hc2.alloc _) (by decide) (Nat.le_refl _) (row_lit _ (by omega) (by decide))).mono ?_
    rintro e w3 ⟨x, rfl, hx, hm3, hc3⟩
    go_wp2
    go_ret
    exact ⟨_, rfl, hall x hx, below_moved hb (hm.trans ((Moved.of (below_alloc (Below.refl _ _) _)).trans hm3)) hg⟩
theorem big_calls (A : Option Addr) (n c : Nat) (w : World) : Calls Tryd.prog 10 #[.slice A n c] w fun e w' => e = .returned (.bool (decide ((n : Int) > 1048576))) ∧ w = w' := by
  go_enter Tryd.func10, Tryd.ntmps10
  go_wp2
  go_ret
  exact ⟨rfl, rfl⟩
theorem nums_law (A : Option Addr) (c : Nat) (xs : List Int) (w : World) (hl : xs.length ≤ c) (hr : Row (Kd.int .u8) w (fun k => k < w.heap.size) A xs) (hE : Env w) :
    Calls Tryd.prog 5 #[.slice A xs.length c] w fun e w' => e = .returned (.bool true) ∧ Below w.heap.size w w' := by
  have HE := Aside0.mk hE
  clear hE
  go_enter Tryd.func5, Tryd.ntmps5
  go_wp2_with fail
  refine (big_calls A _ c w).mono ?_
  rintro e w0 ⟨rfl, rfl⟩
  by_cases hbig : (xs.length : Int) > 1048576
  · rw [decide_eq_true hbig]
    go_wp2
    go_ret
    exact ⟨rfl, Below.refl _ _⟩
  rw [decide_eq_false hbig]
  go_wp2_with fail
  refine (drawNumText_calls A c xs w hl hr).mono ?_
  rintro e w1 ⟨n, rfl, hn0, hn1, hb1⟩
  have HE1 := Aside0.mk (HE.out.below hb1)
  have hr1 := Aside0.mk ((hr.below hb1).mono (fun k (hk : k < w.heap.size) => Nat.lt_of_lt_of_le hk hb1.size))
  go_wp2_with fail
  refine (implNumText_calls n w1 hn0 hn1 HE1.out.tab).mono ?_
  rintro e w2 ⟨rfl, hb2⟩
  have HE2 := Aside0.mk (HE1.out.below hb2)
  go_wp2_with fail
  refine (implParseNum_calls _ w2 (by have := Lib.itoa_length_le n hn0 hn1; show (Lib.itoa n).length ≤ _; omega) HE2.out).mono ?_
  rintro e w3 ⟨rfl, hb3⟩
  have HE3 := Aside0.mk (HE2.out.below hb3)
  have hr3 := Aside0.mk ((((hr1.out.below hb2).below hb3)).mono (fun k (hk : k < w1.heap.size) => Nat.lt_of_lt_of_le hk (Nat.le_trans hb2.size hb3.size)))
  have hpz : pnV ({ data := (Lib.itoa n).toArray } : ByteArray).data.toList = if 0 ≤ n ∧ n ≤ 9999 then .tuple #[.int .i64 n, .bool true] else .tuple #[.int .i64 0, .bool false] := by
    show pnV (Lib.itoa n) = _
    unfold pnV
    rw [pn_itoa n]
    by_cases h : 0 ≤ n ∧ n ≤ 9999
    · rw [if_pos h, if_pos h]; show Value.tuple #[.int .i64 ((n.toNat : Nat) : Int), .bool true] = _; rw [Int.toNat_of_nonneg h.1]
    · rw [if_neg h, if_neg h]
  rw [hpz]
  clear hpz
  obtain ⟨ok, x, hif, hok, hx⟩ : ∃ ok x, (if 0 ≤ n ∧ n ≤ 9999 then Value.tuple #[.int .i64 n, .bool true] else .tuple #[.int .i64 0, .bool false]) = Value.tuple #[.int .i64 x, .bool ok] ∧ ok = (decide (n ≥ 0) && decide (n ≤ 9999)) ∧ (ok = true → x = n) := by
    by_cases h : 0 ≤ n ∧ n ≤ 9999
    · exact ⟨true, n, by rw [if_pos h], by simp [h.1, h.2], fun _ => rfl⟩
    · refine ⟨false, 0, by rw [if_neg h], ?_, by simp⟩
      rw [eq_comm, Bool.and_eq_false_iff]
      simp only [decide_eq_false_iff_not]
      omega
  rw [hif]
  clear hif
  go_wp2_with fail
  refine (drawParseNum_calls A c xs w3 hl hr3.out).mono ?_
  rintro e w4 ⟨t, rfl, ht, hb4⟩
  have HE4 := Aside0.mk (HE3.out.below hb4)
  go_wp2_with fail
  refine (implParseNum_calls t w4 (by omega) HE4.out).mono ?_
  rintro e w5 ⟨rfl, hb5⟩
  have HE5 := Aside0.mk (HE4.out.below hb5)
  obtain ⟨is, y, hpt, hy⟩ : ∃ (is : Bool) (y : Int), pnV t.data.toList = .tuple #[.int .i64 y, .bool is] ∧ (is = true → 0 ≤ y ∧ y ≤ 9999 ∧ (⟨(Lib.itoa y).toArray⟩ : ByteArray) = t) := by
    unfold pnV
    cases hp : pn t.data.toList with
    | none => exact ⟨false, 0, rfl, by simp⟩
    | some v =>
      obtain ⟨hv, hd⟩ := (pn_iff _ _).1 hp
      refine ⟨true, v, rfl, fun _ => ⟨by omega, by omega, ?_⟩⟩
      rw [Lib.itoa_nonneg, hd]
  rw [hpt]
  have hpt := Aside0.mk hpt
  have hy := Aside0.mk hy
  go_wp2_with fail
  refine (specParseNum_calls t w5).mono ?_
  rintro e w6 ⟨rfl, hb6⟩
  rw [hpt.out]
  go_wp2_with fail
  refine (specNumText_calls n w6 hn0 hn1).mono ?_
  rintro e w7 ⟨rfl, hb7⟩
  have HB := Aside0.mk (below_then hb1 (below_then hb2 (below_then hb3 (below_then hb4 (below_then hb5 (below_then hb6 hb7))))))
  have HE7 := Aside0.mk ((HE5.out.below hb6).below hb7)
  generalize (⟨(Lib.itoa n).toArray⟩ : ByteArray) = z
  cases is
  · rcases (show (0 ≤ n ∧ n ≤ 9999) ∨ n < 0 ∨ 9999 < n by omega) with ⟨hn2, hn3⟩ | hn2 | hn2
    · rw [decide_eq_true hn2, decide_eq_true hn3] at hok
      obtain rfl := hok
      obtain rfl := hx rfl
      go_wp2
      go_ret
      exact ⟨rfl, HB.out⟩
    · rw [decide_eq_false (show ¬ n ≥ 0 by omega)] at hok
      obtain rfl := hok
      clear hx
      go_wp2
      go_ret
      exact ⟨rfl, HB.out⟩
    · rw [decide_eq_false (show ¬ n ≤ 9999 by omega), Bool.and_false] at hok
      obtain rfl := hok
      clear hx
      go_wp2
      go_ret
      exact ⟨rfl, HB.out⟩
  · obtain ⟨hy0, hy1, hyt⟩ := hy.out rfl
    clear hy hpt
    have hyt := Aside0.mk hyt
    rcases (show (0 ≤ n ∧ n ≤ 9999) ∨ n < 0 ∨ 9999 < n by omega) with ⟨hn2, hn3⟩ | hn2 | hn2
    · rw [decide_eq_true hn2, decide_eq_true hn3] at hok
      obtain rfl := hok
      obtain rfl := hx rfl
      go_wp2_with fail
      refine (implNumText_calls y w7 (by omega) (by omega) HE7.out.tab).mono ?_
      rintro e w8 ⟨rfl, hb8⟩
      rw [hyt.out]
      go_wp2
      go_ret
      exact ⟨rfl, below_then HB.out hb8⟩
    · rw [decide_eq_false (show ¬ n ≥ 0 by omega)] at hok
      obtain rfl := hok
      clear hx
      go_wp2_with fail
      refine (implNumText_calls y w7 (by omega) (by omega) HE7.out.tab).mono ?_
      rintro e w8 ⟨rfl, hb8⟩
      rw [hyt.out]
      go_wp2
      go_ret
      exact ⟨rfl, below_then HB.out hb8⟩
    · rw [decide_eq_false (show ¬ n ≤ 9999 by omega), Bool.and_false] at hok
      obtain rfl := hok
      clear hx
      go_wp2_with fail
      refine (implNumText_calls y w7 (by omega) (by omega) HE7.out.tab).mono ?_
      rintro e w8 ⟨rfl, hb8⟩
      rw [hyt.out]
      go_wp2
      go_ret
      exact ⟨rfl, below_then HB.out hb8⟩
end Go.Proofs.YticjmglmgdmjbaaDoor
