/- Signs: IsSign, IsStart, IsPart, IsBlank, of both. -/
import Derived.Test.YtpcklgkpjmmakaaGreatDoorNodeF
import Derived.Test.YtpcklgkpjmmakaaGreatDoorProg
import Derived.WalkKit
import Derived.WalkLawsBesides
import Derived.WalkSpells
import Derived.Deep.LoopGhost
import Derived.Deep.QuietTactic
import Derived.BigQuiet
import Derived.Outline
import Derived.Laws.BytesArg
import Derived.Shelf.Abstract
import Derived.Deep.RegionHeld3
namespace Go.Proofs.YtpcklgkpjmmakaaGreatDoor
open Go.RowKit
set_option linter.unusedVariables false
set_option linter.unusedSimpArgs false
theorem l1In_calls (x a b : Int) (w : World) : Calls Tryz.prog 62 #[.int .i64 x, .int .i64 a, .int .i64 b] w fun e w' => e = .returned (.bool (decide (a ≤ x) && decide (x ≤ b))) ∧ w = w' := by
  go_enter Tryz.func62, Tryz.ntmps62
  go_wp2
  all_goals (go_ret; exact ⟨by simp [*] <;> omega, rfl⟩)
theorem in_calls (x a b : Int) (w : World) : Calls Tryz.prog 60 #[.int .i64 x, .int .i64 a, .int .i64 b] w fun e w' => e = .returned (.bool (decide (a ≤ x) && decide (x ≤ b))) ∧ w = w' := by
  go_enter Tryz.func60, Tryz.ntmps60
  go_wp2
  all_goals (go_ret; exact ⟨by simp [*] <;> omega, rfl⟩)
theorem specIsBlank_calls (n : Int) (w : World) : Calls Tryz.prog 172 #[.int .i64 n] w fun e w' => e = .returned (.bool (isBlank n)) ∧ w = w' := by
  have hv := Aside0.mk (show isBlank n = (n == 9 || n == 10 || n == 13 || n == 32) from rfl)
  go_enter Tryz.func172, Tryz.ntmps172
  go_wp2
  all_goals (go_ret; exact ⟨by rw [hv.out]; simp [*], rfl⟩)
theorem implIsBlank_calls (n : Int) (w : World) : Calls Tryz.prog 179 #[.int .i64 n] w fun e w' => e = .returned (.bool (isBlank n)) ∧ w = w' := by
  have hv := Aside0.mk (show isBlank n = (n == 9 || n == 10 || n == 13 || n == 32) from rfl)
  go_enter Tryz.func179, Tryz.ntmps179
  go_wp2
  all_goals (go_ret; exact ⟨by rw [hv.out]; simp [*], rfl⟩)
theorem specIsSign_calls (n : Int) (w : World) : Calls Tryz.prog 206 #[.int .i64 n] w fun e w' => e = .returned (.bool (isSign n)) ∧ w = w' := by
  have hv := Aside0.mk (isSign_spec n)
  go_enter Tryz.func206, Tryz.ntmps206
  go_wp2_with (go_at_call 62; refine (l1In_calls _ _ _ _).mono ?_; rintro e w1 ⟨rfl, rfl⟩)
  all_goals (go_ret; exact ⟨by rw [hv.out]; simp [*] <;> omega, rfl⟩)
/-- What a list of pairs, one behind the other, says. -/
theorem flat_int {rs : List (Int × Int)} (j : Nat) (h : j < rs.length) : ∃ h1 h2, (flatR rs)[2 * j]'h1 = (rs[j]'h).1 ∧ (flatR rs)[2 * j + 1]'h2 = (rs[j]'h).2 := by
  have hl := flatR_length rs
  have e := fun (i : Nat) (hi : i < 2) => flat_get (enc := fun r : Int × Int => [Value.int .i64 r.1, Value.int .i64 r.2]) (n := 2) (fun _ => rfl) rs j h i hi
  refine ⟨by omega, by omega, ?_, ?_⟩
  all_goals
    induction rs generalizing j with
    | nil => exact absurd h (Nat.not_lt_zero _)
    | cons r rs ih =>
      cases j with
      | zero => rfl
      | succ j =>
        have := ih j (by simpa using h) (flatR_length rs) (fun i hi => flat_get (enc := fun r : Int × Int => [Value.int .i64 r.1, Value.int .i64 r.2]) (n := 2) (fun _ => rfl) rs j (by simpa using h) i hi)
        exact this
theorem flat_int' {rs : List (Int × Int)} (m j : Nat) (hm : m = 2 * j) (h : j < rs.length) : ∃ h1 h2, (flatR rs)[m]'h1 = (rs[j]'h).1 ∧ (flatR rs)[m + 1]'h2 = (rs[j]'h).2 := by
  subst hm
  exact flat_int j h
theorem l1Ranges_calls {ok : Nat → Prop} (n : Int) (A : Option Addr) (c : Nat) (rs : List (Int × Int)) (m : Nat) (hm : m = (flatR rs).length) (w : World) (h : Row (Kd.int .i64) w ok A (flatR rs)) :
    Calls Tryz.prog 205 #[.int .i64 n, .slice A m c] w fun e w' => e = .returned (.bool (inR n rs)) ∧ Drawn w w' := by
  subst hm
  have hmax := h.max
  have hl := flatR_length rs
  have hl' := Aside0.mk hl
  clear hl
  go_enter Tryz.func205, Tryz.ntmps205
  go_wp2
  go_loopg [5] rs.length (fun k s wr => ∃ j m : Nat, s = .int .i64 m ∧ m = 2 * j ∧ j + k = rs.length ∧ Aside (∀ y ∈ rs.take j, inR1 n y = false) ∧ Drawn w wr)
  case atStart => exact ⟨0, 0, rfl, rfl, by omega, fun y hy => by simp at hy, Drawn.refl _⟩
  case round =>
    obtain ⟨j, m, rfl, hm, hk, ha, hd⟩ := hrel
    have h := h.drawn hd
    by_cases hj : j < rs.length
    · obtain ⟨h1, h2, e1, e2⟩ := flat_int' m j hm hj
      have HM := Aside0.mk hm
      clear hm
      obtain ⟨b, o, rfl, hb, d0⟩ := int_at h m h1
      obtain ⟨b', o', hA', hb', d1⟩ := int_at h (m + 1) h2
      injection hA' with hA'
      injection hA' with e3 e4
      subst e3 e4
      rw [e1] at d0
      rw [e2] at d1
      clear e1 e2 h
      have i1 : (m : Int) < ((flatR rs).length : Int) := by omega
      have i2 : (m : Int) + 1 < ((flatR rs).length : Int) := by omega
      have i3 : (0 : Int) ≤ (m : Int) + 1 := by omega
      have i4 : ((m : Int) + 1).toNat = m + 1 := by omega
      have i5 : IntKind.i64.wrap ((m : Int) + 1) = (m : Int) + 1 := by rw [IntKind.wrap_i64]; omega
      cases hq : inR1 n (rs[j]'hj) with
      | true =>
        have hfin := Aside0.mk (show inR n rs = true from List.any_eq_true.2 ⟨_, List.getElem_mem hj, hq⟩)
        unfold inR1 at hq
        have HQ := Aside0.mk hq
        clear hq
        go_wp2
        go_quiet ((go_at_call 62; exact quiet_same (l1In_calls _ _ _ _)))
        rw [HQ.out]
        go_wp2
        go_ret
        exact ⟨by rw [hfin.out]; rfl, hd.trans (Drawn.of _ _)⟩
      | false =>
        have hfin := Aside0.mk (take_miss hj ha.out hq)
        unfold inR1 at hq
        have HQ := Aside0.mk hq
        clear hq
        go_wp2
        go_quiet ((go_at_call 62; exact quiet_same (l1In_calls _ _ _ _)))
        rw [HQ.out]
        go_wp2
        go_roundg (gk - 1)
        case measure => omega
        case rel => exact ⟨j + 1, m + 2, by go_num, by have := HM.out; omega, by omega, hfin.out, hd.trans (Drawn.of _ _)⟩
    · have hfin := Aside0.mk (show inR n rs = false by
        rw [show rs.take j = rs from List.take_of_length_le (by omega)] at ha
        exact List.any_eq_false.2 (fun y hy => by rw [ha.out y hy]; simp))
      have hge : (flatR rs).length ≤ m := by have := hl'.out; omega
      have hno : (m : Int) ≤ 9223372036854775806 := by have := hl'.out; omega
      clear hm ha
      go_wp2
      go_ret
      exact ⟨by rw [hfin.out]; rfl, hd⟩
theorem specIsStart_calls (n : Int) (w : World) : Calls Tryz.prog 188 #[.int .i64 n] w fun e w' => e = .returned (.bool (isStart n)) ∧ Below w.heap.size w w' := by
  go_enter Tryz.func188, Tryz.ntmps188
  go_wp2_with fail
  refine (l1Ranges_calls (ok := fun _ => True) n _ _ startR 30 rfl _ (row_one (flatR startR) rfl trivial (by decide))).mono ?_
  rintro e w1 ⟨rfl, hd⟩
  go_wp2
  go_ret
  exact ⟨rfl, below_then (below_alloc (Below.refl _ _) _) hd.below⟩
theorem specIsPart_calls (n : Int) (w : World) : Calls Tryz.prog 189 #[.int .i64 n] w fun e w' => e = .returned (.bool (isPart n)) ∧ Below w.heap.size w w' := by
  have hv := Aside0.mk (show isPart n = (isStart n || inR n partR) from rfl)
  go_enter Tryz.func189, Tryz.ntmps189
  go_wp2_with fail
  refine (specIsStart_calls n w).mono ?_
  rintro e w1 ⟨rfl, hb1⟩
  cases hs : isStart n with
  | true =>
    have HV := Aside0.mk (show isPart n = true by rw [hv.out, hs]; rfl)
    clear hs
    go_wp2
    go_ret
    exact ⟨by rw [HV.out]; rfl, hb1⟩
  | false =>
    have HV := Aside0.mk (show isPart n = inR n partR by rw [hv.out, hs]; rfl)
    clear hs
    go_wp2_with fail
    refine (l1Ranges_calls (ok := fun _ => True) n _ _ partR 10 rfl _ (row_one (flatR partR) rfl trivial (by decide))).mono ?_
    rintro e w2 ⟨rfl, hd⟩
    go_wp2
    go_ret
    exact ⟨by rw [HV.out]; rfl, below_then (below_alloc hb1 _) hd.below⟩
/-! ### the program's -/
theorem IndexFunc_rg {ok : Nat → Prop} (p : Int × Int → Bool) (g : Nat) (lb : Array Value) (eg : ∀ args w, (callFunc g args).run Tryz.prog w = .ok (.enter g args) w) (A : Option Addr) (xs : List (Int × Int)) (c : Nat) (w : World)
    (h : Row Kd.rg w ok A xs) (hp : ∀ W x, Below w.heap.size w W → Calls Tryz.prog g (#[.agg #[.int .i64 x.1, .int .i64 x.2]] ++ lb) W fun e w' => e = .returned (.bool (p x)) ∧ Below W.heap.size W w') :
    Calls Tryz.prog 210 #[.slice A xs.length c, .func (.func g) #[] lb] w fun e w' => e = .returned (.int .i64 (idxB p xs)) ∧ Below w.heap.size w w' := by
  have hm := h.max
  go_enter Tryz.func210, Tryz.ntmps210
  go_wp2
  go_loopg [5, 8] xs.length (fun k _ i wr => ∃ (j : Nat), i = .int .i64 j ∧ j + k = xs.length ∧ Aside (∀ y ∈ xs.take j, p y = false) ∧ Below w.heap.size w wr)
  case atStart => exact ⟨0, rfl, by omega, (fun y hy => by simp at hy), Below.refl _ _⟩
  case round =>
    obtain ⟨j, rfl, hk, ha, hb⟩ := hrel
    by_cases hlt : j < xs.length
    · obtain ⟨b, o, rfl, hbl, e1, e2⟩ := rg_at (h.below hb) j hlt
      have hcall := hp wr xs[j] hb
      clear h hp
      cases hq : p xs[j] with
      | true =>
        have hfin := Aside0.mk (idxB_hit p xs j hlt ha.out hq)
        rw [hq] at hcall
        clear hq
        go_wp2_with (go_at_fn g; refine hcall.mono ?_; rintro e w' ⟨rfl, hb'⟩)
        go_ret
        exact ⟨by rw [hfin.out]; rfl, below_then hb hb'⟩
      | false =>
        have hfin := Aside0.mk (take_miss hlt ha.out hq)
        rw [hq] at hcall
        clear hq
        go_wp2_with (go_at_fn g; refine hcall.mono ?_; rintro e w' ⟨rfl, hb'⟩)
        go_roundg (gk - 1)
        case measure => omega
        case rel => exact ⟨j + 1, by go_num, by omega, hfin.out, below_then hb hb'⟩
    · obtain rfl : j = xs.length := by omega
      have hfin := Aside0.mk (idxB_miss p xs (by have := ha.out; rwa [List.take_length] at this))
      clear ha
      go_wp2
      go_ret
      exact ⟨by rw [hfin.out]; rfl, hb⟩
theorem ContainsFunc_rg {ok : Nat → Prop} (p : Int × Int → Bool) (g : Nat) (lb : Array Value) (eg : ∀ args w, (callFunc g args).run Tryz.prog w = .ok (.enter g args) w) (A : Option Addr) (xs : List (Int × Int)) (c : Nat) (w : World)
    (h : Row Kd.rg w ok A xs) (hp : ∀ W x, Below w.heap.size w W → Calls Tryz.prog g (#[.agg #[.int .i64 x.1, .int .i64 x.2]] ++ lb) W fun e w' => e = .returned (.bool (p x)) ∧ Below W.heap.size W w') :
    Calls Tryz.prog 197 #[.slice A xs.length c, .func (.func g) #[] lb] w fun e w' => e = .returned (.bool (xs.any p)) ∧ Below w.heap.size w w' := by
  rw [← idxB_any]
  go_enter Tryz.func197, Tryz.ntmps197
  go_wp2_with (go_at_call 210; refine (IndexFunc_rg p g lb eg _ _ _ _ h hp).mono ?_; rintro e w1 ⟨rfl, hb⟩)
  go_ret
  exact ⟨rfl, hb⟩
theorem inAny1_calls (n : Int) (x : Int × Int) (g : Nat) (w : World) (hn : w.cell? ⟨g, 0, none⟩ = some (.int .i64 n)) (hg : g < w.heap.size) :
    Calls Tryz.prog 198 #[.agg #[.int .i64 x.1, .int .i64 x.2], .pointer (some ⟨g, 0, none⟩)] w fun e w' => e = .returned (.bool (inR1 n x)) ∧ Below w.heap.size w w' := by
  have hv := Aside0.mk (show inR1 n x = (decide (x.1 ≤ n) && decide (n ≤ x.2)) from rfl)
  go_enter Tryz.func198, Tryz.ntmps198
  go_wp2_with fail
  refine (in_calls _ _ _ _).mono ?_
  rintro e w1 ⟨rfl, rfl⟩
  go_wp2
  go_ret
  exact ⟨by rw [hv.out]; rfl, below_alloc (Below.refl _ _) _⟩
theorem inAny_calls {ok : Nat → Prop} (n : Int) (A : Option Addr) (rs : List (Int × Int)) (m c : Nat) (hm : m = rs.length) (w : World) (h : Row Kd.rg w ok A rs) :
    Calls Tryz.prog 182 #[.int .i64 n, .slice A m c] w fun e w' => e = .returned (.bool (inR n rs)) ∧ Below w.heap.size w w' := by
  subst hm
  go_enter Tryz.func182, Tryz.ntmps182
  obtain ⟨W, hW, HB, hsz, HG⟩ := boxed w #[.int .i64 n] 3
  have HW := Aside0.mk hW
  clear hW
  have hcell : W.cell? ⟨w.heap.size, 0, none⟩ = some (.int .i64 n) := cell_of_row W w.heap.size 0 _ _ _ HG
  clear HG
  go_wp2_with fail
  rw [← HW.out]
  refine (ContainsFunc_rg (inR1 n) 198 #[.pointer (some ⟨w.heap.size, 0, none⟩)] (enters_of Tryz.func198 (by kernel_rfl) rfl) _ _ _ _ (h.below HB) (fun W' x hb => inAny1_calls n x w.heap.size W' (((bcell hb).1 _ 0 hsz).trans hcell) (Nat.lt_of_lt_of_le hsz hb.size))).mono ?_
  rintro e w1 ⟨rfl, hb⟩
  go_wp2
  go_ret
  exact ⟨rfl, below_then HB hb⟩
theorem implIsSign_calls (n : Int) (w : World) : Calls Tryz.prog 192 #[.int .i64 n] w fun e w' => e = .returned (.bool (isSign n)) ∧ Below w.heap.size w w' := by
  go_enter Tryz.func192, Tryz.ntmps192
  go_wp2_with fail
  refine (inAny_calls (ok := fun _ => True) n _ signR 5 _ rfl _ (row_flat signR rfl trivial (by decide))).mono ?_
  rintro e w1 ⟨rfl, hb⟩
  go_wp2
  go_ret
  exact ⟨rfl, below_then (below_alloc (Below.refl _ _) _) hb⟩
theorem implIsStart_calls (n : Int) (w : World) : Calls Tryz.prog 155 #[.int .i64 n] w fun e w' => e = .returned (.bool (isStart n)) ∧ Below w.heap.size w w' := by
  go_enter Tryz.func155, Tryz.ntmps155
  go_wp2_with fail
  refine (inAny_calls (ok := fun _ => True) n _ startR 15 _ rfl _ (row_flat startR rfl trivial (by decide))).mono ?_
  rintro e w1 ⟨rfl, hb⟩
  go_wp2
  go_ret
  exact ⟨rfl, below_then (below_alloc (Below.refl _ _) _) hb⟩
theorem implIsPart_calls (n : Int) (w : World) : Calls Tryz.prog 156 #[.int .i64 n] w fun e w' => e = .returned (.bool (isPart n)) ∧ Below w.heap.size w w' := by
  have hv := Aside0.mk (show isPart n = (isStart n || inR n partR) from rfl)
  go_enter Tryz.func156, Tryz.ntmps156
  go_wp2_with fail
  refine (implIsStart_calls n w).mono ?_
  rintro e w1 ⟨rfl, hb1⟩
  cases hs : isStart n with
  | true =>
    have HV := Aside0.mk (show isPart n = true by rw [hv.out, hs]; rfl)
    clear hs
    go_wp2
    go_ret
    exact ⟨by rw [HV.out]; rfl, hb1⟩
  | false =>
    have HV := Aside0.mk (show isPart n = inR n partR by rw [hv.out, hs]; rfl)
    clear hs
    go_wp2_with fail
    refine (inAny_calls (ok := fun _ => True) n _ partR 5 _ rfl _ (row_flat partR rfl trivial (by decide))).mono ?_
    rintro e w2 ⟨rfl, hb⟩
    go_wp2
    go_ret
    exact ⟨by rw [HV.out]; rfl, below_then (below_alloc hb1 _) hb⟩
end Go.Proofs.YtpcklgkpjmmakaaGreatDoor
