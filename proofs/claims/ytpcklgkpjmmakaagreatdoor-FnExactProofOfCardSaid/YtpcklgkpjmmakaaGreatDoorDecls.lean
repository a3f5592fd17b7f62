/- DeclsOk, of both. -/
import Derived.Test.YtpcklgkpjmmakaaGreatDoorOkPl
import Derived.Test.YtpcklgkpjmmakaaGreatDoorBase
import Derived.BigQuiet
namespace Go.Proofs.YtpcklgkpjmmakaaGreatDoor
open Go.RowKit Go.Lib
set_option linter.unusedVariables false
set_option linter.unusedSimpArgs false
set_option maxHeartbeats 2000000
set_option maxRecDepth 20000
theorem specDeclsOk_calls {ok : Nat → Prop} (A : Option Addr) (c : Nat) (xs : List Dcl) (w : World) (hr : Row Kd.dcl w ok A xs) (hz : ∀ d ∈ xs, d.pre.size ≤ 1000000000 ∧ d.uri.size ≤ 1000000000) :
    Calls Tryz.prog 167 #[.slice A xs.length c] w fun e w' => e = .returned (.bool (declsOk xs)) ∧ Below w.heap.size w w' := by
  have hmax := hr.max
  have Hz := Aside0.mk hz
  clear hz
  have hv := Aside0.mk (show declsOk xs = (chain declOk declLt none xs && decide (xs.length ≤ 4)) from rfl)
  go_enter Tryz.func167, Tryz.ntmps167
  go_wp2
  go_loopg [3] xs.length (fun k i wr => ∃ (j : Nat), i = .int .i64 j ∧ j + k = xs.length ∧ Aside (chain declOk declLt none xs = chain declOk declLt (prevOf xs j) (xs.drop j)) ∧ Below w.heap.size w wr)
  case atStart => exact ⟨0, rfl, by omega, rfl, Below.refl _ _⟩
  case round =>
    obtain ⟨j, rfl, hk, ha, hb⟩ := hrel
    by_cases hlt : j < xs.length
    · obtain ⟨b, o, rfl, hbl, d0, d1⟩ := dcl_at (hr.below hb) j hlt
      obtain ⟨z0, z1⟩ := Hz.out _ (List.getElem_mem hlt)
      have i1 : (j : Int) < (xs.length : Int) := by omega
      have D0 := later_cell d0 hbl
      have D1 := later_cell d1 hbl
      have HC := Aside0.mk (fun W => specDeclOk_calls (xs[j]'hlt) W z0 z1)
      cases hq : declOk (xs[j]'hlt) with
      | false =>
        have hfin := Aside0.mk (show declsOk xs = false by rw [hv.out, ha.out, chain_bad hlt hq]; rfl)
        rw [hq] at HC
        clear hq ha
        go_wp2_with fail
        refine wp_region_later (by kernel_rfl) (by kernel_rfl) ?_
        repeat (go_big_quiet_step ((go_at_call 191; exact later_call (HC.out _))))
        refine wpQuiet_nil ?_
        rintro W1 ⟨⟨_, hb1⟩, rfl⟩
        go_wp2
        go_ret
        exact ⟨by rw [hfin.out]; rfl, below_then hb hb1⟩
      | true =>
        rw [hq] at HC
        by_cases hj : j = 0
        · subst hj
          have hnx := Aside0.mk (show chain declOk declLt none xs = chain declOk declLt (prevOf xs 1) (xs.drop 1) by rw [chain_zero hlt, hq, Bool.true_and])
          clear hq ha
          rw [Nat.zero_mul, Nat.add_zero] at d0 d1 D0 D1
          go_wp2_with fail
          refine wp_region_later (by kernel_rfl) (by kernel_rfl) ?_
          repeat (go_big_quiet_step ((go_at_call 191; exact later_call (HC.out _))))
          refine wpQuiet_nil ?_
          rintro W1 ⟨⟨_, hb1⟩, rfl⟩
          go_wp2
          go_roundg (gk - 1)
          case measure => omega
          case rel => exact ⟨1, by go_num, by omega, hnx.out, below_then hb hb1⟩
        · obtain ⟨m, rfl⟩ : ∃ m, j = m + 1 := ⟨j - 1, by omega⟩
          have hst := Aside0.mk (ha.out.trans (chain_succ hlt))
          clear ha hj
          have Hq := Aside0.mk hq
          clear hq
          obtain ⟨b', o', hA, hbl', e0, e1⟩ := dcl_at (hr.below hb) m (by omega)
          injection hA with hA
          injection hA with e3 e4
          subst e3 e4
          have E0 := later_cell e0 hbl'
          cases hl : declLt (xs[m]'(by omega)) (xs[m + 1]'hlt) with
          | false =>
            have hfin := Aside0.mk (show declsOk xs = false by rw [hv.out, hst.out, hl, Bool.and_false]; rfl)
            unfold declLt ltB at hl
            go_wp2_with fail
            refine wp_region_later (by kernel_rfl) (by kernel_rfl) ?_
            repeat (go_big_quiet_step ((go_at_call 191; exact later_call (HC.out _))))
            refine wpQuiet_nil ?_
            rintro W1 ⟨⟨_, hb1⟩, rfl⟩
            go_wp2
            go_ret
            exact ⟨by rw [hfin.out]; rfl, below_then hb hb1⟩
          | true =>
            have hnx := Aside0.mk (show chain declOk declLt none xs = chain declOk declLt (prevOf xs (m + 2)) (xs.drop (m + 2)) by rw [hst.out, hl, Hq.out]; rfl)
            unfold declLt ltB at hl
            go_wp2_with fail
            refine wp_region_later (by kernel_rfl) (by kernel_rfl) ?_
            repeat (go_big_quiet_step ((go_at_call 191; exact later_call (HC.out _))))
            refine wpQuiet_nil ?_
            rintro W1 ⟨⟨_, hb1⟩, rfl⟩
            go_wp2
            go_roundg (gk - 1)
            case measure => omega
            case rel => exact ⟨m + 2, by go_num, by omega, hnx.out, below_then hb hb1⟩
    · have hfin := Aside0.mk (show declsOk xs = decide ((xs.length : Int) ≤ 4) by rw [hv.out, ha.out, chain_end (by omega), Bool.true_and]; exact decide_eq_decide.2 (by omega))
      clear ha
      go_wp2
      go_ret
      exact ⟨by rw [hfin.out]; rfl, hb⟩
theorem implDeclsOk_calls {ok : Nat → Prop} (A : Option Addr) (c : Nat) (xs : List Dcl) (w : World) (hr : Row Kd.dcl w ok A xs) (hz : ∀ d ∈ xs, d.pre.size ≤ 1000000000 ∧ d.uri.size ≤ 1000000000) (hE : Env w) :
    Calls Tryz.prog 134 #[.slice A xs.length c] w fun e w' => e = .returned (.bool (declsOk xs)) ∧ Below w.heap.size w w' := by
  have hmax := hr.max
  have Hz := Aside0.mk hz
  clear hz
  have HE := Aside0.mk hE
  clear hE
  have hv := Aside0.mk (show declsOk xs = (chain declOk declLt none xs && decide (xs.length ≤ 4)) from rfl)
  go_enter Tryz.func134, Tryz.ntmps134
  go_wp2
  go_loopg [7] xs.length (fun k i wr => ∃ (j : Nat), i = .int .i64 j ∧ j + k = xs.length ∧ Aside (chain declOk declLt none xs = chain declOk declLt (prevOf xs j) (xs.drop j)) ∧ Below w.heap.size w wr)
  case atStart => exact ⟨0, rfl, by omega, rfl, Below.refl _ _⟩
  case round =>
    obtain ⟨j, rfl, hk, ha, hb⟩ := hrel
    by_cases hlt : j < xs.length
    · obtain ⟨b, o, rfl, hbl, d0, d1⟩ := dcl_at (hr.below hb) j hlt
      obtain ⟨z0, z1⟩ := Hz.out _ (List.getElem_mem hlt)
      obtain ⟨W, hW, HB, hsz, HG⟩ := boxed wr #[.string (xs[j]'hlt).pre, .string (xs[j]'hlt).uri] 122
      have g0 := cell_of_row W wr.heap.size 0 _ _ _ HG
      have g1 := cell_of_row W wr.heap.size 1 _ _ _ HG
      simp only [List.getElem?_toArray, List.getElem?_cons_zero, List.getElem?_cons_succ] at g0 g1
      have G0 := later_cell g0 hsz
      have G1 := later_cell g1 hsz
      have HW := Aside0.mk hW
      clear hW
      have i1 : (j : Int) < (xs.length : Int) := by omega
      have HC := Aside0.mk (fun x : Later W => implDeclOk_calls (xs[j]'hlt) x.W z0 z1 ((HE.out.below (below_then hb HB)).below x.h))
      cases hq : declOk (xs[j]'hlt) with
      | false =>
        have hfin := Aside0.mk (show declsOk xs = false by rw [hv.out, ha.out, chain_bad hlt hq]; rfl)
        rw [hq] at HC
        clear hq ha
        go_wp2_with fail
        rw [← HW.out]
        refine wp_region_later (by kernel_rfl) (by kernel_rfl) ?_
        repeat (go_big_quiet_step ((go_at_call 157; exact later_call (HC.out _))))
        refine wpQuiet_nil ?_
        rintro W1 ⟨⟨_, hb1⟩, rfl⟩
        go_wp2
        go_ret
        exact ⟨by rw [hfin.out]; rfl, below_then (below_then hb HB) hb1⟩
      | true =>
        rw [hq] at HC
        by_cases hj : j = 0
        · subst hj
          have hnx := Aside0.mk (show chain declOk declLt none xs = chain declOk declLt (prevOf xs 1) (xs.drop 1) by rw [chain_zero hlt, hq, Bool.true_and])
          clear hq ha
          rw [Nat.zero_mul, Nat.add_zero] at d0 d1
          go_wp2_with fail
          rw [← HW.out]
          refine wp_region_later (by kernel_rfl) (by kernel_rfl) ?_
          repeat (go_big_quiet_step ((go_at_call 157; exact later_call (HC.out _))))
          refine wpQuiet_nil ?_
          rintro W1 ⟨⟨_, hb1⟩, rfl⟩
          go_wp2
          go_roundg (gk - 1)
          case measure => omega
          case rel => exact ⟨1, by go_num, by omega, hnx.out, below_then (below_then hb HB) hb1⟩
        · obtain ⟨m, rfl⟩ : ∃ m, j = m + 1 := ⟨j - 1, by omega⟩
          have hst := Aside0.mk (ha.out.trans (chain_succ hlt))
          clear ha hj
          have Hq := Aside0.mk hq
          clear hq
          obtain ⟨b', o', hA, hbl', e0, e1⟩ := dcl_at (hr.below hb) m (by omega)
          injection hA with hA
          injection hA with e3 e4
          subst e3 e4
          have E0 := later_cell ((bcell HB).1 _ _ hbl' |>.trans e0) (Nat.lt_of_lt_of_le hbl' HB.size)
          cases hl : declLt (xs[m]'(by omega)) (xs[m + 1]'hlt) with
          | false =>
            have hfin := Aside0.mk (show declsOk xs = false by rw [hv.out, hst.out, hl, Bool.and_false]; rfl)
            unfold declLt ltB at hl
            go_wp2_with fail
            rw [← HW.out]
            refine wp_region_later (by kernel_rfl) (by kernel_rfl) ?_
            repeat (go_big_quiet_step ((go_at_call 157; exact later_call (HC.out _))))
            refine wpQuiet_nil ?_
            rintro W1 ⟨⟨_, hb1⟩, rfl⟩
            go_wp2
            go_ret
            exact ⟨by rw [hfin.out]; rfl, below_then (below_then hb HB) hb1⟩
          | true =>
            have hnx := Aside0.mk (show chain declOk declLt none xs = chain declOk declLt (prevOf xs (m + 2)) (xs.drop (m + 2)) by rw [hst.out, hl, Hq.out]; rfl)
            unfold declLt ltB at hl
            go_wp2_with fail
            rw [← HW.out]
            refine wp_region_later (by kernel_rfl) (by kernel_rfl) ?_
            repeat (go_big_quiet_step ((go_at_call 157; exact later_call (HC.out _))))
            refine wpQuiet_nil ?_
            rintro W1 ⟨⟨_, hb1⟩, rfl⟩
            go_wp2
            go_roundg (gk - 1)
            case measure => omega
            case rel => exact ⟨m + 2, by go_num, by omega, hnx.out, below_then (below_then hb HB) hb1⟩
    · have hfin := Aside0.mk (show declsOk xs = decide ((xs.length : Int) ≤ 4) by rw [hv.out, ha.out, chain_end (by omega), Bool.true_and]; exact decide_eq_decide.2 (by omega))
      clear ha
      go_wp2
      go_ret
      exact ⟨by rw [hfin.out]; rfl, hb⟩
end Go.Proofs.YtpcklgkpjmmakaaGreatDoor
