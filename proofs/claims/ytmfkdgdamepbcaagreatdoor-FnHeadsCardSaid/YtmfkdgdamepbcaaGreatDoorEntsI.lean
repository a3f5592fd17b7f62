/- The program's EntsOk. -/
import Derived.Test.YtmfkdgdamepbcaaGreatDoorEnts
import Derived.Deep.RegionWith
namespace Go.Proofs.YtmfkdgdamepbcaaGreatDoor
open Go.RowKit Go.Lib
set_option linter.unusedVariables false
set_option linter.unusedSimpArgs false
set_option maxHeartbeats 4000000
set_option maxRecDepth 20000
theorem implEntsOk_calls {ok : Nat → Prop} (A : Option Addr) (c : Nat) (l : List Dcl) (w : World) (hr : Row Kd.dcl w ok A l) (hz : ∀ d ∈ l, d.pre.size ≤ 1048576 ∧ d.uri.size ≤ 1048576) (hE : Env w) :
    Calls Tryz.prog 28 #[.slice A l.length c] w fun e w' => e = .returned (.bool (entsOk l)) ∧ Below w.heap.size w w' := by
  have hmax := hr.max
  have HE := Aside0.mk hE
  clear hE
  have Hz := Aside0.mk hz
  clear hz
  obtain ⟨R, hR⟩ : ∃ R, R = entsOk l := ⟨_, rfl⟩
  have HR := Aside0.mk (show R = (entsGo l l.length && decide (l.length ≤ 4)) from hR)
  rw [← hR]
  clear hR
  go_enter Tryz.func28, Tryz.ntmps28
  go_wp2
  go_loopg [7] l.length (fun k i wr => ∃ (j : Nat), i = .int .i64 j ∧ j + k = l.length ∧ Aside (entsGo l j = true) ∧ Below w.heap.size w wr)
  case atStart => exact ⟨0, rfl, by omega, rfl, Below.refl _ _⟩
  case round =>
    obtain ⟨j, rfl, hk, ha, hb⟩ := hrel
    by_cases hlt : j < l.length
    · have HRow := Aside0.mk (fun W1 (hb1 : Below wr.heap.size wr W1) => (hr.below hb).below hb1)
      obtain ⟨b, o, rfl, hbl, d0, d1⟩ := dcl_at (hr.below hb) j hlt
      obtain ⟨z0, z1⟩ := Hz.out _ (List.getElem_mem hlt)
      have i1 : (j : Int) < (l.length : Int) := by omega
      have hg := Aside0.mk (entGood_at hlt)
      have hbad := Aside0.mk (fun h => (show R = false by rw [HR.out, entsGo_bad (n := l.length) hlt h]; rfl))
      obtain ⟨p, hp⟩ : ∃ p, p = (l[j]'hlt).pre := ⟨_, rfl⟩
      obtain ⟨u, hu⟩ : ∃ u, u = (l[j]'hlt).uri := ⟨_, rfl⟩
      have hh := Aside0.mk (show entHead (l[j]'hlt) = (plainOk p && (!isKnown p && textOk u)) by rw [hp, hu]; rfl)
      rw [← hp] at d0 z0 hg
      rw [← hu] at d1 z1
      obtain ⟨Wb, hWb, HBb, hszb, HGb⟩ := boxed wr #[.string p, .string u] 57
      have KB := Aside0.mk (show ∀ W1, Below Wb.heap.size Wb W1 → W1.cell? ⟨wr.heap.size, 0, none⟩ = some (.string p) ∧ W1.cell? ⟨wr.heap.size, 1, none⟩ = some (.string u) from
        fun W1 hb => ⟨cell_of_row W1 _ 0 _ _ _ ((hb.block _ hszb).trans HGb), cell_of_row W1 _ 1 _ _ _ ((hb.block _ hszb).trans HGb)⟩)
      obtain ⟨g0, g1⟩ := KB.out _ (Below.refl _ _)
      have HWb := Aside0.mk hWb
      have hbwb := below_then hb HBb
      have HP := Aside0.mk (fun W1 (hb1 : Below Wb.heap.size Wb W1) => implPlainOk_calls p W1 (by omega) (HE.out.below (below_then hbwb hb1)))
      have HT := Aside0.mk (fun W1 (hb1 : Below Wb.heap.size Wb W1) => implTextOk_calls u W1 (by omega) (HE.out.below (below_then hbwb hb1)))
      have HI := Aside0.mk (fun W1 (hb1 : Below Wb.heap.size Wb W1) => entAt_calls (some ⟨b, o, none⟩) c l p W1 (HRow.out _ (below_then HBb hb1)))
      obtain ⟨vp, hvp⟩ : ∃ v, v = plainOk p := ⟨_, rfl⟩
      obtain ⟨vk, hvk⟩ : ∃ v, v = isKnown p := ⟨_, rfl⟩
      obtain ⟨vt, hvt⟩ : ∃ v, v = textOk u := ⟨_, rfl⟩
      obtain ⟨vi, hvi⟩ : ∃ v, v = entIdx l p := ⟨_, rfl⟩
      have HK := Aside0.mk (fun W1 A c (okk : Nat → Prop) (h : Row Kd.str W1 okk A knownL) => (show Calls Tryz.prog 72 #[.slice A 5 c, .string p] W1 (fun e w' => e = .returned (.bool vk) ∧ W1 = w') from by rw [hvk]; exact ContainsStr_calls A knownL c p W1 h))
      rw [← hvp] at HP hh
      rw [← hvk] at hh
      rw [← hvt] at HT hh
      rw [← hvi] at HI hg
      have hnx := Aside0.mk (fun h => entsGo_step ha.out (i := j) h)
      clear hp hu HGb hWb hvp hvk hvt hvi ha
      go_upto_region 4 with fail
      rw [← HWb.out]
      clear d0 d1
      go_cut [35] (fun b wx => b = .bool (!entGood l j) ∧ Below Wb.heap.size Wb wx)
      case first =>
        have hbz : Below Wb.heap.size Wb Wb.drew := below_drew (Below.refl _ _)
        cases vp with
        | false =>
          have hgd := Aside0.mk (show entGood l j = false by rw [hg.out, hh.out]; rfl)
          have HPL := Aside0.mk (fun x : Later Wb => HP.out x.W x.h)
          have G0 := later_cell g0 hszb
          have G1 := later_cell g1 hszb
          refine wp_region_later (by kernel_rfl) (by kernel_rfl) ?_
          repeat (go_big_quiet_step ((go_at_call 71; exact later_call (HPL.out _))))
          refine wpQuiet_nil ?_
          rintro _ ⟨⟨W2, hb2⟩, rfl⟩
          go_wp2_with fail
          go_meet
          exact ⟨by rw [hgd.out]; rfl, hb2⟩
        | true =>
        cases vk with
        | true =>
          have hgd := Aside0.mk (show entGood l j = false by rw [hg.out, hh.out]; rfl)
          first | go_region_with (first
            | (go_at_call 71; refine (HP.out _ hbz).mono ?_; rintro e w1 ⟨rfl, hb1⟩
               have hbz := below_then hbz hb1
               have g0 := (KB.out _ hbz).1
               have g1 := (KB.out _ hbz).2
               skip)
            | (go_at_call 73; refine (ownNames_calls _).mono ?_; rintro e w2 ⟨rfl, hrow, hb2⟩
               have hbz := below_then hbz hb2
               have g0 := (KB.out _ hbz).1
               have g1 := (KB.out _ hbz).2
               skip)
            | (go_at_call 72; refine (HK.out _ _ _ _ hrow).mono ?_; rintro e w3 ⟨rfl, rfl⟩)) | fail
          all_goals (go_wp2_with fail; go_meet; exact ⟨by rw [hgd.out]; rfl, hbz⟩)
        | false =>
        cases vt with
        | false =>
          have hgd := Aside0.mk (show entGood l j = false by rw [hg.out, hh.out]; rfl)
          first | go_region_with (first
            | (go_at_call 71; refine (HP.out _ hbz).mono ?_; rintro e w1 ⟨rfl, hb1⟩
               have hbz := below_then hbz hb1
               have g0 := (KB.out _ hbz).1
               have g1 := (KB.out _ hbz).2
               skip)
            | (go_at_call 73; refine (ownNames_calls _).mono ?_; rintro e w2 ⟨rfl, hrow, hb2⟩
               have hbz := below_then hbz hb2
               have g0 := (KB.out _ hbz).1
               have g1 := (KB.out _ hbz).2
               skip)
            | (go_at_call 72; refine (HK.out _ _ _ _ hrow).mono ?_; rintro e w3 ⟨rfl, rfl⟩)
            | (go_at_call 11; refine (HT.out _ hbz).mono ?_; rintro e w4 ⟨rfl, hb4⟩
               have hbz := below_then hbz hb4)) | fail
          all_goals (go_wp2_with fail; go_meet; exact ⟨by rw [hgd.out]; rfl, hbz⟩)
        | true =>
          by_cases hvi : vi = (j : Int)
          · have hgd := Aside0.mk (show entGood l j = true by rw [hg.out, hh.out, decide_eq_true hvi]; rfl)
            subst hvi
            first | go_region_held3 (fun w' => Below Wb.heap.size Wb w' ∧ w'.cell? ⟨wr.heap.size, 0, none⟩ = some (.string p) ∧ w'.cell? ⟨wr.heap.size, 1, none⟩ = some (.string u)) (refine ⟨?_, ?_, ?_⟩ <;> (first | assumption | exact below_drew (Below.refl _ _) | go_keep)) (first
              | (go_at_call 71; refine (HP.out _ hbz).mono ?_; rintro e w1 ⟨rfl, hb1⟩
                 have hbz := below_then hbz hb1
                 have g0 := (KB.out _ hbz).1
                 have g1 := (KB.out _ hbz).2
                 skip)
              | (go_at_call 73; refine (ownNames_calls _).mono ?_; rintro e w2 ⟨rfl, hrow, hb2⟩
                 have hbz := below_then hbz hb2
                 have g0 := (KB.out _ hbz).1
                 have g1 := (KB.out _ hbz).2
                 skip)
              | (go_at_call 72; refine (HK.out _ _ _ _ hrow).mono ?_; rintro e w3 ⟨rfl, rfl⟩)
              | (go_at_call 11; refine (HT.out _ hbz).mono ?_; rintro e w4 ⟨rfl, hb4⟩
                 have hbz := below_then hbz hb4
                 have g0 := (KB.out _ hbz).1
                 have g1 := (KB.out _ hbz).2
                 skip)
              | (go_at_call 74; refine (HI.out _ hbz).mono ?_; rintro e w5 ⟨rfl, hb5⟩
                 have hbz := below_then hbz hb5
                 have g0 := (KB.out _ hbz).1
                 have g1 := (KB.out _ hbz).2
                 skip)
              | fail) | fail
            all_goals (go_wp2_with fail; go_meet; exact ⟨by rw [hgd.out]; rfl, hbz⟩)
          · have hgd := Aside0.mk (show entGood l j = false by rw [hg.out, hh.out, decide_eq_false hvi]; rfl)
            have n9 : (vi != (j : Int)) = true := by simpa using hvi
            first | go_region_held3 (fun w' => Below Wb.heap.size Wb w' ∧ w'.cell? ⟨wr.heap.size, 0, none⟩ = some (.string p) ∧ w'.cell? ⟨wr.heap.size, 1, none⟩ = some (.string u)) (refine ⟨?_, ?_, ?_⟩ <;> (first | assumption | exact below_drew (Below.refl _ _) | go_keep)) (first
              | (go_at_call 71; refine (HP.out _ hbz).mono ?_; rintro e w1 ⟨rfl, hb1⟩
                 have hbz := below_then hbz hb1
                 have g0 := (KB.out _ hbz).1
                 have g1 := (KB.out _ hbz).2
                 skip)
              | (go_at_call 73; refine (ownNames_calls _).mono ?_; rintro e w2 ⟨rfl, hrow, hb2⟩
                 have hbz := below_then hbz hb2
                 have g0 := (KB.out _ hbz).1
                 have g1 := (KB.out _ hbz).2
                 skip)
              | (go_at_call 72; refine (HK.out _ _ _ _ hrow).mono ?_; rintro e w3 ⟨rfl, rfl⟩)
              | (go_at_call 11; refine (HT.out _ hbz).mono ?_; rintro e w4 ⟨rfl, hb4⟩
                 have hbz := below_then hbz hb4
                 have g0 := (KB.out _ hbz).1
                 have g1 := (KB.out _ hbz).2
                 skip)
              | (go_at_call 74; refine (HI.out _ hbz).mono ?_; rintro e w5 ⟨rfl, hb5⟩
                 have hbz := below_then hbz hb5
                 have g0 := (KB.out _ hbz).1
                 have g1 := (KB.out _ hbz).2
                 skip)
              | fail) | fail
            all_goals (go_wp2_with fail; go_meet; exact ⟨by rw [hgd.out]; rfl, hbz⟩)
      case rest =>
      obtain ⟨rfl, hb5⟩ := hcut
      cases hgd : entGood l j with
      | false =>
        have hfin := Aside0.mk (hbad.out hgd)
        clear hgd
        go_wp2
        go_ret
        exact ⟨by rw [hfin.out]; rfl, below_then hbwb hb5⟩
      | true =>
        have hnx := Aside0.mk (hnx.out hgd)
        clear hgd
        go_wp2
        go_roundg (gk - 1)
        case measure => omega
        case rel => exact ⟨j + 1, by go_num, by omega, hnx.out, below_then hbwb hb5⟩
    · have hgo := ha.out
      obtain rfl : j = l.length := by omega
      have hfin := Aside0.mk (show R = decide ((l.length : Int) ≤ 4) by rw [HR.out, hgo, Bool.true_and]; exact decide_eq_decide.2 (by omega))
      clear ha hgo
      go_wp2
      go_ret
      exact ⟨by rw [hfin.out]; rfl, hb⟩
end Go.Proofs.YtmfkdgdamepbcaaGreatDoor
