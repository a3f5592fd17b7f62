/- TextOk, PlainOk, of both. -/
import Derived.Test.YtpcklgkpjmmakaaGreatDoorTextPl
import Derived.Test.YtpcklgkpjmmakaaGreatDoorSignAt
import Derived.Test.YtpcklgkpjmmakaaGreatDoorSgnImpl
namespace Go.Proofs.YtpcklgkpjmmakaaGreatDoor
open Go.RowKit Go.Lib
set_option linter.unusedVariables false
set_option linter.unusedSimpArgs false
set_option maxHeartbeats 1000000
theorem l1Signs_calls (s : ByteArray) (w : World) (hs : s.size ≤ 1099511627776) :
    Calls Tryz.prog 190 #[.string s] w fun e w' => e = .returned (.bool (signsB s && decide (s.size ≤ 1500))) ∧ Below w.heap.size w w' := by
  go_enter Tryz.func190, Tryz.ntmps190
  go_wp2
  go_loopg [3] s.size (fun k a wr => ∃ pos : Nat, a = .int .i64 pos ∧ pos + k = s.size ∧ Aside (signsB s = sgs (fun _ r => isSign r) s pos) ∧ Below w.heap.size w wr)
  case atStart => exact ⟨0, rfl, by omega, rfl, Below.refl _ _⟩
  case round =>
    obtain ⟨pos, rfl, hk, ha, hb⟩ := hrel
    by_cases hp : pos < s.size
    · go_wp2_with fail
      refine (specSignAt_calls s pos wr hs).mono ?_
      rintro e w1 ⟨rfl, rfl⟩
      rw [show sgnI s pos = sgnAt s pos by rw [sgnI, if_neg (by omega), Int.toNat_natCast]]
      cases hq : sgnAt s pos with
      | none =>
        have hfin := Aside0.mk (show (signsB s && decide (s.size ≤ 1500)) = false by rw [ha.out, sgs_none hp hq]; rfl)
        clear hq ha
        simp only [sgnV]
        go_wp2
        go_ret
        exact ⟨by rw [hfin.out]; rfl, hb⟩
      | some q =>
        obtain ⟨r, nx⟩ := q
        have hn := sgnAt_next hq
        have hstep := Aside0.mk (sgs_some (p := fun _ r => isSign r) hq)
        clear hq
        simp only [sgnV]
        go_wp2_with fail
        refine (specIsSign_calls _ wr).mono ?_
        rintro e w2 ⟨rfl, rfl⟩
        cases hsg : isSign (r : Int) with
        | false =>
          have hfin := Aside0.mk (show (signsB s && decide (s.size ≤ 1500)) = false by rw [ha.out, hstep.out, hsg]; rfl)
          clear hsg ha
          go_wp2
          go_ret
          exact ⟨by rw [hfin.out]; rfl, hb⟩
        | true =>
          have hnx := Aside0.mk (show signsB s = sgs (fun _ r => isSign r) s nx by rw [ha.out, hstep.out, hsg]; rfl)
          clear hsg ha hstep
          go_wp2
          go_roundg (s.size - nx)
          case measure => omega
          case rel => exact ⟨nx, rfl, by omega, hnx.out, hb⟩
    · have hfin := Aside0.mk (show signsB s = true by rw [ha.out, sgs_end _ _ _ (by omega)])
      clear ha
      go_wp2
      go_ret
      exact ⟨by rw [hfin.out]; simp <;> omega, hb⟩
theorem signsOk_calls (s : ByteArray) (w : World) (hs : s.size ≤ 1099511627776) (hE : Env w) :
    Calls Tryz.prog 175 #[.string s] w fun e w' => e = .returned (.bool (signsB s)) ∧ Below w.heap.size w w' := by
  have HE := Aside0.mk hE
  clear hE
  go_enter Tryz.func175, Tryz.ntmps175
  go_wp2
  go_loopg [3] s.size (fun k a wr => ∃ pos : Nat, a = .int .i64 pos ∧ pos + k = s.size ∧ Aside (signsB s = sgs (fun _ r => isSign r) s pos) ∧ Below w.heap.size w wr)
  case atStart => exact ⟨0, rfl, by omega, rfl, Below.refl _ _⟩
  case round =>
    obtain ⟨pos, rfl, hk, ha, hb⟩ := hrel
    by_cases hp : pos < s.size
    · go_wp2_with fail
      refine (implSignAt_calls s pos wr hs (HE.out.below hb)).mono ?_
      rintro e w1 ⟨rfl, hb1⟩
      rw [show sgnI s pos = sgnAt s pos by rw [sgnI, if_neg (by omega), Int.toNat_natCast]]
      cases hq : sgnAt s pos with
      | none =>
        have hfin := Aside0.mk (show (signsB s) = false by rw [ha.out, sgs_none hp hq])
        clear hq ha
        simp only [sgnV]
        go_wp2
        go_ret
        exact ⟨by rw [hfin.out]; rfl, below_then hb hb1⟩
      | some q =>
        obtain ⟨r, nx⟩ := q
        have hn := sgnAt_next hq
        have hstep := Aside0.mk (sgs_some (p := fun _ r => isSign r) hq)
        clear hq
        simp only [sgnV]
        go_wp2_with fail
        refine (implIsSign_calls _ w1).mono ?_
        rintro e w2 ⟨rfl, hb2⟩
        cases hsg : isSign (r : Int) with
        | false =>
          have hfin := Aside0.mk (show (signsB s) = false by rw [ha.out, hstep.out, hsg]; rfl)
          clear hsg ha
          go_wp2
          go_ret
          exact ⟨by rw [hfin.out]; rfl, below_then hb (below_then hb1 hb2)⟩
        | true =>
          have hnx := Aside0.mk (show signsB s = sgs (fun _ r => isSign r) s nx by rw [ha.out, hstep.out, hsg]; rfl)
          clear hsg ha hstep
          go_wp2
          go_roundg (s.size - nx)
          case measure => omega
          case rel => exact ⟨nx, rfl, by omega, hnx.out, below_then hb (below_then hb1 hb2)⟩
    · have hfin := Aside0.mk (show signsB s = true by rw [ha.out, sgs_end _ _ _ (by omega)])
      clear ha
      go_wp2
      go_ret
      exact ⟨by rw [hfin.out]; rfl, hb⟩
theorem specTextOk_calls (s : ByteArray) (w : World) (hs : s.size ≤ 1099511627776) :
    Calls Tryz.prog 166 #[.string s] w fun e w' => e = .returned (.bool (textOk s)) ∧ Below w.heap.size w w' := by
  go_enter Tryz.func166, Tryz.ntmps166
  by_cases h6 : s.size ≤ 600
  · have hfin := Aside0.mk (show textOk s = (signsB s && decide (s.size ≤ 1500)) by rw [textOk, decide_eq_true h6, decide_eq_true (show s.size ≤ 1500 by omega)]; simp)
    go_wp2_with fail
    refine (l1Signs_calls s w hs).mono ?_
    rintro e w1 ⟨rfl, hb⟩
    go_wp2
    go_ret
    exact ⟨by rw [hfin.out]; rfl, hb⟩
  · have hfin := Aside0.mk (show textOk s = false by rw [textOk, decide_eq_false h6]; rfl)
    go_wp2
    go_ret
    exact ⟨by rw [hfin.out]; rfl, Below.refl _ _⟩
theorem implTextOk_calls (s : ByteArray) (w : World) (hs : s.size ≤ 1099511627776) (hE : Env w) :
    Calls Tryz.prog 150 #[.string s] w fun e w' => e = .returned (.bool (textOk s)) ∧ Below w.heap.size w w' := by
  have HE := Aside0.mk hE
  clear hE
  go_enter Tryz.func150, Tryz.ntmps150
  by_cases h6 : s.size ≤ 600
  · have hfin := Aside0.mk (show textOk s = signsB s by rw [textOk, decide_eq_true h6]; rfl)
    go_wp2_with fail
    refine (signsOk_calls s w hs HE.out).mono ?_
    rintro e w1 ⟨rfl, hb⟩
    go_wp2
    go_ret
    exact ⟨by rw [hfin.out]; rfl, hb⟩
  · have hfin := Aside0.mk (show textOk s = false by rw [textOk, decide_eq_false h6]; rfl)
    go_wp2
    go_ret
    exact ⟨by rw [hfin.out]; rfl, Below.refl _ _⟩
theorem specPlainOk_calls (s : ByteArray) (w : World) (hs : s.size ≤ 1099511627776) :
    Calls Tryz.prog 165 #[.string s] w fun e w' => e = .returned (.bool (plainOk s)) ∧ Below w.heap.size w w' := by
  go_enter Tryz.func165, Tryz.ntmps165
  by_cases hlen : 1 ≤ s.size ∧ s.size ≤ 16
  · have hl := Aside0.mk (show (decide ((1 : Int) ≤ (s.size : Int)) && decide ((s.size : Int) ≤ 16)) = true by rw [Bool.and_eq_true]; simp only [decide_eq_true_eq]; omega)
    go_wp2_with fail
    refine (l1In_calls _ _ _ _).mono ?_
    rintro e w0 ⟨rfl, rfl⟩
    rw [hl.out]
    go_wp2
    go_loopg [3] s.size (fun k a wr => ∃ pos : Nat, a = .int .i64 pos ∧ pos + k = s.size ∧ Aside (sgs nameP s 0 = sgs nameP s pos) ∧ Below w.heap.size w wr)
    case atStart => exact ⟨0, rfl, by omega, rfl, Below.refl _ _⟩
    case round =>
      obtain ⟨pos, rfl, hk, ha, hb⟩ := hrel
      by_cases hp : pos < s.size
      · go_wp2_with fail
        refine (specSignAt_calls s pos wr hs).mono ?_
        rintro e w1 ⟨rfl, rfl⟩
        rw [show sgnI s pos = sgnAt s pos by rw [sgnI, if_neg (by omega), Int.toNat_natCast]]
        cases hq : sgnAt s pos with
        | none =>
          have hfin := Aside0.mk (show plainOk s = false by rw [plainOk, ha.out, sgs_none hp hq, Bool.and_false])
          clear hq ha
          simp only [sgnV]
          go_wp2
          go_ret
          exact ⟨by rw [hfin.out]; rfl, hb⟩
        | some q =>
          obtain ⟨r, nx⟩ := q
          have hn := sgnAt_next hq
          have hstep := Aside0.mk (sgs_some (p := nameP) hq)
          have hbad := Aside0.mk (show nameP pos r = false → plainOk s = false from fun h => by rw [plainOk, ha.out, hstep.out, h, Bool.false_and, Bool.and_false])
          have hgood := Aside0.mk (show nameP pos r = true → sgs nameP s 0 = sgs nameP s nx from fun h => by rw [ha.out, hstep.out, h, Bool.true_and])
          clear hq ha hstep
          simp only [sgnV]
          by_cases h0 : pos = 0
          · subst h0
            go_wp2_with fail
            refine (specIsStart_calls _ wr).mono ?_
            rintro e w2 ⟨rfl, hb2⟩
            cases hst : isStart (r : Int) with
            | false =>
              have hfin := Aside0.mk (hbad.out (by simp [nameP, hst]))
              clear hst
              go_wp2
              go_ret
              exact ⟨by rw [hfin.out]; rfl, below_then hb hb2⟩
            | true =>
              have HS := Aside0.mk hst
              clear hst
              go_wp2_with fail
              refine (specIsPart_calls _ w2).mono ?_
              rintro e w3 ⟨rfl, hb3⟩
              cases hpt : isPart (r : Int) with
              | false =>
                have hfin := Aside0.mk (hbad.out (by simp [nameP, hpt]))
                clear hpt
                go_wp2
                go_ret
                exact ⟨by rw [hfin.out]; rfl, below_then (below_then hb hb2) hb3⟩
              | true =>
                have hnx := Aside0.mk (hgood.out (by simp [nameP, hpt, HS.out]))
                clear hpt
                go_wp2
                go_roundg (s.size - nx)
                case measure => omega
                case rel => exact ⟨nx, rfl, by omega, hnx.out, below_then (below_then hb hb2) hb3⟩
          · have h0' : ((pos : Int) == 0) = false := by simp; omega
            have H0 := Aside0.mk h0
            go_wp2_with fail
            refine (specIsPart_calls _ wr).mono ?_
            rintro e w2 ⟨rfl, hb2⟩
            cases hpt : isPart (r : Int) with
            | false =>
              have hfin := Aside0.mk (hbad.out (by simp [nameP, hpt]))
              clear hpt
              go_wp2
              go_ret
              exact ⟨by rw [hfin.out]; rfl, below_then hb hb2⟩
            | true =>
              have hnx := Aside0.mk (hgood.out (by simp [nameP, hpt, H0.out]))
              clear hpt
              go_wp2
              go_roundg (s.size - nx)
              case measure => omega
              case rel => exact ⟨nx, rfl, by omega, hnx.out, below_then hb hb2⟩
      · have hfin := Aside0.mk (show plainOk s = true by rw [plainOk, ha.out, sgs_end _ _ _ (by omega), decide_eq_true hlen.1, decide_eq_true hlen.2]; rfl)
        clear ha
        go_wp2
        go_ret
        exact ⟨by rw [hfin.out]; rfl, hb⟩
  · have hl := Aside0.mk (show (decide ((1 : Int) ≤ (s.size : Int)) && decide ((s.size : Int) ≤ 16)) = false by rw [Bool.and_eq_false_iff]; simp only [decide_eq_false_iff_not]; omega)
    have hfin := Aside0.mk (show plainOk s = false by rw [plainOk, show (decide (1 ≤ s.size) && decide (s.size ≤ 16)) = false by rw [Bool.and_eq_false_iff]; simp only [decide_eq_false_iff_not]; omega]; rfl)
    clear hlen
    go_wp2_with fail
    refine (l1In_calls _ _ _ _).mono ?_
    rintro e w0 ⟨rfl, rfl⟩
    rw [hl.out]
    go_wp2
    go_ret
    exact ⟨by rw [hfin.out]; rfl, Below.refl _ _⟩
theorem implPlainOk_calls (s : ByteArray) (w : World) (hs : s.size ≤ 1099511627776) (hE : Env w) :
    Calls Tryz.prog 133 #[.string s] w fun e w' => e = .returned (.bool (plainOk s)) ∧ Below w.heap.size w w' := by
  have HE := Aside0.mk hE
  clear hE
  go_enter Tryz.func133, Tryz.ntmps133
  go_wp2
  go_loopg [3] s.size (fun k a wr => ∃ pos : Nat, a = .int .i64 pos ∧ pos + k = s.size ∧ Aside (sgs nameP s 0 = sgs nameP s pos) ∧ Below w.heap.size w wr)
  case atStart => exact ⟨0, rfl, by omega, rfl, Below.refl _ _⟩
  case round =>
    obtain ⟨pos, rfl, hk, ha, hb⟩ := hrel
    by_cases hp : pos < s.size
    · go_wp2_with fail
      refine (implSignAt_calls s pos wr hs (HE.out.below hb)).mono ?_
      rintro e w1 ⟨rfl, hb1⟩
      rw [show sgnI s pos = sgnAt s pos by rw [sgnI, if_neg (by omega), Int.toNat_natCast]]
      cases hq : sgnAt s pos with
      | none =>
        have hfin := Aside0.mk (show plainOk s = false by rw [plainOk, ha.out, sgs_none hp hq, Bool.and_false])
        clear hq ha
        simp only [sgnV]
        go_wp2
        go_ret
        exact ⟨by rw [hfin.out]; rfl, (below_then hb hb1)⟩
      | some q =>
        obtain ⟨r, nx⟩ := q
        have hn := sgnAt_next hq
        have hstep := Aside0.mk (sgs_some (p := nameP) hq)
        have hbad := Aside0.mk (show nameP pos r = false → plainOk s = false from fun h => by rw [plainOk, ha.out, hstep.out, h, Bool.false_and, Bool.and_false])
        have hgood := Aside0.mk (show nameP pos r = true → sgs nameP s 0 = sgs nameP s nx from fun h => by rw [ha.out, hstep.out, h, Bool.true_and])
        clear hq ha hstep
        simp only [sgnV]
        by_cases h0 : pos = 0
        · subst h0
          go_wp2_with fail
          refine (implIsStart_calls _ w1).mono ?_
          rintro e w2 ⟨rfl, hb2⟩
          cases hst : isStart (r : Int) with
          | false =>
            have hfin := Aside0.mk (hbad.out (by simp [nameP, hst]))
            clear hst
            go_wp2
            go_ret
            exact ⟨by rw [hfin.out]; rfl, below_then (below_then hb hb1) hb2⟩
          | true =>
            have HS := Aside0.mk hst
            clear hst
            go_wp2_with fail
            refine (implIsPart_calls _ w2).mono ?_
            rintro e w3 ⟨rfl, hb3⟩
            cases hpt : isPart (r : Int) with
            | false =>
              have hfin := Aside0.mk (hbad.out (by simp [nameP, hpt]))
              clear hpt
              go_wp2
              go_ret
              exact ⟨by rw [hfin.out]; rfl, below_then (below_then (below_then hb hb1) hb2) hb3⟩
            | true =>
              have hnx := Aside0.mk (hgood.out (by simp [nameP, hpt, HS.out]))
              clear hpt
              go_wp2
              go_roundg (s.size - nx)
              case measure => omega
              case rel => exact ⟨nx, rfl, by omega, hnx.out, below_then (below_then (below_then hb hb1) hb2) hb3⟩
        · have h0' : ((pos : Int) == 0) = false := by simp; omega
          have H0 := Aside0.mk h0
          go_wp2_with fail
          refine (implIsPart_calls _ w1).mono ?_
          rintro e w2 ⟨rfl, hb2⟩
          cases hpt : isPart (r : Int) with
          | false =>
            have hfin := Aside0.mk (hbad.out (by simp [nameP, hpt]))
            clear hpt
            go_wp2
            go_ret
            exact ⟨by rw [hfin.out]; rfl, below_then (below_then hb hb1) hb2⟩
          | true =>
            have hnx := Aside0.mk (hgood.out (by simp [nameP, hpt, H0.out]))
            clear hpt
            go_wp2
            go_roundg (s.size - nx)
            case measure => omega
            case rel => exact ⟨nx, rfl, by omega, hnx.out, below_then (below_then hb hb1) hb2⟩
    · have hfin := Aside0.mk (show (decide ((1 : Int) ≤ (s.size : Int)) && decide ((s.size : Int) ≤ 16)) = plainOk s by
        rw [plainOk, ha.out, sgs_end _ _ _ (by omega), Bool.and_true, show decide ((1 : Int) ≤ (s.size : Int)) = decide (1 ≤ s.size) from decide_eq_decide.2 (by omega), show decide ((s.size : Int) ≤ 16) = decide (s.size ≤ 16) from decide_eq_decide.2 (by omega)])
      clear ha
      go_wp2_with fail
      refine (in_calls _ _ _ _).mono ?_
      rintro e w0 ⟨rfl, rfl⟩
      rw [hfin.out]
      go_wp2
      go_ret
      exact ⟨rfl, hb⟩
end Go.Proofs.YtpcklgkpjmmakaaGreatDoor
