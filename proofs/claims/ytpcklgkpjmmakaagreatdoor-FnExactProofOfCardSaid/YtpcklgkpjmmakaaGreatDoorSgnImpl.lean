/- The program's SignAt. -/
import Derived.Test.YtpcklgkpjmmakaaGreatDoorSgn
import Derived.Test.YtpcklgkpjmmakaaGreatDoorSign
import Derived.Test.YtpcklgkpjmmakaaGreatDoorShelf
import Derived.Lib.RuneCountTail
namespace Go.Proofs.YtpcklgkpjmmakaaGreatDoor
open Go.RowKit Go.Lib
set_option linter.unusedVariables false
set_option linter.unusedSimpArgs false
set_option maxRecDepth 20000
/-- What the world holds of the library's tables. -/
structure Env (w : World) : Prop where
  utf : Lib.Utf8Tabs 3 4 w
  len : ∃ m, w.cell? ⟨5, 0, none⟩ = some (.int .i64 m)
theorem Env.below {w w1 : World} (h : Env w) (hb : Below w.heap.size w w1) : Env w1 :=
  ⟨Utf8Tabs_below h.utf hb, by
    obtain ⟨m, hm⟩ := h.len
    exact ⟨m, by rw [hb.cell (p := ⟨5, 0, none⟩) (World.block_lt_of_cell? w _ hm)]; exact hm⟩⟩
theorem Env.drawn {w w1 : World} (h : Env w) (hd : Drawn w w1) : Env w1 := h.below hd.below
theorem dec_tail (s : ByteArray) (pos : Nat) (h : pos < s.size) : Lib.decodeGo (s.extract pos s.size) = Utf8.decode s pos := by
  unfold Lib.decodeGo
  rw [if_neg (by rw [ByteArray.size_extract]; omega), tail_decode, Nat.add_zero]
theorem implSignAt_calls (s : ByteArray) (at' : Int) (w : World) (hs : s.size ≤ 1099511627776) (hE : Env w) :
    Calls Tryz.prog 154 #[.string s, .int .i64 at'] w fun e w' => e = .returned (sgnV (sgnI s at')) ∧ Below w.heap.size w w' := by
  by_cases hin : 0 ≤ at' ∧ at' < s.size
  · obtain ⟨pos, rfl⟩ : ∃ p : Nat, at' = p := ⟨at'.toNat, by omega⟩
    have hp : pos < s.size := by omega
    have hv := Aside0.mk (show sgnI s pos = if (Utf8.decode s pos).1 = 65533 ∧ (Utf8.decode s pos).2 ≤ 1 then none else some ((Utf8.decode s pos).1, pos + (Utf8.decode s pos).2) by rw [sgnI, if_neg (by omega), Int.toNat_natCast, sgnAt, if_pos hp])
    have hd := dec_tail s pos hp
    have hin' := Aside0.mk (show (decide ((0 : Int) ≤ (pos : Int)) && decide ((pos : Int) ≤ (s.size : Int) - 1)) = true by rw [Bool.and_eq_true]; simp only [decide_eq_true_eq]; omega)
    have h4 : (Utf8.decode s pos).2 ≤ 4 := by
      rw [dec_bt]; unfold decodeN; repeat' split
      all_goals simp
    have h5 : (Utf8.decode s pos).1 ≤ 1114111 := by
      have := bt_lt s pos
      rw [dec_bt]; unfold decodeN; repeat' split
      all_goals (simp only; omega)
    have HD := Aside0.mk hd
    clear hd hin
    have HE := Aside0.mk hE
    clear hE
    go_enter Tryz.func154, Tryz.ntmps154
    go_wp2_with fail
    refine (in_calls _ _ _ _).mono ?_
    rintro e w1 ⟨rfl, rfl⟩
    rw [hin'.out]
    go_wp2_with fail
    trace_state
    refine (Tryz.utf8_DecodeRuneInString _ w HE.out.utf).mono ?_
    rintro e w2 ⟨rfl, hb2⟩
    rw [HD.out]
    generalize (Utf8.decode s pos).1 = r at *
    generalize (Utf8.decode s pos).2 = n at *
    by_cases hr : r = 65533
    · by_cases hn : n ≤ 1
      · have hfin := Aside0.mk (show sgnI s pos = none by rw [hv.out, if_pos ⟨hr, hn⟩])
        clear hv HD
        subst hr
        go_wp2
        go_ret3
        exact ⟨by rw [hfin.out]; rfl, hb2⟩
      · have hfin := Aside0.mk (show sgnI s pos = some (r, pos + n) by rw [hv.out, if_neg (fun h => hn h.2)])
        clear hv HD
        subst hr
        go_wp2
        go_ret3
        exact ⟨by rw [hfin.out]; simp [sgnV], hb2⟩
    · have hfin := Aside0.mk (show sgnI s pos = some (r, pos + n) by rw [hv.out, if_neg (fun h => hr h.1)])
      clear hv HD
      go_wp2
      go_ret3
      exact ⟨by rw [hfin.out]; simp [sgnV], hb2⟩
  · have hv := Aside0.mk (show sgnI s at' = none by
      unfold sgnI sgnAt
      split
      · rfl
      · rw [if_neg (by omega)])
    have hin' := Aside0.mk (show (decide ((0 : Int) ≤ at') && decide (at' ≤ (s.size : Int) - 1)) = false by rw [Bool.and_eq_false_iff]; simp only [decide_eq_false_iff_not]; omega)
    clear hin
    go_enter Tryz.func154, Tryz.ntmps154
    go_wp2_with fail
    refine (in_calls _ _ _ _).mono ?_
    rintro e w1 ⟨rfl, rfl⟩
    rw [hin'.out]
    go_wp2
    go_ret3
    exact ⟨by rw [hv.out]; rfl, Below.refl _ _⟩
end Go.Proofs.YtpcklgkpjmmakaaGreatDoor
