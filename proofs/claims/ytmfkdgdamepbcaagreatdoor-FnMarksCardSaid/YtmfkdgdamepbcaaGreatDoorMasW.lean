/- FnMarks' own body. -/
import Derived.Test.YtmfkdgdamepbcaaGreatDoorDrM
import Derived.Test.YtmfkdgdamepbcaaGreatDoorMkG
import Derived.Test.YtmfkdgdamepbcaaGreatDoorMkI
import Derived.Test.YtmfkdgdamepbcaaGreatDoorRefB
import Derived.Test.YtmfkdgdamepbcaaGreatDoorMaW
import Derived.Test.YtmfkdgdamepbcaaGreatDoorScan
import Derived.Test.YtmfkdgdamepbcaaGreatDoorBase
namespace Go.Proofs.YtmfkdgdamepbcaaGreatDoor
open Go.RowKit Go.Lib
set_option linter.unusedVariables false
set_option linter.unusedSimpArgs false
set_option maxHeartbeats 0
set_option maxRecDepth 100000
theorem blanksI_ge (s : ByteArray) (a : Int) : a ≤ blanksI s a := by
  unfold blanksI
  split
  · exact Int.le_refl _
  · have := (blanksN_le s a.toNat).1
    omega
theorem marks_law (A : Option Addr) (c : Nat) (xs : List Int) (w : World) (hl : xs.length ≤ c) (hr : Row (Kd.int .u8) w (fun k => k < w.heap.size) A xs) (hE : Env w) :
    Calls Tryz.prog 3 #[.slice A xs.length c] w fun e w' => e = .returned (.bool true) ∧ Below w.heap.size w w' := by
  have HE := Aside0.mk hE
  clear hE
  go_enter Tryz.func3, Tryz.ntmps3
  go_wp2_with fail
  refine (big_calls A _ c w).mono ?_
  rintro e w0 ⟨rfl, rfl⟩
  by_cases hbig : (xs.length : Int) > 1048576
  · rw [decide_eq_true hbig]
    go_wp2
    go_ret
    exact ⟨rfl, Below.refl _ _⟩
  rw [decide_eq_false hbig]
  clear hbig
  go_wp2_with fail
  refine (drawMarkAt_calls A c xs w hl hr).mono ?_
  rintro e w1 ⟨s, a, A1, c1, l, rfl, hs, ha0, ha1, hl1, hr1, hz, hb1⟩
  obtain ⟨R, hR⟩ : ∃ R, R = markO s a l := ⟨_, rfl⟩
  have HIm := Aside0.mk (implMarkAt_calls s a A1 c1 l w1 hr1 (by omega) (by omega) (by omega) hz (HE.out.below hb1))
  have HSp := Aside0.mk (fun W1 (hb : Below w1.heap.size w1 W1) => specMarkAt_calls s a A1 c1 l W1 (hr1.below hb) (by omega) (by omega) (by omega) hz)
  rw [← hR] at HIm HSp
  obtain ⟨m, hm⟩ : ∃ m, m = maM R := ⟨_, rfl⟩
  have HV := Aside0.mk (fun rv => show maV R rv = .tuple #[mkV m rv, .int .i64 (maK R), .bool R.isSome] by rw [hm]; rfl)
  obtain ⟨k0, hk0⟩ : ∃ k0, k0 = maK R := ⟨_, rfl⟩
  obtain ⟨q0, hq0⟩ : ∃ q0, q0 = R.isSome := ⟨_, rfl⟩
  rw [← hk0, ← hq0] at HV
  have HMm := Aside0.mk hm
  have Hk0 := Aside0.mk hk0
  have Hq0 := Aside0.mk hq0
  have HGood := Aside0.mk (fun q h => mark_good (q := q) (hR.symm.trans h))
  have HRaws := Aside0.mk (show m.raws.length ≤ 200 ∧ ∀ d ∈ m.raws, textOk d.uri = true by
    rw [hm]
    cases e : R with
    | none => exact ⟨Nat.zero_le _, fun d hd => by cases hd⟩
    | some q => exact ⟨Nat.le_trans (mark_raws (hR.symm.trans e)) hs, (mark_good (hR.symm.trans e)).2.2.2⟩)
  clear hm hR hk0 hq0 hr1 hz
  have hkk : (k0 != k0) = false := by simp
  have hqq : (q0 != q0) = false := by simp
  go_wp2_with fail
  refine (HIm.out).mono ?_
  rintro e w2 ⟨rv0, rfl, ⟨B0, hB0, hO2⟩, hb2⟩
  rw [HV.out]
  rw [← HMm.out] at hO2
  obtain ⟨A0, c0, rfl, _⟩ := Own.slice hO2
  obtain ⟨cells0, ho2, hs2⟩ := own_flat hO2
  have hr2 := row_pairs ho2 hs2
  simp only [mkV]
  obtain ⟨W3, hW3, HB3, hsz3, HG3⟩ := boxed w2 #[.int .i64 m.kind, .string m.name, .slice A0 m.raws.length c0, .bool m.empty, .string m.text] 29
  have HW3 := Aside0.mk hW3
  have hb13 := below_then hb2 HB3
  have hr3 := Aside0.mk (hr2.below HB3)
  have hb3 := Aside0.mk (below_then hb1 hb13)
  have HS4 := Aside0.mk (HSp.out W3 hb13)
  have HG3 := Aside0.mk HG3
  clear hW3 ho2 hs2 hO2 hB0 hr2 HB3 hb2 hb13
  go_upto_region 5 with fail
  rw [← HW3.out]
  go_wp2_with fail
  refine (HS4.out).mono ?_
  rintro e w4 ⟨rvg, rfl, ⟨Bg, hBg, hO4⟩, hb4⟩
  rw [HV.out]
  rw [← HMm.out] at hO4
  obtain ⟨Ag, cg, rfl, _⟩ := Own.slice hO4
  obtain ⟨cellsg, ho4, hs4⟩ := own_flat hO4
  have hr4 := row_pairs ho4 hs4
  simp only [mkV]
  obtain ⟨W5, hW5, HB5, hsz5, HG5⟩ := boxed w4 #[.int .i64 m.kind, .string m.name, .slice Ag m.raws.length cg, .bool m.empty, .string m.text] 29
  have HW5 := Aside0.mk hW5
  have hb35 := below_then hb4 HB5
  have HGa := Aside0.mk ((hb35.block _ hsz3).trans HG3.out)
  have HGb := Aside0.mk HG5
  have hra := Aside0.mk (hr3.out.below hb35)
  have hrb := Aside0.mk (hr4.below HB5)
  have hb5 := Aside0.mk (below_then hb3.out hb35)
  have hla : w2.heap.size < W5.heap.size := Nat.lt_of_lt_of_le hsz3 hb35.size
  have hlb : w4.heap.size < W5.heap.size := hsz5
  have HKa := Aside0.mk (fun W1 (hb : Below W5.heap.size W5 W1) => cells5 ((hb.block _ hla).trans HGa.out))
  have HKb := Aside0.mk (fun W1 (hb : Below W5.heap.size W5 W1) => cells5 ((hb.block _ hlb).trans HGb.out))
  clear hW5 ho4 hs4 hO4 hBg hr4 HB5 hb4 hb35 HG5
  go_upto_region 6 with fail
  rw [← HW5.out]
  obtain ⟨e0, e1, e2, e3, e4, _⟩ := HKa.out _ (Below.refl _ _)
  obtain ⟨d0, d1, d2, d3, d4, _⟩ := HKb.out _ (Below.refl _ _)
  clear hkk hqq
  go_upto_region 8 with fail
  clear e0 e1 e2 e3 e4 d0 d1 d2 d3 d4
  go_wp2_with fail
  go_loopg [12] m.raws.length (fun k i wr => ∃ j : Nat, i = .int .i64 (j : Int) ∧ j + k = m.raws.length ∧ Below W5.heap.size W5 wr)
  case atStart => exact ⟨0, rfl, by omega, Below.refl _ _⟩
  case round =>
    obtain ⟨j, rfl, hj, hb⟩ := hrel
    have hsz := hb.size
    obtain ⟨e0, e1, e2, e3, e4, _⟩ := HKa.out _ hb
    obtain ⟨d0, d1, d2, d3, d4, _⟩ := HKb.out _ hb
    by_cases hlt : j < m.raws.length
    · have hji : (j : Int) < (m.raws.length : Int) := by omega
      have hj9 : j < 200 := by have := HRaws.out.1; omega
      go_upto_region 11 with fail
      obtain ⟨ba, oa, hAa, hba, ca, cb⟩ := dcl_at (hra.out.below hb) j hlt
      obtain ⟨bb, ob, hAb, hbb, da, db⟩ := dcl_at (hrb.out.below hb) j hlt
      have E2 := later_cell e2 (by omega)
      have D2 := later_cell d2 (by omega)
      have CA := later_cell ca hba
      have CB := later_cell cb hba
      have DA := later_cell da hbb
      have DB := later_cell db hbb
      subst hAa hAb
      have ht := HRaws.out.2 _ (List.getElem_mem hlt)
      have HT := Aside0.mk (fun x : Later _ => implTextOk_calls (m.raws[j]'hlt).uri x.W (by have := text_size ht; omega) ((HE.out.below hb5.out).below (below_then hb x.h)))
      rw [ht] at HT
      clear e0 e1 e2 e3 e4 d0 d1 d2 d3 d4 ca cb da db ht
      refine wp_region_later (by kernel_rfl) (by kernel_rfl) ?_
      repeat (go_big_quiet_step ((go_at_call 11; exact later_call (HT.out _))))
      refine wpQuiet_nil ?_
      rintro _ ⟨⟨W6, hb6⟩, rfl⟩
      clear E2 D2 CA CB DA DB
      go_wp2
      go_roundg (gk - 1)
      case measure => omega
      case rel => exact ⟨j + 1, by go_num, by omega, below_then hb hb6⟩
    · clear e0 e1 e2 e3 e4 d0 d1 d2 d3 d4
      have hb' := Aside0.mk (below_then hb5.out hb)
      have hji : ¬ ((j : Int) < (m.raws.length : Int)) := by omega
      obtain ⟨e0, e1, e2, e3, e4, _⟩ := HKa.out _ hb
      have hrw := Aside0.mk ((hr.below hb'.out).mono (fun k (hk : k < w.heap.size) => Nat.lt_of_lt_of_le hk hb'.out.size))
      go_wp2_with fail
      refine (drawBlanks_calls A c xs _ hl hrw.out).mono ?_
      rintro e w7 ⟨b, i, rfl, hbs, hi0, hi1, hb7⟩
      have HBg := Aside0.mk (blanksI_ge b i)
      have HI := Aside0.mk (fun W => implBlanks_calls b i W (by omega) (by omega))
      have HS := Aside0.mk (fun W => specBlanks_calls b i W (by omega) (by omega))
      obtain ⟨z, hz⟩ : ∃ z, z = blanksI b i := ⟨_, rfl⟩
      rw [← hz] at HBg HI HS
      clear hz e0 e1 e2 e3 e4 hji
      have hbw := Aside0.mk (below_then hb hb7)
      have hbf := Aside0.mk (below_then hb'.out hb7)
      clear hb hb7
      go_wp2_with fail
      refine (HI.out _).mono ?_
      rintro e w8 ⟨rfl, rfl⟩
      go_wp2_with fail
      refine (HS.out _).mono ?_
      rintro e w9 ⟨rfl, rfl⟩
      have hzz : (z != z) = false := by simp
      have hzi : ¬ (z < i) := by have := HBg.out; omega
      obtain ⟨e0, e1, e2, e3, e4, _⟩ := HKa.out _ hbw.out
      cases e : R with
      | none =>
        have hm0 : m.kind = 0 := by rw [HMm.out, e]; rfl
        have hq : q0 = false := by rw [Hq0.out, e]; rfl
        rw [hm0] at e0
        subst hq
        clear e hm0
        go_wp2
        go_ret
        exact ⟨rfl, hbf.out⟩
      | some q =>
        have hg := HGood.out q e
        have hq : q0 = true := by rw [Hq0.out, e]; rfl
        have hk : k0 = (q.2 : Nat) := by rw [Hk0.out, e]; rfl
        have hmt : m.text = q.1.text := by rw [HMm.out, e]; rfl
        have hka : a < k0 := by rw [hk]; exact hg.1
        have hks : k0 ≤ (s.size : Int) := by rw [hk]; have := hg.2.1; omega
        have ht : textOk m.text = true := by rw [hmt]; exact hg.2.2.1
        have HT := Aside0.mk (implTextOk_calls m.text _ (by have := text_size ht; omega) (HE.out.below hbf.out))
        rw [ht] at HT
        subst hq
        clear e hk hmt hg ht
        go_wp2_with fail
        refine (HT.out).mono ?_
        rintro e w10 ⟨rfl, hb10⟩
        have hbg := below_then hbf.out hb10
        go_wp2
        go_ret
        exact ⟨rfl, hbg⟩
end Go.Proofs.YtmfkdgdamepbcaaGreatDoor
