/- The laws' own bodies: FnExactRowsOf, FnExactRowCount. -/
import Derived.Test.YtdggfnpioljcbaaGreatDoorRowsOf
import Derived.Test.YtdggfnpioljcbaaGreatDoorNodeOpen
import Derived.Test.YtdggfnpioljcbaaGreatDoorEq
import Derived.Deep.RegionWith
namespace Go.Proofs.YtdggfnpioljcbaaGreatDoor
open Go.RowKit Go.Lib
set_option linter.unusedVariables false
set_option linter.unusedSimpArgs false
set_option maxHeartbeats 8000000
set_option maxRecDepth 100000
theorem rowsOf_law (n : Nd) (s : Sh) (w : World) (ok : Nat → Prop) (hf : Fit n) (hn : NodeIs w ok n s) (hE : Env w) (hF : Folds w) (hP : Tab w) :
    Calls Tryz.prog 7 #[.agg #[.int .i64 n.kind, .string n.pre, .string n.loc, .string n.uri, .slice s.Ad n.decls.length s.cd, .slice s.Aa n.attrs.length s.ca, .slice s.Ak n.kids.length s.ck, .string n.text]] w fun e w' => e = .returned (.bool true) ∧ Below w.heap.size w w' := by
  obtain ⟨Ad, cd, Aa, ca, Ak, ck⟩ := s
  obtain ⟨W, hW, HB, hsz, HG⟩ := boxed w #[.int .i64 n.kind, .string n.pre, .string n.loc, .string n.uri, .slice Ad n.decls.length cd, .slice Aa n.attrs.length ca, .slice Ak n.kids.length ck, .string n.text] 26
  have HN := Aside0.mk (fun W1 (hb : Below W.heap.size W W1) => hn.below (below_then HB hb))
  have HS := Aside0.mk (szNode_calls (cnt n) n ⟨Ad, cd, Aa, ca, Ak, ck⟩ 1048576 W ok (Nat.le_refl _) hf (by omega) (by omega) (hn.below HB))
  have K := Aside0.mk (fun W1 hb => box_cells (((hb : Below W.heap.size W W1).block _ hsz).trans HG))
  have HE := Aside0.mk (hE.below HB)
  have HF := Aside0.mk (hF.below HB)
  have HP := Aside0.mk (hP.below HB)
  have HW := Aside0.mk hW
  have hszv := szV_cases 1048576 (wt n)
  obtain ⟨r, hr⟩ : ∃ r, r = szV 1048576 (wt n) := ⟨_, rfl⟩
  rw [← hr] at HS hszv
  simp only at HS ⊢
  clear hW HG hn hE hF hP hf hr
  go_enter Tryz.func7, Tryz.ntmps7
  go_upto_region 1 with fail
  rw [← HW.out]
  obtain ⟨a0, a1, a2, a3, a4, a5, a6, a7⟩ := K.out _ (Below.refl _ _)
  go_wp2_with fail
  refine (HS.out).mono ?_
  rintro e w1 ⟨rfl, hb1⟩
  obtain ⟨d0, d1, d2, d3, d4, d5, d6, d7⟩ := K.out _ hb1
  clear a0 a1 a2 a3 a4 a5 a6 a7
  rcases hszv with ⟨hr, hle⟩ | ⟨hr, hle⟩
  case inr =>
    subst hr
    go_wp2
    go_ret
    exact ⟨rfl, below_then HB hb1⟩
  have hwt : wt n ≤ 1048576 := by omega
  have hr0 : 0 ≤ r := by omega
  clear hr hle
  have Hwt := Aside0.mk hwt
  clear hwt
  have HT := Aside0.mk (fun W1 (hb : Below W.heap.size W W1) => toNode_calls (cnt n) n ⟨Ad, cd, Aa, ca, Ak, ck⟩ W1 ok (Nat.le_refl _) Hwt.out (HN.out W1 hb))
  simp only at HT
  go_wp2_with fail
  refine (HT.out _ hb1).mono ?_
  rintro e w2 ⟨⟨s2, rfl, hs2⟩, hb2⟩
  have hb12 := below_then hb1 hb2
  go_wp2_with fail
  refine (specRowsOf_calls n s2 w2 _ Hwt.out hs2).mono ?_
  rintro e w3 ⟨rfl, hb3⟩
  have hb13 := below_then hb12 hb3
  clear hs2
  obtain ⟨a0, a1, a2, a3, a4, a5, a6, a7⟩ := K.out _ hb13
  clear d0 d1 d2 d3 d4 d5 d6 d7
  go_wp2_with fail
  refine (HT.out _ hb13).mono ?_
  rintro e w4 ⟨⟨s4, rfl, hs4⟩, hb4⟩
  have hb14 := below_then hb13 hb4
  obtain ⟨W5, hW5, HB5, hsz5, HG5⟩ := boxed w4 #[.int .i64 n.kind, .string n.pre, .string n.loc, .string n.uri, .slice s4.Ad n.decls.length s4.cd, .slice s4.Aa n.attrs.length s4.ca, .slice s4.Ak n.kids.length s4.ck, .string n.text] 33
  have hb15 := below_then hb14 HB5
  have H5 := Aside0.mk (fun W1 (hb : Below W5.heap.size W5 W1) => hs4.below (below_then HB5 hb))
  have K5 := Aside0.mk (fun W1 hb => box_cells (((hb : Below W5.heap.size W5 W1).block _ hsz5).trans HG5))
  have HW5 := Aside0.mk hW5
  clear hW5 HG5 hs4 a0 a1 a2 a3 a4 a5 a6 a7
  go_upto_region 7 with fail
  rw [← HW5.out]
  obtain ⟨c0, c1, c2, c3, c4, c5, c6, c7⟩ := K5.out _ (Below.refl _ _)
  go_wp2_with fail
  refine (implRowsOf_calls n s4 W5 _ Hwt.out (H5.out _ (Below.refl _ _)) (HE.out.below hb15) (HF.out.below hb15) (HP.out.below hb15)).mono ?_
  rintro e w6 ⟨rfl, hb6⟩
  have hb16 := below_then hb15 hb6
  have hbz : Below W5.heap.size W5 w6.drew := below_drew hb6
  clear c0 c1 c2 c3 c4 c5 c6 c7
  obtain ⟨c0, c1, c2, c3, c4, c5, c6, c7⟩ := K5.out _ hb6
  obtain ⟨d0, d1, d2, d3, d4, d5, d6, d7⟩ := K.out _ hb16
  go_upto_region 10 with fail
  go_region_with (first
    | (go_at_call 16; refine (HT.out _ (below_drew hb16)).mono ?_; rintro e w7 ⟨⟨⟨x0, x1, x2, x3, x4, x5⟩, rfl, hs7⟩, hb7⟩
       have hb17 := below_then (below_drew hb16) hb7
       have hbz := below_then hbz hb7
       have c0 := (K5.out _ hbz).1
       have c1 := (K5.out _ hbz).2.1
       have c2 := (K5.out _ hbz).2.2.1
       have c3 := (K5.out _ hbz).2.2.2.1
       have c4 := (K5.out _ hbz).2.2.2.2.1
       have c5 := (K5.out _ hbz).2.2.2.2.2.1
       have c6 := (K5.out _ hbz).2.2.2.2.2.2.1
       have c7 := (K5.out _ hbz).2.2.2.2.2.2.2)
    | (go_at_call 18; refine (eqNode_same (cnt n) n s4 ⟨x0, x1, x2, x3, x4, x5⟩ _ _ _ (Nat.le_refl _) (H5.out _ hbz) hs7).mono ?_; rintro e w8 ⟨rfl, hb8⟩))
  all_goals
    go_wp2
    go_ret
    exact ⟨rfl, below_then HB (below_then hb17 hb8)⟩
theorem rowCount_law (n : Nd) (s : Sh) (w : World) (ok : Nat → Prop) (hf : Fit n) (hn : NodeIs w ok n s) (hE : Env w) (hF : Folds w) (hP : Tab w) :
    Calls Tryz.prog 8 #[.agg #[.int .i64 n.kind, .string n.pre, .string n.loc, .string n.uri, .slice s.Ad n.decls.length s.cd, .slice s.Aa n.attrs.length s.ca, .slice s.Ak n.kids.length s.ck, .string n.text]] w fun e w' => e = .returned (.bool true) ∧ Below w.heap.size w w' := by
  obtain ⟨Ad, cd, Aa, ca, Ak, ck⟩ := s
  obtain ⟨W, hW, HB, hsz, HG⟩ := boxed w #[.int .i64 n.kind, .string n.pre, .string n.loc, .string n.uri, .slice Ad n.decls.length cd, .slice Aa n.attrs.length ca, .slice Ak n.kids.length ck, .string n.text] 26
  have HN := Aside0.mk (fun W1 (hb : Below W.heap.size W W1) => hn.below (below_then HB hb))
  have HS := Aside0.mk (szNode_calls (cnt n) n ⟨Ad, cd, Aa, ca, Ak, ck⟩ 1048576 W ok (Nat.le_refl _) hf (by omega) (by omega) (hn.below HB))
  have K := Aside0.mk (fun W1 hb => box_cells (((hb : Below W.heap.size W W1).block _ hsz).trans HG))
  have HE := Aside0.mk (hE.below HB)
  have HF := Aside0.mk (hF.below HB)
  have HP := Aside0.mk (hP.below HB)
  have HW := Aside0.mk hW
  have hszv := szV_cases 1048576 (wt n)
  obtain ⟨r, hr⟩ : ∃ r, r = szV 1048576 (wt n) := ⟨_, rfl⟩
  rw [← hr] at HS hszv
  simp only at HS ⊢
  clear hW HG hn hE hF hP hf hr
  go_enter Tryz.func8, Tryz.ntmps8
  go_upto_region 1 with fail
  rw [← HW.out]
  obtain ⟨a0, a1, a2, a3, a4, a5, a6, a7⟩ := K.out _ (Below.refl _ _)
  go_wp2_with fail
  refine (HS.out).mono ?_
  rintro e w1 ⟨rfl, hb1⟩
  obtain ⟨d0, d1, d2, d3, d4, d5, d6, d7⟩ := K.out _ hb1
  clear a0 a1 a2 a3 a4 a5 a6 a7
  rcases hszv with ⟨hr, hle⟩ | ⟨hr, hle⟩
  case inr =>
    subst hr
    go_wp2
    go_ret
    exact ⟨rfl, below_then HB hb1⟩
  have hwt : wt n ≤ 1048576 := by omega
  have hr0 : 0 ≤ r := by omega
  clear hr hle
  have Hwt := Aside0.mk hwt
  clear hwt
  have HT := Aside0.mk (fun W1 (hb : Below W.heap.size W W1) => toNode_calls (cnt n) n ⟨Ad, cd, Aa, ca, Ak, ck⟩ W1 ok (Nat.le_refl _) Hwt.out (HN.out W1 hb))
  simp only at HT
  go_wp2_with fail
  refine (HT.out _ hb1).mono ?_
  rintro e w2 ⟨⟨s2, rfl, hs2⟩, hb2⟩
  have hb12 := below_then hb1 hb2
  go_wp2_with fail
  refine (specRowCount_calls n s2 w2 _ Hwt.out hs2).mono ?_
  rintro e w3 ⟨rfl, hb3⟩
  have hb13 := below_then hb12 hb3
  clear hs2
  obtain ⟨a0, a1, a2, a3, a4, a5, a6, a7⟩ := K.out _ hb13
  clear d0 d1 d2 d3 d4 d5 d6 d7
  go_wp2_with fail
  refine (HT.out _ hb13).mono ?_
  rintro e w4 ⟨⟨s4, rfl, hs4⟩, hb4⟩
  have hb14 := below_then hb13 hb4
  obtain ⟨W5, hW5, HB5, hsz5, HG5⟩ := boxed w4 #[.int .i64 n.kind, .string n.pre, .string n.loc, .string n.uri, .slice s4.Ad n.decls.length s4.cd, .slice s4.Aa n.attrs.length s4.ca, .slice s4.Ak n.kids.length s4.ck, .string n.text] 33
  have hb15 := below_then hb14 HB5
  have H5 := Aside0.mk (fun W1 (hb : Below W5.heap.size W5 W1) => hs4.below (below_then HB5 hb))
  have K5 := Aside0.mk (fun W1 hb => box_cells (((hb : Below W5.heap.size W5 W1).block _ hsz5).trans HG5))
  have HW5 := Aside0.mk hW5
  clear hW5 HG5 hs4 a0 a1 a2 a3 a4 a5 a6 a7
  go_upto_region 7 with fail
  rw [← HW5.out]
  obtain ⟨c0, c1, c2, c3, c4, c5, c6, c7⟩ := K5.out _ (Below.refl _ _)
  go_wp2_with fail
  refine (implRowCount_calls n s4 W5 _ Hwt.out (H5.out _ (Below.refl _ _)) (HE.out.below hb15) (HF.out.below hb15) (HP.out.below hb15)).mono ?_
  rintro e w6 ⟨rfl, hb6⟩
  have hb16 := below_then hb15 hb6
  have hbz : Below W5.heap.size W5 w6.drew := below_drew hb6
  clear c0 c1 c2 c3 c4 c5 c6 c7
  obtain ⟨c0, c1, c2, c3, c4, c5, c6, c7⟩ := K5.out _ hb6
  obtain ⟨d0, d1, d2, d3, d4, d5, d6, d7⟩ := K.out _ hb16
  go_upto_region 10 with fail
  go_region_with (first
    | (go_at_call 16; refine (HT.out _ (below_drew hb16)).mono ?_; rintro e w7 ⟨⟨⟨x0, x1, x2, x3, x4, x5⟩, rfl, hs7⟩, hb7⟩
       have hb17 := below_then (below_drew hb16) hb7
       have hbz := below_then hbz hb7
       have c0 := (K5.out _ hbz).1
       have c1 := (K5.out _ hbz).2.1
       have c2 := (K5.out _ hbz).2.2.1
       have c3 := (K5.out _ hbz).2.2.2.1
       have c4 := (K5.out _ hbz).2.2.2.2.1
       have c5 := (K5.out _ hbz).2.2.2.2.2.1
       have c6 := (K5.out _ hbz).2.2.2.2.2.2.1
       have c7 := (K5.out _ hbz).2.2.2.2.2.2.2)
    | (go_at_call 18; refine (eqNode_same (cnt n) n s4 ⟨x0, x1, x2, x3, x4, x5⟩ _ _ _ (Nat.le_refl _) (H5.out _ hbz) hs7).mono ?_; rintro e w8 ⟨rfl, hb8⟩))
  all_goals
    go_wp2
    go_ret
    exact ⟨rfl, below_then HB (below_then hb17 hb8)⟩
end Go.Proofs.YtdggfnpioljcbaaGreatDoor
