/- FnExactProven's own body. -/
import Derived.Test.YtdggfnpioljcbaaGreatDoorPv
import Derived.Test.YtdggfnpioljcbaaGreatDoorNodeOpen
import Derived.Test.YtdggfnpioljcbaaGreatDoorEq
namespace Go.Proofs.YtdggfnpioljcbaaGreatDoor
open Go.RowKit Go.Lib
set_option linter.unusedVariables false
set_option linter.unusedSimpArgs false
set_option maxHeartbeats 8000000
set_option maxRecDepth 100000
theorem proven_law {o1 o2 o3 o4 : Nat → Prop} (sum : Int) (P : Option Addr) (cp : Nat) (path : List Int) (n : Nd) (s : Sh) (A B : Option Addr) (own : List Int) (kids : List (List Int)) (c c' : Nat) (w : World)
    (hp : Row (Kd.int .i64) w o1 P path) (hf : Fit n) (hn : NodeIs w o2 n s) (h1 : Row (Kd.int .i64) w o3 A own) (h2 : Row (Kd.slice (Kd.int .i64)) w o4 B kids) (hE : Env w) (hF : Folds w) :
    Calls Tryz.prog 5 #[.int .i64 sum, .slice P path.length cp, .agg #[.int .i64 n.kind, .string n.pre, .string n.loc, .string n.uri, .slice s.Ad n.decls.length s.cd, .slice s.Aa n.attrs.length s.ca, .slice s.Ak n.kids.length s.ck, .string n.text], .agg #[.slice A own.length c, .slice B kids.length c']] w fun e w' => e = .returned (.bool true) ∧ Below w.heap.size w w' := by
  obtain ⟨Ad, cd, Aa, ca, Ak, ck⟩ := s
  have hpm := hp.max
  have hom := h1.max
  have hkm := h2.max
  obtain ⟨W0, hW0, HB0, hsz0, HG0⟩ := boxed w #[.int .i64 n.kind, .string n.pre, .string n.loc, .string n.uri, .slice Ad n.decls.length cd, .slice Aa n.attrs.length ca, .slice Ak n.kids.length ck, .string n.text] 26
  obtain ⟨W, hW, HB1, hsz1, HG1⟩ := boxed W0 #[.slice A own.length c, .slice B kids.length c'] 56
  have HB := below_then HB0 HB1
  have HP := Aside0.mk (fun W1 (hb : Below W.heap.size W W1) => hp.below (below_then HB hb))
  have HO := Aside0.mk (fun W1 (hb : Below W.heap.size W W1) => h1.below (below_then HB hb))
  have HK := Aside0.mk (fun W1 (hb : Below W.heap.size W W1) => h2.below (below_then HB hb))
  have HN := Aside0.mk (fun W1 (hb : Below W.heap.size W W1) => hn.below (below_then HB hb))
  have HS := Aside0.mk (szNode_calls (cnt n) n ⟨Ad, cd, Aa, ca, Ak, ck⟩ 1048576 W o2 (Nat.le_refl _) hf (by omega) (by omega) (hn.below HB))
  have HE := Aside0.mk (hE.below HB)
  have HF := Aside0.mk (hF.below HB)
  have K := Aside0.mk (fun W1 hb => box_cells (((hb : Below W0.heap.size W0 W1).block _ hsz0).trans HG0))
  have HB1' := Aside0.mk HB1
  have hs0 : W0.heap.size = w.heap.size + 1 := by rw [hW0]; exact Array.size_push _
  rw [hs0] at hsz1 HG1
  have KP := Aside0.mk (show ∀ W1, Below W.heap.size W W1 → W1.cell? ⟨w.heap.size + 1, 0, none⟩ = some (.slice A own.length c) ∧ W1.cell? ⟨w.heap.size + 1, 1, none⟩ = some (.slice B kids.length c') from
    fun W1 hb => ⟨cell_of_row W1 _ 0 _ _ _ ((hb.block _ hsz1).trans HG1), cell_of_row W1 _ 1 _ _ _ ((hb.block _ hsz1).trans HG1)⟩)
  have HW0 := Aside0.mk hW0
  have HW := Aside0.mk hW
  have hszv := szV_cases 1048576 (wt n)
  obtain ⟨r, hr⟩ : ∃ r, r = szV 1048576 (wt n) := ⟨_, rfl⟩
  rw [← hr] at HS hszv
  simp only at HS ⊢
  clear hW0 hW HG0 HG1 hp h1 h2 hn hE hF hf hr HB1 hs0
  go_enter Tryz.func5, Tryz.ntmps5
  go_upto_region 1 with fail
  rw [← HW0.out, ← HW.out]
  obtain ⟨p0, p1⟩ := KP.out _ (Below.refl _ _)
  obtain ⟨a0, a1, a2, a3, a4, a5, a6, a7⟩ := K.out _ HB1'.out
  by_cases hpl : path.length ≤ 1048576
  case neg =>
    go_wp2
    go_ret
    exact ⟨rfl, HB⟩
  go_wp2_with fail
  refine (HS.out).mono ?_
  rintro e w1 ⟨rfl, hb1⟩
  clear a0 a1 a2 a3 a4 a5 a6 a7 p0 p1
  obtain ⟨p0, p1⟩ := KP.out _ hb1
  rcases hszv with ⟨hr, hle⟩ | ⟨hr, hle⟩
  case inr =>
    subst hr
    go_wp2
    go_ret
    exact ⟨rfl, below_then HB hb1⟩
  have hwt : wt n ≤ 1048576 := by omega
  have hr0 : 0 ≤ r := by omega
  have hr1 : r ≤ 1048576 := by omega
  clear hr hle
  have Hwt := Aside0.mk hwt
  clear hwt
  have HZ := Aside0.mk (szProof_calls A B own.length c c' kids r w1 hom (HK.out _ hb1) hr0 hr1)
  go_wp2_with fail
  refine (HZ.out).mono ?_
  rintro e w3 ⟨⟨r2, rfl, hz⟩, hb3⟩
  have hb13 := below_then hb1 hb3
  clear p0 p1 hb1 hb3
  by_cases hr2 : r2 < 0
  · go_wp2
    go_ret
    exact ⟨rfl, below_then HB hb13⟩
  obtain ⟨_, hn1, hn2, hn3⟩ := hz (by omega)
  clear hz hr0 hr1
  have hr2 : 0 ≤ r2 := by omega
  have HT := Aside0.mk (fun W1 (hb : Below W.heap.size W W1) => toNode_calls (cnt n) n ⟨Ad, cd, Aa, ca, Ak, ck⟩ W1 o2 (Nat.le_refl _) Hwt.out (HN.out W1 hb))
  have HI := Aside0.mk (fun W1 (hb : Below W.heap.size W W1) => toIntS_calls P path cp W1 (HP.out W1 hb) hpl)
  have HQ := Aside0.mk (fun W1 (hb : Below W.heap.size W W1) => toProof_calls A B own kids c c' W1 (HO.out W1 hb) (HK.out W1 hb) hn1 hn2 hn3)
  simp only at HT
  have Hn1 := Aside0.mk hn1
  clear hn1
  have Hn2 := Aside0.mk hn2
  clear hn2
  have Hn3 := Aside0.mk hn3
  clear hn3
  have hbz : Below W.heap.size W w3.drew := below_drew hb13
  obtain ⟨p0, p1⟩ := KP.out _ hb13
  obtain ⟨a0, a1, a2, a3, a4, a5, a6, a7⟩ := K.out _ (below_then HB1'.out hb13)
  obtain ⟨V, hV⟩ : ∃ V, V = provenB sum path (sumN n) own kids := ⟨_, rfl⟩
  have hvv : (V != V) = false := by simp
  have HV := Aside0.mk hV
  clear hV
  go_upto_region 10 with fail
  go_cut [10] (fun b wx => b = .bool V ∧ Below W.heap.size W wx)
  case first =>
    go_region_with (first
      | (go_at_call 29; refine (HI.out _ hbz).mono ?_; rintro e wa ⟨⟨A1, c1, rfl, ho1⟩, hba⟩
         obtain ⟨_, _, he1, _, r1⟩ := ho1.row (ok' := fun _ => True) (fun _ _ => trivial) (fun _ _ => trivial)
         cases he1
         have hbz := below_then hbz hba
         have p0 := (KP.out _ hbz).1
         have p1 := (KP.out _ hbz).2
         have a0 := (K.out _ (below_then HB1'.out hbz)).1
         have a1 := (K.out _ (below_then HB1'.out hbz)).2.1
         have a2 := (K.out _ (below_then HB1'.out hbz)).2.2.1
         have a3 := (K.out _ (below_then HB1'.out hbz)).2.2.2.1
         have a4 := (K.out _ (below_then HB1'.out hbz)).2.2.2.2.1
         have a5 := (K.out _ (below_then HB1'.out hbz)).2.2.2.2.2.1
         have a6 := (K.out _ (below_then HB1'.out hbz)).2.2.2.2.2.2.1
         have a7 := (K.out _ (below_then HB1'.out hbz)).2.2.2.2.2.2.2
         skip)
      | (go_at_call 16; refine (HT.out _ hbz).mono ?_; rintro e wc ⟨⟨⟨x0, x1, x2, x3, x4, x5⟩, rfl, hs⟩, hbc⟩
         have r1 := r1.below hbc
         have hbz := below_then hbz hbc
         have p0 := (KP.out _ hbz).1
         have p1 := (KP.out _ hbz).2
         skip)
      | (go_at_call 30; refine (HQ.out _ hbz).mono ?_; rintro e wd ⟨⟨A2, c2, B2, d2, rfl, r2', r3'⟩, hbd⟩
         have r1 := r1.below hbd
         have hs := hs.below hbd
         have hbz := below_then hbz hbd)
      | (go_at_call 28; refine (specProven_calls sum A1 c1 path n ⟨x0, x1, x2, x3, x4, x5⟩ A2 B2 own kids c2 d2 _ r1 Hwt.out hs r2' r3').mono ?_; rintro e we ⟨rfl, hbe⟩
         have hbz := below_then hbz hbe))
    all_goals (go_wp2_with fail; go_meet; exact ⟨by rw [HV.out], hbz⟩)
  case rest =>
  obtain ⟨rfl, hb4⟩ := hcut
  clear p0 p1 a0 a1 a2 a3 a4 a5 a6 a7 hbz hb13
  go_wp2_with fail
  refine (HI.out _ hb4).mono ?_
  rintro e w5 ⟨⟨A1, c1, rfl, ho1⟩, hb5⟩
  obtain ⟨_, _, he1, _, r1⟩ := ho1.row (ok' := fun _ => True) (fun _ _ => trivial) (fun _ _ => trivial)
  cases he1
  have hb45 := below_then hb4 hb5
  obtain ⟨a0, a1, a2, a3, a4, a5, a6, a7⟩ := K.out _ (below_then HB1'.out hb45)
  go_wp2_with fail
  refine (HT.out _ hb45).mono ?_
  rintro e w6 ⟨⟨s6, rfl, hs6⟩, hb6⟩
  have hb46 := below_then hb45 hb6
  obtain ⟨W7, hW7, HB7, hsz7, HG7⟩ := boxed w6 #[.int .i64 n.kind, .string n.pre, .string n.loc, .string n.uri, .slice s6.Ad n.decls.length s6.cd, .slice s6.Aa n.attrs.length s6.ca, .slice s6.Ak n.kids.length s6.ck, .string n.text] 33
  have hb47 := below_then hb46 HB7
  have r1 := (r1.below hb6).below HB7
  have H7 := Aside0.mk (fun W1 (hb : Below W7.heap.size W7 W1) => hs6.below (below_then HB7 hb))
  have K7 := Aside0.mk (fun W1 hb => box_cells (((hb : Below W7.heap.size W7 W1).block _ hsz7).trans HG7))
  have HW7 := Aside0.mk hW7
  clear hW7 HG7 hs6 a0 a1 a2 a3 a4 a5 a6 a7
  obtain ⟨p0, p1⟩ := KP.out _ hb47
  go_upto_region 13 with fail
  rw [← HW7.out]
  go_wp2_with fail
  refine (HQ.out _ hb47).mono ?_
  rintro e w8 ⟨⟨A2, c2, B2, d2, rfl, r2', r3'⟩, hb8⟩
  obtain ⟨W9, hW9, HB9, hsz9, HG9⟩ := boxed w8 #[.slice A2 own.length c2, .slice B2 kids.length d2] 60
  have hb79 := below_then hb8 HB9
  have hb49 := below_then hb47 hb79
  have r1 := Aside0.mk (fun W1 (hb : Below W9.heap.size W9 W1) => r1.below (below_then hb79 hb))
  have R2 := Aside0.mk (fun W1 (hb : Below W9.heap.size W9 W1) => r2'.below (below_then HB9 hb))
  have R3 := Aside0.mk (fun W1 (hb : Below W9.heap.size W9 W1) => r3'.below (below_then HB9 hb))
  have K9 := Aside0.mk (show ∀ W1, Below W9.heap.size W9 W1 → W1.cell? ⟨w8.heap.size, 0, none⟩ = some (.slice A2 own.length c2) ∧ W1.cell? ⟨w8.heap.size, 1, none⟩ = some (.slice B2 kids.length d2) from
    fun W1 hb => ⟨cell_of_row W1 _ 0 _ _ _ ((hb.block _ hsz9).trans HG9), cell_of_row W1 _ 1 _ _ _ ((hb.block _ hsz9).trans HG9)⟩)
  have HW9 := Aside0.mk hW9
  clear hW9 HG9 p0 p1 r2' r3'
  go_upto_region 14 with fail
  rw [← HW9.out]
  obtain ⟨q0, q1⟩ := K9.out _ (Below.refl _ _)
  obtain ⟨c0, c1', c2', c3, c4, c5, c6, c7⟩ := K7.out _ hb79
  go_wp2_with fail
  refine (implProven_calls sum A1 c1 path n s6 A2 B2 own kids c2 d2 W9 (r1.out _ (Below.refl _ _)) Hwt.out (H7.out _ hb79) (R2.out _ (Below.refl _ _)) (R3.out _ (Below.refl _ _)) (HE.out.below hb49) (HF.out.below hb49)).mono ?_
  rintro e w10 ⟨rfl, hb10⟩
  rw [← HV.out]
  clear q0 q1 c0 c1' c2' c3 c4 c5 c6 c7
  go_wp2_with fail
  refine (HI.out _ (below_then hb49 hb10)).mono ?_
  rintro e w11 ⟨⟨A3, c3, rfl, ho3⟩, hb11⟩
  obtain ⟨_, _, he3, _, r4⟩ := ho3.row (ok' := fun _ => True) (fun _ _ => trivial) (fun _ _ => trivial)
  cases he3
  have hb911 := below_then hb10 hb11
  go_wp2_with fail
  refine (eqIntS_same A1 A3 path c1 c3 w11 (r1.out _ hb911) r4).mono ?_
  rintro e w12 ⟨rfl, hd12⟩
  have hb912 := below_then hb911 hd12.below
  clear r4 hd12 hb911 hb10 hb11
  have hbz : Below W9.heap.size W9 w12.drew := below_drew hb912
  obtain ⟨c0, c1', c2', c3', c4, c5, c6, c7⟩ := K7.out _ (below_then hb79 hb912)
  obtain ⟨d0, d1, d2', d3, d4, d5, d6, d7⟩ := K.out _ (below_then HB1'.out (below_then hb49 hb912))
  go_upto_region 19 with fail
  go_cut [59] (fun b wx => b = .bool false ∧ Below W9.heap.size W9 wx)
  case first =>
    go_region_with (first
      | (go_at_call 16; refine (HT.out _ (below_then hb49 hbz)).mono ?_; rintro e wt ⟨⟨⟨x0, x1, x2, x3, x4, x5⟩, rfl, hst⟩, hbt⟩
         have hbz := below_then hbz hbt
         have c0 := (K7.out _ (below_then hb79 hbz)).1
         have c1' := (K7.out _ (below_then hb79 hbz)).2.1
         have c2' := (K7.out _ (below_then hb79 hbz)).2.2.1
         have c3' := (K7.out _ (below_then hb79 hbz)).2.2.2.1
         have c4 := (K7.out _ (below_then hb79 hbz)).2.2.2.2.1
         have c5 := (K7.out _ (below_then hb79 hbz)).2.2.2.2.2.1
         have c6 := (K7.out _ (below_then hb79 hbz)).2.2.2.2.2.2.1
         have c7 := (K7.out _ (below_then hb79 hbz)).2.2.2.2.2.2.2)
      | (go_at_call 18; refine (eqNode_same (cnt n) n s6 ⟨x0, x1, x2, x3, x4, x5⟩ _ _ _ (Nat.le_refl _) (H7.out _ (below_then hb79 hbz)) hst).mono ?_; rintro e wu ⟨rfl, hbu⟩
         have hbz := below_then hbz hbu))
    all_goals (go_wp2_with fail; go_meet; exact ⟨rfl, hbz⟩)
  case rest =>
  obtain ⟨rfl, hb13⟩ := hcut
  clear c0 c1' c2' c3' c4 c5 c6 c7 d0 d1 d2' d3 d4 d5 d6 d7 hbz hb912
  obtain ⟨q0, q1⟩ := K9.out _ hb13
  obtain ⟨p0, p1⟩ := KP.out _ (below_then hb49 hb13)
  go_upto_region 21 with fail
  have hbz : Below W9.heap.size W9 wc.drew := below_drew hb13
  go_region_with (first
    | (go_at_call 30; refine (HQ.out _ (below_then hb49 hbz)).mono ?_; rintro e wt ⟨⟨A5, c5, B5, d5, rfl, r5, r6⟩, hbt⟩
       have hbz := below_then hbz hbt
       have q0 := (K9.out _ hbz).1
       have q1 := (K9.out _ hbz).2)
    | (go_at_call 33; refine (eqProof_same A2 B2 A5 B5 own kids c2 d2 c5 d5 _ (R2.out _ hbz) (R3.out _ hbz) r5 r6).mono ?_; rintro e wu ⟨rfl, hbu⟩
       have hbz := below_then hbz hbu))
  all_goals
    go_wp2
    go_ret
    exact ⟨rfl, below_then HB (below_then hb49 hbz)⟩
end Go.Proofs.YtdggfnpioljcbaaGreatDoor
