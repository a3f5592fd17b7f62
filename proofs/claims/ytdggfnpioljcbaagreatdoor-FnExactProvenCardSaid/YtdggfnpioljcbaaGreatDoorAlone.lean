/- Alone, of both. -/
import Derived.Test.YtdggfnpioljcbaaGreatDoorCopyC
import Derived.Test.YtdggfnpioljcbaaGreatDoorCopyS
namespace Go.Proofs.YtdggfnpioljcbaaGreatDoor
open Go.RowKit Go.Lib
set_option linter.unusedVariables false
set_option linter.unusedSimpArgs false
set_option maxHeartbeats 8000000
set_option maxRecDepth 100000
def alone (n : Nd) : Nd := ⟨n.kind, n.pre, n.loc, n.uri, n.decls, n.attrs, [], n.text⟩
theorem wt_alone (n : Nd) : wt (alone n) ≤ wt n := by rw [wt_eq n, wt_eq (alone n)]; simp [alone, wtL]
theorem implAlone_calls (n : Nd) (s : Sh) (w : World) (ok : Nat → Prop) (hwt : wt n ≤ 1048576) (hn : NodeIs w ok n s) :
    Calls Tryz.prog 77 #[.agg #[.int .i64 n.kind, .string n.pre, .string n.loc, .string n.uri, .slice s.Ad n.decls.length s.cd, .slice s.Aa n.attrs.length s.ca, .slice s.Ak n.kids.length s.ck, .string n.text]] w (ToN (alone n) w) := by
  obtain ⟨Ad, cd, Aa, ca, Ak, ck⟩ := s
  obtain ⟨Wa, hWa, HBa, hsza, HGa⟩ := boxed w #[.int .i64 n.kind, .string n.pre, .string n.loc, .string n.uri, .slice Ad n.decls.length cd, .slice Aa n.attrs.length ca, .slice Ak n.kids.length ck, .string n.text] 33
  obtain ⟨W0, hW0, HBb, hszb, HGb⟩ := boxed Wa #[.int .i64 0, .string ⟨#[]⟩, .string ⟨#[]⟩, .string ⟨#[]⟩, .slice none 0 0, .slice none 0 0, .slice none 0 0, .string ⟨#[]⟩] 33
  have ea : Wa.heap.size = w.heap.size + 1 := by rw [hWa]; exact Array.size_push _
  have eb : W0.heap.size = w.heap.size + 2 := by rw [hW0, ← show Wa.heap.size + 1 = w.heap.size + 2 by omega]; exact Array.size_push _
  have HW0 := Aside0.mk (show W0 = (w.alloc (.cells #[.int .i64 n.kind, .string n.pre, .string n.loc, .string n.uri, .slice Ad n.decls.length cd, .slice Aa n.attrs.length ca, .slice Ak n.kids.length ck, .string n.text] 33)).alloc (.cells #[.int .i64 0, .string ⟨#[]⟩, .string ⟨#[]⟩, .string ⟨#[]⟩, .slice none 0 0, .slice none 0 0, .slice none 0 0, .string ⟨#[]⟩] 33) by rw [hW0, hWa])
  have HB := below_then HBa HBb
  have G0 : W0.heap[w.heap.size]? = some (.cells #[.int .i64 n.kind, .string n.pre, .string n.loc, .string n.uri, .slice Ad n.decls.length cd, .slice Aa n.attrs.length ca, .slice Ak n.kids.length ck, .string n.text] 33 (0, 0)) := (HBb.block _ (by omega)).trans HGa
  have G1 : W0.heap[w.heap.size + 1]? = some (.cells #[.int .i64 0, .string ⟨#[]⟩, .string ⟨#[]⟩, .string ⟨#[]⟩, .slice none 0 0, .slice none 0 0, .slice none 0 0, .string ⟨#[]⟩] 33 (0, 0)) := by rw [← ea]; exact HGb
  obtain ⟨X1, hX1⟩ : ∃ X1, X1 = W0.setCell ⟨w.heap.size, 6, none⟩ (.slice none 0 0) := ⟨_, rfl⟩
  obtain ⟨T1, O1, E1⟩ := set_at hX1 G0
  have B1 : Below w.heap.size w X1 := by rw [hX1]; exact below_setNew HB (Nat.le_refl _)
  have M1 : X1.heap[w.heap.size + 1]? = some (.cells #[.int .i64 0, .string ⟨#[]⟩, .string ⟨#[]⟩, .string ⟨#[]⟩, .slice none 0 0, .slice none 0 0, .slice none 0 0, .string ⟨#[]⟩] 33 (0, 0)) := (O1 _ (by omega)).trans G1
  have T1 : X1.heap[w.heap.size]? = some (.cells #[.int .i64 n.kind, .string n.pre, .string n.loc, .string n.uri, .slice Ad n.decls.length cd, .slice Aa n.attrs.length ca, .slice none 0 0, .string n.text] 33 (0, 0)) := T1
  have hnA : NodeIs X1 ok (alone n) ⟨Ad, cd, Aa, ca, none, 0⟩ := ⟨hn.cd, hn.decls.below B1, hn.ca, hn.attrs.below B1, Nat.zero_le _, Row.nil _ _ _ _⟩
  have HC := Aside0.mk (cloneNode_calls (cnt (alone n)) (alone n) ⟨Ad, cd, Aa, ca, none, 0⟩ X1 ok (Nat.le_refl _) (Nat.le_trans (wt_alone n) hwt) hnA)
  simp only [alone, List.length_nil] at HC
  have sx : w.heap.size + 2 ≤ X1.heap.size := by omega
  have c6 : W0.cell? ⟨w.heap.size, 6, none⟩ = some (.slice Ak n.kids.length ck) := cell_of_row W0 _ 6 _ _ _ G0
  have f6 := frozen_of_row W0 _ 6 _ _ G0
  have HX1 := Aside0.mk hX1
  clear hWa hW0 HBa HBb hsza hszb HGa HGb ea eb HB G0 G1 hX1 O1 E1 hnA hn hwt
  simp only
  go_enter Tryz.func77, Tryz.ntmps77
  go_upto_region 1 with fail
  rw [← HW0.out]
  go_upto_region 2 with fail
  rw [← HX1.out]
  clear c6 f6
  obtain ⟨a0, a1, a2, a3, a4, a5, a6, a7⟩ := box_cells T1
  go_wp2_with fail
  refine HC.out.mono ?_
  rintro e w2 ⟨⟨⟨A1, q1, A2, q2, A3, q3⟩, rfl, hs2⟩, hb2⟩
  have M2 := (hb2.block (w.heap.size + 1) (by omega)).trans M1
  obtain ⟨HBf, hWfx, hNd⟩ := copy_end (n := alone n) (below_then B1 hb2) M2 hs2.cd (hs2.decls.mono (fun k hk => by omega)) hs2.ca (hs2.attrs.mono (fun k hk => by omega)) hs2.ck (hs2.kids.mono (fun k hk => by omega)) _ rfl
  have Hf := Aside0.mk (And.intro HBf (And.intro hWfx hNd))
  clear HBf hWfx hNd hs2 hb2 B1 HC T1 a0 a1 a2 a3 a4 a5 a6 a7 M1
  obtain ⟨y0, y1, y2, y3, y4, y5, y6, y7⟩ := box_cells M2
  have g0 := frozen_of_row w2 _ 0 _ _ M2
  have g1 := frozen_of_row w2 _ 1 _ _ M2
  have g2 := frozen_of_row w2 _ 2 _ _ M2
  have g3 := frozen_of_row w2 _ 3 _ _ M2
  have g4 := frozen_of_row w2 _ 4 _ _ M2
  have g5 := frozen_of_row w2 _ 5 _ _ M2
  have g6 := frozen_of_row w2 _ 6 _ _ M2
  have g7 := frozen_of_row w2 _ 7 _ _ M2
  clear M2
  go_wp2
  obtain ⟨HBf, hWfx, hNd⟩ := Hf.out
  generalize hWf : w2.setCells (w.heap.size + 1) 0 ((alone n).cells ⟨A1, q1, A2, q2, A3, q3⟩) = Wf at HBf hWfx hNd
  have hch : ((((((((w2.setCell ⟨w.heap.size + 1, 0, none⟩ (.int .i64 n.kind)).setCell ⟨w.heap.size + 1, 1, none⟩ (.string n.pre)).setCell ⟨w.heap.size + 1, 2, none⟩ (.string n.loc)).setCell ⟨w.heap.size + 1, 3, none⟩ (.string n.uri)).setCell ⟨w.heap.size + 1, 4, none⟩ (.slice A1 n.decls.length q1)).setCell ⟨w.heap.size + 1, 5, none⟩ (.slice A2 n.attrs.length q2)).setCell ⟨w.heap.size + 1, 6, none⟩ (.slice A3 0 q3)).setCell ⟨w.heap.size + 1, 7, none⟩ (.string n.text)) = Wf := by rw [← hWf]; rfl
  rw [hch]
  obtain ⟨b0, b1, b2, b3, b4, b5, b6, b7⟩ := box_cells hWfx
  clear hWf hch hWfx y0 y1 y2 y3 y4 y5 y6 y7 g0 g1 g2 g3 g4 g5 g6 g7
  simp only [alone, List.length_nil] at b0 b1 b2 b3 b4 b5 b6 b7
  refine bodyPost_ret (v := .agg #[.int .i64 n.kind, .string n.pre, .string n.loc, .string n.uri, .slice A1 n.decls.length q1, .slice A2 n.attrs.length q2, .slice A3 0 q3, .string n.text]) ?hres rfl ⟨⟨⟨A1, q1, A2, q2, A3, q3⟩, rfl, hNd⟩, HBf⟩
  case hres => simp [results, Tryz.results77, go_sem, b0, b1, b2, b3, b4, b5, b6, b7]
theorem specAlone_calls (n : Nd) (s : Sh) (w : World) (ok : Nat → Prop) (hwt : wt n ≤ 1048576) (hn : NodeIs w ok n s) :
    Calls Tryz.prog 70 #[.agg #[.int .i64 n.kind, .string n.pre, .string n.loc, .string n.uri, .slice s.Ad n.decls.length s.cd, .slice s.Aa n.attrs.length s.ca, .slice s.Ak n.kids.length s.ck, .string n.text]] w (ToN (alone n) w) := by
  obtain ⟨Ad, cd, Aa, ca, Ak, ck⟩ := s
  obtain ⟨Wa, hWa, HBa, hsza, HGa⟩ := boxed w #[.int .i64 n.kind, .string n.pre, .string n.loc, .string n.uri, .slice Ad n.decls.length cd, .slice Aa n.attrs.length ca, .slice Ak n.kids.length ck, .string n.text] 33
  obtain ⟨W0, hW0, HBb, hszb, HGb⟩ := boxed Wa #[.int .i64 0, .string ⟨#[]⟩, .string ⟨#[]⟩, .string ⟨#[]⟩, .slice none 0 0, .slice none 0 0, .slice none 0 0, .string ⟨#[]⟩] 33
  have ea : Wa.heap.size = w.heap.size + 1 := by rw [hWa]; exact Array.size_push _
  have eb : W0.heap.size = w.heap.size + 2 := by rw [hW0, ← show Wa.heap.size + 1 = w.heap.size + 2 by omega]; exact Array.size_push _
  have HW0 := Aside0.mk (show W0 = (w.alloc (.cells #[.int .i64 n.kind, .string n.pre, .string n.loc, .string n.uri, .slice Ad n.decls.length cd, .slice Aa n.attrs.length ca, .slice Ak n.kids.length ck, .string n.text] 33)).alloc (.cells #[.int .i64 0, .string ⟨#[]⟩, .string ⟨#[]⟩, .string ⟨#[]⟩, .slice none 0 0, .slice none 0 0, .slice none 0 0, .string ⟨#[]⟩] 33) by rw [hW0, hWa])
  have HB := below_then HBa HBb
  have G0 : W0.heap[w.heap.size]? = some (.cells #[.int .i64 n.kind, .string n.pre, .string n.loc, .string n.uri, .slice Ad n.decls.length cd, .slice Aa n.attrs.length ca, .slice Ak n.kids.length ck, .string n.text] 33 (0, 0)) := (HBb.block _ (by omega)).trans HGa
  have G1 : W0.heap[w.heap.size + 1]? = some (.cells #[.int .i64 0, .string ⟨#[]⟩, .string ⟨#[]⟩, .string ⟨#[]⟩, .slice none 0 0, .slice none 0 0, .slice none 0 0, .string ⟨#[]⟩] 33 (0, 0)) := by rw [← ea]; exact HGb
  have HC := Aside0.mk (l5Copy_calls (cnt n) n ⟨Ad, cd, Aa, ca, Ak, ck⟩ W0 ok (Nat.le_refl _) hwt (hn.below HB))
  simp only at HC
  have Eb := Aside0.mk eb
  have hg1 : w.heap.size + 1 < W0.heap.size := by omega
  clear hWa hW0 HBa HBb hsza hszb HGa HGb ea eb hn hwt
  simp only
  go_enter Tryz.func70, Tryz.ntmps70
  go_upto_region 1 with fail
  rw [← HW0.out]
  obtain ⟨a0, a1, a2, a3, a4, a5, a6, a7⟩ := box_cells G0
  go_wp2_with fail
  refine HC.out.mono ?_
  rintro e w2 ⟨⟨⟨A1, q1, A2, q2, A3, q3⟩, rfl, hs2⟩, hb2⟩
  clear a0 a1 a2 a3 a4 a5 a6 a7
  -- the copy in a block of its own, its kids struck
  obtain ⟨W2, hW2, HB2, hsz2, HG2⟩ := boxed w2 #[.int .i64 n.kind, .string n.pre, .string n.loc, .string n.uri, .slice A1 n.decls.length q1, .slice A2 n.attrs.length q2, .slice (some ⟨w2.heap.size + 1, 0, none⟩) 0 0, .string n.text] 33
  obtain ⟨X, hX, HB3, hsz3, HG3⟩ := boxed W2 #[] 33
  have s2 := hb2.size
  have hbX : Below w2.heap.size w2 X := below_then HB2 HB3
  have TT := (HB3.block w2.heap.size (by omega)).trans HG2
  have e0 := Eb.out
  have M2 : X.heap[w.heap.size + 1]? = some (.cells #[.int .i64 0, .string ⟨#[]⟩, .string ⟨#[]⟩, .string ⟨#[]⟩, .slice none 0 0, .slice none 0 0, .slice none 0 0, .string ⟨#[]⟩] 33 (0, 0)) := (hbX.block _ (by omega)).trans ((hb2.block _ (by omega)).trans G1)
  have BX : Below w.heap.size w X := below_then HB (below_then hb2 hbX)
  have RD : Row Kd.dcl X (fun k => w.heap.size + 2 ≤ k) A1 n.decls := (hs2.decls.below hbX).mono (fun k hk => by omega)
  have RA : Row Kd.atr X (fun k => w.heap.size + 2 ≤ k) A2 n.attrs := (hs2.attrs.below hbX).mono (fun k hk => by omega)
  obtain ⟨HBf, hWfx, hNd⟩ := copy_end (n := alone n) (A3 := some ⟨w2.heap.size + 1, 0, none⟩) (q3 := 0) BX M2 hs2.cd RD hs2.ca RA (Nat.zero_le _) (Row.nil _ _ _ _) _ rfl
  have Hf := Aside0.mk (And.intro HBf (And.intro hWfx hNd))
  have HX := Aside0.mk (show X = (w2.alloc (.cells #[.int .i64 n.kind, .string n.pre, .string n.loc, .string n.uri, .slice A1 n.decls.length q1, .slice A2 n.attrs.length q2, .slice (some ⟨w2.heap.size + 1, 0, none⟩) 0 0, .string n.text] 33)).alloc (.cells #[] 33) by rw [hX, hW2])
  clear HBf hWfx hNd hs2 hb2 BX HC HB hbX hX hW2 HB2 HB3 HG2 HG3 hsz2 hsz3 RD RA G0 G1 e0 s2 W2
  simp only
  go_upto_region 3 with fail
  rw [← HX.out]
  obtain ⟨a0, a1, a2, a3, a4, a5, a6, a7⟩ := box_cells TT
  obtain ⟨y0, y1, y2, y3, y4, y5, y6, y7⟩ := box_cells M2
  have g0 := frozen_of_row X _ 0 _ _ M2
  have g1 := frozen_of_row X _ 1 _ _ M2
  have g2 := frozen_of_row X _ 2 _ _ M2
  have g3 := frozen_of_row X _ 3 _ _ M2
  have g4 := frozen_of_row X _ 4 _ _ M2
  have g5 := frozen_of_row X _ 5 _ _ M2
  have g6 := frozen_of_row X _ 6 _ _ M2
  have g7 := frozen_of_row X _ 7 _ _ M2
  clear M2 TT HX
  go_wp2
  obtain ⟨HBf, hWfx, hNd⟩ := Hf.out
  generalize hWf : X.setCells (w.heap.size + 1) 0 ((alone n).cells ⟨A1, q1, A2, q2, some ⟨w2.heap.size + 1, 0, none⟩, 0⟩) = Wf at HBf hWfx hNd
  have hch : ((((((((X.setCell ⟨w.heap.size + 1, 0, none⟩ (.int .i64 n.kind)).setCell ⟨w.heap.size + 1, 1, none⟩ (.string n.pre)).setCell ⟨w.heap.size + 1, 2, none⟩ (.string n.loc)).setCell ⟨w.heap.size + 1, 3, none⟩ (.string n.uri)).setCell ⟨w.heap.size + 1, 4, none⟩ (.slice A1 n.decls.length q1)).setCell ⟨w.heap.size + 1, 5, none⟩ (.slice A2 n.attrs.length q2)).setCell ⟨w.heap.size + 1, 6, none⟩ (.slice (some ⟨w2.heap.size + 1, 0, none⟩) 0 0)).setCell ⟨w.heap.size + 1, 7, none⟩ (.string n.text)) = Wf := by rw [← hWf]; rfl
  rw [hch]
  obtain ⟨b0, b1, b2, b3, b4, b5, b6, b7⟩ := box_cells hWfx
  clear hWf hch hWfx y0 y1 y2 y3 y4 y5 y6 y7 g0 g1 g2 g3 g4 g5 g6 g7
  simp only [alone, List.length_nil] at b0 b1 b2 b3 b4 b5 b6 b7
  refine bodyPost_ret (v := .agg #[.int .i64 n.kind, .string n.pre, .string n.loc, .string n.uri, .slice A1 n.decls.length q1, .slice A2 n.attrs.length q2, .slice (some ⟨w2.heap.size + 1, 0, none⟩) 0 0, .string n.text]) ?hres rfl ⟨⟨⟨A1, q1, A2, q2, some ⟨w2.heap.size + 1, 0, none⟩, 0⟩, rfl, hNd⟩, HBf⟩
  case hres => simp [results, Tryz.results70, go_sem, b0, b1, b2, b3, b4, b5, b6, b7]
end Go.Proofs.YtdggfnpioljcbaaGreatDoor
