/- Joined: Alone, Sum. -/
import Derived.Test.YtpcklgkpjmmakaaGreatDoorCopyC
import Derived.Test.YtpcklgkpjmmakaaGreatDoorCopyS
import Derived.Test.YtpcklgkpjmmakaaGreatDoorHsh
section
/- Alone, of both. -/
namespace Go.Proofs.YtpcklgkpjmmakaaGreatDoor
open Go.RowKit Go.Lib
set_option linter.unusedVariables false
set_option linter.unusedSimpArgs false
set_option maxHeartbeats 8000000
set_option maxRecDepth 100000
def alone (n : Nd) : Nd := ⟨n.kind, n.pre, n.loc, n.uri, n.decls, n.attrs, [], n.text⟩
theorem wt_alone (n : Nd) : wt (alone n) ≤ wt n := by rw [wt_eq n, wt_eq (alone n)]; simp [alone, wtL]
theorem implAlone_calls (n : Nd) (s : Sh) (w : World) (ok : Nat → Prop) (hwt : wt n ≤ 1048576) (hn : NodeIs w ok n s) :
    Calls Tryz.prog 43 #[.agg #[.int .i64 n.kind, .string n.pre, .string n.loc, .string n.uri, .slice s.Ad n.decls.length s.cd, .slice s.Aa n.attrs.length s.ca, .slice s.Ak n.kids.length s.ck, .string n.text]] w (ToN (alone n) w) := by
  obtain ⟨Ad, cd, Aa, ca, Ak, ck⟩ := s
  obtain ⟨Wa, hWa, HBa, hsza, HGa⟩ := boxed w #[.int .i64 n.kind, .string n.pre, .string n.loc, .string n.uri, .slice Ad n.decls.length cd, .slice Aa n.attrs.length ca, .slice Ak n.kids.length ck, .string n.text] 28
  obtain ⟨W0, hW0, HBb, hszb, HGb⟩ := boxed Wa #[.int .i64 0, .string ⟨#[]⟩, .string ⟨#[]⟩, .string ⟨#[]⟩, .slice none 0 0, .slice none 0 0, .slice none 0 0, .string ⟨#[]⟩] 28
  have ea : Wa.heap.size = w.heap.size + 1 := by rw [hWa]; exact Array.size_push _
  have eb : W0.heap.size = w.heap.size + 2 := by rw [hW0, ← show Wa.heap.size + 1 = w.heap.size + 2 by omega]; exact Array.size_push _
  have HW0 := Aside0.mk (show W0 = (w.alloc (.cells #[.int .i64 n.kind, .string n.pre, .string n.loc, .string n.uri, .slice Ad n.decls.length cd, .slice Aa n.attrs.length ca, .slice Ak n.kids.length ck, .string n.text] 28)).alloc (.cells #[.int .i64 0, .string ⟨#[]⟩, .string ⟨#[]⟩, .string ⟨#[]⟩, .slice none 0 0, .slice none 0 0, .slice none 0 0, .string ⟨#[]⟩] 28) by rw [hW0, hWa])
  have HB := below_then HBa HBb
  have G0 : W0.heap[w.heap.size]? = some (.cells #[.int .i64 n.kind, .string n.pre, .string n.loc, .string n.uri, .slice Ad n.decls.length cd, .slice Aa n.attrs.length ca, .slice Ak n.kids.length ck, .string n.text] 28 (0, 0)) := (HBb.block _ (by omega)).trans HGa
  have G1 : W0.heap[w.heap.size + 1]? = some (.cells #[.int .i64 0, .string ⟨#[]⟩, .string ⟨#[]⟩, .string ⟨#[]⟩, .slice none 0 0, .slice none 0 0, .slice none 0 0, .string ⟨#[]⟩] 28 (0, 0)) := by rw [← ea]; exact HGb
  obtain ⟨X1, hX1⟩ : ∃ X1, X1 = W0.setCell ⟨w.heap.size, 6, none⟩ (.slice none 0 0) := ⟨_, rfl⟩
  obtain ⟨T1, O1, E1⟩ := set_at hX1 G0
  have B1 : Below w.heap.size w X1 := by rw [hX1]; exact below_setNew HB (Nat.le_refl _)
  have M1 : X1.heap[w.heap.size + 1]? = some (.cells #[.int .i64 0, .string ⟨#[]⟩, .string ⟨#[]⟩, .string ⟨#[]⟩, .slice none 0 0, .slice none 0 0, .slice none 0 0, .string ⟨#[]⟩] 28 (0, 0)) := (O1 _ (by omega)).trans G1
  have T1 : X1.heap[w.heap.size]? = some (.cells #[.int .i64 n.kind, .string n.pre, .string n.loc, .string n.uri, .slice Ad n.decls.length cd, .slice Aa n.attrs.length ca, .slice none 0 0, .string n.text] 28 (0, 0)) := T1
  have hnA : NodeIs X1 ok (alone n) ⟨Ad, cd, Aa, ca, none, 0⟩ := ⟨hn.cd, hn.decls.below B1, hn.ca, hn.attrs.below B1, Nat.zero_le _, Row.nil _ _ _ _⟩
  have HC := Aside0.mk (cloneNode_calls (cnt (alone n)) (alone n) ⟨Ad, cd, Aa, ca, none, 0⟩ X1 ok (Nat.le_refl _) (Nat.le_trans (wt_alone n) hwt) hnA)
  simp only [alone, List.length_nil] at HC
  have sx : w.heap.size + 2 ≤ X1.heap.size := by omega
  have c6 : W0.cell? ⟨w.heap.size, 6, none⟩ = some (.slice Ak n.kids.length ck) := cell_of_row W0 _ 6 _ _ _ G0
  have f6 := frozen_of_row W0 _ 6 _ _ G0
  have HX1 := Aside0.mk hX1
  clear hWa hW0 HBa HBb hsza hszb HGa HGb ea eb HB G0 G1 hX1 O1 E1 hnA hn hwt
  simp only
  go_enter Tryz.func43, Tryz.ntmps43
  go_upto_region 1 with fail
  rw [← HW0.out]
  go_upto_region 2 with fail
  rw [← HX1.out]
  clear c6 f6
  obtain ⟨a0, a1, a2, a3, a4, a5, a6, a7⟩ := box_cells T1
  go_wp2_with fail
  refine HC.out.mono ?_
  rintro e w2 ⟨⟨⟨A1, q1, A2, q2, A3, q3⟩, rfl, hs2⟩, hb2⟩
  have M2 := (hb2.block (w.heap.size + 1) (by omega)).trans M1
  obtain ⟨HBf, hWfx, hNd⟩ := copy_end (n := alone n) (below_then B1 hb2) M2 hs2.cd (hs2.decls.mono (fun k hk => by omega)) hs2.ca (hs2.attrs.mono (fun k hk => by omega)) hs2.ck (hs2.kids.mono (fun k hk => by omega)) _ rfl
  have Hf := Aside0.mk (And.intro HBf (And.intro hWfx hNd))
  clear HBf hWfx hNd hs2 hb2 B1 HC T1 a0 a1 a2 a3 a4 a5 a6 a7 M1
  obtain ⟨y0, y1, y2, y3, y4, y5, y6, y7⟩ := box_cells M2
  have g0 := frozen_of_row w2 _ 0 _ _ M2
  have g1 := frozen_of_row w2 _ 1 _ _ M2
  have g2 := frozen_of_row w2 _ 2 _ _ M2
  have g3 := frozen_of_row w2 _ 3 _ _ M2
  have g4 := frozen_of_row w2 _ 4 _ _ M2
  have g5 := frozen_of_row w2 _ 5 _ _ M2
  have g6 := frozen_of_row w2 _ 6 _ _ M2
  have g7 := frozen_of_row w2 _ 7 _ _ M2
  clear M2
  go_wp2
  obtain ⟨HBf, hWfx, hNd⟩ := Hf.out
  generalize hWf : w2.setCells (w.heap.size + 1) 0 ((alone n).cells ⟨A1, q1, A2, q2, A3, q3⟩) = Wf at HBf hWfx hNd
  have hch : ((((((((w2.setCell ⟨w.heap.size + 1, 0, none⟩ (.int .i64 n.kind)).setCell ⟨w.heap.size + 1, 1, none⟩ (.string n.pre)).setCell ⟨w.heap.size + 1, 2, none⟩ (.string n.loc)).setCell ⟨w.heap.size + 1, 3, none⟩ (.string n.uri)).setCell ⟨w.heap.size + 1, 4, none⟩ (.slice A1 n.decls.length q1)).setCell ⟨w.heap.size + 1, 5, none⟩ (.slice A2 n.attrs.length q2)).setCell ⟨w.heap.size + 1, 6, none⟩ (.slice A3 0 q3)).setCell ⟨w.heap.size + 1, 7, none⟩ (.string n.text)) = Wf := by rw [← hWf]; rfl
  rw [hch]
  obtain ⟨b0, b1, b2, b3, b4, b5, b6, b7⟩ := box_cells hWfx
  clear hWf hch hWfx y0 y1 y2 y3 y4 y5 y6 y7 g0 g1 g2 g3 g4 g5 g6 g7
  simp only [alone, List.length_nil] at b0 b1 b2 b3 b4 b5 b6 b7
  refine bodyPost_ret (v := .agg #[.int .i64 n.kind, .string n.pre, .string n.loc, .string n.uri, .slice A1 n.decls.length q1, .slice A2 n.attrs.length q2, .slice A3 0 q3, .string n.text]) ?hres rfl ⟨⟨⟨A1, q1, A2, q2, A3, q3⟩, rfl, hNd⟩, HBf⟩
  case hres => simp [results, Tryz.results43, go_sem, b0, b1, b2, b3, b4, b5, b6, b7]
theorem specAlone_calls (n : Nd) (s : Sh) (w : World) (ok : Nat → Prop) (hwt : wt n ≤ 1048576) (hn : NodeIs w ok n s) :
    Calls Tryz.prog 51 #[.agg #[.int .i64 n.kind, .string n.pre, .string n.loc, .string n.uri, .slice s.Ad n.decls.length s.cd, .slice s.Aa n.attrs.length s.ca, .slice s.Ak n.kids.length s.ck, .string n.text]] w (ToN (alone n) w) := by
  obtain ⟨Ad, cd, Aa, ca, Ak, ck⟩ := s
  obtain ⟨Wa, hWa, HBa, hsza, HGa⟩ := boxed w #[.int .i64 n.kind, .string n.pre, .string n.loc, .string n.uri, .slice Ad n.decls.length cd, .slice Aa n.attrs.length ca, .slice Ak n.kids.length ck, .string n.text] 28
  obtain ⟨W0, hW0, HBb, hszb, HGb⟩ := boxed Wa #[.int .i64 0, .string ⟨#[]⟩, .string ⟨#[]⟩, .string ⟨#[]⟩, .slice none 0 0, .slice none 0 0, .slice none 0 0, .string ⟨#[]⟩] 28
  have ea : Wa.heap.size = w.heap.size + 1 := by rw [hWa]; exact Array.size_push _
  have eb : W0.heap.size = w.heap.size + 2 := by rw [hW0, ← show Wa.heap.size + 1 = w.heap.size + 2 by omega]; exact Array.size_push _
  have HW0 := Aside0.mk (show W0 = (w.alloc (.cells #[.int .i64 n.kind, .string n.pre, .string n.loc, .string n.uri, .slice Ad n.decls.length cd, .slice Aa n.attrs.length ca, .slice Ak n.kids.length ck, .string n.text] 28)).alloc (.cells #[.int .i64 0, .string ⟨#[]⟩, .string ⟨#[]⟩, .string ⟨#[]⟩, .slice none 0 0, .slice none 0 0, .slice none 0 0, .string ⟨#[]⟩] 28) by rw [hW0, hWa])
  have HB := below_then HBa HBb
  have G0 : W0.heap[w.heap.size]? = some (.cells #[.int .i64 n.kind, .string n.pre, .string n.loc, .string n.uri, .slice Ad n.decls.length cd, .slice Aa n.attrs.length ca, .slice Ak n.kids.length ck, .string n.text] 28 (0, 0)) := (HBb.block _ (by omega)).trans HGa
  have G1 : W0.heap[w.heap.size + 1]? = some (.cells #[.int .i64 0, .string ⟨#[]⟩, .string ⟨#[]⟩, .string ⟨#[]⟩, .slice none 0 0, .slice none 0 0, .slice none 0 0, .string ⟨#[]⟩] 28 (0, 0)) := by rw [← ea]; exact HGb
  have HC := Aside0.mk (l5Copy_calls (cnt n) n ⟨Ad, cd, Aa, ca, Ak, ck⟩ W0 ok (Nat.le_refl _) hwt (hn.below HB))
  simp only at HC
  have Eb := Aside0.mk eb
  have hg1 : w.heap.size + 1 < W0.heap.size := by omega
  clear hWa hW0 HBa HBb hsza hszb HGa HGb ea eb hn hwt
  simp only
  go_enter Tryz.func51, Tryz.ntmps51
  go_upto_region 1 with fail
  rw [← HW0.out]
  obtain ⟨a0, a1, a2, a3, a4, a5, a6, a7⟩ := box_cells G0
  go_wp2_with fail
  refine HC.out.mono ?_
  rintro e w2 ⟨⟨⟨A1, q1, A2, q2, A3, q3⟩, rfl, hs2⟩, hb2⟩
  clear a0 a1 a2 a3 a4 a5 a6 a7
  -- the copy in a block of its own, its kids struck
  obtain ⟨W2, hW2, HB2, hsz2, HG2⟩ := boxed w2 #[.int .i64 n.kind, .string n.pre, .string n.loc, .string n.uri, .slice A1 n.decls.length q1, .slice A2 n.attrs.length q2, .slice (some ⟨w2.heap.size + 1, 0, none⟩) 0 0, .string n.text] 28
  obtain ⟨X, hX, HB3, hsz3, HG3⟩ := boxed W2 #[] 28
  have s2 := hb2.size
  have hbX : Below w2.heap.size w2 X := below_then HB2 HB3
  have TT := (HB3.block w2.heap.size (by omega)).trans HG2
  have e0 := Eb.out
  have M2 : X.heap[w.heap.size + 1]? = some (.cells #[.int .i64 0, .string ⟨#[]⟩, .string ⟨#[]⟩, .string ⟨#[]⟩, .slice none 0 0, .slice none 0 0, .slice none 0 0, .string ⟨#[]⟩] 28 (0, 0)) := (hbX.block _ (by omega)).trans ((hb2.block _ (by omega)).trans G1)
  have BX : Below w.heap.size w X := below_then HB (below_then hb2 hbX)
  have RD : Row Kd.dcl X (fun k => w.heap.size + 2 ≤ k) A1 n.decls := (hs2.decls.below hbX).mono (fun k hk => by omega)
  have RA : Row Kd.atr X (fun k => w.heap.size + 2 ≤ k) A2 n.attrs := (hs2.attrs.below hbX).mono (fun k hk => by omega)
  obtain ⟨HBf, hWfx, hNd⟩ := copy_end (n := alone n) (A3 := some ⟨w2.heap.size + 1, 0, none⟩) (q3 := 0) BX M2 hs2.cd RD hs2.ca RA (Nat.zero_le _) (Row.nil _ _ _ _) _ rfl
  have Hf := Aside0.mk (And.intro HBf (And.intro hWfx hNd))
  have HX := Aside0.mk (show X = (w2.alloc (.cells #[.int .i64 n.kind, .string n.pre, .string n.loc, .string n.uri, .slice A1 n.decls.length q1, .slice A2 n.attrs.length q2, .slice (some ⟨w2.heap.size + 1, 0, none⟩) 0 0, .string n.text] 28)).alloc (.cells #[] 28) by rw [hX, hW2])
  clear HBf hWfx hNd hs2 hb2 BX HC HB hbX hX hW2 HB2 HB3 HG2 HG3 hsz2 hsz3 RD RA G0 G1 e0 s2 W2
  simp only
  go_upto_region 3 with fail
  rw [← HX.out]
  obtain ⟨a0, a1, a2, a3, a4, a5, a6, a7⟩ := box_cells TT
  obtain ⟨y0, y1, y2, y3, y4, y5, y6, y7⟩ := box_cells M2
  have g0 := frozen_of_row X _ 0 _ _ M2
  have g1 := frozen_of_row X _ 1 _ _ M2
  have g2 := frozen_of_row X _ 2 _ _ M2
  have g3 := frozen_of_row X _ 3 _ _ M2
  have g4 := frozen_of_row X _ 4 _ _ M2
  have g5 := frozen_of_row X _ 5 _ _ M2
  have g6 := frozen_of_row X _ 6 _ _ M2
  have g7 := frozen_of_row X _ 7 _ _ M2
  clear M2 TT HX
  go_wp2
  obtain ⟨HBf, hWfx, hNd⟩ := Hf.out
  generalize hWf : X.setCells (w.heap.size + 1) 0 ((alone n).cells ⟨A1, q1, A2, q2, some ⟨w2.heap.size + 1, 0, none⟩, 0⟩) = Wf at HBf hWfx hNd
  have hch : ((((((((X.setCell ⟨w.heap.size + 1, 0, none⟩ (.int .i64 n.kind)).setCell ⟨w.heap.size + 1, 1, none⟩ (.string n.pre)).setCell ⟨w.heap.size + 1, 2, none⟩ (.string n.loc)).setCell ⟨w.heap.size + 1, 3, none⟩ (.string n.uri)).setCell ⟨w.heap.size + 1, 4, none⟩ (.slice A1 n.decls.length q1)).setCell ⟨w.heap.size + 1, 5, none⟩ (.slice A2 n.attrs.length q2)).setCell ⟨w.heap.size + 1, 6, none⟩ (.slice (some ⟨w2.heap.size + 1, 0, none⟩) 0 0)).setCell ⟨w.heap.size + 1, 7, none⟩ (.string n.text)) = Wf := by rw [← hWf]; rfl
  rw [hch]
  obtain ⟨b0, b1, b2, b3, b4, b5, b6, b7⟩ := box_cells hWfx
  clear hWf hch hWfx y0 y1 y2 y3 y4 y5 y6 y7 g0 g1 g2 g3 g4 g5 g6 g7
  simp only [alone, List.length_nil] at b0 b1 b2 b3 b4 b5 b6 b7
  refine bodyPost_ret (v := .agg #[.int .i64 n.kind, .string n.pre, .string n.loc, .string n.uri, .slice A1 n.decls.length q1, .slice A2 n.attrs.length q2, .slice (some ⟨w2.heap.size + 1, 0, none⟩) 0 0, .string n.text]) ?hres rfl ⟨⟨⟨A1, q1, A2, q2, some ⟨w2.heap.size + 1, 0, none⟩, 0⟩, rfl, hNd⟩, HBf⟩
  case hres => simp [results, Tryz.results51, go_sem, b0, b1, b2, b3, b4, b5, b6, b7]
end Go.Proofs.YtpcklgkpjmmakaaGreatDoor
end
section
/- l23Sums, SumOf, of both. -/
namespace Go.Proofs.YtpcklgkpjmmakaaGreatDoor
open Go.RowKit Go.Lib
set_option linter.unusedVariables false
set_option linter.unusedSimpArgs false
set_option maxHeartbeats 8000000
set_option maxRecDepth 100000
mutual
def sumN : Nd → Nat
  | ⟨kind, pre, loc, uri, decls, attrs, kids, text⟩ => foldH (hashB (wNode ⟨kind, pre, loc, uri, decls, attrs, [], text⟩)) (sumsN kids)
def sumsN : List Nd → List Nat
  | [] => []
  | n :: r => sumN n :: sumsN r
end
theorem sumN_eq (n : Nd) : sumN n = foldH (hashB (wNode (alone n))) (sumsN n.kids) := by cases n; rw [sumN]; rfl
theorem sumsN_map (l : List Nd) : sumsN l = l.map sumN := by
  induction l with
  | nil => rfl
  | cons x l ih => rw [sumsN, ih]; rfl
theorem hashB_lt (s : ByteArray) : hashB s < 4294967296 := foldH_lt _ _ (by omega)
theorem sumN_lt (n : Nd) : sumN n < 4294967296 := by rw [sumN_eq]; exact foldH_lt _ _ (hashB_lt _)
theorem sums_take (l : List Nd) (j : Nat) (h : j < l.length) : (sumsN l).take (j + 1) = (sumsN l).take j ++ [sumN (l[j]'h)] := by
  rw [sumsN_map, List.take_succ_eq_append_getElem (by rw [List.length_map]; exact h), List.getElem_map]
theorem sums_length (l : List Nd) : (sumsN l).length = l.length := by rw [sumsN_map, List.length_map]
theorem Tryz.info_int : (Tryz.prog.info? 3).map (fun i => (i.zero, i.size, i.bytes)) = some (some (.int .i64 0), 1, 8) := by kernel_rfl
theorem nat_news (W : World) (x : Nat) (T : TypeId) : ∀ j u, ([Value.int .i64 (x : Int)])[j]? = some u → (W.alloc (.cells #[.int .i64 (x : Int)] T (0, 0))).cell? ((⟨W.heap.size, 0, none⟩ : Addr).add j) = some u := by
  intro j u hj
  have hg : (W.alloc (.cells #[.int .i64 (x : Int)] T (0, 0))).heap[W.heap.size]? = some (.cells #[.int .i64 (x : Int)] T (0, 0)) := Array.getElem?_push_size
  rw [Addr.add_lit, cell_of_row _ _ _ _ _ _ hg, Nat.zero_add, List.getElem?_toArray, hj]
theorem nat_one (x : Nat) : ∀ u ∈ [Value.int .i64 (x : Int)], u.oneCell' = true := by
  intro u hu; rw [List.mem_singleton] at hu; subst hu; rfl
/-- A row of sums. -/
theorem l23Sums_calls {ok : Nat → Prop} (A : Option Addr) (c : Nat) (xs : List Nd) (w : World) (hl : xs.length ≤ 1048576) (hr : Row Kd.node w ok A xs)
    (ih : ∀ n ∈ xs, ∀ (s : Sh) (W : World), NodeIs W ok n s → Calls Tryz.prog 19 #[.agg #[.int .i64 n.kind, .string n.pre, .string n.loc, .string n.uri, .slice s.Ad n.decls.length s.cd, .slice s.Aa n.attrs.length s.ca, .slice s.Ak n.kids.length s.ck, .string n.text]] W fun e w' => e = .returned (.int .i64 (sumN n)) ∧ Below W.heap.size W w') :
    Calls Tryz.prog 52 #[.slice A xs.length c] w (NewRow Kd.nat w (sumsN xs)) := by
  obtain ⟨i, hi, hz0, hz1, hz2⟩ := info_parts Tryz.info_int
  have hmax := hr.max
  have hsl := Aside0.mk (sums_length xs)
  have Ih := Aside0.mk ih
  clear ih
  have Hz2 := Aside0.mk hz2
  clear hz2
  go_enter Tryz.func52, Tryz.ntmps52
  go_wp2
  go_loopg [3, 4] xs.length (fun k v i wr => ∃ (j : Nat), i = .int .i64 j ∧ j + k = xs.length ∧ Aside (OwnG Kd.nat 3 wr w.heap.size v ((sumsN xs).take j)) ∧ Below w.heap.size w wr)
  case atStart => exact ⟨0, rfl, by omega, OwnG.made _ 0 _ _ _ (Nat.le_refl _), below_alloc (Below.refl _ _) _⟩
  case round =>
    obtain ⟨j, rfl, hk, ha, hb⟩ := hrel
    by_cases hlt : j < xs.length
    · obtain ⟨b, o, s', rfl, hbl, hs', d0, d1, d2, d3, d4, d5, d6, d7⟩ := node_at (hr.below hb) j hlt
      have HI := Aside0.mk (Ih.out _ (List.getElem_mem hlt) s' wr hs')
      obtain ⟨ys, hys⟩ : ∃ ys, ys = (sumsN xs).take j := ⟨_, rfl⟩
      rw [← hys] at ha
      obtain ⟨cells, hown, hsays⟩ := ha
      have hlen : ys.length ≤ 1048576 := by rw [hys, List.length_take]; omega
      have hys2 := Aside0.mk (show (sumsN xs).take (j + 1) = ys ++ [sumN (xs[j]'hlt)] by rw [sums_take _ _ hlt, hys])
      clear hys
      have hown' := Aside0.mk hown
      have hsays := Aside0.mk hsays
      have hlt3 := hown.lt
      have Hlt3 := Aside0.mk hlt3
      clear hown hlt3 hs'
      go_wp2_with fail
      refine HI.out.mono ?_
      rintro e w2 ⟨rfl, hb2⟩
      obtain ⟨x, hx⟩ : ∃ x : Nat, x = sumN (xs[j]'hlt) := ⟨_, rfl⟩
      rw [← hx] at hys2 ⊢
      clear hx
      have ho2 := Aside0.mk (own_below hown'.out hb2)
      have hbase : w.heap.size ≤ w2.heap.size := Nat.le_trans hb.size hb2.size
      go_wp2_with (at_builtin; refine wpList_append_own_at _ rfl _ _ 29 rfl w.heap.size 3 i _ 1 _ Tryz.underlying29 hi hz0 hz1 rfl rfl (by decide) _ _ _ rfl (ho2.out.alloc _) ⟨w2.heap.size, 0, none⟩ 1 1 [.int .i64 (x : Int)] rfl ?qc1 ?qc2 ?qc3 ?qc4 ?qc5 ?qc6 ?_)
      case qc1 => rfl
      case qc2 => exact nat_news w2 x _
      case qc3 => exact nat_one x
      case qc4 => unfold maxLen; omega
      case qc5 => rw [Hz2.out]; omega
      case qc6 => simp; omega
      intro v' w3 hown3 hgrow3 _ hat3
      have HN := Aside0.mk (OwnG.snoc (d := Kd.nat) (x := x) hown'.out hsays.out hb.size hb2 rfl hown3 hgrow3 hat3)
      have HB3 := below_grown (below_alloc (below_then hb hb2) _) hgrow3 (fun k hk => (Hlt3.out k hk).1)
      clear hown3 hgrow3 hat3
      go_wp2
      go_roundg (gk - 1)
      case measure => omega
      case rel => exact ⟨j + 1, by go_num, by omega, (by rw [hys2.out]; exact HN.out : OwnG Kd.nat 3 _ _ _ ((sumsN xs).take (j + 1))), HB3⟩
    · have hrow := Aside0.mk (show ∃ A c, u3 = .slice A (sumsN xs).length c ∧ (sumsN xs).length ≤ c ∧ Row Kd.nat wr (fun k => w.heap.size ≤ k) A (sumsN xs) by
        have := OwnG.row ha
        rwa [List.take_of_length_le (by rw [hsl.out]; omega)] at this)
      clear ha
      go_wp2
      go_ret
      obtain ⟨A', c', he, hc, hr'⟩ := hrow.out
      exact ⟨⟨A', c', by rw [he]; rfl, hc, hr'⟩, hb⟩
end Go.Proofs.YtpcklgkpjmmakaaGreatDoor
end
