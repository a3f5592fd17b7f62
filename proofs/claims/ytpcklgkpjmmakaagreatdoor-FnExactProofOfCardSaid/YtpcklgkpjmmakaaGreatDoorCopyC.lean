/- The program's cloneNode (a region of 15 orders). -/
import Derived.Test.YtpcklgkpjmmakaaGreatDoorCopy
import Derived.Deep.RegionWith
import Derived.RegionTactic
namespace Go.Proofs.YtpcklgkpjmmakaaGreatDoor
open Go.RowKit Go.Lib
set_option linter.unusedVariables false
set_option linter.unusedSimpArgs false
set_option maxHeartbeats 8000000
set_option maxRecDepth 100000
theorem cloneNode_calls : ∀ (N : Nat) (n : Nd) (s : Sh) (w : World) (ok : Nat → Prop), cnt n ≤ N → wt n ≤ 1048576 → NodeIs w ok n s →
    Calls Tryz.prog 82 #[.agg #[.int .i64 n.kind, .string n.pre, .string n.loc, .string n.uri, .slice s.Ad n.decls.length s.cd, .slice s.Aa n.attrs.length s.ca, .slice s.Ak n.kids.length s.ck, .string n.text]] w (ToN n w) := by
  intro N
  induction N with
  | zero => intro n s w ok h0; rw [cnt_eq] at h0; omega
  | succ N ih =>
  rintro n ⟨Ad, cd, Aa, ca, Ak, ck⟩ w ok hN hwt hn
  obtain ⟨_, _, _, zk, l1, l2, l3⟩ := small hwt
  have IH := Aside0.mk (show ∀ k ∈ n.kids, ∀ (s : Sh) (W : World), NodeIs W ok k s → Calls Tryz.prog 82 #[.agg #[.int .i64 k.kind, .string k.pre, .string k.loc, .string k.uri, .slice s.Ad k.decls.length s.cd, .slice s.Aa k.attrs.length s.ca, .slice s.Ak k.kids.length s.ck, .string k.text]] W (ToN k W) from fun k hk s W a => by
    have hz := zk k hk
    obtain ⟨i, hi, rfl⟩ := List.getElem_of_mem hk
    exact ih _ s W ok (by have := cnt_kid hi; omega) hz a)
  obtain ⟨W, hW, HB0, hsz, HG0⟩ := boxed w #[.int .i64 n.kind, .string n.pre, .string n.loc, .string n.uri, .slice Ad n.decls.length cd, .slice Aa n.attrs.length ca, .slice Ak n.kids.length ck, .string n.text] 28
  obtain ⟨W0, hW0, HB1, hsz1, HG1⟩ := boxed W #[.int .i64 0, .string ⟨#[]⟩, .string ⟨#[]⟩, .string ⟨#[]⟩, .slice none 0 0, .slice none 0 0, .slice none 0 0, .string ⟨#[]⟩] 28
  have eW : W.heap.size = w.heap.size + 1 := by rw [hW]; exact Array.size_push _
  have HW := Aside0.mk (show W0 = (w.alloc (.cells #[.int .i64 n.kind, .string n.pre, .string n.loc, .string n.uri, .slice Ad n.decls.length cd, .slice Aa n.attrs.length ca, .slice Ak n.kids.length ck, .string n.text] 28)).alloc (.cells #[.int .i64 0, .string ⟨#[]⟩, .string ⟨#[]⟩, .string ⟨#[]⟩, .slice none 0 0, .slice none 0 0, .slice none 0 0, .string ⟨#[]⟩] 28) by rw [hW0, hW])
  have HB := below_then HB0 HB1
  have G0 : W0.heap[w.heap.size]? = some (.cells #[.int .i64 n.kind, .string n.pre, .string n.loc, .string n.uri, .slice Ad n.decls.length cd, .slice Aa n.attrs.length ca, .slice Ak n.kids.length ck, .string n.text] 28 (0, 0)) := (HB1.block _ hsz).trans HG0
  rw [eW] at HG1 hsz1
  have rowd : Row Kd.dcl W0.drew ok Ad n.decls := (hn.decls.below HB).drewN 1
  have rowa : Row Kd.atr W0.drew ok Aa n.attrs := (hn.attrs.below HB).drewN 1
  have rowk : Row Kd.node W0.drew ok Ak n.kids := (hn.kids.below HB).drewN 1
  have hbz : Below W0.heap.size W0 W0.drew := below_drew (Below.refl _ _)
  obtain ⟨_, _, _, _, c4, c5, c6, _⟩ := box_cells G0
  have hg : w.heap.size < W0.heap.size := by omega
  have K := Aside0.mk (fun W1 (hb : Below W0.heap.size W0 W1) => box_cells ((hb.block _ hg).trans G0))
  have F := Aside0.mk (fun W1 (hb : Below W0.heap.size W0 W1) (j : Nat) => frozen_of_row W1 w.heap.size j _ _ ((hb.block _ hg).trans G0))
  have e0 : W0.heap.size = w.heap.size + 2 := by
    have := Array.size_push (xs := W.heap) (Obj.cells #[.int .i64 0, .string ⟨#[]⟩, .string ⟨#[]⟩, .string ⟨#[]⟩, .slice none 0 0, .slice none 0 0, .slice none 0 0, .string ⟨#[]⟩] 28 (0, 0))
    rw [hW0]; show (W.heap.push _).size = _; rw [this, eW]
  have Hx := Aside0.mk HG1
  have Hz := Aside0.mk (And.intro HB e0)
  have HG0' := Aside0.mk G0
  clear hW hW0 HB0 HB1 hn ih hN hwt zk HG0 eW hsz e0 HG1 G0 HB
  simp only
  go_enter Tryz.func82, Tryz.ntmps82
  go_upto_region 1 with fail
  rw [← HW.out]
  go_region_with (first
    | (go_at_call 109; refine (cloneDecl_calls Ad cd n.decls _ l1 rowd).mono ?_; rintro e w1 ⟨⟨A1, q1, rfl, p1, r1⟩, hb1⟩
       have hbz := below_then hbz hb1
       have rowa := rowa.below hb1
       have rowk := rowk.below hb1
       obtain ⟨_, _, _, _, c4, c5, c6, _⟩ := K.out _ hbz)
    | (go_at_call 110; refine (cloneAttr_calls Aa ca n.attrs _ l2 rowa).mono ?_; rintro e w2 ⟨⟨A2, q2, rfl, p2, r2⟩, hb2⟩
       have hbz := below_then hbz hb2
       have r1 := r1.below hb2
       have rowk := rowk.below hb2
       obtain ⟨_, _, _, _, c4, c5, c6, _⟩ := K.out _ hbz)
    | (go_at_call 111; refine (cloneNodes_calls Ak ck n.kids _ l3 rowk IH.out).mono ?_; rintro e w3 ⟨⟨A3, q3, rfl, p3, r3⟩, hb3⟩
       have hbz := below_then hbz hb3
       have r1 := r1.below hb3
       have r2 := r2.below hb3
       have f4 := F.out _ hbz 4
       have f5 := F.out _ hbz 5
       have f6 := F.out _ hbz 6
       obtain ⟨_, _, _, _, c4, c5, c6, _⟩ := K.out _ hbz))
  all_goals
    obtain ⟨HB, e0⟩ := Hz.out
    have e1 : W0.drew.heap.size = W0.heap.size := rfl
    have s1 := hb1.size
    have s2 := hb2.size
    have s3 := hb3.size
    obtain ⟨X, hX⟩ : ∃ X, X = w3.setCells w.heap.size 4 [.slice A1 n.decls.length q1, .slice A2 n.attrs.length q2, .slice A3 n.kids.length q3] := ⟨_, rfl⟩
    have hoth : ∀ k, k ≠ w.heap.size → X.heap[k]? = w3.heap[k]? := fun k hk => by rw [hX, setCells_same _ _ _ _ _ hk]
    have hXg : X.heap[w.heap.size]? = some (.cells #[.int .i64 n.kind, .string n.pre, .string n.loc, .string n.uri, .slice A1 n.decls.length q1, .slice A2 n.attrs.length q2, .slice A3 n.kids.length q3, .string n.text] 28 (0, 0)) := by
      rw [hX]; exact set3 ((hbz.block _ hg).trans HG0'.out) _ _ _
    have hXx : X.heap[w.heap.size + 1]? = some (.cells #[.int .i64 0, .string ⟨#[]⟩, .string ⟨#[]⟩, .string ⟨#[]⟩, .slice none 0 0, .slice none 0 0, .slice none 0 0, .string ⟨#[]⟩] 28 (0, 0)) :=
      (hoth _ (by omega)).trans ((hbz.block _ (by omega)).trans Hx.out)
    have HBX : Below w.heap.size w X := by rw [hX]; exact setCells_below _ _ _ _ _ (below_then HB hbz) (Nat.le_refl _)
    have D1 : Row Kd.dcl X (fun k => w.heap.size + 2 ≤ k) A1 n.decls := (r1.mono (ok' := fun k => w.heap.size + 2 ≤ k) (fun k hk => by omega)).agree (fun k hk _ => hoth k (by omega))
    have D2 : Row Kd.atr X (fun k => w.heap.size + 2 ≤ k) A2 n.attrs := (r2.mono (ok' := fun k => w.heap.size + 2 ≤ k) (fun k hk => by omega)).agree (fun k hk _ => hoth k (by omega))
    have D3 : Row Kd.node X (fun k => w.heap.size + 2 ≤ k) A3 n.kids := (r3.mono (ok' := fun k => w.heap.size + 2 ≤ k) (fun k hk => by omega)).agree (fun k hk _ => hoth k (by omega))
    obtain ⟨HBf, hWfx, hNd⟩ := copy_end HBX hXx p1 D1 p2 D2 p3 D3 _ rfl
    have hX' : ((w3.setCell ⟨w.heap.size, 4, none⟩ (.slice A1 n.decls.length q1)).setCell ⟨w.heap.size, 5, none⟩ (.slice A2 n.attrs.length q2)).setCell ⟨w.heap.size, 6, none⟩ (.slice A3 n.kids.length q3) = X := by rw [hX]; rfl
    rw [hX']
    obtain ⟨a0, a1, a2, a3, a4, a5, a6, a7⟩ := box_cells hXg
    obtain ⟨y0, y1, y2, y3, y4, y5, y6, y7⟩ := box_cells hXx
    have g0 := frozen_of_row X _ 0 _ _ hXx
    have g1 := frozen_of_row X _ 1 _ _ hXx
    have g2 := frozen_of_row X _ 2 _ _ hXx
    have g3 := frozen_of_row X _ 3 _ _ hXx
    have g4 := frozen_of_row X _ 4 _ _ hXx
    have g5 := frozen_of_row X _ 5 _ _ hXx
    have g6 := frozen_of_row X _ 6 _ _ hXx
    have g7 := frozen_of_row X _ 7 _ _ hXx
    have Hf := Aside0.mk (And.intro HBf (And.intro hWfx hNd))
    clear HBf hWfx hNd D1 D2 D3 hXx hXg HBX hX hX' hoth s1 s2 s3 e0 e1 HB c4 c5 c6 f4 f5 f6 hbz r1 r2 r3 p1 p2 p3
    go_wp2
    obtain ⟨HBf, hWfx, hNd⟩ := Hf.out
    generalize hWf : X.setCells (w.heap.size + 1) 0 (n.cells ⟨A1, q1, A2, q2, A3, q3⟩) = Wf at HBf hWfx hNd
    have hch : ((((((((X.setCell ⟨w.heap.size + 1, 0, none⟩ (.int .i64 n.kind)).setCell ⟨w.heap.size + 1, 1, none⟩ (.string n.pre)).setCell ⟨w.heap.size + 1, 2, none⟩ (.string n.loc)).setCell ⟨w.heap.size + 1, 3, none⟩ (.string n.uri)).setCell ⟨w.heap.size + 1, 4, none⟩ (.slice A1 n.decls.length q1)).setCell ⟨w.heap.size + 1, 5, none⟩ (.slice A2 n.attrs.length q2)).setCell ⟨w.heap.size + 1, 6, none⟩ (.slice A3 n.kids.length q3)).setCell ⟨w.heap.size + 1, 7, none⟩ (.string n.text)) = Wf := by rw [← hWf]; rfl
    rw [hch]
    obtain ⟨p0, p1, p2, p3, p4, p5, p6, p7⟩ := box_cells hWfx
    clear hWf hch hWfx a0 a1 a2 a3 a4 a5 a6 a7 y0 y1 y2 y3 y4 y5 y6 y7 g0 g1 g2 g3 g4 g5 g6 g7
    refine bodyPost_ret (v := .agg #[.int .i64 n.kind, .string n.pre, .string n.loc, .string n.uri, .slice A1 n.decls.length q1, .slice A2 n.attrs.length q2, .slice A3 n.kids.length q3, .string n.text]) ?hres rfl ⟨⟨⟨A1, q1, A2, q2, A3, q3⟩, rfl, hNd⟩, HBf⟩
    case hres => simp [results, Tryz.results82, go_sem, p0, p1, p2, p3, p4, p5, p6, p7]
end Go.Proofs.YtpcklgkpjmmakaaGreatDoor
