/- The laws' comparisons of trees, at what reads as the same. -/
import Derived.Test.YtpcklgkpjmmakaaGreatDoorTo
import Derived.StillTailTactics
namespace Go.Proofs.YtpcklgkpjmmakaaGreatDoor
open Go.RowKit
set_option linter.unusedVariables false
set_option linter.unusedSimpArgs false
set_option maxRecDepth 20000
set_option maxHeartbeats 1000000
theorem eqDecl_same (d : Dcl) (w : World) :
    Calls Tryz.prog 100 #[.agg #[.string d.pre, .string d.uri], .agg #[.string d.pre, .string d.uri]] w fun e w' => e = .returned (.bool true) ∧ Below w.heap.size w w' := by
  go_enter Tryz.func100, Tryz.ntmps100
  go_wp2
  go_ret
  exact ⟨rfl, below_alloc (below_alloc (Below.refl _ _) _) _⟩
theorem eqAttr_same (d : Atr) (w : World) :
    Calls Tryz.prog 101 #[.agg #[.string d.pre, .string d.loc, .string d.uri, .string d.val], .agg #[.string d.pre, .string d.loc, .string d.uri, .string d.val]] w fun e w' => e = .returned (.bool true) ∧ Below w.heap.size w w' := by
  go_enter Tryz.func101, Tryz.ntmps101
  go_wp2
  go_ret
  exact ⟨rfl, below_alloc (below_alloc (Below.refl _ _) _) _⟩
theorem eqDeclS_same {ok ok2 : Nat → Prop} (A B : Option Addr) (xs : List Dcl) (c c' : Nat) (w : World) (h1 : Row Kd.dcl w ok A xs) (h2 : Row Kd.dcl w ok2 B xs) :
    Calls Tryz.prog 70 #[.slice A xs.length c, .slice B xs.length c'] w fun e w' => e = .returned (.bool true) ∧ Below w.heap.size w w' := by
  have hm := h1.max
  go_enter Tryz.func70, Tryz.ntmps70
  go_wp2
  go_loopg [5] xs.length (fun k i wr => ∃ (j : Nat), i = .int .i64 j ∧ j + k = xs.length ∧ Below w.heap.size w wr)
  case atStart => exact ⟨0, rfl, by omega, Below.refl _ _⟩
  case round =>
    obtain ⟨j, rfl, hk, hb⟩ := hrel
    by_cases hlt : j < xs.length
    · obtain ⟨b, o, rfl, hbl, d0, d1⟩ := dcl_at (h1.below hb) j hlt
      obtain ⟨b2, o2, rfl, hbl2, e0, e1⟩ := dcl_at (h2.below hb) j hlt
      clear h1 h2
      go_wp2_with fail
      go_still_tail 8, (by kernel_rfl)
      change wpList _ _ _ _ _ wr.drew
      have hbd : Below wr.heap.size wr wr.drew := below_drew (Below.refl _ _)
      generalize wr.drew = w2 at hbd ⊢
      go_wp2_with fail
      refine (eqDecl_same (xs[j]'hlt) w2).mono ?_
      rintro e w3 ⟨rfl, hb3⟩
      go_wp2
      go_roundg (gk - 1)
      case measure => omega
      case rel => exact ⟨j + 1, by go_num, by omega, below_then hb (below_then hbd hb3)⟩
    · go_wp2
      go_ret
      exact ⟨rfl, hb⟩
theorem eqAttrS_same {ok ok2 : Nat → Prop} (A B : Option Addr) (xs : List Atr) (c c' : Nat) (w : World) (h1 : Row Kd.atr w ok A xs) (h2 : Row Kd.atr w ok2 B xs) :
    Calls Tryz.prog 71 #[.slice A xs.length c, .slice B xs.length c'] w fun e w' => e = .returned (.bool true) ∧ Below w.heap.size w w' := by
  have hm := h1.max
  go_enter Tryz.func71, Tryz.ntmps71
  go_wp2
  go_loopg [5] xs.length (fun k i wr => ∃ (j : Nat), i = .int .i64 j ∧ j + k = xs.length ∧ Below w.heap.size w wr)
  case atStart => exact ⟨0, rfl, by omega, Below.refl _ _⟩
  case round =>
    obtain ⟨j, rfl, hk, hb⟩ := hrel
    by_cases hlt : j < xs.length
    · obtain ⟨b, o, rfl, hbl, d0, d1, d2, d3⟩ := atr_at (h1.below hb) j hlt
      obtain ⟨b2, o2, rfl, hbl2, e0, e1, e2, e3⟩ := atr_at (h2.below hb) j hlt
      clear h1 h2
      go_wp2_with fail
      go_still_tail 8, (by kernel_rfl)
      change wpList _ _ _ _ _ wr.drew
      have hbd : Below wr.heap.size wr wr.drew := below_drew (Below.refl _ _)
      generalize wr.drew = w2 at hbd ⊢
      go_wp2_with fail
      refine (eqAttr_same (xs[j]'hlt) w2).mono ?_
      rintro e w3 ⟨rfl, hb3⟩
      go_wp2
      go_roundg (gk - 1)
      case measure => omega
      case rel => exact ⟨j + 1, by go_num, by omega, below_then hb (below_then hbd hb3)⟩
    · go_wp2
      go_ret
      exact ⟨rfl, hb⟩
theorem eqNodeS_same {ok ok2 : Nat → Prop} (A B : Option Addr) (xs : List Nd) (c c' : Nat) (w : World) (h1 : Row Kd.node w ok A xs) (h2 : Row Kd.node w ok2 B xs)
    (ih : ∀ n ∈ xs, ∀ (s t : Sh) (W : World), NodeIs W ok n s → NodeIs W ok2 n t → Calls Tryz.prog 30 #[.agg #[.int .i64 n.kind, .string n.pre, .string n.loc, .string n.uri, .slice s.Ad n.decls.length s.cd, .slice s.Aa n.attrs.length s.ca, .slice s.Ak n.kids.length s.ck, .string n.text], .agg #[.int .i64 n.kind, .string n.pre, .string n.loc, .string n.uri, .slice t.Ad n.decls.length t.cd, .slice t.Aa n.attrs.length t.ca, .slice t.Ak n.kids.length t.ck, .string n.text]] W fun e w' => e = .returned (.bool true) ∧ Below W.heap.size W w') :
    Calls Tryz.prog 72 #[.slice A xs.length c, .slice B xs.length c'] w fun e w' => e = .returned (.bool true) ∧ Below w.heap.size w w' := by
  have hm := h1.max
  have ih := Aside0.mk ih
  go_enter Tryz.func72, Tryz.ntmps72
  go_wp2
  go_loopg [5] xs.length (fun k i wr => ∃ (j : Nat), i = .int .i64 j ∧ j + k = xs.length ∧ Below w.heap.size w wr)
  case atStart => exact ⟨0, rfl, by omega, Below.refl _ _⟩
  case round =>
    obtain ⟨j, rfl, hk, hb⟩ := hrel
    by_cases hlt : j < xs.length
    · obtain ⟨b, o, s', rfl, hbl, hs', d0, d1, d2, d3, d4, d5, d6, d7⟩ := node_at (h1.below hb) j hlt
      obtain ⟨b2, o2, t', rfl, hbl2, ht', e0, e1, e2, e3, e4, e5, e6, e7⟩ := node_at (h2.below hb) j hlt
      clear h1 h2
      go_wp2_with fail
      go_still_tail 8, (by kernel_rfl)
      change wpList _ _ _ _ _ wr.drew
      have hbd : Below wr.heap.size wr wr.drew := below_drew (Below.refl _ _)
      generalize wr.drew = w2 at hbd ⊢
      go_wp2_with fail
      refine (ih.out _ (List.getElem_mem hlt) s' t' w2 (hs'.below hbd) (ht'.below hbd)).mono ?_
      rintro e w3 ⟨rfl, hb3⟩
      go_wp2
      go_roundg (gk - 1)
      case measure => omega
      case rel => exact ⟨j + 1, by go_num, by omega, below_then hb (below_then hbd hb3)⟩
    · go_wp2
      go_ret
      exact ⟨rfl, hb⟩
theorem eqNode_same : ∀ (N : Nat) (n : Nd) (s t : Sh) (w : World) (ok ok2 : Nat → Prop), cnt n ≤ N → NodeIs w ok n s → NodeIs w ok2 n t →
    Calls Tryz.prog 30 #[.agg #[.int .i64 n.kind, .string n.pre, .string n.loc, .string n.uri, .slice s.Ad n.decls.length s.cd, .slice s.Aa n.attrs.length s.ca, .slice s.Ak n.kids.length s.ck, .string n.text], .agg #[.int .i64 n.kind, .string n.pre, .string n.loc, .string n.uri, .slice t.Ad n.decls.length t.cd, .slice t.Aa n.attrs.length t.ca, .slice t.Ak n.kids.length t.ck, .string n.text]] w fun e w' => e = .returned (.bool true) ∧ Below w.heap.size w w' := by
  intro N
  induction N with
  | zero => intro n s t w ok ok2 h0; rw [cnt_eq] at h0; omega
  | succ N ih =>
  intro n s t w ok ok2 hN hs ht
  have IH := Aside0.mk (show ∀ k ∈ n.kids, ∀ (s t : Sh) (W : World), NodeIs W ok k s → NodeIs W ok2 k t → Calls Tryz.prog 30 #[.agg #[.int .i64 k.kind, .string k.pre, .string k.loc, .string k.uri, .slice s.Ad k.decls.length s.cd, .slice s.Aa k.attrs.length s.ca, .slice s.Ak k.kids.length s.ck, .string k.text], .agg #[.int .i64 k.kind, .string k.pre, .string k.loc, .string k.uri, .slice t.Ad k.decls.length t.cd, .slice t.Aa k.attrs.length t.ca, .slice t.Ak k.kids.length t.ck, .string k.text]] W fun e w' => e = .returned (.bool true) ∧ Below W.heap.size W w' from fun k hk s t W a b => by
    obtain ⟨i, hi, rfl⟩ := List.getElem_of_mem hk
    exact ih _ s t W ok ok2 (by have := cnt_kid hi; omega) a b)
  clear ih hN
  go_enter Tryz.func30, Tryz.ntmps30
  go_upto_region 1 with fail
  obtain ⟨W1, hW1, HB1, hsz1, HG1⟩ := boxed w #[.int .i64 n.kind, .string n.pre, .string n.loc, .string n.uri, .slice s.Ad n.decls.length s.cd, .slice s.Aa n.attrs.length s.ca, .slice s.Ak n.kids.length s.ck, .string n.text] 28
  obtain ⟨W, hW, HB2, hsz2, HG2⟩ := boxed W1 #[.int .i64 n.kind, .string n.pre, .string n.loc, .string n.uri, .slice t.Ad n.decls.length t.cd, .slice t.Aa n.attrs.length t.ca, .slice t.Ak n.kids.length t.ck, .string n.text] 28
  have hs1 : W1.heap.size = w.heap.size + 1 := by rw [hW1]; exact alloc_size _ _
  rw [← hW1]
  rw [← hW]
  have HG1' := (HB2.block _ hsz1).trans HG1
  rw [hs1] at HG2
  have HB := below_then HB1 HB2
  have hsz0 : w.heap.size + 1 < W.heap.size := by omega
  clear hW hW1 HG1 HB1 HB2 hsz1 hsz2 hs1 W1
  have hs := hs.below HB
  have ht := ht.below HB
  obtain ⟨a0, a1, a2, a3, a4, a5, a6, a7⟩ := box_cells HG1'
  obtain ⟨b0, b1, b2, b3, b4, b5, b6, b7⟩ := box_cells HG2
  have G1 := Aside0.mk HG1'
  have G2 := Aside0.mk HG2
  clear HG1' HG2
  go_wp2_with fail
  refine (eqDeclS_same _ _ n.decls _ _ W hs.decls ht.decls).mono ?_
  rintro e w1 ⟨rfl, hb1⟩
  have J1 := (hb1.block _ (Nat.lt_of_succ_lt hsz0)).trans G1.out
  have J2 := (hb1.block _ hsz0).trans G2.out
  clear a0 a1 a2 a3 a4 a5 a6 a7 b0 b1 b2 b3 b4 b5 b6 b7
  obtain ⟨a0, a1, a2, a3, a4, a5, a6, a7⟩ := box_cells J1
  obtain ⟨b0, b1, b2, b3, b4, b5, b6, b7⟩ := box_cells J2
  clear J1 J2
  go_wp2_with fail
  refine (eqAttrS_same _ _ n.attrs _ _ w1 (hs.below hb1).attrs (ht.below hb1).attrs).mono ?_
  rintro e w2 ⟨rfl, hb2⟩
  have hb2 := below_then hb1 hb2
  have J1 := (hb2.block _ (Nat.lt_of_succ_lt hsz0)).trans G1.out
  have J2 := (hb2.block _ hsz0).trans G2.out
  clear a0 a1 a2 a3 a4 a5 a6 a7 b0 b1 b2 b3 b4 b5 b6 b7 hb1
  obtain ⟨a0, a1, a2, a3, a4, a5, a6, a7⟩ := box_cells J1
  obtain ⟨b0, b1, b2, b3, b4, b5, b6, b7⟩ := box_cells J2
  clear J1 J2
  go_wp2_with fail
  refine (eqNodeS_same _ _ n.kids _ _ w2 (hs.below hb2).kids (ht.below hb2).kids IH.out).mono ?_
  rintro e w3 ⟨rfl, hb3⟩
  have hb3 := below_then hb2 hb3
  have J1 := (hb3.block _ (Nat.lt_of_succ_lt hsz0)).trans G1.out
  have J2 := (hb3.block _ hsz0).trans G2.out
  clear a0 a1 a2 a3 a4 a5 a6 a7 b0 b1 b2 b3 b4 b5 b6 b7 hb2
  obtain ⟨a0, a1, a2, a3, a4, a5, a6, a7⟩ := box_cells J1
  obtain ⟨b0, b1, b2, b3, b4, b5, b6, b7⟩ := box_cells J2
  clear J1 J2
  go_wp2
  go_ret
  exact ⟨rfl, below_then HB hb3⟩
end Go.Proofs.YtpcklgkpjmmakaaGreatDoor
