/- The program's kidsOk, partOk. -/
import Derived.Test.YtpcklgkpjmmakaaGreatDoorPart
namespace Go.Proofs.YtpcklgkpjmmakaaGreatDoor
open Go.RowKit Go.Lib
set_option linter.unusedVariables false
set_option linter.unusedSimpArgs false
set_option maxHeartbeats 4000000
set_option maxRecDepth 20000
theorem kidsOk_any (deep : Nat) (l : List Nd) : kidsOk deep none l = (chain (fun _ => true) noTwo none l && !l.any (fun k => !partOk deep k)) := by
  rw [kidsOk_chain, chain_of, Bool.and_comm, List.all_eq_not_any_not]
theorem kids1_calls {ok : Nat → Prop} (deep : Nat) (n : Nd) (s : Sh) (g : Nat) (w : World) (hn : w.cell? ⟨g, 0, none⟩ = some (.int .i64 deep)) (hg : g < w.heap.size) (hnd : NodeIs w ok n s) (hE : Env w) (hF : Folds w)
    (ih : ∀ W, NodeIs W ok n s → Env W → Folds W → Calls Tryz.prog 113 #[.agg #[.int .i64 n.kind, .string n.pre, .string n.loc, .string n.uri, .slice s.Ad n.decls.length s.cd, .slice s.Aa n.attrs.length s.ca, .slice s.Ak n.kids.length s.ck, .string n.text], .int .i64 deep] W fun e w' => e = .returned (.bool (partOk deep n)) ∧ Below W.heap.size W w') :
    Calls Tryz.prog 137 #[.agg #[.int .i64 n.kind, .string n.pre, .string n.loc, .string n.uri, .slice s.Ad n.decls.length s.cd, .slice s.Aa n.attrs.length s.ca, .slice s.Ak n.kids.length s.ck, .string n.text], .pointer (some ⟨g, 0, none⟩)] w fun e w' => e = .returned (.bool (!partOk deep n)) ∧ Below w.heap.size w w' := by
  obtain ⟨Ad, cd, Aa, ca, Ak, ck⟩ := s
  simp only
  obtain ⟨W, hW, HB, hsz, HG⟩ := boxed w #[.int .i64 n.kind, .string n.pre, .string n.loc, .string n.uri, .slice Ad n.decls.length cd, .slice Aa n.attrs.length ca, .slice Ak n.kids.length ck, .string n.text] 28
  have HN := Aside0.mk (ih W (hnd.below HB) (hE.below HB) (hF.below HB))
  clear ih hnd hE hF
  have HW := Aside0.mk hW
  clear hW
  obtain ⟨c0, c1, c2, c3, c4, c5, c6, c7⟩ := box_cells HG
  clear HG
  have cd' := ((bcell HB).1 g 0 hg).trans hn
  go_enter Tryz.func137, Tryz.ntmps137
  go_upto_region 1 with fail
  rw [← HW.out]
  go_wp2_with fail
  refine (HN.out).mono ?_
  rintro e w1 ⟨rfl, hb1⟩
  go_wp2
  go_ret
  exact ⟨rfl, below_then HB hb1⟩
theorem implKids_calls {ok : Nat → Prop} (deep : Nat) (n : Nd) (s : Sh) (w : World) (hnd : NodeIs w ok n s) (hE : Env w) (hF : Folds w)
    (ih : ∀ k ∈ n.kids, ∀ (s : Sh) (W : World), NodeIs W ok k s → Env W → Folds W → Calls Tryz.prog 113 #[.agg #[.int .i64 k.kind, .string k.pre, .string k.loc, .string k.uri, .slice s.Ad k.decls.length s.cd, .slice s.Aa k.attrs.length s.ca, .slice s.Ak k.kids.length s.ck, .string k.text], .int .i64 deep] W fun e w' => e = .returned (.bool (partOk deep k)) ∧ Below W.heap.size W w') :
    Calls Tryz.prog 115 #[.agg #[.int .i64 n.kind, .string n.pre, .string n.loc, .string n.uri, .slice s.Ad n.decls.length s.cd, .slice s.Aa n.attrs.length s.ca, .slice s.Ak n.kids.length s.ck, .string n.text], .int .i64 deep] w fun e w' => e = .returned (.bool (kidsOk deep none n.kids)) ∧ Below w.heap.size w w' := by
  obtain ⟨Ad, cd, Aa, ca, Ak, ck⟩ := s
  simp only
  have hv := Aside0.mk (kidsOk_any deep n.kids)
  obtain ⟨W0, hW0, HB0, hsz0, HG0⟩ := boxed w #[.int .i64 n.kind, .string n.pre, .string n.loc, .string n.uri, .slice Ad n.decls.length cd, .slice Aa n.attrs.length ca, .slice Ak n.kids.length ck, .string n.text] 28
  obtain ⟨W, hW, HB1, hsz1, HG1⟩ := boxed W0 #[.int .i64 deep] 3
  have HB := below_then HB0 HB1
  have hrow := Aside0.mk (hnd.kids.below HB)
  simp only at hrow
  have HE := Aside0.mk (hE.below HB)
  have HF := Aside0.mk (hF.below HB)
  have ih := Aside0.mk ih
  clear hnd hE hF
  have e0 : W0.heap.size = w.heap.size + 1 := by rw [hW0]; exact Array.size_push _
  have HW := Aside0.mk (show W = (w.alloc (.cells #[.int .i64 n.kind, .string n.pre, .string n.loc, .string n.uri, .slice Ad n.decls.length cd, .slice Aa n.attrs.length ca, .slice Ak n.kids.length ck, .string n.text] 28)).alloc (.cells #[.int .i64 deep] 3) by rw [hW, hW0])
  have cd' : W.cell? ⟨w.heap.size + 1, 0, none⟩ = some (.int .i64 deep) := by rw [← e0]; exact cell_of_row W W0.heap.size 0 _ _ _ HG1
  have hg : w.heap.size + 1 < W.heap.size := by rw [← e0]; exact hsz1
  obtain ⟨c0, c1, c2, c3, c4, c5, c6, c7⟩ := box_cells HG0
  have hsz : w.heap.size < W.heap.size := by omega
  have d6 := ((bcell HB1).1 w.heap.size 6 hsz0).trans c6
  clear hW hW0 HG0 HG1 c0 c1 c2 c3 c4 c5 c6 c7 e0
  go_enter Tryz.func115, Tryz.ntmps115
  go_upto_region 1 with fail
  rw [← HW.out]
  go_wp2_with fail
  refine (noTwoTexts_calls Ak ck n.kids W hrow.out).mono ?_
  rintro e w1 ⟨rfl, hb1⟩
  have f6 := ((bcell hb1).1 w.heap.size 6 hsz).trans d6
  have HD := Aside0.mk (((bcell hb1).1 (w.heap.size + 1) 0 hg).trans cd')
  have HG := Aside0.mk (Nat.lt_of_lt_of_le hg hb1.size)
  clear cd' d6
  cases hc : chain (fun _ => true) noTwo none n.kids
  case false =>
    have hfin := Aside0.mk (show kidsOk deep none n.kids = false by rw [hv.out, hc]; rfl)
    clear hc
    go_wp2
    go_ret
    exact ⟨by rw [hfin.out]; rfl, below_then HB hb1⟩
  have Hc := Aside0.mk hc
  clear hc
  go_wp2_with fail
  refine (ContainsFunc_node (fun k => !partOk deep k) 137 #[.pointer (some ⟨w.heap.size + 1, 0, none⟩)] (enters_of Tryz.func137 (by kernel_rfl) rfl) _ _ _ _ (hrow.out.below hb1)
    (fun W' x sx hx hxn hb => kids1_calls deep x sx (w.heap.size + 1) W' (((bcell hb).1 _ 0 HG.out).trans HD.out) (Nat.lt_of_lt_of_le HG.out hb.size) hxn (HE.out.below (below_then hb1 hb)) (HF.out.below (below_then hb1 hb)) (fun V hv he hf => ih.out x hx sx V hv he hf))).mono ?_
  rintro e w2 ⟨rfl, hb2⟩
  have hfin := Aside0.mk (show kidsOk deep none n.kids = !n.kids.any (fun k => !partOk deep k) by rw [hv.out, Hc.out]; rfl)
  go_wp2
  go_ret
  exact ⟨by rw [hfin.out]; rfl, below_then HB (below_then hb1 hb2)⟩
theorem implPart_calls : ∀ (N : Nat) (deep : Nat) (n : Nd) (s : Sh) (w : World) (ok : Nat → Prop), cnt n ≤ N → wt n ≤ 1048576 → deep ≤ 1000000 → NodeIs w ok n s → Env w → Folds w →
    Calls Tryz.prog 113 #[.agg #[.int .i64 n.kind, .string n.pre, .string n.loc, .string n.uri, .slice s.Ad n.decls.length s.cd, .slice s.Aa n.attrs.length s.ca, .slice s.Ak n.kids.length s.ck, .string n.text], .int .i64 deep] w fun e w' => e = .returned (.bool (partOk deep n)) ∧ Below w.heap.size w w' := by
  intro N
  induction N with
  | zero => intro deep n s w ok h0; rw [cnt_eq] at h0; omega
  | succ N ih =>
  rintro deep ⟨kind, pre, loc, uri, decls, attrs, kids, text⟩ ⟨Ad, cd, Aa, ca, Ak, ck⟩ w ok hN hwt hdp hn hE hF
  have hv := Aside0.mk (partOk_eq deep ⟨kind, pre, loc, uri, decls, attrs, kids, text⟩)
  simp only at hv
  have hkid := Aside0.mk (fun i hi => cnt_kid (n := ⟨kind, pre, loc, uri, decls, attrs, kids, text⟩) (i := i) hi)
  obtain ⟨⟨z1, z2, z3, z4⟩, zd, za, zk, l1, l2, l3⟩ := small hwt
  simp only at z1 z2 z3 z4 zd za zk l1 l2 l3 hkid ⊢
  obtain ⟨W, hW, HB, hsz, HG⟩ := boxed w #[.int .i64 kind, .string pre, .string loc, .string uri, .slice Ad decls.length cd, .slice Aa attrs.length ca, .slice Ak kids.length ck, .string text] 28
  have K := Aside0.mk (fun W1 hb => box_cells (((hb : Below W.heap.size W W1).block _ hsz).trans HG))
  have HW := Aside0.mk hW
  clear hW
  have Zd := Aside0.mk zd
  clear zd
  have Za := Aside0.mk za
  clear za
  have Zk := Aside0.mk zk
  clear zk
  have HN := Aside0.mk hN
  clear hN
  have Hn := Aside0.mk (hn.below HB)
  have HE := Aside0.mk (hE.below HB)
  have HF := Aside0.mk (hF.below HB)
  have ih := Aside0.mk ih
  clear hE hF HG hn hwt
  go_enter Tryz.func113, Tryz.ntmps113
  go_upto_region 1 with fail
  rw [← HW.out]
  obtain ⟨c0, c1, c2, c3, c4, c5, c6, c7⟩ := K.out _ (Below.refl _ _)
  by_cases hk : kind = 1
  case neg =>
    have hfin := Aside0.mk (show partOk deep ⟨kind, pre, loc, uri, decls, attrs, kids, text⟩ = leafOk ⟨kind, pre, loc, uri, decls, attrs, kids, text⟩ by rw [hv.out, oneOk, if_neg hk, show (kind != 1) = true by simpa using hk]; simp)
    go_wp2_with fail
    refine (implLeafOk_calls kind pre loc uri decls attrs kids text ⟨Ad, cd, Aa, ca, Ak, ck⟩ W (by omega) (by omega) (by omega) (by omega) (by omega) HE.out HF.out).mono ?_
    rintro e w1 ⟨rfl, hb1⟩
    go_wp2
    go_ret
    exact ⟨by rw [hfin.out]; rfl, below_then HB hb1⟩
  subst hk
  have hv := Aside0.mk (show partOk deep ⟨1, pre, loc, uri, decls, attrs, kids, text⟩ = ((isNo text && preOk pre && uriOk uri pre && plainOk loc && declsOk decls && attrsOk attrs) && (decide (deep < 7) && kidsOk (deep + 1) none kids)) by rw [hv.out]; rfl)
  by_cases hd : deep < 7
  case neg =>
    have hfin := Aside0.mk (show partOk deep ⟨1, pre, loc, uri, decls, attrs, kids, text⟩ = false by rw [hv.out, decide_eq_false hd]; simp)
    go_wp2
    go_ret
    exact ⟨by rw [hfin.out]; rfl, HB⟩
  by_cases hx : text = ⟨#[]⟩
  case neg =>
    have hfin := Aside0.mk (show partOk deep ⟨1, pre, loc, uri, decls, attrs, kids, text⟩ = false by rw [hv.out, isNo_no hx]; rfl)
    have n1 := str_ne0 hx
    have n2 := str_neE hx
    clear hx
    go_wp2
    go_ret
    exact ⟨by rw [hfin.out]; rfl, HB⟩
  subst hx
  go_wp2_with fail
  refine (implPre_calls pre W (by omega) HE.out).mono ?_
  rintro e w1 ⟨rfl, hb1⟩
  cases h1 : preOk pre
  case false =>
    have hfin := Aside0.mk (show partOk deep ⟨1, pre, loc, uri, decls, attrs, kids, ⟨#[]⟩⟩ = false by rw [hv.out, h1]; simp)
    clear h1
    go_wp2
    go_ret
    exact ⟨by rw [hfin.out]; rfl, below_then HB hb1⟩
  have H1 := Aside0.mk h1
  clear h1
  obtain ⟨d0, d1, d2, d3, d4, d5, d6, d7⟩ := K.out _ hb1
  clear c0 c1 c2 c3 c4 c5 c6 c7
  go_wp2_with fail
  refine (implUri_calls uri pre w1 (by omega) (HE.out.below hb1)).mono ?_
  rintro e w2 ⟨rfl, hb2⟩
  have hb12 := below_then hb1 hb2
  cases h2 : uriOk uri pre
  case false =>
    have hfin := Aside0.mk (show partOk deep ⟨1, pre, loc, uri, decls, attrs, kids, ⟨#[]⟩⟩ = false by rw [hv.out, h2]; simp)
    clear h2
    go_wp2
    go_ret
    exact ⟨by rw [hfin.out]; rfl, below_then HB hb12⟩
  have H2 := Aside0.mk h2
  clear h2
  obtain ⟨c0, c1, c2, c3, c4, c5, c6, c7⟩ := K.out _ hb12
  clear d0 d1 d2 d3 d4 d5 d6 d7
  go_wp2_with fail
  refine (implPlainOk_calls loc w2 (by omega) (HE.out.below hb12)).mono ?_
  rintro e w3 ⟨rfl, hb3⟩
  have hb13 := below_then hb12 hb3
  cases h3 : plainOk loc
  case false =>
    have hfin := Aside0.mk (show partOk deep ⟨1, pre, loc, uri, decls, attrs, kids, ⟨#[]⟩⟩ = false by rw [hv.out, h3]; simp)
    clear h3
    go_wp2
    go_ret
    exact ⟨by rw [hfin.out]; rfl, below_then HB hb13⟩
  have H3 := Aside0.mk h3
  clear h3
  obtain ⟨d0, d1, d2, d3, d4, d5, d6, d7⟩ := K.out _ hb13
  clear c0 c1 c2 c3 c4 c5 c6 c7
  go_wp2_with fail
  refine (implDeclsOk_calls Ad cd decls w3 (Hn.out.decls.below hb13) (fun d hd => ⟨Nat.le_trans (Zd.out d hd).1 (by omega), Nat.le_trans (Zd.out d hd).2 (by omega)⟩) (HE.out.below hb13)).mono ?_
  rintro e w4 ⟨rfl, hb4⟩
  have hb14 := below_then hb13 hb4
  cases h4 : declsOk decls
  case false =>
    have hfin := Aside0.mk (show partOk deep ⟨1, pre, loc, uri, decls, attrs, kids, ⟨#[]⟩⟩ = false by rw [hv.out, h4]; simp)
    clear h4
    go_wp2
    go_ret
    exact ⟨by rw [hfin.out]; rfl, below_then HB hb14⟩
  have H4 := Aside0.mk h4
  clear h4
  obtain ⟨c0, c1, c2, c3, c4, c5, c6, c7⟩ := K.out _ hb14
  clear d0 d1 d2 d3 d4 d5 d6 d7
  go_wp2_with fail
  refine (implAttrsOk_calls Aa ca attrs w4 (Hn.out.attrs.below hb14) (fun d hd => ⟨Nat.le_trans (Za.out d hd).1 (by omega), Nat.le_trans (Za.out d hd).2.1 (by omega), Nat.le_trans (Za.out d hd).2.2.1 (by omega), Nat.le_trans (Za.out d hd).2.2.2 (by omega)⟩) (HE.out.below hb14)).mono ?_
  rintro e w5 ⟨rfl, hb5⟩
  have hb15 := below_then hb14 hb5
  cases h5 : attrsOk attrs
  case false =>
    have hfin := Aside0.mk (show partOk deep ⟨1, pre, loc, uri, decls, attrs, kids, ⟨#[]⟩⟩ = false by rw [hv.out, h5]; simp)
    clear h5
    go_wp2
    go_ret
    exact ⟨by rw [hfin.out]; rfl, below_then HB hb15⟩
  have H5 := Aside0.mk h5
  clear h5
  obtain ⟨d0, d1, d2, d3, d4, d5, d6, d7⟩ := K.out _ hb15
  clear c0 c1 c2 c3 c4 c5 c6 c7
  have hfin := Aside0.mk (show partOk deep ⟨1, pre, loc, uri, decls, attrs, kids, ⟨#[]⟩⟩ = kidsOk (deep + 1) none kids by rw [hv.out, H1.out, H2.out, H3.out, H4.out, H5.out, decide_eq_true hd, show isNo (⟨#[]⟩ : ByteArray) = true from rfl]; rfl)
  have HK := Aside0.mk (implKids_calls (ok := ok) (deep + 1) ⟨1, pre, loc, uri, decls, attrs, kids, ⟨#[]⟩⟩ ⟨Ad, cd, Aa, ca, Ak, ck⟩ w5 (Hn.out.below hb15) (HE.out.below hb15) (HF.out.below hb15) (fun k hk s V h1 h2 h3 => by
    obtain ⟨i, hi, rfl⟩ := List.mem_iff_getElem.1 hk
    exact ih.out (deep + 1) _ s V ok (Nat.le_of_lt_succ (Nat.lt_of_lt_of_le (hkid.out i hi) HN.out)) (Zk.out _ hk) (by omega) h1 h2 h3))
  simp only at HK
  go_wp2_with fail
  refine (HK.out).mono ?_
  rintro e w6 ⟨rfl, hb6⟩
  go_wp2
  go_ret
  exact ⟨by rw [hfin.out]; rfl, below_then HB (below_then hb15 hb6)⟩
end Go.Proofs.YtpcklgkpjmmakaaGreatDoor
