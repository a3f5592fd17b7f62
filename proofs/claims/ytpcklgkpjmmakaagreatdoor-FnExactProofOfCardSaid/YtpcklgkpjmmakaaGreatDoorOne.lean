/- The spec's l5Bare, l5One. -/
import Derived.Test.YtpcklgkpjmmakaaGreatDoorLeaf
import Derived.Test.YtpcklgkpjmmakaaGreatDoorPart
namespace Go.Proofs.YtpcklgkpjmmakaaGreatDoor
open Go.RowKit Go.Lib
set_option linter.unusedVariables false
set_option linter.unusedSimpArgs false
set_option maxHeartbeats 8000000
set_option maxRecDepth 100000
theorem l5Bare_calls (kind : Int) (pre loc uri : ByteArray) (decls : List Dcl) (attrs : List Atr) (kids : List Nd) (text : ByteArray) (s : Sh) (w : World) (hm1 : decls.length ≤ 9223372036854775807) (hm2 : attrs.length ≤ 9223372036854775807) (hm3 : kids.length ≤ 9223372036854775807) :
    Calls Tryz.prog 169 #[.agg #[.int .i64 kind, .string pre, .string loc, .string uri, .slice s.Ad decls.length s.cd, .slice s.Aa attrs.length s.ca, .slice s.Ak kids.length s.ck, .string text]] w
      fun e w' => e = .returned (.bool (bare ⟨kind, pre, loc, uri, decls, attrs, kids, text⟩)) ∧ Below w.heap.size w w' := by
  have hv := Aside0.mk (show bare ⟨kind, pre, loc, uri, decls, attrs, kids, text⟩ = (isNo pre && isNo uri && decls.isEmpty && attrs.isEmpty && kids.isEmpty) from rfl)
  have HB : Below w.heap.size w (w.alloc (.cells #[.int .i64 kind, .string pre, .string loc, .string uri, .slice s.Ad decls.length s.cd, .slice s.Aa attrs.length s.ca, .slice s.Ak kids.length s.ck, .string text] 28)) := below_alloc (Below.refl _ _) _
  go_enter Tryz.func169, Tryz.ntmps169
  by_cases p1 : pre = ⟨#[]⟩
  case neg =>
    have hfin := Aside0.mk (show bare ⟨kind, pre, loc, uri, decls, attrs, kids, text⟩ = false by rw [hv.out, isNo_no p1]; rfl)
    have n1 := str_ne0 p1
    have n2 := str_neE p1
    clear p1
    go_wp2
    go_ret
    exact ⟨by rw [hfin.out]; rfl, HB⟩
  subst p1
  by_cases p2 : uri = ⟨#[]⟩
  case neg =>
    have hfin := Aside0.mk (show bare ⟨kind, ⟨#[]⟩, loc, uri, decls, attrs, kids, text⟩ = false by rw [hv.out, isNo_no p2]; simp)
    have n1 := str_ne0 p2
    have n2 := str_neE p2
    clear p2
    go_wp2
    go_ret
    exact ⟨by rw [hfin.out]; rfl, HB⟩
  subst p2
  by_cases p3 : decls = []
  case neg =>
    have hfin := Aside0.mk (show bare ⟨kind, ⟨#[]⟩, loc, ⟨#[]⟩, decls, attrs, kids, text⟩ = false by rw [hv.out, show decls.isEmpty = false by simpa using p3]; simp)
    have n1 : 0 < decls.length := List.length_pos_iff.2 p3
    have n2 : ((decls.length : Int) == 0) = false := by simp; exact p3
    clear p3
    go_wp2
    go_ret
    exact ⟨by rw [hfin.out]; rfl, HB⟩
  subst p3
  by_cases p4 : attrs = []
  case neg =>
    have hfin := Aside0.mk (show bare ⟨kind, ⟨#[]⟩, loc, ⟨#[]⟩, [], attrs, kids, text⟩ = false by rw [hv.out, show attrs.isEmpty = false by simpa using p4]; simp)
    have n1 : 0 < attrs.length := List.length_pos_iff.2 p4
    have n2 : ((attrs.length : Int) == 0) = false := by simp; exact p4
    clear p4
    go_wp2
    go_ret
    exact ⟨by rw [hfin.out]; rfl, HB⟩
  subst p4
  by_cases p5 : kids = []
  case neg =>
    have hfin := Aside0.mk (show bare ⟨kind, ⟨#[]⟩, loc, ⟨#[]⟩, [], [], kids, text⟩ = false by rw [hv.out, show kids.isEmpty = false by simpa using p5]; simp)
    have n1 : 0 < kids.length := List.length_pos_iff.2 p5
    have n2 : ((kids.length : Int) == 0) = false := by simp; exact p5
    clear p5
    go_wp2
    go_ret
    exact ⟨by rw [hfin.out]; rfl, HB⟩
  subst p5
  have hfin := Aside0.mk (show bare ⟨kind, ⟨#[]⟩, loc, ⟨#[]⟩, [], [], [], text⟩ = true by rw [hv.out]; rfl)
  go_wp2
  go_ret
  exact ⟨by rw [hfin.out]; rfl, HB⟩
theorem suffix_one (l : List UInt8) (c : UInt8) : hasSuffix l [c] = (l.getLast? == some c) := by
  unfold hasSuffix List.isSuffixOf
  rw [← List.head?_reverse]
  cases l.reverse with
  | nil => rfl
  | cons a r => simp [List.isPrefixOf]; exact Bool.eq_iff_iff.2 ⟨fun h => by simp at h ⊢; exact h.symm, fun h => by simp at h ⊢; exact h.symm⟩
theorem suffix_at (s : ByteArray) (c : UInt8) (h : 0 < s.size) : hasSuffix s.data.toList [c] = (((s[s.size - 1]'(by omega)).toNat : Int) == (c.toNat : Int)) := by
  rw [suffix_one, List.getLast?_eq_getElem?, str_size, str_get s _ (by omega), Bool.eq_iff_iff]
  simp only [beq_iff_eq, Option.some.injEq]
  constructor
  · rintro h; rw [h]
  · intro h; exact UInt8.toNat_inj.1 (by omega)
theorem l5One_calls (n : Nd) (s : Sh) (w : World) (ok : Nat → Prop) (hwt : wt n ≤ 1048576) (hn : NodeIs w ok n s) :
    Calls Tryz.prog 146 #[.agg #[.int .i64 n.kind, .string n.pre, .string n.loc, .string n.uri, .slice s.Ad n.decls.length s.cd, .slice s.Aa n.attrs.length s.ca, .slice s.Ak n.kids.length s.ck, .string n.text]] w fun e w' => e = .returned (.bool (oneOk n)) ∧ Below w.heap.size w w' := by
  obtain ⟨kind, pre, loc, uri, decls, attrs, kids, text⟩ := n
  obtain ⟨Ad, cd, Aa, ca, Ak, ck⟩ := s
  obtain ⟨⟨z1, z2, z3, z4⟩, zd, za, zk, l1, l2, l3⟩ := small hwt
  simp only at z1 z2 z3 z4 zd za zk l1 l2 l3 ⊢
  obtain ⟨W, hW, HB, hsz, HG⟩ := boxed w #[.int .i64 kind, .string pre, .string loc, .string uri, .slice Ad decls.length cd, .slice Aa attrs.length ca, .slice Ak kids.length ck, .string text] 28
  have K := Aside0.mk (fun W1 hb => box_cells (((hb : Below W.heap.size W W1).block _ hsz).trans HG))
  have HW := Aside0.mk hW
  clear hW
  have Zd := Aside0.mk zd
  clear zd
  have Za := Aside0.mk za
  clear za
  have Zk := Aside0.mk zk
  clear zk
  have Hn := Aside0.mk (hn.below HB)
  clear HG hn hwt
  have hv := Aside0.mk (show oneOk ⟨kind, pre, loc, uri, decls, attrs, kids, text⟩ = if kind = 1 then (isNo text && preOk pre && uriOk uri pre && plainOk loc && declsOk decls && attrsOk attrs) else (bare ⟨kind, pre, loc, uri, decls, attrs, kids, text⟩ && (if kind = 2 then isNo loc && !isNo text && textOk text else if kind = 3 then isNo loc && noteOk text else if kind = 4 then toldOk loc text else false)) from rfl)
  obtain ⟨R, hR⟩ : ∃ R, R = oneOk ⟨kind, pre, loc, uri, decls, attrs, kids, text⟩ := ⟨_, rfl⟩
  rw [← hR] at hv ⊢
  clear hR
  have HBare := Aside0.mk (fun W1 => l5Bare_calls kind pre loc uri decls attrs kids text ⟨Ad, cd, Aa, ca, Ak, ck⟩ W1 (by omega) (by omega) (by omega))
  obtain ⟨B, hB⟩ : ∃ B, B = bare ⟨kind, pre, loc, uri, decls, attrs, kids, text⟩ := ⟨_, rfl⟩
  rw [← hB] at hv HBare
  clear hB
  simp only at HBare
  go_enter Tryz.func146, Tryz.ntmps146
  go_upto_region 1 with fail
  rw [← HW.out]
  obtain ⟨c0, c1, c2, c3, c4, c5, c6, c7⟩ := K.out _ (Below.refl _ _)
  by_cases k1 : kind = 1
  · have hv1 := Aside0.mk (hv.out.trans (if_pos k1))
    have hu := Aside0.mk (show uriOk uri pre = (textOk uri && decide (uri.size ≤ 40) && (!isNo uri || isNo pre)) from rfl)
    have ha := Aside0.mk (show attrsOk attrs = (chain attrOk attrLt none attrs && decide (attrs.length ≤ 5)) from rfl)
    clear hv HBare
    subst k1
    go_wp2_with fail
    refine (specPre_calls pre W (by omega)).mono ?_
    rintro e w1 ⟨rfl, hb1⟩
    cases h1 : preOk pre
    case false =>
      have hfin := Aside0.mk (show R = false by rw [hv1.out, h1]; simp)
      clear h1
      go_wp2
      go_ret
      exact ⟨by rw [hfin.out]; rfl, below_then HB hb1⟩
    have H1 := Aside0.mk h1
    clear h1
    obtain ⟨d0, d1, d2, d3, d4, d5, d6, d7⟩ := K.out _ hb1
    clear c0 c1 c2 c3 c4 c5 c6 c7
    go_wp2_with fail
    refine (specPlainOk_calls loc w1 (by omega)).mono ?_
    rintro e w2 ⟨rfl, hb2⟩
    have hb12 := below_then hb1 hb2
    cases h2 : plainOk loc
    case false =>
      have hfin := Aside0.mk (show R = false by rw [hv1.out, h2]; simp)
      clear h2
      go_wp2
      go_ret
      exact ⟨by rw [hfin.out]; rfl, below_then HB hb12⟩
    have H2 := Aside0.mk h2
    clear h2
    obtain ⟨c0, c1, c2, c3, c4, c5, c6, c7⟩ := K.out _ hb12
    clear d0 d1 d2 d3 d4 d5 d6 d7
    by_cases hx : text = ⟨#[]⟩
    case neg =>
      have hfin := Aside0.mk (show R = false by rw [hv1.out, isNo_no hx]; rfl)
      have n1 := str_ne0 hx
      have n2 := str_neE hx
      clear hx
      go_wp2
      go_ret
      exact ⟨by rw [hfin.out]; rfl, below_then HB hb12⟩
    subst hx
    by_cases hp0 : pre = ⟨#[]⟩
    · have HPU := Aside0.mk (show (!isNo uri || isNo pre) = true by rw [isNo_yes hp0]; simp)
      subst hp0
      go_wp2_with fail
      refine (specTextOk_calls uri w2 (by omega)).mono ?_
      rintro e w3 ⟨rfl, hb3⟩
      have hb13 := below_then hb12 hb3
      cases h3 : textOk uri
      case false =>
        have hfin := Aside0.mk (show R = false by rw [hv1.out, hu.out, h3]; simp)
        clear h3
        go_wp2
        go_ret
        exact ⟨by rw [hfin.out]; rfl, below_then HB hb13⟩
      have H3 := Aside0.mk h3
      clear h3
      obtain ⟨d0, d1, d2, d3, d4, d5, d6, d7⟩ := K.out _ hb13
      clear c0 c1 c2 c3 c4 c5 c6 c7
      by_cases h40 : uri.size ≤ 40
      case neg =>
        have hfin := Aside0.mk (show R = false by rw [hv1.out, hu.out, decide_eq_false h40]; simp)
        go_wp2
        go_ret
        exact ⟨by rw [hfin.out]; rfl, below_then HB hb13⟩
      go_wp2_with fail
      refine (specDeclsOk_calls Ad cd decls w3 (Hn.out.decls.below hb13) (fun d hd => ⟨Nat.le_trans (Zd.out d hd).1 (by omega), Nat.le_trans (Zd.out d hd).2 (by omega)⟩)).mono ?_
      rintro e w4 ⟨rfl, hb4⟩
      have hb14 := below_then hb13 hb4
      cases h4 : declsOk decls
      case false =>
        have hfin := Aside0.mk (show R = false by rw [hv1.out, h4]; simp)
        clear h4
        go_wp2
        go_ret
        exact ⟨by rw [hfin.out]; rfl, below_then HB hb14⟩
      have H4 := Aside0.mk h4
      clear h4
      obtain ⟨c0, c1, c2, c3, c4, c5, c6, c7⟩ := K.out _ hb14
      clear d0 d1 d2 d3 d4 d5 d6 d7
      by_cases h5 : attrs.length ≤ 5
      case neg =>
        have hfin := Aside0.mk (show R = false by rw [hv1.out, ha.out, decide_eq_false h5]; simp)
        go_wp2
        go_ret
        exact ⟨by rw [hfin.out]; rfl, below_then HB hb14⟩
      have hv2 := Aside0.mk (show R = chain attrOk attrLt none attrs by rw [hv1.out, hu.out, ha.out, H1.out, H2.out, H3.out, H4.out, HPU.out, decide_eq_true h40, decide_eq_true h5, show isNo (⟨#[]⟩ : ByteArray) = true from rfl]; simp)
      have hrow := Aside0.mk (Hn.out.attrs.below hb14)
      simp only at hrow
      clear c0 c1 c2 c3 c4 c6 c7 hv1 hu ha H1 H2 H3 H4 HPU
      have hmax : attrs.length ≤ 9223372036854775807 := by omega
      have hszW : w.heap.size < w4.heap.size := Nat.lt_of_lt_of_le hsz hb14.size
      go_wp2
      go_loopg [3] attrs.length (fun k i wr => ∃ (j : Nat), i = .int .i64 j ∧ j + k = attrs.length ∧ Aside (R = chain attrOk attrLt (prevOf attrs j) (attrs.drop j)) ∧ Below w4.heap.size w4 wr)
      case atStart => exact ⟨0, rfl, by omega, hv2.out, Below.refl _ _⟩
      case round =>
        obtain ⟨j, rfl, hk, ha, hb⟩ := hrel
        clear hv2
        have c5 := ((bcell hb).1 w.heap.size 5 hszW).trans c5
        have hszr : w.heap.size < wr.heap.size := Nat.lt_of_lt_of_le hszW hb.size
        have C5 := later_cell c5 hszr
        by_cases hlt : j < attrs.length
        · obtain ⟨b, o, rfl, hbl, d0, d1, d2, d3⟩ := atr_at (hrow.out.below hb) j hlt
          obtain ⟨y0, y1, y2, y3⟩ := Za.out _ (List.getElem_mem hlt)
          have i1 : (j : Int) < (attrs.length : Int) := by omega
          have D0 := later_cell d0 hbl
          have D1 := later_cell d1 hbl
          have D2 := later_cell d2 hbl
          have D3 := later_cell d3 hbl
          have HC := Aside0.mk (fun W => specAttrOk_calls (attrs[j]'hlt).pre (attrs[j]'hlt).loc (attrs[j]'hlt).uri (attrs[j]'hlt).val W (by omega) (by omega) (by omega) (by omega))
          cases hq : attrOk (attrs[j]'hlt) with
          | false =>
            have hfin := Aside0.mk (show R = false by rw [ha.out, chain_bad hlt hq])
            have HC := Aside0.mk (fun W => hq ▸ HC.out W)
            clear hq ha
            go_wp2_with fail
            refine wp_region_later (by kernel_rfl) (by kernel_rfl) ?_
            repeat (go_big_quiet_step ((go_at_call 168; exact later_call (HC.out _))))
            refine wpQuiet_nil ?_
            rintro W1 ⟨⟨_, hb1⟩, rfl⟩
            go_wp2
            go_ret
            exact ⟨by rw [hfin.out]; rfl, below_then HB (below_then hb14 (below_then hb hb1))⟩
          | true =>
            have HC := Aside0.mk (fun W => hq ▸ HC.out W)
            by_cases hj : j = 0
            · subst hj
              have hnx := Aside0.mk (show R = chain attrOk attrLt (prevOf attrs 1) (attrs.drop 1) by rw [ha.out, show prevOf attrs 0 = none from rfl, List.drop_zero, chain_zero hlt, hq, Bool.true_and])
              clear hq ha
              rw [Nat.zero_mul, Nat.add_zero] at d0 d1 d2 d3 D0 D1 D2 D3
              go_wp2_with fail
              refine wp_region_later (by kernel_rfl) (by kernel_rfl) ?_
              repeat (go_big_quiet_step ((go_at_call 168; exact later_call (HC.out _))))
              refine wpQuiet_nil ?_
              rintro W1 ⟨⟨_, hb1⟩, rfl⟩
              go_wp2
              go_roundg (gk - 1)
              case measure => omega
              case rel => exact ⟨1, by go_num, by omega, hnx.out, below_then hb hb1⟩
            · obtain ⟨m, rfl⟩ : ∃ m, j = m + 1 := ⟨j - 1, by omega⟩
              have hst := Aside0.mk (ha.out.trans (chain_succ hlt))
              clear ha hj
              have Hq := Aside0.mk hq
              clear hq
              obtain ⟨b', o', hA, hbl', e0, e1, e2, e3⟩ := atr_at (hrow.out.below hb) m (by omega)
              injection hA with hA
              injection hA with x1 x2
              subst x1 x2
              have E0 := later_cell e0 hbl'
              have E1 := later_cell e1 hbl'
              have E2 := later_cell e2 hbl'
              have E3 := later_cell e3 hbl'
              have HC2 := Aside0.mk (fun W => l5Less_calls (attrs[m]'(by omega)).pre (attrs[m]'(by omega)).loc (attrs[m]'(by omega)).uri (attrs[m]'(by omega)).val (attrs[m + 1]'hlt).pre (attrs[m + 1]'hlt).loc (attrs[m + 1]'hlt).uri (attrs[m + 1]'hlt).val W)
              cases hl : attrLt (attrs[m]'(by omega)) (attrs[m + 1]'hlt) with
              | false =>
                have hfin := Aside0.mk (show R = false by rw [hst.out, hl, Bool.and_false]; rfl)
                have HC2 := Aside0.mk (fun W => hl ▸ HC2.out W)
                clear hl
                go_wp2_with fail
                refine wp_region_later (by kernel_rfl) (by kernel_rfl) ?_
                repeat (go_big_quiet_step ((first | (go_at_call 168; exact later_call (HC.out _)) | (go_at_call 107; exact later_call (HC2.out _)))))
                refine wpQuiet_nil ?_
                rintro W1 ⟨⟨_, hb1⟩, rfl⟩
                go_wp2
                go_ret
                exact ⟨by rw [hfin.out]; rfl, below_then HB (below_then hb14 (below_then hb hb1))⟩
              | true =>
                have hnx := Aside0.mk (show R = chain attrOk attrLt (prevOf attrs (m + 2)) (attrs.drop (m + 2)) by rw [hst.out, hl, Hq.out]; rfl)
                have HC2 := Aside0.mk (fun W => hl ▸ HC2.out W)
                clear hl
                go_wp2_with fail
                refine wp_region_later (by kernel_rfl) (by kernel_rfl) ?_
                repeat (go_big_quiet_step ((first | (go_at_call 168; exact later_call (HC.out _)) | (go_at_call 107; exact later_call (HC2.out _)))))
                refine wpQuiet_nil ?_
                rintro W1 ⟨⟨_, hb1⟩, rfl⟩
                go_wp2
                go_roundg (gk - 1)
                case measure => omega
                case rel => exact ⟨m + 2, by go_num, by omega, hnx.out, below_then hb hb1⟩
        · have hfin := Aside0.mk (show R = true by rw [ha.out, chain_end (by omega)])
          clear ha
          go_wp2
          go_ret
          exact ⟨by rw [hfin.out]; rfl, below_then HB (below_then hb14 hb)⟩
    · by_cases hu0 : uri = ⟨#[]⟩
      case pos =>
        have hfin := Aside0.mk (show R = false by rw [hv1.out, hu.out, isNo_yes hu0, isNo_no hp0]; simp)
        have n1 := str_ne0 hp0
        have n2 := str_neE hp0
        clear hp0
        subst hu0
        go_wp2
        go_ret
        exact ⟨by rw [hfin.out]; rfl, below_then HB hb12⟩
      have HPU := Aside0.mk (show (!isNo uri || isNo pre) = true by rw [isNo_no hu0]; rfl)
      have n1 := str_ne0 hp0
      have n2 := str_neE hp0
      have n3 := str_ne0 hu0
      have n4 := str_neE hu0
      clear hp0 hu0
      go_wp2_with fail
      refine (specTextOk_calls uri w2 (by omega)).mono ?_
      rintro e w3 ⟨rfl, hb3⟩
      have hb13 := below_then hb12 hb3
      cases h3 : textOk uri
      case false =>
        have hfin := Aside0.mk (show R = false by rw [hv1.out, hu.out, h3]; simp)
        clear h3
        go_wp2
        go_ret
        exact ⟨by rw [hfin.out]; rfl, below_then HB hb13⟩
      have H3 := Aside0.mk h3
      clear h3
      obtain ⟨d0, d1, d2, d3, d4, d5, d6, d7⟩ := K.out _ hb13
      clear c0 c1 c2 c3 c4 c5 c6 c7
      by_cases h40 : uri.size ≤ 40
      case neg =>
        have hfin := Aside0.mk (show R = false by rw [hv1.out, hu.out, decide_eq_false h40]; simp)
        go_wp2
        go_ret
        exact ⟨by rw [hfin.out]; rfl, below_then HB hb13⟩
      go_wp2_with fail
      refine (specDeclsOk_calls Ad cd decls w3 (Hn.out.decls.below hb13) (fun d hd => ⟨Nat.le_trans (Zd.out d hd).1 (by omega), Nat.le_trans (Zd.out d hd).2 (by omega)⟩)).mono ?_
      rintro e w4 ⟨rfl, hb4⟩
      have hb14 := below_then hb13 hb4
      cases h4 : declsOk decls
      case false =>
        have hfin := Aside0.mk (show R = false by rw [hv1.out, h4]; simp)
        clear h4
        go_wp2
        go_ret
        exact ⟨by rw [hfin.out]; rfl, below_then HB hb14⟩
      have H4 := Aside0.mk h4
      clear h4
      obtain ⟨c0, c1, c2, c3, c4, c5, c6, c7⟩ := K.out _ hb14
      clear d0 d1 d2 d3 d4 d5 d6 d7
      by_cases h5 : attrs.length ≤ 5
      case neg =>
        have hfin := Aside0.mk (show R = false by rw [hv1.out, ha.out, decide_eq_false h5]; simp)
        go_wp2
        go_ret
        exact ⟨by rw [hfin.out]; rfl, below_then HB hb14⟩
      have hv2 := Aside0.mk (show R = chain attrOk attrLt none attrs by rw [hv1.out, hu.out, ha.out, H1.out, H2.out, H3.out, H4.out, HPU.out, decide_eq_true h40, decide_eq_true h5, show isNo (⟨#[]⟩ : ByteArray) = true from rfl]; simp)
      have hrow := Aside0.mk (Hn.out.attrs.below hb14)
      simp only at hrow
      clear c0 c1 c2 c3 c4 c6 c7 hv1 hu ha H1 H2 H3 H4 HPU
      have hmax : attrs.length ≤ 9223372036854775807 := by omega
      have hszW : w.heap.size < w4.heap.size := Nat.lt_of_lt_of_le hsz hb14.size
      go_wp2
      go_loopg [3] attrs.length (fun k i wr => ∃ (j : Nat), i = .int .i64 j ∧ j + k = attrs.length ∧ Aside (R = chain attrOk attrLt (prevOf attrs j) (attrs.drop j)) ∧ Below w4.heap.size w4 wr)
      case atStart => exact ⟨0, rfl, by omega, hv2.out, Below.refl _ _⟩
      case round =>
        obtain ⟨j, rfl, hk, ha, hb⟩ := hrel
        clear hv2
        have c5 := ((bcell hb).1 w.heap.size 5 hszW).trans c5
        have hszr : w.heap.size < wr.heap.size := Nat.lt_of_lt_of_le hszW hb.size
        have C5 := later_cell c5 hszr
        by_cases hlt : j < attrs.length
        · obtain ⟨b, o, rfl, hbl, d0, d1, d2, d3⟩ := atr_at (hrow.out.below hb) j hlt
          obtain ⟨y0, y1, y2, y3⟩ := Za.out _ (List.getElem_mem hlt)
          have i1 : (j : Int) < (attrs.length : Int) := by omega
          have D0 := later_cell d0 hbl
          have D1 := later_cell d1 hbl
          have D2 := later_cell d2 hbl
          have D3 := later_cell d3 hbl
          have HC := Aside0.mk (fun W => specAttrOk_calls (attrs[j]'hlt).pre (attrs[j]'hlt).loc (attrs[j]'hlt).uri (attrs[j]'hlt).val W (by omega) (by omega) (by omega) (by omega))
          cases hq : attrOk (attrs[j]'hlt) with
          | false =>
            have hfin := Aside0.mk (show R = false by rw [ha.out, chain_bad hlt hq])
            have HC := Aside0.mk (fun W => hq ▸ HC.out W)
            clear hq ha
            go_wp2_with fail
            refine wp_region_later (by kernel_rfl) (by kernel_rfl) ?_
            repeat (go_big_quiet_step ((go_at_call 168; exact later_call (HC.out _))))
            refine wpQuiet_nil ?_
            rintro W1 ⟨⟨_, hb1⟩, rfl⟩
            go_wp2
            go_ret
            exact ⟨by rw [hfin.out]; rfl, below_then HB (below_then hb14 (below_then hb hb1))⟩
          | true =>
            have HC := Aside0.mk (fun W => hq ▸ HC.out W)
            by_cases hj : j = 0
            · subst hj
              have hnx := Aside0.mk (show R = chain attrOk attrLt (prevOf attrs 1) (attrs.drop 1) by rw [ha.out, show prevOf attrs 0 = none from rfl, List.drop_zero, chain_zero hlt, hq, Bool.true_and])
              clear hq ha
              rw [Nat.zero_mul, Nat.add_zero] at d0 d1 d2 d3 D0 D1 D2 D3
              go_wp2_with fail
              refine wp_region_later (by kernel_rfl) (by kernel_rfl) ?_
              repeat (go_big_quiet_step ((go_at_call 168; exact later_call (HC.out _))))
              refine wpQuiet_nil ?_
              rintro W1 ⟨⟨_, hb1⟩, rfl⟩
              go_wp2
              go_roundg (gk - 1)
              case measure => omega
              case rel => exact ⟨1, by go_num, by omega, hnx.out, below_then hb hb1⟩
            · obtain ⟨m, rfl⟩ : ∃ m, j = m + 1 := ⟨j - 1, by omega⟩
              have hst := Aside0.mk (ha.out.trans (chain_succ hlt))
              clear ha hj
              have Hq := Aside0.mk hq
              clear hq
              obtain ⟨b', o', hA, hbl', e0, e1, e2, e3⟩ := atr_at (hrow.out.below hb) m (by omega)
              injection hA with hA
              injection hA with x1 x2
              subst x1 x2
              have E0 := later_cell e0 hbl'
              have E1 := later_cell e1 hbl'
              have E2 := later_cell e2 hbl'
              have E3 := later_cell e3 hbl'
              have HC2 := Aside0.mk (fun W => l5Less_calls (attrs[m]'(by omega)).pre (attrs[m]'(by omega)).loc (attrs[m]'(by omega)).uri (attrs[m]'(by omega)).val (attrs[m + 1]'hlt).pre (attrs[m + 1]'hlt).loc (attrs[m + 1]'hlt).uri (attrs[m + 1]'hlt).val W)
              cases hl : attrLt (attrs[m]'(by omega)) (attrs[m + 1]'hlt) with
              | false =>
                have hfin := Aside0.mk (show R = false by rw [hst.out, hl, Bool.and_false]; rfl)
                have HC2 := Aside0.mk (fun W => hl ▸ HC2.out W)
                clear hl
                go_wp2_with fail
                refine wp_region_later (by kernel_rfl) (by kernel_rfl) ?_
                repeat (go_big_quiet_step ((first | (go_at_call 168; exact later_call (HC.out _)) | (go_at_call 107; exact later_call (HC2.out _)))))
                refine wpQuiet_nil ?_
                rintro W1 ⟨⟨_, hb1⟩, rfl⟩
                go_wp2
                go_ret
                exact ⟨by rw [hfin.out]; rfl, below_then HB (below_then hb14 (below_then hb hb1))⟩
              | true =>
                have hnx := Aside0.mk (show R = chain attrOk attrLt (prevOf attrs (m + 2)) (attrs.drop (m + 2)) by rw [hst.out, hl, Hq.out]; rfl)
                have HC2 := Aside0.mk (fun W => hl ▸ HC2.out W)
                clear hl
                go_wp2_with fail
                refine wp_region_later (by kernel_rfl) (by kernel_rfl) ?_
                repeat (go_big_quiet_step ((first | (go_at_call 168; exact later_call (HC.out _)) | (go_at_call 107; exact later_call (HC2.out _)))))
                refine wpQuiet_nil ?_
                rintro W1 ⟨⟨_, hb1⟩, rfl⟩
                go_wp2
                go_roundg (gk - 1)
                case measure => omega
                case rel => exact ⟨m + 2, by go_num, by omega, hnx.out, below_then hb hb1⟩
        · have hfin := Aside0.mk (show R = true by rw [ha.out, chain_end (by omega)])
          clear ha
          go_wp2
          go_ret
          exact ⟨by rw [hfin.out]; rfl, below_then HB (below_then hb14 hb)⟩
  · have hv1 := Aside0.mk (hv.out.trans (if_neg k1))
    clear hv
    by_cases k2 : kind = 2
    · have hv2 := Aside0.mk (show R = (B && (isNo loc && !isNo text && textOk text)) by rw [hv1.out, if_pos k2])
      clear hv1 k1
      subst k2
      go_wp2_with fail
      refine (HBare.out W).mono ?_
      rintro e w1 ⟨rfl, hb1⟩
      cases q0 : B
      case false =>
        have hfin := Aside0.mk (show R = false by rw [hv2.out, q0]; rfl)
        clear q0
        go_wp2
        go_ret
        exact ⟨by rw [hfin.out]; rfl, below_then HB hb1⟩
      have Q0 := Aside0.mk q0
      clear q0
      obtain ⟨d0, d1, d2, d3, d4, d5, d6, d7⟩ := K.out _ hb1
      clear c0 c1 c2 c3 c4 c5 c6 c7
      by_cases p1 : loc = ⟨#[]⟩
      case neg =>
        have hfin := Aside0.mk (show R = false by rw [hv2.out, isNo_no p1]; simp)
        have n1 := str_ne0 p1
        have n2 := str_neE p1
        clear p1
        go_wp2
        go_ret
        exact ⟨by rw [hfin.out]; rfl, below_then HB hb1⟩
      subst p1
      by_cases p2 : text = ⟨#[]⟩
      · have hfin := Aside0.mk (show R = false by rw [hv2.out, isNo_yes p2]; simp)
        subst p2
        go_wp2
        go_ret
        exact ⟨by rw [hfin.out]; rfl, below_then HB hb1⟩
      · have hfin := Aside0.mk (show R = textOk text by rw [hv2.out, Q0.out, isNo_no p2, show isNo (⟨#[]⟩ : ByteArray) = true from rfl]; rfl)
        have n1 := str_ne0 p2
        have n2 := str_neE p2
        clear p2
        go_wp2_with fail
        refine (specTextOk_calls text w1 (by omega)).mono ?_
        rintro e w2 ⟨rfl, hb2⟩
        go_wp2
        go_ret
        exact ⟨by rw [hfin.out]; rfl, below_then HB (below_then hb1 hb2)⟩
    by_cases k3 : kind = 3
    · have hv2 := Aside0.mk (show R = (B && (isNo loc && (textOk text && !hasB text [45, 45] && !hasSuffix text.data.toList [45] && !hasB text [13]))) by rw [hv1.out, if_neg k2, if_pos k3]; rfl)
      clear hv1 k1 k2
      subst k3
      go_wp2_with fail
      refine (HBare.out W).mono ?_
      rintro e w1 ⟨rfl, hb1⟩
      cases q0 : B
      case false =>
        have hfin := Aside0.mk (show R = false by rw [hv2.out, q0]; rfl)
        clear q0
        go_wp2
        go_ret
        exact ⟨by rw [hfin.out]; rfl, below_then HB hb1⟩
      have Q0 := Aside0.mk q0
      clear q0
      obtain ⟨d0, d1, d2, d3, d4, d5, d6, d7⟩ := K.out _ hb1
      clear c0 c1 c2 c3 c4 c5 c6 c7
      by_cases p1 : loc = ⟨#[]⟩
      case neg =>
        have hfin := Aside0.mk (show R = false by rw [hv2.out, isNo_no p1]; simp)
        have n1 := str_ne0 p1
        have n2 := str_neE p1
        clear p1
        go_wp2
        go_ret
        exact ⟨by rw [hfin.out]; rfl, below_then HB hb1⟩
      subst p1
      go_wp2_with fail
      refine (specTextOk_calls text w1 (by omega)).mono ?_
      rintro e w2 ⟨rfl, hb2⟩
      have hb12 := below_then hb1 hb2
      cases h1 : textOk text
      case false =>
        have hfin := Aside0.mk (show R = false by rw [hv2.out, h1]; simp)
        clear h1
        go_wp2
        go_ret
        exact ⟨by rw [hfin.out]; rfl, below_then HB hb12⟩
      have H1 := Aside0.mk h1
      clear h1
      obtain ⟨c0, c1, c2, c3, c4, c5, c6, c7⟩ := K.out _ hb12
      clear d0 d1 d2 d3 d4 d5 d6 d7
      go_wp2_with fail
      refine (l5Has_calls text ⟨#[45, 45]⟩ w2 (by omega) (by decide) (by decide)).mono ?_
      rintro e w3 ⟨rfl, rfl⟩
      rw [show hasB text (⟨#[45, 45]⟩ : ByteArray).data.toList = hasB text [45, 45] from rfl]
      cases h2 : hasB text [45, 45]
      case true =>
        have hfin := Aside0.mk (show R = false by rw [hv2.out, h2]; simp)
        clear h2
        go_wp2
        go_ret
        exact ⟨by rw [hfin.out]; rfl, below_then HB hb12⟩
      have H2 := Aside0.mk h2
      clear h2
      go_wp2_with fail
      refine (l5Has_calls text ⟨#[13]⟩ _ (by omega) (by decide) (by decide)).mono ?_
      rintro e w3 ⟨rfl, rfl⟩
      rw [show hasB text (⟨#[13]⟩ : ByteArray).data.toList = hasB text [13] from rfl]
      cases h3 : hasB text [13]
      case true =>
        have hfin := Aside0.mk (show R = false by rw [hv2.out, h3]; simp)
        clear h3
        go_wp2
        go_ret
        exact ⟨by rw [hfin.out]; rfl, below_then HB hb12⟩
      have H3 := Aside0.mk h3
      clear h3
      by_cases p2 : text = ⟨#[]⟩
      · have hfin := Aside0.mk (show R = true by rw [hv2.out, Q0.out, H1.out, H2.out, H3.out, p2]; rfl)
        subst p2
        go_wp2
        go_ret
        exact ⟨by rw [hfin.out]; rfl, below_then HB hb12⟩
      · have hz : 0 < text.size := by
          rcases Nat.eq_zero_or_pos text.size with h | h
          · exact absurd (str_ext (by rw [show text.data.toList = [] from List.length_eq_zero_iff.1 (by rw [str_size]; exact h)])) p2
          · exact h
        have i1 : ((text.size : Int) - 1).toNat = text.size - 1 := by omega
        have i2 : (0 : Int) ≤ (text.size : Int) - 1 := by omega
        have i3 : (text.size : Int) - 1 < (text.size : Int) := by omega
        have hu : (text[text.size - 1]'(by omega)).toNat < 256 := UInt8.toNat_lt _
        have hfin := Aside0.mk (show R = !(((text[text.size - 1]'(by omega)).toNat : Int) == 45) by rw [hv2.out, Q0.out, H1.out, H2.out, H3.out, suffix_at text 45 hz, show isNo (⟨#[]⟩ : ByteArray) = true from rfl]; simp)
        have n1 := str_ne0 p2
        have n2 := str_neE p2
        clear p2
        go_wp2
        go_ret
        exact ⟨by rw [hfin.out]; rfl, below_then HB hb12⟩
    by_cases k4 : kind = 4
    · have hv2 := Aside0.mk (show R = (B && (plainOk loc && !isXml loc && textOk text && !hasB text [63, 62] && !hasB text [13] && !blank0 text)) by rw [hv1.out, if_neg k2, if_neg k3, if_pos k4]; rfl)
      clear hv1 k1 k2 k3
      subst k4
      go_wp2_with fail
      refine (HBare.out W).mono ?_
      rintro e w1 ⟨rfl, hb1⟩
      cases q0 : B
      case false =>
        have hfin := Aside0.mk (show R = false by rw [hv2.out, q0]; rfl)
        clear q0
        go_wp2
        go_ret
        exact ⟨by rw [hfin.out]; rfl, below_then HB hb1⟩
      have Q0 := Aside0.mk q0
      clear q0
      obtain ⟨d0, d1, d2, d3, d4, d5, d6, d7⟩ := K.out _ hb1
      clear c0 c1 c2 c3 c4 c5 c6 c7
      go_wp2_with fail
      refine (specPlainOk_calls loc w1 (by omega)).mono ?_
      rintro e w2 ⟨rfl, hb2⟩
      have hb12 := below_then hb1 hb2
      cases h1 : plainOk loc
      case false =>
        have hfin := Aside0.mk (show R = false by rw [hv2.out, h1]; simp)
        clear h1
        go_wp2
        go_ret
        exact ⟨by rw [hfin.out]; rfl, below_then HB hb12⟩
      have H1 := Aside0.mk h1
      clear h1
      obtain ⟨c0, c1, c2, c3, c4, c5, c6, c7⟩ := K.out _ hb12
      clear d0 d1 d2 d3 d4 d5 d6 d7
      go_wp2_with fail
      refine (l5Xml_calls loc w2).mono ?_
      rintro e w3 ⟨rfl, rfl⟩
      cases h2 : isXml loc
      case true =>
        have hfin := Aside0.mk (show R = false by rw [hv2.out, h2]; simp)
        clear h2
        go_wp2
        go_ret
        exact ⟨by rw [hfin.out]; rfl, below_then HB hb12⟩
      have H2 := Aside0.mk h2
      clear h2
      go_wp2_with fail
      refine (specTextOk_calls text _ (by omega)).mono ?_
      rintro e w3 ⟨rfl, hb3⟩
      have hb13 := below_then hb12 hb3
      cases h3 : textOk text
      case false =>
        have hfin := Aside0.mk (show R = false by rw [hv2.out, h3]; simp)
        clear h3
        go_wp2
        go_ret
        exact ⟨by rw [hfin.out]; rfl, below_then HB hb13⟩
      have H3 := Aside0.mk h3
      clear h3
      obtain ⟨d0, d1, d2, d3, d4, d5, d6, d7⟩ := K.out _ hb13
      clear c0 c1 c2 c3 c4 c5 c6 c7
      go_wp2_with fail
      refine (l5Has_calls text ⟨#[63, 62]⟩ _ (by omega) (by decide) (by decide)).mono ?_
      rintro e w4 ⟨rfl, rfl⟩
      rw [show hasB text (⟨#[63, 62]⟩ : ByteArray).data.toList = hasB text [63, 62] from rfl]
      cases h4 : hasB text [63, 62]
      case true =>
        have hfin := Aside0.mk (show R = false by rw [hv2.out, h4]; simp)
        clear h4
        go_wp2
        go_ret
        exact ⟨by rw [hfin.out]; rfl, below_then HB hb13⟩
      have H4 := Aside0.mk h4
      clear h4
      go_wp2_with fail
      refine (l5Has_calls text ⟨#[13]⟩ _ (by omega) (by decide) (by decide)).mono ?_
      rintro e w4 ⟨rfl, rfl⟩
      rw [show hasB text (⟨#[13]⟩ : ByteArray).data.toList = hasB text [13] from rfl]
      cases h5 : hasB text [13]
      case true =>
        have hfin := Aside0.mk (show R = false by rw [hv2.out, h5]; simp)
        clear h5
        go_wp2
        go_ret
        exact ⟨by rw [hfin.out]; rfl, below_then HB hb13⟩
      have H5 := Aside0.mk h5
      clear h5
      by_cases p2 : text = ⟨#[]⟩
      · have hfin := Aside0.mk (show R = true by rw [hv2.out, Q0.out, H1.out, H2.out, H3.out, H4.out, H5.out, p2]; rfl)
        subst p2
        go_wp2
        go_ret
        exact ⟨by rw [hfin.out]; rfl, below_then HB hb13⟩
      · have hz : 0 < text.size := by
          rcases Nat.eq_zero_or_pos text.size with h | h
          · exact absurd (str_ext (by rw [show text.data.toList = [] from List.length_eq_zero_iff.1 (by rw [str_size]; exact h)])) p2
          · exact h
        have hu : (text[0]'hz).toNat < 256 := UInt8.toNat_lt _
        have hfin := Aside0.mk (show R = !isBlank ((text[0]'hz).toNat : Int) by rw [hv2.out, Q0.out, H1.out, H2.out, H3.out, H4.out, H5.out, blank0_at text hz]; rfl)
        have n1 := str_ne0 p2
        have n2 := str_neE p2
        clear p2
        go_wp2_with fail
        refine (specIsBlank_calls _ _).mono ?_
        rintro e w5 ⟨rfl, rfl⟩
        go_wp2
        go_ret
        exact ⟨by rw [hfin.out]; rfl, below_then HB hb13⟩
    have hfin := Aside0.mk (show R = false by rw [hv1.out, if_neg k2, if_neg k3, if_neg k4]; simp)
    go_wp2
    go_ret
    exact ⟨by rw [hfin.out]; rfl, HB⟩
end Go.Proofs.YtpcklgkpjmmakaaGreatDoor
