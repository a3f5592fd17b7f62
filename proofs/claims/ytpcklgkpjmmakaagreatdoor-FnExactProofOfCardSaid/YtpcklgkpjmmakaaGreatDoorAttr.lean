/- Attrs: the spec's l5AttrOk, l5Less, the program's attrOk, compareAttrs, attrsOk. -/
import Derived.Test.YtpcklgkpjmmakaaGreatDoorDecls
namespace Go.Proofs.YtpcklgkpjmmakaaGreatDoor
open Go.RowKit Go.Lib
set_option linter.unusedVariables false
set_option linter.unusedSimpArgs false
set_option maxHeartbeats 4000000
set_option maxRecDepth 20000
theorem xmlns_no {s : ByteArray} (h : ¬ s = ⟨#[120, 109, 108, 110, 115]⟩) : isXmlns s = false := decide_eq_false h
theorem xmlns_yes {s : ByteArray} (h : s = ⟨#[120, 109, 108, 110, 115]⟩) : isXmlns s = true := decide_eq_true h
theorem toList_of (l : List UInt8) : (⟨l.toArray⟩ : ByteArray).toList = l := by rw [ByteArray.toList_eq]
theorem str_neL {a : ByteArray} (l : List UInt8) (h : ¬ a = ⟨l.toArray⟩) : (a.toList == l) = false := by
  have := str_neb h
  rw [toList_of l] at this
  exact this
theorem box4 {W : World} {g : Nat} {a0 a1 a2 a3 : Value} {T : TypeId} (h : W.heap[g]? = some (.cells #[a0, a1, a2, a3] T (0, 0))) :
    W.cell? ⟨g, 0, none⟩ = some a0 ∧ W.cell? ⟨g, 1, none⟩ = some a1 ∧ W.cell? ⟨g, 2, none⟩ = some a2 ∧ W.cell? ⟨g, 3, none⟩ = some a3 :=
  ⟨cell_of_row W g 0 _ _ _ h, cell_of_row W g 1 _ _ _ h, cell_of_row W g 2 _ _ _ h, cell_of_row W g 3 _ _ _ h⟩
/-- A box of four cells stays. -/
theorem keep4 {W : World} {g : Nat} {a0 a1 a2 a3 : Value} (hg : g < W.heap.size) (h : W.cell? ⟨g, 0, none⟩ = some a0 ∧ W.cell? ⟨g, 1, none⟩ = some a1 ∧ W.cell? ⟨g, 2, none⟩ = some a2 ∧ W.cell? ⟨g, 3, none⟩ = some a3) (W1 : World) (hb : Below W.heap.size W W1) :
    W1.cell? ⟨g, 0, none⟩ = some a0 ∧ W1.cell? ⟨g, 1, none⟩ = some a1 ∧ W1.cell? ⟨g, 2, none⟩ = some a2 ∧ W1.cell? ⟨g, 3, none⟩ = some a3 := by
  obtain ⟨hc, _⟩ := bcell hb
  exact ⟨(hc g 0 hg).trans h.1, (hc g 1 hg).trans h.2.1, (hc g 2 hg).trans h.2.2.1, (hc g 3 hg).trans h.2.2.2⟩
theorem specAttrOk_calls (ap al au av : ByteArray) (w : World) (h1 : ap.size ≤ 1000000000) (h2 : al.size ≤ 1000000000) (h3 : au.size ≤ 1000000000) (h4 : av.size ≤ 1000000000) :
    Calls Tryz.prog 168 #[.agg #[.string ap, .string al, .string au, .string av]] w fun e w' => e = .returned (.bool (attrOk ⟨ap, al, au, av⟩)) ∧ Below w.heap.size w w' := by
  have hv := Aside0.mk (show attrOk ⟨ap, al, au, av⟩ = (preOk ap && (isNo ap == isNo au) && uriOk au ap && plainOk al && textOk av && (!isNo ap || !isXmlns al)) from rfl)
  have hu := Aside0.mk (show uriOk au ap = (textOk au && decide (au.size ≤ 40) && (!isNo au || isNo ap)) from rfl)
  obtain ⟨W, hW, HB, hsz, HG⟩ := boxed w #[.string ap, .string al, .string au, .string av] 114
  have K := Aside0.mk (keep4 hsz (box4 HG))
  have HW := Aside0.mk hW
  clear hW
  clear HG
  go_enter Tryz.func168, Tryz.ntmps168
  go_upto_region 1 with fail
  rw [← HW.out]
  obtain ⟨c0, c1, c2, c3⟩ := K.out _ (Below.refl _ _)
  go_wp2_with fail
  refine (specPre_calls ap W h1).mono ?_
  rintro e w1 ⟨rfl, hb1⟩
  obtain ⟨d0, d1, d2, d3⟩ := K.out _ hb1
  clear c0 c1 c2 c3
  cases hq : preOk ap
  case false =>
    have hfin := Aside0.mk (show attrOk ⟨ap, al, au, av⟩ = false by rw [hv.out, hq]; rfl)
    clear hq
    go_wp2
    go_ret
    exact ⟨by rw [hfin.out]; rfl, below_then HB hb1⟩
  have Hq := Aside0.mk hq
  clear hq
  by_cases h0 : ap = ⟨#[]⟩
  · by_cases hu0 : au = ⟨#[]⟩
    · have e0 := Aside0.mk (isNo_yes h0)
      have e1 := Aside0.mk (isNo_yes hu0)
      subst h0 hu0
      go_wp2_with fail
      refine (specPlainOk_calls al w1 (by omega)).mono ?_
      rintro e w2 ⟨rfl, hb2⟩
      have hb12 := below_then hb1 hb2
      obtain ⟨g0, g1, g2, g3⟩ := K.out _ hb12
      clear d0 d1 d2 d3
      cases hp : plainOk al
      case false =>
        have hfin := Aside0.mk (show attrOk ⟨⟨#[]⟩, al, ⟨#[]⟩, av⟩ = false by rw [hv.out, hp]; simp)
        clear hp
        go_wp2
        go_ret
        exact ⟨by rw [hfin.out]; rfl, below_then HB hb12⟩
      have Hp := Aside0.mk hp
      clear hp
      by_cases hx : al = ⟨#[120, 109, 108, 110, 115]⟩
      · have hfin := Aside0.mk (show attrOk ⟨⟨#[]⟩, al, ⟨#[]⟩, av⟩ = false by rw [hv.out, xmlns_yes hx, e0.out]; simp)
        subst hx
        go_wp2
        go_ret
        exact ⟨by rw [hfin.out]; rfl, below_then HB hb12⟩
      · have ex := Aside0.mk (xmlns_no hx)
        have n1 := str_neL [120, 109, 108, 110, 115] hx
        clear hx
        go_wp2_with fail
        refine (specTextOk_calls av w2 (by omega)).mono ?_
        rintro e w3 ⟨rfl, hb3⟩
        have hb13 := below_then hb12 hb3
        obtain ⟨f0, f1, f2, f3⟩ := K.out _ hb13
        clear g0 g1 g2 g3
        cases ht : textOk av
        case false =>
          have hfin := Aside0.mk (show attrOk ⟨⟨#[]⟩, al, ⟨#[]⟩, av⟩ = false by rw [hv.out, ht]; simp)
          clear ht
          go_wp2
          go_ret
          exact ⟨by rw [hfin.out]; rfl, below_then HB hb13⟩
        have Ht := Aside0.mk ht
        clear ht
        go_wp2_with fail
        refine (specTextOk_calls ⟨#[]⟩ w3 (by omega)).mono ?_
        rintro e w4 ⟨rfl, hb4⟩
        have hb14 := below_then hb13 hb4
        obtain ⟨g0, g1, g2, g3⟩ := K.out _ hb14
        clear f0 f1 f2 f3
        have hfin := Aside0.mk (show attrOk ⟨⟨#[]⟩, al, ⟨#[]⟩, av⟩ = textOk ⟨#[]⟩ by rw [hv.out, hu.out, Hq.out, e0.out, Hp.out, Ht.out, ex.out]; simp; exact fun _ => by decide)
        cases hz : textOk ⟨#[]⟩
        case false =>
          have hfin := Aside0.mk (show attrOk ⟨⟨#[]⟩, al, ⟨#[]⟩, av⟩ = false by rw [hfin.out, hz])
          clear hz
          go_wp2
          go_ret
          exact ⟨by rw [hfin.out]; rfl, below_then HB hb14⟩
        have Hz := Aside0.mk hz
        clear hz
        have hfin2 := Aside0.mk (hfin.out.trans Hz.out)
        go_wp2
        go_ret
        exact ⟨by rw [hfin2.out]; rfl, below_then HB hb14⟩
    · have hfin := Aside0.mk (show attrOk ⟨ap, al, au, av⟩ = false by rw [hv.out, isNo_yes h0, isNo_no hu0]; simp)
      subst h0
      have n1 := str_ne0 hu0
      have n2 := str_neE hu0
      clear hu0
      go_wp2
      go_ret
      exact ⟨by rw [hfin.out]; rfl, below_then HB hb1⟩
  · by_cases hu0 : au = ⟨#[]⟩
    · have hfin := Aside0.mk (show attrOk ⟨ap, al, au, av⟩ = false by rw [hv.out, isNo_yes hu0, isNo_no h0]; simp)
      subst hu0
      have n1 := str_ne0 h0
      have n2 := str_neE h0
      clear h0
      go_wp2
      go_ret
      exact ⟨by rw [hfin.out]; rfl, below_then HB hb1⟩
    · have e0 := Aside0.mk (isNo_no h0)
      have e1 := Aside0.mk (isNo_no hu0)
      have n1 := str_ne0 h0
      have n2 := str_neE h0
      have n3 := str_ne0 hu0
      have n4 := str_neE hu0
      clear h0 hu0
      go_wp2_with fail
      refine (specPlainOk_calls al w1 (by omega)).mono ?_
      rintro e w2 ⟨rfl, hb2⟩
      have hb12 := below_then hb1 hb2
      obtain ⟨g0, g1, g2, g3⟩ := K.out _ hb12
      clear d0 d1 d2 d3
      cases hp : plainOk al
      case false =>
        have hfin := Aside0.mk (show attrOk ⟨ap, al, au, av⟩ = false by rw [hv.out, hp]; simp)
        clear hp
        go_wp2
        go_ret
        exact ⟨by rw [hfin.out]; rfl, below_then HB hb12⟩
      have Hp := Aside0.mk hp
      clear hp
      go_wp2_with fail
      refine (specTextOk_calls av w2 (by omega)).mono ?_
      rintro e w3 ⟨rfl, hb3⟩
      have hb13 := below_then hb12 hb3
      obtain ⟨f0, f1, f2, f3⟩ := K.out _ hb13
      clear g0 g1 g2 g3
      cases ht : textOk av
      case false =>
        have hfin := Aside0.mk (show attrOk ⟨ap, al, au, av⟩ = false by rw [hv.out, ht]; simp)
        clear ht
        go_wp2
        go_ret
        exact ⟨by rw [hfin.out]; rfl, below_then HB hb13⟩
      have Ht := Aside0.mk ht
      clear ht
      go_wp2_with fail
      refine (specTextOk_calls au w3 (by omega)).mono ?_
      rintro e w4 ⟨rfl, hb4⟩
      have hb14 := below_then hb13 hb4
      obtain ⟨g0, g1, g2, g3⟩ := K.out _ hb14
      clear f0 f1 f2 f3
      cases hz : textOk au
      case false =>
        have hfin := Aside0.mk (show attrOk ⟨ap, al, au, av⟩ = false by rw [hv.out, hu.out, hz]; simp)
        clear hz
        go_wp2
        go_ret
        exact ⟨by rw [hfin.out]; rfl, below_then HB hb14⟩
      have Hz := Aside0.mk hz
      clear hz
      have hfin := Aside0.mk (show attrOk ⟨ap, al, au, av⟩ = decide ((au.size : Int) ≤ 40) by rw [hv.out, hu.out, Hq.out, e0.out, e1.out, Hp.out, Ht.out, Hz.out, show decide (au.size ≤ 40) = decide ((au.size : Int) ≤ 40) from decide_eq_decide.2 (by omega)]; simp)
      go_wp2
      go_ret
      exact ⟨by rw [hfin.out]; rfl, below_then HB hb14⟩
theorem implAttrOk_calls (ap al au av : ByteArray) (w : World) (h1 : ap.size ≤ 1000000000) (h2 : al.size ≤ 1000000000) (h3 : au.size ≤ 1000000000) (h4 : av.size ≤ 1000000000) (hE : Env w) :
    Calls Tryz.prog 158 #[.agg #[.string ap, .string al, .string au, .string av]] w fun e w' => e = .returned (.bool (attrOk ⟨ap, al, au, av⟩)) ∧ Below w.heap.size w w' := by
  have hv := Aside0.mk (show attrOk ⟨ap, al, au, av⟩ = (preOk ap && (isNo ap == isNo au) && uriOk au ap && plainOk al && textOk av && (!isNo ap || !isXmlns al)) from rfl)
  obtain ⟨W, hW, HB, hsz, HG⟩ := boxed w #[.string ap, .string al, .string au, .string av] 114
  have K := Aside0.mk (keep4 hsz (box4 HG))
  have HW := Aside0.mk hW
  clear hW
  clear HG
  have HE := Aside0.mk (hE.below HB)
  clear hE
  go_enter Tryz.func158, Tryz.ntmps158
  go_upto_region 1 with fail
  rw [← HW.out]
  obtain ⟨c0, c1, c2, c3⟩ := K.out _ (Below.refl _ _)
  go_wp2_with fail
  refine (implPre_calls ap W h1 HE.out).mono ?_
  rintro e w1 ⟨rfl, hb1⟩
  obtain ⟨d0, d1, d2, d3⟩ := K.out _ hb1
  clear c0 c1 c2 c3
  cases hq : preOk ap
  case false =>
    have hfin := Aside0.mk (show attrOk ⟨ap, al, au, av⟩ = false by rw [hv.out, hq]; rfl)
    clear hq
    go_wp2
    go_ret
    exact ⟨by rw [hfin.out]; rfl, below_then HB hb1⟩
  have Hq := Aside0.mk hq
  clear hq
  have tail : (isNo ap = isNo au) → Aside0 (∀ b, b = (isNo ap == isNo au) → b = true) := fun h => ⟨fun b hb => by rw [hb, h]; simp⟩
  by_cases hm : isNo ap = isNo au
  · have hm' := Aside0.mk hm
    have key : ∀ b : Bool, isNo ap = b → isNo au = b → Aside0 True := fun _ _ _ => ⟨trivial⟩
    clear tail key
    by_cases h0 : ap = ⟨#[]⟩
    · have hu0 : au = ⟨#[]⟩ := by
        by_cases h : au = ⟨#[]⟩
        · exact h
        · rw [isNo_yes h0, isNo_no h] at hm; cases hm
      clear hm
      have e0 := Aside0.mk (isNo_yes h0)
      subst h0 hu0
      go_wp2_with fail
      refine (implUri_calls ⟨#[]⟩ ⟨#[]⟩ w1 h3 (HE.out.below hb1)).mono ?_
      rintro e w2 ⟨rfl, hb2⟩
      have hb12 := below_then hb1 hb2
      obtain ⟨g0, g1, g2, g3⟩ := K.out _ hb12
      clear d0 d1 d2 d3
      cases hu : uriOk ⟨#[]⟩ ⟨#[]⟩
      case false =>
        have hfin := Aside0.mk (show attrOk ⟨⟨#[]⟩, al, ⟨#[]⟩, av⟩ = false by rw [hv.out, hu]; simp)
        clear hu
        go_wp2
        go_ret
        exact ⟨by rw [hfin.out]; rfl, below_then HB hb12⟩
      have Hu := Aside0.mk hu
      clear hu
      go_wp2_with fail
      refine (implPlainOk_calls al w2 (by omega) (HE.out.below hb12)).mono ?_
      rintro e w3 ⟨rfl, hb3⟩
      have hb13 := below_then hb12 hb3
      obtain ⟨f0, f1, f2, f3⟩ := K.out _ hb13
      clear g0 g1 g2 g3
      cases hp : plainOk al
      case false =>
        have hfin := Aside0.mk (show attrOk ⟨⟨#[]⟩, al, ⟨#[]⟩, av⟩ = false by rw [hv.out, hp]; simp)
        clear hp
        go_wp2
        go_ret
        exact ⟨by rw [hfin.out]; rfl, below_then HB hb13⟩
      have Hp := Aside0.mk hp
      clear hp
      go_wp2_with fail
      refine (implTextOk_calls av w3 (by omega) (HE.out.below hb13)).mono ?_
      rintro e w4 ⟨rfl, hb4⟩
      have hb14 := below_then hb13 hb4
      obtain ⟨g0, g1, g2, g3⟩ := K.out _ hb14
      clear f0 f1 f2 f3
      cases ht : textOk av
      case false =>
        have hfin := Aside0.mk (show attrOk ⟨⟨#[]⟩, al, ⟨#[]⟩, av⟩ = false by rw [hv.out, ht]; simp)
        clear ht
        go_wp2
        go_ret
        exact ⟨by rw [hfin.out]; rfl, below_then HB hb14⟩
      have Ht := Aside0.mk ht
      clear ht
      by_cases hx : al = ⟨#[120, 109, 108, 110, 115]⟩
      · have hfin := Aside0.mk (show attrOk ⟨⟨#[]⟩, al, ⟨#[]⟩, av⟩ = false by rw [hv.out, xmlns_yes hx, e0.out]; simp)
        subst hx
        go_wp2
        go_ret
        exact ⟨by rw [hfin.out]; rfl, below_then HB hb14⟩
      · have hfin := Aside0.mk (show attrOk ⟨⟨#[]⟩, al, ⟨#[]⟩, av⟩ = true by rw [hv.out, Hq.out, e0.out, Hp.out, Ht.out, Hu.out, xmlns_no hx]; rfl)
        have n1 := str_neL [120, 109, 108, 110, 115] hx
        clear hx
        go_wp2
        go_ret
        exact ⟨by rw [hfin.out]; rfl, below_then HB hb14⟩
    · have hu0 : ¬ au = ⟨#[]⟩ := fun h => by rw [isNo_yes h, isNo_no h0] at hm; cases hm
      clear hm
      have e0 := Aside0.mk (isNo_no h0)
      have e1 := Aside0.mk (isNo_no hu0)
      have n1 := str_ne0 h0
      have n2 := str_neE h0
      have n3 := str_ne0 hu0
      have n4 := str_neE hu0
      clear h0 hu0
      go_wp2_with fail
      refine (implUri_calls au ap w1 h3 (HE.out.below hb1)).mono ?_
      rintro e w2 ⟨rfl, hb2⟩
      have hb12 := below_then hb1 hb2
      obtain ⟨g0, g1, g2, g3⟩ := K.out _ hb12
      clear d0 d1 d2 d3
      cases hu : uriOk au ap
      case false =>
        have hfin := Aside0.mk (show attrOk ⟨ap, al, au, av⟩ = false by rw [hv.out, hu]; simp)
        clear hu
        go_wp2
        go_ret
        exact ⟨by rw [hfin.out]; rfl, below_then HB hb12⟩
      have Hu := Aside0.mk hu
      clear hu
      go_wp2_with fail
      refine (implPlainOk_calls al w2 (by omega) (HE.out.below hb12)).mono ?_
      rintro e w3 ⟨rfl, hb3⟩
      have hb13 := below_then hb12 hb3
      obtain ⟨f0, f1, f2, f3⟩ := K.out _ hb13
      clear g0 g1 g2 g3
      cases hp : plainOk al
      case false =>
        have hfin := Aside0.mk (show attrOk ⟨ap, al, au, av⟩ = false by rw [hv.out, hp]; simp)
        clear hp
        go_wp2
        go_ret
        exact ⟨by rw [hfin.out]; rfl, below_then HB hb13⟩
      have Hp := Aside0.mk hp
      clear hp
      go_wp2_with fail
      refine (implTextOk_calls av w3 (by omega) (HE.out.below hb13)).mono ?_
      rintro e w4 ⟨rfl, hb4⟩
      have hb14 := below_then hb13 hb4
      obtain ⟨g0, g1, g2, g3⟩ := K.out _ hb14
      clear f0 f1 f2 f3
      cases ht : textOk av
      case false =>
        have hfin := Aside0.mk (show attrOk ⟨ap, al, au, av⟩ = false by rw [hv.out, ht]; simp)
        clear ht
        go_wp2
        go_ret
        exact ⟨by rw [hfin.out]; rfl, below_then HB hb14⟩
      have Ht := Aside0.mk ht
      clear ht
      have hfin := Aside0.mk (show attrOk ⟨ap, al, au, av⟩ = true by rw [hv.out, Hq.out, e0.out, e1.out, Hp.out, Ht.out, Hu.out]; rfl)
      go_wp2
      go_ret
      exact ⟨by rw [hfin.out]; rfl, below_then HB hb14⟩
  · have hfin := Aside0.mk (show attrOk ⟨ap, al, au, av⟩ = false by rw [hv.out, show (isNo ap == isNo au) = false by simpa using hm]; simp)
    clear tail
    by_cases h0 : ap = ⟨#[]⟩
    · have hu0 : ¬ au = ⟨#[]⟩ := fun h => hm (by rw [isNo_yes h, isNo_yes h0])
      clear hm
      subst h0
      have n3 := str_ne0 hu0
      have n4 := str_neE hu0
      clear hu0
      go_wp2
      go_ret
      exact ⟨by rw [hfin.out]; rfl, below_then HB hb1⟩
    · have hu0 : au = ⟨#[]⟩ := by
        by_cases h : au = ⟨#[]⟩
        · exact h
        · exact absurd (by rw [isNo_no h0, isNo_no h]) hm
      clear hm
      subst hu0
      have n3 := str_ne0 h0
      have n4 := str_neE h0
      clear h0
      go_wp2
      go_ret
      exact ⟨by rw [hfin.out]; rfl, below_then HB hb1⟩
theorem l5Less_calls (ap al au av bp bl bu bv : ByteArray) (w : World) :
    Calls Tryz.prog 107 #[.agg #[.string ap, .string al, .string au, .string av], .agg #[.string bp, .string bl, .string bu, .string bv]] w fun e w' => e = .returned (.bool (attrLt ⟨ap, al, au, av⟩ ⟨bp, bl, bu, bv⟩)) ∧ Below w.heap.size w w' := by
  have hv := Aside0.mk (show attrLt ⟨ap, al, au, av⟩ ⟨bp, bl, bu, bv⟩ = (Op.bytesLess au.toList bu.toList || (strB au bu && Op.bytesLess al.toList bl.toList)) from rfl)
  go_enter Tryz.func107, Tryz.ntmps107
  cases hl : Op.bytesLess au.toList bu.toList
  case true =>
    have hfin := Aside0.mk (show attrLt ⟨ap, al, au, av⟩ ⟨bp, bl, bu, bv⟩ = true by rw [hv.out, hl]; rfl)
    go_wp2
    go_ret
    exact ⟨by rw [hfin.out]; rfl, below_alloc (below_alloc (Below.refl _ _) _) _⟩
  by_cases h : au = bu
  · have hfin := Aside0.mk (show attrLt ⟨ap, al, au, av⟩ ⟨bp, bl, bu, bv⟩ = Op.bytesLess al.toList bl.toList by rw [hv.out, hl, strB, decide_eq_true h]; rfl)
    subst h
    go_wp2
    go_ret
    exact ⟨by rw [hfin.out]; rfl, below_alloc (below_alloc (Below.refl _ _) _) _⟩
  · have hfin := Aside0.mk (show attrLt ⟨ap, al, au, av⟩ ⟨bp, bl, bu, bv⟩ = false by rw [hv.out, hl, strB, decide_eq_false h]; rfl)
    have n1 := str_neb h
    clear h
    go_wp2
    go_ret
    exact ⟨by rw [hfin.out]; rfl, below_alloc (below_alloc (Below.refl _ _) _) _⟩
theorem less_cmp : ∀ (a b : List UInt8), Op.bytesLess a b = decide (compareBytes a b < 0)
  | [], [] => by simp [compareBytes, Op.bytesLess]
  | [], _ :: _ => by simp [compareBytes, Op.bytesLess]
  | _ :: _, [] => by simp [compareBytes, Op.bytesLess]
  | a :: l, b :: m => by
    have ih := less_cmp l m
    simp only [compareBytes, Op.bytesLess]
    split
    · rename_i h; simp [h]
    · rename_i h
      split
      · rename_i h2
        simp [h]; rintro rfl; exact absurd h2 h
      · rename_i h2
        have : a = b := UInt8.le_antisymm (UInt8.not_lt.1 h2) (UInt8.not_lt.1 h)
        subst this
        rw [ih]
        simp [h]
theorem cmp_zero : ∀ (a b : List UInt8), compareBytes a b = 0 ↔ a = b
  | [], [] => by simp [compareBytes]
  | [], _ :: _ => by simp [compareBytes]
  | _ :: _, [] => by simp [compareBytes]
  | a :: l, b :: m => by
    have ih := cmp_zero l m
    simp only [compareBytes]
    split
    · rename_i h; simp; rintro rfl; exact absurd h (UInt8.lt_irrefl _)
    · rename_i h
      split
      · rename_i h2; simp; rintro rfl; exact absurd h2 (UInt8.lt_irrefl _)
      · rename_i h2
        have : a = b := UInt8.le_antisymm (UInt8.not_lt.1 h2) (UInt8.not_lt.1 h)
        subst this
        rw [ih]; simp
theorem ltB_cmp (a b : ByteArray) : Op.bytesLess a.toList b.toList = decide (compareBytes a.data.toList b.data.toList < 0) := by rw [less_cmp, ByteArray.toList_eq, ByteArray.toList_eq]
theorem cmp_same {a b : ByteArray} : compareBytes a.data.toList b.data.toList = 0 ↔ a = b := (cmp_zero _ _).trans ⟨str_ext, fun h => by rw [h]⟩
def cmpA (a b : Atr) : Int := if compareBytes a.uri.data.toList b.uri.data.toList = 0 then compareBytes a.loc.data.toList b.loc.data.toList else compareBytes a.uri.data.toList b.uri.data.toList
theorem cmpA_lt (a b : Atr) : attrLt a b = decide (cmpA a b < 0) := by
  unfold attrLt ltB cmpA
  rw [ltB_cmp, ltB_cmp]
  by_cases h : compareBytes a.uri.data.toList b.uri.data.toList = 0
  · rw [if_pos h, h, strB, decide_eq_true (cmp_same.1 h)]; simp
  · rw [if_neg h, strB, decide_eq_false (fun e => h (cmp_same.2 e))]; simp
theorem compareAttrs_calls (ap al au av bp bl bu bv : ByteArray) (w : World) :
    Calls Tryz.prog 159 #[.agg #[.string ap, .string al, .string au, .string av], .agg #[.string bp, .string bl, .string bu, .string bv]] w fun e w' => e = .returned (.int .i64 (cmpA ⟨ap, al, au, av⟩ ⟨bp, bl, bu, bv⟩)) ∧ Below w.heap.size w w' := by
  have hv := Aside0.mk (show cmpA ⟨ap, al, au, av⟩ ⟨bp, bl, bu, bv⟩ = if compareBytes au.data.toList bu.data.toList = 0 then compareBytes al.data.toList bl.data.toList else compareBytes au.data.toList bu.data.toList from rfl)
  go_enter Tryz.func159, Tryz.ntmps159
  go_wp2_with fail
  refine (Tryz.strings_Compare au bu _).mono ?_
  rintro e w1 ⟨rfl, rfl⟩
  by_cases h : compareBytes au.data.toList bu.data.toList = 0
  · have hfin := Aside0.mk (show cmpA ⟨ap, al, au, av⟩ ⟨bp, bl, bu, bv⟩ = compareBytes al.data.toList bl.data.toList by rw [hv.out, if_pos h])
    rw [h]
    clear h
    go_wp2_with fail
    refine (Tryz.strings_Compare al bl _).mono ?_
    rintro e w1 ⟨rfl, rfl⟩
    go_wp2
    go_ret
    exact ⟨by rw [hfin.out]; rfl, below_alloc (below_alloc (Below.refl _ _) _) _⟩
  · have hfin := Aside0.mk (show cmpA ⟨ap, al, au, av⟩ ⟨bp, bl, bu, bv⟩ = compareBytes au.data.toList bu.data.toList by rw [hv.out, if_neg h])
    go_wp2
    go_ret
    exact ⟨by rw [hfin.out]; rfl, below_alloc (below_alloc (Below.refl _ _) _) _⟩
theorem implAttrsOk_calls {ok : Nat → Prop} (A : Option Addr) (c : Nat) (xs : List Atr) (w : World) (hr : Row Kd.atr w ok A xs) (hz : ∀ d ∈ xs, d.pre.size ≤ 1000000000 ∧ d.loc.size ≤ 1000000000 ∧ d.uri.size ≤ 1000000000 ∧ d.val.size ≤ 1000000000) (hE : Env w) :
    Calls Tryz.prog 135 #[.slice A xs.length c] w fun e w' => e = .returned (.bool (attrsOk xs)) ∧ Below w.heap.size w w' := by
  have hmax := hr.max
  have Hz := Aside0.mk hz
  clear hz
  have HE := Aside0.mk hE
  clear hE
  have hv := Aside0.mk (show attrsOk xs = (chain attrOk attrLt none xs && decide (xs.length ≤ 5)) from rfl)
  go_enter Tryz.func135, Tryz.ntmps135
  go_wp2
  go_loopg [7] xs.length (fun k i wr => ∃ (j : Nat), i = .int .i64 j ∧ j + k = xs.length ∧ Aside (chain attrOk attrLt none xs = chain attrOk attrLt (prevOf xs j) (xs.drop j)) ∧ Below w.heap.size w wr)
  case atStart => exact ⟨0, rfl, by omega, rfl, Below.refl _ _⟩
  case round =>
    obtain ⟨j, rfl, hk, ha, hb⟩ := hrel
    by_cases hlt : j < xs.length
    · obtain ⟨b, o, rfl, hbl, d0, d1, d2, d3⟩ := atr_at (hr.below hb) j hlt
      obtain ⟨z0, z1, z2, z3⟩ := Hz.out _ (List.getElem_mem hlt)
      obtain ⟨W, hW, HB, hsz, HG⟩ := boxed wr #[.string (xs[j]'hlt).pre, .string (xs[j]'hlt).loc, .string (xs[j]'hlt).uri, .string (xs[j]'hlt).val] 114
      obtain ⟨g0, g1, g2, g3⟩ := box4 HG
      have G0 := later_cell g0 hsz
      have G1 := later_cell g1 hsz
      have G2 := later_cell g2 hsz
      have G3 := later_cell g3 hsz
      clear HG
      have HW := Aside0.mk hW
      clear hW
      have i1 : (j : Int) < (xs.length : Int) := by omega
      have HC := Aside0.mk (fun x : Later W => implAttrOk_calls (xs[j]'hlt).pre (xs[j]'hlt).loc (xs[j]'hlt).uri (xs[j]'hlt).val x.W z0 z1 z2 z3 ((HE.out.below (below_then hb HB)).below x.h))
      cases hq : attrOk (xs[j]'hlt) with
      | false =>
        have hfin := Aside0.mk (show attrsOk xs = false by rw [hv.out, ha.out, chain_bad hlt hq]; rfl)
        have HC := Aside0.mk (fun x => hq ▸ HC.out x)
        clear hq ha
        go_wp2_with fail
        rw [← HW.out]
        refine wp_region_later (by kernel_rfl) (by kernel_rfl) ?_
        repeat (go_big_quiet_step ((go_at_call 158; exact later_call (HC.out _))))
        refine wpQuiet_nil ?_
        rintro W1 ⟨⟨_, hb1⟩, rfl⟩
        go_wp2
        go_ret
        exact ⟨by rw [hfin.out]; rfl, below_then (below_then hb HB) hb1⟩
      | true =>
        have HC := Aside0.mk (fun x => hq ▸ HC.out x)
        by_cases hj : j = 0
        · subst hj
          have hnx := Aside0.mk (show chain attrOk attrLt none xs = chain attrOk attrLt (prevOf xs 1) (xs.drop 1) by rw [chain_zero hlt, hq, Bool.true_and])
          clear hq ha
          rw [Nat.zero_mul, Nat.add_zero] at d0 d1 d2 d3
          go_wp2_with fail
          rw [← HW.out]
          refine wp_region_later (by kernel_rfl) (by kernel_rfl) ?_
          repeat (go_big_quiet_step ((go_at_call 158; exact later_call (HC.out _))))
          refine wpQuiet_nil ?_
          rintro W1 ⟨⟨_, hb1⟩, rfl⟩
          go_wp2
          go_roundg (gk - 1)
          case measure => omega
          case rel => exact ⟨1, by go_num, by omega, hnx.out, below_then (below_then hb HB) hb1⟩
        · obtain ⟨m, rfl⟩ : ∃ m, j = m + 1 := ⟨j - 1, by omega⟩
          have hst := Aside0.mk (ha.out.trans (chain_succ hlt))
          clear ha hj
          have Hq := Aside0.mk hq
          clear hq
          obtain ⟨b', o', hA, hbl', e0, e1, e2, e3⟩ := atr_at (hr.below hb) m (by omega)
          injection hA with hA
          injection hA with x1 x2
          subst x1 x2
          have E0 := later_cell ((bcell HB).1 _ _ hbl' |>.trans e0) (Nat.lt_of_lt_of_le hbl' HB.size)
          have E1 := later_cell ((bcell HB).1 _ _ hbl' |>.trans e1) (Nat.lt_of_lt_of_le hbl' HB.size)
          have E2 := later_cell ((bcell HB).1 _ _ hbl' |>.trans e2) (Nat.lt_of_lt_of_le hbl' HB.size)
          have E3 := later_cell ((bcell HB).1 _ _ hbl' |>.trans e3) (Nat.lt_of_lt_of_le hbl' HB.size)
          have HC2 := Aside0.mk (fun x : Later W => compareAttrs_calls (xs[m]'(by omega)).pre (xs[m]'(by omega)).loc (xs[m]'(by omega)).uri (xs[m]'(by omega)).val (xs[m + 1]'hlt).pre (xs[m + 1]'hlt).loc (xs[m + 1]'hlt).uri (xs[m + 1]'hlt).val x.W)
          obtain ⟨cm, hcm⟩ : ∃ cm, cm = cmpA (xs[m]'(by omega)) (xs[m + 1]'hlt) := ⟨_, rfl⟩
          have HC2 := Aside0.mk (fun x => hcm ▸ HC2.out x)
          by_cases hl : cm < 0
          · have hnx := Aside0.mk (show chain attrOk attrLt none xs = chain attrOk attrLt (prevOf xs (m + 2)) (xs.drop (m + 2)) by rw [hst.out, cmpA_lt, ← hcm, decide_eq_true hl, Hq.out]; rfl)
            clear hcm
            go_wp2_with fail
            rw [← HW.out]
            refine wp_region_later (by kernel_rfl) (by kernel_rfl) ?_
            repeat (go_big_quiet_step ((first | (go_at_call 158; exact later_call (HC.out _)) | (go_at_call 159; exact later_call (HC2.out _)))))
            refine wpQuiet_nil ?_
            rintro W1 ⟨⟨_, hb1⟩, rfl⟩
            go_wp2
            go_roundg (gk - 1)
            case measure => omega
            case rel => exact ⟨m + 2, by go_num, by omega, hnx.out, below_then (below_then hb HB) hb1⟩
          · have hfin := Aside0.mk (show attrsOk xs = false by rw [hv.out, hst.out, cmpA_lt, ← hcm, decide_eq_false hl, Bool.and_false]; rfl)
            have hl : 0 ≤ cm := by omega
            clear hcm
            go_wp2_with fail
            rw [← HW.out]
            refine wp_region_later (by kernel_rfl) (by kernel_rfl) ?_
            repeat (go_big_quiet_step ((first | (go_at_call 158; exact later_call (HC.out _)) | (go_at_call 159; exact later_call (HC2.out _)))))
            refine wpQuiet_nil ?_
            rintro W1 ⟨⟨_, hb1⟩, rfl⟩
            go_wp2
            go_ret
            exact ⟨by rw [hfin.out]; rfl, below_then (below_then hb HB) hb1⟩
    · have hfin := Aside0.mk (show attrsOk xs = decide ((xs.length : Int) ≤ 5) by rw [hv.out, ha.out, chain_end (by omega), Bool.true_and]; exact decide_eq_decide.2 (by omega))
      clear ha
      go_wp2
      go_ret
      exact ⟨by rw [hfin.out]; rfl, hb⟩
end Go.Proofs.YtpcklgkpjmmakaaGreatDoor
