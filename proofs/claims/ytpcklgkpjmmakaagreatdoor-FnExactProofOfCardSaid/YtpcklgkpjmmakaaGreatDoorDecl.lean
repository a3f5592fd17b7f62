/- DeclOk and what it leans on, of both. -/
import Derived.Test.YtpcklgkpjmmakaaGreatDoorNodeF
import Derived.Test.YtpcklgkpjmmakaaGreatDoorName
namespace Go.Proofs.YtpcklgkpjmmakaaGreatDoor
open Go.RowKit Go.Lib
set_option linter.unusedVariables false
set_option linter.unusedSimpArgs false
set_option maxHeartbeats 1000000
def xmlPre (s : ByteArray) : Bool := Lib.hasPrefix s.data.toList [120, 109, 108]
def isNo (s : ByteArray) : Bool := decide (s.size = 0)
def preOk (s : ByteArray) : Bool := isNo s || (plainOk s && !xmlPre s)
def uriOk (uri pre : ByteArray) : Bool := textOk uri && decide (uri.size ≤ 40) && (!isNo uri || isNo pre)
def declOk (d : Dcl) : Bool := preOk d.pre && uriOk d.uri d.pre
theorem isNo_yes {s : ByteArray} (h : s = ⟨#[]⟩) : isNo s = true := by subst h; rfl
theorem isNo_no {s : ByteArray} (h : ¬ s = ⟨#[]⟩) : isNo s = false := by
  rw [isNo, decide_eq_false_iff_not]
  intro e
  apply h
  apply str_ext
  have := str_size s
  rw [e] at this
  rw [List.length_eq_zero_iff.1 this]
theorem xml_take (s : ByteArray) (h : 3 ≤ s.size) : ((s.extract 0 3).toList == [120, 109, 108]) = xmlPre s := by
  rw [ByteArray.toList_eq, Lib.extract_data, List.drop_zero]
  unfold xmlPre Lib.hasPrefix
  have hl : 3 ≤ s.data.toList.length := by rw [str_size]; exact h
  generalize s.data.toList = l at *
  match l, hl with
  | a :: b :: c :: r, _ =>
    simp only [List.take_succ_cons, List.take_zero, Nat.sub_zero]
    rw [Bool.eq_iff_iff]
    simp [List.isPrefixOf]
    constructor
    · rintro ⟨rfl, rfl, rfl⟩; exact ⟨rfl, rfl, rfl⟩
    · rintro ⟨rfl, rfl, rfl⟩; exact ⟨rfl, rfl, rfl⟩
theorem xml_short (s : ByteArray) (h : s.size < 3) : xmlPre s = false := by
  unfold xmlPre Lib.hasPrefix
  have hl : s.data.toList.length < 3 := by rw [str_size]; exact h
  generalize s.data.toList = l at *
  match l, hl with
  | [], _ => rfl
  | [a], _ => simp [List.isPrefixOf]
  | [a, b], _ => simp [List.isPrefixOf]
  | a :: b :: c :: r, h => simp at h; omega
theorem l4Xml_calls (s : ByteArray) (w : World) : Calls Tryz.prog 186 #[.string s] w fun e w' => e = .returned (.bool (xmlPre s)) ∧ w = w' := by
  go_enter Tryz.func186, Tryz.ntmps186
  by_cases h : 3 ≤ s.size
  · have hx := Aside0.mk (xml_take s h)
    go_wp2
    go_ret
    exact ⟨by rw [← hx.out]; rfl, rfl⟩
  · have hfin := Aside0.mk (xml_short s (by omega))
    go_wp2
    go_ret
    exact ⟨by rw [hfin.out]; rfl, rfl⟩
theorem specPre_calls (s : ByteArray) (w : World) (hs : s.size ≤ 1000000000) : Calls Tryz.prog 164 #[.string s] w fun e w' => e = .returned (.bool (preOk s)) ∧ Below w.heap.size w w' := by
  go_enter Tryz.func164, Tryz.ntmps164
  by_cases h0 : s = ⟨#[]⟩
  · have hfin := Aside0.mk (show preOk s = true by rw [preOk, isNo_yes h0]; rfl)
    subst h0
    go_wp2
    go_ret
    exact ⟨by rw [hfin.out]; rfl, Below.refl _ _⟩
  · have hv := Aside0.mk (show preOk s = (plainOk s && !xmlPre s) by rw [preOk, isNo_no h0]; rfl)
    have n1 := str_ne0 h0
    have n2 := str_neE h0
    clear h0
    go_wp2_with fail
    refine (specPlainOk_calls s w (by omega)).mono ?_
    rintro e w1 ⟨rfl, hb1⟩
    cases hp : plainOk s with
    | false =>
      have hfin := Aside0.mk (show preOk s = false by rw [hv.out, hp]; rfl)
      clear hp
      go_wp2
      go_ret
      exact ⟨by rw [hfin.out]; rfl, hb1⟩
    | true =>
      have hfin := Aside0.mk (show preOk s = !xmlPre s by rw [hv.out, hp]; rfl)
      clear hp
      go_wp2_with fail
      refine (l4Xml_calls s w1).mono ?_
      rintro e w2 ⟨rfl, rfl⟩
      go_wp2
      go_ret
      exact ⟨by rw [hfin.out]; rfl, hb1⟩
theorem implPre_calls (s : ByteArray) (w : World) (hs : s.size ≤ 1000000000) (hE : Env w) : Calls Tryz.prog 131 #[.string s] w fun e w' => e = .returned (.bool (preOk s)) ∧ Below w.heap.size w w' := by
  have HE := Aside0.mk hE
  clear hE
  go_enter Tryz.func131, Tryz.ntmps131
  by_cases h0 : s = ⟨#[]⟩
  · have hfin := Aside0.mk (show preOk s = true by rw [preOk, isNo_yes h0]; rfl)
    subst h0
    go_wp2
    go_ret
    exact ⟨by rw [hfin.out]; rfl, Below.refl _ _⟩
  · have hv := Aside0.mk (show preOk s = (plainOk s && !xmlPre s) by rw [preOk, isNo_no h0]; rfl)
    have n1 := str_ne0 h0
    have n2 := str_neE h0
    clear h0
    go_wp2_with fail
    refine (implPlainOk_calls s w (by omega) HE.out).mono ?_
    rintro e w1 ⟨rfl, hb1⟩
    cases hp : plainOk s with
    | false =>
      have hfin := Aside0.mk (show preOk s = false by rw [hv.out, hp]; rfl)
      clear hp
      go_wp2
      go_ret
      exact ⟨by rw [hfin.out]; rfl, hb1⟩
    | true =>
      have hfin := Aside0.mk (show preOk s = !xmlPre s by rw [hv.out, hp]; rfl)
      clear hp
      go_wp2_with fail
      refine (Tryz.strings_HasPrefix s ⟨#[120, 109, 108]⟩ w1).mono ?_
      rintro e w2 ⟨rfl, rfl⟩
      go_wp2
      go_ret
      exact ⟨by rw [hfin.out]; rfl, hb1⟩
theorem implUri_calls (uri pre : ByteArray) (w : World) (hs : uri.size ≤ 1000000000) (hE : Env w) : Calls Tryz.prog 132 #[.string uri, .string pre] w fun e w' => e = .returned (.bool (uriOk uri pre)) ∧ Below w.heap.size w w' := by
  have HE := Aside0.mk hE
  clear hE
  go_enter Tryz.func132, Tryz.ntmps132
  go_wp2_with fail
  refine (implTextOk_calls uri w (by omega) HE.out).mono ?_
  rintro e w1 ⟨rfl, hb1⟩
  cases ht : textOk uri with
  | false =>
    have hfin := Aside0.mk (show uriOk uri pre = false by rw [uriOk, ht]; rfl)
    clear ht
    go_wp2
    go_ret
    exact ⟨by rw [hfin.out]; rfl, hb1⟩
  | true =>
    by_cases h4 : uri.size ≤ 40
    · have hv := Aside0.mk (show uriOk uri pre = (!isNo uri || isNo pre) by rw [uriOk, ht, decide_eq_true h4]; rfl)
      clear ht
      by_cases h0 : uri = ⟨#[]⟩
      · by_cases h1 : pre = ⟨#[]⟩
        · have hfin := Aside0.mk (show uriOk uri pre = true by rw [hv.out, isNo_yes h0, isNo_yes h1]; rfl)
          clear hv
          subst h0 h1
          go_wp2
          go_ret
          exact ⟨by rw [hfin.out]; rfl, hb1⟩
        · have hfin := Aside0.mk (show uriOk uri pre = false by rw [hv.out, isNo_yes h0, isNo_no h1]; rfl)
          have n1 := str_ne0 h1
          have n2 := str_neE h1
          clear hv h1
          subst h0
          go_wp2
          go_ret
          exact ⟨by rw [hfin.out]; rfl, hb1⟩
      · have hfin := Aside0.mk (show uriOk uri pre = true by rw [hv.out, isNo_no h0]; rfl)
        have n1 := str_ne0 h0
        have n2 := str_neE h0
        clear hv h0
        go_wp2
        go_ret
        exact ⟨by rw [hfin.out]; rfl, hb1⟩
    · have hfin := Aside0.mk (show uriOk uri pre = false by rw [uriOk, decide_eq_false h4, Bool.and_false]; rfl)
      clear ht
      go_wp2
      go_ret
      exact ⟨by rw [hfin.out]; rfl, hb1⟩
theorem specDeclOk_calls (d : Dcl) (w : World) (h1 : d.pre.size ≤ 1000000000) (h2 : d.uri.size ≤ 1000000000) :
    Calls Tryz.prog 191 #[.agg #[.string d.pre, .string d.uri]] w fun e w' => e = .returned (.bool (declOk d)) ∧ Below w.heap.size w w' := by
  obtain ⟨W, hW, HB, hsz, HG⟩ := boxed w #[.string d.pre, .string d.uri] 122
  have c0 := cell_of_row W w.heap.size 0 _ _ _ HG
  have c1 := cell_of_row W w.heap.size 1 _ _ _ HG
  simp only [List.getElem?_toArray, List.getElem?_cons_zero, List.getElem?_cons_succ] at c0 c1
  have HW := Aside0.mk hW
  clear hW HG
  go_enter Tryz.func191, Tryz.ntmps191
  go_upto_region 1 with fail
  rw [← HW.out]
  -- what is left when the part ahead is right
  have key : ∀ (W1 : World), Below W.heap.size W W1 → W1.cell? ⟨w.heap.size, 1, none⟩ = some (.string d.uri) := fun W1 hb => ((bcell hb).1 _ 1 hsz).trans c1
  have key0 : ∀ (W1 : World), Below W.heap.size W W1 → W1.cell? ⟨w.heap.size, 0, none⟩ = some (.string d.pre) := fun W1 hb => ((bcell hb).1 _ 0 hsz).trans c0
  have K1 := Aside0.mk key
  have K0 := Aside0.mk key0
  clear key key0
  by_cases h0 : d.pre = ⟨#[]⟩
  · have hv := Aside0.mk (show declOk d = (textOk d.uri && decide (d.uri.size ≤ 40)) by rw [declOk, preOk, uriOk, isNo_yes h0]; simp)
    rw [h0] at c0
    go_wp2_with fail
    refine (specTextOk_calls d.uri W (by omega)).mono ?_
    rintro e w1 ⟨rfl, hb1⟩
    have k1 := K1.out _ hb1
    cases ht : textOk d.uri with
    | false =>
      have hfin := Aside0.mk (show declOk d = false by rw [hv.out, ht]; rfl)
      clear ht
      go_wp2
      go_ret
      exact ⟨by rw [hfin.out]; rfl, below_then HB hb1⟩
    | true =>
      have hfin := Aside0.mk (show decide ((d.uri.size : Int) ≤ 40) = declOk d by rw [hv.out, ht, Bool.true_and]; exact decide_eq_decide.2 (by omega))
      clear ht
      go_wp2
      go_ret
      exact ⟨by rw [← hfin.out]; rfl, below_then HB hb1⟩
  · have n1 := str_ne0 h0
    have n2 := str_neE h0
    have hn := Aside0.mk (isNo_no h0)
    clear h0
    go_wp2_with fail
    refine (specPlainOk_calls d.pre W (by omega)).mono ?_
    rintro e w1 ⟨rfl, hb1⟩
    have k1 := K1.out _ hb1
    have k0 := K0.out _ hb1
    cases hp : plainOk d.pre with
    | false =>
      have hfin := Aside0.mk (show declOk d = false by rw [declOk, preOk, hn.out, hp]; rfl)
      clear hp
      go_wp2
      go_ret
      exact ⟨by rw [hfin.out]; rfl, below_then HB hb1⟩
    | true =>
      have HP := Aside0.mk hp
      clear hp
      go_wp2_with fail
      refine (l4Xml_calls d.pre w1).mono ?_
      rintro e w2 ⟨rfl, rfl⟩
      cases hx : xmlPre d.pre with
      | true =>
        have hfin := Aside0.mk (show declOk d = false by rw [declOk, preOk, hn.out, HP.out, hx]; rfl)
        clear hx
        go_wp2
        go_ret
        exact ⟨by rw [hfin.out]; rfl, below_then HB hb1⟩
      | false =>
        have HX := Aside0.mk hx
        clear hx
        by_cases h3 : d.uri = ⟨#[]⟩
        · have hfin := Aside0.mk (show declOk d = false by rw [declOk, uriOk, isNo_yes h3, hn.out]; simp)
          rw [h3] at k1 c1
          go_wp2
          go_ret
          exact ⟨by rw [hfin.out]; rfl, below_then HB hb1⟩
        · have hv := Aside0.mk (show declOk d = (textOk d.uri && decide (d.uri.size ≤ 40)) by rw [declOk, preOk, uriOk, hn.out, HP.out, HX.out, isNo_no h3]; simp)
          have n3 := str_ne0 h3
          have n4 := str_neE h3
          clear h3
          go_wp2_with fail
          refine (specTextOk_calls d.uri w1 (by omega)).mono ?_
          rintro e w3 ⟨rfl, hb3⟩
          have hb13 := below_then hb1 hb3
          have j1 := K1.out _ hb13
          cases ht : textOk d.uri with
          | false =>
            have hfin := Aside0.mk (show declOk d = false by rw [hv.out, ht]; rfl)
            clear ht
            go_wp2
            go_ret
            exact ⟨by rw [hfin.out]; rfl, below_then HB hb13⟩
          | true =>
            have hfin := Aside0.mk (show decide ((d.uri.size : Int) ≤ 40) = declOk d by rw [hv.out, ht, Bool.true_and]; exact decide_eq_decide.2 (by omega))
            clear ht
            go_wp2
            go_ret
            exact ⟨by rw [← hfin.out]; rfl, below_then HB hb13⟩
theorem implDeclOk_calls (d : Dcl) (w : World) (h1 : d.pre.size ≤ 1000000000) (h2 : d.uri.size ≤ 1000000000) (hE : Env w) :
    Calls Tryz.prog 157 #[.agg #[.string d.pre, .string d.uri]] w fun e w' => e = .returned (.bool (declOk d)) ∧ Below w.heap.size w w' := by
  obtain ⟨W, hW, HB, hsz, HG⟩ := boxed w #[.string d.pre, .string d.uri] 122
  have HE := Aside0.mk (hE.below HB)
  clear hE
  have c0 := cell_of_row W w.heap.size 0 _ _ _ HG
  have c1 := cell_of_row W w.heap.size 1 _ _ _ HG
  simp only [List.getElem?_toArray, List.getElem?_cons_zero, List.getElem?_cons_succ] at c0 c1
  have HW := Aside0.mk hW
  clear hW HG
  go_enter Tryz.func157, Tryz.ntmps157
  go_upto_region 1 with fail
  rw [← HW.out]
  go_wp2_with fail
  refine (implPre_calls d.pre W h1 HE.out).mono ?_
  rintro e w1 ⟨rfl, hb1⟩
  have k1 := ((bcell hb1).1 _ 1 hsz).trans c1
  have k0 := ((bcell hb1).1 _ 0 hsz).trans c0
  cases hp : preOk d.pre with
  | false =>
    have hfin := Aside0.mk (show declOk d = false by rw [declOk, hp]; rfl)
    clear hp
    go_wp2
    go_ret
    exact ⟨by rw [hfin.out]; rfl, below_then HB hb1⟩
  | true =>
    have hfin := Aside0.mk (show declOk d = uriOk d.uri d.pre by rw [declOk, hp]; rfl)
    clear hp
    go_wp2_with fail
    refine (implUri_calls d.uri d.pre w1 h2 (HE.out.below hb1)).mono ?_
    rintro e w2 ⟨rfl, hb2⟩
    go_wp2
    go_ret
    exact ⟨by rw [hfin.out]; rfl, below_then HB (below_then hb1 hb2)⟩
end Go.Proofs.YtpcklgkpjmmakaaGreatDoor
