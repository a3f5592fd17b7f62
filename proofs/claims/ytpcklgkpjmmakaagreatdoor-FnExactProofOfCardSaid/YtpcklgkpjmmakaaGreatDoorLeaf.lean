/- Leaves: noteOk, toldOk, leafOk of the program. -/
import Derived.Test.YtpcklgkpjmmakaaGreatDoorFold
import Derived.Test.YtpcklgkpjmmakaaGreatDoorAttr
namespace Go.Proofs.YtpcklgkpjmmakaaGreatDoor
open Go.RowKit Go.Lib
set_option linter.unusedVariables false
set_option linter.unusedSimpArgs false
set_option maxHeartbeats 4000000
set_option maxRecDepth 20000
theorem implNoteOk_calls (s : ByteArray) (w : World) (hs : s.size ≤ 1000000000) (hE : Env w) :
    Calls Tryz.prog 151 #[.string s] w fun e w' => e = .returned (.bool (noteOk s)) ∧ Below w.heap.size w w' := by
  have hv := Aside0.mk (show noteOk s = (textOk s && !hasB s [45, 45] && !hasSuffix s.data.toList [45] && !hasB s [13]) from rfl)
  have HE := Aside0.mk hE
  clear hE
  obtain ⟨m, hm⟩ := HE.out.len
  have hm := Aside0.mk hm
  go_enter Tryz.func151, Tryz.ntmps151
  go_wp2_with fail
  refine (implTextOk_calls s w (by omega) HE.out).mono ?_
  rintro e w1 ⟨rfl, hb1⟩
  cases ht : textOk s
  case false =>
    have hfin := Aside0.mk (show noteOk s = false by rw [hv.out, ht]; rfl)
    clear ht
    go_wp2
    go_ret
    exact ⟨by rw [hfin.out]; rfl, hb1⟩
  have Ht := Aside0.mk ht
  clear ht
  go_wp2_with fail
  refine (Tryz.strings_Contains s ⟨#[45, 45]⟩ m w1 (by omega) ((hb1.cell (p := ⟨5, 0, none⟩) (World.block_lt_of_cell? w _ hm.out)).trans hm.out)).mono ?_
  rintro e w2 ⟨rfl, rfl⟩
  rw [show contains s.data.toList (⟨#[45, 45]⟩ : ByteArray).data.toList = hasB s [45, 45] from rfl]
  cases hc : hasB s [45, 45]
  case true =>
    have hfin := Aside0.mk (show noteOk s = false by rw [hv.out, hc]; simp)
    clear hc
    go_wp2
    go_ret
    exact ⟨by rw [hfin.out]; rfl, hb1⟩
  have Hc := Aside0.mk hc
  clear hc
  go_wp2_with fail
  refine (Tryz.strings_HasSuffix s ⟨#[45]⟩ _ (by omega)).mono ?_
  rintro e w2 ⟨rfl, rfl⟩
  rw [show hasSuffix s.data.toList (⟨#[45]⟩ : ByteArray).data.toList = hasSuffix s.data.toList [45] from rfl]
  cases hf : hasSuffix s.data.toList [45]
  case true =>
    have hfin := Aside0.mk (show noteOk s = false by rw [hv.out, hf]; simp)
    clear hf
    go_wp2
    go_ret
    exact ⟨by rw [hfin.out]; rfl, hb1⟩
  have Hf := Aside0.mk hf
  clear hf
  go_wp2_with fail
  refine (Tryz.strings_Contains s ⟨#[13]⟩ m _ (by omega) ((hb1.cell (p := ⟨5, 0, none⟩) (World.block_lt_of_cell? w _ hm.out)).trans hm.out)).mono ?_
  rintro e w2 ⟨rfl, rfl⟩
  rw [show contains s.data.toList (⟨#[13]⟩ : ByteArray).data.toList = hasB s [13] from rfl]
  cases hg : hasB s [13]
  case true =>
    have hfin := Aside0.mk (show noteOk s = false by rw [hv.out, hg]; simp)
    clear hg
    go_wp2
    go_ret
    exact ⟨by rw [hfin.out]; rfl, hb1⟩
  have Hg := Aside0.mk hg
  clear hg
  have hfin := Aside0.mk (show noteOk s = true by rw [hv.out, Ht.out, Hc.out, Hf.out, Hg.out]; rfl)
  go_wp2
  go_ret
  exact ⟨by rw [hfin.out]; rfl, hb1⟩
def blank0 (s : ByteArray) : Bool := match s.data.toList with | [] => false | b :: _ => isBlank b.toNat
theorem blank0_no : blank0 ⟨#[]⟩ = false := rfl
theorem blank0_at (s : ByteArray) (h : 0 < s.size) : blank0 s = isBlank ((s[0]'h).toNat : Int) := by
  have := str_get s 0 h
  unfold blank0
  generalize s.data.toList = l at this
  cases l with
  | nil => simp at this
  | cons a l => simp at this; rw [← this]
theorem implToldOk_calls (loc s : ByteArray) (w : World) (hl : loc.size ≤ 1000000000) (hs : s.size ≤ 1000000000) (hE : Env w) (hF : Folds w) :
    Calls Tryz.prog 152 #[.string loc, .string s] w fun e w' => e = .returned (.bool (toldOk loc s)) ∧ Below w.heap.size w w' := by
  have hv := Aside0.mk (show toldOk loc s = (plainOk loc && !isXml loc && textOk s && !hasB s [63, 62] && !hasB s [13] && !blank0 s) from rfl)
  have HE := Aside0.mk hE
  have HF := Aside0.mk hF
  clear hE hF
  obtain ⟨m, hm⟩ := HE.out.len
  have hm := Aside0.mk hm
  go_enter Tryz.func152, Tryz.ntmps152
  go_wp2_with fail
  refine (implPlainOk_calls loc w (by omega) HE.out).mono ?_
  rintro e w1 ⟨rfl, hb1⟩
  cases hp : plainOk loc
  case false =>
    have hfin := Aside0.mk (show toldOk loc s = false by rw [hv.out, hp]; rfl)
    clear hp
    go_wp2
    go_ret
    exact ⟨by rw [hfin.out]; rfl, hb1⟩
  have Hp := Aside0.mk hp
  clear hp
  go_wp2_with fail
  refine (foldXml_calls loc w1 (by omega) (HF.out.below hb1)).mono ?_
  rintro e w2 ⟨rfl, hb2⟩
  have hb12 := below_then hb1 hb2
  cases hx : isXml loc
  case true =>
    have hfin := Aside0.mk (show toldOk loc s = false by rw [hv.out, hx]; simp)
    clear hx
    go_wp2
    go_ret
    exact ⟨by rw [hfin.out]; rfl, hb12⟩
  have Hx := Aside0.mk hx
  clear hx
  go_wp2_with fail
  refine (implTextOk_calls s w2 (by omega) (HE.out.below hb12)).mono ?_
  rintro e w3 ⟨rfl, hb3⟩
  have hb13 := below_then hb12 hb3
  cases ht : textOk s
  case false =>
    have hfin := Aside0.mk (show toldOk loc s = false by rw [hv.out, ht]; simp)
    clear ht
    go_wp2
    go_ret
    exact ⟨by rw [hfin.out]; rfl, hb13⟩
  have Ht := Aside0.mk ht
  clear ht
  go_wp2_with fail
  refine (Tryz.strings_Contains s ⟨#[63, 62]⟩ m _ (by omega) ((hb13.cell (p := ⟨5, 0, none⟩) (World.block_lt_of_cell? w _ hm.out)).trans hm.out)).mono ?_
  rintro e w4 ⟨rfl, rfl⟩
  rw [show contains s.data.toList (⟨#[63, 62]⟩ : ByteArray).data.toList = hasB s [63, 62] from rfl]
  cases hc : hasB s [63, 62]
  case true =>
    have hfin := Aside0.mk (show toldOk loc s = false by rw [hv.out, hc]; simp)
    clear hc
    go_wp2
    go_ret
    exact ⟨by rw [hfin.out]; rfl, hb13⟩
  have Hc := Aside0.mk hc
  clear hc
  go_wp2_with fail
  refine (Tryz.strings_Contains s ⟨#[13]⟩ m _ (by omega) ((hb13.cell (p := ⟨5, 0, none⟩) (World.block_lt_of_cell? w _ hm.out)).trans hm.out)).mono ?_
  rintro e w4 ⟨rfl, rfl⟩
  rw [show contains s.data.toList (⟨#[13]⟩ : ByteArray).data.toList = hasB s [13] from rfl]
  cases hg : hasB s [13]
  case true =>
    have hfin := Aside0.mk (show toldOk loc s = false by rw [hv.out, hg]; simp)
    clear hg
    go_wp2
    go_ret
    exact ⟨by rw [hfin.out]; rfl, hb13⟩
  have Hg := Aside0.mk hg
  clear hg
  by_cases h0 : s = ⟨#[]⟩
  · have hfin := Aside0.mk (show toldOk loc s = true by rw [hv.out, Hp.out, Hx.out, Ht.out, Hc.out, Hg.out, h0, blank0_no]; rfl)
    subst h0
    go_wp2
    go_ret
    exact ⟨by rw [hfin.out]; rfl, hb13⟩
  · have n1 := str_ne0 h0
    have n2 := str_neE h0
    have hz : 0 < s.size := by
      rcases Nat.eq_zero_or_pos s.size with h | h
      · exact absurd (str_ext (by rw [show s.data.toList = [] from List.length_eq_zero_iff.1 (by rw [str_size]; exact h)])) h0
      · exact h
    have hfin := Aside0.mk (show toldOk loc s = !isBlank ((s[0]'hz).toNat : Int) by rw [hv.out, Hp.out, Hx.out, Ht.out, Hc.out, Hg.out, blank0_at s hz]; rfl)
    have hu : (s[0]'hz).toNat < 256 := UInt8.toNat_lt _
    clear h0
    go_wp2_with fail
    refine (implIsBlank_calls _ _).mono ?_
    rintro e w5 ⟨rfl, rfl⟩
    go_wp2
    go_ret
    exact ⟨by rw [hfin.out]; rfl, hb13⟩
theorem implLeafOk_calls (kind : Int) (pre loc uri : ByteArray) (decls : List Dcl) (attrs : List Atr) (kids : List Nd) (text : ByteArray) (s : Sh) (w : World) (h1 : loc.size ≤ 1000000000) (h2 : text.size ≤ 1000000000) (hm1 : decls.length ≤ 9223372036854775807) (hm2 : attrs.length ≤ 9223372036854775807) (hm3 : kids.length ≤ 9223372036854775807) (hE : Env w) (hF : Folds w) :
    Calls Tryz.prog 130 #[.agg #[.int .i64 kind, .string pre, .string loc, .string uri, .slice s.Ad decls.length s.cd, .slice s.Aa attrs.length s.ca, .slice s.Ak kids.length s.ck, .string text]] w
      fun e w' => e = .returned (.bool (leafOk ⟨kind, pre, loc, uri, decls, attrs, kids, text⟩)) ∧ Below w.heap.size w w' := by
  have hv := Aside0.mk (show leafOk ⟨kind, pre, loc, uri, decls, attrs, kids, text⟩ = (isNo pre && isNo uri && decls.isEmpty && attrs.isEmpty && kids.isEmpty && (if kind = 2 then isNo loc && !isNo text && textOk text else if kind = 3 then isNo loc && noteOk text else if kind = 4 then toldOk loc text else false)) from rfl)
  obtain ⟨W, hW, HB, hsz, HG⟩ := boxed w #[.int .i64 kind, .string pre, .string loc, .string uri, .slice s.Ad decls.length s.cd, .slice s.Aa attrs.length s.ca, .slice s.Ak kids.length s.ck, .string text] 28
  have HE := Aside0.mk (hE.below HB)
  have HF := Aside0.mk (hF.below HB)
  clear hE hF
  have HW := Aside0.mk hW
  clear hW
  obtain ⟨c0, c1, c2, c3, c4, c5, c6, c7⟩ := box_cells HG
  clear HG
  go_enter Tryz.func130, Tryz.ntmps130
  go_upto_region 1 with fail
  rw [← HW.out]
  by_cases p1 : pre = ⟨#[]⟩
  case neg =>
    have hfin := Aside0.mk (show leafOk ⟨kind, pre, loc, uri, decls, attrs, kids, text⟩ = false by rw [hv.out, isNo_no p1]; rfl)
    have n1 := str_ne0 p1
    have n2 := str_neE p1
    clear p1
    go_wp2
    go_ret
    exact ⟨by rw [hfin.out]; rfl, HB⟩
  subst p1
  by_cases p2 : uri = ⟨#[]⟩
  case neg =>
    have hfin := Aside0.mk (show leafOk ⟨kind, ⟨#[]⟩, loc, uri, decls, attrs, kids, text⟩ = false by rw [hv.out, isNo_no p2]; simp)
    have n1 := str_ne0 p2
    have n2 := str_neE p2
    clear p2
    go_wp2
    go_ret
    exact ⟨by rw [hfin.out]; rfl, HB⟩
  subst p2
  by_cases p3 : decls = []
  case neg =>
    have hfin := Aside0.mk (show leafOk ⟨kind, ⟨#[]⟩, loc, ⟨#[]⟩, decls, attrs, kids, text⟩ = false by rw [hv.out, show decls.isEmpty = false by simpa using p3]; simp)
    have n1 : 0 < decls.length := List.length_pos_iff.2 p3
    have n2 : ((decls.length : Int) == 0) = false := by simp; exact p3
    clear p3
    go_wp2
    go_ret
    exact ⟨by rw [hfin.out]; rfl, HB⟩
  subst p3
  by_cases p4 : attrs = []
  case neg =>
    have hfin := Aside0.mk (show leafOk ⟨kind, ⟨#[]⟩, loc, ⟨#[]⟩, [], attrs, kids, text⟩ = false by rw [hv.out, show attrs.isEmpty = false by simpa using p4]; simp)
    have n1 : 0 < attrs.length := List.length_pos_iff.2 p4
    have n2 : ((attrs.length : Int) == 0) = false := by simp; exact p4
    clear p4
    go_wp2
    go_ret
    exact ⟨by rw [hfin.out]; rfl, HB⟩
  subst p4
  by_cases p5 : kids = []
  case neg =>
    have hfin := Aside0.mk (show leafOk ⟨kind, ⟨#[]⟩, loc, ⟨#[]⟩, [], [], kids, text⟩ = false by rw [hv.out, show kids.isEmpty = false by simpa using p5]; simp)
    have n1 : 0 < kids.length := List.length_pos_iff.2 p5
    have n2 : ((kids.length : Int) == 0) = false := by simp; exact p5
    clear p5
    go_wp2
    go_ret
    exact ⟨by rw [hfin.out]; rfl, HB⟩
  subst p5
  have hv2 := Aside0.mk (show leafOk ⟨kind, ⟨#[]⟩, loc, ⟨#[]⟩, [], [], [], text⟩ = (if kind = 2 then isNo loc && !isNo text && textOk text else if kind = 3 then isNo loc && noteOk text else if kind = 4 then toldOk loc text else false) by rw [hv.out, show isNo (⟨#[]⟩ : ByteArray) = true from rfl]; rfl)
  by_cases k4 : kind = 4
  · have hv3 := Aside0.mk (show leafOk ⟨kind, ⟨#[]⟩, loc, ⟨#[]⟩, [], [], [], text⟩ = toldOk loc text by rw [hv2.out, k4]; simp)
    subst k4
    by_cases h0 : loc = ⟨#[]⟩
    · subst h0
      go_wp2_with fail
      refine (implToldOk_calls ⟨#[]⟩ text W h1 h2 HE.out HF.out).mono ?_
      rintro e w1 ⟨rfl, hb1⟩
      go_wp2
      go_ret
      exact ⟨by rw [hv3.out]; rfl, below_then HB hb1⟩
    · have n1 := str_ne0 h0
      have n2 := str_neE h0
      clear h0
      go_wp2_with fail
      refine (implToldOk_calls loc text W h1 h2 HE.out HF.out).mono ?_
      rintro e w1 ⟨rfl, hb1⟩
      go_wp2
      go_ret
      exact ⟨by rw [hv3.out]; rfl, below_then HB hb1⟩
  by_cases p6 : loc = ⟨#[]⟩
  case neg =>
    have hfin := Aside0.mk (show leafOk ⟨kind, ⟨#[]⟩, loc, ⟨#[]⟩, [], [], [], text⟩ = false by rw [hv2.out, isNo_no p6, if_neg k4]; simp)
    have n1 := str_ne0 p6
    have n2 := str_neE p6
    clear p6
    go_wp2
    go_ret
    exact ⟨by rw [hfin.out]; rfl, HB⟩
  subst p6
  by_cases k2 : kind = 2
  · have hv3 := Aside0.mk (show leafOk ⟨kind, ⟨#[]⟩, ⟨#[]⟩, ⟨#[]⟩, [], [], [], text⟩ = (!isNo text && textOk text) by rw [hv2.out, if_pos k2, show isNo (⟨#[]⟩ : ByteArray) = true from rfl]; rfl)
    subst k2
    by_cases h0 : text = ⟨#[]⟩
    · have hfin := Aside0.mk (show leafOk ⟨2, ⟨#[]⟩, ⟨#[]⟩, ⟨#[]⟩, [], [], [], text⟩ = false by rw [hv3.out, isNo_yes h0]; rfl)
      subst h0
      go_wp2
      go_ret
      exact ⟨by rw [hfin.out]; rfl, HB⟩
    · have hfin := Aside0.mk (show leafOk ⟨2, ⟨#[]⟩, ⟨#[]⟩, ⟨#[]⟩, [], [], [], text⟩ = textOk text by rw [hv3.out, isNo_no h0]; rfl)
      have n1 := str_ne0 h0
      have n2 := str_neE h0
      clear h0
      go_wp2_with fail
      refine (implTextOk_calls text W (by omega) HE.out).mono ?_
      rintro e w1 ⟨rfl, hb1⟩
      go_wp2
      go_ret
      exact ⟨by rw [hfin.out]; rfl, below_then HB hb1⟩
  by_cases k3 : kind = 3
  · have hv3 := Aside0.mk (show leafOk ⟨kind, ⟨#[]⟩, ⟨#[]⟩, ⟨#[]⟩, [], [], [], text⟩ = noteOk text by rw [hv2.out, if_neg k2, if_pos k3, show isNo (⟨#[]⟩ : ByteArray) = true from rfl]; rfl)
    subst k3
    go_wp2_with fail
    refine (implNoteOk_calls text W h2 HE.out).mono ?_
    rintro e w1 ⟨rfl, hb1⟩
    go_wp2
    go_ret
    exact ⟨by rw [hv3.out]; rfl, below_then HB hb1⟩
  have hfin := Aside0.mk (show leafOk ⟨kind, ⟨#[]⟩, ⟨#[]⟩, ⟨#[]⟩, [], [], [], text⟩ = false by rw [hv2.out, if_neg k2, if_neg k3, if_neg k4])
  go_wp2
  go_ret
  exact ⟨by rw [hfin.out]; rfl, HB⟩
end Go.Proofs.YtpcklgkpjmmakaaGreatDoor
