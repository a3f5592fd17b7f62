/- Joined: WritePl, SWrite. -/
import Derived.Test.YtpcklgkpjmmakaaGreatDoorSNodeOk
import Derived.Test.YtpcklgkpjmmakaaGreatDoorEsc
section
/- Plain: a node as text. -/
namespace Go.Proofs.YtpcklgkpjmmakaaGreatDoor
open Go.RowKit Go.Lib
set_option linter.unusedVariables false
set_option linter.unusedSimpArgs false
def declL (d : Dcl) : List UInt8 := [32] ++ ([120, 109, 108, 110, 115] ++ (if isNo d.pre then [] else [58] ++ d.pre.data.toList)) ++ [61, 34] ++ escAt d.uri.data.toList ++ [34]
def attrL (a : Atr) : List UInt8 := [32] ++ (joinName a.pre a.loc).data.toList ++ [61, 34] ++ escAt a.val.data.toList ++ [34]
mutual
def writeL : Nd → List UInt8
  | ⟨kind, pre, loc, uri, decls, attrs, kids, text⟩ =>
    if kind = 0 then writesL kids
    else if kind = 2 then escT text.data.toList
    else if kind = 3 then [60, 33, 45, 45] ++ text.data.toList ++ [45, 45, 62]
    else if kind = 4 then (if isNo text then [60, 63] ++ loc.data.toList ++ [63, 62] else [60, 63] ++ loc.data.toList ++ [32] ++ text.data.toList ++ [63, 62])
    else if kids.isEmpty then [60] ++ (joinName pre loc).data.toList ++ decls.flatMap declL ++ attrs.flatMap attrL ++ [47, 62]
    else [60] ++ (joinName pre loc).data.toList ++ decls.flatMap declL ++ attrs.flatMap attrL ++ [62] ++ writesL kids ++ [60, 47] ++ (joinName pre loc).data.toList ++ [62]
def writesL : List Nd → List UInt8
  | [] => []
  | n :: r => writeL n ++ writesL r
end
theorem writesL_append (a b : List Nd) : writesL (a ++ b) = writesL a ++ writesL b := by
  induction a with
  | nil => simp [writesL]
  | cons x a ih => simp [writesL, ih]
theorem writesL_take (l : List Nd) (j : Nat) (h : j < l.length) : writesL (l.take (j + 1)) = writesL (l.take j) ++ writeL (l[j]'h) := by
  rw [List.take_succ_eq_append_getElem h, writesL_append]; simp [writesL]
theorem flat_take {α : Type} (f : α → List UInt8) (l : List α) (j : Nat) (h : j < l.length) : (l.take (j + 1)).flatMap f = (l.take j).flatMap f ++ f (l[j]'h) := by
  rw [List.take_succ_eq_append_getElem h, List.flatMap_append]; simp
theorem flat_le {α : Type} (f : α → List UInt8) (g : α → Nat) (h : ∀ a, (f a).length ≤ 16 * g a + 16) : ∀ l : List α, (l.flatMap f).length ≤ 16 * (l.length + sumOf g l)
  | [] => by simp
  | a :: l => by
    have := flat_le f g h l
    have := h a
    simp only [List.flatMap_cons, List.length_append, List.length_cons, sumOf]
    omega
theorem escT_le (l : List UInt8) : (escT l).length ≤ 6 * l.length := flatMap_length_le escC_le l
theorem escAt_le (l : List UInt8) : (escAt l).length ≤ 6 * l.length := flatMap_length_le escA_le l
theorem joinName_le (pre loc : ByteArray) : (joinName pre loc).data.toList.length ≤ pre.size + loc.size + 1 := by
  have : (joined pre loc).data.toList.length ≤ pre.size + loc.size + 1 := by
    unfold joined
    split
    · rw [str_size]; omega
    · rw [str_append, str_append, List.length_append, List.length_append, str_size, str_size, str_size]
      have : (⟨#[58]⟩ : ByteArray).size = 1 := rfl
      omega
  unfold joinName
  split
  · simp
  · split
    · exact this
    · simp
theorem declL_le (d : Dcl) : (declL d).length ≤ 16 * d.wt + 16 := by
  have h := escAt_le d.uri.data.toList
  have e : d.wt = d.pre.size + d.uri.size := rfl
  have h1 := str_size d.pre
  have h2 := str_size d.uri
  unfold declL
  simp only [List.length_append, List.length_cons, List.length_nil]
  split <;> simp only [List.length_append, List.length_cons, List.length_nil] <;> omega
theorem attrL_le (a : Atr) : (attrL a).length ≤ 16 * a.wt + 16 := by
  have h := escAt_le a.val.data.toList
  have e : a.wt = a.pre.size + a.loc.size + a.uri.size + a.val.size := rfl
  have h1 := joinName_le a.pre a.loc
  have h2 := str_size a.val
  unfold attrL
  simp only [List.length_append, List.length_cons, List.length_nil]
  omega
mutual
theorem writeL_le : ∀ n : Nd, (writeL n).length ≤ 16 * wt n + 16
  | ⟨kind, pre, loc, uri, decls, attrs, kids, text⟩ => by
    have h0 := writesL_le kids
    have h1 := flat_le declL Dcl.wt declL_le decls
    have h2 := flat_le attrL Atr.wt attrL_le attrs
    have h3 := joinName_le pre loc
    have h4 := escT_le text.data.toList
    have h5 := str_size text
    have h6 := str_size loc
    rw [writeL, wt]
    repeat' split
    all_goals ((try simp only [List.length_append, List.length_cons, List.length_nil]); omega)
theorem writesL_le : ∀ l : List Nd, (writesL l).length ≤ 16 * (l.length + wtL l)
  | [] => by simp [writesL]
  | n :: r => by
    have h1 := writeL_le n
    have h2 := writesL_le r
    rw [writesL, wtL, List.length_append, List.length_cons]
    omega
end
theorem writesL_take_le (l : List Nd) (j : Nat) : (writesL (l.take j)).length ≤ (writesL l).length := by
  have : writesL l = writesL (l.take j) ++ writesL (l.drop j) := by rw [← writesL_append, List.take_append_drop]
  rw [this, List.length_append]; omega
theorem flat_take_le {α : Type} (f : α → List UInt8) (l : List α) (j : Nat) : ((l.take j).flatMap f).length ≤ (l.flatMap f).length := by
  have : l.flatMap f = (l.take j).flatMap f ++ (l.drop j).flatMap f := by rw [← List.flatMap_append, List.take_append_drop]
  rw [this, List.length_append]; omega
end Go.Proofs.YtpcklgkpjmmakaaGreatDoor
end
section
/- The spec's l9Write. -/
namespace Go.Proofs.YtpcklgkpjmmakaaGreatDoor
open Go.RowKit Go.Lib
set_option linter.unusedVariables false
set_option linter.unusedSimpArgs false
set_option maxHeartbeats 8000000
set_option maxRecDepth 100000
theorem sz_of {t : ByteArray} {l : List UInt8} (h : t.data.toList = l) : t.size = l.length := by rw [← str_size, h]
theorem l9Write_calls : ∀ (N : Nat) (n : Nd) (s : Sh) (w : World) (ok : Nat → Prop), cnt n ≤ N → wt n ≤ 1048576 → NodeIs w ok n s →
    Calls Tryz.prog 129 #[.agg #[.int .i64 n.kind, .string n.pre, .string n.loc, .string n.uri, .slice s.Ad n.decls.length s.cd, .slice s.Aa n.attrs.length s.ca, .slice s.Ak n.kids.length s.ck, .string n.text]] w fun e w' => e = .returned (.string ⟨(writeL n).toArray⟩) ∧ Below w.heap.size w w' := by
  intro N
  induction N with
  | zero => intro n s w ok h0; rw [cnt_eq] at h0; omega
  | succ N ih =>
  rintro ⟨kind, pre, loc, uri, decls, attrs, kids, text⟩ ⟨Ad, cd, Aa, ca, Ak, ck⟩ w ok hN hwt hn
  have hkid := Aside0.mk (fun i hi => cnt_kid (n := ⟨kind, pre, loc, uri, decls, attrs, kids, text⟩) (i := i) hi)
  obtain ⟨⟨z1, z2, z3, z4⟩, zd, za, zk, l1, l2, l3⟩ := small hwt
  have hwtk : kids.length + wtL kids ≤ 1048576 := by rw [wt] at hwt; omega
  have hwtd : decls.length + sumOf Dcl.wt decls ≤ 1048576 := by rw [wt] at hwt; omega
  have hwta : attrs.length + sumOf Atr.wt attrs ≤ 1048576 := by rw [wt] at hwt; omega
  have lk := Aside0.mk (fun j => Nat.le_trans (writesL_take_le kids j) (writesL_le kids))
  have ld := Aside0.mk (fun j => Nat.le_trans (flat_take_le declL decls j) (flat_le declL Dcl.wt declL_le decls))
  have la := Aside0.mk (fun j => Nat.le_trans (flat_take_le attrL attrs j) (flat_le attrL Atr.wt attrL_le attrs))
  have lnm := joinName_le pre loc
  rw [str_size] at lnm
  obtain ⟨R, hR⟩ : ∃ R, R = writeL ⟨kind, pre, loc, uri, decls, attrs, kids, text⟩ := ⟨_, rfl⟩
  have hv := Aside0.mk (show R = if kind = 0 then writesL kids
    else if kind = 2 then escT text.data.toList
    else if kind = 3 then [60, 33, 45, 45] ++ text.data.toList ++ [45, 45, 62]
    else if kind = 4 then (if isNo text then [60, 63] ++ loc.data.toList ++ [63, 62] else [60, 63] ++ loc.data.toList ++ [32] ++ text.data.toList ++ [63, 62])
    else if kids.isEmpty then [60] ++ (joinName pre loc).data.toList ++ decls.flatMap declL ++ attrs.flatMap attrL ++ [47, 62]
    else [60] ++ (joinName pre loc).data.toList ++ decls.flatMap declL ++ attrs.flatMap attrL ++ [62] ++ writesL kids ++ [60, 47] ++ (joinName pre loc).data.toList ++ [62] by rw [hR, writeL])
  rw [← hR]
  clear hR
  simp only at z1 z2 z3 z4 zd za zk l1 l2 l3 hkid ⊢
  obtain ⟨W, hW, HB, hsz, HG⟩ := boxed w #[.int .i64 kind, .string pre, .string loc, .string uri, .slice Ad decls.length cd, .slice Aa attrs.length ca, .slice Ak kids.length ck, .string text] 28
  have K := Aside0.mk (fun W1 hb => box_cells (((hb : Below W.heap.size W W1).block _ hsz).trans HG))
  have Hnk := Aside0.mk (hn.kids.below HB)
  have Hnd := Aside0.mk (hn.decls.below HB)
  have Hna := Aside0.mk (hn.attrs.below HB)
  simp only at Hnk Hnd Hna
  have hih := Aside0.mk (fun k hk s W h => ih k s W ok (by obtain ⟨i, hi, rfl⟩ := List.mem_iff_getElem.1 hk; exact Nat.le_of_lt_succ (Nat.lt_of_lt_of_le (hkid.out i hi) hN)) (zk k hk) h)
  have HW := Aside0.mk hW
  clear hW
  have Zd := Aside0.mk zd
  clear zd
  have Za := Aside0.mk za
  clear za
  have Zk := Aside0.mk zk
  clear zk
  have HN := Aside0.mk hN
  clear hN
  clear HG hn hwt ih
  go_enter Tryz.func129, Tryz.ntmps129
  go_upto_region 1 with fail
  rw [← HW.out]
  obtain ⟨c0, c1, c2, c3, c4, c5, c6, c7⟩ := K.out _ (Below.refl _ _)
  by_cases k2 : kind = 2
  · have hfin := Aside0.mk (show (⟨(escT text.data.toList).toArray⟩ : ByteArray) = ⟨R.toArray⟩ by rw [hv.out, if_neg (by omega), if_pos k2])
    subst k2
    go_wp2_with fail
    refine (specEscText_calls text W (by omega)).mono ?_
    rintro e w1 ⟨rfl, rfl⟩
    go_wp2
    go_ret
    exact ⟨by rw [← hfin.out]; rfl, HB⟩
  by_cases k3 : kind = 3
  · have hfin := Aside0.mk (show (⟨#[60, 33, 45, 45]⟩ : ByteArray) ++ text ++ ⟨#[45, 45, 62]⟩ = ⟨R.toArray⟩ by
      apply str_ext; rw [hv.out, if_neg (by omega), if_neg k2, if_pos k3, str_append, str_append])
    subst k3
    go_wp2
    go_ret
    exact ⟨by rw [← hfin.out]; rfl, HB⟩
  by_cases k4 : kind = 4
  · by_cases h0 : text = ⟨#[]⟩
    · have hfin := Aside0.mk (show (⟨#[60, 63]⟩ : ByteArray) ++ loc ++ ⟨#[63, 62]⟩ = ⟨R.toArray⟩ by
        apply str_ext; rw [hv.out, if_neg (by omega), if_neg k2, if_neg k3, if_pos k4, isNo_yes h0, if_pos rfl, str_append, str_append])
      subst k4 h0
      go_wp2
      go_ret
      exact ⟨by rw [← hfin.out]; rfl, HB⟩
    · have hfin := Aside0.mk (show (⟨#[60, 63]⟩ : ByteArray) ++ loc ++ ⟨#[32]⟩ ++ text ++ ⟨#[63, 62]⟩ = ⟨R.toArray⟩ by
        apply str_ext; rw [hv.out, if_neg (by omega), if_neg k2, if_neg k3, if_pos k4, isNo_no h0, if_neg (by simp), str_append, str_append, str_append, str_append])
      subst k4
      have n1 := str_ne0 h0
      have n2 := str_neE h0
      clear h0
      go_wp2
      go_ret
      exact ⟨by rw [← hfin.out]; rfl, HB⟩
  have b2 : (kind == 2) = false := by simpa using k2
  have b3 : (kind == 3) = false := by simpa using k3
  have b4 : (kind == 4) = false := by simpa using k4
  go_wp2
  go_loopg [3, 4] kids.length (fun k a i wr => ∃ (t : ByteArray) (j : Nat), a = .string t ∧ i = .int .i64 j ∧ j + k = kids.length ∧ t.size ≤ 20000000 ∧ Aside (t.data.toList = writesL (kids.take j)) ∧ Below W.heap.size W wr)
  case atStart => exact ⟨_, 0, rfl, rfl, by omega, by decide, (by simp [writesL] : (⟨#[]⟩ : ByteArray).data.toList = writesL (kids.take 0)), Below.refl _ _⟩
  case round =>
    obtain ⟨t, j, rfl, rfl, hk, htz, ha, hb⟩ := hrel
    obtain ⟨d0, d1, d2, d3, d4, d5, d6, d7⟩ := K.out _ hb
    clear c0 c1 c2 c3 c4 c5 c6 c7
    by_cases hlt : j < kids.length
    · obtain ⟨b, o, s', rfl, hbl, hs', e0, e1, e2, e3, e4, e5, e6, e7⟩ := node_at (Hnk.out.below hb) j hlt
      have hmem := List.getElem_mem hlt
      have hlw := writeL_le (kids[j]'hlt)
      have hzw := Zk.out _ hmem
      have hst := Aside0.mk (writesL_take kids j hlt)
      have HI := Aside0.mk (hih.out _ hmem s' wr hs')
      obtain ⟨x, hx⟩ : ∃ x : ByteArray, x = ⟨(writeL (kids[j]'hlt)).toArray⟩ := ⟨_, rfl⟩
      rw [← hx] at HI
      have hxs : x.size ≤ 20000000 := by rw [hx]; show (writeL (kids[j]'hlt)).length ≤ _; omega
      have hnx := Aside0.mk (show (t ++ x).data.toList = writesL (kids.take (j + 1)) by rw [str_append, ha.out, hst.out, hx])
      have hnz : (t ++ x).size ≤ 20000000 := by rw [sz_of hnx.out]; have := lk.out (j + 1); omega
      have hzz : ¬ (9223372036854775807 < t.size + x.size) := by omega
      clear ha hx hs' hlw hzw
      go_wp2_with fail
      refine HI.out.mono ?_
      rintro e w2 ⟨rfl, hb2⟩
      go_wp2
      go_roundg (gk - 1)
      case measure => omega
      case rel => exact ⟨t ++ x, j + 1, rfl, by go_num, by omega, hnz, hnx.out, below_then hb hb2⟩
    · have hks := Aside0.mk (show t.data.toList = writesL kids by rw [ha.out, List.take_of_length_le (by omega)])
      clear ha
      by_cases k0 : kind = 0
      · have hfin := Aside0.mk (show t = ⟨R.toArray⟩ by apply str_ext; rw [hks.out, hv.out, if_pos k0])
        subst k0
        go_wp2
        go_ret
        exact ⟨by rw [← hfin.out]; rfl, below_then HB hb⟩
      have b0 : (kind == 0) = false := by simpa using k0
      have hv := Aside0.mk (hv.out.trans ((if_neg k0).trans ((if_neg k2).trans ((if_neg k3).trans (if_neg k4)))))
      go_wp2_with fail
      refine (specJoinName_calls pre loc wr (by omega) (by omega)).mono ?_
      rintro e w3 ⟨rfl, hb3⟩
      obtain ⟨nm, hnm⟩ : ∃ nm, nm = joinName pre loc := ⟨_, rfl⟩
      rw [← hnm] at hv lnm ⊢
      clear hnm lk
      have hnmz : nm.size ≤ 20000000 := by omega
      obtain ⟨c0, c1, c2, c3, c4, c5, c6, c7⟩ := K.out _ (below_then hb hb3)
      have HBW := below_then hb hb3
      clear d0 d1 d2 d3 d4 d5 d6 d7 hb hb3
      go_wp2
      go_loopg [6, 7] decls.length (fun k a i wr => ∃ (q : ByteArray) (j : Nat), a = .string q ∧ i = .int .i64 j ∧ j + k = decls.length ∧ q.size ≤ 40000000 ∧ Aside (q.data.toList = [60] ++ nm.data.toList ++ (decls.take j).flatMap declL) ∧ Below W.heap.size W wr)
      case atStart => exact ⟨_, 0, rfl, rfl, by omega, (by rw [ByteArray.size_append]; show 1 + nm.size ≤ _; omega), (by rw [str_append]; simp : ((⟨#[60]⟩ : ByteArray) ++ nm).data.toList = [60] ++ nm.data.toList ++ (decls.take 0).flatMap declL), HBW⟩
      case round =>
        obtain ⟨q, j, rfl, rfl, hk, hqz, ha, hb⟩ := hrel
        obtain ⟨d0, d1, d2, d3, d4, d5, d6, d7⟩ := K.out _ hb
        clear c0 c1 c2 c3 c4 c5 c6 c7 HBW
        by_cases hlt : j < decls.length
        · obtain ⟨b, o, rfl, hbl, e0, e1⟩ := dcl_at (Hnd.out.below hb) j hlt
          obtain ⟨y0, y1⟩ := Zd.out _ (List.getElem_mem hlt)
          have hst := Aside0.mk (flat_take declL decls j hlt)
          have hde := Aside0.mk (show declL (decls[j]'hlt) = [32] ++ ([120, 109, 108, 110, 115] ++ (if isNo (decls[j]'hlt).pre then [] else [58] ++ (decls[j]'hlt).pre.data.toList)) ++ [61, 34] ++ escAt (decls[j]'hlt).uri.data.toList ++ [34] from rfl)
          have hel := escAt_le (decls[j]'hlt).uri.data.toList
          rw [str_size] at hel
          have hldj := ld.out (j + 1)
          by_cases hp0 : (decls[j]'hlt).pre = ⟨#[]⟩
          · have hn0 := Aside0.mk (isNo_yes hp0)
            rw [hp0] at e0
            clear hp0
            go_wp2_with fail
            refine (specEscAttr_calls (decls[j]'hlt).uri _ (by omega)).mono ?_
            rintro e w2 ⟨rfl, rfl⟩
            obtain ⟨x, hx⟩ : ∃ x : ByteArray, x = ⟨(escAt (decls[j]'hlt).uri.data.toList).toArray⟩ := ⟨_, rfl⟩
            have hxl := Aside0.mk (show x.data.toList = escAt (decls[j]'hlt).uri.data.toList by rw [hx])
            have hxs : x.size ≤ 20000000 := by rw [hx]; show (escAt _).length ≤ _; omega
            rw [← hx]
            have hnx := Aside0.mk (show (q ++ ⟨#[32]⟩ ++ ⟨#[120, 109, 108, 110, 115]⟩ ++ ⟨#[61, 34]⟩ ++ x ++ ⟨#[34]⟩ : ByteArray).data.toList = [60] ++ nm.data.toList ++ (decls.take (j + 1)).flatMap declL by
              rw [str_append, str_append, str_append, str_append, str_append, ha.out, hst.out, hde.out, hn0.out, if_pos rfl, hxl.out]; simp)
            have hnz : (q ++ ⟨#[32]⟩ ++ ⟨#[120, 109, 108, 110, 115]⟩ ++ ⟨#[61, 34]⟩ ++ x ++ ⟨#[34]⟩ : ByteArray).size ≤ 40000000 := by
              rw [sz_of hnx.out, List.length_append, List.length_append, str_size]; simp only [List.length_cons, List.length_nil]; omega
            clear hx ha hel hldj
            go_wp2
            go_roundg (gk - 1)
            case measure => omega
            case rel => exact ⟨_, j + 1, rfl, by go_num, by omega, hnz, hnx.out, below_alloc hb _⟩
          · have hn0 := Aside0.mk (isNo_no hp0)
            have n1 := str_ne0 hp0
            have n2 := str_neE hp0
            clear hp0
            go_wp2_with fail
            refine (specEscAttr_calls (decls[j]'hlt).uri _ (by omega)).mono ?_
            rintro e w2 ⟨rfl, rfl⟩
            obtain ⟨x, hx⟩ : ∃ x : ByteArray, x = ⟨(escAt (decls[j]'hlt).uri.data.toList).toArray⟩ := ⟨_, rfl⟩
            have hxl := Aside0.mk (show x.data.toList = escAt (decls[j]'hlt).uri.data.toList by rw [hx])
            have hxs : x.size ≤ 20000000 := by rw [hx]; show (escAt _).length ≤ _; omega
            rw [← hx]
            have hnx := Aside0.mk (show (q ++ ⟨#[32]⟩ ++ (⟨#[120, 109, 108, 110, 115, 58]⟩ ++ (decls[j]'hlt).pre) ++ ⟨#[61, 34]⟩ ++ x ++ ⟨#[34]⟩ : ByteArray).data.toList = [60] ++ nm.data.toList ++ (decls.take (j + 1)).flatMap declL by
              rw [str_append, str_append, str_append, str_append, str_append, str_append, ha.out, hst.out, hde.out, hn0.out, if_neg (by simp), hxl.out]; simp)
            have hnz : (q ++ ⟨#[32]⟩ ++ (⟨#[120, 109, 108, 110, 115, 58]⟩ ++ (decls[j]'hlt).pre) ++ ⟨#[61, 34]⟩ ++ x ++ ⟨#[34]⟩ : ByteArray).size ≤ 40000000 := by
              rw [sz_of hnx.out, List.length_append, List.length_append, str_size]; simp only [List.length_cons, List.length_nil]; omega
            clear hx ha hel hldj
            go_wp2
            go_roundg (gk - 1)
            case measure => omega
            case rel => exact ⟨_, j + 1, rfl, by go_num, by omega, hnz, hnx.out, below_alloc hb _⟩
        · have hds := Aside0.mk (show q.data.toList = [60] ++ nm.data.toList ++ decls.flatMap declL by rw [ha.out, List.take_of_length_le (by omega)])
          have hqz : q.size ≤ 17000000 + nm.size := by
            rw [sz_of hds.out, List.length_append, List.length_append, str_size]
            have := ld.out decls.length
            rw [List.take_length] at this
            simp only [List.length_cons, List.length_nil]
            omega
          clear ha ld
          go_wp2
          go_loopg [6, 10] attrs.length (fun k a i wr => ∃ (q1 : ByteArray) (j : Nat), a = .string q1 ∧ i = .int .i64 j ∧ j + k = attrs.length ∧ q1.size ≤ 60000000 ∧ Aside (q1.data.toList = q.data.toList ++ (attrs.take j).flatMap attrL) ∧ Below W.heap.size W wr)
          case atStart => exact ⟨_, 0, rfl, rfl, by omega, by omega, (by simp : q.data.toList = q.data.toList ++ (attrs.take 0).flatMap attrL), hb⟩
          case round =>
            clear hb hk hlt
            obtain ⟨q1, j, rfl, rfl, hk, hqz1, ha, hb⟩ := hrel
            obtain ⟨c0, c1, c2, c3, c4, c5, c6, c7⟩ := K.out _ hb
            clear d0 d1 d2 d3 d4 d5 d6 d7
            by_cases hlt : j < attrs.length
            · obtain ⟨b, o, rfl, hbl, e0, e1, e2, e3⟩ := atr_at (Hna.out.below hb) j hlt
              obtain ⟨y0, y1, y2, y3⟩ := Za.out _ (List.getElem_mem hlt)
              have hst := Aside0.mk (flat_take attrL attrs j hlt)
              have hae := Aside0.mk (show attrL (attrs[j]'hlt) = [32] ++ (joinName (attrs[j]'hlt).pre (attrs[j]'hlt).loc).data.toList ++ [61, 34] ++ escAt (attrs[j]'hlt).val.data.toList ++ [34] from rfl)
              have hel := escAt_le (attrs[j]'hlt).val.data.toList
              rw [str_size] at hel
              have hlaj := la.out (j + 1)
              have hlj := joinName_le (attrs[j]'hlt).pre (attrs[j]'hlt).loc
              rw [str_size] at hlj
              obtain ⟨x, hx⟩ : ∃ x : ByteArray, x = ⟨(escAt (attrs[j]'hlt).val.data.toList).toArray⟩ := ⟨_, rfl⟩
              have hxl := Aside0.mk (show x.data.toList = escAt (attrs[j]'hlt).val.data.toList by rw [hx])
              have hxs : x.size ≤ 20000000 := by rw [hx]; show (escAt _).length ≤ _; omega
              obtain ⟨y, hy⟩ : ∃ y : ByteArray, y = joinName (attrs[j]'hlt).pre (attrs[j]'hlt).loc := ⟨_, rfl⟩
              rw [← hy] at hae hlj
              have hys : y.size ≤ 20000000 := by omega
              have HJ := Aside0.mk (fun W => specJoinName_calls (attrs[j]'hlt).pre (attrs[j]'hlt).loc W (by omega) (by omega))
              rw [← hy] at HJ
              have HA := Aside0.mk (fun W => specEscAttr_calls (attrs[j]'hlt).val W (by omega))
              rw [← hx] at HA
              have hnx := Aside0.mk (show (q1 ++ ⟨#[32]⟩ ++ y ++ ⟨#[61, 34]⟩ ++ x ++ ⟨#[34]⟩ : ByteArray).data.toList = q.data.toList ++ (attrs.take (j + 1)).flatMap attrL by
                rw [str_append, str_append, str_append, str_append, str_append, ha.out, hst.out, hae.out, hxl.out]; simp)
              have hnz : (q1 ++ ⟨#[32]⟩ ++ y ++ ⟨#[61, 34]⟩ ++ x ++ ⟨#[34]⟩ : ByteArray).size ≤ 60000000 := by
                rw [sz_of hnx.out, List.length_append, str_size]; omega
              obtain ⟨Wb, hWb, HBb, hszb, HGb⟩ := boxed wr #[.string (attrs[j]'hlt).pre, .string (attrs[j]'hlt).loc, .string (attrs[j]'hlt).uri, .string (attrs[j]'hlt).val] 114
              obtain ⟨g0, g1, g2, g3⟩ := box4 HGb
              have G0 := later_cell g0 hszb
              have G1 := later_cell g1 hszb
              have G2 := later_cell g2 hszb
              have G3 := later_cell g3 hszb
              have HWb := Aside0.mk hWb
              clear hx hy ha hel hlaj hlj HGb hWb
              go_upto_region 31 with fail
              rw [← HWb.out]
              refine wp_region_later (by kernel_rfl) (by kernel_rfl) ?_
              repeat (go_big_quiet_step ((first | (go_at_call 148; exact later_call (HJ.out _)) | (go_at_call 149; exact later_call ((HA.out _).mono fun _ _ ⟨he, hw⟩ => ⟨he, hw ▸ Below.refl _ _⟩)))))
              refine wpQuiet_nil ?_
              rintro W1 ⟨⟨_, hb1⟩, rfl⟩
              go_wp2
              go_roundg (gk - 1)
              case measure => omega
              case rel => exact ⟨_, j + 1, rfl, by go_num, by omega, hnz, hnx.out, below_then hb (below_then HBb hb1)⟩
            · have has := Aside0.mk (show q1.data.toList = [60] ++ nm.data.toList ++ decls.flatMap declL ++ attrs.flatMap attrL by rw [ha.out, List.take_of_length_le (by omega), hds.out])
              clear ha
              by_cases hk0 : kids = []
              · have hfin := Aside0.mk (show q1 ++ ⟨#[47, 62]⟩ = ⟨R.toArray⟩ by apply str_ext; rw [hv.out, hk0, List.isEmpty_nil, if_pos rfl, str_append, has.out])
                subst hk0
                go_wp2
                go_ret
                exact ⟨by rw [← hfin.out]; rfl, below_then HB hb⟩
              · have hfin := Aside0.mk (show q1 ++ ⟨#[62]⟩ ++ t ++ ⟨#[60, 47]⟩ ++ nm ++ ⟨#[62]⟩ = (⟨R.toArray⟩ : ByteArray) by
                  apply str_ext; rw [hv.out, if_neg (by simpa using hk0), str_append, str_append, str_append, str_append, str_append, has.out, hks.out])
                have n1 : 0 < kids.length := List.length_pos_iff.2 hk0
                have n2 : ((kids.length : Int) == 0) = false := by simp; exact hk0
                clear hk0
                go_wp2
                go_ret
                exact ⟨by rw [← hfin.out]; rfl, below_then HB hb⟩
end Go.Proofs.YtpcklgkpjmmakaaGreatDoor
end
