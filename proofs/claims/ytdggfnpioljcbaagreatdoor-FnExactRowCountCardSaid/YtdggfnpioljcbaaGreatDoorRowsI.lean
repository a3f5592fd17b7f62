/- The program's rows of a node. -/
import Derived.Test.YtdggfnpioljcbaaGreatDoorRowsA
import Derived.Deep.RegionHeld3
namespace Go.Proofs.YtdggfnpioljcbaaGreatDoor
open Go.RowKit Go.Lib
set_option linter.unusedVariables false
set_option linter.unusedSimpArgs false
set_option maxHeartbeats 8000000
set_option maxRecDepth 100000
theorem rowText_at1 (d : Nat) (ws : List ByteArray) (cells : Array Value) (w : World) (z : ByteArray) (hz : (⟨(rowL (d + 1) (ws.map fun x => x.data.toList)).toArray⟩ : ByteArray) = z) (hc : cells = (ws.map Value.string).toArray) (hd : d + 1 ≤ 4194304) (hl : ws.length ≤ 1000) (hzl : z.size ≤ 100000000) (hT : Tab w) :
    Calls Tryz.prog 184 #[.int .i64 ((d : Int) + 1), .slice (some ⟨w.heap.size, 0, none⟩) ws.length ws.length] (w.alloc (.cells cells 9 (0, 0))) fun e w' => e = .returned (.string z) ∧ Below w.heap.size w w' :=
  rowText_at (d + 1) ws cells w z hz hc hd hl hzl hT
theorem rowsIn_calls : ∀ (N : Nat) (n : Nd) (s : Sh) (d : Nat) (w : World) (ok : Nat → Prop), cnt n ≤ N → wt n ≤ 1048576 → d + wt n ≤ 2097152 → NodeIs w ok n s → Env w → Tab w →
    Calls Tryz.prog 114 #[.agg #[.int .i64 n.kind, .string n.pre, .string n.loc, .string n.uri, .slice s.Ad n.decls.length s.cd, .slice s.Aa n.attrs.length s.ca, .slice s.Ak n.kids.length s.ck, .string n.text], .int .i64 (d : Int)] w fun e w' => e = .returned (.string ⟨(rowsL n d).toArray⟩) ∧ Below w.heap.size w w' := by
  intro N
  induction N with
  | zero => intro n s d w ok h0; rw [cnt_eq] at h0; omega
  | succ N ih =>
  rintro ⟨kind, pre, loc, uri, decls, attrs, kids, text⟩ ⟨Ad, cd, Aa, ca, Ak, ck⟩ d w ok hN hwt hdw hn hE hT
  have hkid := Aside0.mk (fun i hi => cnt_kid (n := ⟨kind, pre, loc, uri, decls, attrs, kids, text⟩) (i := i) hi)
  have hk1 := Aside0.mk (fun k hk => wt_kid1 (n := ⟨kind, pre, loc, uri, decls, attrs, kids, text⟩) (k := k) hk)
  obtain ⟨⟨z1, z2, z3, z4⟩, zd, za, zk, l1, l2, l3⟩ := small hwt
  have hwtk : kids.length + wtL kids ≤ 1048576 := by rw [wt] at hwt; omega
  have hwtd : decls.length + sumOf Dcl.wt decls ≤ 1048576 := by rw [wt] at hwt; omega
  have hwta : attrs.length + sumOf Atr.wt attrs ≤ 1048576 := by rw [wt] at hwt; omega
  have hd2 : d ≤ 2097152 := by omega
  have lk := Aside0.mk (fun j => Nat.le_trans (rowsLs_take_le kids (d + 1) j) (rowsLs_le kids (d + 1) (by omega)))
  have ld := Aside0.mk (fun j => Nat.le_trans (flat_take_le (declRow (d + 1)) decls j) (flat_le32 (declRow (d + 1)) Dcl.wt (fun x => declRow_le (d + 1) x (by omega)) decls))
  have la := Aside0.mk (fun j => Nat.le_trans (flat_take_le (attrRow (d + 1)) attrs j) (flat_le32 (attrRow (d + 1)) Atr.wt (fun x => attrRow_le (d + 1) x (by omega)) attrs))
  have hel := escAt_le uri.data.toList
  have het := escAt_le text.data.toList
  rw [str_size] at hel het
  have hB0 := rowL_le d [[101], pre.data.toList, loc.data.toList, escAt uri.data.toList] (by omega)
  simp only [List.map_cons, List.map_nil, List.sum_cons, List.sum_nil, List.length_cons, List.length_nil, str_size] at hB0
  obtain ⟨R, hR⟩ : ∃ R, R = rowsL ⟨kind, pre, loc, uri, decls, attrs, kids, text⟩ d := ⟨_, rfl⟩
  have hv := Aside0.mk (show R = if kind = 2 then rowL d [[116], escAt text.data.toList]
    else if kind = 3 then rowL d [[110], escAt text.data.toList]
    else if kind = 4 then rowL d [[112], loc.data.toList, escAt text.data.toList]
    else rowL d [[101], pre.data.toList, loc.data.toList, escAt uri.data.toList] ++ decls.flatMap (declRow (d + 1)) ++ attrs.flatMap (attrRow (d + 1)) ++ rowsLs kids (d + 1) by rw [hR, rowsL])
  have hRl : R.length ≤ 40000000 := by
    rw [hR]
    exact Nat.le_trans (rowsL_le _ d (by omega)) (by omega)
  rw [← hR]
  clear hR
  simp only at z1 z2 z3 z4 zd za zk l1 l2 l3 hkid hk1 ⊢
  obtain ⟨W, hW, HB, hsz, HG⟩ := boxed w #[.int .i64 kind, .string pre, .string loc, .string uri, .slice Ad decls.length cd, .slice Aa attrs.length ca, .slice Ak kids.length ck, .string text] 33
  have K := Aside0.mk (fun W1 hb => box_cells (((hb : Below W.heap.size W W1).block _ hsz).trans HG))
  have Hnk := Aside0.mk (hn.kids.below HB)
  have Hnd := Aside0.mk (hn.decls.below HB)
  have Hna := Aside0.mk (hn.attrs.below HB)
  simp only at Hnk Hnd Hna
  have hih := Aside0.mk (fun k hk s W h hE hT => ih k s (d + 1) W ok (by obtain ⟨i, hi, rfl⟩ := List.mem_iff_getElem.1 hk; exact Nat.le_of_lt_succ (Nat.lt_of_lt_of_le (hkid.out i hi) hN)) (zk k hk) (by have := hk1.out k hk; omega) h hE hT)
  have HW := Aside0.mk hW
  clear hW
  have Zd := Aside0.mk zd
  clear zd
  have Za := Aside0.mk za
  clear za
  have Zk := Aside0.mk zk
  clear zk
  have HN := Aside0.mk hN
  clear hN
  have HE := Aside0.mk (hE.below HB)
  have HT := Aside0.mk (hT.below HB)
  clear HG hn hwt ih hdw hE hT
  obtain ⟨ev, hev⟩ : ∃ ev : ByteArray → ByteArray, ∀ s, ev s = ⟨(escAt s.data.toList).toArray⟩ := ⟨_, fun _ => rfl⟩
  have HA := Aside0.mk (fun s W (hs : s.size ≤ 1048576) (hE : Env W) => (show Calls Tryz.prog 185 #[.string s] W (fun e w' => e = .returned (.string (ev s)) ∧ Below W.heap.size W w') from (implEscAttr_calls s W hs hE).mono fun _ _ ⟨he, hw⟩ => ⟨by rw [hev]; exact he, hw⟩))
  have evl := Aside0.mk (fun s => show (ev s).data.toList = escAt s.data.toList by rw [hev])
  clear hev
  go_enter Tryz.func114, Tryz.ntmps114
  go_upto_region 1 with fail
  rw [← HW.out]
  obtain ⟨c0, c1, c2, c3, c4, c5, c6, c7⟩ := K.out _ (Below.refl _ _)
  by_cases k2 : kind = 2
  · obtain ⟨z, hz⟩ : ∃ z : ByteArray, (⟨(rowL d ([⟨#[116]⟩, ev text].map fun x => x.data.toList)).toArray⟩ : ByteArray) = z := ⟨_, rfl⟩
    have hzR : z = ⟨R.toArray⟩ := by rw [← hz, hv.out, if_pos k2, ← evl.out text]; rfl
    have HX := Aside0.mk (fun W (hT : Tab W) => rowText_at d [⟨#[116]⟩, ev text] _ W z hz rfl (by omega) (by simp) (by rw [hzR]; show R.length ≤ _; omega) hT)
    have hfin := Aside0.mk hzR
    clear hz hzR
    subst k2
    go_wp2_with fail
    refine (HA.out text _ (by omega) HE.out).mono ?_
    rintro e w2 ⟨rfl, hb2⟩
    go_wp2_with fail
    refine (HX.out w2 (HT.out.below hb2)).mono ?_
    rintro e w3 ⟨rfl, hb3⟩
    go_wp2
    go_ret
    exact ⟨by rw [← hfin.out]; rfl, below_then HB (below_then hb2 hb3)⟩
  by_cases k3 : kind = 3
  · obtain ⟨z, hz⟩ : ∃ z : ByteArray, (⟨(rowL d ([⟨#[110]⟩, ev text].map fun x => x.data.toList)).toArray⟩ : ByteArray) = z := ⟨_, rfl⟩
    have hzR : z = ⟨R.toArray⟩ := by rw [← hz, hv.out, if_neg k2, if_pos k3, ← evl.out text]; rfl
    have HX := Aside0.mk (fun W (hT : Tab W) => rowText_at d [⟨#[110]⟩, ev text] _ W z hz rfl (by omega) (by simp) (by rw [hzR]; show R.length ≤ _; omega) hT)
    have hfin := Aside0.mk hzR
    clear hz hzR
    subst k3
    go_wp2_with fail
    refine (HA.out text _ (by omega) HE.out).mono ?_
    rintro e w2 ⟨rfl, hb2⟩
    go_wp2_with fail
    refine (HX.out w2 (HT.out.below hb2)).mono ?_
    rintro e w3 ⟨rfl, hb3⟩
    go_wp2
    go_ret
    exact ⟨by rw [← hfin.out]; rfl, below_then HB (below_then hb2 hb3)⟩
  by_cases k4 : kind = 4
  · obtain ⟨z, hz⟩ : ∃ z : ByteArray, (⟨(rowL d ([⟨#[112]⟩, loc, ev text].map fun x => x.data.toList)).toArray⟩ : ByteArray) = z := ⟨_, rfl⟩
    have hzR : z = ⟨R.toArray⟩ := by rw [← hz, hv.out, if_neg k2, if_neg k3, if_pos k4, ← evl.out text]; rfl
    have HX := Aside0.mk (fun W (hT : Tab W) => rowText_at d [⟨#[112]⟩, loc, ev text] _ W z hz rfl (by omega) (by simp) (by rw [hzR]; show R.length ≤ _; omega) hT)
    have hfin := Aside0.mk hzR
    clear hz hzR
    subst k4
    go_wp2_with fail
    have hbz : Below W.heap.size W W.drew := below_drew (Below.refl _ _)
    go_region_held3 (fun w' => Below W.heap.size W w' ∧ w'.cell? ⟨w.heap.size, 2, none⟩ = some (.string loc) ∧ w'.cell? ⟨w.heap.size, 7, none⟩ = some (.string text))
      (refine ⟨?_, ?_, ?_⟩ <;> (first | assumption | exact below_drew (Below.refl _ _) | (refine below_alloc ?_ _; assumption) | (refine Lib.cell?_alloc_some _ ?_; assumption) | go_keep))
      (first
        | (go_at_call 185; refine (HA.out text _ z4 (HE.out.below hbz)).mono ?_; rintro e w2 ⟨rfl, hb2⟩; have hbz := below_then hbz hb2; have d2 := (K.out _ hbz).2.2.1; have d7 := (K.out _ hbz).2.2.2.2.2.2.2)
        | (go_at_call 184; refine (HX.out w2 (HT.out.below hbz)).mono ?_; rintro e w3 ⟨rfl, hb3⟩; have hbz := below_then hbz hb3; have f2 := (K.out _ hbz).2.2.1; have f7 := (K.out _ hbz).2.2.2.2.2.2.2)
        | fail)
    all_goals
      go_wp2
      go_ret
      exact ⟨by rw [← hfin.out]; rfl, below_then HB hbz⟩
  have b2 : (kind == 2) = false := by simpa using k2
  have b3 : (kind == 3) = false := by simpa using k3
  have b4 : (kind == 4) = false := by simpa using k4
  obtain ⟨B0, hB⟩ : ∃ B0, B0 = rowL d [[101], pre.data.toList, loc.data.toList, escAt uri.data.toList] := ⟨_, rfl⟩
  rw [← hB] at hB0
  have hv := Aside0.mk (show R = B0 ++ decls.flatMap (declRow (d + 1)) ++ attrs.flatMap (attrRow (d + 1)) ++ rowsLs kids (d + 1) by rw [hv.out, if_neg k2, if_neg k3, if_neg k4, hB])
  have hB0 : B0.length ≤ 9000000 := by omega
  obtain ⟨z0, hz⟩ : ∃ z : ByteArray, (⟨(rowL d ([⟨#[101]⟩, pre, loc, ev uri].map fun x => x.data.toList)).toArray⟩ : ByteArray) = z := ⟨_, rfl⟩
  have hzR : z0 = ⟨B0.toArray⟩ := by rw [← hz, hB, ← evl.out uri]; rfl
  have HX := Aside0.mk (fun W (hT : Tab W) => rowText_at d [⟨#[101]⟩, pre, loc, ev uri] _ W z0 hz rfl (by omega) (by simp) (by rw [hzR]; show B0.length ≤ _; omega) hT)
  have hz0 := Aside0.mk (show z0.data.toList = B0 ++ (decls.take 0).flatMap (declRow (d + 1)) by rw [hzR]; simp)
  have hz0z : z0.size ≤ 50000000 := by rw [hzR]; show B0.length ≤ _; omega
  clear hz hzR hB k2 k3 k4 hel het
  go_upto_region 8 with fail
  go_cut [5] (fun b wx => b = .string z0 ∧ Below W.heap.size W wx)
  case first =>
    have hbz : Below W.heap.size W W.drew := below_drew (Below.refl _ _)
    go_region_held3 (fun w' => Below W.heap.size W w' ∧ w'.cell? ⟨w.heap.size, 1, none⟩ = some (.string pre) ∧ w'.cell? ⟨w.heap.size, 2, none⟩ = some (.string loc) ∧ w'.cell? ⟨w.heap.size, 3, none⟩ = some (.string uri))
      (refine ⟨?_, ?_, ?_, ?_⟩ <;> (first | assumption | exact below_drew (Below.refl _ _) | (refine below_alloc ?_ _; assumption) | (refine Lib.cell?_alloc_some _ ?_; assumption) | go_keep))
      (first
        | (go_at_call 185; refine (HA.out uri _ z3 (HE.out.below hbz)).mono ?_; rintro e w2 ⟨rfl, hb2⟩; have hbz := below_then hbz hb2; have d1 := (K.out _ hbz).2.1; have d2 := (K.out _ hbz).2.2.1; have d3 := (K.out _ hbz).2.2.2.1)
        | (go_at_call 184; refine (HX.out w2 (HT.out.below hbz)).mono ?_; rintro e w3 ⟨rfl, hb3⟩; have hbz := below_then hbz hb3; have f1 := (K.out _ hbz).2.1; have f2 := (K.out _ hbz).2.2.1; have f3 := (K.out _ hbz).2.2.2.1)
        | fail)
    all_goals (go_wp2_with fail; go_meet; exact ⟨rfl, hbz⟩)
  case rest =>
  obtain ⟨rfl, HBW⟩ := hcut
  clear c0 c1 c2 c3 c4 c5 c6 c7 HX
  obtain ⟨c0, c1, c2, c3, c4, c5, c6, c7⟩ := K.out _ HBW
  have i2 : IntKind.i64.wrap ((d : Int) + 1) = (d : Int) + 1 := by rw [IntKind.wrap_i64]; omega
  go_wp2
  go_loopg [5, 53] decls.length (fun k a i wr => ∃ (q : ByteArray) (j : Nat), a = .string q ∧ i = .int .i64 j ∧ j + k = decls.length ∧ q.size ≤ 50000000 ∧ Aside (q.data.toList = B0 ++ (decls.take j).flatMap (declRow (d + 1))) ∧ Below W.heap.size W wr)
  case atStart => exact ⟨_, 0, rfl, rfl, by omega, hz0z, hz0.out, HBW⟩
  case round =>
    obtain ⟨q, j, rfl, rfl, hk, hqz, ha, hb⟩ := hrel
    clear c0 c1 c2 c3 c4 c5 c6 c7 HBW hz0z
    obtain ⟨c0, c1, c2, c3, c4, c5, c6, c7⟩ := K.out _ hb
    by_cases hlt : j < decls.length
    · obtain ⟨b, o, rfl, hbl, e0, e1⟩ := dcl_at (Hnd.out.below hb) j hlt
      obtain ⟨y0, y1⟩ := Zd.out _ (List.getElem_mem hlt)
      have hst := Aside0.mk (flat_take (declRow (d + 1)) decls j hlt)
      have hldj := ld.out (j + 1)
      obtain ⟨p0, hp0⟩ : ∃ p, p = (decls[j]'hlt).pre := ⟨_, rfl⟩
      obtain ⟨p1, hp1⟩ : ∃ p, p = (decls[j]'hlt).uri := ⟨_, rfl⟩
      obtain ⟨z, hz⟩ : ∃ z : ByteArray, (⟨(rowL (d + 1) ([⟨#[100]⟩, p0, ev p1].map fun x => x.data.toList)).toArray⟩ : ByteArray) = z := ⟨_, rfl⟩
      have hzR : z.data.toList = declRow (d + 1) (decls[j]'hlt) := by rw [← hz, declRow, ← hp0, ← hp1, ← evl.out p1]; rfl
      have hnx := Aside0.mk (show (q ++ z : ByteArray).data.toList = B0 ++ (decls.take (j + 1)).flatMap (declRow (d + 1)) by rw [str_append, ha.out, hst.out, hzR, List.append_assoc])
      have hnz : (q ++ z : ByteArray).size ≤ 50000000 := by rw [sz_of hnx.out, List.length_append]; omega
      have hzs : z.size ≤ 50000000 := by rw [ByteArray.size_append] at hnz; omega
      have hzz : ¬ (9223372036854775807 < q.size + z.size) := by omega
      have HX := Aside0.mk (fun W (hT : Tab W) => rowText_at1 d [⟨#[100]⟩, p0, ev p1] _ W z hz rfl (by omega) (by simp) (by omega) hT)
      rw [← hp0] at e0 y0
      rw [← hp1] at e1 y1
      obtain ⟨Wb, hWb, HBb, hszb, HGb⟩ := boxed wr #[.string p0, .string p1] 171
      have KB := Aside0.mk (show ∀ W1, Below Wb.heap.size Wb W1 → W1.cell? ⟨wr.heap.size, 0, none⟩ = some (.string p0) ∧ W1.cell? ⟨wr.heap.size, 1, none⟩ = some (.string p1) from
        fun W1 hb => ⟨cell_of_row W1 _ 0 _ _ _ ((hb.block _ hszb).trans HGb), cell_of_row W1 _ 1 _ _ _ ((hb.block _ hszb).trans HGb)⟩)
      obtain ⟨g0, g1⟩ := KB.out _ (Below.refl _ _)
      have HWb := Aside0.mk hWb
      have hbwb := below_then hb HBb
      clear hp0 hp1 hz hzR ha hldj HGb hWb
      go_upto_region 12 with fail
      rw [← HWb.out]
      have hbz : Below Wb.heap.size Wb Wb.drew := below_drew (Below.refl _ _)
      go_region_held3 (fun w' => Below Wb.heap.size Wb w' ∧ w'.cell? ⟨wr.heap.size, 0, none⟩ = some (.string p0) ∧ w'.cell? ⟨wr.heap.size, 1, none⟩ = some (.string p1))
        (refine ⟨?_, ?_, ?_⟩ <;> (first | assumption | exact below_drew (Below.refl _ _) | (refine below_alloc ?_ _; assumption) | (refine Lib.cell?_alloc_some _ ?_; assumption) | go_keep))
        (first
          | (go_at_call 185; refine (HA.out p1 _ y1 (HE.out.below (below_then hbwb hbz))).mono ?_; rintro e w2 ⟨rfl, hb2⟩; have hbz := below_then hbz hb2; have f0 := (KB.out _ hbz).1; have f1 := (KB.out _ hbz).2)
          | (go_at_call 184; refine (HX.out w2 (HT.out.below (below_then hbwb hbz))).mono ?_; rintro e w3 ⟨rfl, hb3⟩; have hbz := below_then hbz hb3; have g0 := (KB.out _ hbz).1; have g1 := (KB.out _ hbz).2)
          | fail)
      all_goals
        go_wp2
        go_roundg (gk - 1)
        case measure => omega
        case rel => exact ⟨_, j + 1, rfl, by go_num, by omega, hnz, hnx.out, below_then hbwb hbz⟩
    · have hds := Aside0.mk (show q.data.toList = B0 ++ decls.flatMap (declRow (d + 1)) by rw [ha.out, List.take_of_length_le (by omega)])
      clear ha
      go_wp2
      go_loopg [5, 72] attrs.length (fun k a i wr => ∃ (q1 : ByteArray) (j : Nat), a = .string q1 ∧ i = .int .i64 j ∧ j + k = attrs.length ∧ q1.size ≤ 90000000 ∧ Aside (q1.data.toList = q.data.toList ++ (attrs.take j).flatMap (attrRow (d + 1))) ∧ Below W.heap.size W wr)
      case atStart => exact ⟨_, 0, rfl, rfl, by omega, by omega, (by simp : q.data.toList = q.data.toList ++ (attrs.take 0).flatMap (attrRow (d + 1))), hb⟩
      case round =>
        clear hb hk hlt c0 c1 c2 c3 c4 c5 c6 c7
        obtain ⟨q1, j, rfl, rfl, hk, hqz1, ha, hb⟩ := hrel
        obtain ⟨c0, c1, c2, c3, c4, c5, c6, c7⟩ := K.out _ hb
        by_cases hlt : j < attrs.length
        · obtain ⟨b, o, rfl, hbl, e0, e1, e2, e3⟩ := atr_at (Hna.out.below hb) j hlt
          obtain ⟨y0, y1, y2, y3⟩ := Za.out _ (List.getElem_mem hlt)
          have hst := Aside0.mk (flat_take (attrRow (d + 1)) attrs j hlt)
          have hlaj := la.out (j + 1)
          obtain ⟨p0, hp0⟩ : ∃ p, p = (attrs[j]'hlt).pre := ⟨_, rfl⟩
          obtain ⟨p1, hp1⟩ : ∃ p, p = (attrs[j]'hlt).loc := ⟨_, rfl⟩
          obtain ⟨p2, hp2⟩ : ∃ p, p = (attrs[j]'hlt).uri := ⟨_, rfl⟩
          obtain ⟨p3, hp3⟩ : ∃ p, p = (attrs[j]'hlt).val := ⟨_, rfl⟩
          obtain ⟨z, hz⟩ : ∃ z : ByteArray, (⟨(rowL (d + 1) ([⟨#[97]⟩, p0, p1, ev p2, ev p3].map fun x => x.data.toList)).toArray⟩ : ByteArray) = z := ⟨_, rfl⟩
          have hzR : z.data.toList = attrRow (d + 1) (attrs[j]'hlt) := by rw [← hz, attrRow, ← hp0, ← hp1, ← hp2, ← hp3, ← evl.out p2, ← evl.out p3]; rfl
          have hnx := Aside0.mk (show (q1 ++ z : ByteArray).data.toList = q.data.toList ++ (attrs.take (j + 1)).flatMap (attrRow (d + 1)) by rw [str_append, ha.out, hst.out, hzR, List.append_assoc])
          have hnz : (q1 ++ z : ByteArray).size ≤ 90000000 := by rw [sz_of hnx.out, List.length_append, str_size]; omega
          have hzs : z.size ≤ 90000000 := by rw [ByteArray.size_append] at hnz; omega
          have hzz : ¬ (9223372036854775807 < q1.size + z.size) := by omega
          have HX := Aside0.mk (fun W (hT : Tab W) => rowText_at1 d [⟨#[97]⟩, p0, p1, ev p2, ev p3] _ W z hz rfl (by omega) (by simp) (by omega) hT)
          rw [← hp0] at e0 y0
          rw [← hp1] at e1 y1
          rw [← hp2] at e2 y2
          rw [← hp3] at e3 y3
          obtain ⟨Wb, hWb, HBb, hszb, HGb⟩ := boxed wr #[.string p0, .string p1, .string p2, .string p3] 173
          have KB := Aside0.mk (fun W1 (hb : Below Wb.heap.size Wb W1) => box4 ((hb.block _ hszb).trans HGb))
          obtain ⟨g0, g1, g2, g3⟩ := KB.out _ (Below.refl _ _)
          have HWb := Aside0.mk hWb
          have hbwb := below_then hb HBb
          clear hp0 hp1 hp2 hp3 hz hzR ha hlaj HGb hWb
          go_upto_region 17 with fail
          rw [← HWb.out]
          have hbz : Below Wb.heap.size Wb Wb.drew := below_drew (Below.refl _ _)
          go_region_held3 (fun w' => Below Wb.heap.size Wb w' ∧ w'.cell? ⟨wr.heap.size, 0, none⟩ = some (.string p0) ∧ w'.cell? ⟨wr.heap.size, 1, none⟩ = some (.string p1) ∧ w'.cell? ⟨wr.heap.size, 2, none⟩ = some (.string p2) ∧ w'.cell? ⟨wr.heap.size, 3, none⟩ = some (.string p3))
            (refine ⟨?_, ?_, ?_, ?_, ?_⟩ <;> (first | assumption | exact below_drew (Below.refl _ _) | (refine below_alloc ?_ _; assumption) | (refine Lib.cell?_alloc_some _ ?_; assumption) | go_keep))
            (first
              | (go_at_call 185; refine (HA.out _ _ ?_ (HE.out.below (below_then hbwb hbz))).mono ?_; assumption; rintro e w2 ⟨rfl, hb2⟩; have hbz := below_then hbz hb2; have f0 := (KB.out _ hbz).1; have f1 := (KB.out _ hbz).2.1; have f2 := (KB.out _ hbz).2.2.1; have f3 := (KB.out _ hbz).2.2.2)
              | (go_at_call 184; refine (HX.out w2 (HT.out.below (below_then hbwb hbz))).mono ?_; rintro e w3 ⟨rfl, hb3⟩; have hbz := below_then hbz hb3; have f0 := (KB.out _ hbz).1; have f1 := (KB.out _ hbz).2.1; have f2 := (KB.out _ hbz).2.2.1; have f3 := (KB.out _ hbz).2.2.2)
              | fail)
          all_goals
            go_wp2
            go_roundg (gk - 1)
            case measure => omega
            case rel => exact ⟨_, j + 1, rfl, by go_num, by omega, hnz, hnx.out, below_then hbwb hbz⟩
        · have has := Aside0.mk (show q1.data.toList = q.data.toList ++ attrs.flatMap (attrRow (d + 1)) by rw [ha.out, List.take_of_length_le (by omega)])
          clear ha
          go_wp2
          go_loopg [5, 96] kids.length (fun k a i wr => ∃ (q2 : ByteArray) (j : Nat), a = .string q2 ∧ i = .int .i64 j ∧ j + k = kids.length ∧ q2.size ≤ 130000000 ∧ Aside (q2.data.toList = q1.data.toList ++ rowsLs (kids.take j) (d + 1)) ∧ Below W.heap.size W wr)
          case atStart => exact ⟨_, 0, rfl, rfl, by omega, by omega, (by simp [rowsLs] : q1.data.toList = q1.data.toList ++ rowsLs (kids.take 0) (d + 1)), hb⟩
          case round =>
            clear hb hk hlt c0 c1 c2 c3 c4 c5 c6 c7
            obtain ⟨q2, j, rfl, rfl, hk, hqz2, ha, hb⟩ := hrel
            obtain ⟨c0, c1, c2, c3, c4, c5, c6, c7⟩ := K.out _ hb
            by_cases hlt : j < kids.length
            · obtain ⟨b, o, s', rfl, hbl, hs', e0, e1, e2, e3, e4, e5, e6, e7⟩ := node_at (Hnk.out.below hb) j hlt
              have hst := Aside0.mk (rowsLs_take kids (d + 1) j hlt)
              have HI := Aside0.mk (fun W1 (hb1 : Below wr.heap.size wr W1) => hih.out _ (List.getElem_mem hlt) s' W1 (hs'.below hb1) (HE.out.below (below_then hb hb1)) (HT.out.below (below_then hb hb1)))
              have hlkj := lk.out (j + 1)
              obtain ⟨v, hv2⟩ : ∃ v : ByteArray, v = ⟨(rowsL (kids[j]'hlt) (d + 1)).toArray⟩ := ⟨_, rfl⟩
              rw [← hv2] at HI
              have hnx := Aside0.mk (show (q2 ++ v : ByteArray).data.toList = q1.data.toList ++ rowsLs (kids.take (j + 1)) (d + 1) by rw [str_append, ha.out, hst.out, hv2, List.append_assoc])
              have hnz : (q2 ++ v : ByteArray).size ≤ 130000000 := by rw [sz_of hnx.out, List.length_append, str_size]; omega
              have hvs : v.size ≤ 130000000 := by rw [ByteArray.size_append] at hnz; omega
              have hzz : ¬ (9223372036854775807 < q2.size + v.size) := by omega
              clear hv2 ha hs' hlkj
              go_wp2_with fail
              refine (HI.out _ (below_alloc (Below.refl _ _) _)).mono ?_
              rintro e w2 ⟨rfl, hb2⟩
              go_wp2
              go_roundg (gk - 1)
              case measure => omega
              case rel => exact ⟨_, j + 1, rfl, by go_num, by omega, hnz, hnx.out, below_then (below_alloc hb _) hb2⟩
            · have hfin := Aside0.mk (show q2 = (⟨R.toArray⟩ : ByteArray) by
                apply str_ext; rw [ha.out, List.take_of_length_le (by omega), has.out, hds.out, hv.out])
              clear ha
              go_wp2
              go_ret
              exact ⟨by rw [← hfin.out]; rfl, below_then HB hb⟩
end Go.Proofs.YtdggfnpioljcbaaGreatDoor
