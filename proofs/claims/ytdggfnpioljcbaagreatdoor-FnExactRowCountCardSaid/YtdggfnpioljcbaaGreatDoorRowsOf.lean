/- RowsOf, RowCount, of both. -/
import Derived.Test.YtdggfnpioljcbaaGreatDoorRowsI
import Derived.Test.YtdggfnpioljcbaaGreatDoorFitA
import Derived.Shelf.Strings.Count
namespace Go.Proofs.YtdggfnpioljcbaaGreatDoor
open Go.RowKit Go.Lib
set_option linter.unusedVariables false
set_option linter.unusedSimpArgs false
set_option maxHeartbeats 8000000
set_option maxRecDepth 100000
def rowsB (n : Nd) : ByteArray := ⟨(rowsOf n).toArray⟩
theorem rowsB_no {n : Nd} (h : treeOk n = false) : rowsB n = ⟨#[]⟩ := by rw [rowsB, rowsOf, if_neg (by rw [h]; decide)]
theorem rowsB_long {n : Nd} (h : treeOk n = true) (hl : ¬ (rowsLs n.kids 0).length ≤ 4000) : rowsB n = ⟨#[]⟩ := by rw [rowsB, rowsOf, if_pos h, if_neg hl]
theorem rowsB_yes {n : Nd} (h : treeOk n = true) (hl : (rowsLs n.kids 0).length ≤ 4000) : (rowsB n).data.toList = rowsLs n.kids 0 := by rw [rowsB, rowsOf, if_pos h, if_pos hl]
theorem rowsB_le (n : Nd) : (rowsB n).size ≤ 4000 := rowsOf_le n
theorem rowsLs_small (l : List Nd) (h : l.length + wtL l ≤ 1048576) (j : Nat) : (rowsLs (l.take j) 0).length ≤ 40000000 :=
  Nat.le_trans (rowsLs_take_le l 0 j) (Nat.le_trans (rowsLs_le l 0 (by omega)) (by omega))
theorem specRowsOf_calls (n : Nd) (s : Sh) (w : World) (ok : Nat → Prop) (hwt : wt n ≤ 1048576) (hn : NodeIs w ok n s) :
    Calls Tryz.prog 41 #[.agg #[.int .i64 n.kind, .string n.pre, .string n.loc, .string n.uri, .slice s.Ad n.decls.length s.cd, .slice s.Aa n.attrs.length s.ca, .slice s.Ak n.kids.length s.ck, .string n.text]] w fun e w' => e = .returned (.string (rowsB n)) ∧ Below w.heap.size w w' := by
  obtain ⟨Ad, cd, Aa, ca, Ak, ck⟩ := s
  obtain ⟨_, _, _, zk, l1, l2, l3⟩ := small hwt
  have hwtk : n.kids.length + wtL n.kids ≤ 1048576 := by rw [wt_eq] at hwt; omega
  have hlk := Aside0.mk (rowsLs_small n.kids hwtk)
  obtain ⟨R, hR⟩ : ∃ R, R = rowsB n := ⟨_, rfl⟩
  have HR0 := Aside0.mk (fun h => hR.trans (rowsB_no h))
  have HR1 := Aside0.mk (fun h hl => hR.trans (rowsB_long h hl))
  have HR2 := Aside0.mk (fun h hl => (congrArg (fun x : ByteArray => x.data.toList) hR).trans (rowsB_yes h hl))
  rw [← hR]
  obtain ⟨W, hW, HB, hsz, HG⟩ := boxed w #[.int .i64 n.kind, .string n.pre, .string n.loc, .string n.uri, .slice Ad n.decls.length cd, .slice Aa n.attrs.length ca, .slice Ak n.kids.length ck, .string n.text] 33
  have K := Aside0.mk (fun W1 hb => box_cells (((hb : Below W.heap.size W W1).block _ hsz).trans HG))
  have HT := Aside0.mk (specTreeOk_calls n ⟨Ad, cd, Aa, ca, Ak, ck⟩ W ok hwt (hn.below HB))
  have Hk := Aside0.mk (show ∀ W1, Below W.heap.size W W1 → Row Kd.node W1 ok Ak n.kids from fun W1 hb => hn.kids.below (below_then HB hb))
  skip
  have HI := Aside0.mk (fun (j : Nat) (hj : j < n.kids.length) s W1 h => l25Add_calls (cnt (n.kids[j]'hj)) (n.kids[j]'hj) s 0 W1 ok (Nat.le_refl _) (zk _ (List.getElem_mem hj)) (by have := zk _ (List.getElem_mem hj); omega) h)
  simp only at HT ⊢
  simp only [Int.natCast_zero] at HI
  obtain ⟨tk, htk⟩ : ∃ tk, tk = treeOk n := ⟨_, rfl⟩
  rw [← htk] at HT HR0 HR1 HR2
  have hkm : n.kids.length ≤ 9223372036854775807 := by omega
  have HW := Aside0.mk hW
  clear hW
  clear HG hn hwt hR htk zk 
  go_enter Tryz.func41, Tryz.ntmps41
  go_upto_region 1 with fail
  rw [← HW.out]
  obtain ⟨c0, c1, c2, c3, c4, c5, c6, c7⟩ := K.out _ (Below.refl _ _)
  go_wp2_with fail
  refine (HT.out).mono ?_
  rintro e w1 ⟨rfl, hb1⟩
  clear c0 c1 c2 c3 c4 c5 c6 c7
  obtain ⟨c0, c1, c2, c3, c4, c5, c6, c7⟩ := K.out _ hb1
  cases tk with
  | false =>
    have hfin := Aside0.mk (HR0.out rfl)
    go_wp2
    go_ret
    exact ⟨by rw [hfin.out]; rfl, below_then HB hb1⟩
  | true =>
  go_wp2
  go_loopg [3, 4] n.kids.length (fun k a i wr => ∃ (t : ByteArray) (j : Nat), a = .string t ∧ i = .int .i64 j ∧ j + k = n.kids.length ∧ t.size ≤ 40000000 ∧ Aside (t.data.toList = rowsLs (n.kids.take j) 0) ∧ Below W.heap.size W wr)
  case atStart => exact ⟨_, 0, rfl, rfl, by omega, by decide, (by simp [rowsLs] : (⟨#[]⟩ : ByteArray).data.toList = rowsLs (n.kids.take 0) 0), hb1⟩
  case round =>
    obtain ⟨t, j, rfl, rfl, hk, htz, ha, hb⟩ := hrel
    clear c0 c1 c2 c3 c4 c5 c6 c7 hb1
    obtain ⟨c0, c1, c2, c3, c4, c5, c6, c7⟩ := K.out _ hb
    by_cases hlt : j < n.kids.length
    · obtain ⟨b, o, s', rfl, hbl, hs', e0, e1, e2, e3, e4, e5, e6, e7⟩ := node_at (Hk.out _ hb) j hlt
      have hst := Aside0.mk (rowsLs_take n.kids 0 j hlt)
      have HC := Aside0.mk (fun W1 (hb1 : Below wr.heap.size wr W1) => HI.out j hlt s' W1 (hs'.below hb1))
      have hlj := hlk.out (j + 1)
      obtain ⟨x, hx⟩ : ∃ x : ByteArray, x = ⟨(rowsL (n.kids[j]'hlt) 0).toArray⟩ := ⟨_, rfl⟩
      rw [← hx] at HC
      have hnx := Aside0.mk (show (t ++ x : ByteArray).data.toList = rowsLs (n.kids.take (j + 1)) 0 by rw [str_append, ha.out, hst.out, hx])
      have hnz : (t ++ x : ByteArray).size ≤ 40000000 := by rw [sz_of hnx.out]; omega
      have hxs : x.size ≤ 40000000 := by rw [ByteArray.size_append] at hnz; omega
      have hzz : ¬ (9223372036854775807 < t.size + x.size) := by omega
      clear ha hx hs' hlj
      go_wp2_with fail
      refine (HC.out _ (Below.refl _ _)).mono ?_
      rintro e w2 ⟨rfl, hb2⟩
      go_wp2
      go_roundg (gk - 1)
      case measure => omega
      case rel => exact ⟨_, j + 1, rfl, by go_num, by omega, hnz, hnx.out, below_then hb hb2⟩
    · have hts := Aside0.mk (show t.data.toList = rowsLs n.kids 0 by rw [ha.out, List.take_of_length_le (by omega)])
      have htl : t.size = (rowsLs n.kids 0).length := by rw [← hts.out, str_size]
      by_cases h4 : t.size ≤ 4000
      · have hfin := Aside0.mk (show t = R by apply str_ext; rw [hts.out, HR2.out (by simp) (by omega)])
        clear ha htl
        go_wp2
        go_ret
        exact ⟨by rw [← hfin.out]; rfl, below_then HB hb⟩
      · have hfin := Aside0.mk (HR1.out (by simp) (by omega))
        clear ha htl
        go_wp2
        go_ret
        exact ⟨by rw [hfin.out]; rfl, below_then HB hb⟩
theorem implRowsOf_calls (n : Nd) (s : Sh) (w : World) (ok : Nat → Prop) (hwt : wt n ≤ 1048576) (hn : NodeIs w ok n s) (hE : Env w) (hF : Folds w) (hP : Tab w) :
    Calls Tryz.prog 42 #[.agg #[.int .i64 n.kind, .string n.pre, .string n.loc, .string n.uri, .slice s.Ad n.decls.length s.cd, .slice s.Aa n.attrs.length s.ca, .slice s.Ak n.kids.length s.ck, .string n.text]] w fun e w' => e = .returned (.string (rowsB n)) ∧ Below w.heap.size w w' := by
  obtain ⟨Ad, cd, Aa, ca, Ak, ck⟩ := s
  obtain ⟨_, _, _, zk, l1, l2, l3⟩ := small hwt
  have hwtk : n.kids.length + wtL n.kids ≤ 1048576 := by rw [wt_eq] at hwt; omega
  have hlk := Aside0.mk (rowsLs_small n.kids hwtk)
  obtain ⟨R, hR⟩ : ∃ R, R = rowsB n := ⟨_, rfl⟩
  have HR0 := Aside0.mk (fun h => hR.trans (rowsB_no h))
  have HR1 := Aside0.mk (fun h hl => hR.trans (rowsB_long h hl))
  have HR2 := Aside0.mk (fun h hl => (congrArg (fun x : ByteArray => x.data.toList) hR).trans (rowsB_yes h hl))
  rw [← hR]
  obtain ⟨W, hW, HB, hsz, HG⟩ := boxed w #[.int .i64 n.kind, .string n.pre, .string n.loc, .string n.uri, .slice Ad n.decls.length cd, .slice Aa n.attrs.length ca, .slice Ak n.kids.length ck, .string n.text] 33
  have K := Aside0.mk (fun W1 hb => box_cells (((hb : Below W.heap.size W W1).block _ hsz).trans HG))
  have HT := Aside0.mk (implTreeOk_calls n ⟨Ad, cd, Aa, ca, Ak, ck⟩ W ok hwt (hn.below HB) (hE.below HB) (hF.below HB))
  have Hk := Aside0.mk (show ∀ W1, Below W.heap.size W W1 → Row Kd.node W1 ok Ak n.kids from fun W1 hb => hn.kids.below (below_then HB hb))
  have HE := Aside0.mk (hE.below HB)
  have HP := Aside0.mk (hP.below HB)
  have HI := Aside0.mk (fun (j : Nat) (hj : j < n.kids.length) s W1 h => fun hE hP => rowsIn_calls (cnt (n.kids[j]'hj)) (n.kids[j]'hj) s 0 W1 ok (Nat.le_refl _) (zk _ (List.getElem_mem hj)) (by have := zk _ (List.getElem_mem hj); omega) h hE hP)
  simp only at HT ⊢
  simp only [Int.natCast_zero] at HI
  obtain ⟨tk, htk⟩ : ∃ tk, tk = treeOk n := ⟨_, rfl⟩
  rw [← htk] at HT HR0 HR1 HR2
  have hkm : n.kids.length ≤ 9223372036854775807 := by omega
  have HW := Aside0.mk hW
  clear hW
  clear HG hn hwt hR htk zk hE hF hP
  go_enter Tryz.func42, Tryz.ntmps42
  go_upto_region 1 with fail
  rw [← HW.out]
  obtain ⟨c0, c1, c2, c3, c4, c5, c6, c7⟩ := K.out _ (Below.refl _ _)
  go_wp2_with fail
  refine (HT.out).mono ?_
  rintro e w1 ⟨rfl, hb1⟩
  clear c0 c1 c2 c3 c4 c5 c6 c7
  obtain ⟨c0, c1, c2, c3, c4, c5, c6, c7⟩ := K.out _ hb1
  cases tk with
  | false =>
    have hfin := Aside0.mk (HR0.out rfl)
    go_wp2
    go_ret
    exact ⟨by rw [hfin.out]; rfl, below_then HB hb1⟩
  | true =>
  go_wp2
  go_loopg [3, 12] n.kids.length (fun k a i wr => ∃ (t : ByteArray) (j : Nat), a = .string t ∧ i = .int .i64 j ∧ j + k = n.kids.length ∧ t.size ≤ 40000000 ∧ Aside (t.data.toList = rowsLs (n.kids.take j) 0) ∧ Below W.heap.size W wr)
  case atStart => exact ⟨_, 0, rfl, rfl, by omega, by decide, (by simp [rowsLs] : (⟨#[]⟩ : ByteArray).data.toList = rowsLs (n.kids.take 0) 0), hb1⟩
  case round =>
    obtain ⟨t, j, rfl, rfl, hk, htz, ha, hb⟩ := hrel
    clear c0 c1 c2 c3 c4 c5 c6 c7 hb1
    obtain ⟨c0, c1, c2, c3, c4, c5, c6, c7⟩ := K.out _ hb
    by_cases hlt : j < n.kids.length
    · obtain ⟨b, o, s', rfl, hbl, hs', e0, e1, e2, e3, e4, e5, e6, e7⟩ := node_at (Hk.out _ hb) j hlt
      have hst := Aside0.mk (rowsLs_take n.kids 0 j hlt)
      have HC := Aside0.mk (fun W1 (hb1 : Below wr.heap.size wr W1) => HI.out j hlt s' W1 (hs'.below hb1) (HE.out.below (below_then hb hb1)) (HP.out.below (below_then hb hb1)))
      have hlj := hlk.out (j + 1)
      obtain ⟨x, hx⟩ : ∃ x : ByteArray, x = ⟨(rowsL (n.kids[j]'hlt) 0).toArray⟩ := ⟨_, rfl⟩
      rw [← hx] at HC
      have hnx := Aside0.mk (show (t ++ x : ByteArray).data.toList = rowsLs (n.kids.take (j + 1)) 0 by rw [str_append, ha.out, hst.out, hx])
      have hnz : (t ++ x : ByteArray).size ≤ 40000000 := by rw [sz_of hnx.out]; omega
      have hxs : x.size ≤ 40000000 := by rw [ByteArray.size_append] at hnz; omega
      have hzz : ¬ (9223372036854775807 < t.size + x.size) := by omega
      clear ha hx hs' hlj
      go_wp2_with fail
      refine (HC.out _ (below_alloc (Below.refl _ _) _)).mono ?_
      rintro e w2 ⟨rfl, hb2⟩
      go_wp2
      go_roundg (gk - 1)
      case measure => omega
      case rel => exact ⟨_, j + 1, rfl, by go_num, by omega, hnz, hnx.out, below_then (below_alloc hb _) hb2⟩
    · have hts := Aside0.mk (show t.data.toList = rowsLs n.kids 0 by rw [ha.out, List.take_of_length_le (by omega)])
      have htl : t.size = (rowsLs n.kids 0).length := by rw [← hts.out, str_size]
      by_cases h4 : t.size ≤ 4000
      · have hfin := Aside0.mk (show t = R by apply str_ext; rw [hts.out, HR2.out (by simp) (by omega)])
        clear ha htl
        go_wp2
        go_ret
        exact ⟨by rw [← hfin.out]; rfl, below_then HB hb⟩
      · have hfin := Aside0.mk (HR1.out (by simp) (by omega))
        clear ha htl
        go_wp2
        go_ret
        exact ⟨by rw [hfin.out]; rfl, below_then HB hb⟩
theorem count_take (l : List UInt8) (c : UInt8) (j : Nat) (h : j < l.length) : (l.take (j + 1)).count c = (l.take j).count c + if (l[j]'h) = c then 1 else 0 := by
  rw [List.take_succ_eq_append_getElem h, List.count_append, List.count_singleton]
  by_cases e : (l[j]'h) = c
  · simp [e]
  · simp [e]
theorem rowCount_loop (t : ByteArray) (j : Nat) (h : j < t.size) (c : UInt8) : (t.data.toList.take (j + 1)).count c = (t.data.toList.take j).count c + if (t[j]'h) = c then 1 else 0 := by
  have h' : j < t.data.toList.length := by rw [str_size]; exact h
  have := str_get t j h
  rw [List.getElem?_eq_getElem h'] at this
  injection this with this
  rw [count_take _ _ _ h', this]
def rowCount (n : Nd) : Nat := (rowsB n).data.toList.count 10
theorem specRowCount_calls (n : Nd) (s : Sh) (w : World) (ok : Nat → Prop) (hwt : wt n ≤ 1048576) (hn : NodeIs w ok n s) :
    Calls Tryz.prog 43 #[.agg #[.int .i64 n.kind, .string n.pre, .string n.loc, .string n.uri, .slice s.Ad n.decls.length s.cd, .slice s.Aa n.attrs.length s.ca, .slice s.Ak n.kids.length s.ck, .string n.text]] w fun e w' => e = .returned (.int .i64 (rowCount n : Nat)) ∧ Below w.heap.size w w' := by
  obtain ⟨Ad, cd, Aa, ca, Ak, ck⟩ := s
  obtain ⟨W, hW, HB, hsz, HG⟩ := boxed w #[.int .i64 n.kind, .string n.pre, .string n.loc, .string n.uri, .slice Ad n.decls.length cd, .slice Aa n.attrs.length ca, .slice Ak n.kids.length ck, .string n.text] 33
  have K := Aside0.mk (fun W1 hb => box_cells (((hb : Below W.heap.size W W1).block _ hsz).trans HG))
  have H1 := Aside0.mk (specRowsOf_calls n ⟨Ad, cd, Aa, ca, Ak, ck⟩ W ok hwt (hn.below HB))
  have hle := rowsB_le n
  obtain ⟨R, hR⟩ : ∃ R, R = rowCount n := ⟨_, rfl⟩
  rw [← hR]
  have HR := Aside0.mk (show R = (rowsB n).data.toList.count 10 from hR)
  obtain ⟨t, ht⟩ : ∃ t, t = rowsB n := ⟨_, rfl⟩
  rw [← ht] at hle H1 HR
  simp only at H1 ⊢
  have HW := Aside0.mk hW
  clear hW
  clear hn hwt HG ht hR
  go_enter Tryz.func43, Tryz.ntmps43
  go_upto_region 1 with fail
  rw [← HW.out]
  obtain ⟨c0, c1, c2, c3, c4, c5, c6, c7⟩ := K.out _ (Below.refl _ _)
  go_wp2_with fail
  refine (H1.out).mono ?_
  rintro e w1 ⟨rfl, hb1⟩
  clear c0 c1 c2 c3 c4 c5 c6 c7
  go_wp2
  go_loopg [4, 5] t.size (fun k a i wr => ∃ (h j : Nat), a = .int .i64 h ∧ i = .int .i64 j ∧ j + k = t.size ∧ h ≤ j ∧ Aside (h = (t.data.toList.take j).count 10) ∧ wr = w1)
  case atStart => exact ⟨0, 0, rfl, rfl, by omega, by omega, (by simp : 0 = (t.data.toList.take 0).count 10), rfl⟩
  case round =>
    obtain ⟨h, j, rfl, rfl, hk, hh, ha, rfl⟩ := hrel
    by_cases hlt : j < t.size
    · have hst := rowCount_loop t j hlt 10
      by_cases hx : (t[j]'hlt) = 10
      · have hnx := Aside0.mk (show h + 1 = (t.data.toList.take (j + 1)).count 10 by rw [hst, if_pos hx, ← ha.out])
        have hx2 : (((t[j]'hlt).toNat : Int) == 10) = true := by rw [hx]; rfl
        clear ha hst hx
        go_wp2
        go_roundg (gk - 1)
        case measure => omega
        case rel => exact ⟨h + 1, j + 1, by go_num, by go_num, by omega, by omega, hnx.out, rfl⟩
      · have hnx := Aside0.mk (show h = (t.data.toList.take (j + 1)).count 10 by rw [hst, if_neg hx, ← ha.out]; rfl)
        have hx2 : (((t[j]'hlt).toNat : Int) == 10) = false := by
          rw [beq_eq_false_iff_ne]
          intro e
          exact hx (UInt8.toNat_inj.1 (by show (t[j]'hlt).toNat = 10; omega))
        clear ha hst hx
        go_wp2
        go_roundg (gk - 1)
        case measure => omega
        case rel => exact ⟨h, j + 1, rfl, by go_num, by omega, by omega, hnx.out, rfl⟩
    · have hfin := Aside0.mk (show h = R by rw [ha.out, HR.out, List.take_of_length_le (by rw [str_size]; omega)])
      clear ha
      go_wp2
      go_ret
      exact ⟨by rw [← hfin.out]; rfl, below_then HB hb1⟩
theorem implRowCount_calls (n : Nd) (s : Sh) (w : World) (ok : Nat → Prop) (hwt : wt n ≤ 1048576) (hn : NodeIs w ok n s) (hE : Env w) (hF : Folds w) (hP : Tab w) :
    Calls Tryz.prog 44 #[.agg #[.int .i64 n.kind, .string n.pre, .string n.loc, .string n.uri, .slice s.Ad n.decls.length s.cd, .slice s.Aa n.attrs.length s.ca, .slice s.Ak n.kids.length s.ck, .string n.text]] w fun e w' => e = .returned (.int .i64 (rowCount n : Nat)) ∧ Below w.heap.size w w' := by
  obtain ⟨Ad, cd, Aa, ca, Ak, ck⟩ := s
  obtain ⟨W, hW, HB, hsz, HG⟩ := boxed w #[.int .i64 n.kind, .string n.pre, .string n.loc, .string n.uri, .slice Ad n.decls.length cd, .slice Aa n.attrs.length ca, .slice Ak n.kids.length ck, .string n.text] 33
  have K := Aside0.mk (fun W1 hb => box_cells (((hb : Below W.heap.size W W1).block _ hsz).trans HG))
  have H1 := Aside0.mk (implRowsOf_calls n ⟨Ad, cd, Aa, ca, Ak, ck⟩ W ok hwt (hn.below HB) (hE.below HB) (hF.below HB) (hP.below HB))
  have HC := Aside0.mk (fun W => Go.Proofs.Any.strings_Count_one Tryz.lays138 (rowsB n) 10 W)
  obtain ⟨R, hR⟩ : ∃ R, R = rowCount n := ⟨_, rfl⟩
  rw [← hR]
  have HC := Aside0.mk (show ∀ W, Calls Tryz.prog 115 #[.string (rowsB n), .string ⟨#[10]⟩] W (fun e w' => e = .returned (.int .i64 (R : Nat)) ∧ w' = W) from fun W => by rw [hR]; exact HC.out W)
  obtain ⟨t, ht⟩ : ∃ t, t = rowsB n := ⟨_, rfl⟩
  rw [← ht] at H1 HC
  simp only at H1 ⊢
  have HW := Aside0.mk hW
  clear hW
  clear hn hwt HG ht hR hE hF hP
  go_enter Tryz.func44, Tryz.ntmps44
  go_upto_region 1 with fail
  rw [← HW.out]
  obtain ⟨c0, c1, c2, c3, c4, c5, c6, c7⟩ := K.out _ (Below.refl _ _)
  go_wp2_with fail
  refine (H1.out).mono ?_
  rintro e w1 ⟨rfl, hb1⟩
  go_wp2_with fail
  refine (HC.out _).mono ?_
  rintro e w2 ⟨rfl, rfl⟩
  go_wp2
  go_ret
  exact ⟨rfl, below_then HB hb1⟩
end Go.Proofs.YtdggfnpioljcbaaGreatDoor
