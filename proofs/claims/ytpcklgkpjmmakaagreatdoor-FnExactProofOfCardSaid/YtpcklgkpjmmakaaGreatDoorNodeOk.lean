/- The program's NodeOk. -/
import Derived.Test.YtpcklgkpjmmakaaGreatDoorKids
import Derived.Test.YtpcklgkpjmmakaaGreatDoorCount
namespace Go.Proofs.YtpcklgkpjmmakaaGreatDoor
open Go.RowKit Go.Lib
set_option linter.unusedVariables false
set_option linter.unusedSimpArgs false
set_option maxHeartbeats 4000000
set_option maxRecDepth 20000
mutual
theorem cnt_wt : ∀ n : Nd, cnt n ≤ wt n + 1
  | ⟨_, pre, loc, uri, decls, attrs, kids, text⟩ => by
    have := cntL_wt kids
    rw [cnt, wt]
    omega
theorem cntL_wt : ∀ l : List Nd, cntL l ≤ wtL l + l.length
  | [] => by simp [cntL]
  | n :: r => by
    have h1 := cnt_wt n
    have h2 := cntL_wt r
    rw [cntL, wtL, List.length_cons]
    omega
end
theorem ofKind_take (l : List Nd) (k : Int) (j : Nat) (h : j < l.length) : ofKind (l.take (j + 1)) k = ofKind (l.take j) k + if (l[j]'h).kind = k then 1 else 0 := by
  rw [List.take_succ_eq_append_getElem h, ofKind, ofKind, List.filter_append, List.length_append]
  congr 1
  by_cases e : (l[j]'h).kind = k
  · simp [e]
  · simp [e]
theorem ofKind_le (l : List Nd) (k : Int) : ofKind l k ≤ l.length := List.length_filter_le _ _
theorem implOfKind_calls {ok : Nat → Prop} (A : Option Addr) (c : Nat) (xs : List Nd) (q : Int) (w : World) (hr : Row Kd.node w ok A xs) :
    Calls Tryz.prog 114 #[.slice A xs.length c, .int .i64 q] w fun e w' => e = .returned (.int .i64 (ofKind xs q)) ∧ Below w.heap.size w w' := by
  have hmax := hr.max
  go_enter Tryz.func114, Tryz.ntmps114
  go_wp2
  go_loopg [5, 10] xs.length (fun k n i wr => ∃ (j m : Nat), i = .int .i64 j ∧ n = .int .i64 m ∧ m ≤ j ∧ j + k = xs.length ∧ Aside (m = ofKind (xs.take j) q) ∧ Below w.heap.size w wr)
  case atStart => exact ⟨0, 0, rfl, rfl, Nat.le_refl _, by omega, (by simp [ofKind] : 0 = ofKind (xs.take 0) q), Below.refl _ _⟩
  case round =>
    obtain ⟨j, m, rfl, rfl, hmj, hk, ha, hb⟩ := hrel
    by_cases hlt : j < xs.length
    · obtain ⟨b, o, s', rfl, hbl, hs', d0, d1, d2, d3, d4, d5, d6, d7⟩ := node_at (hr.below hb) j hlt
      clear hs'
      have ht := ofKind_take xs q j hlt
      by_cases hq : (xs[j]'hlt).kind = q
      · have hnx := Aside0.mk (show m + 1 = ofKind (xs.take (j + 1)) q by rw [ht, if_pos hq, ha.out])
        rw [hq] at d0
        clear ha ht hq
        go_wp2
        go_roundg (gk - 1)
        case measure => omega
        case rel => exact ⟨j + 1, m + 1, by go_num, by go_num, by omega, by omega, hnx.out, below_alloc hb _⟩
      · have hnx := Aside0.mk (show m = ofKind (xs.take (j + 1)) q by rw [ht, if_neg hq, ha.out]; rfl)
        clear ha ht
        go_wp2
        go_roundg (gk - 1)
        case measure => omega
        case rel => exact ⟨j + 1, m, by go_num, rfl, by omega, by omega, hnx.out, below_alloc hb _⟩
    · have hfin := Aside0.mk (show m = ofKind xs q by rw [ha.out, List.take_of_length_le (by omega)])
      clear ha
      go_wp2
      go_ret
      exact ⟨by rw [← hfin.out]; rfl, hb⟩
theorem implNodeOk_calls (n : Nd) (s : Sh) (w : World) (ok : Nat → Prop) (hwt : wt n ≤ 1048576) (hn : NodeIs w ok n s) (hE : Env w) (hF : Folds w) :
    Calls Tryz.prog 83 #[.agg #[.int .i64 n.kind, .string n.pre, .string n.loc, .string n.uri, .slice s.Ad n.decls.length s.cd, .slice s.Aa n.attrs.length s.ca, .slice s.Ak n.kids.length s.ck, .string n.text]] w fun e w' => e = .returned (.bool (nodeOk n)) ∧ Below w.heap.size w w' := by
  obtain ⟨kind, pre, loc, uri, decls, attrs, kids, text⟩ := n
  obtain ⟨Ad, cd, Aa, ca, Ak, ck⟩ := s
  have hv := Aside0.mk (show nodeOk ⟨kind, pre, loc, uri, decls, attrs, kids, text⟩ = (decide (cnt ⟨kind, pre, loc, uri, decls, attrs, kids, text⟩ ≤ 60) && (if kind = 0 then
    isNo pre && isNo loc && isNo uri && isNo text && decls.isEmpty && attrs.isEmpty && decide (ofKind kids 1 = 1) && decide (ofKind kids 2 = 0) && kidsOk 0 none kids
  else partOk 0 ⟨kind, pre, loc, uri, decls, attrs, kids, text⟩)) from rfl)
  have hcw := cnt_wt ⟨kind, pre, loc, uri, decls, attrs, kids, text⟩
  have hkid := Aside0.mk (fun i hi => cnt_kid (n := ⟨kind, pre, loc, uri, decls, attrs, kids, text⟩) (i := i) hi)
  obtain ⟨⟨z1, z2, z3, z4⟩, zd, za, zk, l1, l2, l3⟩ := small hwt
  obtain ⟨N, hN⟩ : ∃ N, N = cnt ⟨kind, pre, loc, uri, decls, attrs, kids, text⟩ := ⟨_, rfl⟩
  rw [← hN] at hcw hv
  simp only at z1 z2 z3 z4 zd za zk l1 l2 l3 hkid ⊢
  obtain ⟨W, hW, HB, hsz, HG⟩ := boxed w #[.int .i64 kind, .string pre, .string loc, .string uri, .slice Ad decls.length cd, .slice Aa attrs.length ca, .slice Ak kids.length ck, .string text] 28
  have K := Aside0.mk (fun W1 hb => box_cells (((hb : Below W.heap.size W W1).block _ hsz).trans HG))
  have HCnt := Aside0.mk (implCountOf_calls N ⟨kind, pre, loc, uri, decls, attrs, kids, text⟩ ⟨Ad, cd, Aa, ca, Ak, ck⟩ W ok (by omega) (by omega) (hn.below HB))
  rw [← hN] at HCnt
  have hN60 : N ≤ 1048577 := by omega
  have Hwt := Aside0.mk hwt
  have hN' := Aside0.mk hN
  have HW := Aside0.mk hW
  clear hW
  have Zd := Aside0.mk zd
  clear zd
  have Za := Aside0.mk za
  clear za
  have Zk := Aside0.mk zk
  clear zk
  have Hn := Aside0.mk (hn.below HB)
  have HE := Aside0.mk (hE.below HB)
  have HF := Aside0.mk (hF.below HB)
  clear hE hF HG hn hwt hcw hN
  simp only at HCnt
  go_enter Tryz.func83, Tryz.ntmps83
  go_upto_region 1 with fail
  rw [← HW.out]
  obtain ⟨c0, c1, c2, c3, c4, c5, c6, c7⟩ := K.out _ (Below.refl _ _)
  go_wp2_with fail
  refine (HCnt.out).mono ?_
  rintro e w1 ⟨rfl, hb1⟩
  obtain ⟨d0, d1, d2, d3, d4, d5, d6, d7⟩ := K.out _ hb1
  clear c0 c1 c2 c3 c4 c5 c6 c7
  by_cases h60 : N ≤ 60
  case neg =>
    have hfin := Aside0.mk (show nodeOk ⟨kind, pre, loc, uri, decls, attrs, kids, text⟩ = false by rw [hv.out, decide_eq_false h60]; rfl)
    go_wp2
    go_ret
    exact ⟨by rw [hfin.out]; rfl, below_then HB hb1⟩
  by_cases hk : kind = 0
  case neg =>
    have hfin := Aside0.mk (show nodeOk ⟨kind, pre, loc, uri, decls, attrs, kids, text⟩ = partOk 0 ⟨kind, pre, loc, uri, decls, attrs, kids, text⟩ by rw [hv.out, decide_eq_true h60, if_neg hk]; rfl)
    have HP := Aside0.mk (implPart_calls N 0 ⟨kind, pre, loc, uri, decls, attrs, kids, text⟩ ⟨Ad, cd, Aa, ca, Ak, ck⟩ w1 ok (by rw [hN'.out]; exact Nat.le_refl _) Hwt.out (by omega) (Hn.out.below hb1) (HE.out.below hb1) (HF.out.below hb1))
    simp only [Int.natCast_zero] at HP
    go_wp2_with fail
    refine (HP.out).mono ?_
    rintro e w2 ⟨rfl, hb2⟩
    go_wp2
    go_ret
    exact ⟨by rw [hfin.out]; rfl, below_then HB (below_then hb1 hb2)⟩
  have hv1 := Aside0.mk (show nodeOk ⟨kind, pre, loc, uri, decls, attrs, kids, text⟩ = (isNo pre && isNo loc && isNo uri && isNo text && decls.isEmpty && attrs.isEmpty && decide (ofKind kids 1 = 1) && decide (ofKind kids 2 = 0) && kidsOk 0 none kids) by rw [hv.out, decide_eq_true h60, if_pos hk]; rfl)
  clear hv
  subst hk
  by_cases p1 : pre = ⟨#[]⟩
  case neg =>
    have hfin := Aside0.mk (show nodeOk ⟨0, pre, loc, uri, decls, attrs, kids, text⟩ = false by rw [hv1.out, isNo_no p1]; rfl)
    have n1 := str_ne0 p1
    have n2 := str_neE p1
    clear p1
    go_wp2
    go_ret
    exact ⟨by rw [hfin.out]; rfl, below_then HB hb1⟩
  subst p1
  by_cases p2 : loc = ⟨#[]⟩
  case neg =>
    have hfin := Aside0.mk (show nodeOk ⟨0, ⟨#[]⟩, loc, uri, decls, attrs, kids, text⟩ = false by rw [hv1.out, isNo_no p2]; simp)
    have n1 := str_ne0 p2
    have n2 := str_neE p2
    clear p2
    go_wp2
    go_ret
    exact ⟨by rw [hfin.out]; rfl, below_then HB hb1⟩
  subst p2
  by_cases p3 : uri = ⟨#[]⟩
  case neg =>
    have hfin := Aside0.mk (show nodeOk ⟨0, ⟨#[]⟩, ⟨#[]⟩, uri, decls, attrs, kids, text⟩ = false by rw [hv1.out, isNo_no p3]; simp)
    have n1 := str_ne0 p3
    have n2 := str_neE p3
    clear p3
    go_wp2
    go_ret
    exact ⟨by rw [hfin.out]; rfl, below_then HB hb1⟩
  subst p3
  by_cases p4 : text = ⟨#[]⟩
  case neg =>
    have hfin := Aside0.mk (show nodeOk ⟨0, ⟨#[]⟩, ⟨#[]⟩, ⟨#[]⟩, decls, attrs, kids, text⟩ = false by rw [hv1.out, isNo_no p4]; simp)
    have n1 := str_ne0 p4
    have n2 := str_neE p4
    clear p4
    go_wp2
    go_ret
    exact ⟨by rw [hfin.out]; rfl, below_then HB hb1⟩
  subst p4
  by_cases p5 : decls = []
  case neg =>
    have hfin := Aside0.mk (show nodeOk ⟨0, ⟨#[]⟩, ⟨#[]⟩, ⟨#[]⟩, decls, attrs, kids, ⟨#[]⟩⟩ = false by rw [hv1.out, show decls.isEmpty = false by simpa using p5]; simp)
    have n1 : 0 < decls.length := List.length_pos_iff.2 p5
    have n2 : ((decls.length : Int) == 0) = false := by simp; exact p5
    clear p5
    go_wp2
    go_ret
    exact ⟨by rw [hfin.out]; rfl, below_then HB hb1⟩
  subst p5
  by_cases p6 : attrs = []
  case neg =>
    have hfin := Aside0.mk (show nodeOk ⟨0, ⟨#[]⟩, ⟨#[]⟩, ⟨#[]⟩, [], attrs, kids, ⟨#[]⟩⟩ = false by rw [hv1.out, show attrs.isEmpty = false by simpa using p6]; simp)
    have n1 : 0 < attrs.length := List.length_pos_iff.2 p6
    have n2 : ((attrs.length : Int) == 0) = false := by simp; exact p6
    clear p6
    go_wp2
    go_ret
    exact ⟨by rw [hfin.out]; rfl, below_then HB hb1⟩
  subst p6
  have hv2 := Aside0.mk (show nodeOk ⟨0, ⟨#[]⟩, ⟨#[]⟩, ⟨#[]⟩, [], [], kids, ⟨#[]⟩⟩ = (decide (ofKind kids 1 = 1) && decide (ofKind kids 2 = 0) && kidsOk 0 none kids) by rw [hv1.out, show isNo (⟨#[]⟩ : ByteArray) = true from rfl]; rfl)
  clear hv1
  go_wp2_with fail
  refine (implOfKind_calls Ak ck kids 1 w1 (Hn.out.kids.below hb1)).mono ?_
  rintro e w2 ⟨rfl, hb2⟩
  have hb12 := below_then hb1 hb2
  obtain ⟨c0, c1, c2, c3, c4, c5, c6, c7⟩ := K.out _ hb12
  clear d0 d1 d2 d3 d4 d5 d6 d7
  have o1 := ofKind_le kids 1
  have o2 := ofKind_le kids 2
  obtain ⟨m1, hm1⟩ : ∃ m, m = ofKind kids 1 := ⟨_, rfl⟩
  obtain ⟨m2, hm2⟩ : ∃ m, m = ofKind kids 2 := ⟨_, rfl⟩
  rw [← hm1] at o1 hv2 ⊢
  rw [← hm2] at o2 hv2
  have Hm1 := Aside0.mk hm1
  clear hm1
  have Hm2 := Aside0.mk hm2
  clear hm2
  by_cases q1 : m1 = 1
  case neg =>
    have hfin := Aside0.mk (show nodeOk ⟨0, ⟨#[]⟩, ⟨#[]⟩, ⟨#[]⟩, [], [], kids, ⟨#[]⟩⟩ = false by rw [hv2.out, decide_eq_false q1]; rfl)
    have q2 : ((m1 : Int) == 1) = false := by simp; omega
    go_wp2
    go_ret
    exact ⟨by rw [hfin.out]; rfl, below_then HB hb12⟩
  subst q1
  go_wp2_with fail
  refine (implOfKind_calls Ak ck kids 2 w2 (Hn.out.kids.below hb12)).mono ?_
  rintro e w3 ⟨rfl, hb3⟩
  have hb13 := below_then hb12 hb3
  obtain ⟨d0, d1, d2, d3, d4, d5, d6, d7⟩ := K.out _ hb13
  clear c0 c1 c2 c3 c4 c5 c6 c7
  rw [← Hm2.out]
  by_cases q1 : m2 = 0
  case neg =>
    have hfin := Aside0.mk (show nodeOk ⟨0, ⟨#[]⟩, ⟨#[]⟩, ⟨#[]⟩, [], [], kids, ⟨#[]⟩⟩ = false by rw [hv2.out, decide_eq_false q1]; simp)
    have q2 : ((m2 : Int) == 0) = false := by simp; omega
    go_wp2
    go_ret
    exact ⟨by rw [hfin.out]; rfl, below_then HB hb13⟩
  subst q1
  have hfin := Aside0.mk (show nodeOk ⟨0, ⟨#[]⟩, ⟨#[]⟩, ⟨#[]⟩, [], [], kids, ⟨#[]⟩⟩ = kidsOk 0 none kids by rw [hv2.out]; rfl)
  have HK := Aside0.mk (implKids_calls (ok := ok) 0 ⟨0, ⟨#[]⟩, ⟨#[]⟩, ⟨#[]⟩, [], [], kids, ⟨#[]⟩⟩ ⟨Ad, cd, Aa, ca, Ak, ck⟩ w3 (Hn.out.below hb13) (HE.out.below hb13) (HF.out.below hb13) (fun k hk s V h1 h2 h3 =>
    implPart_calls (cnt k) 0 k s V ok (Nat.le_refl _) (Zk.out _ hk) (by omega) h1 h2 h3))
  simp only [Int.natCast_zero] at HK
  go_wp2_with fail
  refine (HK.out).mono ?_
  rintro e w4 ⟨rfl, hb4⟩
  go_wp2
  go_ret
  exact ⟨by rw [hfin.out]; rfl, below_then HB (below_then hb13 hb4)⟩
end Go.Proofs.YtpcklgkpjmmakaaGreatDoor
