/- The spec's l5Kids, NodeOk. -/
import Derived.Test.YtpcklgkpjmmakaaGreatDoorOne
import Derived.Test.YtpcklgkpjmmakaaGreatDoorNodeOk
namespace Go.Proofs.YtpcklgkpjmmakaaGreatDoor
open Go.RowKit Go.Lib
set_option linter.unusedVariables false
set_option linter.unusedSimpArgs false
set_option maxHeartbeats 8000000
set_option maxRecDepth 100000
theorem chain_step {α : Type} {p : α → Bool} {lt : α → α → Bool} {xs : List α} {j : Nat} (h : j < xs.length) (hp : p (xs[j]'h) = true) (h0 : ∀ m (hm : m + 1 < xs.length), m + 1 = j → lt (xs[m]'(by omega)) (xs[m + 1]'hm) = true) :
    chain p lt (prevOf xs j) (xs.drop j) = chain p lt (prevOf xs (j + 1)) (xs.drop (j + 1)) := by
  cases j with
  | zero => rw [show prevOf xs 0 = none from rfl, List.drop_zero, chain_zero h, hp, Bool.true_and]
  | succ m => rw [chain_succ h, h0 m h rfl, hp, Bool.true_and, Bool.true_and]
theorem cntL_mem {l : List Nd} {k : Nd} (h : k ∈ l) : cnt k ≤ cntL l := by
  induction l with
  | nil => cases h
  | cons x l ih =>
    rw [cntL]
    rcases List.mem_cons.1 h with rfl | h
    · omega
    · have := ih h; omega
theorem specKids_calls : ∀ (N : Nat) (deep : Nat) (A : Option Addr) (c : Nat) (xs : List Nd) (w : World) (ok : Nat → Prop), cntL xs ≤ N → (∀ k ∈ xs, wt k ≤ 1048576) → deep ≤ 7 → Row Kd.node w ok A xs →
    Calls Tryz.prog 128 #[.slice A xs.length c, .int .i64 deep] w fun e w' => e = .returned (.bool (kidsOk deep none xs)) ∧ Below w.heap.size w w' := by
  intro N
  induction N using Nat.strongRecOn with
  | _ N ih =>
  intro deep A c xs w ok hN hwt hdp hr
  have hmax := hr.max
  obtain ⟨R, hR⟩ : ∃ R, R = kidsOk deep none xs := ⟨_, rfl⟩
  rw [← hR]
  have hv := Aside0.mk (hR.trans (kidsOk_chain deep none xs))
  clear hR
  have ih := Aside0.mk ih
  have HN := Aside0.mk hN
  clear hN
  have Hwt := Aside0.mk hwt
  clear hwt
  go_enter Tryz.func128, Tryz.ntmps128
  go_wp2
  go_loopg [5] xs.length (fun k i wr => ∃ (j : Nat), i = .int .i64 j ∧ j + k = xs.length ∧ Aside (R = chain (partOk deep) noTwo (prevOf xs j) (xs.drop j)) ∧ Below w.heap.size w wr)
  case atStart => exact ⟨0, rfl, by omega, hv.out, Below.refl _ _⟩
  case round =>
    obtain ⟨j, rfl, hk, ha, hb⟩ := hrel
    clear hv
    by_cases hlt : j < xs.length
    · obtain ⟨b, o, ⟨Ad, cd, Aa, ca, Ak, ck⟩, rfl, hbl, hs', d0, d1, d2, d3, d4, d5, d6, d7⟩ := node_at (hr.below hb) j hlt
      have hmem := List.getElem_mem hlt
      have hx := Aside0.mk (cntL_mem hmem)
      have hpe := Aside0.mk (partOk_eq deep (xs[j]'hlt))
      have hcx := Aside0.mk (cnt_eq (xs[j]'hlt))
      obtain ⟨W, hW, HB, hsz, HG⟩ := boxed wr #[.int .i64 (xs[j]'hlt).kind, .string (xs[j]'hlt).pre, .string (xs[j]'hlt).loc, .string (xs[j]'hlt).uri, .slice Ad (xs[j]'hlt).decls.length cd, .slice Aa (xs[j]'hlt).attrs.length ca, .slice Ak (xs[j]'hlt).kids.length ck, .string (xs[j]'hlt).text] 28
      have Hs := Aside0.mk (hs'.below HB)
      have HO := Aside0.mk (l5One_calls (xs[j]'hlt) ⟨Ad, cd, Aa, ca, Ak, ck⟩ W ok (Hwt.out _ hmem) (hs'.below HB))
      simp only at HO
      have K := Aside0.mk (fun W1 hb => box_cells (((hb : Below W.heap.size W W1).block _ hsz).trans HG))
      have Kb := Aside0.mk (fun W1 hb => (bcell (hb : Below W.heap.size W W1)).1)
      have hbl' : b < W.heap.size := Nat.lt_of_lt_of_le hbl HB.size
      have HW := Aside0.mk hW
      clear hW
      clear HG hs'
      obtain ⟨c0, c1, c2, c3, c4, c5, c6, c7⟩ := K.out _ (Below.refl _ _)
      have i1 : (j : Int) < (xs.length : Int) := by omega
      go_upto_region 5 with fail
      rw [← HW.out]
      go_wp2_with fail
      refine (HO.out).mono ?_
      rintro e w1 ⟨rfl, hb1⟩
      obtain ⟨f0, f1, f2, f3, f4, f5, f6, f7⟩ := K.out _ hb1
      clear c0 c1 c2 c3 c4 c5 c6 c7
      cases hq : oneOk (xs[j]'hlt) with
      | false =>
        have hfin := Aside0.mk (show R = false by rw [ha.out, chain_bad hlt (by rw [hpe.out, hq]; rfl)])
        clear hq ha
        go_wp2
        go_ret
        exact ⟨by rw [hfin.out]; rfl, below_then hb (below_then HB hb1)⟩
      | true =>
        have Hq := Aside0.mk hq
        clear hq
        have hpr : ∀ m (hm : m + 1 < xs.length), m + 1 = j → w1.cell? ⟨b, o + m * 8, none⟩ = some (.int .i64 (xs[m]'(by omega)).kind) := fun m hm he => by
          obtain ⟨b', o', s'', hA, hbl'', hs'', e0, _⟩ := node_at (hr.below hb) m (by omega)
          injection hA with hA
          injection hA with x1 x2
          subst x1 x2
          exact (Kb.out _ hb1 b (o + m * 8) hbl').trans (((bcell HB).1 b (o + m * 8) hbl).trans e0)
        have Hpr := Aside0.mk hpr
        clear hpr d0 d1 d2 d3 d4 d5 d6 d7
        by_cases k2 : (xs[j]'hlt).kind = 2
        · have hp : partOk deep (xs[j]'hlt) = true := by rw [hpe.out, Hq.out, k2]; rfl
          by_cases hj : j = 0
          · subst hj
            have hnx := Aside0.mk (ha.out.trans (chain_step hlt hp (fun m hm h => by omega)))
            rw [k2] at f0
            clear ha hp k2
            go_wp2
            go_roundg (gk - 1)
            case measure => omega
            case rel => exact ⟨1, by go_num, by omega, hnx.out, below_then hb (below_then HB hb1)⟩
          · obtain ⟨m, rfl⟩ : ∃ m, j = m + 1 := ⟨j - 1, by omega⟩
            have e0 := Hpr.out m hlt rfl
            by_cases q2 : (xs[m]'(by omega)).kind = 2
            · have hfin := Aside0.mk (show R = false by rw [ha.out, chain_succ hlt, show noTwo (xs[m]'(by omega)) (xs[m + 1]'hlt) = false by unfold noTwo; rw [q2, k2]; rfl, Bool.and_false]; rfl)
              rw [k2] at f0
              rw [q2] at e0
              clear ha hp k2 q2
              go_wp2
              go_ret
              exact ⟨by rw [hfin.out]; rfl, below_then hb (below_then HB hb1)⟩
            · have hnx := Aside0.mk (ha.out.trans (chain_step hlt hp (fun i hi h => by
                obtain rfl : i = m := by omega
                unfold noTwo
                rw [show ((xs[i]'(by omega)).kind == 2) = false by simpa using q2]; rfl)))
              rw [k2] at f0
              clear ha hp k2
              go_wp2
              go_roundg (gk - 1)
              case measure => omega
              case rel => exact ⟨m + 2, by go_num, by omega, hnx.out, below_then hb (below_then HB hb1)⟩
        · have hno : ∀ m (hm : m + 1 < xs.length), m + 1 = j → noTwo (xs[m]'(by omega)) (xs[m + 1]'hm) = true := fun m hm he => by
            subst he
            unfold noTwo
            rw [show ((xs[m + 1]'hm).kind == 2) = false by simpa using k2, Bool.and_false]; rfl
          have Hno := Aside0.mk hno
          clear hno
          by_cases k1 : (xs[j]'hlt).kind = 1
          · have hpe2 := Aside0.mk (show partOk deep (xs[j]'hlt) = (decide (deep < 7) && kidsOk (deep + 1) none (xs[j]'hlt).kids) by rw [hpe.out, Hq.out, k1]; rfl)
            rw [k1] at f0
            clear k2 k1
            by_cases h7 : deep = 7
            · have hfin := Aside0.mk (show R = false by rw [ha.out, chain_bad hlt (by rw [hpe2.out, decide_eq_false (by omega)]; rfl)])
              subst h7
              clear ha
              go_wp2
              go_ret
              exact ⟨by rw [hfin.out]; rfl, below_then hb (below_then HB hb1)⟩
            · have h7' : ((deep : Int) == 7) = false := by simp; omega
              have HK := Aside0.mk (ih.out (cntL (xs[j]'hlt).kids) (by have := hx.out; have := HN.out; have := hcx.out; omega) (deep + 1) Ak ck (xs[j]'hlt).kids w1 ok (Nat.le_refl _) (fun k hk => (small (Hwt.out _ hmem)).2.2.2.1 k hk) (by omega) (Hs.out.kids.below hb1))
              have hdd : decide (deep < 7) = true := decide_eq_true (by omega)
              have Hdd := Aside0.mk hdd
              clear hdd
              go_wp2_with fail
              refine (HK.out).mono ?_
              rintro e w2 ⟨rfl, hb2⟩
              cases hq2 : kidsOk (deep + 1) none (xs[j]'hlt).kids with
              | false =>
                have hfin := Aside0.mk (show R = false by rw [ha.out, chain_bad hlt (by rw [hpe2.out, hq2, Bool.and_false])])
                clear hq2 ha
                go_wp2
                go_ret
                exact ⟨by rw [hfin.out]; rfl, below_then hb (below_then HB (below_then hb1 hb2))⟩
              | true =>
                have hnx := Aside0.mk (ha.out.trans (chain_step hlt (by rw [hpe2.out, hq2, Hdd.out]; rfl) Hno.out))
                clear hq2 ha
                go_wp2
                go_roundg (gk - 1)
                case measure => omega
                case rel => exact ⟨j + 1, by go_num, by omega, hnx.out, below_then hb (below_then HB (below_then hb1 hb2))⟩
          · have hnx := Aside0.mk (ha.out.trans (chain_step hlt (by rw [hpe.out, Hq.out, show ((xs[j]'hlt).kind != 1) = true by simpa using k1]; rfl) Hno.out))
            clear ha
            go_wp2
            go_roundg (gk - 1)
            case measure => omega
            case rel => exact ⟨j + 1, by go_num, by omega, hnx.out, below_then hb (below_then HB hb1)⟩
    · have hfin := Aside0.mk (show R = true by rw [ha.out, chain_end (by omega)])
      clear ha
      go_wp2
      go_ret
      exact ⟨by rw [hfin.out]; rfl, hb⟩
/-- A row of one node, laid out. -/
theorem row_single {W : World} {ok : Nat → Prop} {n : Nd} {s : Sh} (T : TypeId) (h : NodeIs W ok n s) : Row Kd.node (W.alloc (.cells (n.cells s).toArray T (0, 0))) (fun k => ok k ∨ k = W.heap.size) (some ⟨W.heap.size, 0, none⟩) [n] := by
  refine ⟨by unfold maxLen; simp, .inr ⟨_, _, rfl, .inr rfl, by rw [World.alloc, Array.size_push]; omega, fun i hi => ⟨n.cells s, ?_, fun j v hj => ?_⟩⟩⟩
  · have : ([n] : List Nd)[i]'hi = n := by simp at hi; subst hi; rfl
    rw [this]
    exact ((h.below (below_alloc (Below.refl _ _) _)).mono (fun k hk => .inl hk)).k
  · have hg : (W.alloc (.cells (n.cells s).toArray T (0, 0))).heap[W.heap.size]? = some (.cells (n.cells s).toArray T (0, 0)) := Array.getElem?_push_size
    rw [cell_of_row _ _ _ _ _ _ hg]
    simp at hi
    subst hi
    rw [show 0 + 0 * Kd.node.sz + j = j by omega, List.getElem?_toArray, hj]
theorem kidsOk_one (deep : Nat) (n : Nd) : kidsOk deep none [n] = partOk deep n := by rw [kidsOk_chain]; simp [chain]
theorem specNodeOk_calls (n : Nd) (s : Sh) (w : World) (ok : Nat → Prop) (hwt : wt n ≤ 1048576) (hn : NodeIs w ok n s) :
    Calls Tryz.prog 92 #[.agg #[.int .i64 n.kind, .string n.pre, .string n.loc, .string n.uri, .slice s.Ad n.decls.length s.cd, .slice s.Aa n.attrs.length s.ca, .slice s.Ak n.kids.length s.ck, .string n.text]] w fun e w' => e = .returned (.bool (nodeOk n)) ∧ Below w.heap.size w w' := by
  have hsg := Aside0.mk (fun W (h : NodeIs W ok n s) => row_single 28 h)
  have hcw := cnt_wt n
  have hk1 := Aside0.mk (kidsOk_one 0 n)
  obtain ⟨kind, pre, loc, uri, decls, attrs, kids, text⟩ := n
  obtain ⟨Ad, cd, Aa, ca, Ak, ck⟩ := s
  have hv := Aside0.mk (show nodeOk ⟨kind, pre, loc, uri, decls, attrs, kids, text⟩ = (decide (cnt ⟨kind, pre, loc, uri, decls, attrs, kids, text⟩ ≤ 60) && (if kind = 0 then
    isNo pre && isNo loc && isNo uri && isNo text && decls.isEmpty && attrs.isEmpty && decide (ofKind kids 1 = 1) && decide (ofKind kids 2 = 0) && kidsOk 0 none kids
  else partOk 0 ⟨kind, pre, loc, uri, decls, attrs, kids, text⟩)) from rfl)
  obtain ⟨⟨z1, z2, z3, z4⟩, zd, za, zk, l1, l2, l3⟩ := small hwt
  obtain ⟨R, hR⟩ : ∃ R, R = nodeOk ⟨kind, pre, loc, uri, decls, attrs, kids, text⟩ := ⟨_, rfl⟩
  obtain ⟨N, hN⟩ : ∃ N, N = cnt ⟨kind, pre, loc, uri, decls, attrs, kids, text⟩ := ⟨_, rfl⟩
  rw [← hN] at hcw hv
  rw [← hR] at hv ⊢
  clear hR
  simp only [Nd.cells] at z1 z2 z3 z4 zd za zk l1 l2 l3 hsg ⊢
  obtain ⟨W, hW, HB, hsz, HG⟩ := boxed w #[.int .i64 kind, .string pre, .string loc, .string uri, .slice Ad decls.length cd, .slice Aa attrs.length ca, .slice Ak kids.length ck, .string text] 28
  have K := Aside0.mk (fun W1 hb => box_cells (((hb : Below W.heap.size W W1).block _ hsz).trans HG))
  have HCnt := Aside0.mk (specCountOf_calls N ⟨kind, pre, loc, uri, decls, attrs, kids, text⟩ ⟨Ad, cd, Aa, ca, Ak, ck⟩ W ok (by omega) (by omega) (hn.below HB))
  rw [← hN] at HCnt
  have hN60 : N ≤ 1048577 := by omega
  have hN' := Aside0.mk hN
  have hwt' := Aside0.mk hwt
  have HW := Aside0.mk hW
  clear hW
  have Zd := Aside0.mk zd
  clear zd
  have Za := Aside0.mk za
  clear za
  have Zk := Aside0.mk zk
  clear zk
  have Hn := Aside0.mk (hn.below HB)
  clear HG hn hwt hcw hN
  simp only at HCnt
  go_enter Tryz.func92, Tryz.ntmps92
  go_upto_region 1 with fail
  rw [← HW.out]
  obtain ⟨c0, c1, c2, c3, c4, c5, c6, c7⟩ := K.out _ (Below.refl _ _)
  go_wp2_with fail
  refine (HCnt.out).mono ?_
  rintro e w1 ⟨rfl, hb1⟩
  obtain ⟨d0, d1, d2, d3, d4, d5, d6, d7⟩ := K.out _ hb1
  clear c0 c1 c2 c3 c4 c5 c6 c7
  by_cases h60 : N ≤ 60
  case neg =>
    have hfin := Aside0.mk (show R = false by rw [hv.out, decide_eq_false h60]; rfl)
    go_wp2
    go_ret
    exact ⟨by rw [hfin.out]; rfl, below_then HB hb1⟩
  by_cases hk : kind = 0
  case neg =>
    have hfin := Aside0.mk (show R = kidsOk 0 none [⟨kind, pre, loc, uri, decls, attrs, kids, text⟩] by rw [hv.out, decide_eq_true h60, if_neg hk, hk1.out]; rfl)
    have hrow := Aside0.mk (hsg.out w1 (Hn.out.below hb1))
    have HP := Aside0.mk (fun c => specKids_calls (cntL [⟨kind, pre, loc, uri, decls, attrs, kids, text⟩]) 0 _ c _ _ _ (Nat.le_refl _) (fun k hk => by rw [List.mem_singleton] at hk; subst hk; exact hwt'.out) (by omega) hrow.out)
    simp only [Int.natCast_zero, List.length_singleton] at HP
    go_wp2_with fail
    refine (HP.out _).mono ?_
    rintro e w2 ⟨rfl, hb2⟩
    go_wp2
    go_ret
    exact ⟨by rw [hfin.out]; rfl, below_then HB (below_then hb1 (below_then (below_alloc (Below.refl _ _) _) hb2))⟩
  have hv1 := Aside0.mk (show R = (isNo pre && isNo loc && isNo uri && isNo text && decls.isEmpty && attrs.isEmpty && decide (ofKind kids 1 = 1) && decide (ofKind kids 2 = 0) && kidsOk 0 none kids) by rw [hv.out, decide_eq_true h60, if_pos hk]; rfl)
  subst hk
  clear hv hk1 hsg HCnt
  have hrow := Aside0.mk (Hn.out.kids.below hb1)
  simp only at hrow
  have hszW : w.heap.size < w1.heap.size := Nat.lt_of_lt_of_le hsz hb1.size
  have hmax : kids.length ≤ 9223372036854775807 := by omega
  have o1 := ofKind_le kids 1
  go_wp2
  go_loopg [3, 4] kids.length (fun k n i wr => ∃ (j m : Nat), i = .int .i64 j ∧ n = .int .i64 m ∧ m ≤ j ∧ j + k = kids.length ∧ Aside (m = ofKind (kids.take j) 1 ∧ ofKind (kids.take j) 2 = 0) ∧ wr = w1)
  case atStart => exact ⟨0, 0, rfl, rfl, Nat.le_refl _, by omega, (⟨by simp [ofKind], by simp [ofKind]⟩ : 0 = ofKind (kids.take 0) 1 ∧ ofKind (kids.take 0) 2 = 0), rfl⟩
  case round =>
    obtain ⟨j, m, rfl, rfl, hmj, hk, ha, rfl⟩ := hrel
    by_cases hlt : j < kids.length
    · obtain ⟨b, o, s', rfl, hbl, hs', e0, e1, e2, e3, e4, e5, e6, e7⟩ := node_at hrow.out j hlt
      have ht1 := ofKind_take kids 1 j hlt
      have ht2 := ofKind_take kids 2 j hlt
      have i1 : (j : Int) < (kids.length : Int) := by omega
      clear hs'
      by_cases q1 : (kids[j]'hlt).kind = 1
      · have hnx := Aside0.mk (show m + 1 = ofKind (kids.take (j + 1)) 1 ∧ ofKind (kids.take (j + 1)) 2 = 0 by rw [ht1, ht2, if_pos q1, if_neg (by rw [q1]; decide), ha.out.1, ha.out.2]; exact ⟨rfl, rfl⟩)
        rw [q1] at e0
        clear ha ht1 ht2 q1
        go_wp2
        go_roundg (gk - 1)
        case measure => omega
        case rel => exact ⟨j + 1, m + 1, by go_num, by go_num, by omega, by omega, hnx.out, rfl⟩
      · by_cases q2 : (kids[j]'hlt).kind = 2
        · have h2 : ¬ ofKind kids 2 = 0 := fun h => by
            have hle : ofKind (kids.take (j + 1)) 2 ≤ ofKind kids 2 := List.Sublist.length_le ((List.take_sublist _ _).filter _)
            rw [ht2, if_pos q2] at hle
            omega
          have hfin := Aside0.mk (show R = false by rw [hv1.out, decide_eq_false h2]; simp)
          rw [q2] at e0
          clear ha ht1 ht2 q1 q2 h2
          go_wp2
          go_ret
          exact ⟨by rw [hfin.out]; rfl, below_then HB hb1⟩
        · have hnx := Aside0.mk (show m = ofKind (kids.take (j + 1)) 1 ∧ ofKind (kids.take (j + 1)) 2 = 0 by rw [ht1, ht2, if_neg q1, if_neg q2, ha.out.1, ha.out.2]; exact ⟨rfl, rfl⟩)
          clear ha ht1 ht2
          go_wp2
          go_roundg (gk - 1)
          case measure => omega
          case rel => exact ⟨j + 1, m, by go_num, rfl, by omega, by omega, hnx.out, rfl⟩
    · have hm := Aside0.mk (show m = ofKind kids 1 ∧ ofKind kids 2 = 0 by have := ha.out; rwa [List.take_of_length_le (by omega)] at this)
      clear ha
      have hv2 := Aside0.mk (show R = (isNo pre && isNo loc && isNo uri && isNo text && decls.isEmpty && attrs.isEmpty && decide (m = 1) && kidsOk 0 none kids) by rw [hv1.out, ← hm.out.1, hm.out.2]; simp)
      by_cases q1 : m = 1
      case neg =>
        have hfin := Aside0.mk (show R = false by rw [hv2.out, decide_eq_false q1]; simp)
        have q2 : ((m : Int) == 1) = false := by simp; omega
        go_wp2
        go_ret
        exact ⟨by rw [hfin.out]; rfl, below_then HB hb1⟩
      subst q1
      by_cases p1 : pre = ⟨#[]⟩
      case neg =>
        have hfin := Aside0.mk (show R = false by rw [hv2.out, isNo_no p1]; rfl)
        have n1 := str_ne0 p1
        have n2 := str_neE p1
        clear p1
        go_wp2
        go_ret
        exact ⟨by rw [hfin.out]; rfl, below_then HB hb1⟩
      subst p1
      by_cases p2 : loc = ⟨#[]⟩
      case neg =>
        have hfin := Aside0.mk (show R = false by rw [hv2.out, isNo_no p2]; simp)
        have n1 := str_ne0 p2
        have n2 := str_neE p2
        clear p2
        go_wp2
        go_ret
        exact ⟨by rw [hfin.out]; rfl, below_then HB hb1⟩
      subst p2
      by_cases p3 : uri = ⟨#[]⟩
      case neg =>
        have hfin := Aside0.mk (show R = false by rw [hv2.out, isNo_no p3]; simp)
        have n1 := str_ne0 p3
        have n2 := str_neE p3
        clear p3
        go_wp2
        go_ret
        exact ⟨by rw [hfin.out]; rfl, below_then HB hb1⟩
      subst p3
      by_cases p4 : text = ⟨#[]⟩
      case neg =>
        have hfin := Aside0.mk (show R = false by rw [hv2.out, isNo_no p4]; simp)
        have n1 := str_ne0 p4
        have n2 := str_neE p4
        clear p4
        go_wp2
        go_ret
        exact ⟨by rw [hfin.out]; rfl, below_then HB hb1⟩
      subst p4
      by_cases p5 : decls = []
      case neg =>
        have hfin := Aside0.mk (show R = false by rw [hv2.out, show decls.isEmpty = false by simpa using p5]; simp)
        have n1 : 0 < decls.length := List.length_pos_iff.2 p5
        have n2 : ((decls.length : Int) == 0) = false := by simp; exact p5
        clear p5
        go_wp2
        go_ret
        exact ⟨by rw [hfin.out]; rfl, below_then HB hb1⟩
      subst p5
      by_cases p6 : attrs = []
      case neg =>
        have hfin := Aside0.mk (show R = false by rw [hv2.out, show attrs.isEmpty = false by simpa using p6]; simp)
        have n1 : 0 < attrs.length := List.length_pos_iff.2 p6
        have n2 : ((attrs.length : Int) == 0) = false := by simp; exact p6
        clear p6
        go_wp2
        go_ret
        exact ⟨by rw [hfin.out]; rfl, below_then HB hb1⟩
      subst p6
      have hfin := Aside0.mk (show R = kidsOk 0 none kids by rw [hv2.out]; rfl)
      have HP := Aside0.mk (specKids_calls (cntL kids) 0 Ak ck kids _ _ (Nat.le_refl _) Zk.out (by omega) hrow.out)
      simp only [Int.natCast_zero] at HP
      go_wp2_with fail
      refine (HP.out).mono ?_
      rintro e w2 ⟨rfl, hb2⟩
      go_wp2
      go_ret
      exact ⟨by rw [hfin.out]; rfl, below_then HB (below_then hb1 hb2)⟩
end Go.Proofs.YtpcklgkpjmmakaaGreatDoor
