/- ProofOf, of the program. -/
import Derived.Test.YtpcklgkpjmmakaaGreatDoorPfB
import Derived.Test.YtpcklgkpjmmakaaGreatDoorFitA
import Derived.Test.YtpcklgkpjmmakaaGreatDoorSumOf
namespace Go.Proofs.YtpcklgkpjmmakaaGreatDoor
open Go.RowKit Go.Lib
set_option linter.unusedVariables false
set_option linter.unusedSimpArgs false
set_option maxHeartbeats 4000000
set_option maxRecDepth 100000
def pfV (path : List Int) (n : Nd) : Option (List Int × List (List Int)) := if (nodeAt path n).isSome = true ∧ treeOk n = true ∧ path.length ≤ 8 then some (pfOwn path n, pfKids path n) else none
def pfO (o : Option (List Int × List (List Int))) : List Int := (o.getD ([], [])).1
def pfK (o : Option (List Int × List (List Int))) : List (List Int) := (o.getD ([], [])).2
def PfOut (o : Option (List Int × List (List Int))) (w : World) (e : Ending) (w' : World) : Prop := ∃ (base : Nat) (vo vk : Value) (sl : List Value), w.heap.size ≤ base ∧ e = .returned (.tuple #[.agg #[vo, vk], .bool o.isSome]) ∧ PfM w' base vo vk (pfO o) (pfK o) sl ∧ Below w.heap.size w w'
theorem PfM.nil (w : World) (base : Nat) : PfM w base (.slice none 0 0) (.slice none 0 0) [] [] [] :=
  ⟨World.ownsRow_nil _ _ _ _, ⟨World.ownsRow_nil _ _ _ _, rfl, fun i hi => absurd hi (Nat.not_lt_zero _), fun i hi => absurd hi (Nat.not_lt_zero _), fun i j hi => absurd hi (Nat.not_lt_zero _)⟩, fun k hk => (by cases hk), fun v hv => (by cases hv)⟩
theorem NdOut.is {o : Option Nd} {w w' : World} {e : Ending} (h : NdOut o w e w') : ∃ (y : Nd) (s' : Sh), e = .returned (.tuple #[.agg #[.int .i64 y.kind, .string y.pre, .string y.loc, .string y.uri, .slice s'.Ad y.decls.length s'.cd, .slice s'.Aa y.attrs.length s'.ca, .slice s'.Ak y.kids.length s'.ck, .string y.text], .bool o.isSome]) ∧ y = o.getD nd0 ∧ NodeIs w' (fun k => w.heap.size ≤ k) y s' ∧ Below w.heap.size w w' := by
  obtain ⟨⟨s', he, hn⟩, hb⟩ := h
  exact ⟨_, s', he, rfl, hn, hb⟩
theorem nat_ints {w : World} {base : Nat} {ok : Nat → Prop} {v : Value} {xs : List Nat} (h : Own Kd.nat 3 w base ok v xs) : ∃ A c, v = .slice A (intsN xs).length c ∧ w.ownsRow base 3 1 (.slice A (intsN xs).length c) (intsN xs).length (ints (intsN xs)) := by
  obtain ⟨cells, ho, hl, hs⟩ := h
  have hlen : (intsN xs).length = xs.length := by rw [intsN, List.length_map]
  have e : cells = ints (intsN xs) := by
    apply List.ext_getElem
    · rw [hl, ints, intsN, List.length_map, List.length_map]; exact Nat.mul_one _
    · intro i h1 h2
      have hi : i < xs.length := by rw [hl] at h1; have : xs.length * Kd.nat.sz = xs.length := Nat.mul_one _; omega
      have hh : (cells.drop (i * 1)).take 1 = [.int .i64 ((xs[i]'hi : Nat) : Int)] := hs i hi
      rw [Nat.mul_one, List.drop_eq_getElem_cons h1, List.take_succ_cons, List.take_zero] at hh
      injection hh with hh _
      rw [hh]
      simp [ints, intsN]
  subst e
  obtain ⟨A, c, rfl, _⟩ := own_shape ho
  have ho2 : w.ownsRow base 3 1 (.slice A xs.length c) xs.length (ints (intsN xs)) := ho
  rw [← hlen] at ho2
  exact ⟨A, c, by rw [hlen], ho2⟩
/-- A function's start: the parameter's box, and the result's. -/
structure PR (w W : World) (ok : Nat → Prop) (g : Nat) (x : Nd) (s : Sh) : Prop where
  xb : XB w W ok 28 g x s
  res : W.heap[w.heap.size + 1]? = some (.cells #[.slice none 0 0, .slice none 0 0] 35 (0, 0))
theorem PR.next {w W W1 : World} {ok : Nat → Prop} {g : Nat} {x : Nd} {s : Sh} (h : PR w W ok g x s) (hb : Below W.heap.size W W1) : PR w W1 ok g x s :=
  ⟨h.xb.next hb, (hb.block _ (Array.getElem?_eq_some_iff.1 h.res).1).trans h.res⟩
theorem PR.start {w : World} {ok : Nat → Prop} {n : Nd} {s : Sh} (hn : NodeIs w ok n s) : PR w ((w.alloc (.cells (n.cells s).toArray 28)).alloc (.cells #[.slice none 0 0, .slice none 0 0] 35)) ok w.heap.size n s := by
  have s1 := alloc_size w (.cells (n.cells s).toArray 28)
  refine ⟨⟨below_alloc (below_alloc (Below.refl _ _) _) _, Nat.le_refl _, ?_, hn⟩, ?_⟩
  · rw [alloc_old _ _ _ (by omega)]; exact alloc_at _ _
  · rw [← s1]; exact alloc_at _ _
/-- The result's box is filled. -/
theorem res_put {W Y : World} {g : Nat} {a b : Value} {T : TypeId} {x y : Value} (hr : W.heap[g]? = some (.cells #[x, y] T (0, 0))) (hY : Y = (W.setCell ⟨g, 0, none⟩ a).setCell ⟨g, 1, none⟩ b) :
    Y.heap[g]? = some (.cells #[a, b] T (0, 0)) ∧ ∀ k, k ≠ g → Y.heap[k]? = W.heap[k]? := by
  refine ⟨by rw [hY]; exact heap_setCell_same _ g 1 _ _ _ (heap_setCell_same W g 0 _ _ _ hr), fun k hk => by rw [hY]; exact (Below.heap_setCell _ _ _ _ hk).trans (Below.heap_setCell _ _ _ _ hk)⟩
theorem two_cells {W : World} {g : Nat} {x y : Value} {T : TypeId} (hr : W.heap[g]? = some (.cells #[x, y] T (0, 0))) : W.cell? ⟨g, 0, none⟩ = some x ∧ W.cell? ⟨g, 1, none⟩ = some y ∧ W.frozen? ⟨g, 0, none⟩ = false ∧ W.frozen? ⟨g, 1, none⟩ = false :=
  ⟨cell_of_row W g 0 _ _ _ hr, cell_of_row W g 1 _ _ _ hr, frozen_of_row W g 0 _ _ hr, frozen_of_row W g 1 _ _ hr⟩
theorem PS.start {w W : World} {ok : Nat → Prop} {g : Nat} {x : Nd} {s : Sh} (h : PR w W ok g x s) (hg : g = w.heap.size) (hw : w.heap.size + 1 < W.heap.size) :
    PS w (W.alloc (.cells #[.slice none 0 0, .slice none 0 0] 35)) ok (W.heap.size + 1) W.heap.size g (.slice none 0 0) (.slice none 0 0) [] [] [] x s := by
  have h2 := h.next (below_alloc (Below.refl _ _) (.cells #[.slice none 0 0, .slice none 0 0] 35))
  exact ⟨h2.xb, h2.res, alloc_at _ _, PfM.nil _ _, ⟨hw, by omega⟩, ⟨by omega, by omega, by omega, by omega⟩, by rw [alloc_size]; omega⟩
theorem implProofOf_calls {ok o1 : Nat → Prop} (n : Nd) (s : Sh) (P : Option Addr) (path : List Int) (cp : Nat) (w : World) (hwt : wt n ≤ 1048576) (hn : NodeIs w ok n s) (hp : Row (Kd.int .i64) w o1 P path) (hE : Env w) (hF : Folds w) :
    Calls Tryz.prog 8 #[.agg #[.int .i64 n.kind, .string n.pre, .string n.loc, .string n.uri, .slice s.Ad n.decls.length s.cd, .slice s.Aa n.attrs.length s.ca, .slice s.Ak n.kids.length s.ck, .string n.text], .slice P path.length cp] w (PfOut (pfV path n) w) := by
  obtain ⟨R, hR⟩ : ∃ R, R = pfV path n := ⟨_, rfl⟩
  rw [← hR]
  have hpm := hp.max
  have HR := Aside0.mk hR
  have HP := Aside0.mk (fun W1 (hb : Below w.heap.size w W1) => hp.below hb)
  have HP0 := Aside0.mk (PR.start hn)
  have Hwt := Aside0.mk hwt
  have HE := Aside0.mk (fun W1 (hb : Below w.heap.size w W1) => hE.below hb)
  have HF := Aside0.mk (fun W1 (hb : Below w.heap.size w W1) => hF.below hb)
  obtain ⟨i, hi, hz0, hz1, hz2⟩ := info_parts Tryz.info_int
  obtain ⟨i', hi', hz0', hz1', hz2'⟩ := info_parts Tryz.info_ints
  have Hz2 := Aside0.mk hz2
  clear hz2
  have Hz2' := Aside0.mk hz2'
  clear hz2'
  clear hR hp hn hwt hE hF
  go_enter Tryz.func8, Tryz.ntmps8
  go_upto_region 1 with fail
  obtain ⟨W0, hW0⟩ : ∃ W0, W0 = ((w.alloc (.cells (n.cells s).toArray 28)).alloc (.cells #[.slice none 0 0, .slice none 0 0] 35)) := ⟨_, rfl⟩
  rw [← hW0] at HP0
  have hW0' : W0 = ((w.alloc (.cells #[.int .i64 n.kind, .string n.pre, .string n.loc, .string n.uri, .slice s.Ad n.decls.length s.cd, .slice s.Aa n.attrs.length s.ca, .slice s.Ak n.kids.length s.ck, .string n.text] 28)).alloc (.cells #[.slice none 0 0, .slice none 0 0] 35)) := hW0
  rw [← hW0']
  clear hW0 hW0'
  obtain ⟨c0, c1, c2, c3, c4, c5, c6, c7⟩ := HP0.out.xb.cells
  have HN := Aside0.mk ((implNodeAt_calls n s P path cp W0 Hwt.out HP0.out.xb.here (HP.out _ HP0.out.xb.below)).mono (fun _ _ h => NdOut.is h))
  obtain ⟨q, hq⟩ : ∃ q, q = (nodeAt path n).isSome := ⟨_, rfl⟩
  rw [← hq] at HN
  replace hq := Aside0.mk hq
  go_wp2_with fail
  refine (HN.out).mono ?_
  rintro e w1 ⟨y, s1, rfl, -, hs1, hb1⟩
  clear hs1 c0 c1 c2 c3 c4 c5 c6 c7
  go_upto_region 2 with fail
  obtain ⟨W2, hW2⟩ : ∃ W2, W2 = w1.alloc (.cells #[.int .i64 y.kind, .string y.pre, .string y.loc, .string y.uri, .slice s1.Ad y.decls.length s1.cd, .slice s1.Aa y.attrs.length s1.ca, .slice s1.Ak y.kids.length s1.ck, .string y.text] 28) := ⟨_, rfl⟩
  have H2 := Aside0.mk ((HP0.out.next hb1).next (show Below w1.heap.size w1 W2 by rw [hW2]; exact below_alloc (Below.refl _ _) _))
  rw [← hW2]
  clear hW2 hb1
  cases q with
  | false =>
    have hfin := Aside0.mk (show R = none by rw [HR.out, pfV, if_neg (by rw [← hq.out]; simp)])
    obtain ⟨q0, q1, f0, f1⟩ := two_cells H2.out.res
    go_wp2
    obtain ⟨Y, hY⟩ : ∃ Y, Y = (W2.setCell ⟨w.heap.size + 1, 0, none⟩ (.slice none 0 0)).setCell ⟨w.heap.size + 1, 1, none⟩ (.slice none 0 0) := ⟨_, rfl⟩
    rw [← hY]
    have hYb : Below w.heap.size w Y := by rw [hY]; exact below_setNew (below_setNew H2.out.xb.below (by omega)) (by omega)
    obtain ⟨p0, p1, _, _⟩ := two_cells (res_put H2.out.res hY).1
    clear hY q0 q1 f0 f1
    refine bodyPost_ret (v := .tuple #[.agg #[.slice none 0 0, .slice none 0 0], .bool false]) ?hres rfl ⟨w.heap.size, .slice none 0 0, .slice none 0 0, [], Nat.le_refl _, by rw [hfin.out]; rfl, by rw [hfin.out]; exact PfM.nil _ _, hYb⟩
    case hres => simp [results, Tryz.results8, go_sem, p0, p1]
  | true =>
  obtain ⟨c0, c1, c2, c3, c4, c5, c6, c7⟩ := H2.out.xb.cells
  have HT := Aside0.mk (implTreeOk_calls n s W2 ok Hwt.out H2.out.xb.here (HE.out _ H2.out.xb.below) (HF.out _ H2.out.xb.below))
  obtain ⟨r, hr⟩ : ∃ r, r = treeOk n := ⟨_, rfl⟩
  rw [← hr] at HT
  replace hr := Aside0.mk hr
  cases r with
  | false =>
    go_wp2_with fail
    refine (HT.out).mono ?_
    rintro e w3 ⟨rfl, hb3⟩
    have H3 := Aside0.mk (H2.out.next hb3)
    have hfin := Aside0.mk (show R = none by rw [HR.out, pfV, if_neg (by rw [← hr.out]; simp)])
    clear c0 c1 c2 c3 c4 c5 c6 c7
    obtain ⟨q0, q1, f0, f1⟩ := two_cells H3.out.res
    go_wp2
    obtain ⟨Y, hY⟩ : ∃ Y, Y = (w3.setCell ⟨w.heap.size + 1, 0, none⟩ (.slice none 0 0)).setCell ⟨w.heap.size + 1, 1, none⟩ (.slice none 0 0) := ⟨_, rfl⟩
    rw [← hY]
    have hYb : Below w.heap.size w Y := by rw [hY]; exact below_setNew (below_setNew H3.out.xb.below (by omega)) (by omega)
    obtain ⟨p0, p1, _, _⟩ := two_cells (res_put H3.out.res hY).1
    clear hY q0 q1 f0 f1
    refine bodyPost_ret (v := .tuple #[.agg #[.slice none 0 0, .slice none 0 0], .bool false]) ?hres rfl ⟨w.heap.size, .slice none 0 0, .slice none 0 0, [], Nat.le_refl _, by rw [hfin.out]; rfl, by rw [hfin.out]; exact PfM.nil _ _, hYb⟩
    case hres => simp [results, Tryz.results8, go_sem, p0, p1]
  | true =>
  go_wp2_with fail
  refine (HT.out).mono ?_
  rintro e w3 ⟨rfl, hb3⟩
  have H3 := Aside0.mk (H2.out.next hb3)
  clear c0 c1 c2 c3 c4 c5 c6 c7 hb3
  by_cases h8 : path.length ≤ 8
  case neg =>
    have h8' : (8 : Int) < (path.length : Int) := by omega
    have hfin := Aside0.mk (show R = none by rw [HR.out, pfV, if_neg (by simp [h8])])
    clear h8
    obtain ⟨q0, q1, f0, f1⟩ := two_cells H3.out.res
    go_wp2
    obtain ⟨Y, hY⟩ : ∃ Y, Y = (w3.setCell ⟨w.heap.size + 1, 0, none⟩ (.slice none 0 0)).setCell ⟨w.heap.size + 1, 1, none⟩ (.slice none 0 0) := ⟨_, rfl⟩
    rw [← hY]
    have hYb : Below w.heap.size w Y := by rw [hY]; exact below_setNew (below_setNew H3.out.xb.below (by omega)) (by omega)
    obtain ⟨p0, p1, _, _⟩ := two_cells (res_put H3.out.res hY).1
    clear hY q0 q1 f0 f1
    refine bodyPost_ret (v := .tuple #[.agg #[.slice none 0 0, .slice none 0 0], .bool false]) ?hres rfl ⟨w.heap.size, .slice none 0 0, .slice none 0 0, [], Nat.le_refl _, by rw [hfin.out]; rfl, by rw [hfin.out]; exact PfM.nil _ _, hYb⟩
    case hres => simp [results, Tryz.results8, go_sem, p0, p1]
  have h8' : ¬ ((8 : Int) < (path.length : Int)) := by omega
  have HR2 := Aside0.mk (show R = some (pfOwn path n, pfKids path n) by rw [HR.out, pfV, if_pos ⟨hq.out.symm, hr.out.symm, h8⟩])
  have hnode := Aside0.mk (show ∃ z, nodeAt path n = some z from Option.isSome_iff_exists.1 hq.out.symm)
  have hsz0 := Aside0.mk (show w.heap.size + 1 < w3.heap.size from (Array.getElem?_eq_some_iff.1 H3.out.res).1)
  have HS0 := Aside0.mk (PS.start H3.out rfl hsz0.out)
  obtain ⟨base, hbase⟩ : ∃ base, base = w3.heap.size + 1 := ⟨_, rfl⟩
  obtain ⟨g8, hg8⟩ : ∃ g8, g8 = w3.heap.size := ⟨_, rfl⟩
  rw [← hbase, ← hg8] at HS0
  clear hbase
  go_upto_region 5 with fail
  obtain ⟨W4, hW4⟩ : ∃ W4, W4 = w3.alloc (.cells #[.slice none 0 0, .slice none 0 0] 35) := ⟨_, rfl⟩
  rw [← hW4] at HS0 ⊢
  rw [← hg8]
  clear hW4 hg8 h8'
  go_wp2_with fail
  go_loopg [36] path.length (fun k iv wr => ∃ (j : Nat) (x : Nd) (t : Sh) (vo vk : Value) (sl : List Value) (own : List Int) (kids : List (List Int)), iv = .int .i64 (j : Nat) ∧ j + k = path.length ∧ Aside (PS w wr ok base g8 w.heap.size vo vk own kids sl x t) ∧
    Aside (∃ z, nodeAt (path.drop j) x = some z) ∧ Aside (own ++ pfOwn (path.drop j) x = pfOwn path n ∧ kids ++ pfKids (path.drop j) x = pfKids path n ∧ own.length = j ∧ kids.length = j ∧ wt x ≤ 1048576))
  case atStart => exact ⟨0, n, s, _, _, [], [], [], rfl, by omega, HS0.out, hnode.out, ⟨rfl, rfl, rfl, rfl, Hwt.out⟩⟩
  case round =>
    clear HN HT HP0 H2 H3 hnode HS0
    obtain ⟨j, x, t, vo, vk, sl, own, kids, rfl, hk, hS, hz, hL⟩ := hrel
    have HS := Aside0.mk hS.out
    have HL := Aside0.mk hL.out
    have HZ := Aside0.mk hz.out
    clear hS hz hL
    obtain ⟨wo, rfl⟩ : ∃ x, x = wr := ⟨_, rfl⟩
    have hLX := HL.out
    by_cases hlt : j < path.length
    · obtain ⟨b, o, rfl, hbl, d⟩ := int_at (HP.out _ HS.out.xb.below) j hlt
      obtain ⟨z, hz⟩ := HZ.out
      rw [drop_at hlt] at hz
      obtain ⟨m, hm, hv, hz2⟩ := nodeAt_step hz
      obtain ⟨L1, L2, L3, L4, L5⟩ := hLX
      rw [drop_at hlt, pfOwn_good hv hm] at L1
      rw [drop_at hlt, pfKids_good hv hm] at L2
      rw [hv] at d
      obtain ⟨kb, ko, t2, hAk, hkb, hkn, e0, e1, e2, e3, e4, e5, e6, e7⟩ := kid_is HS.out.xb.node m hm
      have hw2 := Nat.le_trans (wt_at hm) L5
      obtain ⟨y, hy⟩ : ∃ y, y = x.kids[m]'hm := ⟨_, rfl⟩
      rw [← hy] at L1 L2 hz2 hkn e0 e1 e2 e3 e4 e5 e6 e7 hw2
      have HKID := Aside0.mk (And.intro hkb (And.intro hkn (And.intro e0 (And.intro e1 (And.intro e2 (And.intro e3 (And.intro e4 (And.intro e5 (And.intro e6 e7)))))))))
      have HL2 := Aside0.mk (And.intro L1 (And.intro L2 (And.intro hw2 hz2)))
      obtain ⟨_, _, _, zk, l1, l2, l3⟩ := small L5
      have ZK := Aside0.mk zk
      have Hwx := Aside0.mk L5
      have hL34 := Aside0.mk (And.intro L3 L4)
      have hj8 : j ≤ 8 := by omega
      obtain ⟨Ao, co, hvo, _⟩ := own_shape HS.out.pm.own
      obtain ⟨Bk, ck, hvk, _⟩ := own_shape HS.out.pm.mm.outer
      have hsl : sl.length = kids.length := by have := HS.out.pm.mm.len; rw [List.length_map] at this; exact this.symm
      rw [L3] at hvo
      rw [hsl, L4] at hvk
      subst hvo hvk
      have Hsl := Aside0.mk (hsl.trans L4)
      obtain ⟨hash, hhash⟩ : ∃ hash : Nat, hash = hashB (wNode (alone x)) := ⟨_, rfl⟩
      rw [← hhash] at HL2
      replace hhash := Aside0.mk hhash
      obtain ⟨c0, c1, c2, c3, c4, c5, c6, c7⟩ := HS.out.xb.cells
      have hkm := HS.out.xb.node.kids
      have c6a := (HS.out.next (below_alloc (Below.refl wo.heap.size wo) (.cells #[] 3))).xb.cells.2.2.2.2.2.2.1
      obtain ⟨Ad, cd, Aa, ca, Ak, ckk⟩ := t
      simp only at c4 c5 c6 c6a hAk hkm
      subst hAk
      have hmx : (m : Int) < (x.kids.length : Int) := by omega
      have hsl2 := Aside0.mk (sums_length x.kids)
      have D1 := Aside0.mk (And.intro hbl d)
      clear L1 L2 L3 L4 L5 hz hz2 hv hw2 hy hkb hkn e0 e1 e2 e3 e4 e5 e6 e7 zk hsl HL HZ
      go_wp2_with fail
      go_loopg [11, 44] x.kids.length (fun k v iv wr => ∃ (p : Nat), iv = .int .i64 (p : Nat) ∧ p + k = x.kids.length ∧ Aside (OwnG Kd.nat 3 wr wo.heap.size v ((sumsN x.kids).take p)) ∧ Below wo.heap.size wo wr)
      case atStart => exact ⟨0, rfl, by omega, OwnG.made _ 0 _ _ _ (Nat.le_refl _), below_alloc (Below.refl _ _) _⟩
      case round =>
        clear c0 c1 c2 c3 c4 c5 c6 c6a c7 d
        obtain ⟨p, rfl, hkp, ha, hb⟩ := hrel
        have HBW := Aside0.mk (below_then HS.out.xb.below hb)
        by_cases hltp : p < x.kids.length
        · obtain ⟨b', o', s', hA', hbl', hs', d0, d1, d2, d3, d4, d5, d6, d7⟩ := node_at (hkm.below HBW.out) p hltp
          have HI := Aside0.mk (fun W1 (hW : Below wr.heap.size wr W1) => implSumOf_calls (cnt (x.kids[p]'hltp)) (x.kids[p]'hltp) s' W1 ok (Nat.le_refl _) (ZK.out _ (List.getElem_mem hltp)) (hs'.below hW) (HE.out _ (below_then HBW.out hW)) (HF.out _ (below_then HBW.out hW)))
          injection hA' with hA'
          injection hA' with hb1 hb2 _
          subst hb1 hb2
          obtain ⟨ys, hys⟩ : ∃ ys, ys = (sumsN x.kids).take p := ⟨_, rfl⟩
          rw [← hys] at ha
          obtain ⟨cells, hown, hsays⟩ := ha
          have hlen : ys.length ≤ 1048576 := by rw [hys, List.length_take]; omega
          have hys2 := Aside0.mk (show (sumsN x.kids).take (p + 1) = ys ++ [sumN (x.kids[p]'hltp)] by rw [sums_take _ _ hltp, hys])
          clear hys
          have hown' := Aside0.mk hown
          have hsays := Aside0.mk hsays
          have hlt3 := hown.lt
          have Hlt3 := Aside0.mk hlt3
          clear hown hlt3 hs'
          go_wp2_with fail
          refine (HI.out _ (below_alloc (Below.refl _ _) _)).mono ?_
          rintro e w2 ⟨rfl, hb2⟩
          have hb2 := below_then (below_alloc (Below.refl wr.heap.size wr) _) hb2
          obtain ⟨sx, hsx⟩ : ∃ sx : Nat, sx = sumN (x.kids[p]'hltp) := ⟨_, rfl⟩
          rw [← hsx] at hys2 ⊢
          clear hsx
          have ho2 := Aside0.mk (own_below hown'.out hb2)
          have hbase : wo.heap.size ≤ w2.heap.size := Nat.le_trans hb.size hb2.size
          go_wp2_with (at_builtin; refine wpList_append_own_at _ rfl _ _ 29 rfl wo.heap.size 3 i _ 1 _ Tryz.underlying29 hi hz0 hz1 rfl rfl (by decide) _ _ _ rfl (ho2.out.alloc _) ⟨w2.heap.size, 0, none⟩ 1 1 [.int .i64 (sx : Int)] rfl ?qc1 ?qc2 ?qc3 ?qc4 ?qc5 ?qc6 ?_)
          case qc1 => rfl
          case qc2 => exact nat_news w2 sx _
          case qc3 => exact nat_one sx
          case qc4 => unfold maxLen; omega
          case qc5 => rw [Hz2.out]; omega
          case qc6 => simp; omega
          intro v' w3 hown3 hgrow3 _ hat3
          have HN3 := Aside0.mk (OwnG.snoc (d := Kd.nat) (x := sx) hown'.out hsays.out hb.size hb2 rfl hown3 hgrow3 hat3)
          have HB3 := below_grown (below_alloc (below_then hb hb2) _) hgrow3 (fun k hk => (Hlt3.out k hk).1)
          clear hown3 hgrow3 hat3
          go_wp2
          go_roundg (x.kids.length - (p + 1))
          case measure => omega
          case rel => exact ⟨p + 1, by go_num, by omega, (by rw [hys2.out]; exact HN3.out : OwnG Kd.nat 3 _ _ _ ((sumsN x.kids).take (p + 1))), HB3⟩
        · have HV := ha.out
          rw [List.take_of_length_le (by rw [hsl2.out]; omega)] at HV
          obtain ⟨Av, cv, hve, hvo⟩ := nat_ints HV
          obtain ⟨xs, hxs⟩ : ∃ xs, xs = intsN (sumsN x.kids) := ⟨_, rfl⟩
          rw [← hxs] at hve hvo HL2
          clear ha HV
          subst hve
          have HDis := Aside0.mk (HS.out.pm.dis hvo)
          have HVO := Aside0.mk (own_mono hvo HS.out.lb)
          have HS1 := Aside0.mk (HS.out.next hb)
          clear hvo hxs hb hkm
          go_upto_region 14 with fail
          go_cut [] (fun wx => ∃ (A' : Option Addr) (c' : Nat), PS w wx ok base g8 w.heap.size (.slice A' (j + 1) c') (.slice Bk j ck) (own ++ [(hash : Int)]) kids sl x ⟨Ad, cd, Aa, ca, some ⟨kb, ko, none⟩, ckk⟩ ∧ wx.ownsRow base 3 1 (.slice Av xs.length cv) xs.length (ints xs) ∧ Dis (.slice Av xs.length cv) (.slice A' (j + 1) c') (.slice Bk j ck) sl)
          case first =>
            obtain ⟨e0, _⟩ := two_cells HS1.out.out
            have HA := Aside0.mk (fun W1 (hb : Below wr.heap.size wr W1) => implAlone_calls x ⟨Ad, cd, Aa, ca, some ⟨kb, ko, none⟩, ckk⟩ W1 ok Hwx.out (HS1.out.next hb).xb.here)
            have hwa := Aside0.mk (Nat.le_trans (wt_alone x) Hwx.out)
            have HKS := Aside0.mk (fun W1 (hb : Below wr.heap.size wr W1) => (HS1.out.next hb).xb.cells)
            simp only at HKS HA
            obtain ⟨k0, k1, k2, k3, k4, k5, k6, k7⟩ := HKS.out _ (Below.refl _ _)
            go_region_law (first
                | (go_simp; go_at_call 43; refine (HA.out _ (below_drew (Below.refl _ _))).mono ?_; rintro e wa ⟨⟨⟨A1, q1, A2, q2, A3, q3⟩, rfl, hsa⟩, hba⟩
                   have hbz := below_then (below_drew (Below.refl wr.heap.size wr)) hba
                   have e0 := (two_cells (HS1.out.next hbz).out).1)
                | (go_simp; go_at_call 42; refine (implHashOf_calls (alone x) ⟨A1, q1, A2, q2, A3, q3⟩ _ _ hwa.out hsa (HE.out _ (below_then HBW.out hbz)) (HF.out _ (below_then HBW.out hbz))).mono ?_; rintro e wh ⟨rfl, hbh⟩
                   rw [← hhash.out]
                   have hbz := below_then hbz hbh
                   have e0 := (two_cells (HS1.out.next hbz).out).1
                   have e0a := (two_cells (HS1.out.next (below_alloc hbz (.cells #[.int .i64 (hash : Int)] 3))).out).1)
                | (have HAL := Aside0.mk (HS1.out.next (below_alloc hbz (.cells #[.int .i64 (hash : Int)] 3)))
                   refine step_app_in rfl (.tmp 55) (.tmp 59) 29 rfl base 3 i (.int .i64 0) 1 8 Tryz.underlying29 hi hz0 hz1 Hz2.out rfl (by decide) (.slice Ao j co) own.length (ints own) rfl HAL.out.pm.own ⟨wh.heap.size, 0, none⟩ 1 1 [.int .i64 (hash : Int)] rfl rfl (nat_news wh hash _) (nat_one hash) (by unfold maxLen; have := hL34.out.1; omega) (by have := hL34.out.1; omega) HAL.out.lb ?_
                   intro v' w25 hown3 hgrow3 hat3
                   obtain ⟨A9, c9, hv9, _⟩ := own_shape hown3
                   rw [hL34.out.1] at hv9
                   subst hv9
                   have HP9 := HAL.out.moved hgrow3 (fun k hk => (HAL.out.pm.own.lt k hk).1)
                   have HN9 := Aside0.mk (And.intro (fun Y hY => HAL.out.addOwn (Y := Y) hown3 hgrow3 hat3 hY) (And.intro hat3 hgrow3))
                   obtain ⟨g0, _, g1, _⟩ := two_cells HP9.2.2
                   clear hown3 hgrow3 hat3 HP9)
                | fail)
            all_goals
              go_wp2_with fail
              go_meet
              refine ⟨A9, c9, HN9.out.1 _ rfl, ?_, HDis.out.addOwn (m := (wh.heap.size + 1)) (fun k hk => by have := ((own_below HVO.out hbz).lt k hk).2; omega) ?_⟩
              · exact own_kept (own_below HVO.out (below_alloc hbz _)) (fun k hk hlt => by
                  rw [Below.heap_setCell _ _ _ _ (by show k ≠ g8; have := ((own_below HVO.out hbz).lt k hk).1; have := HS1.out.l8; omega)]
                  exact HN9.out.2.2.block k hlt (fun e => (HDis.out k hk).1 e.symm))
              · rcases HN9.out.2.1 with e | e
                · exact .inl e
                · exact .inr (by rw [e, alloc_size])
          case rest =>
          obtain ⟨A', c', p1, hvo1, hd1⟩ := hcut
          obtain ⟨wX, hwX⟩ : ∃ x, x = wc := ⟨_, rfl⟩
          rw [← hwX] at p1 hvo1 ⊢
          clear hwX
          have HX := Aside0.mk (p1.next (below_alloc (Below.refl wX.heap.size wX) (.cells #[.slice Av xs.length cv] 29)))
          have HVX := Aside0.mk (own_below hvo1 (below_alloc (Below.refl wX.heap.size wX) (.cells #[.slice Av xs.length cv] 29)))
          have HDX := Aside0.mk hd1
          obtain ⟨_, e1, _, _⟩ := two_cells p1.out
          have hbX : base ≤ wX.heap.size := p1.lb
          have hslj : sl.length ≤ 8 := by rw [Hsl.out]; exact hj8
          have hnw := Aside0.mk (cell_one_new wX (.slice Av xs.length cv) 29)
          have hmo := Aside0.mk HX.out.pm.mm.outer
          clear p1 hvo1 hd1
          go_wp2_with (at_builtin; refine wpList_append_own_at _ rfl _ _ 33 rfl base 29 i' _ 1 _ Tryz.underlying33 hi' hz0' hz1' rfl rfl (by decide) _ _ _ rfl hmo.out ⟨wX.heap.size, 0, none⟩ 1 1 [.slice Av xs.length cv] rfl ?qc1 ?qc2 ?qc3 ?qc4 ?qc5 ?qc6 ?_)
          case qc1 => rfl
          case qc2 => exact hnw.out
          case qc3 => intro u hu; rw [List.mem_singleton] at hu; subst hu; rfl
          case qc4 => unfold maxLen; omega
          case qc5 => rw [Hz2'.out]; omega
          case qc6 => simp; omega
          intro v' w3 hown3 hgrow3 _ hat3
          obtain ⟨B9, d9, hv9, _⟩ := own_shape hown3
          rw [Hsl.out] at hv9
          subst hv9
          have HP9 := HX.out.moved hgrow3 (fun k hk => (HX.out.pm.mm.outer.lt k hk).1)
          have HAK := Aside0.mk (fun Y hY => HX.out.addKid (Y := Y) HVX.out HDX.out hown3 hgrow3 (by rw [alloc_size]; exact hat3) hY)
          obtain ⟨_, g0, _, g1⟩ := two_cells HP9.2.2
          clear hown3 hgrow3 hat3 HP9 e1
          go_upto_region 16 with fail
          obtain ⟨Y, hY⟩ : ∃ Y, Y = w3.setCell ⟨g8, 1, none⟩ (.slice B9 (j + 1) d9) := ⟨_, rfl⟩
          have HY := Aside0.mk (HAK.out Y hY)
          rw [← hY]
          clear hY g0 g1
          obtain ⟨_, _, _, _, _, _, c6, _⟩ := HY.out.xb.cells
          obtain ⟨hkb, hkn, e0, e1, e2, e3, e4, e5, e6, e7⟩ := HKID.out
          have BC := bcell HY.out.xb.below
          replace e0 := (BC.1 _ _ hkb).trans e0; replace e1 := (BC.1 _ _ hkb).trans e1; replace e2 := (BC.1 _ _ hkb).trans e2; replace e3 := (BC.1 _ _ hkb).trans e3
          replace e4 := (BC.1 _ _ hkb).trans e4; replace e5 := (BC.1 _ _ hkb).trans e5; replace e6 := (BC.1 _ _ hkb).trans e6; replace e7 := (BC.1 _ _ hkb).trans e7
          have hfz := HY.out.xb.frozen
          have f0 := hfz 0; have f1 := hfz 1; have f2 := hfz 2; have f3 := hfz 3; have f4 := hfz 4; have f5 := hfz 5; have f6 := hfz 6; have f7 := hfz 7
          have Hkn := Aside0.mk hkn
          clear BC hkn hfz
          go_upto_region 17 with fail
          obtain ⟨Z, hZ⟩ : ∃ Z, Z = Y.setCells w.heap.size 0 (y.cells t2) := ⟨_, rfl⟩
          have HZ := Aside0.mk (HY.out.put Hkn.out hZ)
          have hZ' : Z = ((((((((Y.setCell ⟨w.heap.size, 0, none⟩ (.int .i64 y.kind)).setCell ⟨w.heap.size, 1, none⟩ (.string y.pre)).setCell ⟨w.heap.size, 2, none⟩ (.string y.loc)).setCell ⟨w.heap.size, 3, none⟩ (.string y.uri)).setCell ⟨w.heap.size, 4, none⟩ (.slice t2.Ad y.decls.length t2.cd)).setCell ⟨w.heap.size, 5, none⟩ (.slice t2.Aa y.attrs.length t2.ca)).setCell ⟨w.heap.size, 6, none⟩ (.slice t2.Ak y.kids.length t2.ck)).setCell ⟨w.heap.size, 7, none⟩ (.string y.text)) := hZ
          rw [← hZ']
          clear hZ hZ' c6 hkb e0 e1 e2 e3 e4 e5 e6 e7 f0 f1 f2 f3 f4 f5 f6 f7
          go_wp2_with fail
          go_roundg (path.length - (j + 1))
          case measure => omega
          case rel =>
            obtain ⟨L1, L2, hw2, hz2⟩ := HL2.out
            exact ⟨j + 1, y, t2, _, _, _, own ++ [(hash : Int)], kids ++ [xs], by go_num, by omega, HZ.out, ⟨z, hz2⟩, ⟨by rw [List.append_assoc]; exact L1, by rw [List.append_assoc]; exact L2, by rw [List.length_append, hL34.out.1]; rfl, by rw [List.length_append, hL34.out.2]; rfl, hw2⟩⟩
    · obtain ⟨L1, L2, L3, L4, L5⟩ := hLX
      rw [List.drop_eq_nil_of_le (by omega), pfOwn, List.append_nil] at L1
      rw [List.drop_eq_nil_of_le (by omega), pfKids, List.append_nil] at L2
      obtain ⟨Ao, co, hvo, _⟩ := own_shape HS.out.pm.own
      obtain ⟨Bk, ck, hvk, _⟩ := own_shape HS.out.pm.mm.outer
      subst hvo hvk
      have hfin := Aside0.mk (show R = some (own, kids) by rw [HR2.out, L1, L2])
      obtain ⟨e0, e1, _, _⟩ := two_cells HS.out.out
      obtain ⟨q0, q1, f0, f1⟩ := two_cells HS.out.res
      clear L1 L2 L3 L4 L5 HL HZ
      go_wp2
      obtain ⟨Y, hY⟩ : ∃ Y, Y = (wo.setCell ⟨w.heap.size + 1, 0, none⟩ (.slice Ao own.length co)).setCell ⟨w.heap.size + 1, 1, none⟩ (.slice Bk sl.length ck) := ⟨_, rfl⟩
      rw [← hY]
      have l8 := HS.out.l8
      have hYb : Below w.heap.size w Y := by rw [hY]; exact below_setNew (below_setNew HS.out.xb.below (by omega)) (by omega)
      have hYp := res_put HS.out.res hY
      have hPM := HS.out.pm.same (w1 := Y) (fun k hk _ => hYp.2 k (by omega))
      obtain ⟨p0, p1, _, _⟩ := two_cells hYp.1
      clear hY e0 e1 q0 q1 f0 f1
      refine bodyPost_ret (v := .tuple #[.agg #[.slice Ao own.length co, .slice Bk sl.length ck], .bool true]) ?hres rfl ⟨base, _, _, sl, by omega, by rw [hfin.out]; rfl, by rw [hfin.out]; exact hPM, hYb⟩
      case hres => simp [results, Tryz.results8, go_sem, p0, p1]
end Go.Proofs.YtpcklgkpjmmakaaGreatDoor
