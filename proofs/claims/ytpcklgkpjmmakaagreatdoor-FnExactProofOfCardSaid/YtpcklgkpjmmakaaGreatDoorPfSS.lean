/- Joined: NodeAtS, PfS. -/
import Derived.Test.YtpcklgkpjmmakaaGreatDoorPfA
import Derived.Test.YtpcklgkpjmmakaaGreatDoorPfI
section
/- NodeAt, of the reference. -/
namespace Go.Proofs.YtpcklgkpjmmakaaGreatDoor
open Go.RowKit Go.Lib
set_option linter.unusedVariables false
set_option linter.unusedSimpArgs false
set_option maxHeartbeats 8000000
set_option maxRecDepth 100000
theorem l1InD (x a b : Int) (w : World) : Calls Tryz.prog 62 #[.int .i64 x, .int .i64 a, .int .i64 b] w fun e w' => e = .returned (.bool (decide (a ≤ x) && decide (x ≤ b))) ∧ Below w.heap.size w w' :=
  (l1In_calls x a b w).mono fun e w' ⟨h, hw⟩ => ⟨h, hw ▸ Below.refl _ _⟩
theorem NS.start2 {w : World} {ok : Nat → Prop} {n : Nd} {s : Sh} (hn : NodeIs w ok n s) : NS w (((w.alloc (.cells (n.cells s).toArray 28)).alloc (.cells zeros8 28)).alloc (.cells (n.cells s).toArray 28)) ok (w.heap.size + 2) n s := by
  have s1 := alloc_size w (.cells (n.cells s).toArray 28)
  have s2 := alloc_size (w.alloc (.cells (n.cells s).toArray 28)) (.cells zeros8 28)
  refine ⟨⟨below_alloc (below_alloc (below_alloc (Below.refl _ _) _) _) _, by omega, ?_, hn⟩, ?_⟩
  · rw [show w.heap.size + 2 = ((w.alloc (.cells (n.cells s).toArray 28)).alloc (.cells zeros8 28)).heap.size by omega]; exact alloc_at _ _
  · rw [alloc_old _ _ _ (by omega), ← s1]; exact alloc_at _ _
theorem specNodeAt_calls {ok o1 : Nat → Prop} (n : Nd) (s : Sh) (P : Option Addr) (path : List Int) (cp : Nat) (w : World) (hwt : wt n ≤ 1048576) (hn : NodeIs w ok n s) (hp : Row (Kd.int .i64) w o1 P path) :
    Calls Tryz.prog 48 #[.agg #[.int .i64 n.kind, .string n.pre, .string n.loc, .string n.uri, .slice s.Ad n.decls.length s.cd, .slice s.Aa n.attrs.length s.ca, .slice s.Ak n.kids.length s.ck, .string n.text], .slice P path.length cp] w (NdOut (nodeAt path n) w) := by
  obtain ⟨R, hR⟩ : ∃ R, R = nodeAt path n := ⟨_, rfl⟩
  rw [← hR]
  have hpm := hp.max
  have HR := Aside0.mk hR
  have HP := Aside0.mk (fun W1 (hb : Below w.heap.size w W1) => hp.below hb)
  have HN0 := Aside0.mk (NS.start2 hn)
  have Hwt := Aside0.mk hwt
  clear hR hp hn hwt
  go_enter Tryz.func48, Tryz.ntmps48
  go_upto_region 2 with fail
  obtain ⟨W0, hW0⟩ : ∃ W0, W0 = (((w.alloc (.cells (n.cells s).toArray 28)).alloc (.cells zeros8 28)).alloc (.cells (n.cells s).toArray 28)) := ⟨_, rfl⟩
  rw [← hW0] at HN0
  have hW0' : W0 = (((w.alloc (.cells #[.int .i64 n.kind, .string n.pre, .string n.loc, .string n.uri, .slice s.Ad n.decls.length s.cd, .slice s.Aa n.attrs.length s.ca, .slice s.Ak n.kids.length s.ck, .string n.text] 28)).alloc (.cells #[.int .i64 0, .string ⟨#[]⟩, .string ⟨#[]⟩, .string ⟨#[]⟩, .slice none 0 0, .slice none 0 0, .slice none 0 0, .string ⟨#[]⟩] 28)).alloc (.cells #[.int .i64 n.kind, .string n.pre, .string n.loc, .string n.uri, .slice s.Ad n.decls.length s.cd, .slice s.Aa n.attrs.length s.ca, .slice s.Ak n.kids.length s.ck, .string n.text] 28)) := hW0
  rw [← hW0']
  clear hW0 hW0'
  go_wp2_with fail
  go_loopg [7] path.length (fun k i wr => ∃ (j : Nat) (x : Nd) (t : Sh), i = .int .i64 (j : Nat) ∧ j + k = path.length ∧ Aside (NS w wr ok (w.heap.size + 2) x t) ∧ Aside (R = nodeAt (path.drop j) x) ∧ Aside (wt x ≤ 1048576))
  case atStart => exact ⟨0, n, s, rfl, by omega, HN0.out, HR.out, Hwt.out⟩
  case round =>
    obtain ⟨j, x, t, rfl, hk, hS, hR, hx⟩ := hrel
    have H1 := Aside0.mk hS.out
    have hwx := Aside0.mk hx.out
    clear hS hx
    by_cases hlt : j < path.length
    · obtain ⟨b, o, rfl, hbl, d⟩ := int_at (HP.out _ H1.out.xb.below) j hlt
      have hR1 := Aside0.mk (show R = nodeAt (path[j]'hlt :: path.drop (j + 1)) x by rw [hR.out, drop_at hlt])
      clear hR
      obtain ⟨v, hv⟩ : ∃ v, v = path[j]'hlt := ⟨_, rfl⟩
      rw [← hv] at d hR1
      have hkm := H1.out.xb.node.kids.max
      obtain ⟨c0, c1, c2, c3, c4, c5, c6, c7⟩ := H1.out.xb.cells
      clear hv
      cases hq : (decide (0 ≤ v) && decide (v ≤ (x.kids.length : Int) - 1)) with
      | false =>
        have hfin := Aside0.mk (show R = none by rw [hR1.out, nodeAt_bad hq])
        have HI := Aside0.mk (fun W => l1InD v 0 ((x.kids.length : Int) - 1) W)
        rw [hq] at HI
        clear hq
        have E1 := later_cell d hbl
        have E6 := later_cell c6 H1.out.xb.lt
        have i5 : IntKind.i64.wrap ((x.kids.length : Int) - 1) = (x.kids.length : Int) - 1 := by rw [IntKind.wrap_i64]; omega
        go_upto_region 5 with fail
        refine wp_region_later (by kernel_rfl) (by kernel_rfl) ?_
        repeat (go_big_quiet_step ((go_at_call 62; exact later_call (HI.out _))))
        refine wpQuiet_nil ?_
        rintro w4 ⟨⟨_, hb4⟩, rfl⟩
        have H1 := Aside0.mk (H1.out.next hb4)
        clear E1 E6 c0 c1 c2 c3 c4 c5 c6 c7 d i5 hb4
        obtain ⟨y0, y1, y2, y3, y4, y5, y6, y7⟩ := box_cells H1.out.out
        have fz := fun o => frozen_of_row _ (w.heap.size + 1) o _ _ H1.out.out
        have f0 := fz 0; have f1 := fz 1; have f2 := fz 2; have f3 := fz 3; have f4 := fz 4; have f5 := fz 5; have f6 := fz 6; have f7 := fz 7
        clear fz
        go_wp2
        obtain ⟨Y, hY⟩ : ∃ Y, Y = @w4.setCells (w.heap.size + 1) 0 (@nd0.cells @sh0) := ⟨_, rfl⟩
        have hYo := out_put (y := @nd0) (t := @sh0) @H1.out.xb.below (Nat.le_succ _) @⟨_, _, _, _, _, _, _, _, H1.out.out⟩ hY
        have hY' : Y = ((((((((@w4.setCell ⟨w.heap.size + 1, 0, none⟩ @(.int .i64 0)).setCell ⟨w.heap.size + 1, 1, none⟩ @(.string ⟨#[]⟩)).setCell ⟨w.heap.size + 1, 2, none⟩ @(.string ⟨#[]⟩)).setCell ⟨w.heap.size + 1, 3, none⟩ @(.string ⟨#[]⟩)).setCell ⟨w.heap.size + 1, 4, none⟩ @(.slice none 0 0)).setCell ⟨w.heap.size + 1, 5, none⟩ @(.slice none 0 0)).setCell ⟨w.heap.size + 1, 6, none⟩ @(.slice none 0 0)).setCell ⟨w.heap.size + 1, 7, none⟩ @(.string ⟨#[]⟩)) := hY
        rw [← hY']
        obtain ⟨p0, p1, p2, p3, p4, p5, p6, p7⟩ := box_cells hYo.2.1
        clear hY hY' y0 y1 y2 y3 y4 y5 y6 y7 f0 f1 f2 f3 f4 f5 f6 f7
        refine bodyPost_ret (v := .tuple #[.agg #[.int .i64 nd0.kind, .string nd0.pre, .string nd0.loc, .string nd0.uri, .slice sh0.Ad nd0.decls.length sh0.cd, .slice sh0.Aa nd0.attrs.length sh0.ca, .slice sh0.Ak nd0.kids.length sh0.ck, .string nd0.text], .bool false]) ?hres rfl ⟨⟨sh0, by rw [hfin.out]; rfl, by rw [hfin.out]; exact nd0_is _ _⟩, hYo.1⟩
        case hres => simp [results, Tryz.results48, go_sem, p0, p1, p2, p3, p4, p5, p6, p7]
      | true =>
        obtain ⟨m, rfl, hm⟩ := in_kid hq
        have hR2 := Aside0.mk (hR1.out.trans (nodeAt_good rfl hm))
        have HI := Aside0.mk (fun W => l1InD (m : Int) 0 ((x.kids.length : Int) - 1) W)
        rw [hq] at HI
        clear hq
        have E1 := later_cell d hbl
        have E6 := later_cell c6 H1.out.xb.lt
        have i5 : IntKind.i64.wrap ((x.kids.length : Int) - 1) = (x.kids.length : Int) - 1 := by rw [IntKind.wrap_i64]; omega
        have D1 := Aside0.mk d
        go_upto_region 5 with fail
        refine wp_region_later (by kernel_rfl) (by kernel_rfl) ?_
        repeat (go_big_quiet_step ((go_at_call 62; exact later_call (HI.out _))))
        refine wpQuiet_nil ?_
        rintro w4 ⟨⟨_, hb4⟩, rfl⟩
        have H1 := Aside0.mk (H1.out.next hb4)
        have d := (hb4.cell (p := ⟨b, o + j, none⟩) hbl).trans D1.out
        clear E1 E6 c0 c1 c2 c3 c4 c5 c6 c7 i5
        obtain ⟨_, _, _, _, _, _, c6, _⟩ := H1.out.xb.cells
        obtain ⟨kb, ko, t2, hAk, hkb, hkn, e0, e1, e2, e3, e4, e5, e6, e7⟩ := kid_is H1.out.xb.node m hm
        have hw2 := Aside0.mk (Nat.le_trans (wt_at hm) hwx.out)
        obtain ⟨y, hy⟩ : ∃ y, y = x.kids[m]'hm := ⟨_, rfl⟩
        rw [← hy] at hR2 hw2 hkn e0 e1 e2 e3 e4 e5 e6 e7
        have BC := bcell H1.out.xb.below
        replace e0 := (BC.1 _ _ hkb).trans e0; replace e1 := (BC.1 _ _ hkb).trans e1; replace e2 := (BC.1 _ _ hkb).trans e2; replace e3 := (BC.1 _ _ hkb).trans e3
        replace e4 := (BC.1 _ _ hkb).trans e4; replace e5 := (BC.1 _ _ hkb).trans e5; replace e6 := (BC.1 _ _ hkb).trans e6; replace e7 := (BC.1 _ _ hkb).trans e7
        rw [hAk] at c6
        have hmi : (m : Int) < (x.kids.length : Int) := by omega
        have hfz := H1.out.xb.frozen
        have f0 := hfz 0; have f1 := hfz 1; have f2 := hfz 2; have f3 := hfz 3; have f4 := hfz 4; have f5 := hfz 5; have f6 := hfz 6; have f7 := hfz 7
        have Hkn := Aside0.mk hkn
        have HD := Aside0.mk H1.out
        clear hR1 BC hkn hy hfz hAk
        go_upto_region 7 with fail
        go_region_with (first | fail)
        all_goals
          obtain ⟨Y, hY⟩ : ∃ Y, Y = w4.setCells (w.heap.size + 2) 0 (y.cells t2) := ⟨_, rfl⟩
          have hYn := Aside0.mk (HD.out.put (by omega) Hkn.out hY)
          have hY' : Y = ((((((((w4.setCell ⟨w.heap.size + 1 + 1, 0, none⟩ (.int .i64 y.kind)).setCell ⟨w.heap.size + 1 + 1, 1, none⟩ (.string y.pre)).setCell ⟨w.heap.size + 1 + 1, 2, none⟩ (.string y.loc)).setCell ⟨w.heap.size + 1 + 1, 3, none⟩ (.string y.uri)).setCell ⟨w.heap.size + 1 + 1, 4, none⟩ (.slice t2.Ad y.decls.length t2.cd)).setCell ⟨w.heap.size + 1 + 1, 5, none⟩ (.slice t2.Aa y.attrs.length t2.ca)).setCell ⟨w.heap.size + 1 + 1, 6, none⟩ (.slice t2.Ak y.kids.length t2.ck)).setCell ⟨w.heap.size + 1 + 1, 7, none⟩ (.string y.text)) := hY
          rw [← hY']
          clear hY hY' c6 e0 e1 e2 e3 e4 e5 e6 e7 f0 f1 f2 f3 f4 f5 f6 f7 d
          go_wp2_with fail
          go_roundg (gk - 1)
          case measure => omega
          case rel => exact ⟨j + 1, y, t2, by go_num, by omega, hYn.out.next (below_drew (Below.refl _ _)), hR2.out, hw2.out⟩
    · have hfin := Aside0.mk (show R = some x by rw [hR.out, List.drop_eq_nil_of_le (by omega)]; rfl)
      obtain ⟨c0, c1, c2, c3, c4, c5, c6, c7⟩ := H1.out.xb.cells
      have HC := Aside0.mk (l5Copy_calls (cnt x) x t wr ok (Nat.le_refl _) hwx.out H1.out.xb.here)
      clear hR
      go_wp2_with fail
      refine (HC.out).mono ?_
      rintro e w4 ⟨⟨s4, rfl, hs4⟩, hb4⟩
      have H4 := H1.out.next hb4
      obtain ⟨y0, y1, y2, y3, y4, y5, y6, y7⟩ := box_cells H4.out
      have fz := fun o => frozen_of_row _ (w.heap.size + 1) o _ _ H4.out
      have f0 := fz 0; have f1 := fz 1; have f2 := fz 2; have f3 := fz 3; have f4 := fz 4; have f5 := fz 5; have f6 := fz 6; have f7 := fz 7
      clear fz c0 c1 c2 c3 c4 c5 c6 c7
      go_wp2
      obtain ⟨Y, hY⟩ : ∃ Y, Y = @w4.setCells (w.heap.size + 1) 0 (@x.cells @s4) := ⟨_, rfl⟩
      have hYo := out_put (y := @x) (t := @s4) @H4.xb.below (Nat.le_succ _) @⟨_, _, _, _, _, _, _, _, H4.out⟩ hY
      have hY' : Y = ((((((((@w4.setCell ⟨w.heap.size + 1, 0, none⟩ @(.int .i64 x.kind)).setCell ⟨w.heap.size + 1, 1, none⟩ @(.string x.pre)).setCell ⟨w.heap.size + 1, 2, none⟩ @(.string x.loc)).setCell ⟨w.heap.size + 1, 3, none⟩ @(.string x.uri)).setCell ⟨w.heap.size + 1, 4, none⟩ @(.slice s4.Ad x.decls.length s4.cd)).setCell ⟨w.heap.size + 1, 5, none⟩ @(.slice s4.Aa x.attrs.length s4.ca)).setCell ⟨w.heap.size + 1, 6, none⟩ @(.slice s4.Ak x.kids.length s4.ck)).setCell ⟨w.heap.size + 1, 7, none⟩ @(.string x.text)) := hY
      rw [← hY']
      have hsz := H1.out.outlt
      have hnY := (hs4.agree (w1 := Y) (fun k hk _ => hYo.2.2 k (by omega))).mono (ok' := fun k => w.heap.size ≤ k) (fun k hk => by omega)
      obtain ⟨p0, p1, p2, p3, p4, p5, p6, p7⟩ := box_cells hYo.2.1
      clear hY hY' y0 y1 y2 y3 y4 y5 y6 y7 f0 f1 f2 f3 f4 f5 f6 f7
      refine bodyPost_ret (v := .tuple #[.agg #[.int .i64 x.kind, .string x.pre, .string x.loc, .string x.uri, .slice s4.Ad x.decls.length s4.cd, .slice s4.Aa x.attrs.length s4.ca, .slice s4.Ak x.kids.length s4.ck, .string x.text], .bool true]) ?hres rfl ⟨⟨s4, by rw [hfin.out]; rfl, by rw [hfin.out]; exact hnY⟩, hYo.1⟩
      case hres => simp [results, Tryz.results48, go_sem, p0, p1, p2, p3, p4, p5, p6, p7]
end Go.Proofs.YtpcklgkpjmmakaaGreatDoor
end
section
/- ProofOf, of the reference. -/
namespace Go.Proofs.YtpcklgkpjmmakaaGreatDoor
open Go.RowKit Go.Lib
set_option linter.unusedVariables false
set_option linter.unusedSimpArgs false
set_option maxHeartbeats 4000000
set_option maxRecDepth 100000
/-- A row of sums, in a block of its own. -/
theorem l23SumsO_calls {ok : Nat → Prop} (A : Option Addr) (c : Nat) (xs : List Nd) (w : World) (hl : xs.length ≤ 1048576) (hr : Row Kd.node w ok A xs)
    (ih : ∀ n ∈ xs, ∀ (s : Sh) (W : World), NodeIs W ok n s → Calls Tryz.prog 19 #[.agg #[.int .i64 n.kind, .string n.pre, .string n.loc, .string n.uri, .slice s.Ad n.decls.length s.cd, .slice s.Aa n.attrs.length s.ca, .slice s.Ak n.kids.length s.ck, .string n.text]] W fun e w' => e = .returned (.int .i64 (sumN n)) ∧ Below W.heap.size W w') :
    Calls Tryz.prog 52 #[.slice A xs.length c] w (fun e w' => (∃ A c, e = .returned (.slice A (intsN (sumsN xs)).length c) ∧ w'.ownsRow w.heap.size 3 1 (.slice A (intsN (sumsN xs)).length c) (intsN (sumsN xs)).length (ints (intsN (sumsN xs)))) ∧ Below w.heap.size w w') := by
  obtain ⟨i, hi, hz0, hz1, hz2⟩ := info_parts Tryz.info_int
  have hmax := hr.max
  have hsl := Aside0.mk (sums_length xs)
  have Ih := Aside0.mk ih
  clear ih
  have Hz2 := Aside0.mk hz2
  clear hz2
  go_enter Tryz.func52, Tryz.ntmps52
  go_wp2
  go_loopg [3, 4] xs.length (fun k v i wr => ∃ (j : Nat), i = .int .i64 j ∧ j + k = xs.length ∧ Aside (OwnG Kd.nat 3 wr w.heap.size v ((sumsN xs).take j)) ∧ Below w.heap.size w wr)
  case atStart => exact ⟨0, rfl, by omega, OwnG.made _ 0 _ _ _ (Nat.le_refl _), below_alloc (Below.refl _ _) _⟩
  case round =>
    obtain ⟨j, rfl, hk, ha, hb⟩ := hrel
    by_cases hlt : j < xs.length
    · obtain ⟨b, o, s', rfl, hbl, hs', d0, d1, d2, d3, d4, d5, d6, d7⟩ := node_at (hr.below hb) j hlt
      have HI := Aside0.mk (Ih.out _ (List.getElem_mem hlt) s' wr hs')
      obtain ⟨ys, hys⟩ : ∃ ys, ys = (sumsN xs).take j := ⟨_, rfl⟩
      rw [← hys] at ha
      obtain ⟨cells, hown, hsays⟩ := ha
      have hlen : ys.length ≤ 1048576 := by rw [hys, List.length_take]; omega
      have hys2 := Aside0.mk (show (sumsN xs).take (j + 1) = ys ++ [sumN (xs[j]'hlt)] by rw [sums_take _ _ hlt, hys])
      clear hys
      have hown' := Aside0.mk hown
      have hsays := Aside0.mk hsays
      have hlt3 := hown.lt
      have Hlt3 := Aside0.mk hlt3
      clear hown hlt3 hs'
      go_wp2_with fail
      refine HI.out.mono ?_
      rintro e w2 ⟨rfl, hb2⟩
      obtain ⟨x, hx⟩ : ∃ x : Nat, x = sumN (xs[j]'hlt) := ⟨_, rfl⟩
      rw [← hx] at hys2 ⊢
      clear hx
      have ho2 := Aside0.mk (own_below hown'.out hb2)
      have hbase : w.heap.size ≤ w2.heap.size := Nat.le_trans hb.size hb2.size
      go_wp2_with (at_builtin; refine wpList_append_own_at _ rfl _ _ 29 rfl w.heap.size 3 i _ 1 _ Tryz.underlying29 hi hz0 hz1 rfl rfl (by decide) _ _ _ rfl (ho2.out.alloc _) ⟨w2.heap.size, 0, none⟩ 1 1 [.int .i64 (x : Int)] rfl ?qc1 ?qc2 ?qc3 ?qc4 ?qc5 ?qc6 ?_)
      case qc1 => rfl
      case qc2 => exact nat_news w2 x _
      case qc3 => exact nat_one x
      case qc4 => unfold maxLen; omega
      case qc5 => rw [Hz2.out]; omega
      case qc6 => simp; omega
      intro v' w3 hown3 hgrow3 _ hat3
      have HN := Aside0.mk (OwnG.snoc (d := Kd.nat) (x := x) hown'.out hsays.out hb.size hb2 rfl hown3 hgrow3 hat3)
      have HB3 := below_grown (below_alloc (below_then hb hb2) _) hgrow3 (fun k hk => (Hlt3.out k hk).1)
      clear hown3 hgrow3 hat3
      go_wp2
      go_roundg (gk - 1)
      case measure => omega
      case rel => exact ⟨j + 1, by go_num, by omega, (by rw [hys2.out]; exact HN.out : OwnG Kd.nat 3 _ _ _ ((sumsN xs).take (j + 1))), HB3⟩
    · have hrow := Aside0.mk (show ∃ A c, u3 = .slice A (intsN (sumsN xs)).length c ∧ wr.ownsRow w.heap.size 3 1 (.slice A (intsN (sumsN xs)).length c) (intsN (sumsN xs)).length (ints (intsN (sumsN xs))) by
        have := ha.out
        rw [List.take_of_length_le (by rw [hsl.out]; omega)] at this
        exact nat_ints this)
      clear ha
      obtain ⟨A', c', he, ho'⟩ := hrow.out
      subst he
      replace ho' := Aside0.mk ho'
      clear hrow
      go_wp2
      go_ret
      exact ⟨⟨A', c', rfl, ho'.out⟩, hb⟩
theorem PS.start2 {w W : World} {ok : Nat → Prop} {g : Nat} {x : Nd} {s : Sh} (h : PR w W ok g x s) (hw : w.heap.size + 1 < W.heap.size) :
    PS w ((W.alloc (.cells #[.slice none 0 0, .slice none 0 0] 35)).alloc (.cells (x.cells s).toArray 28)) ok (W.heap.size + 2) W.heap.size (W.heap.size + 1) (.slice none 0 0) (.slice none 0 0) [] [] [] x s := by
  have s1 := alloc_size W (.cells #[.slice none 0 0, .slice none 0 0] 35)
  have s2 := alloc_size (W.alloc (.cells #[.slice none 0 0, .slice none 0 0] 35)) (.cells (x.cells s).toArray 28)
  have h2 := (h.next (below_alloc (Below.refl _ _) (.cells #[.slice none 0 0, .slice none 0 0] 35))).next (below_alloc (Below.refl _ _) (.cells (x.cells s).toArray 28))
  have hle := h.xb.below.size
  refine ⟨⟨h2.xb.below, by omega, ?_, h.xb.node⟩, h2.res, ?_, PfM.nil _ _, ⟨hw, by omega⟩, ⟨by omega, by omega, by omega, by omega⟩, by omega⟩
  · rw [← s1]; exact alloc_at _ _
  · rw [alloc_old _ _ _ (by omega)]; exact alloc_at _ _
theorem specProofOf_calls {ok o1 : Nat → Prop} (n : Nd) (s : Sh) (P : Option Addr) (path : List Int) (cp : Nat) (w : World) (hwt : wt n ≤ 1048576) (hn : NodeIs w ok n s) (hp : Row (Kd.int .i64) w o1 P path) :
    Calls Tryz.prog 11 #[.agg #[.int .i64 n.kind, .string n.pre, .string n.loc, .string n.uri, .slice s.Ad n.decls.length s.cd, .slice s.Aa n.attrs.length s.ca, .slice s.Ak n.kids.length s.ck, .string n.text], .slice P path.length cp] w (PfOut (pfV path n) w) := by
  obtain ⟨R, hR⟩ : ∃ R, R = pfV path n := ⟨_, rfl⟩
  rw [← hR]
  have hpm := hp.max
  have HR := Aside0.mk hR
  have HP := Aside0.mk (fun W1 (hb : Below w.heap.size w W1) => hp.below hb)
  have HP0 := Aside0.mk (PR.start hn)
  have Hwt := Aside0.mk hwt
  obtain ⟨i, hi, hz0, hz1, hz2⟩ := info_parts Tryz.info_int
  obtain ⟨i', hi', hz0', hz1', hz2'⟩ := info_parts Tryz.info_ints
  have Hz2 := Aside0.mk hz2
  clear hz2
  have Hz2' := Aside0.mk hz2'
  clear hz2'
  clear hR hp hn hwt
  go_enter Tryz.func11, Tryz.ntmps11
  go_upto_region 1 with fail
  obtain ⟨W0, hW0⟩ : ∃ W0, W0 = ((w.alloc (.cells (n.cells s).toArray 28)).alloc (.cells #[.slice none 0 0, .slice none 0 0] 35)) := ⟨_, rfl⟩
  rw [← hW0] at HP0
  have hW0' : W0 = ((w.alloc (.cells #[.int .i64 n.kind, .string n.pre, .string n.loc, .string n.uri, .slice s.Ad n.decls.length s.cd, .slice s.Aa n.attrs.length s.ca, .slice s.Ak n.kids.length s.ck, .string n.text] 28)).alloc (.cells #[.slice none 0 0, .slice none 0 0] 35)) := hW0
  rw [← hW0']
  clear hW0 hW0'
  obtain ⟨c0, c1, c2, c3, c4, c5, c6, c7⟩ := HP0.out.xb.cells
  have HN := Aside0.mk ((specNodeAt_calls n s P path cp W0 Hwt.out HP0.out.xb.here (HP.out _ HP0.out.xb.below)).mono (fun _ _ h => NdOut.is h))
  obtain ⟨q, hq⟩ : ∃ q, q = (nodeAt path n).isSome := ⟨_, rfl⟩
  rw [← hq] at HN
  replace hq := Aside0.mk hq
  go_wp2_with fail
  refine (HN.out).mono ?_
  rintro e w1 ⟨y, s1, rfl, -, hs1, hb1⟩
  clear hs1 c0 c1 c2 c3 c4 c5 c6 c7
  go_upto_region 2 with fail
  obtain ⟨W2, hW2⟩ : ∃ W2, W2 = w1.alloc (.cells #[.int .i64 y.kind, .string y.pre, .string y.loc, .string y.uri, .slice s1.Ad y.decls.length s1.cd, .slice s1.Aa y.attrs.length s1.ca, .slice s1.Ak y.kids.length s1.ck, .string y.text] 28) := ⟨_, rfl⟩
  have H2 := Aside0.mk ((HP0.out.next hb1).next (show Below w1.heap.size w1 W2 by rw [hW2]; exact below_alloc (Below.refl _ _) _))
  rw [← hW2]
  clear hW2 hb1
  cases q with
  | false =>
    have hfin := Aside0.mk (show R = none by rw [HR.out, pfV, if_neg (by rw [← hq.out]; simp)])
    obtain ⟨q0, q1, f0, f1⟩ := two_cells H2.out.res
    go_wp2
    obtain ⟨Y, hY⟩ : ∃ Y, Y = (W2.setCell ⟨w.heap.size + 1, 0, none⟩ (.slice none 0 0)).setCell ⟨w.heap.size + 1, 1, none⟩ (.slice none 0 0) := ⟨_, rfl⟩
    rw [← hY]
    have hYb : Below w.heap.size w Y := by rw [hY]; exact below_setNew (below_setNew H2.out.xb.below (by omega)) (by omega)
    obtain ⟨p0, p1, _, _⟩ := two_cells (res_put H2.out.res hY).1
    clear hY q0 q1 f0 f1
    refine bodyPost_ret (v := .tuple #[.agg #[.slice none 0 0, .slice none 0 0], .bool false]) ?hres rfl ⟨w.heap.size, .slice none 0 0, .slice none 0 0, [], Nat.le_refl _, by rw [hfin.out]; rfl, by rw [hfin.out]; exact PfM.nil _ _, hYb⟩
    case hres => simp [results, Tryz.results11, go_sem, p0, p1]
  | true =>
  obtain ⟨c0, c1, c2, c3, c4, c5, c6, c7⟩ := H2.out.xb.cells
  have HT := Aside0.mk (specTreeOk_calls n s W2 ok Hwt.out H2.out.xb.here)
  obtain ⟨r, hr⟩ : ∃ r, r = treeOk n := ⟨_, rfl⟩
  rw [← hr] at HT
  replace hr := Aside0.mk hr
  cases r with
  | false =>
    go_wp2_with fail
    refine (HT.out).mono ?_
    rintro e w3 ⟨rfl, hb3⟩
    have H3 := Aside0.mk (H2.out.next hb3)
    have hfin := Aside0.mk (show R = none by rw [HR.out, pfV, if_neg (by rw [← hr.out]; simp)])
    clear c0 c1 c2 c3 c4 c5 c6 c7
    obtain ⟨q0, q1, f0, f1⟩ := two_cells H3.out.res
    go_wp2
    obtain ⟨Y, hY⟩ : ∃ Y, Y = (w3.setCell ⟨w.heap.size + 1, 0, none⟩ (.slice none 0 0)).setCell ⟨w.heap.size + 1, 1, none⟩ (.slice none 0 0) := ⟨_, rfl⟩
    rw [← hY]
    have hYb : Below w.heap.size w Y := by rw [hY]; exact below_setNew (below_setNew H3.out.xb.below (by omega)) (by omega)
    obtain ⟨p0, p1, _, _⟩ := two_cells (res_put H3.out.res hY).1
    clear hY q0 q1 f0 f1
    refine bodyPost_ret (v := .tuple #[.agg #[.slice none 0 0, .slice none 0 0], .bool false]) ?hres rfl ⟨w.heap.size, .slice none 0 0, .slice none 0 0, [], Nat.le_refl _, by rw [hfin.out]; rfl, by rw [hfin.out]; exact PfM.nil _ _, hYb⟩
    case hres => simp [results, Tryz.results11, go_sem, p0, p1]
  | true =>
  go_wp2_with fail
  refine (HT.out).mono ?_
  rintro e w3 ⟨rfl, hb3⟩
  have H3 := Aside0.mk (H2.out.next hb3)
  clear c0 c1 c2 c3 c4 c5 c6 c7 hb3
  by_cases h8 : path.length ≤ 8
  case neg =>
    have h8' : (8 : Int) < (path.length : Int) := by omega
    have hfin := Aside0.mk (show R = none by rw [HR.out, pfV, if_neg (by simp [h8])])
    clear h8
    obtain ⟨q0, q1, f0, f1⟩ := two_cells H3.out.res
    go_wp2
    obtain ⟨Y, hY⟩ : ∃ Y, Y = (w3.setCell ⟨w.heap.size + 1, 0, none⟩ (.slice none 0 0)).setCell ⟨w.heap.size + 1, 1, none⟩ (.slice none 0 0) := ⟨_, rfl⟩
    rw [← hY]
    have hYb : Below w.heap.size w Y := by rw [hY]; exact below_setNew (below_setNew H3.out.xb.below (by omega)) (by omega)
    obtain ⟨p0, p1, _, _⟩ := two_cells (res_put H3.out.res hY).1
    clear hY q0 q1 f0 f1
    refine bodyPost_ret (v := .tuple #[.agg #[.slice none 0 0, .slice none 0 0], .bool false]) ?hres rfl ⟨w.heap.size, .slice none 0 0, .slice none 0 0, [], Nat.le_refl _, by rw [hfin.out]; rfl, by rw [hfin.out]; exact PfM.nil _ _, hYb⟩
    case hres => simp [results, Tryz.results11, go_sem, p0, p1]
  have h8' : ¬ ((8 : Int) < (path.length : Int)) := by omega
  have HR2 := Aside0.mk (show R = some (pfOwn path n, pfKids path n) by rw [HR.out, pfV, if_pos ⟨hq.out.symm, hr.out.symm, h8⟩])
  have hnode := Aside0.mk (show ∃ z, nodeAt path n = some z from Option.isSome_iff_exists.1 hq.out.symm)
  have hsz0 := Aside0.mk (show w.heap.size + 1 < w3.heap.size from (Array.getElem?_eq_some_iff.1 H3.out.res).1)
  have HS0 := Aside0.mk (PS.start2 H3.out hsz0.out)
  obtain ⟨base, hbase⟩ : ∃ base, base = w3.heap.size + 2 := ⟨_, rfl⟩
  obtain ⟨g8, hg8⟩ : ∃ g8, g8 = w3.heap.size := ⟨_, rfl⟩
  rw [← hbase, ← hg8] at HS0
  clear hbase
  obtain ⟨c0, c1, c2, c3, c4, c5, c6, c7⟩ := (H3.out.next (below_alloc (Below.refl w3.heap.size w3) (.cells #[.slice none 0 0, .slice none 0 0] 35))).xb.cells
  have hg8' := Aside0.mk hg8
  clear hg8
  go_upto_region 6 with fail
  have hg8 := hg8'.out
  clear c0 c1 c2 c3 c4 c5 c6 c7
  obtain ⟨W4, hW4⟩ : ∃ W4, W4 = (w3.alloc (.cells #[.slice none 0 0, .slice none 0 0] 35)).alloc (.cells #[.int .i64 n.kind, .string n.pre, .string n.loc, .string n.uri, .slice s.Ad n.decls.length s.cd, .slice s.Aa n.attrs.length s.ca, .slice s.Ak n.kids.length s.ck, .string n.text] 28) := ⟨_, rfl⟩
  have hW4' : W4 = (w3.alloc (.cells #[.slice none 0 0, .slice none 0 0] 35)).alloc (.cells (n.cells s).toArray 28) := hW4
  rw [← hW4'] at HS0
  rw [← hW4]
  rw [← hg8]
  clear hW4 hW4' hg8 h8'
  go_wp2_with fail
  go_loopg [10] path.length (fun k iv wr => ∃ (j : Nat) (x : Nd) (t : Sh) (vo vk : Value) (sl : List Value) (own : List Int) (kids : List (List Int)), iv = .int .i64 (j : Nat) ∧ j + k = path.length ∧ Aside (PS w wr ok base g8 (g8 + 1) vo vk own kids sl x t) ∧
    Aside (∃ z, nodeAt (path.drop j) x = some z) ∧ Aside (own ++ pfOwn (path.drop j) x = pfOwn path n ∧ kids ++ pfKids (path.drop j) x = pfKids path n ∧ own.length = j ∧ kids.length = j ∧ wt x ≤ 1048576))
  case atStart => exact ⟨0, n, s, _, _, [], [], [], rfl, by omega, HS0.out, hnode.out, ⟨rfl, rfl, rfl, rfl, Hwt.out⟩⟩
  case round =>
    clear HN HT HP0 H2 H3 hnode HS0
    obtain ⟨j, x, t, vo, vk, sl, own, kids, rfl, hk, hS, hz, hL⟩ := hrel
    have HS := Aside0.mk hS.out
    have HL := Aside0.mk hL.out
    have HZ := Aside0.mk hz.out
    clear hS hz hL
    have hLX := HL.out
    by_cases hlt : j < path.length
    · obtain ⟨b, o, rfl, hbw, d⟩ := int_at (HP.out w (Below.refl _ _)) j hlt
      obtain ⟨z, hz⟩ := HZ.out
      rw [drop_at hlt] at hz
      obtain ⟨m, hm, hv, hz2⟩ := nodeAt_step hz
      obtain ⟨L1, L2, L3, L4, L5⟩ := hLX
      rw [drop_at hlt, pfOwn_good hv hm] at L1
      rw [drop_at hlt, pfKids_good hv hm] at L2
      rw [hv] at d
      obtain ⟨kb, ko, t2, hAk, hkb, hkn, e0, e1, e2, e3, e4, e5, e6, e7⟩ := kid_is HS.out.xb.node m hm
      have hw2 := Nat.le_trans (wt_at hm) L5
      obtain ⟨y, hy⟩ : ∃ y, y = x.kids[m]'hm := ⟨_, rfl⟩
      rw [← hy] at L1 L2 hz2 hkn e0 e1 e2 e3 e4 e5 e6 e7 hw2
      have HKID := Aside0.mk (And.intro hkb (And.intro hkn (And.intro e0 (And.intro e1 (And.intro e2 (And.intro e3 (And.intro e4 (And.intro e5 (And.intro e6 e7)))))))))
      have HL2 := Aside0.mk (And.intro L1 (And.intro L2 (And.intro hw2 hz2)))
      obtain ⟨_, _, _, zk, l1, l2, l3⟩ := small L5
      have ZK := Aside0.mk zk
      have Hwx := Aside0.mk L5
      have hL34 := Aside0.mk (And.intro L3 L4)
      have hj8 : j ≤ 8 := by omega
      obtain ⟨Ao, co, hvo, _⟩ := own_shape HS.out.pm.own
      obtain ⟨Bk, ck, hvk, _⟩ := own_shape HS.out.pm.mm.outer
      have hsl : sl.length = kids.length := by have := HS.out.pm.mm.len; rw [List.length_map] at this; exact this.symm
      rw [L3] at hvo
      rw [hsl, L4] at hvk
      subst hvo hvk
      have Hsl := Aside0.mk (hsl.trans L4)
      obtain ⟨hash, hhash⟩ : ∃ hash : Nat, hash = hashB (wNode (alone x)) := ⟨_, rfl⟩
      rw [← hhash] at HL2
      replace hhash := Aside0.mk hhash
      obtain ⟨c0, c1, c2, c3, c4, c5, c6, c7⟩ := HS.out.xb.cells
      have hkm := HS.out.xb.node.kids
      obtain ⟨Ad, cd, Aa, ca, Ak, ckk⟩ := t
      simp only at c4 c5 c6 hAk hkm
      subst hAk
      have hmx : (m : Int) < (x.kids.length : Int) := by omega
      have D1 := Aside0.mk d
      clear L1 L2 L3 L4 L5 hz hz2 hv hw2 hy hkb hkn e0 e1 e2 e3 e4 e5 e6 e7 zk hsl HL HZ d
      go_upto_region 9 with fail
      go_cut [] (fun wx => ∃ (A' : Option Addr) (c' : Nat), PS w wx ok base g8 (g8 + 1) (.slice A' (j + 1) c') (.slice Bk j ck) (own ++ [(hash : Int)]) kids sl x ⟨Ad, cd, Aa, ca, some ⟨kb, ko, none⟩, ckk⟩)
      case first =>
        obtain ⟨e0, _⟩ := two_cells HS.out.out
        have HA := Aside0.mk (fun W1 (hb : Below wr.heap.size wr W1) => specAlone_calls x ⟨Ad, cd, Aa, ca, some ⟨kb, ko, none⟩, ckk⟩ W1 ok Hwx.out (HS.out.next hb).xb.here)
        have hwa := Aside0.mk (Nat.le_trans (wt_alone x) Hwx.out)
        have HKS := Aside0.mk (fun W1 (hb : Below wr.heap.size wr W1) => (HS.out.next hb).xb.cells)
        simp only at HKS HA
        obtain ⟨k0, k1, k2, k3, k4, k5, k6, k7⟩ := HKS.out _ (Below.refl _ _)
        go_region_law (first
            | (go_simp; go_at_call 51; refine (HA.out _ (below_drew (Below.refl _ _))).mono ?_; rintro e wa ⟨⟨⟨A1, q1, A2, q2, A3, q3⟩, rfl, hsa⟩, hba⟩
               have hbz := below_then (below_drew (Below.refl wr.heap.size wr)) hba
               have e0 := (two_cells (HS.out.next hbz).out).1)
            | (go_simp; go_at_call 50; refine (specHashOf_calls (alone x) ⟨A1, q1, A2, q2, A3, q3⟩ _ _ hwa.out hsa).mono ?_; rintro e wh ⟨rfl, hbh⟩
               rw [← hhash.out]
               have hbz := below_then hbz hbh
               have e0 := (two_cells (HS.out.next hbz).out).1
               have e0a := (two_cells (HS.out.next (below_alloc hbz (.cells #[.int .i64 (hash : Int)] 3))).out).1)
            | (have HAL := Aside0.mk (HS.out.next (below_alloc hbz (.cells #[.int .i64 (hash : Int)] 3)))
               refine step_app_in rfl (.tmp 39) (.tmp 43) 29 rfl base 3 i (.int .i64 0) 1 8 Tryz.underlying29 hi hz0 hz1 Hz2.out rfl (by decide) (.slice Ao j co) own.length (ints own) rfl HAL.out.pm.own ⟨wh.heap.size, 0, none⟩ 1 1 [.int .i64 (hash : Int)] rfl rfl (nat_news wh hash _) (nat_one hash) (by unfold maxLen; have := hL34.out.1; omega) (by have := hL34.out.1; omega) HAL.out.lb ?_
               intro v' w25 hown3 hgrow3 hat3
               obtain ⟨A9, c9, hv9, _⟩ := own_shape hown3
               rw [hL34.out.1] at hv9
               subst hv9
               have HP9 := HAL.out.moved hgrow3 (fun k hk => (HAL.out.pm.own.lt k hk).1)
               have HN9 := Aside0.mk (And.intro (fun Y hY => HAL.out.addOwn (Y := Y) hown3 hgrow3 hat3 hY) (And.intro hat3 hgrow3))
               obtain ⟨g0, _, g1, _⟩ := two_cells HP9.2.2
               clear hown3 hgrow3 hat3 HP9)
            | fail)
        all_goals
          go_wp2_with fail
          go_meet
          exact ⟨A9, c9, HN9.out.1 _ rfl⟩
      case rest =>
      obtain ⟨A', c', p1⟩ := hcut
      obtain ⟨wX, hwX⟩ : ∃ x, x = wc := ⟨_, rfl⟩
      rw [← hwX] at p1 ⊢
      have HX := Aside0.mk p1
      clear hwX p1 c0 c1 c2 c3 c4 c5 c6 c7
      obtain ⟨xs, hxs⟩ : ∃ xs, xs = intsN (sumsN x.kids) := ⟨_, rfl⟩
      have HSU := Aside0.mk (fun W1 (hb : Below wX.heap.size wX W1) => l23SumsO_calls (some ⟨kb, ko, none⟩) ckk x.kids W1 l3 (HX.out.next hb).xb.here.kids (fun k hk s W hs => specSumOf_calls (cnt k) k s W ok (Nat.le_refl _) (ZK.out k hk) hs))
      rw [← hxs] at HSU HL2
      clear hxs
      go_upto_region 10 with fail
      go_cut [] (fun wx => ∃ (B' : Option Addr) (d' : Nat) (v : Value), PS w wx ok base g8 (g8 + 1) (.slice A' (j + 1) c') (.slice B' (j + 1) d') (own ++ [(hash : Int)]) (kids ++ [xs]) (sl ++ [v]) x ⟨Ad, cd, Aa, ca, some ⟨kb, ko, none⟩, ckk⟩)
      case first =>
        obtain ⟨_, e1, _, _⟩ := two_cells HX.out.out
        have HKS := Aside0.mk (fun W1 (hb : Below wX.heap.size wX W1) => (HX.out.next hb).xb.cells.2.2.2.2.2.2.1)
        simp only at HKS
        have k6 := HKS.out _ (Below.refl _ _)
        go_region_law (first
            | (go_simp; go_at_call 52; refine (HSU.out _ (below_drew (Below.refl _ _))).mono ?_; rintro e wa ⟨⟨Av, cv, rfl, hvo⟩, hba⟩
               have hbz := below_then (below_drew (Below.refl wX.heap.size wX)) hba
               have HVO := Aside0.mk hvo
               have e1 := (two_cells (HX.out.next hbz).out).2.1
               have e1a := (two_cells (HX.out.next (below_alloc hbz (.cells #[.slice Av xs.length cv] 29))).out).2.1)
            | (have HAL := Aside0.mk (HX.out.next (below_alloc hbz (.cells #[.slice Av xs.length cv] 29)))
               refine step_app_in rfl (.tmp 47) (.tmp 51) 33 rfl base 29 i' (.slice none 0 0) 1 24 Tryz.underlying33 hi' hz0' hz1' Hz2'.out rfl (by decide) (.slice Bk j ck) sl.length sl rfl HAL.out.pm.mm.outer ⟨wa.heap.size, 0, none⟩ 1 1 [.slice Av xs.length cv] rfl rfl (cell_one_new wa (.slice Av xs.length cv) _) (by intro u hu; rw [List.mem_singleton] at hu; subst hu; rfl) (by unfold maxLen; have := Hsl.out; omega) (by have := Hsl.out; omega) HAL.out.lb ?_
               intro v' w25 hown3 hgrow3 hat3
               obtain ⟨B9, d9, hv9, _⟩ := own_shape hown3
               rw [Hsl.out] at hv9
               subst hv9
               have HP9 := HAL.out.moved hgrow3 (fun k hk => (HAL.out.pm.mm.outer.lt k hk).1)
               have HVW := Aside0.mk (own_below HVO.out (below_alloc (Below.refl wa.heap.size wa) (.cells #[.slice Av xs.length cv] 29)))
               have hvA := own_mono HVW.out HX.out.lb
               have hvD := HX.out.pm.dis HVW.out
               have HN9 := Aside0.mk (fun Y hY => HAL.out.addKid (Y := Y) hvA hvD hown3 hgrow3 hat3 hY)
               obtain ⟨_, g0, _, g1⟩ := two_cells HP9.2.2
               clear hown3 hgrow3 hat3 HP9 hvA hvD)
            | fail)
        all_goals
          go_wp2_with fail
          go_meet
          exact ⟨B9, d9, _, HN9.out _ rfl⟩
      case rest =>
      obtain ⟨B', d', v, p2⟩ := hcut
      obtain ⟨wZ, hwZ⟩ : ∃ x, x = wc := ⟨_, rfl⟩
      rw [← hwZ] at p2 ⊢
      have HY := Aside0.mk p2
      clear hwZ p2
      obtain ⟨_, _, _, _, _, _, c6, _⟩ := HY.out.xb.cells
      simp only at c6
      have BC := bcell HY.out.xb.below
      have hfz := HY.out.xb.frozen
      have d := (HY.out.xb.below.cell (p := ⟨b, o + j, none⟩) hbw).trans D1.out
      obtain ⟨hkb, hkn, e0, e1, e2, e3, e4, e5, e6, e7⟩ := HKID.out
      replace e0 := (BC.1 _ _ hkb).trans e0; replace e1 := (BC.1 _ _ hkb).trans e1; replace e2 := (BC.1 _ _ hkb).trans e2; replace e3 := (BC.1 _ _ hkb).trans e3
      replace e4 := (BC.1 _ _ hkb).trans e4; replace e5 := (BC.1 _ _ hkb).trans e5; replace e6 := (BC.1 _ _ hkb).trans e6; replace e7 := (BC.1 _ _ hkb).trans e7
      have f0 := hfz 0; have f1 := hfz 1; have f2 := hfz 2; have f3 := hfz 3; have f4 := hfz 4; have f5 := hfz 5; have f6 := hfz 6; have f7 := hfz 7
      have Hkn := Aside0.mk hkn
      clear BC hkn hfz
      go_upto_region 11 with fail
      go_region_with (first | fail)
      all_goals
        obtain ⟨Z, hZ⟩ : ∃ Z, Z = wZ.setCells (g8 + 1) 0 (y.cells t2) := ⟨_, rfl⟩
        have HZ := Aside0.mk (HY.out.put Hkn.out hZ)
        have hZ' : Z = ((((((((wZ.setCell ⟨g8 + 1, 0, none⟩ (.int .i64 y.kind)).setCell ⟨g8 + 1, 1, none⟩ (.string y.pre)).setCell ⟨g8 + 1, 2, none⟩ (.string y.loc)).setCell ⟨g8 + 1, 3, none⟩ (.string y.uri)).setCell ⟨g8 + 1, 4, none⟩ (.slice t2.Ad y.decls.length t2.cd)).setCell ⟨g8 + 1, 5, none⟩ (.slice t2.Aa y.attrs.length t2.ca)).setCell ⟨g8 + 1, 6, none⟩ (.slice t2.Ak y.kids.length t2.ck)).setCell ⟨g8 + 1, 7, none⟩ (.string y.text)) := hZ
        rw [← hZ']
        clear hZ hZ' c6 hkb e0 e1 e2 e3 e4 e5 e6 e7 f0 f1 f2 f3 f4 f5 f6 f7 d
        go_wp2_with fail
        go_roundg (gk - 1)
        case measure => omega
        case rel =>
          obtain ⟨L1, L2, hw2, hz2⟩ := HL2.out
          exact ⟨j + 1, y, t2, _, _, _, own ++ [(hash : Int)], kids ++ [xs], by go_num, by omega, HZ.out.next (below_drew (Below.refl _ _)), ⟨z, hz2⟩, ⟨by rw [List.append_assoc]; exact L1, by rw [List.append_assoc]; exact L2, by rw [List.length_append, hL34.out.1]; rfl, by rw [List.length_append, hL34.out.2]; rfl, hw2⟩⟩
    · obtain ⟨L1, L2, L3, L4, L5⟩ := hLX
      rw [List.drop_eq_nil_of_le (by omega), pfOwn, List.append_nil] at L1
      rw [List.drop_eq_nil_of_le (by omega), pfKids, List.append_nil] at L2
      obtain ⟨Ao, co, hvo, _⟩ := own_shape HS.out.pm.own
      obtain ⟨Bk, ck, hvk, _⟩ := own_shape HS.out.pm.mm.outer
      subst hvo hvk
      have hfin := Aside0.mk (show R = some (own, kids) by rw [HR2.out, L1, L2])
      obtain ⟨e0, e1, _, _⟩ := two_cells HS.out.out
      obtain ⟨q0, q1, f0, f1⟩ := two_cells HS.out.res
      clear L1 L2 L3 L4 L5 HL HZ
      go_wp2
      obtain ⟨Y, hY⟩ : ∃ Y, Y = (wr.setCell ⟨w.heap.size + 1, 0, none⟩ (.slice Ao own.length co)).setCell ⟨w.heap.size + 1, 1, none⟩ (.slice Bk sl.length ck) := ⟨_, rfl⟩
      rw [← hY]
      have l8 := HS.out.l8
      have hYb : Below w.heap.size w Y := by rw [hY]; exact below_setNew (below_setNew HS.out.xb.below (by omega)) (by omega)
      have hYp := res_put HS.out.res hY
      have hPM := HS.out.pm.same (w1 := Y) (fun k hk _ => hYp.2 k (by omega))
      obtain ⟨p0, p1, _, _⟩ := two_cells hYp.1
      clear hY e0 e1 q0 q1 f0 f1
      refine bodyPost_ret (v := .tuple #[.agg #[.slice Ao own.length co, .slice Bk sl.length ck], .bool true]) ?hres rfl ⟨base, _, _, sl, by omega, by rw [hfin.out]; rfl, by rw [hfin.out]; exact hPM, hYb⟩
      case hres => simp [results, Tryz.results11, go_sem, p0, p1]
end Go.Proofs.YtpcklgkpjmmakaaGreatDoor
end
