/- SumOf, of both. -/
import Derived.Test.YtpcklgkpjmmakaaGreatDoorAlS
import Derived.Deep.RegionWith
import Derived.RegionTactic
namespace Go.Proofs.YtpcklgkpjmmakaaGreatDoor
open Go.RowKit Go.Lib
set_option linter.unusedVariables false
set_option linter.unusedSimpArgs false
set_option maxHeartbeats 8000000
set_option maxRecDepth 100000
theorem sums_lt (l : List Nd) : ∀ x ∈ sumsN l, x < 4294967296 := by
  intro x hx
  rw [sumsN_map] at hx
  obtain ⟨n, _, rfl⟩ := List.mem_map.1 hx
  exact sumN_lt n
theorem specSumOf_calls : ∀ (N : Nat) (n : Nd) (s : Sh) (w : World) (ok : Nat → Prop), cnt n ≤ N → wt n ≤ 1048576 → NodeIs w ok n s →
    Calls Tryz.prog 19 #[.agg #[.int .i64 n.kind, .string n.pre, .string n.loc, .string n.uri, .slice s.Ad n.decls.length s.cd, .slice s.Aa n.attrs.length s.ca, .slice s.Ak n.kids.length s.ck, .string n.text]] w fun e w' => e = .returned (.int .i64 (sumN n)) ∧ Below w.heap.size w w' := by
  intro N
  induction N with
  | zero => intro n s w ok h0; rw [cnt_eq] at h0; omega
  | succ N ih =>
  rintro n ⟨Ad, cd, Aa, ca, Ak, ck⟩ w ok hN hwt hn
  have hv := Aside0.mk (sumN_eq n)
  obtain ⟨_, _, _, zk, l1, l2, l3⟩ := small hwt
  have IH := Aside0.mk (show ∀ k ∈ n.kids, ∀ (s : Sh) (W : World), NodeIs W ok k s → Calls Tryz.prog 19 #[.agg #[.int .i64 k.kind, .string k.pre, .string k.loc, .string k.uri, .slice s.Ad k.decls.length s.cd, .slice s.Aa k.attrs.length s.ca, .slice s.Ak k.kids.length s.ck, .string k.text]] W (fun e w' => e = .returned (.int .i64 (sumN k)) ∧ Below W.heap.size W w') from fun k hk s W a => by
    have hz := zk k hk
    obtain ⟨i, hi, rfl⟩ := List.getElem_of_mem hk
    exact ih _ s W ok (by have := cnt_kid hi; omega) hz a)
  obtain ⟨W, hW, HB, hsz, HG⟩ := boxed w #[.int .i64 n.kind, .string n.pre, .string n.loc, .string n.uri, .slice Ad n.decls.length cd, .slice Aa n.attrs.length ca, .slice Ak n.kids.length ck, .string n.text] 28
  have HA := Aside0.mk (specAlone_calls n ⟨Ad, cd, Aa, ca, Ak, ck⟩ W ok hwt (hn.below HB))
  have Hk := Aside0.mk (hn.kids.below HB)
  have hwa := Aside0.mk (Nat.le_trans (wt_alone n) hwt)
  have K := Aside0.mk (fun W1 hb => box_cells (((hb : Below W.heap.size W W1).block _ hsz).trans HG))
  have HW := Aside0.mk hW
  simp only at HA Hk ⊢
  clear hW HG hn ih hN hwt zk
  go_enter Tryz.func19, Tryz.ntmps19
  go_upto_region 1 with fail
  rw [← HW.out]
  obtain ⟨a0, a1, a2, a3, a4, a5, a6, a7⟩ := K.out _ (Below.refl _ _)
  go_wp2_with fail
  refine HA.out.mono ?_
  rintro e w1 ⟨⟨⟨A1, q1, A2, q2, A3, q3⟩, rfl, hs1⟩, hb1⟩
  clear a0 a1 a2 a3 a4 a5 a6 a7
  obtain ⟨W2, hW2, HB2, hsz2, HG2⟩ := boxed w1 #[.int .i64 (alone n).kind, .string (alone n).pre, .string (alone n).loc, .string (alone n).uri, .slice A1 (alone n).decls.length q1, .slice A2 (alone n).attrs.length q2, .slice A3 (alone n).kids.length q3, .string (alone n).text] 28
  have hb12 := below_then hb1 HB2
  have hnd := (hs1.below HB2).below (below_drew (Below.refl _ _))
  have rowk : Row Kd.node W2.drew ok Ak n.kids := (Hk.out.below hb12).below (below_drew (Below.refl _ _))
  have KA := Aside0.mk (fun W1 hb => box_cells (((hb : Below W2.heap.size W2 W1).block _ hsz2).trans HG2))
  have hbz : Below W2.heap.size W2 W2.drew := below_drew (Below.refl _ _)
  have HW2 := Aside0.mk hW2
  have HBB := Aside0.mk (And.intro HB hb12)
  obtain ⟨c0, c1, c2, c3, c4, c5, c6, c7⟩ := KA.out _ (Below.refl _ _)
  obtain ⟨_, _, _, _, _, _, d6, _⟩ := K.out _ hb12
  clear hW2 HG2 HB2 hsz2 hb1 HA hs1
  simp only
  go_upto_region 2 with fail
  rw [← HW2.out]
  go_region_with (first
    | (go_at_call 50; refine (specHashOf_calls (alone n) ⟨A1, q1, A2, q2, A3, q3⟩ _ _ hwa.out hnd).mono ?_; rintro e wh ⟨rfl, hbh⟩
       have hbz := below_then hbz hbh
       have rowk := rowk.below hbh
       have d6 := (K.out _ (below_then HBB.out.2 hbz)).2.2.2.2.2.2.1)
    | (go_at_call 52; refine (l23Sums_calls Ak ck n.kids _ l3 rowk IH.out).mono ?_; rintro e ws ⟨⟨A4, q4, rfl, p4, r4⟩, hbs⟩
       have hbz := below_then hbz hbs)
    | (go_at_call 14; refine (specFold_calls (hashB (wNode (alone n))) A4 q4 (sumsN n.kids) _ (hashB_lt _) (sums_lt _) r4).mono ?_; rintro e wf ⟨rfl, rfl⟩))
  all_goals
    go_wp2
    go_ret
    exact ⟨by rw [hv.out]; rfl, below_then HBB.out.1 (below_then HBB.out.2 hbz)⟩
theorem implSumOf_calls : ∀ (N : Nat) (n : Nd) (s : Sh) (w : World) (ok : Nat → Prop), cnt n ≤ N → wt n ≤ 1048576 → NodeIs w ok n s → Env w → Folds w →
    Calls Tryz.prog 18 #[.agg #[.int .i64 n.kind, .string n.pre, .string n.loc, .string n.uri, .slice s.Ad n.decls.length s.cd, .slice s.Aa n.attrs.length s.ca, .slice s.Ak n.kids.length s.ck, .string n.text]] w fun e w' => e = .returned (.int .i64 (sumN n)) ∧ Below w.heap.size w w' := by
  intro N
  induction N with
  | zero => intro n s w ok h0; rw [cnt_eq] at h0; omega
  | succ N ih =>
  rintro n ⟨Ad, cd, Aa, ca, Ak, ck⟩ w ok hN hwt hn hE hF
  have hv := Aside0.mk (sumN_eq n)
  obtain ⟨_, _, _, zk, l1, l2, l3⟩ := small hwt
  have Ih := Aside0.mk (show ∀ k ∈ n.kids, ∀ (s : Sh) (W : World), NodeIs W ok k s → Env W → Folds W → Calls Tryz.prog 18 #[.agg #[.int .i64 k.kind, .string k.pre, .string k.loc, .string k.uri, .slice s.Ad k.decls.length s.cd, .slice s.Aa k.attrs.length s.ca, .slice s.Ak k.kids.length s.ck, .string k.text]] W (fun e w' => e = .returned (.int .i64 (sumN k)) ∧ Below W.heap.size W w') from fun k hk s W a => by
    have hz := zk k hk
    obtain ⟨i, hi, rfl⟩ := List.getElem_of_mem hk
    exact ih _ s W ok (by have := cnt_kid hi; omega) hz a)
  obtain ⟨i, hi, hz0, hz1, hz2⟩ := info_parts Tryz.info_int
  obtain ⟨W, hW, HB, hsz, HG⟩ := boxed w #[.int .i64 n.kind, .string n.pre, .string n.loc, .string n.uri, .slice Ad n.decls.length cd, .slice Aa n.attrs.length ca, .slice Ak n.kids.length ck, .string n.text] 28
  have HA := Aside0.mk (fun W1 (hb : Below W.heap.size W W1) => implAlone_calls n ⟨Ad, cd, Aa, ca, Ak, ck⟩ W1 ok hwt (hn.below (below_then HB hb)))
  have hr : Row Kd.node W ok Ak n.kids := hn.kids.below HB
  have hwa := Aside0.mk (Nat.le_trans (wt_alone n) hwt)
  have K := Aside0.mk (fun W1 hb => box_cells (((hb : Below W.heap.size W W1).block _ hsz).trans HG))
  have HW := Aside0.mk hW
  have HE := Aside0.mk (hE.below HB)
  have HF := Aside0.mk (hF.below HB)
  have hsl := Aside0.mk (sums_length n.kids)
  have hmax := hr.max
  simp only at HA hr ⊢
  have Hz2 := Aside0.mk hz2
  clear hz2
  clear hW HG hn ih hN hwt zk hE hF
  go_enter Tryz.func18, Tryz.ntmps18
  go_upto_region 1 with fail
  rw [← HW.out]
  obtain ⟨a0, a1, a2, a3, a4, a5, a6, a7⟩ := K.out _ (Below.refl _ _)
  go_wp2
  go_loopg [3, 10] n.kids.length (fun k v i wr => ∃ (j : Nat), i = .int .i64 j ∧ j + k = n.kids.length ∧ Aside (OwnG Kd.nat 3 wr W.heap.size v ((sumsN n.kids).take j)) ∧ Below W.heap.size W wr)
  case atStart => exact ⟨0, rfl, by omega, OwnG.made _ 0 _ _ _ (Nat.le_refl _), below_alloc (Below.refl _ _) _⟩
  case round =>
    clear a0 a1 a2 a3 a4 a5 a6 a7
    obtain ⟨j, rfl, hk, ha, hb⟩ := hrel
    by_cases hlt : j < n.kids.length
    · obtain ⟨b, o, s', rfl, hbl, hs', d0, d1, d2, d3, d4, d5, d6, d7⟩ := node_at (hr.below hb) j hlt
      have HI := Aside0.mk (fun W1 (hW : Below wr.heap.size wr W1) => Ih.out _ (List.getElem_mem hlt) s' W1 (hs'.below hW) (HE.out.below (below_then hb hW)) (HF.out.below (below_then hb hW)))
      obtain ⟨ys, hys⟩ : ∃ ys, ys = (sumsN n.kids).take j := ⟨_, rfl⟩
      rw [← hys] at ha
      obtain ⟨cells, hown, hsays⟩ := ha
      have hlen : ys.length ≤ 1048576 := by rw [hys, List.length_take]; omega
      have hys2 := Aside0.mk (show (sumsN n.kids).take (j + 1) = ys ++ [sumN (n.kids[j]'hlt)] by rw [sums_take _ _ hlt, hys])
      clear hys
      have hown' := Aside0.mk hown
      have hsays := Aside0.mk hsays
      have hlt3 := hown.lt
      have Hlt3 := Aside0.mk hlt3
      clear hown hlt3 hs'
      go_wp2_with fail
      refine (HI.out _ (below_alloc (Below.refl _ _) _)).mono ?_
      rintro e w2 ⟨rfl, hb2⟩
      have hb2 := below_then (below_alloc (Below.refl wr.heap.size wr) _) hb2
      obtain ⟨x, hx⟩ : ∃ x : Nat, x = sumN (n.kids[j]'hlt) := ⟨_, rfl⟩
      rw [← hx] at hys2 ⊢
      clear hx
      have ho2 := Aside0.mk (own_below hown'.out hb2)
      have hbase : W.heap.size ≤ w2.heap.size := Nat.le_trans hb.size hb2.size
      go_wp2_with (at_builtin; refine wpList_append_own_at _ rfl _ _ 29 rfl W.heap.size 3 i _ 1 _ Tryz.underlying29 hi hz0 hz1 rfl rfl (by decide) _ _ _ rfl (ho2.out.alloc _) ⟨w2.heap.size, 0, none⟩ 1 1 [.int .i64 (x : Int)] rfl ?qc1 ?qc2 ?qc3 ?qc4 ?qc5 ?qc6 ?_)
      case qc1 => rfl
      case qc2 => exact nat_news w2 x _
      case qc3 => exact nat_one x
      case qc4 => unfold maxLen; omega
      case qc5 => rw [Hz2.out]; omega
      case qc6 => simp; omega
      intro v' w3 hown3 hgrow3 _ hat3
      have HN := Aside0.mk (OwnG.snoc (d := Kd.nat) (x := x) hown'.out hsays.out hb.size hb2 rfl hown3 hgrow3 hat3)
      have HB3 := below_grown (below_alloc (below_then hb hb2) _) hgrow3 (fun k hk => (Hlt3.out k hk).1)
      clear hown3 hgrow3 hat3
      go_wp2
      go_roundg (gk - 1)
      case measure => omega
      case rel => exact ⟨j + 1, by go_num, by omega, (by rw [hys2.out]; exact HN.out : OwnG Kd.nat 3 _ _ _ ((sumsN n.kids).take (j + 1))), HB3⟩
    · have hrow : ∃ A c, u3 = .slice A (sumsN n.kids).length c ∧ (sumsN n.kids).length ≤ c ∧ Row Kd.nat wr (fun k => W.heap.size ≤ k) A (sumsN n.kids) := by
        have := OwnG.row ha
        rwa [List.take_of_length_le (by rw [hsl.out]; omega)] at this
      obtain ⟨A4, q4, he, hc4, hr4⟩ := hrow
      subst he
      clear ha
      obtain ⟨a0, a1, a2, a3, a4, a5, a6, a7⟩ := K.out _ hb
      go_wp2_with fail
      refine (HA.out _ hb).mono ?_
      rintro e w1 ⟨⟨⟨A1, q1, A2, q2, A3, q3⟩, rfl, hs1⟩, hb1⟩
      have hb01 := below_then hb hb1
      simp only
      go_wp2_with fail
      refine (implHashOf_calls (alone n) ⟨A1, q1, A2, q2, A3, q3⟩ w1 _ hwa.out hs1 (HE.out.below hb01) (HF.out.below hb01)).mono ?_
      rintro e w5 ⟨rfl, hb5⟩
      go_wp2_with fail
      refine (implFold_calls (hashB (wNode (alone n))) A4 q4 (sumsN n.kids) w5 (hashB_lt _) (sums_lt _) ((hr4.below hb1).below hb5)).mono ?_
      rintro e w6 ⟨rfl, rfl⟩
      go_wp2
      go_ret
      exact ⟨by rw [hv.out]; rfl, below_then HB (below_then hb01 hb5)⟩
end Go.Proofs.YtpcklgkpjmmakaaGreatDoor
