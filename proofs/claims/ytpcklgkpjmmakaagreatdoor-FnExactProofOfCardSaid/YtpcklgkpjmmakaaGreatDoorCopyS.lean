/- The spec's l5Copy, l5All. -/
import Derived.Test.YtpcklgkpjmmakaaGreatDoorCopy
import Derived.Laws.AppendOwnNone
namespace Go.Proofs.YtpcklgkpjmmakaaGreatDoor
open Go.RowKit Go.Lib
set_option linter.unusedVariables false
set_option linter.unusedSimpArgs false
set_option maxHeartbeats 8000000
set_option maxRecDepth 100000
section
variable {P : Program} {α : Type} {n : Nat} {enc : α → List Value} {hn : ∀ x, (enc x).length = n} {w : World} {ok : Nat → Prop}
theorem append_none (t : TypeId) (ty : TypeId) (v : Value) (c : Nat) : Builtin.append_ #[t, t] ty #[v, .slice none 0 c] = Builtin.append_ #[t, t] ty #[v, .slice none 0 0] := rfl
/-- A slice that says xs, in blocks from base on. -/
def IsRow {α : Type} (d : Kd α) (w : World) (base : Nat) (v : Value) (xs : List α) : Prop := ∃ A c, v = .slice A xs.length c ∧ xs.length ≤ c ∧ Row d w (fun k => base ≤ k) A xs
/-- append of a row to an empty slice of the call's own. -/
theorem wpList_append_row {ops : Array Oper} {rest : List Oper} {o : Oper} {a : Act} {Q : Exit → Act → World → Prop} (hgd : o.guard = none) (s x : Operand) (t : TypeId)
    (ho : o.op = .call { callee := .builtin .append, args := #[s, x], argTypes := #[t, t] })
    (base : Nat) (e : TypeId) (i : TypeInfo) (z : Value) (bytes : Nat) (ht : P.underlying t = some (.slice e)) (hi : P.info? e = some i) (hz : i.zero = some z)
    (hsize : i.size = n) (hby : i.bytes = bytes) (hzs : z.cells.size = n) (hsz : 0 < n) (h1 : ∀ x, ∀ u ∈ enc x, u.oneCell' = true)
    (v : Value) (hs : a.eval s = v) (hown : w.ownsRow base e n v 0 []) (hv : ∀ k, v.ownBlock = some k → base ≤ k)
    (A : Option Addr) (c : Nat) (xs : List α) (hx : a.eval x = .slice A xs.length c) (hr : Row (Kd.flat n enc hn) w ok A xs)
    (h63 : xs.length ≤ maxLen) (hbytes : xs.length * bytes ≤ 140737488355328) (hbase : base ≤ w.heap.size)
    (h : ∀ v' w', IsRow (Kd.flat n enc hn) w' base v' xs → Below base w w' → wpList P ops Q rest (a.put o.dst v') w') : wpList P ops Q (o :: rest) a w := by
  cases A with
  | none =>
    have hx0 : xs = [] := by rcases hr.2 with h | ⟨b, o, hA, _⟩; exact h; cases hA
    subst hx0
    refine wpList_plain hgd fun K hK => ?_
    have hrun := run_append_owned_none (P := P) (w := w) base t o.type e i n ht hi v 0 [] hown
    have hx : a.eval x = .slice none 0 c := hx
    unfold Oper.wp
    simp [execOp, ho, resolve, invoke, builtin, hs, hx, append_none, hrun, Result.andThen]
    refine hK _ _ (h v w ?_ (Below.refl _ _))
    obtain ⟨A', c', rfl, hc, hr'⟩ := Own.row (flat_own (enc := enc) (n := n) (hn := hn) (ok := fun k => base ≤ k) (xs := []) hown) (ok' := fun k => base ≤ k) (fun _ h => h) hv
    exact ⟨A', c', rfl, hc, hr'⟩
  | some ad =>
    refine wpList_append_own w hgd s x t ho base e i z n bytes ht hi hz hsize hby hzs hsz v 0 [] hs hown ad xs.length c (xs.flatMap enc) hx (flat_length hn xs) (flat_news hsz hr) (flat_one h1 xs) (by rw [Nat.zero_add]; exact h63) (by rw [Nat.zero_add]; exact hbytes) hbase ?_
    intro v' w' hown' hgrow _
    rw [Nat.zero_add, List.nil_append] at hown'
    have ho' := flat_own (enc := enc) (n := n) (hn := hn) (ok := fun k => base ≤ k) hown'
    refine h v' w' ?_ ((Below.refl base w).grown hgrow hbase hv)
    obtain ⟨A', c', rfl, hc, hr'⟩ := Own.row ho' (ok' := fun k => base ≤ k) (fun _ h => h) (fun k hk => (ho'.base_le k hk).1)
    exact ⟨A', c', rfl, hc, hr'⟩
end
theorem l5All_calls {ok : Nat → Prop} (A : Option Addr) (c : Nat) (xs : List Nd) (w : World) (hl : xs.length ≤ 1048576) (hr : Row Kd.node w ok A xs)
    (ih : ∀ n ∈ xs, ∀ (s : Sh) (W : World), NodeIs W ok n s → Calls Tryz.prog 91 #[.agg #[.int .i64 n.kind, .string n.pre, .string n.loc, .string n.uri, .slice s.Ad n.decls.length s.cd, .slice s.Aa n.attrs.length s.ca, .slice s.Ak n.kids.length s.ck, .string n.text]] W (ToN n W)) :
    Calls Tryz.prog 126 #[.slice A xs.length c] w (NewRow Kd.node w xs) := by
  obtain ⟨i, hi, hz0, hz1, hz2⟩ := info_parts Tryz.info_Node
  have hnz := node_zero
  have Ih := Aside0.mk ih
  clear ih
  have Hz2 := Aside0.mk hz2
  clear hz2
  go_enter Tryz.func126, Tryz.ntmps126
  go_wp2
  go_loopg [3, 4] xs.length (fun k v i wr => ∃ (j : Nat), i = .int .i64 j ∧ j + k = xs.length ∧ Aside (OwnG Kd.node 28 wr w.heap.size v (xs.take j)) ∧ Below w.heap.size w wr)
  case atStart => exact ⟨0, rfl, by omega, OwnG.made _ 0 _ _ _ (Nat.le_refl _), below_alloc (Below.refl _ _) _⟩
  case round =>
    obtain ⟨j, rfl, hk, ha, hb⟩ := hrel
    by_cases hlt : j < xs.length
    · obtain ⟨b, o, s', rfl, hbl, hs', d0, d1, d2, d3, d4, d5, d6, d7⟩ := node_at (hr.below hb) j hlt
      have HI := Aside0.mk (Ih.out _ (List.getElem_mem hlt) s' wr hs')
      obtain ⟨ys, hys⟩ : ∃ ys, ys = xs.take j := ⟨_, rfl⟩
      rw [← hys] at ha
      obtain ⟨cells, hown, hsays⟩ := ha
      have hlen : ys.length ≤ 1048576 := by rw [hys, List.length_take]; omega
      have hys2 := Aside0.mk (show xs.take (j + 1) = ys ++ [xs[j]'hlt] by rw [List.take_succ_eq_append_getElem hlt, hys])
      clear hys
      have hown' := Aside0.mk hown
      have hsays := Aside0.mk hsays
      have hlt3 := hown.lt
      have Hlt3 := Aside0.mk hlt3
      clear hown hlt3 hs'
      go_wp2_with fail
      refine HI.out.mono ?_
      rintro e w1 ⟨⟨s2, rfl, hs2⟩, hb1⟩
      obtain ⟨w2, hw2, hb2, hsz2, hg2⟩ := boxed w1 ((xs[j]'hlt).cells s2).toArray 28
      have hb12 := below_then hb1 hb2
      have hk2 := Aside0.mk (((hs2.below hb2).bound).k)
      have ho2 := Aside0.mk (own_below hown'.out hb12)
      have HW2 := Aside0.mk hw2
      obtain ⟨f0, f1, f2, f3, f4, f5, f6, f7⟩ := box_cells hg2
      clear hs2 hw2 hg2
      have hbase : w.heap.size ≤ w2.heap.size := Nat.le_trans hb.size hb12.size
      go_upto_region 6 with fail
      simp only [Nd.cells] at HW2
      rw [← HW2.out]
      go_wp2_with (at_builtin; refine wpList_append_own_at _ rfl _ _ 26 rfl w.heap.size 28 i _ 8 _ Tryz.underlying26 hi hz0 hz1 rfl hnz (by decide) _ _ _ rfl (ho2.out.alloc _) ⟨w2.heap.size, 0, none⟩ 1 1 ((xs[j]'hlt).cells s2) rfl ?qc1 ?qc2 ?qc3 ?qc4 ?qc5 ?qc6 ?_)
      case qc1 => rfl
      case qc2 => exact node_news w2 _ s2 _
      case qc3 => exact node_one _ s2
      case qc4 => unfold maxLen; omega
      case qc5 => rw [Hz2.out]; omega
      case qc6 => simp; omega
      intro v' w3 hown3 hgrow3 _ hat3
      have HN := Aside0.mk (OwnG.snoc (d := Kd.node) hown'.out hsays.out hb.size hb12 hk2.out hown3 hgrow3 hat3)
      have HB3 := below_grown (below_alloc (below_then hb hb12) _) hgrow3 (fun k hk => (Hlt3.out k hk).1)
      clear hown3 hgrow3 hat3
      go_wp2
      go_roundg (gk - 1)
      case measure => omega
      case rel => exact ⟨j + 1, by go_num, by omega, (by rw [hys2.out]; exact HN.out : OwnG Kd.node 28 _ _ _ (xs.take (j + 1))), HB3⟩
    · have hrow := Aside0.mk (show ∃ A c, u3 = .slice A xs.length c ∧ xs.length ≤ c ∧ Row Kd.node wr (fun k => w.heap.size ≤ k) A xs by
        have := OwnG.row ha
        rwa [List.take_of_length_le (by omega)] at this)
      clear ha
      go_wp2
      go_ret
      obtain ⟨A', c', he, hc, hr'⟩ := hrow.out
      exact ⟨⟨A', c', by rw [he]; rfl, hc, hr'⟩, hb⟩
/-- A store into a block of the call's own. -/
theorem set_at {w X : World} {g j : Nat} {v : Value} {cells : Array Value} {T : TypeId} (hX : X = w.setCell ⟨g, j, none⟩ v) (h : w.heap[g]? = some (.cells cells T (0, 0))) :
    X.heap[g]? = some (.cells (cells.setIfInBounds j v) T (0, 0)) ∧ (∀ k, k ≠ g → X.heap[k]? = w.heap[k]?) ∧ X.heap.size = w.heap.size := by
  subst hX
  exact ⟨heap_setCell_same _ g j _ _ _ h, fun k hk => heap_setCell_other _ _ _ _ (by show k ≠ g; exact hk), by simp [World.setCell]⟩
theorem l5Copy_calls : ∀ (N : Nat) (n : Nd) (s : Sh) (w : World) (ok : Nat → Prop), cnt n ≤ N → wt n ≤ 1048576 → NodeIs w ok n s →
    Calls Tryz.prog 91 #[.agg #[.int .i64 n.kind, .string n.pre, .string n.loc, .string n.uri, .slice s.Ad n.decls.length s.cd, .slice s.Aa n.attrs.length s.ca, .slice s.Ak n.kids.length s.ck, .string n.text]] w (ToN n w) := by
  intro N
  induction N with
  | zero => intro n s w ok h0; rw [cnt_eq] at h0; omega
  | succ N ih =>
  rintro n ⟨Ad, cd, Aa, ca, Ak, ck⟩ w ok hN hwt hn
  obtain ⟨_, _, _, zk, l1, l2, l3⟩ := small hwt
  have IH := Aside0.mk (show ∀ k ∈ n.kids, ∀ (s : Sh) (W : World), NodeIs W ok k s → Calls Tryz.prog 91 #[.agg #[.int .i64 k.kind, .string k.pre, .string k.loc, .string k.uri, .slice s.Ad k.decls.length s.cd, .slice s.Aa k.attrs.length s.ca, .slice s.Ak k.kids.length s.ck, .string k.text]] W (ToN k W) from fun k hk s W a => by
    have hz := zk k hk
    obtain ⟨i, hi, rfl⟩ := List.getElem_of_mem hk
    exact ih _ s W ok (by have := cnt_kid hi; omega) hz a)
  obtain ⟨id, hid, hzd0, hzd1, hzd2⟩ := info_parts Tryz.info_Decl
  obtain ⟨ia, hia, hza0, hza1, hza2⟩ := info_parts Tryz.info_Attr
  have hzd : (.agg #[.string ⟨#[]⟩, .string ⟨#[]⟩] : Value).cells.size = 2 := rfl
  have hza : (.agg #[.string ⟨#[]⟩, .string ⟨#[]⟩, .string ⟨#[]⟩, .string ⟨#[]⟩] : Value).cells.size = 4 := rfl
  obtain ⟨Wa, hWa, HBa, hsza, HGa⟩ := boxed w #[.int .i64 n.kind, .string n.pre, .string n.loc, .string n.uri, .slice Ad n.decls.length cd, .slice Aa n.attrs.length ca, .slice Ak n.kids.length ck, .string n.text] 28
  obtain ⟨Wb, hWb, HBb, hszb, HGb⟩ := boxed Wa #[.int .i64 0, .string ⟨#[]⟩, .string ⟨#[]⟩, .string ⟨#[]⟩, .slice none 0 0, .slice none 0 0, .slice none 0 0, .string ⟨#[]⟩] 28
  obtain ⟨W1, hW1, HBc, hszc, HGc⟩ := boxed Wb #[.int .i64 n.kind, .string n.pre, .string n.loc, .string n.uri, .slice Ad n.decls.length cd, .slice Aa n.attrs.length ca, .slice Ak n.kids.length ck, .string n.text] 28
  have ea : Wa.heap.size = w.heap.size + 1 := by rw [hWa]; exact Array.size_push _
  have eb : Wb.heap.size = w.heap.size + 2 := by rw [hWb, ← show Wa.heap.size + 1 = w.heap.size + 2 by omega]; exact Array.size_push _
  have ec : W1.heap.size = w.heap.size + 3 := by rw [hW1, ← show Wb.heap.size + 1 = w.heap.size + 3 by omega]; exact Array.size_push _
  have HW1 := Aside0.mk (show W1 = ((w.alloc (.cells #[.int .i64 n.kind, .string n.pre, .string n.loc, .string n.uri, .slice Ad n.decls.length cd, .slice Aa n.attrs.length ca, .slice Ak n.kids.length ck, .string n.text] 28)).alloc (.cells #[.int .i64 0, .string ⟨#[]⟩, .string ⟨#[]⟩, .string ⟨#[]⟩, .slice none 0 0, .slice none 0 0, .slice none 0 0, .string ⟨#[]⟩] 28)).alloc (.cells #[.int .i64 n.kind, .string n.pre, .string n.loc, .string n.uri, .slice Ad n.decls.length cd, .slice Aa n.attrs.length ca, .slice Ak n.kids.length ck, .string n.text] 28) by rw [hW1, hWb, hWa])
  have HB := below_then HBa (below_then HBb HBc)
  have G0 : W1.heap[w.heap.size]? = some (.cells #[.int .i64 n.kind, .string n.pre, .string n.loc, .string n.uri, .slice Ad n.decls.length cd, .slice Aa n.attrs.length ca, .slice Ak n.kids.length ck, .string n.text] 28 (0, 0)) := (HBc.block _ (by omega)).trans ((HBb.block _ (by omega)).trans HGa)
  have G1 : W1.heap[w.heap.size + 1]? = some (.cells #[.int .i64 0, .string ⟨#[]⟩, .string ⟨#[]⟩, .string ⟨#[]⟩, .slice none 0 0, .slice none 0 0, .slice none 0 0, .string ⟨#[]⟩] 28 (0, 0)) := by rw [← ea]; exact (HBc.block _ (by omega)).trans HGb
  have G2 : W1.heap[w.heap.size + 2]? = some (.cells #[.int .i64 n.kind, .string n.pre, .string n.loc, .string n.uri, .slice Ad n.decls.length cd, .slice Aa n.attrs.length ca, .slice Ak n.kids.length ck, .string n.text] 28 (0, 0)) := by rw [← eb]; exact HGc
  have rowd : Row Kd.dcl W1 ok Ad n.decls := hn.decls.below HB
  have Hn := Aside0.mk hn
  obtain ⟨_, _, _, _, c4, c5, c6, _⟩ := box_cells G0
  have Hz := Aside0.mk (And.intro hzd2 hza2)
  clear hWa hWb hW1 HBa HBb HBc HGa HGb HGc ea eb hsza hszb hszc hn ih hN hwt zk hzd2 hza2
  have Ec := Aside0.mk ec
  have hg0 : w.heap.size < W1.heap.size := by omega
  have hg1 : w.heap.size + 1 < W1.heap.size := by omega
  have hg2 : w.heap.size + 1 + 1 < W1.heap.size := by omega
  clear ec
  simp only
  go_enter Tryz.func91, Tryz.ntmps91
  go_upto_region 2 with fail
  rw [← HW1.out]
  have o1 := Aside0.mk (World.ownsRow_made (e := 122) (size := 2) W1 #[] 0 (Nat.le_refl _) (Nat.zero_le _) (by simp))
  go_wp2_with (at_builtin; refine wpList_append_row (enc := Dcl.cells) (n := 2) (hn := fun _ => rfl) rfl _ _ 24 rfl W1.heap.size 122 id _ _ Tryz.underlying24 hid hzd0 hzd1 rfl hzd (by decide) dcl_one (.slice (some ⟨W1.heap.size, 0, none⟩) 0 0) rfl o1.out ?qv Ad cd n.decls rfl (rowd.below (below_alloc (Below.refl _ _) _)) ?q63 ?qb ?qs ?_)
  case qv => intro k hk; simp [Value.ownBlock] at hk; omega
  case q63 => unfold maxLen; omega
  case qb => rw [Hz.out.1]; omega
  case qs => simp
  intro v1 w2 hv1 hb2
  obtain ⟨A1, q1, rfl, p1, r1⟩ := hv1
  have hb2 : Below W1.heap.size W1 w2 := (below_alloc (Below.refl _ _) _).trans hb2
  have s2 := hb2.size
  obtain ⟨X1, hX1⟩ : ∃ X1, X1 = w2.setCell ⟨w.heap.size + 1 + 1, 4, none⟩ (.slice A1 n.decls.length q1) := ⟨_, rfl⟩
  have e3 := Ec.out
  obtain ⟨T1, O1, E1⟩ := set_at hX1 ((hb2.block _ (by omega)).trans G2)
  have hc4 : w2.cell? ⟨w.heap.size + 1 + 1, 4, none⟩ = some (.slice Ad n.decls.length cd) := cell_of_row w2 _ 4 _ _ _ ((hb2.block _ (by omega)).trans G2)
  have hf4 := frozen_of_row w2 _ 4 _ _ ((hb2.block (w.heap.size + 1 + 1) (by omega)).trans G2)
  have K0 : X1.heap[w.heap.size]? = some (.cells #[.int .i64 n.kind, .string n.pre, .string n.loc, .string n.uri, .slice Ad n.decls.length cd, .slice Aa n.attrs.length ca, .slice Ak n.kids.length ck, .string n.text] 28 (0, 0)) := (O1 _ (by omega)).trans ((hb2.block _ (by omega)).trans G0)
  have K1 : X1.heap[w.heap.size + 1]? = some (.cells #[.int .i64 0, .string ⟨#[]⟩, .string ⟨#[]⟩, .string ⟨#[]⟩, .slice none 0 0, .slice none 0 0, .slice none 0 0, .string ⟨#[]⟩] 28 (0, 0)) := (O1 _ (by omega)).trans ((hb2.block _ (by omega)).trans G1)
  have R1 : Row Kd.dcl X1 (fun k => w.heap.size + 3 ≤ k) A1 n.decls := (r1.mono (ok' := fun k => w.heap.size + 3 ≤ k) (fun k hk => by omega)).agree (fun k hk _ => O1 k (by omega))
  have B1 : Below w.heap.size w X1 := by rw [hX1]; exact below_setNew (below_then HB (hb2.mono (by omega))) (by omega)
  have sx1 : w.heap.size + 3 ≤ X1.heap.size := by omega
  have HX1 := Aside0.mk hX1
  clear hX1 e3 s2 hb2 r1 E1 O1
  go_upto_region 3 with fail
  rw [← HX1.out]
  clear hc4 hf4 HX1
  -- attrs
  obtain ⟨_, _, _, _, c4, c5, c6, _⟩ := box_cells K0
  have rowa : Row Kd.atr X1 ok Aa n.attrs := Hn.out.attrs.below B1
  have hg0 : w.heap.size < X1.heap.size := by omega
  have hg1 : w.heap.size + 1 < X1.heap.size := by omega
  have hg2 : w.heap.size + 1 + 1 < X1.heap.size := by omega
  have o2 := Aside0.mk (World.ownsRow_made (e := 114) (size := 4) X1 #[] 0 (Nat.le_refl _) (Nat.zero_le _) (by simp))
  go_wp2_with (at_builtin; refine wpList_append_row (enc := Atr.cells) (n := 4) (hn := fun _ => rfl) rfl _ _ 25 rfl X1.heap.size 114 ia _ _ Tryz.underlying25 hia hza0 hza1 rfl hza (by decide) atr_one (.slice (some ⟨X1.heap.size, 0, none⟩) 0 0) rfl o2.out ?rv Aa ca n.attrs rfl (rowa.below (below_alloc (Below.refl _ _) _)) ?r63 ?rb ?rs ?_)
  case rv => intro k hk; simp [Value.ownBlock] at hk; omega
  case r63 => unfold maxLen; omega
  case rb => rw [Hz.out.2]; omega
  case rs => simp
  intro v2 w3 hv2 hb3
  obtain ⟨A2, q2, rfl, p2, r2⟩ := hv2
  have hb3 : Below X1.heap.size X1 w3 := (below_alloc (Below.refl _ _) _).trans hb3
  have s3 := hb3.size
  obtain ⟨X2, hX2⟩ : ∃ X2, X2 = w3.setCell ⟨w.heap.size + 1 + 1, 5, none⟩ (.slice A2 n.attrs.length q2) := ⟨_, rfl⟩
  obtain ⟨T2, O2, E2⟩ := set_at hX2 ((hb3.block _ (by omega)).trans T1)
  have hc4 : w3.cell? ⟨w.heap.size + 1 + 1, 5, none⟩ = some (.slice Aa n.attrs.length ca) := cell_of_row w3 _ 5 _ _ _ ((hb3.block _ (by omega)).trans T1)
  have hf4 := frozen_of_row w3 _ 5 _ _ ((hb3.block (w.heap.size + 1 + 1) (by omega)).trans T1)
  have L0 : X2.heap[w.heap.size]? = some (.cells #[.int .i64 n.kind, .string n.pre, .string n.loc, .string n.uri, .slice Ad n.decls.length cd, .slice Aa n.attrs.length ca, .slice Ak n.kids.length ck, .string n.text] 28 (0, 0)) := (O2 _ (by omega)).trans ((hb3.block _ (by omega)).trans K0)
  have L1 : X2.heap[w.heap.size + 1]? = some (.cells #[.int .i64 0, .string ⟨#[]⟩, .string ⟨#[]⟩, .string ⟨#[]⟩, .slice none 0 0, .slice none 0 0, .slice none 0 0, .string ⟨#[]⟩] 28 (0, 0)) := (O2 _ (by omega)).trans ((hb3.block _ (by omega)).trans K1)
  have R2 : Row Kd.atr X2 (fun k => w.heap.size + 3 ≤ k) A2 n.attrs := (r2.mono (ok' := fun k => w.heap.size + 3 ≤ k) (fun k hk => by omega)).agree (fun k hk _ => O2 k (by omega))
  have R1 : Row Kd.dcl X2 (fun k => w.heap.size + 3 ≤ k) A1 n.decls := (R1.below hb3).agree (fun k hk _ => O2 k (by omega))
  have B2 : Below w.heap.size w X2 := by rw [hX2]; exact below_setNew (below_then B1 hb3) (by omega)
  have sx2 : w.heap.size + 3 ≤ X2.heap.size := by omega
  have HX2 := Aside0.mk hX2
  clear hX2 s3 hb3 r2 E2 O2 K0 K1 T1 sx1 rowa
  go_upto_region 4 with fail
  rw [← HX2.out]
  clear hc4 hf4 HX2 c4 c5 c6
  -- kids
  obtain ⟨_, _, _, _, c4, c5, c6, _⟩ := box_cells L0
  have rowk : Row Kd.node X2 ok Ak n.kids := Hn.out.kids.below B2
  go_wp2_with fail
  refine (l5All_calls Ak ck n.kids X2 l3 rowk IH.out).mono ?_
  rintro e w4 ⟨⟨A3, q3, rfl, p3, r3⟩, hb4⟩
  have s4 := hb4.size
  obtain ⟨X3, hX3⟩ : ∃ X3, X3 = w4.setCell ⟨w.heap.size + 1 + 1, 6, none⟩ (.slice A3 n.kids.length q3) := ⟨_, rfl⟩
  obtain ⟨T3, O3, E3⟩ := set_at hX3 ((hb4.block _ (by omega)).trans T2)
  have hc4 : w4.cell? ⟨w.heap.size + 1 + 1, 6, none⟩ = some (.slice Ak n.kids.length ck) := cell_of_row w4 _ 6 _ _ _ ((hb4.block _ (by omega)).trans T2)
  have hf4 := frozen_of_row w4 _ 6 _ _ ((hb4.block (w.heap.size + 1 + 1) (by omega)).trans T2)
  have M1 : X3.heap[w.heap.size + 1]? = some (.cells #[.int .i64 0, .string ⟨#[]⟩, .string ⟨#[]⟩, .string ⟨#[]⟩, .slice none 0 0, .slice none 0 0, .slice none 0 0, .string ⟨#[]⟩] 28 (0, 0)) := (O3 _ (by omega)).trans ((hb4.block _ (by omega)).trans L1)
  have M2 : X3.heap[w.heap.size + 1 + 1]? = some (.cells #[.int .i64 n.kind, .string n.pre, .string n.loc, .string n.uri, .slice A1 n.decls.length q1, .slice A2 n.attrs.length q2, .slice A3 n.kids.length q3, .string n.text] 28 (0, 0)) := T3
  have D3 : Row Kd.node X3 (fun k => w.heap.size + 2 ≤ k) A3 n.kids := (r3.mono (ok' := fun k => w.heap.size + 3 ≤ k) (fun k hk => by omega)).agree (w1 := X3) (fun k hk _ => O3 k (by omega)) |>.mono (fun k hk => by omega)
  have D2 : Row Kd.atr X3 (fun k => w.heap.size + 2 ≤ k) A2 n.attrs := ((R2.below hb4).agree (w1 := X3) (fun k hk _ => O3 k (by omega))).mono (fun k hk => by omega)
  have D1 : Row Kd.dcl X3 (fun k => w.heap.size + 2 ≤ k) A1 n.decls := ((R1.below hb4).agree (w1 := X3) (fun k hk _ => O3 k (by omega))).mono (fun k hk => by omega)
  have B3 : Below w.heap.size w X3 := by rw [hX3]; exact below_setNew (below_then B2 hb4) (by omega)
  have HX3 := Aside0.mk hX3
  obtain ⟨HBf, hWfx, hNd⟩ := copy_end B3 M1 p1 D1 p2 D2 p3 D3 _ rfl
  have Hf := Aside0.mk (And.intro HBf (And.intro hWfx hNd))
  clear hX3 s4 hb4 r3 E3 O3 L0 L1 T2 T3 rowk HBf hWfx hNd D1 D2 D3 B3
  go_upto_region 5 with fail
  rw [← HX3.out]
  clear hc4 hf4 HX3 c4 c5 c6
  obtain ⟨a0, a1, a2, a3, a4, a5, a6, a7⟩ := box_cells M2
  obtain ⟨y0, y1, y2, y3, y4, y5, y6, y7⟩ := box_cells M1
  have g0 := frozen_of_row X3 _ 0 _ _ M1
  have g1 := frozen_of_row X3 _ 1 _ _ M1
  have g2 := frozen_of_row X3 _ 2 _ _ M1
  have g3 := frozen_of_row X3 _ 3 _ _ M1
  have g4 := frozen_of_row X3 _ 4 _ _ M1
  have g5 := frozen_of_row X3 _ 5 _ _ M1
  have g6 := frozen_of_row X3 _ 6 _ _ M1
  have g7 := frozen_of_row X3 _ 7 _ _ M1
  clear M1 M2 R1 R2 B1 B2 HB
  go_wp2
  obtain ⟨HBf, hWfx, hNd⟩ := Hf.out
  generalize hWf : X3.setCells (w.heap.size + 1) 0 (n.cells ⟨A1, q1, A2, q2, A3, q3⟩) = Wf at HBf hWfx hNd
  have hch : ((((((((X3.setCell ⟨w.heap.size + 1, 0, none⟩ (.int .i64 n.kind)).setCell ⟨w.heap.size + 1, 1, none⟩ (.string n.pre)).setCell ⟨w.heap.size + 1, 2, none⟩ (.string n.loc)).setCell ⟨w.heap.size + 1, 3, none⟩ (.string n.uri)).setCell ⟨w.heap.size + 1, 4, none⟩ (.slice A1 n.decls.length q1)).setCell ⟨w.heap.size + 1, 5, none⟩ (.slice A2 n.attrs.length q2)).setCell ⟨w.heap.size + 1, 6, none⟩ (.slice A3 n.kids.length q3)).setCell ⟨w.heap.size + 1, 7, none⟩ (.string n.text)) = Wf := by rw [← hWf]; rfl
  rw [hch]
  obtain ⟨b0, b1, b2, b3, b4, b5, b6, b7⟩ := box_cells hWfx
  clear hWf hch hWfx a0 a1 a2 a3 a4 a5 a6 a7 y0 y1 y2 y3 y4 y5 y6 y7 g0 g1 g2 g3 g4 g5 g6 g7
  refine bodyPost_ret (v := .agg #[.int .i64 n.kind, .string n.pre, .string n.loc, .string n.uri, .slice A1 n.decls.length q1, .slice A2 n.attrs.length q2, .slice A3 n.kids.length q3, .string n.text]) ?hres rfl ⟨⟨⟨A1, q1, A2, q2, A3, q3⟩, rfl, hNd⟩, HBf⟩
  case hres => simp [results, Tryz.results91, go_sem, b0, b1, b2, b3, b4, b5, b6, b7]
end Go.Proofs.YtpcklgkpjmmakaaGreatDoor
